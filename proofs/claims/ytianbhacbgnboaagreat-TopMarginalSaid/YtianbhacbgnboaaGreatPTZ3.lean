/- A part of the proof: the framework, the plain functions, the followed functions, the plain laws. -/
import Derived.Test.YtianbhacbgnboaaGreatPTZ2
set_option linter.unusedVariables false
set_option linter.unusedSimpArgs false
set_option linter.unusedSectionVars false
set_option maxHeartbeats 4000000
namespace Go.Proofs.YtianbhacbgnboaaGreat
section
open Go.Fw Go.RowKit
abbrev aaW:List (Value×Value):=[(.int .u8 43,.agg #[.func (.func 99) #[] #[]]),(.int .u8 45,.agg #[.func (.func 101) #[] #[]]),(.int .u8 42,.agg #[.func (.func 103) #[] #[]]),(.int .u8 47,.agg #[.func (.func 104) #[] #[]])]
theorem mG:Pure ah 45 [] (Z4 aaW):=by
 refine aZ Tryz.func45 Y λE w vs a=>?_;refine sr<|afz<|dn<|aT<|afk (af Y) Y Y Y (λS' a=>?_);exact aR.n<|aY<|f1 (m:=()) Y (ht:=a)
theorem BZ{I:Zr}{H:Zr}{K:Zr}{D:Zr}{r:Zr×Zr}(h:lN I H K D=some r):Pure ah 99 [.agg (eZ I),.agg (eZ H),.agg (eZ K),.agg (eZ D)] (.lK [.agg (eZ r.1),.agg (eZ r.2)]):=by
 obtain⟨c,b⟩:=I;obtain⟨c,b⟩:=H;obtain⟨b,c⟩:=K;obtain⟨b,c⟩:=D;refine aZ Tryz.func99 Y λE w vs b=>?_;unfold lN at h;exact sr<|acj Y<|acj Y<|acj Y<|acj Y<|aM (cs:=[ay false,au]) (by exact⟨aq,aA,an⟩)<|aM (cs:=[ay false,au]) (by exact⟨aq,aA,an⟩)<|dn<|sd mixed<|aK Y Y (.k2 Y Y)<|aK Y Y (.k2 Y Y)<|aE h (λ_=>gF) λ⟨c,b⟩ h=>aK Y Y (.k2 Y Y)<|aK Y Y (.k2 Y Y)<|aE h (λ_=>gF) λ⟨c,b⟩ h=>aE h (λ_=>PD) λ⟨d,e⟩ h=>aK Y Y (.k2 Y Y)<|aK Y Y (.k2 Y Y)<|aE h (λ_=>gF) λ⟨c,b⟩ h=>aJ Y Y Y<|aJ Y Y Y<|dd<|aY<|fP h [.agg (eZ ⟨d,e⟩),.agg (eZ ⟨c,b⟩)] (by exact⟨.a Y Y (.k2 Y Y) Y,.a Y Y (.k2 Y Y) Y,an⟩)
theorem B0{I:Zr}{H:Zr}{K:Zr}{D:Zr}{r:Zr×Zr}(h:lO I H K D=some r):Pure ah 101 [.agg (eZ I),.agg (eZ H),.agg (eZ K),.agg (eZ D)] (.lK [.agg (eZ r.1),.agg (eZ r.2)]):=by
 obtain⟨c,b⟩:=I;obtain⟨c,b⟩:=H;obtain⟨b,c⟩:=K;obtain⟨b,c⟩:=D;refine aZ Tryz.func101 Y λE w vs b=>?_;unfold lO at h;exact sr<|acj Y<|acj Y<|acj Y<|acj Y<|aM (cs:=[ay false,au]) (by exact⟨aq,aA,an⟩)<|aM (cs:=[ay false,au]) (by exact⟨aq,aA,an⟩)<|dn<|sd mixed<|aK Y Y (.k2 Y Y)<|aK Y Y (.k2 Y Y)<|aE h (λ_=>gF) λ⟨c,b⟩ h=>aK Y Y (.k2 Y Y)<|aK Y Y (.k2 Y Y)<|aE h (λ_=>gF) λ⟨c,b⟩ h=>aE h (λ_=>PE) λ⟨d,e⟩ h=>aK Y Y (.k2 Y Y)<|aK Y Y (.k2 Y Y)<|aE h (λ_=>gF) λ⟨c,b⟩ h=>aJ Y Y Y<|aJ Y Y Y<|dd<|aY<|fP h [.agg (eZ ⟨d,e⟩),.agg (eZ ⟨c,b⟩)] (by exact⟨.a Y Y (.k2 Y Y) Y,.a Y Y (.k2 Y Y) Y,an⟩)
theorem B1{I:Zr}{H:Zr}{K:Zr}{D:Zr}{r:Zr×Zr}(h:lQ I H K D=some r):Pure ah 103 [.agg (eZ I),.agg (eZ H),.agg (eZ K),.agg (eZ D)] (.lK [.agg (eZ r.1),.agg (eZ r.2)]):=by
 obtain⟨c,b⟩:=I;obtain⟨c,b⟩:=H;obtain⟨b,c⟩:=K;obtain⟨b,c⟩:=D;refine aZ Tryz.func103 Y λE w vs b=>?_;unfold lQ at h;exact sr<|acj Y<|acj Y<|acj Y<|acj Y<|aM (cs:=[ay false,au]) (by exact⟨aq,aA,an⟩)<|aM (cs:=[ay false,au]) (by exact⟨aq,aA,an⟩)<|dn<|sd mixed<|aK Y Y (.k2 Y Y)<|aK Y Y (.k2 Y Y)<|aE h (λ_=>gF) λ⟨d,b⟩ h=>aK Y Y (.k2 Y Y)<|aK Y Y (.k2 Y Y)<|aE h (λ_=>gF) λ⟨e,c⟩ h=>aJ Y Y Y<|aJ Y Y Y<|dd<|aY<|fP h [.agg (eZ ⟨d,b⟩),.agg (eZ ⟨e,c⟩)] (by exact⟨.a Y Y (.k2 Y Y) Y,.a Y Y (.k2 Y Y) Y,an⟩)
theorem B2{I:Zr}{H:Zr}{K:Zr}{D:Zr}{r:Zr×Zr}(h:lR I H K D=some r):Pure ah 104 [.agg (eZ I),.agg (eZ H),.agg (eZ K),.agg (eZ D)] (.lK [.agg (eZ r.1),.agg (eZ r.2)]):=by
 obtain⟨c,b⟩:=I;obtain⟨c,b⟩:=H;obtain⟨b,c⟩:=K;obtain⟨b,c⟩:=D;refine aZ Tryz.func104 Y λE w vs b=>?_;unfold lR at h;exact sr<|acj Y<|acj Y<|acj Y<|acj Y<|aM (cs:=[ay false,au]) (by exact⟨aq,aA,an⟩)<|aM (cs:=[ay false,au]) (by exact⟨aq,aA,an⟩)<|dn<|sd mixed<|aK Y Y (.k2 Y Y)<|aK Y Y (.k2 Y Y)<|aE h (λ_=>gF) λ⟨d,b⟩ h=>aK Y Y (.k2 Y Y)<|aK Y Y (.k2 Y Y)<|aE h (λ_=>gF) λ⟨e,c⟩ h=>aJ Y Y Y<|aJ Y Y Y<|dd<|aY<|fP h [.agg (eZ ⟨d,b⟩),.agg (eZ ⟨e,c⟩)] (by exact⟨.a Y Y (.k2 Y Y) Y,.a Y Y (.k2 Y Y) Y,an⟩)
theorem fM{D:Qr}{r:Zr×Zr}(h:dY D=some r):Pure ah 21 [.agg (eQ D)] (.lK [.agg (eZ r.1),.agg (eZ r.2)]):=by
 obtain⟨⟨e,d⟩,⟨f,b⟩⟩:=D;refine aZ Tryz.func21 Y λE w vs c=>?_;unfold dY at h;refine sr<|acj Y<|aM (cs:=[ay false,au]) (by exact⟨aq,aA,an⟩)<|aM (cs:=[ay false,au]) (by exact⟨aq,aA,an⟩)<|dn<|aT<|sr<|aG Y Y<|aK Y Y (.k2 Y Y)<|aE h (λ_=>jh) λc h=>dn<|aV<|sr<|aeH h λc h=>aC Y<|dn<|?_;cases c
 ·refine cF h λh=>sr<|aeH h λc h=>aC Y<|dn<|?_;cases c
  ·exact cF h λh=>aX<|bn.n<|aR.n<|sd mixed<|aG Y Y<|aK Y Y (.k2 Y Y)<|aG Y Y<|aK Y Y (.k2 Y Y)<|aJ Y Y Y<|aJ Y Y Y<|dd<|aY<|fP h [.agg (eZ ⟨e,d⟩),.agg (eZ ⟨f,b⟩)] (by exact⟨.a Y Y (.k2 Y Y) Y,.a Y Y (.k2 Y Y) Y,an⟩)
  exact cT h λh=>sd mixed<|aG Y Y<|aK Y Y (.k2 Y Y)<|aE h (λ_=>rM) λ⟨f,g⟩ h=>aG Y Y<|aK Y Y (.k2 Y Y)<|aE h (λ_=>rM) λ⟨c,b⟩ h=>aJ Y Y Y<|aJ Y Y Y<|dd<|aY<|bn.r<|aR.r<|fP h [.agg (eZ ⟨f,g⟩),.agg (eZ ⟨c,b⟩)] (by exact⟨.a Y Y (.k2 Y Y) Y,.a Y Y (.k2 Y Y) Y,an⟩)
 exact cT h λh=>sd mixed<|aG Y Y<|aK Y Y (.k2 Y Y)<|aE h (λ_=>eK) λ⟨c,b⟩ h=>aJ Y Y Y<|aJ Y Y Y<|dd<|aY<|bn.r<|aR.r<|fP h [.agg (eZ ⟨e,d⟩),.agg (eZ ⟨c,b⟩)] (by exact⟨.a Y Y (.k2 Y Y) Y,.a Y Y (.k2 Y Y) Y,an⟩)
theorem l7{H:Zr}{D:Zr}{r:Qr}(h:ig H D=some r):Pure ah 44 [.agg (eZ H),.agg (eZ D)] (.agg (eQ r)):=by
 obtain⟨d,c⟩:=H;obtain⟨g,f⟩:=D;refine aZ Tryz.func44 Y λE w vs b=>?_;unfold ig at h;refine sr<|acj Y<|acj Y<|aM (cs:=[ay false,au,ay false,au]) (by exact⟨aq,aA,aq,aA,an⟩)<|dn<|aT<|sr<|aK Y Y (.k2 Y Y)<|aE h (λ_=>jh) λb h=>aL h λe h=>dn<|?_;refine bB h (λb=>AS.bM 46 [(2,.ptr 2 0),(3,.ptr 3 0),(4,.ptr 4 0)] [(4,.box 40 [aj false,.sv au,aj false,.sv au]),(3,.box 38 [aj b.1,aoh 1 bf b.2.1]),(2,.box 38 [aj b.2.2.1,aoh 1 bf b.2.2.2])]) (λh=>?_) (λb h=>?_)
 ·cases e
  ·exact cF h λh=>aX<|aR.n ⟨(g,f,d,c),h,wk []⟩
  exact cT h λh=>bz mixed<|aK Y Y (.k2 Y Y)<|aE h (λ_=>rM) λ⟨e,c⟩ h=>aK Y Y (.k2 Y Y)<|aE h (λ_=>rM) λ⟨d,f⟩ h=>aJ Y Y Y<|aJ Y Y Y<|de<|aR.n ⟨(d,f,e,c),h,wk []⟩
 obtain⟨d,c,e,f⟩:=b
 try dsimp only
 refine aR.n<|sr<|aK Y Y (.k2 Y Y)<|aK Y Y (.k2 Y Y)<|aE h (λ_=>PG) λ⟨b,c⟩ h=>aM (cs:=[ay false,au]) (by exact⟨aq,aA,an⟩)<|aJ Y Y Y<|dn<|sr<|aK Y Y (.k2 Y Y)<|aK Y Y (.k2 Y Y)<|aE h (λ_=>uK) λ⟨⟨c,d⟩,⟨f,b⟩,e⟩ h=>aB Y<|aP Y Y<|aP Y Y<|aP Y Y<|aJ Y Y Y<|dn<|sr<|aK Y Y (.k2 Y Y)<|aK Y Y (.k2 Y Y)<|aE h (λ_=>uK) λ⟨⟨i,g⟩,⟨f,b⟩,e⟩ h=>aB Y<|aP Y Y<|aP Y Y<|aP Y Y<|aJ Y Y Y<|dn<|aT<|sr<|aK Y Y (.k2 Y Y)<|aE h (λ_=>jo) λ⟨b,f⟩ h=>aB Y<|aP Y Y<|aP Y Y<|aC Y<|aC Y<|dn<|aT<|?_;refine bB h (λb=>AS.bM 46 [(2,.ptr 2 0),(3,.ptr 3 0),(4,.ptr 4 0),(41,aj b)] [(4,.box 40 [aj false,.sv au,aj false,.sv au]),(3,.box 38 [aj i,aoh 1 bf g]),(2,.box 38 [aj c,aoh 1 bf d])]) (λh=>?_) (λe h=>?_)
 ·refine aU<|aB Y<|aB Y<|bq h λj b h=>?_;cases f
  ·replace b:=ct b;cases b;exact aD<|aD<|abE Y<|aF<|aR.n ⟨false,h,wk []⟩
  replace b:=cn b;refine aB Y<|aeH b λf b=>?_;obtain rfl:=aob b;exact aax Y<|aF<|aR.n ⟨f,h,wk []⟩
 refine aR.n<|?_;refine bB h (λb=>AS.bM 46 [(2,.ptr 2 0),(3,.ptr 3 0),(4,.ptr 4 0)] [(4,.box 40 [aj false,.sv au,aj false,.sv au]),(3,.box 38 [aj b.1,aoh 1 bf b.2]),(2,.box 38 [aj c,aoh 1 bf d])]) (λh=>?_) (λb h=>?_)
 ·cases e
  ·exact cF h λh=>aX<|aR.n ⟨(i,g),h,wk []⟩
  exact cT h λh=>aU<|aez (cs':=[ay false,au]) (.nil) (by exact⟨aq,aA,an⟩)<|aJ Y Y Y<|aF<|aR.n ⟨(false,[]),h,wk []⟩
 obtain⟨f,e⟩:=b
 try dsimp only
 exact aR.n<|sr<|aK Y Y (.k2 Y Y)<|aK Y Y (.k2 Y Y)<|aez (cs':=[ay c,aoc 1 bf d,ay f,aoc 1 bf e]) (.agg Y (.agg Y (.nil))) (by exact⟨aq,aq,aq,aq,an⟩)<|aJ Y Y Y<|dn<|aY<|fP h [.agg (eQ ⟨⟨c,d⟩,⟨f,e⟩⟩)] (by exact⟨.a Y Y (.k4 Y Y Y Y) Y,an⟩)
theorem jk{D:Qr}{r:Int×Int×Bool}(h:fS D=some r):Pure ah 17 [.agg (eQ D)] (.lK [ax r.1,ax r.2.1,ay r.2.2]):=by
 obtain⟨⟨c,a⟩,⟨d,b⟩⟩:=D;refine aZ Tryz.func17 Y λE w vs a=>?_;unfold fS at h;refine sr<|acj Y<|aC Y<|aC Y<|aC Y<|dn<|sr<|aG Y Y<|aK Y Y (.k2 Y Y)<|aE h (λ_=>jo) λ⟨f,a⟩ h=>aB Y<|aP Y Y<|aP Y Y<|aC Y<|aC Y<|dn<|sr<|aG Y Y<|aK Y Y (.k2 Y Y)<|aE h (λ_=>jo) λ⟨g,a⟩ h=>aB Y<|aP Y Y<|aP Y Y<|aC Y<|aC Y<|dn<|aT<|aT<|?_;refine bB h (λa=>AS.bM 53 [(2,ai f),(3,ai g),(40,aj a)] []) (λh=>?_) (λk h=>?_)
 ·refine aU<|aB Y<|agy h λc h=>aB Y<|bq h λa b h=>?_;cases c
  ·replace b:=ct b;refine aB Y<|agy b λc b=>?_;obtain rfl:=aob b;refine abE Y<|aB Y<|bq h λd a h=>?_;cases c
   ·replace a:=ct a;refine aB Y<|agS a λe a=>?_;obtain rfl:=aob a;refine abE Y<|aB Y<|bq h λc d h=>?_;cases e
    ·replace d:=ct d;refine aB Y<|afy d λc d=>?_;obtain rfl:=aob d;refine abE Y<|aB Y<|bq h λi e h=>?_;cases c
     ·replace e:=ct e;refine aB Y<|agS e λi e=>?_;obtain rfl:=aob e;refine abE Y<|aB Y<|bq h λj c h=>?_;cases i
      ·replace c:=ct c;refine aB Y<|afy c λi c=>?_;obtain rfl:=aob c;exact abE Y<|aF<|aR.n ⟨i,h,wk []⟩
      replace c:=cn c;cases c;exact aD<|aD<|aax Y<|aF<|aR.n ⟨true,h,wk []⟩
     replace e:=cn e;obtain rfl:=aob e;refine aD<|aD<|aax Y<|aB Y<|bq h λe c h=>?_;replace c:=cn c;cases c;exact aD<|aD<|aax Y<|aF<|aR.n ⟨true,h,wk []⟩
    replace d:=cn d;obtain rfl:=aob d;refine aD<|aD<|aax Y<|aB Y<|bq h λd c h=>?_;replace c:=cn c;obtain rfl:=aob c;refine aD<|aD<|aax Y<|aB Y<|bq h λd c h=>?_;replace c:=cn c;cases c;exact aD<|aD<|aax Y<|aF<|aR.n ⟨true,h,wk []⟩
   replace a:=cn a;obtain rfl:=aob a;refine aD<|aD<|aax Y<|aB Y<|bq h λc a h=>?_;replace a:=cn a;obtain rfl:=aob a;refine aD<|aD<|aax Y<|aB Y<|bq h λc a h=>?_;replace a:=cn a;obtain rfl:=aob a;refine aD<|aD<|aax Y<|aB Y<|bq h λc a h=>?_;replace a:=cn a;cases a;exact aD<|aD<|aax Y<|aF<|aR.n ⟨true,h,wk []⟩
  replace b:=cn b;obtain rfl:=aob b;refine aD<|aD<|aax Y<|aB Y<|bq h λb a h=>?_;replace a:=cn a;obtain rfl:=aob a;refine aD<|aD<|aax Y<|aB Y<|bq h λb a h=>?_;replace a:=cn a;obtain rfl:=aob a;refine aD<|aD<|aax Y<|aB Y<|bq h λb a h=>?_;replace a:=cn a;obtain rfl:=aob a;refine aD<|aD<|aax Y<|aB Y<|bq h λb a h=>?_;replace a:=cn a;cases a;exact aD<|aD<|aax Y<|aF<|aR.n ⟨true,h,wk []⟩
 refine aR.n<|?_;cases k
 ·refine cF h λh=>aX<|aR.n<|aT<|aV<|sr<|aB Y<|aeH h λa h=>aC Y<|dn<|?_;refine bB h (λb=>AS.bM 53 [(2,ai b.1),(3,ai b.2)] []) (λh=>?_) (λb h=>?_)
  ·cases a
   ·refine cF h λh=>sr<|aB Y<|aL h λc h=>aC Y<|dn<|?_;refine bB h (λa=>AS.bM 53 [(2,ai a.1),(3,ai a.2)] []) (λh=>?_) (λa h=>?_)
    ·cases c
     ·exact cF h λh=>aX<|aR.n ⟨(f,g),h,wk []⟩
     exact cT h λh=>aU<|aB Y<|ahy h λd h=>aB Y<|ahy h λc h=>aC Y<|aC Y<|aF<|aR.n ⟨(d,c),h,wk []⟩
    obtain⟨c,d⟩:=a
    try dsimp only
    exact aR.n ⟨(c,d),h,wk []⟩
   exact cT h λh=>aU<|aC Y<|aF<|aR.n ⟨(f,1),h,wk []⟩
  obtain⟨a,c⟩:=b
  try dsimp only
  exact bn.n<|aR.n<|sr<|aB Y<|aB Y<|aC Y<|aC Y<|aC Y<|dn<|aY<|f3 h
 exact cT h λh=>sr<|aC Y<|aC Y<|aC Y<|dn<|aY<|aR.r<|f3 h
theorem pS{H:Int}{D:Int}{r:Qr}(h:jR H D=some r):Pure ah 18 [ax H,ax D] (.agg (eQ r)):=by
 refine aZ Tryz.func18 Y λE w vs b=>?_;unfold jR at h;refine sr<|aM (cs:=[ay false,au,ay false,au]) (by exact⟨aq,aA,aq,aA,an⟩)<|dn<|sr<|aB Y<|aB Y<|aC Y<|aC Y<|dn<|aT<|bq h λd e b=>?_;refine bp (λ(c:Int)=>AS.bM 36 [(0,ai H),(1,ai D),(4,.ptr 4 0),(5,ai c)] [(4,.box 40 [aj false,.sv au,aj false,.sv au])]) (λc=>c=d) (aV<|br e (λd=>AS.bM 36 [(0,ai H),(1,ai D),(4,.ptr 4 0),(5,ai d.1),(6,ai d.2)] [(4,.box 40 [aj false,.sv au,aj false,.sv au])]) (wk []) (λd e i h g f=>?_)) (λc i=>?_)
 ·obtain⟨e,j⟩:=d
  try dsimp only
  refine aT<|sr<|aB Y<|aeA h λd h=>dn<|?_;cases d
  ·refine cF h λh=>bt<|aR.x<|aR.x<|bn.x<|?_;obtain rfl:=aob h;exact aR.n ⟨e,f _ Y,wk []⟩
  refine cT h λh=>aX<|aR.n<|aV<|bz mixed<|aB Y<|aB Y<|aB Y<|anh h λd h=>aC Y<|aC Y<|de<|bn.n<|?_;obtain rfl:=aob h;exact aR.n ⟨(j,d),g _ Y,wk []⟩
 subst i;refine aR.n<|aT<|sr<|aB Y<|aL b λe b=>dn<|?_;refine bB b (λd=>AS.bM 36 [(0,ai H),(1,ai D),(4,.ptr 4 0),(5,ai d)] [(4,.box 40 [aj false,.sv au,aj false,.sv au])]) (λb=>?_) (λd b=>?_)
 ·cases e
  ·exact cF b λb=>aX<|aR.n ⟨c,b,wk []⟩
  exact cT b λb=>aU<|aB Y<|ahy b λc b=>aC Y<|aF<|aR.n ⟨c,b,wk []⟩
 refine aR.n<|aT<|sr<|aB Y<|aB Y<|aeH b λc b=>dn<|?_;cases c
 ·exact cF b λb=>aX<|aR.n<|sd mixed<|aB Y<|aB Y<|amy b λc b=>aE b (λ_=>eK) λ⟨e,f⟩ b=>aB Y<|aB Y<|amy b λc b=>aE b (λ_=>eK) λ⟨c,d⟩ b=>aez (cs':=[ay e,aoc 1 bf f,ay c,aoc 1 bf d]) (.agg Y (.agg Y (.nil))) (by exact⟨aq,aq,aq,aq,an⟩)<|aJ Y Y Y<|dd<|aY<|fP b [.agg (eQ ⟨⟨e,f⟩,⟨c,d⟩⟩)] (by exact⟨.a Y Y (.k4 Y Y Y Y) Y,an⟩)
 exact cT b λb=>sr<|aB Y<|aB Y<|amy b λc b=>aE b (λ_=>eK) λ⟨d,c⟩ b=>aez (cs':=[ay d,aoc 1 bf c,ay false,au]) (.agg Y (.nil)) (by exact⟨aq,aq,aq,aA,an⟩)<|aJ Y Y Y<|dn<|aY<|aR.r<|fP b [.agg (eQ ⟨⟨d,c⟩,⟨false,[]⟩⟩)] (by exact⟨.a Y Y (.k4 Y Y Y Y) Y,an⟩)
theorem PR{D:Int}{r:Int}(h:xE D=some r):Pure ah 23 [ax D] (ax r):=by
 refine aZ Tryz.func23 Y λE w vs a=>?_;unfold xE at h;refine sr<|aC Y<|dn<|aT<|aV<|sr<|aB Y<|aL h λa h=>aC Y<|dn<|?_;cases a
 ·refine cF h λh=>sr<|aB Y<|aeG h λa h=>aC Y<|dn<|?_;cases a
  ·exact cF h λh=>aX<|bn.n<|aR.n<|sr<|aC Y<|dn<|aY<|f1 h
  exact cT h λh=>sr<|aC Y<|dn<|aY<|bn.r<|aR.r<|f1 h
 exact cT h λh=>sr<|aC Y<|dn<|aY<|bn.r<|aR.r<|f1 h
set_option maxRecDepth 8000 in
theorem Jd{D:Qr}{H:Qr}{r:Qr}(h:oC D H=some r):Pure ah 19 [.v (.int .u8 ((43:Nat):Int)),.agg (eQ D),.agg (eQ H)] (.agg (eQ r)):=by
 obtain⟨⟨e,d⟩,⟨c,b⟩⟩:=D;obtain⟨⟨b,d⟩,⟨c,e⟩⟩:=H;refine aZ Tryz.func19 Y λE w vs b=>?_;unfold oC at h;exact sr<|acj Y<|acj Y<|aM (cs:=[ay false,au,ay false,au]) (by exact⟨aq,aA,aq,aA,an⟩)<|dn<|sr<|aK Y Y (.k4 Y Y Y Y)<|aE h (λ_=>fM) λ⟨⟨b,e⟩,⟨d,c⟩⟩ h=>aB Y<|aP Y Y<|aP Y Y<|aM (cs:=[ay false,au]) (by exact⟨aq,aA,an⟩)<|aM (cs:=[ay false,au]) (by exact⟨aq,aA,an⟩)<|aJ Y Y Y<|aJ Y Y Y<|dn<|sr<|aK Y Y (.k4 Y Y Y Y)<|aE h (λ_=>fM) λ⟨⟨b,e⟩,⟨c,d⟩⟩ h=>aB Y<|aP Y Y<|aP Y Y<|aM (cs:=[ay false,au]) (by exact⟨aq,aA,an⟩)<|aM (cs:=[ay false,au]) (by exact⟨aq,aA,an⟩)<|aJ Y Y Y<|aJ Y Y Y<|dn<|sd mixed<|ahq mG<|aB Y<|akF [.func (.func 99) #[] #[]] Y<|ajg Y Y<|aK Y Y (.k2 Y Y)<|aK Y Y (.k2 Y Y)<|aK Y Y (.k2 Y Y)<|aK Y Y (.k2 Y Y)<|aE h (λ_=>BZ) λ⟨⟨c,d⟩,⟨e,b⟩⟩ h=>aP Y Y<|aP Y Y<|aE h (λ_=>l7) λ⟨⟨d,b⟩,⟨c,e⟩⟩ h=>aJ Y Y Y<|dd<|aY<|fP h [.agg (eQ ⟨⟨d,b⟩,⟨c,e⟩⟩)] (by exact⟨.a Y Y (.k4 Y Y Y Y) Y,an⟩)
set_option maxRecDepth 8000 in
theorem Je{D:Qr}{H:Qr}{r:Qr}(h:oD D H=some r):Pure ah 19 [.v (.int .u8 ((45:Nat):Int)),.agg (eQ D),.agg (eQ H)] (.agg (eQ r)):=by
 obtain⟨⟨e,d⟩,⟨c,b⟩⟩:=D;obtain⟨⟨b,d⟩,⟨c,e⟩⟩:=H;refine aZ Tryz.func19 Y λE w vs b=>?_;unfold oD at h;exact sr<|acj Y<|acj Y<|aM (cs:=[ay false,au,ay false,au]) (by exact⟨aq,aA,aq,aA,an⟩)<|dn<|sr<|aK Y Y (.k4 Y Y Y Y)<|aE h (λ_=>fM) λ⟨⟨b,e⟩,⟨d,c⟩⟩ h=>aB Y<|aP Y Y<|aP Y Y<|aM (cs:=[ay false,au]) (by exact⟨aq,aA,an⟩)<|aM (cs:=[ay false,au]) (by exact⟨aq,aA,an⟩)<|aJ Y Y Y<|aJ Y Y Y<|dn<|sr<|aK Y Y (.k4 Y Y Y Y)<|aE h (λ_=>fM) λ⟨⟨b,e⟩,⟨c,d⟩⟩ h=>aB Y<|aP Y Y<|aP Y Y<|aM (cs:=[ay false,au]) (by exact⟨aq,aA,an⟩)<|aM (cs:=[ay false,au]) (by exact⟨aq,aA,an⟩)<|aJ Y Y Y<|aJ Y Y Y<|dn<|sd mixed<|ahq mG<|aB Y<|akF [.func (.func 101) #[] #[]] Y<|ajg Y Y<|aK Y Y (.k2 Y Y)<|aK Y Y (.k2 Y Y)<|aK Y Y (.k2 Y Y)<|aK Y Y (.k2 Y Y)<|aE h (λ_=>B0) λ⟨⟨c,d⟩,⟨e,b⟩⟩ h=>aP Y Y<|aP Y Y<|aE h (λ_=>l7) λ⟨⟨d,b⟩,⟨c,e⟩⟩ h=>aJ Y Y Y<|dd<|aY<|fP h [.agg (eQ ⟨⟨d,b⟩,⟨c,e⟩⟩)] (by exact⟨.a Y Y (.k4 Y Y Y Y) Y,an⟩)
set_option maxRecDepth 8000 in
theorem Jf{D:Qr}{H:Qr}{r:Qr}(h:oF D H=some r):Pure ah 19 [.v (.int .u8 ((42:Nat):Int)),.agg (eQ D),.agg (eQ H)] (.agg (eQ r)):=by
 obtain⟨⟨e,d⟩,⟨c,b⟩⟩:=D;obtain⟨⟨b,d⟩,⟨c,e⟩⟩:=H;refine aZ Tryz.func19 Y λE w vs b=>?_;unfold oF at h;exact sr<|acj Y<|acj Y<|aM (cs:=[ay false,au,ay false,au]) (by exact⟨aq,aA,aq,aA,an⟩)<|dn<|sr<|aK Y Y (.k4 Y Y Y Y)<|aE h (λ_=>fM) λ⟨⟨b,e⟩,⟨d,c⟩⟩ h=>aB Y<|aP Y Y<|aP Y Y<|aM (cs:=[ay false,au]) (by exact⟨aq,aA,an⟩)<|aM (cs:=[ay false,au]) (by exact⟨aq,aA,an⟩)<|aJ Y Y Y<|aJ Y Y Y<|dn<|sr<|aK Y Y (.k4 Y Y Y Y)<|aE h (λ_=>fM) λ⟨⟨b,e⟩,⟨c,d⟩⟩ h=>aB Y<|aP Y Y<|aP Y Y<|aM (cs:=[ay false,au]) (by exact⟨aq,aA,an⟩)<|aM (cs:=[ay false,au]) (by exact⟨aq,aA,an⟩)<|aJ Y Y Y<|aJ Y Y Y<|dn<|sd mixed<|ahq mG<|aB Y<|akF [.func (.func 103) #[] #[]] Y<|ajg Y Y<|aK Y Y (.k2 Y Y)<|aK Y Y (.k2 Y Y)<|aK Y Y (.k2 Y Y)<|aK Y Y (.k2 Y Y)<|aE h (λ_=>B1) λ⟨⟨c,d⟩,⟨e,b⟩⟩ h=>aP Y Y<|aP Y Y<|aE h (λ_=>l7) λ⟨⟨d,b⟩,⟨c,e⟩⟩ h=>aJ Y Y Y<|dd<|aY<|fP h [.agg (eQ ⟨⟨d,b⟩,⟨c,e⟩⟩)] (by exact⟨.a Y Y (.k4 Y Y Y Y) Y,an⟩)
set_option maxRecDepth 8000 in
theorem Jg{D:Qr}{H:Qr}{r:Qr}(h:oG D H=some r):Pure ah 19 [.v (.int .u8 ((47:Nat):Int)),.agg (eQ D),.agg (eQ H)] (.agg (eQ r)):=by
 obtain⟨⟨e,d⟩,⟨c,b⟩⟩:=D;obtain⟨⟨b,d⟩,⟨c,e⟩⟩:=H;refine aZ Tryz.func19 Y λE w vs b=>?_;unfold oG at h;exact sr<|acj Y<|acj Y<|aM (cs:=[ay false,au,ay false,au]) (by exact⟨aq,aA,aq,aA,an⟩)<|dn<|sr<|aK Y Y (.k4 Y Y Y Y)<|aE h (λ_=>fM) λ⟨⟨b,e⟩,⟨d,c⟩⟩ h=>aB Y<|aP Y Y<|aP Y Y<|aM (cs:=[ay false,au]) (by exact⟨aq,aA,an⟩)<|aM (cs:=[ay false,au]) (by exact⟨aq,aA,an⟩)<|aJ Y Y Y<|aJ Y Y Y<|dn<|sr<|aK Y Y (.k4 Y Y Y Y)<|aE h (λ_=>fM) λ⟨⟨b,e⟩,⟨c,d⟩⟩ h=>aB Y<|aP Y Y<|aP Y Y<|aM (cs:=[ay false,au]) (by exact⟨aq,aA,an⟩)<|aM (cs:=[ay false,au]) (by exact⟨aq,aA,an⟩)<|aJ Y Y Y<|aJ Y Y Y<|dn<|sd mixed<|ahq mG<|aB Y<|akF [.func (.func 104) #[] #[]] Y<|ajg Y Y<|aK Y Y (.k2 Y Y)<|aK Y Y (.k2 Y Y)<|aK Y Y (.k2 Y Y)<|aK Y Y (.k2 Y Y)<|aE h (λ_=>B2) λ⟨⟨c,d⟩,⟨e,b⟩⟩ h=>aP Y Y<|aP Y Y<|aE h (λ_=>l7) λ⟨⟨d,b⟩,⟨c,e⟩⟩ h=>aJ Y Y Y<|dd<|aY<|fP h [.agg (eQ ⟨⟨d,b⟩,⟨c,e⟩⟩)] (by exact⟨.a Y Y (.k4 Y Y Y Y) Y,an⟩)
end
section
open Go.Fw Go.RowKit
theorem Sr{D:Int}{H:Int}{r:Qr×Int}(h:v7 D H=some r):Pure ah 188 [ax D,ax H] (.lK [.agg (eQ r.1),ax r.2]):=by
 refine aZ Tryz.func188 Y λE w vs b=>?_;unfold v7 at h;refine sr<|aM (cs:=[ay false,au,ay false,au]) (by exact⟨aq,aA,aq,aA,an⟩)<|aC Y<|dn<|aT<|sr<|aB Y<|aeH h λb h=>dn<|?_;cases b
 ·exact cF h λh=>aX<|aR.n<|sr<|aB Y<|aE h (λ_=>eK) λ⟨b,c⟩ h=>aB Y<|aE h (λ_=>eK) λ⟨b,c⟩ h=>aE h (λ_=>l7) λ⟨⟨b,c⟩,⟨e,d⟩⟩ h=>aJ Y Y Y<|aC Y<|dn<|aY<|fP h [.agg (eQ ⟨⟨b,c⟩,⟨e,d⟩⟩),ax 0] (by exact⟨.a Y Y (.k4 Y Y Y Y) Y,.t Y,an⟩)
 exact cT h λh=>sr<|aez (cs':=[ay false,au,ay false,au]) (.nil) (by exact⟨aq,aA,aq,aA,an⟩)<|aJ Y Y Y<|aC Y<|dn<|aY<|aR.r<|fP h [.agg (eQ ⟨⟨false,[]⟩,⟨false,[]⟩⟩),ax 7] (by exact⟨.a Y Y (.k4 Y Y Y Y) Y,.t Y,an⟩)
theorem bQ{D:Int}{r:Qr}(h:bK D=some r):Pure ah 8 [ax D] (.agg (eQ r)):=by
 refine aZ Tryz.func8 Y λE w vs b=>?_;unfold bK at h;exact sr<|aM (cs:=[ay false,au,ay false,au]) (by exact⟨aq,aA,aq,aA,an⟩)<|dn<|sr<|aB Y<|aE h (λ_=>eK) λ⟨b,c⟩ h=>aez (cs':=[ay b,aoc 1 bf c,ay false,au]) (.agg Y (.nil)) (by exact⟨aq,aq,aq,aA,an⟩)<|aJ Y Y Y<|dn<|aY<|fP h [.agg (eQ ⟨⟨b,c⟩,⟨false,[]⟩⟩)] (by exact⟨.a Y Y (.k4 Y Y Y Y) Y,an⟩)
theorem c9{D:Qr}{r:Qr}(h:cA D=some r):Pure ah 85 [.agg (eQ D)] (.agg (eQ r)):=by
 obtain⟨⟨d,b⟩,⟨e,c⟩⟩:=D;refine aZ Tryz.func85 Y λE w vs b=>?_;unfold cA at h;refine sr<|acj Y<|aM (cs:=[ay false,au,ay false,au]) (by exact⟨aq,aA,aq,aA,an⟩)<|dn<|aT<|sr<|aK Y Y (.k4 Y Y Y Y)<|aE h (λ_=>jk) λ⟨c,d,b⟩ h=>aB Y<|aP Y Y<|aP Y Y<|aP Y Y<|aC Y<|aC Y<|aC Y<|dn<|sr<|aB Y<|dn<|?_;cases b
 ·exact cF h λh=>aX<|aR.n<|sr<|aK Y Y (.k4 Y Y Y Y)<|aE h (λ_=>fM) λ⟨⟨c,e⟩,⟨b,d⟩⟩ h=>aP Y Y<|aP Y Y<|aE h (λ_=>l7) λ⟨⟨e,c⟩,⟨b,d⟩⟩ h=>aJ Y Y Y<|dn<|aY<|fP h [.agg (eQ ⟨⟨e,c⟩,⟨b,d⟩⟩)] (by exact⟨.a Y Y (.k4 Y Y Y Y) Y,an⟩)
 exact cT h λh=>sr<|aB Y<|aB Y<|aE h (λ_=>pS) λ⟨⟨d,c⟩,⟨b,e⟩⟩ h=>aJ Y Y Y<|dn<|aY<|aR.r<|fP h [.agg (eQ ⟨⟨d,c⟩,⟨b,e⟩⟩)] (by exact⟨.a Y Y (.k4 Y Y Y Y) Y,an⟩)
theorem cS{D:Qr}{r:Int}(h:cv D=some r):Pure ah 94 [.agg (eQ D)] (ax r):=by
 obtain⟨⟨d,b⟩,⟨a,c⟩⟩:=D;refine aZ Tryz.func94 Y λE w vs a=>?_;unfold cv at h;refine sr<|acj Y<|aC Y<|dn<|aT<|sr<|aG Y Y<|aK Y Y (.k2 Y Y)<|aE h (λ_=>jh) λa h=>aL h λa h=>dn<|?_;cases a
 ·exact cF h λh=>aX<|aR.n<|sr<|aG Y Y<|aK Y Y (.k2 Y Y)<|aE h (λ_=>jh) λa h=>aC Y<|dn<|aY<|f1 h
 exact cT h λh=>sr<|aG Y Y<|aK Y Y (.k2 Y Y)<|aE h (λ_=>jh) λa h=>ahy h λa h=>aC Y<|dn<|aY<|aR.r<|f1 h
theorem jX{H:Qr}{D:Qr}{r:Qr}(h:ff H D=some r):Pure ah 95 [.agg (eQ H),.agg (eQ D)] (.agg (eQ r)):=by
 obtain⟨⟨j,c⟩,⟨k,e⟩⟩:=H;obtain⟨⟨s,q⟩,⟨i,b⟩⟩:=D;refine aZ Tryz.func95 Y λE w vs d=>?_;unfold ff at h;refine sr<|acj Y<|acj Y<|aM (cs:=[ay false,au,ay false,au]) (by exact⟨aq,aA,aq,aA,an⟩)<|dn<|sr<|aK Y Y (.k4 Y Y Y Y)<|aE h (λ_=>jk) λ⟨m,d,p⟩ h=>aB Y<|aP Y Y<|aP Y Y<|aP Y Y<|aC Y<|aC Y<|aC Y<|dn<|sr<|aK Y Y (.k4 Y Y Y Y)<|aE h (λ_=>jk) λ⟨g,f,l⟩ h=>aB Y<|aP Y Y<|aP Y Y<|aP Y Y<|aC Y<|aC Y<|aC Y<|dn<|aT<|aT<|?_;refine bB h (λo=>AS.bM 41 [(2,.ptr 2 0),(3,.ptr 3 0),(4,.ptr 4 0),(5,ai m),(6,ai d),(8,ai g),(9,ai f),(26,aj o)] [(4,.box 40 [aj false,.sv au,aj false,.sv au]),(3,.box 40 [aj s,aoh 1 bf q,aj i,aoh 1 bf b]),(2,.box 40 [aj j,aoh 1 bf c,aj k,aoh 1 bf e])]) (λh=>?_) (λc h=>?_)
 ·refine aU<|aB Y<|aB Y<|bq h λd b h=>?_;cases p
  ·replace b:=ct b;cases b;exact aD<|abE Y<|aF<|aR.n ⟨false,h,wk []⟩
  replace b:=cn b;refine aB Y<|?_;obtain rfl:=aob b;exact aax Y<|aF<|aR.n ⟨l,h,wk []⟩
 refine aR.n<|?_;cases c
 ·exact cF h λh=>aX<|aR.n<|sr<|aK Y Y (.k4 Y Y Y Y)<|aK Y Y (.k4 Y Y Y Y)<|aE h (λ_=>Jd) λ⟨⟨d,b⟩,⟨e,c⟩⟩ h=>aJ Y Y Y<|dn<|aY<|fP h [.agg (eQ ⟨⟨d,b⟩,⟨e,c⟩⟩)] (by exact⟨.a Y Y (.k4 Y Y Y Y) Y,an⟩)
 exact cT h λh=>sr<|aB Y<|aB Y<|ahm h λb h=>aB Y<|aB Y<|ahm h λb h=>aO h λb h=>aB Y<|aB Y<|ahm h λb h=>aE h (λ_=>pS) λ⟨⟨c,d⟩,⟨b,e⟩⟩ h=>aJ Y Y Y<|dn<|aY<|aR.r<|fP h [.agg (eQ ⟨⟨c,d⟩,⟨b,e⟩⟩)] (by exact⟨.a Y Y (.k4 Y Y Y Y) Y,an⟩)
theorem iH{H:Qr}{D:Qr}{r:Qr}(h:fj H D=some r):Pure ah 9 [.agg (eQ H),.agg (eQ D)] (.agg (eQ r)):=by
 obtain⟨⟨j,c⟩,⟨k,e⟩⟩:=H;obtain⟨⟨s,q⟩,⟨i,b⟩⟩:=D;refine aZ Tryz.func9 Y λE w vs d=>?_;unfold fj at h;refine sr<|acj Y<|acj Y<|aM (cs:=[ay false,au,ay false,au]) (by exact⟨aq,aA,aq,aA,an⟩)<|dn<|sr<|aK Y Y (.k4 Y Y Y Y)<|aE h (λ_=>jk) λ⟨m,d,p⟩ h=>aB Y<|aP Y Y<|aP Y Y<|aP Y Y<|aC Y<|aC Y<|aC Y<|dn<|sr<|aK Y Y (.k4 Y Y Y Y)<|aE h (λ_=>jk) λ⟨g,f,l⟩ h=>aB Y<|aP Y Y<|aP Y Y<|aP Y Y<|aC Y<|aC Y<|aC Y<|dn<|aT<|aT<|?_;refine bB h (λo=>AS.bM 41 [(2,.ptr 2 0),(3,.ptr 3 0),(4,.ptr 4 0),(5,ai m),(6,ai d),(8,ai g),(9,ai f),(26,aj o)] [(4,.box 40 [aj false,.sv au,aj false,.sv au]),(3,.box 40 [aj s,aoh 1 bf q,aj i,aoh 1 bf b]),(2,.box 40 [aj j,aoh 1 bf c,aj k,aoh 1 bf e])]) (λh=>?_) (λc h=>?_)
 ·refine aU<|aB Y<|aB Y<|bq h λd b h=>?_;cases p
  ·replace b:=ct b;cases b;exact aD<|abE Y<|aF<|aR.n ⟨false,h,wk []⟩
  replace b:=cn b;refine aB Y<|?_;obtain rfl:=aob b;exact aax Y<|aF<|aR.n ⟨l,h,wk []⟩
 refine aR.n<|?_;cases c
 ·exact cF h λh=>aX<|aR.n<|sr<|aK Y Y (.k4 Y Y Y Y)<|aK Y Y (.k4 Y Y Y Y)<|aE h (λ_=>Je) λ⟨⟨d,b⟩,⟨e,c⟩⟩ h=>aJ Y Y Y<|dn<|aY<|fP h [.agg (eQ ⟨⟨d,b⟩,⟨e,c⟩⟩)] (by exact⟨.a Y Y (.k4 Y Y Y Y) Y,an⟩)
 exact cT h λh=>sr<|aB Y<|aB Y<|ahm h λb h=>aB Y<|aB Y<|ahm h λb h=>aeK h λb h=>aB Y<|aB Y<|ahm h λb h=>aE h (λ_=>pS) λ⟨⟨c,d⟩,⟨b,e⟩⟩ h=>aJ Y Y Y<|dn<|aY<|aR.r<|fP h [.agg (eQ ⟨⟨c,d⟩,⟨b,e⟩⟩)] (by exact⟨.a Y Y (.k4 Y Y Y Y) Y,an⟩)
theorem gO{H:Qr}{D:Qr}{r:Qr}(h:ei H D=some r):Pure ah 7 [.agg (eQ H),.agg (eQ D)] (.agg (eQ r)):=by
 obtain⟨⟨j,c⟩,⟨k,e⟩⟩:=H;obtain⟨⟨s,q⟩,⟨i,b⟩⟩:=D;refine aZ Tryz.func7 Y λE w vs d=>?_;unfold ei at h;refine sr<|acj Y<|acj Y<|aM (cs:=[ay false,au,ay false,au]) (by exact⟨aq,aA,aq,aA,an⟩)<|dn<|sr<|aK Y Y (.k4 Y Y Y Y)<|aE h (λ_=>jk) λ⟨m,d,p⟩ h=>aB Y<|aP Y Y<|aP Y Y<|aP Y Y<|aC Y<|aC Y<|aC Y<|dn<|sr<|aK Y Y (.k4 Y Y Y Y)<|aE h (λ_=>jk) λ⟨g,f,l⟩ h=>aB Y<|aP Y Y<|aP Y Y<|aP Y Y<|aC Y<|aC Y<|aC Y<|dn<|aT<|aT<|?_;refine bB h (λo=>AS.bM 37 [(2,.ptr 2 0),(3,.ptr 3 0),(4,.ptr 4 0),(5,ai m),(6,ai d),(8,ai g),(9,ai f),(26,aj o)] [(4,.box 40 [aj false,.sv au,aj false,.sv au]),(3,.box 40 [aj s,aoh 1 bf q,aj i,aoh 1 bf b]),(2,.box 40 [aj j,aoh 1 bf c,aj k,aoh 1 bf e])]) (λh=>?_) (λc h=>?_)
 ·refine aU<|aB Y<|aB Y<|bq h λd b h=>?_;cases p
  ·replace b:=ct b;cases b;exact aD<|abE Y<|aF<|aR.n ⟨false,h,wk []⟩
  replace b:=cn b;refine aB Y<|?_;obtain rfl:=aob b;exact aax Y<|aF<|aR.n ⟨l,h,wk []⟩
 refine aR.n<|?_;cases c
 ·exact cF h λh=>aX<|aR.n<|sr<|aK Y Y (.k4 Y Y Y Y)<|aK Y Y (.k4 Y Y Y Y)<|aE h (λ_=>Jf) λ⟨⟨b,e⟩,⟨c,d⟩⟩ h=>aJ Y Y Y<|dn<|aY<|fP h [.agg (eQ ⟨⟨b,e⟩,⟨c,d⟩⟩)] (by exact⟨.a Y Y (.k4 Y Y Y Y) Y,an⟩)
 exact cT h λh=>sr<|aB Y<|aB Y<|ahm h λb h=>aB Y<|aB Y<|ahm h λb h=>aE h (λ_=>pS) λ⟨⟨b,d⟩,⟨e,c⟩⟩ h=>aJ Y Y Y<|dn<|aY<|aR.r<|fP h [.agg (eQ ⟨⟨b,d⟩,⟨e,c⟩⟩)] (by exact⟨.a Y Y (.k4 Y Y Y Y) Y,an⟩)
theorem uf{H:Qr}{D:Qr}{r:Qr×Int}(h:kz H D=some r):Pure ah 129 [.agg (eQ H),.agg (eQ D)] (.lK [.agg (eQ r.1),ax r.2]):=by
 obtain⟨⟨m,j⟩,⟨o,k⟩⟩:=H;obtain⟨⟨s,q⟩,⟨l,b⟩⟩:=D;refine aZ Tryz.func129 Y λE w vs c=>?_;unfold kz at h;refine sr<|acj Y<|acj Y<|aM (cs:=[ay false,au,ay false,au]) (by exact⟨aq,aA,aq,aA,an⟩)<|aC Y<|dn<|aT<|sr<|aK Y Y (.k4 Y Y Y Y)<|aE h (λ_=>cS) λc h=>aeH h λc h=>dn<|?_;cases c
 ·refine cF h λh=>aX<|aR.n<|sr<|aK Y Y (.k4 Y Y Y Y)<|aE h (λ_=>jk) λ⟨f,i,e⟩ h=>aB Y<|aP Y Y<|aP Y Y<|aP Y Y<|aC Y<|aC Y<|aC Y<|dn<|sr<|aK Y Y (.k4 Y Y Y Y)<|aE h (λ_=>jk) λ⟨g,c,d⟩ h=>aB Y<|aP Y Y<|aP Y Y<|aP Y Y<|aC Y<|aC Y<|aC Y<|dn<|aT<|aT<|?_;refine bB h (λp=>AS.bM 48 [(2,.ptr 2 0),(3,.ptr 3 0),(4,.ptr 4 0),(6,ai f),(7,ai i),(9,ai g),(10,ai c),(31,aj p)] [(4,.box 40 [aj false,.sv au,aj false,.sv au]),(3,.box 40 [aj s,aoh 1 bf q,aj l,aoh 1 bf b]),(2,.box 40 [aj m,aoh 1 bf j,aj o,aoh 1 bf k])]) (λh=>?_) (λk h=>?_)
  ·refine aU<|aB Y<|aB Y<|bq h λj b h=>?_;cases e
   ·replace b:=ct b;cases b;exact aD<|abE Y<|aF<|aR.n ⟨false,h,wk []⟩
   replace b:=cn b;refine aB Y<|?_;obtain rfl:=aob b;exact aax Y<|aF<|aR.n ⟨d,h,wk []⟩
  refine aR.n<|?_;cases k
  ·exact cF h λh=>aX<|aR.n<|sr<|aK Y Y (.k4 Y Y Y Y)<|aK Y Y (.k4 Y Y Y Y)<|aE h (λ_=>Jg) λ⟨⟨j,e⟩,⟨b,d⟩⟩ h=>aJ Y Y Y<|aC Y<|dn<|aY<|fP h [.agg (eQ ⟨⟨j,e⟩,⟨b,d⟩⟩),ax 0] (by exact⟨.a Y Y (.k4 Y Y Y Y) Y,.t Y,an⟩)
  refine cT h λh=>aT<|sr<|aB Y<|aL h λd h=>dn<|?_;refine bB h (λb=>AS.bM 48 [(4,.ptr 4 0),(6,ai b.1),(7,ai i),(9,ai b.2),(10,ai c)] [(4,.box 40 [aj false,.sv au,aj false,.sv au])]) (λh=>?_) (λb h=>?_)
  ·cases d
   ·exact cF h λh=>aX<|aR.n ⟨(f,g),h,wk []⟩
   exact cT h λh=>aU<|aB Y<|ahy h λc h=>aB Y<|ahy h λd h=>aC Y<|aC Y<|aF<|aR.n ⟨(c,d),h,wk []⟩
  obtain⟨c,d⟩:=b
  try dsimp only
  exact aR.n<|sr<|aB Y<|aB Y<|ahm h λb h=>aB Y<|aB Y<|ahm h λb h=>aE h (λ_=>pS) λ⟨⟨b,d⟩,⟨e,c⟩⟩ h=>aJ Y Y Y<|aC Y<|dn<|aY<|aR.r<|fP h [.agg (eQ ⟨⟨b,d⟩,⟨e,c⟩⟩),ax 0] (by exact⟨.a Y Y (.k4 Y Y Y Y) Y,.t Y,an⟩)
 exact cT h λh=>sr<|aez (cs':=[ay false,au,ay false,au]) (.nil) (by exact⟨aq,aA,aq,aA,an⟩)<|aJ Y Y Y<|aC Y<|dn<|aY<|aR.r<|fP h [.agg (eQ ⟨⟨false,[]⟩,⟨false,[]⟩⟩),ax 7] (by exact⟨.a Y Y (.k4 Y Y Y Y) Y,.t Y,an⟩)
theorem mw{D:Qr}{r:Qr}(h:iw D=some r):Pure ah 132 [.agg (eQ D)] (.agg (eQ r)):=by
 obtain⟨⟨e,c⟩,⟨b,d⟩⟩:=D;refine aZ Tryz.func132 Y λE w vs b=>?_;unfold iw at h;exact sr<|acj Y<|aM (cs:=[ay false,au,ay false,au]) (by exact⟨aq,aA,aq,aA,an⟩)<|dn<|sr<|aK Y Y (.k4 Y Y Y Y)<|aE h (λ_=>c9) λ⟨⟨e,c⟩,⟨b,d⟩⟩ h=>aM (cs:=[ay false,au,ay false,au]) (by exact⟨aq,aA,aq,aA,an⟩)<|aJ Y Y Y<|dn<|sd mixed<|aG Y Y<|aK Y Y (.k2 Y Y)<|aE h (λ_=>rM) λ⟨c,e⟩ h=>aG Y Y<|aK Y Y (.k2 Y Y)<|aez (cs':=[ay c,aoc 1 bf e,ay b,aoc 1 bf d]) (.agg Y (.agg Y (.nil))) (by exact⟨aq,aq,aq,aq,an⟩)<|aJ Y Y Y<|dd<|aY<|fP h [.agg (eQ ⟨⟨c,e⟩,⟨b,d⟩⟩)] (by exact⟨.a Y Y (.k4 Y Y Y Y) Y,an⟩)
theorem kW{H:Qr}{D:Qr}{r:Int}(h:iy H D=some r):Pure ah 10 [.agg (eQ H),.agg (eQ D)] (ax r):=by
 obtain⟨⟨c,a⟩,⟨d,b⟩⟩:=H;obtain⟨⟨d,c⟩,⟨b,a⟩⟩:=D;refine aZ Tryz.func10 Y λE w vs a=>?_;unfold iy at h;refine sr<|acj Y<|acj Y<|aC Y<|dn<|sr<|aK Y Y (.k4 Y Y Y Y)<|aE h (λ_=>fM) λ⟨⟨c,l⟩,⟨i,g⟩⟩ h=>aB Y<|aP Y Y<|aP Y Y<|aM (cs:=[ay false,au]) (by exact⟨aq,aA,an⟩)<|aM (cs:=[ay false,au]) (by exact⟨aq,aA,an⟩)<|aJ Y Y Y<|aJ Y Y Y<|dn<|sr<|aK Y Y (.k4 Y Y Y Y)<|aE h (λ_=>fM) λ⟨⟨d,k⟩,⟨f,j⟩⟩ h=>aB Y<|aP Y Y<|aP Y Y<|aM (cs:=[ay false,au]) (by exact⟨aq,aA,an⟩)<|aM (cs:=[ay false,au]) (by exact⟨aq,aA,an⟩)<|aJ Y Y Y<|aJ Y Y Y<|dn<|aT<|sd mixed<|aK Y Y (.k2 Y Y)<|aE h (λ_=>jh) λa h=>aK Y Y (.k2 Y Y)<|aE h (λ_=>jh) λb h=>aC Y<|aC Y<|dd<|aT<|?_;refine bB h (λe=>AS.bM 43 [(5,.ptr 5 0),(6,.ptr 6 0),(7,.ptr 7 0),(8,.ptr 8 0),(9,ai a),(10,ai b),(31,aj e)] [(8,.box 38 [aj f,aoh 1 bf j]),(7,.box 38 [aj d,aoh 1 bf k]),(6,.box 38 [aj i,aoh 1 bf g]),(5,.box 38 [aj c,aoh 1 bf l])]) (λh=>?_) (λc h=>?_)
 ·refine aU<|aB Y<|aB Y<|aeA h λd h=>aB Y<|bq h λb a h=>?_;cases d
  ·replace a:=ct a;refine aB Y<|aeH a λb a=>?_;obtain rfl:=aob a;exact abE Y<|aF<|aR.n ⟨b,h,wk []⟩
  replace a:=cn a;cases a;exact aD<|aD<|aax Y<|aF<|aR.n ⟨true,h,wk []⟩
 refine aR.n<|?_;cases c
 ·exact cF h λh=>aX<|aR.n<|sd mixed<|aK Y Y (.k2 Y Y)<|aK Y Y (.k2 Y Y)<|aE h (λ_=>gF) λ⟨a,b⟩ h=>aK Y Y (.k2 Y Y)<|aK Y Y (.k2 Y Y)<|aE h (λ_=>gF) λ⟨a,b⟩ h=>aE h (λ_=>PF) λa h=>aC Y<|dd<|aY<|f1 h
 exact cT h λh=>sr<|aB Y<|aB Y<|aeK h λa h=>aE h (λ_=>PR) λa h=>aC Y<|dn<|aY<|aR.r<|f1 h
theorem DK{H:Qr}{D:Qr}{r:Bool}(h:ji H D=some r):Pure ah 15 [.agg (eQ H),.agg (eQ D)] (ay r):=by
 obtain⟨⟨c,a⟩,⟨d,b⟩⟩:=H;obtain⟨⟨d,c⟩,⟨b,a⟩⟩:=D;refine aZ Tryz.func15 Y λE w vs a=>?_;unfold ji at h;exact sr<|acj Y<|acj Y<|aC Y<|dn<|sr<|aK Y Y (.k4 Y Y Y Y)<|aK Y Y (.k4 Y Y Y Y)<|aE h (λ_=>kW) λa h=>aeH h λa h=>aC Y<|dn<|aY<|f1 h
theorem IN{H:Qr}{D:Qr}{r:Qr}(h:qI H D=some r):Pure ah 116 [.agg (eQ H),.agg (eQ D)] (.agg (eQ r)):=by
 obtain⟨⟨d,b⟩,⟨e,c⟩⟩:=H;obtain⟨⟨e,d⟩,⟨c,b⟩⟩:=D;refine aZ Tryz.func116 Y λE w vs b=>?_;unfold qI at h;refine sr<|acj Y<|acj Y<|aM (cs:=[ay false,au,ay false,au]) (by exact⟨aq,aA,aq,aA,an⟩)<|dn<|aT<|sr<|aK Y Y (.k4 Y Y Y Y)<|aK Y Y (.k4 Y Y Y Y)<|aE h (λ_=>kW) λb h=>aL h λb h=>dn<|?_;cases b
 ·exact cF h λh=>aX<|aR.n<|sr<|aK Y Y (.k4 Y Y Y Y)<|aE h (λ_=>c9) λ⟨⟨e,d⟩,⟨c,b⟩⟩ h=>aJ Y Y Y<|dn<|aY<|fP h [.agg (eQ ⟨⟨e,d⟩,⟨c,b⟩⟩)] (by exact⟨.a Y Y (.k4 Y Y Y Y) Y,an⟩)
 exact cT h λh=>sr<|aK Y Y (.k4 Y Y Y Y)<|aE h (λ_=>c9) λ⟨⟨d,b⟩,⟨e,c⟩⟩ h=>aJ Y Y Y<|dn<|aY<|aR.r<|fP h [.agg (eQ ⟨⟨d,b⟩,⟨e,c⟩⟩)] (by exact⟨.a Y Y (.k4 Y Y Y Y) Y,an⟩)
theorem Nl{D:Qr}{r:Zr}(h:rO D=some r):Pure ah 117 [.agg (eQ D)] (.agg (eZ r)):=by
 obtain⟨⟨d,b⟩,⟨e,c⟩⟩:=D;refine aZ Tryz.func117 Y λE w vs b=>?_;unfold rO at h;exact sr<|acj Y<|aM (cs:=[ay false,au]) (by exact⟨aq,aA,an⟩)<|dn<|sr<|aK Y Y (.k4 Y Y Y Y)<|aE h (λ_=>fM) λ⟨⟨b,c⟩,⟨d,e⟩⟩ h=>aP Y Y<|aP Y Y<|aE h (λ_=>uK) λ⟨⟨d,f⟩,⟨b,c⟩,e⟩ h=>aB Y<|aP Y Y<|aP Y Y<|aP Y Y<|aM (cs:=[ay false,au]) (by exact⟨aq,aA,an⟩)<|aM (cs:=[ay false,au]) (by exact⟨aq,aA,an⟩)<|aJ Y Y Y<|aJ Y Y Y<|aC Y<|dn<|sr<|aK Y Y (.k2 Y Y)<|aJ Y Y Y<|dn<|aY<|fP h [.agg (eZ ⟨d,f⟩)] (by exact⟨.a Y Y (.k2 Y Y) Y,an⟩)
end
section
open Go.Fw Go.RowKit
noncomputable def qk(H:Int)(D:Int):Option (Bool):=(some (decide ((H:Int)<D))).bind λa=>some a
noncomputable def oZ(H:Int)(D:Int):Option (Bool):=(some (decide ((D:Int)<H))).bind λa=>some a
noncomputable def nB(D:List Sp):Option (Int):=(some (D.length:Int)).bind λa=>(some (decide ((a:Int)=0))).bind λa=>(bif a then some 4 else(some (D.length:Int)).bind λa=>(some (decide ((3:Int)<a))).bind λa=>(bif a then some 5 else(some (D.length:Int)).bind λb=>(bH (λ(a:Int)=>(show Option ((Int)⊕((Unit)⊕(Int)))from(some (decide ((a:Int)<b))).bind λb=>(bif b then(bV D a).bind λ⟨d,b⟩=>bU (λ(c:Bool)=>(bif c then some (.inr (.inr 1))else bU (λ(c:Bool)=>(bif c then some (.inr (.inr 3))else(some (IntKind.i64.wrap (a+1))).bind λc=>some (.inl c))) λc=>(some (decide ((0:Int)<a))).bind λe=>(bif e then(some (IntKind.i64.wrap (a-1))).bind λa=>(bV D a).bind λ⟨a,e⟩=>(qk e b).bind λa=>(some (!a)).bind λa=>some a else some false).bind λa=>c a)) λa=>(some (decide ((d:Int)<1))).bind λc=>(bif c then some true else(some (decide ((1000000:Int)<d))).bind λc=>some c).bind λc=>(bif c then some true else(some (decide ((b:Int)<(-1000000)))).bind λc=>some c).bind λc=>(bif c then some true else(some (decide ((1000000:Int)<b))).bind λb=>some b).bind λb=>a b else some (.inr (.inl ()))))) 0).bind λa=>match a with|.inr v27=>some v27|.inl _=>some 0))
noncomputable def jY(D:List Sp):Option (Int):=(some (D.length:Int)).bind λa=>(some (decide ((a:Int)=0))).bind λa=>(bif a then some 4 else(some (D.length:Int)).bind λa=>(some (decide ((3:Int)<a))).bind λa=>(bif a then some 5 else(some (D.length:Int)).bind λb=>(bH (λ(a:Int)=>(show Option ((Int)⊕((Unit)⊕(Int)))from(some (decide ((a:Int)<b))).bind λb=>(bif b then(bV D a).bind λ⟨d,b⟩=>bU (λ(c:Bool)=>(bif c then some (.inr (.inr 1))else bU (λ(c:Bool)=>(bif c then some (.inr (.inr 3))else(some (IntKind.i64.wrap (a+1))).bind λc=>some (.inl c))) λc=>(some (decide ((0:Int)<a))).bind λe=>(bif e then(some (IntKind.i64.wrap (a-1))).bind λa=>(bV D a).bind λ⟨a,e⟩=>(oZ e b).bind λa=>(some (!a)).bind λa=>some a else some false).bind λa=>c a)) λa=>(some (decide ((d:Int)<1))).bind λc=>(bif c then some true else(some (decide ((1000000:Int)<d))).bind λc=>some c).bind λc=>(bif c then some true else(some (decide ((b:Int)<(-1000000)))).bind λc=>some c).bind λc=>(bif c then some true else(some (decide ((1000000:Int)<b))).bind λb=>some b).bind λb=>a b else some (.inr (.inl ()))))) 0).bind λa=>match a with|.inr v27=>some v27|.inl _=>some 0))
noncomputable def DL:Option (Ck):=some ⟨157⟩
noncomputable def B3:Option (Ck):=some ⟨158⟩
noncomputable def ey(D:List Sp):Option (Int):=(nB D).bind λa=>some a
noncomputable def dM(D:List Sp):Option (Int):=(jY D).bind λa=>some a
noncomputable def nX(D:List Sp):Option (Int):=(dM D).bind λa=>(some (decide ((a:Int)=0))).bind λa=>(bif a then some 0 else(ey D).bind λa=>some a)
noncomputable def v8(D:List Sp):Option (Int):=(nX D).bind λa=>(some (decide ((a:Int)≠0))).bind λa=>(bif a then some 0 else(some (D.length:Int)).bind λc=>(bH (λ(a:Int×Int)=>match a with|⟨b,a⟩=>(show Option ((Int×Int)⊕(Int))from(some (decide ((a:Int)<c))).bind λc=>(bif c then(bV D a).bind λ⟨c,d⟩=>(some (IntKind.i64.wrap (b+c))).bind λc=>(some (IntKind.i64.wrap (a+1))).bind λa=>some (.inl (c,a))else some (.inr b)))) (0,0)).bind λa=>some a)
noncomputable def gG(H:sI)(D:Int):Option (Int):=match H with|⟨g,d,h,e,i,j,f,k,b⟩=>bU (λ(a:Bool)=>(bif a then some 1 else(ey h).bind λa=>(some (decide ((a:Int)≠0))).bind λc=>(bif c then some a else bU (λ(a:Bool)=>(bif a then some 1 else bU (λ(a:Bool)=>(bif a then some 1 else bU (λ(a:Bool)=>(bif a then some 1 else bU (λ(a:Bool)=>(bif a then some 1 else bU (λ(a:Bool)=>(bif a then some 1 else some 0)) λa=>(some (decide ((b:Int)=0))).bind λc=>(bif c then some true else(some (decide ((b:Int)<(-6)))).bind λc=>some c).bind λc=>(bif c then some true else(some (decide ((6:Int)<b))).bind λb=>some b).bind λb=>a b)) λb=>(some (decide ((k:Int)<0))).bind λa=>(bif a then some true else(some (decide ((1000000:Int)<k))).bind λa=>some a).bind λa=>b a)) λb=>(some (decide ((j:Int)<0))).bind λa=>(bif a then some true else(some (decide ((1000000000:Int)<j))).bind λa=>some a).bind λa=>(bif a then some true else(some (decide ((f:Int)<0))).bind λa=>some a).bind λa=>(bif a then some true else(some (decide ((1000000000:Int)<f))).bind λa=>some a).bind λa=>b a)) λb=>(some (decide ((e:Int)<1))).bind λa=>(bif a then some true else(some (decide ((6:Int)<e))).bind λa=>some a).bind λa=>(bif a then some true else(some (decide ((i:Int)<1))).bind λa=>some a).bind λa=>(bif a then some true else(some (decide ((6:Int)<i))).bind λa=>some a).bind λa=>b a)) λb=>(some (decide ((d:Int)<0))).bind λa=>(bif a then some true else(v8 h).bind λa=>(some (decide ((a:Int)<d))).bind λa=>some a).bind λa=>b a))) λb=>(some (decide ((g:Int)<0))).bind λa=>(bif a then some true else(some (decide ((D:Int)<=g))).bind λa=>some a).bind λa=>b a
end
section
open Go.Fw Go.RowKit
theorem Hp{D:Int}{H:Int}{r:Bool}(h:qk D H=some r):Pure ah 157 [ax D,ax H] (ay r):=by
 refine aZ Tryz.func157 Y λE w vs a=>?_;unfold qk at h;exact sr<|aC Y<|dn<|sr<|aB Y<|aB Y<|aeG h λa h=>aC Y<|dn<|aY<|f1 h
theorem FM{D:Int}{H:Int}{r:Bool}(h:oZ D H=some r):Pure ah 158 [ax D,ax H] (ay r):=by
 refine aZ Tryz.func158 Y λE w vs a=>?_;unfold oZ at h;exact sr<|aC Y<|dn<|sr<|aB Y<|aB Y<|aL h λa h=>aC Y<|dn<|aY<|f1 h
theorem Le{D:List Sp}{r:Int}(h:nB D=some r):Pure ah 108 [.agg [.v (.func (.func 157) #[] #[])],aoc 2 iq D] (ax r):=by
 refine aZ Tryz.func108 Y λE w vs a=>?_;unfold nB at h;refine sr<|acj Y<|aC Y<|dn<|aT<|sr<|aB Y<|aN h λa h=>aeH h λa h=>dn<|?_;cases a
 ·refine cF h λh=>aX<|aR.n<|aT<|sr<|aB Y<|aN h λa h=>aeG h λa h=>dn<|?_;cases a
  ·refine cF h λh=>aX<|aR.n<|aT<|sr<|aB Y<|aN h λd h=>aB Y<|dn<|bq h λc b f=>?_;refine bp (λ(a:Unit)=>AS.bM 55 [] []) (λa=>.inl a=c) (aV<|br b (λb=>AS.bM 55 [(1,aoh 2 iq D),(2,.ptr 2 0),(13,aoh 2 iq D),(14,ai d),(15,ai b)] [(2,.box 194 [.sv (.v (.func (.func 157) #[] #[]))])]) (wk []) (λi c b h g e=>?_)) (λa j=>?_)
   ·refine sr<|aL h λa h=>dn<|aT<|?_;cases a
    ·refine cF h λh=>bt<|aR.x<|aR.x<|bn.x<|?_;cases h;exact aR.n ⟨(),e _ Y,wk []⟩
    refine cT h λh=>aX<|aR.n<|aT<|aV<|sr<|aB Y<|aQ Y h λ⟨c,b⟩ h=>aeC Y (.cons (.cons (.nil)))<|aM (cs:=[ax 0,ax 0]) (by exact⟨aq,aq,an⟩)<|aC Y<|aJ Y Y Y<|dn<|aT<|aT<|?_;refine bB h (λa=>AS.bM 55 [(1,aoh 2 iq D),(2,.ptr 2 0),(5,ai i),(6,.ptr 6 0),(13,aoh 2 iq D),(14,ai d),(15,ai i),(37,aj a)] [(6,.box 47 [ai c,ai b]),(2,.box 194 [.sv (.v (.func (.func 157) #[] #[]))])]) (λh=>?_) (λl h=>?_)
    ·refine aU<|aG Y Y<|aH Y Y Y<|aL h λb h=>aB Y<|bq h λc a h=>?_;cases b
     ·replace a:=ct a;refine aG Y Y<|aH Y Y Y<|aeG a λc a=>?_;obtain rfl:=aob a;refine abE Y<|aB Y<|bq h λk b h=>?_;cases c
      ·replace b:=ct b;refine aG Y Y<|aH Y Y Y<|aL b λk b=>?_;obtain rfl:=aob b;refine abE Y<|aB Y<|bq h λm c h=>?_;cases k
       ·replace c:=ct c;refine aG Y Y<|aH Y Y Y<|aeG c λk c=>?_;obtain rfl:=aob c;exact abE Y<|aF<|aR.n ⟨k,h,wk []⟩
       replace c:=cn c;cases c;exact aD<|aD<|aD<|aax Y<|aF<|aR.n ⟨true,h,wk []⟩
      replace b:=cn b;cases b;exact aD<|aD<|aD<|aax Y<|aB Y<|aD<|aD<|aD<|aax Y<|aF<|aR.n ⟨true,h,wk []⟩
     replace a:=cn a;cases a;exact aD<|aD<|aD<|aax Y<|aB Y<|aD<|aD<|aD<|aax Y<|aB Y<|aD<|aD<|aD<|aax Y<|aF<|aR.n ⟨true,h,wk []⟩
    refine aR.n<|?_;cases l
    ·refine cF h λh=>aX<|aR.n<|aT<|?_;refine bB h (λa=>AS.bM 55 [(1,aoh 2 iq D),(2,.ptr 2 0),(13,aoh 2 iq D),(14,ai d),(15,ai i),(53,aj a)] [(2,.box 194 [.sv (.v (.func (.func 157) #[] #[]))])]) (λh=>?_) (λc h=>?_)
     ·refine bz mixed<|aB Y<|aeG h λb h=>aB Y<|bq h λd a h=>?_;cases b
      ·replace a:=ct a;cases a;exact aD<|aD<|aD<|aD<|aD<|aD<|aD<|aD<|aD<|aD<|aD<|aD<|abE Y<|de<|aR.n ⟨false,h,wk []⟩
      replace a:=cn a;refine aG Y Y<|aH Y Y Y<|aB Y<|aB Y<|aeK a λb a=>aQ Y a λ⟨b,d⟩ a=>aew Y<|aI Y Y<|aG Y Y<|aH Y Y Y<|aE a (λ_=>Hp) λb a=>agy a λb a=>?_;obtain rfl:=aob a;exact aax Y<|de<|aR.n ⟨b,h,wk []⟩
     refine aR.n<|?_;cases c
     ·refine cF h λh=>aX<|bn.n<|aR.n<|aU<|aO h λa h=>aB Y<|aF<|?_;obtain rfl:=aob h;exact aR.n ⟨a,g _ Y,wk []⟩
     refine cT h λh=>sr<|aC Y<|dn<|aY<|bn.r<|aR.r<|?_;obtain rfl:=aob h;have a:=e _ Y;subst a;exact aR.r<|bn.r<|aR.r<|aR.r<|f1 f
    refine cT h λh=>sr<|aC Y<|dn<|aY<|aR.r<|bn.r<|aR.r<|?_;obtain rfl:=aob h;have a:=e _ Y;subst a;exact aR.r<|bn.r<|aR.r<|aR.r<|f1 f
   subst j;exact aR.n<|sr<|aC Y<|dn<|aY<|f1 f
  exact cT h λh=>sr<|aC Y<|dn<|aY<|aR.r<|f1 h
 exact cT h λh=>sr<|aC Y<|dn<|aY<|aR.r<|f1 h
theorem Lg{D:List Sp}{r:Int}(h:jY D=some r):Pure ah 108 [.agg [.v (.func (.func 158) #[] #[])],aoc 2 iq D] (ax r):=by
 refine aZ Tryz.func108 Y λE w vs a=>?_;unfold jY at h;refine sr<|acj Y<|aC Y<|dn<|aT<|sr<|aB Y<|aN h λa h=>aeH h λa h=>dn<|?_;cases a
 ·refine cF h λh=>aX<|aR.n<|aT<|sr<|aB Y<|aN h λa h=>aeG h λa h=>dn<|?_;cases a
  ·refine cF h λh=>aX<|aR.n<|aT<|sr<|aB Y<|aN h λd h=>aB Y<|dn<|bq h λc b f=>?_;refine bp (λ(a:Unit)=>AS.bM 55 [] []) (λa=>.inl a=c) (aV<|br b (λb=>AS.bM 55 [(1,aoh 2 iq D),(2,.ptr 2 0),(13,aoh 2 iq D),(14,ai d),(15,ai b)] [(2,.box 194 [.sv (.v (.func (.func 158) #[] #[]))])]) (wk []) (λi c b h g e=>?_)) (λa j=>?_)
   ·refine sr<|aL h λa h=>dn<|aT<|?_;cases a
    ·refine cF h λh=>bt<|aR.x<|aR.x<|bn.x<|?_;cases h;exact aR.n ⟨(),e _ Y,wk []⟩
    refine cT h λh=>aX<|aR.n<|aT<|aV<|sr<|aB Y<|aQ Y h λ⟨c,b⟩ h=>aeC Y (.cons (.cons (.nil)))<|aM (cs:=[ax 0,ax 0]) (by exact⟨aq,aq,an⟩)<|aC Y<|aJ Y Y Y<|dn<|aT<|aT<|?_;refine bB h (λa=>AS.bM 55 [(1,aoh 2 iq D),(2,.ptr 2 0),(5,ai i),(6,.ptr 6 0),(13,aoh 2 iq D),(14,ai d),(15,ai i),(37,aj a)] [(6,.box 47 [ai c,ai b]),(2,.box 194 [.sv (.v (.func (.func 158) #[] #[]))])]) (λh=>?_) (λl h=>?_)
    ·refine aU<|aG Y Y<|aH Y Y Y<|aL h λb h=>aB Y<|bq h λc a h=>?_;cases b
     ·replace a:=ct a;refine aG Y Y<|aH Y Y Y<|aeG a λc a=>?_;obtain rfl:=aob a;refine abE Y<|aB Y<|bq h λk b h=>?_;cases c
      ·replace b:=ct b;refine aG Y Y<|aH Y Y Y<|aL b λk b=>?_;obtain rfl:=aob b;refine abE Y<|aB Y<|bq h λm c h=>?_;cases k
       ·replace c:=ct c;refine aG Y Y<|aH Y Y Y<|aeG c λk c=>?_;obtain rfl:=aob c;exact abE Y<|aF<|aR.n ⟨k,h,wk []⟩
       replace c:=cn c;cases c;exact aD<|aD<|aD<|aax Y<|aF<|aR.n ⟨true,h,wk []⟩
      replace b:=cn b;cases b;exact aD<|aD<|aD<|aax Y<|aB Y<|aD<|aD<|aD<|aax Y<|aF<|aR.n ⟨true,h,wk []⟩
     replace a:=cn a;cases a;exact aD<|aD<|aD<|aax Y<|aB Y<|aD<|aD<|aD<|aax Y<|aB Y<|aD<|aD<|aD<|aax Y<|aF<|aR.n ⟨true,h,wk []⟩
    refine aR.n<|?_;cases l
    ·refine cF h λh=>aX<|aR.n<|aT<|?_;refine bB h (λa=>AS.bM 55 [(1,aoh 2 iq D),(2,.ptr 2 0),(13,aoh 2 iq D),(14,ai d),(15,ai i),(53,aj a)] [(2,.box 194 [.sv (.v (.func (.func 158) #[] #[]))])]) (λh=>?_) (λc h=>?_)
     ·refine bz mixed<|aB Y<|aeG h λb h=>aB Y<|bq h λd a h=>?_;cases b
      ·replace a:=ct a;cases a;exact aD<|aD<|aD<|aD<|aD<|aD<|aD<|aD<|aD<|aD<|aD<|aD<|abE Y<|de<|aR.n ⟨false,h,wk []⟩
      replace a:=cn a;refine aG Y Y<|aH Y Y Y<|aB Y<|aB Y<|aeK a λb a=>aQ Y a λ⟨b,d⟩ a=>aew Y<|aI Y Y<|aG Y Y<|aH Y Y Y<|aE a (λ_=>FM) λb a=>agy a λb a=>?_;obtain rfl:=aob a;exact aax Y<|de<|aR.n ⟨b,h,wk []⟩
     refine aR.n<|?_;cases c
     ·refine cF h λh=>aX<|bn.n<|aR.n<|aU<|aO h λa h=>aB Y<|aF<|?_;obtain rfl:=aob h;exact aR.n ⟨a,g _ Y,wk []⟩
     refine cT h λh=>sr<|aC Y<|dn<|aY<|bn.r<|aR.r<|?_;obtain rfl:=aob h;have a:=e _ Y;subst a;exact aR.r<|bn.r<|aR.r<|aR.r<|f1 f
    refine cT h λh=>sr<|aC Y<|dn<|aY<|aR.r<|bn.r<|aR.r<|?_;obtain rfl:=aob h;have a:=e _ Y;subst a;exact aR.r<|bn.r<|aR.r<|aR.r<|f1 f
   subst j;exact aR.n<|sr<|aC Y<|dn<|aY<|f1 f
  exact cT h λh=>sr<|aC Y<|dn<|aY<|aR.r<|f1 h
 exact cT h λh=>sr<|aC Y<|dn<|aY<|aR.r<|f1 h
theorem Lh{r:Ck}(h:DL=some r):Pure ah 107 [] (.agg (eCk r)):=by
 refine aZ Tryz.func107 Y λE w vs b=>?_;unfold DL at h;exact sr<|aM (cs:=[.v .nilFunc]) (by exact⟨aq,an⟩)<|dn<|sr<|aez (cs':=[.v (.func (.func 157) #[] #[])]) (.one Y (.nil)) (by exact⟨aq,an⟩)<|aJ Y Y Y<|dn<|aY<|fP h [.agg [.v (.func (.func 157) #[] #[])]] (by exact⟨.a Y Y (.cons Y (.nil)) Y,an⟩)
theorem Jh{r:Ck}(h:B3=some r):Pure ah 109 [] (.agg (eCk r)):=by
 refine aZ Tryz.func109 Y λE w vs b=>?_;unfold B3 at h;exact sr<|aM (cs:=[.v .nilFunc]) (by exact⟨aq,an⟩)<|dn<|sr<|aez (cs':=[.v (.func (.func 158) #[] #[])]) (.one Y (.nil)) (by exact⟨aq,an⟩)<|aJ Y Y Y<|dn<|aY<|fP h [.agg [.v (.func (.func 158) #[] #[])]] (by exact⟨.a Y Y (.cons Y (.nil)) Y,an⟩)
theorem kA{D:List Sp}{r:Int}(h:ey D=some r):Pure ah 54 [aoc 2 iq D] (ax r):=by
 refine aZ Tryz.func54 Y λE w vs a=>?_;unfold ey at h;exact sr<|aC Y<|dn<|sr<|ahq (Lh (r:=⟨157⟩) Y)<|aB Y<|aE h (λ_=>Le) λa h=>aC Y<|dn<|aY<|f1 h
theorem l9{D:List Sp}{r:Int}(h:dM D=some r):Pure ah 55 [aoc 2 iq D] (ax r):=by
 refine aZ Tryz.func55 Y λE w vs a=>?_;unfold dM at h;exact sr<|aC Y<|dn<|sr<|ahq (Jh (r:=⟨158⟩) Y)<|aB Y<|aE h (λ_=>Lg) λa h=>aC Y<|dn<|aY<|f1 h
theorem Ec{D:List Sp}{r:Int}(h:nX D=some r):Pure ah 218 [aoc 2 iq D] (ax r):=by
 refine aZ Tryz.func218 Y λE w vs a=>?_;unfold nX at h;refine sr<|aC Y<|dn<|aT<|sr<|aB Y<|aE h (λ_=>l9) λa h=>aeH h λa h=>dn<|?_;cases a
 ·exact cF h λh=>aX<|aR.n<|sr<|aB Y<|aE h (λ_=>kA) λa h=>aC Y<|dn<|aY<|f1 h
 exact cT h λh=>sr<|aC Y<|dn<|aY<|aR.r<|f1 h
theorem St{D:List Sp}{r:Int}(h:v8 D=some r):Pure ah 182 [aoc 2 iq D] (ax r):=by
 refine aZ Tryz.func182 Y λE w vs a=>?_;unfold v8 at h;refine sr<|aC Y<|dn<|aT<|sr<|aB Y<|aE h (λ_=>Ec) λa h=>aeA h λa h=>dn<|?_;cases a
 ·refine cF h λh=>aX<|aR.n<|sr<|aC Y<|dn<|aT<|sr<|aB Y<|aN h λc h=>aB Y<|dn<|bq h λb d g=>?_;refine bp (λ(a:Int)=>AS.bM 21 [(3,ai a)] []) (λa=>a=b) (aV<|br d (λb=>AS.bM 21 [(3,ai b.1),(9,aoh 2 iq D),(10,ai c),(11,ai b.2)] []) (wk []) (λb e f h d c=>?_)) (λa f=>?_)
  ·obtain⟨e,a⟩:=b
   try dsimp only
   refine sr<|aL h λa h=>dn<|aT<|?_;cases a
   ·refine cF h λh=>bt<|aR.x<|aR.x<|bn.x<|?_;obtain rfl:=aob h;exact aR.n ⟨e,c _ Y,wk []⟩
   refine cT h λh=>aX<|aR.n<|aT<|aV<|sr<|aQ Y h λ⟨a,b⟩ h=>aeC Y (.cons (.cons (.nil)))<|aM (cs:=[ax 0,ax 0]) (by exact⟨aq,aq,an⟩)<|aJ Y Y Y<|dn<|aU<|aB Y<|aG Y Y<|aH Y Y Y<|aO h λb h=>aC Y<|aF<|bn.n<|aR.n<|aU<|aO h λa h=>aB Y<|aF<|?_;obtain rfl:=aob h;exact aR.n ⟨(b,a),d _ Y,wk []⟩
  subst f;exact aR.n<|sr<|aB Y<|aC Y<|dn<|aY<|f1 g
 exact cT h λh=>sr<|aC Y<|dn<|aY<|aR.r<|f1 h
theorem Np{D:sI}{H:Int}{r:Int}(h:gG D H=some r):Pure ah 121 [.agg (gK D),ax H] (ax r):=by
 obtain⟨l,j,k,g,f,i,d,m,e⟩:=D;refine aZ Tryz.func121 Y λE w vs a=>?_;unfold gG at h;refine sr<|acj Y<|aC Y<|dn<|aT<|aT<|?_;refine bB h (λa=>AS.bM 89 [(2,.ptr 2 0),(14,aj a)] [(2,.box 50 [ai l,ai j,aoh 2 iq k,ai g,ai f,ai i,ai d,ai m,ai e])]) (λh=>?_) (λb h=>?_)
 ·refine aU<|aG Y Y<|aH Y Y Y<|aL h λo h=>aB Y<|bq h λc a h=>?_;cases o
  ·replace a:=ct a;refine aG Y Y<|aH Y Y Y<|aB Y<|afy a λc a=>?_;obtain rfl:=aob a;exact abE Y<|aF<|aR.n ⟨c,h,wk []⟩
  replace a:=cn a;cases a;exact aD<|aD<|aD<|aD<|aax Y<|aF<|aR.n ⟨true,h,wk []⟩
 refine aR.n<|?_;cases b
 ·refine cF h λh=>aX<|aR.n<|aT<|sr<|aG Y Y<|aH Y Y Y<|aE h (λ_=>kA) λa h=>aC Y<|dn<|sr<|aB Y<|aeA h λa h=>dn<|?_;cases a
  ·refine cF h λh=>aX<|aR.n<|aT<|aT<|?_;refine bB h (λa=>AS.bM 89 [(2,.ptr 2 0),(31,aj a)] [(2,.box 50 [ai l,ai j,aoh 2 iq k,ai g,ai f,ai i,ai d,ai m,ai e])]) (λh=>?_) (λb h=>?_)
   ·refine bz mixed<|aG Y Y<|aH Y Y Y<|aL h λc h=>aB Y<|bq h λo a h=>?_;cases c
    ·replace a:=ct a;refine aG Y Y<|aH Y Y Y<|aG Y Y<|aH Y Y Y<|aE a (λ_=>St) λc a=>aeG a λc a=>?_;obtain rfl:=aob a;exact abE Y<|de<|aR.n ⟨c,h,wk []⟩
    replace a:=cn a;cases a;exact aD<|aD<|aD<|aD<|aD<|aD<|aax Y<|de<|aR.n ⟨true,h,wk []⟩
   refine aR.n<|?_;cases b
   ·refine cF h λh=>aX<|aR.n<|aT<|aT<|?_;refine bB h (λa=>AS.bM 89 [(2,.ptr 2 0),(49,aj a)] [(2,.box 50 [ai l,ai j,aoh 2 iq k,ai g,ai f,ai i,ai d,ai m,ai e])]) (λh=>?_) (λp h=>?_)
    ·refine aU<|aG Y Y<|aH Y Y Y<|aL h λa h=>aB Y<|bq h λb c h=>?_;cases a
     ·replace c:=ct c;refine aG Y Y<|aH Y Y Y<|aeG c λo c=>?_;obtain rfl:=aob c;refine abE Y<|aB Y<|bq h λb a h=>?_;cases o
      ·replace a:=ct a;refine aG Y Y<|aH Y Y Y<|aL a λq a=>?_;obtain rfl:=aob a;refine abE Y<|aB Y<|bq h λo b h=>?_;cases q
       ·replace b:=ct b;refine aG Y Y<|aH Y Y Y<|aeG b λo b=>?_;obtain rfl:=aob b;exact abE Y<|aF<|aR.n ⟨o,h,wk []⟩
       replace b:=cn b;cases b;exact aD<|aD<|aD<|aax Y<|aF<|aR.n ⟨true,h,wk []⟩
      replace a:=cn a;obtain rfl:=aob a;refine aD<|aD<|aD<|aax Y<|aB Y<|bq h λb a h=>?_;replace a:=cn a;cases a;exact aD<|aD<|aD<|aax Y<|aF<|aR.n ⟨true,h,wk []⟩
     replace c:=cn c;obtain rfl:=aob c;refine aD<|aD<|aD<|aax Y<|aB Y<|bq h λb a h=>?_;replace a:=cn a;obtain rfl:=aob a;refine aD<|aD<|aD<|aax Y<|aB Y<|bq h λb a h=>?_;replace a:=cn a;cases a;exact aD<|aD<|aD<|aax Y<|aF<|aR.n ⟨true,h,wk []⟩
    refine aR.n<|?_;cases p
    ·refine cF h λh=>aX<|aR.n<|aT<|aT<|?_;refine bB h (λa=>AS.bM 89 [(2,.ptr 2 0),(67,aj a)] [(2,.box 50 [ai l,ai j,aoh 2 iq k,ai g,ai f,ai i,ai d,ai m,ai e])]) (λh=>?_) (λp h=>?_)
     ·refine aU<|aG Y Y<|aH Y Y Y<|aL h λb h=>aB Y<|bq h λa c h=>?_;cases b
      ·replace c:=ct c;refine aG Y Y<|aH Y Y Y<|aeG c λo c=>?_;obtain rfl:=aob c;refine abE Y<|aB Y<|bq h λb a h=>?_;cases o
       ·replace a:=ct a;refine aG Y Y<|aH Y Y Y<|aL a λq a=>?_;obtain rfl:=aob a;refine abE Y<|aB Y<|bq h λo b h=>?_;cases q
        ·replace b:=ct b;refine aG Y Y<|aH Y Y Y<|aeG b λo b=>?_;obtain rfl:=aob b;exact abE Y<|aF<|aR.n ⟨o,h,wk []⟩
        replace b:=cn b;cases b;exact aD<|aD<|aD<|aax Y<|aF<|aR.n ⟨true,h,wk []⟩
       replace a:=cn a;obtain rfl:=aob a;refine aD<|aD<|aD<|aax Y<|aB Y<|bq h λb a h=>?_;replace a:=cn a;cases a;exact aD<|aD<|aD<|aax Y<|aF<|aR.n ⟨true,h,wk []⟩
      replace c:=cn c;obtain rfl:=aob c;refine aD<|aD<|aD<|aax Y<|aB Y<|bq h λb a h=>?_;replace a:=cn a;obtain rfl:=aob a;refine aD<|aD<|aD<|aax Y<|aB Y<|bq h λb a h=>?_;replace a:=cn a;cases a;exact aD<|aD<|aD<|aax Y<|aF<|aR.n ⟨true,h,wk []⟩
     refine aR.n<|?_;cases p
     ·refine cF h λh=>aX<|aR.n<|aT<|aT<|?_;refine bB h (λa=>AS.bM 89 [(2,.ptr 2 0),(75,aj a)] [(2,.box 50 [ai l,ai j,aoh 2 iq k,ai g,ai f,ai i,ai d,ai m,ai e])]) (λh=>?_) (λc h=>?_)
      ·refine aU<|aG Y Y<|aH Y Y Y<|aL h λd h=>aB Y<|bq h λb a h=>?_;cases d
       ·replace a:=ct a;refine aG Y Y<|aH Y Y Y<|aeG a λb a=>?_;obtain rfl:=aob a;exact abE Y<|aF<|aR.n ⟨b,h,wk []⟩
       replace a:=cn a;cases a;exact aD<|aD<|aD<|aax Y<|aF<|aR.n ⟨true,h,wk []⟩
      refine aR.n<|?_;cases c
      ·refine cF h λh=>aX<|aR.n<|aT<|aT<|?_;refine bB h (λa=>AS.bM 89 [(88,aj a)] []) (λh=>?_) (λc h=>?_)
       ·refine aU<|aG Y Y<|aH Y Y Y<|aeH h λa h=>aB Y<|bq h λd b h=>?_;cases a
        ·replace b:=ct b;refine aG Y Y<|aH Y Y Y<|aL b λe b=>?_;obtain rfl:=aob b;refine abE Y<|aB Y<|bq h λd a h=>?_;cases e
         ·replace a:=ct a;refine aG Y Y<|aH Y Y Y<|aeG a λd a=>?_;obtain rfl:=aob a;exact abE Y<|aF<|aR.n ⟨d,h,wk []⟩
         replace a:=cn a;cases a;exact aD<|aD<|aD<|aax Y<|aF<|aR.n ⟨true,h,wk []⟩
        replace b:=cn b;obtain rfl:=aob b;refine aD<|aD<|aD<|aax Y<|aB Y<|bq h λb a h=>?_;replace a:=cn a;cases a;exact aD<|aD<|aD<|aax Y<|aF<|aR.n ⟨true,h,wk []⟩
       refine aR.n<|?_;cases c
       ·exact cF h λh=>aX<|aR.n<|sr<|aC Y<|dn<|aY<|f1 h
       exact cT h λh=>sr<|aC Y<|dn<|aY<|aR.r<|f1 h
      exact cT h λh=>sr<|aC Y<|dn<|aY<|aR.r<|f1 h
     exact cT h λh=>sr<|aC Y<|dn<|aY<|aR.r<|f1 h
    exact cT h λh=>sr<|aC Y<|dn<|aY<|aR.r<|f1 h
   exact cT h λh=>sr<|aC Y<|dn<|aY<|aR.r<|f1 h
  exact cT h λh=>sr<|aB Y<|aC Y<|dn<|aY<|aR.r<|f1 h
 exact cT h λh=>sr<|aC Y<|dn<|aY<|aR.r<|f1 h
end
end Go.Proofs.YtianbhacbgnboaaGreat
namespace Go.Fw
section
open Go.RowKit
abbrev JJ:=Nat->Bool->(Nat->Prop)->Mem->World->Prop
def JF(C:Ctx)(J:JJ):Prop:=∀(g:Nat) (h:Bool) (O:Nat->Prop) (M M':Mem) (w w':World),J g h O M w->M.le M'->M'.kf w'->(∀b o v,M' b o=some v->M b o=some v\/((C.w0.heap.size<=b\/C.MU b)/\¬O b))->
  (∀b,(b<C.w0.heap.size/\¬C.MU b)\/O b->w'.heap[b]? =w.heap[b]?)->w'.os=w.os->w'.tape=w.tape->w'.output=w.output->w.heap.size<=w'.heap.size->J g h O M' w'
def Ctx.wJ(C:Ctx)(J:JJ)(hj:JF C J):Ctx:={C with J:=J,jf:=hj}
section
variable {C:Ctx}{S:AS}{E:Env}{a:Act}{w w':World}{J:JJ}{hj:JF C J}
theorem bw.out(h:bw C S E a w)(g':Nat)(D:Nat->Prop)(hO:∀b,E.O b->D b)(H:∀b,D b->E.O b\/(w.heap.size<=b/\b<w'.heap.size))(I:∀k,k<w.heap.size->¬E.O k->w'.heap[k]? =w.heap[k]?)(K:w.heap.size<=w'.heap.size)
  (e1:w'.os=w.os) (e2:w'.tape=w.tape) (e3:w'.output=w.output) (hjj:J g' S.go D E.M w'):bw (C.wJ J hj) ⟨S.n,S.t,S.o,g',S.go⟩ {E with O:=D} a w':=by
 have A:∀k,k<w.heap.size->¬E.O k->¬D k:=λk d p q=>by
  rcases H k q with q|q
  ·exact p q
  omega
 have c:∀b,b<w.heap.size->¬E.O b->w'.heap[b]? =w.heap[b]? :=I;have m:E.M.kf w':=iG h.kf λb ⟨o,v,e⟩=>I b (qw h.kf e) (λq=>by have:=(h.GK b q).2.1 o;rw[e]at this;cases this);refine⟨⟨h.wf.t,h.wf.o⟩,?_,h.size,e1.trans h.os,e2.trans h.tape,e3.trans h.output,Nat.le_trans h.grown K,λk d p=>?_,h.m0,h.Be,m,λs=>?_,λi ob c=>?_,λi ob t g c f=>?_,λi ob t j G u g c z f l=>?_,h.qZ,λb q=>?_,hjj⟩
 ·obtain⟨m,x,y,F⟩:=h.marks;refine⟨m,x,y,λr hr=>?_⟩;obtain⟨y,x,B⟩:=F r hr;have m:=(Array.getElem?_eq_some_iff.1 B).1;exact⟨y,A r m x,by rw[I r m x];exact B⟩
 ·rw[I k (by have:=h.grown;have d:k<C.w0.heap.size:=d;omega) (λq=>by
   rcases(h.GK k q).2.2 with q|q
   ·exact p q
   have d:k<C.w0.heap.size:=d;omega)]
  exact h.frame k d p
 ·exact AV.jl (E:=E) (E':={E with O:=D}) (Mem.le_refl _) _ (λ_ _=>⟨Y,Y⟩) _ (h.tm s)
 ·exact Ob.rH (h.ob i ob c) (Mem.le_refl _) ⟨Y,Y,Y⟩ (λ_ _ _ _=>⟨Y,Y⟩) (λt g f=>I g (h.lt c f) (h.mine i ob t g c f).2.2)
 ·have l:ob.kM E i t g:=(Ob.fF ⟨Y,Y,Y⟩).1 f;exact⟨(h.mine i ob t g c l).1,(h.mine i ob t g c l).2.1,A g (h.lt c l) (h.mine i ob t g c l).2.2⟩
 ·exact h.inj i ob t j G u g c z ((Ob.fF ⟨Y,Y,Y⟩).1 f) ((Ob.fF ⟨Y,Y,Y⟩).1 l)
 rcases H b q with q|⟨y,x⟩
 ·obtain⟨f,d,c⟩:=h.GK b q;exact⟨by omega,d,c⟩
 refine⟨x,λo=>?_,.inr (Nat.le_trans h.grown y)⟩;cases e:E.M b o with
 |none=>rfl
 |some v=>have:=qw h.kf e;omega
theorem bw.back(D:∀g h O M w,C.J g h O M w)(h:bw (C.wJ J hj) S E a w):bw C S E a w:=
 ⟨h.wf,h.marks,h.size,h.os,h.tape,h.output,h.grown,h.frame,h.m0,h.Be,h.kf,h.tm,h.ob,h.mine,h.inj,h.qZ,h.GK,D _ _ _ _ _⟩
def JM(b:Nat)(D:Int)(s:SV):JJ:=λg _ O M w=>O b/\if g=0 then w.heap[b]? =some (.map #[] 0)else ∃v,w.heap[b]? =some (.map #[⟨.int .i64 D,v,0⟩] 1)/\s.h M v
theorem jM(C:Ctx)(b:Nat)(D:Int)(s:SV):JF C (JM b D s):=λg h O M M' w w' hj d _ _ c _ _ _ _=>by
 refine⟨hj.1,?_⟩;have a:=hj.2;by_cases e:g=0
 ·rw[if_pos e]at a⊢;rw[c b (.inr hj.1)];exact a
 rw[if_neg e]at a⊢;rw[c b (.inr hj.1)];obtain⟨v,c,f⟩:=a;exact⟨v,c,s.mono d f⟩
def JI(b c:Nat)(D:Int)(s:SV):JJ:=λg _ O M w=>g≠0/\O b/\O c/\(∃v,w.heap[b]? =some (.map #[⟨.int .i64 D,v,0⟩] 1)/\s.h M v)/\w.heap[c]? =some (if g=1 then .mapIter (some b) 1 #[] 1 else .mapIter (some b) 1 #[0] 1)
theorem jI(C:Ctx)(b c:Nat)(D:Int)(s:SV):JF C (JI b c D s):=λg h O M M' w w' hj f _ _ d _ _ _ _=>by
 obtain⟨k,a,e,⟨v,i,j⟩,l⟩:=hj;exact⟨k,a,e,⟨v,by rw[d b (.inr a)];exact i,s.mono f j⟩,by rw[d c (.inr e)];exact l⟩
end
section
variable {P:Program}{C:Ctx}{S:AS}{Q:Exit->AS->Prop}
theorem afE{c:Code}{J:JJ}{hj:JF C J}{a:Act}{w:World}(H:∀g h O M w,C.J g h O M w)(h:Ok P (C.wJ J hj) c S Q)(D:S.holds (C.wJ J hj) a w):c.wpIn (Fr C.ro) 0 P (λe b w'=>∃S':AS,Q e S'/\S'.holds C b w') a w:=
 wpIn_mono (h a w D) λe b w' ⟨S',f,E,d⟩=>⟨S',f,E,d.back H⟩
theorem Lj{c:Code}(h:Ok P C c S (aR (λS'=>Ok P C c S' (aR (λ_=>False) Q)) Q)):Ok P C (.loop c) S Q:=λa w d=>
 AO (λm a w=>(m=1/\S.holds C a w)\/(m=0/\∃S',Ok P C c S' (aR (λ_=>False) Q)/\S'.holds C a w)) 1 (.inl ⟨Y,d⟩) λm a w b=>by
  rcases b with⟨rfl,d⟩|⟨rfl,f,b,d⟩
  ·refine wpIn_mono (h a w d) λe g w' ⟨S',b,f⟩=>?_;cases e with
   |normal=>exact⟨0,by omega,.inr ⟨Y,S',b,f⟩⟩
   |_=>exact⟨S',b,f⟩
  refine wpIn_mono (b a w d) λe g w' ⟨S',b,f⟩=>?_;cases e with
  |normal=>exact b.elim
  |_=>exact⟨S',b,f⟩
theorem e1{α:Type}{r:α}{G:α->Prop}(h:G r):∀c,some c=some r->G c:=λc e=>by cases e;exact h
end
section steps
variable {P:Program}{C:Ctx}{S:AS}{Q:Exit->AS->Prop}{R:AS->Prop}{ops:Array Oper}{rest:List Oper}{acc:List Ac}{d b c:Nat}{key:Int}{s:SV}{T kt et ty u0 u1:TypeId}{pos p0 p1:String}{aft a0 a1:Array Edge}{x y z:Operand}
abbrev cM(C:Ctx)(b:Nat)(D:Int)(s:SV):Ctx:=C.wJ (JM b D s) (jM C b D s)
abbrev cI(C:Ctx)(b c:Nat)(D:Int)(s:SV):Ctx:=C.wJ (JI b c D s) (jI C b c D s)
theorem bw.toM{E:Env}{a:Act}{w:World}(h:bw (cI C b c key s) S E a w):bw (cM C b key s) S E a w:=by
 have hj:JI b c key s S.g S.go E.O E.M w:=h.jj;exact⟨h.wf,h.marks,h.size,h.os,h.tape,h.output,h.grown,h.frame,h.m0,h.Be,h.kf,h.tm,h.ob,h.mine,h.inj,h.qZ,h.GK,hj.2.1,by rw[if_neg hj.1];exact hj.2.2.2.1⟩
abbrev AS.at(S:AS)(g:Nat):AS:=⟨S.n,S.t,S.o,g,S.go⟩
theorem aba{id D K:Nat}{y:Code}(H:Int)(s:SV)(hJ:∀g h O M w,C.J g h O M w)(I:∀b,Ok P (cM C b H s) y (((S.at 0).set D (.sv (.v (.map (some b))))).set K (.sv (.v (.map (some b))))) Q)(h0:D<S.n:=by exact tl Y)(h1:K<S.n:=by exact tl Y):
  Ok P C (.seq (.region id #[⟨some D,.makeMap T none,u0,p0,a0,none⟩,⟨some K,.assign (.tmp D),u1,p1,a1,none⟩] false) y) S Q:=by
 rintro a w ⟨E,h⟩;refine wpIn_seq (wpIn_region ?_);show wpOpsIn _ _ _ _ _ [0,1] a w;rw[wpOpsIn_cons];refine cW (C:=C) rfl rfl (cZ (C:=C) ζ run_make ?_);have e:bw (cM C w.heap.size H s) (S.at 0) {E with O:=λx=>E.O x\/x=w.heap.size} a (xw w #[] 0):=h.out 0 _ (λb q=>.inl q) (λb q=>by
   rcases q with q|q
   ·exact .inl q
   refine .inr ⟨by omega,?_⟩;subst q;show _<(w.heap.push _).size;simp) (λk c _=>by show(w.heap.push _)[k]? =_;rw[Array.getElem?_push,if_neg ω]) (by show _<=(w.heap.push _).size;simp) Y Y Y ⟨.inr Y,by rw[if_pos rfl];exact yM w #[] 0⟩
 have c:=e.put (d:=D) (x:=.sv (.v (.map (some w.heap.size)))) (v:=.map (some w.heap.size)) Y h0 rz;show wpOpsIn _ _ _ _ _ _ (a.put (some D) (.map (some w.heap.size))) _;generalize a.put (some D) (.map (some w.heap.size))=e at c⊢;have f:e.eval (.tmp D)=.map (some w.heap.size):=by
  have:=c.ev (.tmp D);rw[show AS.ev _ (.tmp D)=_ from AS.oA _ _ _]at this;exact this
 rw[wpOpsIn_cons];refine cW (C:=C) rfl rfl (cZ (C:=C) ζ (r:=.ok (.value (.map (some w.heap.size))) _) (by show Result.ok (Next.value (e.eval (.tmp D))) _=_;rw[f]) ?_);have f:=c.put (d:=K) (x:=.sv (.v (.map (some w.heap.size)))) (v:=.map (some w.heap.size)) Y h1 rz;show wpOpsIn _ _ _ _ _ _ (e.put (some K) (.map (some w.heap.size))) _;rw[wpOpsIn];exact afE hJ (I w.heap.size) ⟨_,f⟩
theorem anJ{zs:List Value}[tM:By P T kt et][tI:dZ P kt .i64][tZ:ez P et (.agg ⟨zs⟩)](next:RunT P (cM C b key s) ops true (λ_ S=>R S) rest [] (S.set d (.sv (.lK [.agg (zs.map SV.v),.v (.bool false)]))))
  (hx:S.ev x=.sv (.v (.map (some b))):=by exact rfl) (hy:S.ev y=.sv (.v (.int .i64 key)):=by exact rfl) (hg:S.g=0:=by exact rfl) (hd:d<S.n:=by exact tl Y):
  RunT P (cM C b key s) ops true (λ_ S=>R S) (⟨some d,.lookup T x y true,ty,pos,aft,none⟩::rest) acc S:=by
 refine .inr ⟨Y,λS'=>S'=S.set d (.sv (.lK [.agg (zs.map SV.v),.v (.bool false)])),?_,?_⟩
 ·rintro i a w L Q ho ⟨E,h⟩ hL;refine cW (C:=cM C b key s) ho Y ?_;have h1:a.eval x=.map (some b):=by have:=h.ev x;rw[hx]at this;exact this
  have h2:a.eval y=.int .i64 key:=by have:=h.ev y;rw[hy]at this;exact this
  have hj:JM b key s S.g S.go E.O E.M w:=h.jj;rw[hg]at hj;have hb:w.heap[b]? =some (.map #[] 0):=by have:=hj.2;rw[if_pos rfl]at this;exact this
  have hz:(zeroValue et).run P w=.ok (.agg ⟨zs⟩) w:=ez.run (t:=tZ) w;have hrun:(execOp a.eval ⟨some d,.lookup T x y true,ty,pos,aft,none⟩).run P w=.ok (.value (.tuple #[.agg ⟨zs⟩,.bool false])) w:=by
   simp[execOp,h1,h2,Instr.lookup,underlying,tM.u,getM hb,ckM,Instr.findKey,tI.h,Instr.findNow,hz]
  exact cZ (C:=cM C b key s) ζ hrun (hL _ _ _ rfl ⟨E,h.put (x:=.sv (.lK [.agg (zs.map SV.v),.v (.bool false)])) ⟨_,rfl,⟨_,rfl,SV.jN.GP _ _⟩,rfl,an⟩ hd rz⟩)
 rintro S' rfl;exact next
theorem anK[tM:By P T kt et][tI:dZ P kt .i64](hz:S.ev z=.sv s)(next:RunT P (cM C b key s) ops true (λ_ S=>R S) rest [] (S.at 1))
  (hx:S.ev x=.sv (.v (.map (some b))):=by exact rfl) (hy:S.ev y=.sv (.v (.int .i64 key)):=by exact rfl) (hg:S.g=0:=by exact rfl):
  RunT P (cM C b key s) ops true (λ_ S=>R S) (⟨none,.mapUpdate T x y z,ty,pos,aft,none⟩::rest) acc S:=by
 refine .inr ⟨Y,λS'=>S'=S.at 1,?_,?_⟩
 ·rintro i a w L Q ho ⟨E,h⟩ hL;refine cW (C:=cM C b key s) ho Y ?_;have h1:a.eval x=.map (some b):=by have:=h.ev x;rw[hx]at this;exact this
  have h2:a.eval y=.int .i64 key:=by have:=h.ev y;rw[hy]at this;exact this
  have h3:s.h E.M (a.eval z):=by have:=h.ev z;rw[hz]at this;exact this
  have hj:JM b key s S.g S.go E.O E.M w:=h.jj;rw[hg]at hj;have hb:w.heap[b]? =some (.map #[] 0):=by have:=hj.2;rw[if_pos rfl]at this;exact this
  have hlt:=(Array.getElem?_eq_some_iff.1 hb).1;have hrun:(execOp a.eval ⟨none,.mapUpdate T x y z,ty,pos,aft,none⟩).run P w=.ok .skip {w with heap:=w.heap.setIfInBounds b (.map (#[].push ⟨.int .i64 key,a.eval z,0⟩) 1)}:=by
   simp[execOp,h1,h2,Instr.mapUpdate,underlying,tM.u,getM hb,ckM,Instr.findKey,tI.h,Instr.findNow,aon _ hb]
  refine cZ (C:=cM C b key s) ζ hrun (hL _ a _ rfl ?_);have g:=h.out (J:=JM b key s) (hj:=jM _ b key s) (w':={w with heap:=w.heap.setIfInBounds b (.map (#[].push ⟨.int .i64 key,a.eval z,0⟩) 1)}) 1 E.O (λ_ q=>q) (λ_ q=>.inl q) (λk _ hn=>by
   show(w.heap.setIfInBounds b _)[k]? =_;rw[Array.getElem?_setIfInBounds,if_neg (λ(e:b=k)=>hn (e▸hj.1))]) (by show _<=(w.heap.setIfInBounds b _).size;simp) Y Y Y ⟨hj.1,by
   rw[if_neg ξ];exact⟨_,by show(w.heap.setIfInBounds b _)[b]? =_;rw[Array.getElem?_setIfInBounds,if_pos Y,if_pos hlt];rfl,h3⟩⟩
  exact⟨_,g⟩
 rintro S' rfl;exact next
theorem anL[tM:By P T kt et](next:RunT P (cM C b key s) ops true (λ_ S=>R S) rest [] (S.set d (.sv (.v (.int .i64 1)))))
  (hx:S.ev x=.sv (.v (.map (some b))):=by exact rfl) (hg:S.g=1:=by exact rfl) (hd:d<S.n:=by exact tl Y):
  RunT P (cM C b key s) ops true (λ_ S=>R S) (⟨some d,.call ⟨.builtin .len,#[x],#[T]⟩,ty,pos,aft,none⟩::rest) acc S:=by
 refine .inr ⟨Y,λS'=>S'=S.set d (.sv (.v (.int .i64 1))),?_,?_⟩
 ·rintro i a w L Q ho ⟨E,h⟩ hL;refine cW (C:=cM C b key s) ho Y ?_;have h1:a.eval x=.map (some b):=by have:=h.ev x;rw[hx]at this;exact this
  have hj:JM b key s S.g S.go E.O E.M w:=h.jj;rw[hg]at hj;obtain⟨v,hb,hv⟩:∃v,w.heap[b]? =some (.map #[⟨.int .i64 key,v,0⟩] 1)/\s.h E.M v:=by have:=hj.2;rw[if_neg ξ]at this;exact this
  have hrun:(execOp a.eval ⟨some d,.call ⟨.builtin .len,#[x],#[T]⟩,ty,pos,aft,none⟩).run P w=.ok (.value (.int .i64 1)) w:=by
   simp[execOp,resolve,invoke,builtin,Builtin.len_,underlying,tM.u,h1,goInt,getM hb]
  exact cZ (C:=cM C b key s) ζ hrun (hL _ _ _ rfl ⟨E,h.put (x:=.sv (.v (.int .i64 1))) rfl hd rz⟩)
 rintro S' rfl;exact next
theorem abb{id m D I:Nat}{y:Code}[tM:By P T kt et](hm:S.t m=.sv (.v (.map (some b))))(H:∀c,Ok P (cI C b c key s) y ((S.set D (.sv (.v (.map (some b))))).set I (.sv (.v (.pointer (some ⟨c,0,none⟩))))) Q)(K:S.g=1:=by exact rfl)(h0:D<S.n:=by exact tl Y)(h1:I<S.n:=by exact tl Y):
  Ok P (cM C b key s) (.seq (.region id #[⟨some D,.move (.tmp m),u0,p0,a0,none⟩,⟨some I,.range T (.tmp D),u1,p1,a1,none⟩] false) y) S Q:=by
 rintro a w ⟨E,h⟩;refine wpIn_seq (wpIn_region ?_);show wpOpsIn _ _ _ _ _ [0,1] a w;have hj:JM b key s S.g S.go E.O E.M w:=h.jj;rw[K]at hj;obtain⟨v,i,l⟩:∃v,w.heap[b]? =some (.map #[⟨.int .i64 key,v,0⟩] 1)/\s.h E.M v:=by have:=hj.2;rw[if_neg ξ]at this;exact this
 have f:=(Array.getElem?_eq_some_iff.1 i).1;have f:a.eval (.tmp m)=.map (some b):=by
  have:=h.ev (.tmp m);rw[show S.ev (.tmp m)=_ from hm]at this;exact this
 rw[wpOpsIn_cons];refine cW (C:=cM C b key s) rfl rfl (cZ (C:=cM C b key s) ζ (r:=.ok (.value (.map (some b))) w) (by show Result.ok (Next.value (a.eval (.tmp m))) _=_;rw[f]) ?_);have f:=h.put (d:=D) (x:=.sv (.v (.map (some b)))) (v:=.map (some b)) Y h0 rz;show wpOpsIn _ _ _ _ _ _ (a.put (some D) (.map (some b))) _;generalize a.put (some D) (.map (some b))=j at f⊢;have p:j.eval (.tmp D)=.map (some b):=by
  have:=f.ev (.tmp D);rw[show AS.ev _ (.tmp D)=_ from AS.oA _ _ _]at this;exact this
 rw[wpOpsIn_cons];refine cW (C:=cM C b key s) rfl rfl (cZ (C:=cM C b key s) ζ (r:=.ok (.value (.pointer (some ⟨w.heap.size,0,none⟩))) (w.alloc (.mapIter (some b) 1 #[] 1))) (by
  simp[execOp,p,Instr.range,underlying,tM.u,getM i]) ?_)
 have p:bw (cI C b w.heap.size key s) ((S.set D (.sv (.v (.map (some b))))).at 1) {E with O:=λx=>E.O x\/x=w.heap.size} j (w.alloc (.mapIter (some b) 1 #[] 1)):=f.out 1 _ (λb q=>.inl q) (λb q=>by
   rcases q with q|q
   ·exact .inl q
   refine .inr ⟨by omega,?_⟩;subst q;show _<(w.heap.push _).size;simp) (λk f _=>by show(w.heap.push _)[k]? =_;rw[Array.getElem?_push,if_neg ω]) (by show _<=(w.heap.push _).size;simp) Y Y Y ⟨by decide,.inl hj.1,.inr Y,⟨v,by show(w.heap.push _)[b]? =_;rw[Array.getElem?_push,if_neg ω];exact i,l⟩,by show(w.heap.push _)[w.heap.size]? =_;simp⟩
 have f:=p.put (d:=I) (x:=.sv (.v (.pointer (some ⟨w.heap.size,0,none⟩)))) (v:=.pointer (some ⟨w.heap.size,0,none⟩)) Y h1 rz;show wpOpsIn _ _ _ _ _ _ (j.put (some I) (.pointer (some ⟨w.heap.size,0,none⟩))) _;rw[wpOpsIn];exact wpIn_mono (H w.heap.size _ _ ⟨_,by have:=f;rw[show(AS.at (S.set D (.sv (.v (.map (some b))))) 1)=S.set D (.sv (.v (.map (some b))))from by show AS.mk S.n _ S.o 1 S.go=AS.mk S.n _ S.o S.g S.go;rw[K];rfl]at this;exact this⟩) λe j w' ⟨S',f,E',i⟩=>⟨S',f,E',i.toM⟩
theorem anO(next:RunT P (cI C b c key s) ops true (λ_ S=>R S) rest [] ((S.at 2).set d (.sv (.lK [.v (.bool true),.v (.int .i64 key),s]))))
  (hx:S.ev x=.sv (.v (.pointer (some ⟨c,0,none⟩))):=by exact rfl) (hg:S.g=1:=by exact rfl) (hd:d<S.n:=by exact tl Y):
  RunT P (cI C b c key s) ops true (λ_ S=>R S) (⟨some d,.next x false,ty,pos,aft,none⟩::rest) acc S:=by
 refine .inr ⟨Y,λS'=>S'=(S.at 2).set d (.sv (.lK [.v (.bool true),.v (.int .i64 key),s])),?_,?_⟩
 ·rintro i a w L Q ho ⟨E,h⟩ hL;refine cW (C:=cI C b c key s) ho Y ?_;have h1:a.eval x=.pointer (some ⟨c,0,none⟩):=by have:=h.ev x;rw[hx]at this;exact this
  have hj:JI b c key s S.g S.go E.O E.M w:=h.jj;rw[hg]at hj;obtain⟨_,q1,q2,⟨v,hb,hv⟩,hc⟩:=hj;rw[if_pos rfl]at hc;have hlt:=(Array.getElem?_eq_some_iff.1 hc).1;have hbc:b≠c:=λe=>by subst e;rw[hb]at hc;cases hc
  have hrun:(execOp a.eval ⟨some d,.next x false,ty,pos,aft,none⟩).run P w=.ok (.value (.tuple #[.bool true,.int .i64 key,v])) {w with heap:=w.heap.setIfInBounds c (.mapIter (some b) 1 #[0] 1)}:=by
   have gc:(getObj c).run P w=.ok (.mapIter (some b) 1 #[] 1) w:=by simp[getObj,Sem.run,hc]
   have sc:∀o,(setObj c o).run P w=.ok () {w with heap:=w.heap.setIfInBounds c o}:=λo=>by simp[setObj,Sem.run,hc]
   simp[execOp,h1,Instr.next,gc,getM hb,sc];exact λq=>by cases q
  refine cZ (C:=cI C b c key s) ζ hrun (hL _ _ _ rfl ?_);have g:=h.out (J:=JI b c key s) (hj:=jI _ b c key s) (w':={w with heap:=w.heap.setIfInBounds c (.mapIter (some b) 1 #[0] 1)}) 2 E.O (λ_ q=>q) (λ_ q=>.inl q) (λk _ hn=>by
   show(w.heap.setIfInBounds c _)[k]? =_;rw[Array.getElem?_setIfInBounds,if_neg (λ(e:c=k)=>hn (e▸q2))]) (by show _<=(w.heap.setIfInBounds c _).size;simp) Y Y Y ⟨by decide,q1,q2,⟨v,by show(w.heap.setIfInBounds c _)[b]? =_;rw[Array.getElem?_setIfInBounds,if_neg (Ne.symm hbc)];exact hb,hv⟩,by show(w.heap.setIfInBounds c _)[c]? =_;rw[Array.getElem?_setIfInBounds,if_pos Y,if_pos hlt,if_neg ξ]⟩
  exact⟨_,g.put (x:=.sv (.lK [.v (.bool true),.v (.int .i64 key),s])) ⟨_,Y,Y,Y,hv,an⟩ hd rz⟩
 rintro S' rfl;exact next
theorem anU(next:RunT P (cI C b c key s) ops true (λ_ S=>R S) rest [] (S.set d (.sv (.lK [.v (.bool false)]))))
  (hx:S.ev x=.sv (.v (.pointer (some ⟨c,0,none⟩))):=by exact rfl) (hg:S.g=2:=by exact rfl) (hd:d<S.n:=by exact tl Y):
  RunT P (cI C b c key s) ops true (λ_ S=>R S) (⟨some d,.next x false,ty,pos,aft,none⟩::rest) acc S:=by
 refine .inr ⟨Y,λS'=>S'=S.set d (.sv (.lK [.v (.bool false)])),?_,?_⟩
 ·rintro i a w L Q ho ⟨E,h⟩ hL;refine cW (C:=cI C b c key s) ho Y ?_;have h1:a.eval x=.pointer (some ⟨c,0,none⟩):=by have:=h.ev x;rw[hx]at this;exact this
  have hj:JI b c key s S.g S.go E.O E.M w:=h.jj;rw[hg]at hj;obtain⟨_,q1,q2,⟨v,hb,hv⟩,hc⟩:=hj;rw[if_neg ξ]at hc;have hrun:(execOp a.eval ⟨some d,.next x false,ty,pos,aft,none⟩).run P w=.ok (.value (.tuple #[.bool false])) w:=by
   have gc:(getObj c).run P w=.ok (.mapIter (some b) 1 #[0] 1) w:=by simp[getObj,Sem.run,hc]
   simp[execOp,h1,Instr.next,gc,getM hb];exact λq=>by cases q
  exact cZ (C:=cI C b c key s) ζ hrun (hL _ _ _ rfl ⟨E,h.put (x:=.sv (.lK [.v (.bool false)])) ⟨_,rfl,rfl,an⟩ hd rz⟩)
 rintro S' rfl;exact next
theorem anV(next:RunT P (cI C b c key s) ops true (λ_ S=>R S) rest [] (S.set d (.sv (.lK [.v (.int .i64 key),s]))))
  (hx:S.ev x=.sv (.v (.pointer (some ⟨c,0,none⟩))):=by exact rfl) (hg:S.g=2:=by exact rfl) (hd:d<S.n:=by exact tl Y):
  RunT P (cI C b c key s) ops true (λ_ S=>R S) (⟨some d,.entry x,ty,pos,aft,none⟩::rest) acc S:=by
 refine .inr ⟨Y,λS'=>S'=S.set d (.sv (.lK [.v (.int .i64 key),s])),?_,?_⟩
 ·rintro i a w L Q ho ⟨E,h⟩ hL;refine cW (C:=cI C b c key s) ho Y ?_;have h1:a.eval x=.pointer (some ⟨c,0,none⟩):=by have:=h.ev x;rw[hx]at this;exact this
  have hj:JI b c key s S.g S.go E.O E.M w:=h.jj;rw[hg]at hj;obtain⟨_,q1,q2,⟨v,hb,hv⟩,hc⟩:=hj;rw[if_neg ξ]at hc;have hrun:(execOp a.eval ⟨some d,.entry x,ty,pos,aft,none⟩).run P w=.ok (.value (.tuple #[.int .i64 key,v])) w:=by
   have gc:(getObj c).run P w=.ok (.mapIter (some b) 1 #[0] 1) w:=by simp[getObj,Sem.run,hc]
   simp[execOp,h1,Instr.entry,gc,getM hb]
  exact cZ (C:=cI C b c key s) ζ hrun (hL _ _ _ rfl ⟨E,h.put (x:=.sv (.lK [.v (.int .i64 key),s])) ⟨_,rfl,rfl,hv,an⟩ hd rz⟩)
 rintro S' rfl;exact next
end steps
section steps
variable {P:Program}{C:Ctx}{ops:Array Oper}{S:AS}{nd:Bool}{K:List Ac->AS->Prop}{rest:List Oper}{acc:List Ac}
variable {gd:Option (Nat×Bool)}{rg:List Nat}{d j:Nat}{ty:TypeId}{pos:String}{aft:Array Edge}{x y z:Operand}{T U:TypeId}
theorem abc{d:Option Nat}{z0 D H:Value}[I:dx P U [(0,1),(1,1),(2,1)] [z0,D,H]]{ρ:Operand->Value}{w:World}{v u:Value}(hx:ρ x=v)(K:v.oneCell'=true)(hz:ρ z=u)(hu:u.oneCell'=true):(execOp ρ ⟨d,.build U #[(0,x),(2,z)],ty,pos,aft,gd⟩).run P w=.ok (.value (.agg #[v,D,u])) w:=by
 have a:=I.h;cases b:P.underlying U with
 |none=>rw[b]at a;cases a
 |some t=>
  rw[b]at a;cases t with
  |struct e=>
   simp only at a;have c:(zeroValue U).run P w=.ok (.agg ⟨[z0,D,H]⟩) w:=ez.run (t:=⟨I.hz⟩) w;have g:(e.mapM (λf=>do pure (f.offset,<-sizeOf f.type):Field->Sem (Nat×Nat))).run P w=.ok #[(0,1),(1,1),(2,1)] w:=by
    have:=Bw (P:=P) (w:=w) a;rw[<-Array.toArray_toList (xs:=e),List.mapM_toArray];rw[Sem.run_map,this];rfl
   simp only[execOp,Instr.build,underlying];simp only[Sem.run_bind,c,Result.andThen_ok,run_program,b,Sem.run_pure,Value.cells];have b:(Array.mapM (λf=>do
     let __do_lift<-sizeOf f.type
     pure (f.offset,__do_lift)) e:Sem _).run P w=.ok #[(0,1),(1,1),(2,1)] w:=g
   simp only[b,Result.andThen_ok];have b:Instr.fill (λi=>(#[(0,1),(1,1),(2,1)]:Array (Nat×Nat))[i]?) ⟨[z0,D,H]⟩ [(0,v),(2,u)]=some ⟨[v,D,u]⟩:=by
    simp[Instr.fill,je K,je hu]
    try rfl
   have c:(Array.map (λx=>match x with|(i,x)=>(i,ρ x)) #[(0,x),(2,z)]).toList=[(0,v),(2,u)]:=by simp[hx,hz]
   simp only[c,b,Sem.run_pure,Result.andThen_ok]
  |_=>cases a
theorem anZ{z0 I z2:Value}[tP:dx P T [(0,1),(1,1),(2,1)] [z0,I,z2]]{X:SV}[oX:One X]{H:List Nat}(hx:S.ev x=.sv X)(hz:S.ev z=.ob j)(o1:I5 S H (.ob j))(D:Nx P C ops nd K rest acc S (rg++(bD x++bD z)) H ⟨some (d,.agg [.sv X,.sv (.v I),.ob j]),[]⟩)(hg:Gd ops S gd rg:=by first|exact .none|exact .some Y Y)(hd:d<S.n:=by exact tl Y):
  RunT P C ops nd K (⟨some d,.build T #[(0,x),(2,z)],ty,pos,aft,gd⟩::rest) acc S:=
 aeY hg (bD x++bD z) H _ hd ζ (λS' ht g E a w h=>by
  have b:=(h.qy hx ht (λ_ h=>List.mem_append_left _ h)).1;obtain⟨c,hl⟩:=h.qy hz ht (λ_ h=>List.mem_append_right _ h);have e:=o1.one h (λi f=>g i f) c;exact⟨_,abc Y (oX.h _ _ b) Y e,⟨[_,_,_],Y,b,Y,c,an⟩,λq f=>hl q (by simpa[AV.refs,uS]using f)⟩) D
theorem aoa[tA:vI P T 3]{i off:Nat}{cs:List AV}{X H:SV}[oX:One X][oY:One H]{I:List Nat}(hx:S.ev x=.ptr i off)(hB:S.o i=some (.box U cs))(hy:S.ev y=.agg [.sv X,.sv H,.ob j])(o1:I5 S I (.ob j))(D:Nx P C ops nd K rest acc S (rg++(bD x++bD y)) (i::I) ⟨none,[(i,.box U (pq cs off [.sv X,.sv H,.ob j]))]⟩)(hl:Nat.ble (off+3) cs.length=true:=by exact rfl)(hg:Gd ops S gd rg:=by first|exact .none|exact .some Y Y):
  RunT P C ops nd K (⟨none,.store T x y,ty,pos,aft,gd⟩::rest) acc S:=
 akt hg (us:=[.sv X,.sv H,.ob j]) _ I hx hB (λ_ h=>List.mem_append_left _ h) (λw=>tA.size w) Y (af hl) (λS' ht n E a w h=>by
  obtain⟨⟨vs,e,c⟩,b⟩:=h.qy hy ht (λ_ h=>List.mem_append_right _ h)
  match vs,c with
  |[v0,m,l],⟨k,c,f,_⟩=>
   refine⟨[v0,m,l],by rw[e];rfl,⟨k,c,f,an⟩,λu d=>?_,λz g=>?_⟩
   ·simp only[List.mem_cons,List.not_mem_nil,or_false]at d;rcases d with rfl|rfl|rfl
    ·exact oX.h _ _ k
    ·exact oY.h _ _ c
    exact o1.one h (λi c=>n i (List.mem_cons_of_mem _ c)) f
   simp only[List.mem_cons,List.not_mem_nil,or_false]at g;rcases g with rfl|rfl|rfl
   ·exact rz
   ·exact rz
   exact λq c=>b q (by simpa[AV.refs,uS]using c)) D
end steps
end
end Go.Fw
namespace Go.Proofs.YtianbhacbgnboaaGreat
section
open Go.Fw Go.RowKit
noncomputable def uL(D:List (List Sp)):Option (List zI):=match D with|[[s]]=>some [⟨s.dm,IntKind.i64.wrap (0+s.kS),[IntKind.i64.wrap (0+s.kS)]⟩]|_=>none
theorem abd(s:Sp):Pure ah 57 [aoc 1 (eS 2 iq) [[s]]] (aoc 3 iJ [⟨s.dm,IntKind.i64.wrap (0+s.kS),[IntKind.i64.wrap (0+s.kS)]⟩]):=by
 refine aZ Tryz.func57 Y λE w vs hvs=>?_;refine sr<|aC Y<|dn<|aba s.dm (.agg (iJ ⟨s.dm,IntKind.i64.wrap (0+s.kS),[IntKind.i64.wrap (0+s.kS)]⟩)) (λ_ _ _ _ _=>trivial) λb=>?_;refine aT<|sr<|aB Y<|aN (l:=[[s]]) (f:=some) (r:=1) Y<|e1<|aB Y<|dn<|aV<|Lj<|sr<|aL (p:=0) (q:=1) (f:=some) (r:=true) Y<|e1<|dn<|aT<|Zd<|aX<|aR.n<|aT<|aV<|?_;refine sr<|aB Y<|aQ (l:=[[s]]) (e:=eS 2 iq) (i:=0) (f:=some) (r:=[s]) Y Y<|e1<|aI Y Y<|aC Y<|aC Y<|dn<|sr<|aB Y<|aN (l:=[s]) (f:=some) (r:=1) Y<|e1<|aB Y<|dn<|aV<|Lj<|sr<|aL (p:=0) (q:=1) (f:=some) (r:=true) Y<|e1<|dn<|aT<|Zd<|aX<|aR.n<|aT<|aV<|?_;refine sr<|aQ (l:=[s]) (e:=iq) (i:=0) (f:=some) (r:=s) Y Y<|e1<|aeC Y (.cons (.cons .nil))<|aM (cs:=[.v (.int .i64 0),.v (.int .i64 0)]) (by exact⟨aq,aq,an⟩)<|aJ Y Y Y<|dn<|?_;refine sr<|aB Y<|aG Y Y<|aH Y Y Y<|anJ (zs:=[.int .i64 0,.int .i64 0,.slice none 0 0])<|aB Y<|aP Y Y<|aP Y Y<|aM (cs:=[.v (.int .i64 0),.v (.int .i64 0),aoc 1 bh []]) (by exact⟨aq,aq,aA,an⟩)<|aJ (us:=[.v (.int .i64 0),.v (.int .i64 0),.v (.slice none 0 0)]) Y Y Y<|aC Y<|dn<|?_
 refine aT<|sr<|aB Y<|ahr true<|dn<|Zd<|bz mixed<|aG Y Y<|aH Y Y Y<|aB Y<|aN (l:=[[s]]) (f:=some) (r:=1) Y<|e1<|aeW (e:=bh) (c:=1) 0 (by exact⟨aq,an⟩) (f:=some) (r:=[0]) Y<|e1<|anZ Y Y (.ob Y)<|aoa Y Y Y (.ob Y)<|de<|aR.n<|?_;refine sr<|aG Y Y<|aH Y Y Y<|aG Y Y<|aH Y Y Y<|aO (p:=0) (q:=s.kS) (f:=some) (r:=IntKind.i64.wrap (0+s.kS)) Y<|e1<|aG Y Y<|afv Y Y Y<|dn<|?_;refine sd mixed<|aG rfl rfl<|aH rfl rfl rfl<|aB rfl<|acr (p:=.r 40) (l:=[0]) (v:=0) rfl (.r (.r rfl)) (f:=some) (r:=0) rfl<|e1<|aeX (p:=.r 40) (l:=[0]) (e:=bh) rfl (.r rfl) (λ_=>rfl) (f:=some) (r:=0) rfl<|e1<|aG rfl rfl<|aH rfl rfl rfl<|aO (p:=0) (q:=s.kS) (f:=some) (r:=IntKind.i64.wrap (0+s.kS)) rfl<|e1<|acr (p:=.r 40) (l:=[0]) (v:=0) rfl (.r (.r rfl)) (f:=some) (r:=0) rfl<|e1<|afx (p:=.r 40) (IntKind.i64.wrap (0+s.kS)) rfl rfl (.r rfl) (f:=some) (r:=[IntKind.i64.wrap (0+s.kS)]) rfl<|e1<|dd<|?_;refine ow (bT (i:=40) (e:=bh) (l:=[IntKind.i64.wrap (0+s.kS)]) Y)<|aU<|aB Y<|aG Y Y<|aH Y Y Y<|aK Y Y (.cons Y (.cons Y (.cons Y .nil)))<|anK Y<|aF<|bn.n<|aR.n<|aU<|aO (p:=0) (q:=1) (f:=some) (r:=1) Y<|e1<|aB Y<|aF<|aR.n<|?_
 refine sr<|aL (p:=1) (q:=1) (f:=some) (r:=false) Y<|e1<|dn<|aT<|WC<|bt<|aR.x<|aR.x<|bn.x<|bn.n<|aR.n<|aU<|aO (p:=0) (q:=1) (f:=some) (r:=1) Y<|e1<|aB Y<|aF<|aR.n<|?_;refine sr<|aL (p:=1) (q:=1) (f:=some) (r:=false) Y<|e1<|dn<|aT<|WC<|bt<|aR.x<|aR.x<|bn.x<|aR.n<|?_;refine sr<|aB Y<|anL<|ajq (e:=iJ) (c:=1) (f:=some) (r:=[]) Y<|e1<|aey Y<|dn<|aT<|abb Y λc=>aV<|Lj<|sr<|anO<|aP Y Y<|dn<|aT<|Zd<|aX<|aR.n<|aV<|?_;refine sr<|anV<|aP Y Y<|aM (cs:=[.v (.int .i64 0),.v (.int .i64 0),aoc 1 bh []]) (by exact⟨aq,aq,aA,an⟩)<|aJ (us:=iJ (⟨s.dm,IntKind.i64.wrap (0+s.kS),[IntKind.i64.wrap (0+s.kS)]⟩:zI)) Y Y Y<|dn<|aU<|aaw Y<|aK Y Y (.cons Y (.cons Y (.cons Y .nil)))<|aeI (l:=[(⟨s.dm,IntKind.i64.wrap (0+s.kS),[IntKind.i64.wrap (0+s.kS)]⟩:zI)]) (e:=iJ) (.agg Y .nil) Y<|aeM (l:=[]) (k:=[(⟨s.dm,IntKind.i64.wrap (0+s.kS),[IntKind.i64.wrap (0+s.kS)]⟩:zI)]) (e:=iJ) Y Y (f:=some) (r:=[(⟨s.dm,IntKind.i64.wrap (0+s.kS),[IntKind.i64.wrap (0+s.kS)]⟩:zI)]) Y<|e1<|aey Y<|aF<|bn.n<|aR.n<|?_;refine sr<|anU<|aP Y Y<|dn<|aT<|WC<|bt<|aR.x<|aR.x<|bn.x<|aR.n<|sr<|aaw Y<|aey Y<|dn<|?_
 exact ow (bT (i:=75) (e:=iJ) (l:=[(⟨s.dm,IntKind.i64.wrap (0+s.kS),[IntKind.i64.wrap (0+s.kS)]⟩:zI)]) Y)<|aY<|f1 (m:=()) Y
theorem yS{x0:List (List Sp)}{r:List zI}(h:uL x0=some r):Pure ah 57 [aoc 1 (eS 2 iq) x0] (aoc 3 iJ r):=by
 match x0,h with
 |[[s]],h=>cases h;exact abd s
end
end Go.Proofs.YtianbhacbgnboaaGreat
namespace Go.Proofs
section
open Go.Shelf
def Tryz.afF:Go.Shelf.Ren:=⟨λ|6=>58|10=>110|11=>111|12=>112|13=>113|14=>114|24=>168|25=>169|26=>170|27=>171|28=>172|29=>173|30=>174|31=>175|32=>176|33=>177|34=>210|35=>211|36=>212|37=>213|38=>214|39=>242|n=>n,λ|20=>20|26=>139|35=>201|0=>0|37=>203|3=>3|41=>188|44=>209|49=>189|51=>123|4=>4|54=>249|53=>248|58=>253|5=>5|9=>9|60=>290|64=>294|66=>318|67=>319|17=>17|32=>198|33=>199|82=>336|12=>12|75=>329|76=>330|77=>331|78=>332|79=>333|80=>334|n=>n,λ|n=>n⟩
theorem Tryz.sl6:Go.Proofs.LaysGg.n6 Tryz.prog Tryz.afF:={
 mixed:=by kernel_rfl
 f6:=Tryz.func58.trans (congrArg some (by kernel_rfl))
 f10:=Tryz.func110.trans (congrArg some (by kernel_rfl))
 f11:=Tryz.func111.trans (congrArg some (by kernel_rfl))
 f12:=Tryz.func112.trans (congrArg some (by kernel_rfl))
 f13:=Tryz.func113.trans (congrArg some (by kernel_rfl))
 f14:=Tryz.func114.trans (congrArg some (by kernel_rfl))
 f24:=Tryz.func168.trans (congrArg some (by kernel_rfl))
 f25:=Tryz.func169.trans (congrArg some (by kernel_rfl))
 f26:=Tryz.func170.trans (congrArg some (by kernel_rfl))
 f27:=Tryz.func171.trans (congrArg some (by kernel_rfl))
 f28:=Tryz.func172.trans (congrArg some (by kernel_rfl))
 f29:=Tryz.func173.trans (congrArg some (by kernel_rfl))
 f30:=Tryz.func174.trans (congrArg some (by kernel_rfl))
 f31:=Tryz.func175.trans (congrArg some (by kernel_rfl))
 f32:=Tryz.func176.trans (congrArg some (by kernel_rfl))
 f33:=Tryz.func177.trans (congrArg some (by kernel_rfl))
 f34:=Tryz.func210.trans (congrArg some (by kernel_rfl))
 f35:=Tryz.func211.trans (congrArg some (by kernel_rfl))
 f36:=Tryz.func212.trans (congrArg some (by kernel_rfl))
 f37:=Tryz.func213.trans (congrArg some (by kernel_rfl))
 f38:=Tryz.func214.trans (congrArg some (by kernel_rfl))
 f39:=Tryz.func242.trans (congrArg some (by kernel_rfl))
 t0:=Tryz.underlying0
 a0:=Tryz.isAgg0
 z0:=Tryz.sizeOf0
 v0:=Tryz.zeroValue0
 i0:=by kernel_rfl
 t3:=Tryz.underlying3
 a3:=Tryz.isAgg3
 z3:=Tryz.sizeOf3
 v3:=Tryz.zeroValue3
 i3:=by kernel_rfl
 t4:=Tryz.underlying4
 a4:=Tryz.isAgg4
 z4:=Tryz.sizeOf4
 v4:=Tryz.zeroValue4
 i4:=by kernel_rfl
 t5:=Tryz.underlying5
 a5:=Tryz.isAgg5
 z5:=Tryz.sizeOf5
 v5:=Tryz.zeroValue5
 i5:=by kernel_rfl
 t9:=Tryz.underlying9
 a9:=Tryz.isAgg9
 z9:=Tryz.sizeOf9
 v9:=Tryz.zeroValue9
 i9:=by kernel_rfl
 t12:=Tryz.underlying12
 a12:=Tryz.isAgg12
 z12:=Tryz.sizeOf12
 v12:=Tryz.zeroValue12
 i12:=by kernel_rfl
 t17:=Tryz.underlying17
 a17:=Tryz.isAgg17
 z17:=Tryz.sizeOf17
 v17:=Tryz.zeroValue17
 i17:=by kernel_rfl
 t20:=Tryz.underlying20
 a20:=Tryz.isAgg20
 z20:=Tryz.sizeOf20
 v20:=Tryz.zeroValue20
 i20:=by kernel_rfl
 t26:=Tryz.underlying139
 a26:=Tryz.isAgg139
 z26:=Tryz.sizeOf139
 v26:=Tryz.zeroValue139
 i26:=by kernel_rfl
 t32:=Tryz.underlying198
 a32:=Tryz.isAgg198
 z32:=Tryz.sizeOf198
 v32:=Tryz.zeroValue198
 i32:=by kernel_rfl
 t33:=Tryz.underlying199
 a33:=Tryz.isAgg199
 z33:=Tryz.sizeOf199
 v33:=Tryz.zeroValue199
 i33:=by kernel_rfl
 t35:=Tryz.underlying201
 a35:=Tryz.isAgg201
 z35:=Tryz.sizeOf201
 v35:=Tryz.zeroValue201
 i35:=by kernel_rfl
 t37:=Tryz.underlying203
 a37:=Tryz.isAgg203
 z37:=Tryz.sizeOf203
 v37:=Tryz.zeroValue203
 i37:=by kernel_rfl
 t41:=Tryz.underlying188
 a41:=Tryz.isAgg188
 z41:=Tryz.sizeOf188
 v41:=Tryz.zeroValue188
 i41:=by kernel_rfl
 t44:=Tryz.underlying209
 a44:=Tryz.isAgg209
 z44:=Tryz.sizeOf209
 v44:=Tryz.zeroValue209
 i44:=by kernel_rfl
 t49:=Tryz.underlying189
 a49:=Tryz.isAgg189
 z49:=Tryz.sizeOf189
 v49:=Tryz.zeroValue189
 i49:=by kernel_rfl
 t51:=Tryz.underlying123
 a51:=Tryz.isAgg123
 z51:=Tryz.sizeOf123
 v51:=Tryz.zeroValue123
 i51:=by kernel_rfl
 t53:=Tryz.underlying248
 a53:=Tryz.isAgg248
 z53:=Tryz.sizeOf248
 v53:=Tryz.zeroValue248
 i53:=by kernel_rfl
 t54:=Tryz.underlying249
 a54:=Tryz.isAgg249
 z54:=Tryz.sizeOf249
 v54:=Tryz.zeroValue249
 i54:=by kernel_rfl
 t58:=Tryz.underlying253
 a58:=Tryz.isAgg253
 z58:=Tryz.sizeOf253
 v58:=Tryz.zeroValue253
 i58:=by kernel_rfl
 t60:=Tryz.underlying290
 a60:=Tryz.isAgg290
 z60:=Tryz.sizeOf290
 v60:=Tryz.zeroValue290
 i60:=by kernel_rfl
 t64:=Tryz.underlying294
 a64:=Tryz.isAgg294
 z64:=Tryz.sizeOf294
 v64:=Tryz.zeroValue294
 i64:=by kernel_rfl
 t66:=Tryz.underlying318
 a66:=Tryz.isAgg318
 z66:=Tryz.sizeOf318
 v66:=Tryz.zeroValue318
 i66:=by kernel_rfl
 t67:=Tryz.underlying319
 a67:=Tryz.isAgg319
 z67:=Tryz.sizeOf319
 v67:=Tryz.zeroValue319
 i67:=by kernel_rfl
 t75:=Tryz.underlying329
 a75:=Tryz.isAgg329
 z75:=Tryz.sizeOf329
 v75:=Tryz.zeroValue329
 i75:=by kernel_rfl
 t76:=Tryz.underlying330
 a76:=Tryz.isAgg330
 z76:=Tryz.sizeOf330
 v76:=Tryz.zeroValue330
 i76:=by kernel_rfl
 t77:=Tryz.underlying331
 a77:=Tryz.isAgg331
 z77:=Tryz.sizeOf331
 v77:=Tryz.zeroValue331
 i77:=by kernel_rfl
 t78:=Tryz.underlying332
 a78:=Tryz.isAgg332
 z78:=Tryz.sizeOf332
 v78:=Tryz.zeroValue332
 i78:=by kernel_rfl
 t79:=Tryz.underlying333
 a79:=Tryz.isAgg333
 z79:=Tryz.sizeOf333
 v79:=Tryz.zeroValue333
 i79:=by kernel_rfl
 t80:=Tryz.underlying334
 a80:=Tryz.isAgg334
 z80:=Tryz.sizeOf334
 v80:=Tryz.zeroValue334
 i80:=by kernel_rfl
 t82:=Tryz.underlying336
 a82:=Tryz.isAgg336
 z82:=Tryz.sizeOf336
 v82:=Tryz.zeroValue336
 i82:=by kernel_rfl}
end
end Go.Proofs
namespace Go.Proofs.YtianbhacbgnboaaGreat
section
open Go.Fw Go.RowKit Go.Shelf Go.Sort Go.Lib
def ck1(l:List zI):Option Unit:=if l.length<=1 then some ()else none
def abe(l:List Int):Option Unit:=if 2<=l.length/\l.length<=12/\Sort.insertionSort ltInt l.toArray 0 l.length=l.toArray then some ()else none
noncomputable def tiA:TypeInfo:=(Tryz.prog.info? 59).get ψ
noncomputable def tiB:TypeInfo:=(Tryz.prog.info? 2).get ψ
noncomputable def tiC:TypeInfo:=(Tryz.prog.info? 85).get ψ
noncomputable def tiD:TypeInfo:=(Tryz.prog.info? 138).get ψ
theorem sKI(n:Nat)(D:2<=n):Lib.swapperK n tiB 6=5:=by
 have a:tiB.hasPointers=false:=by kernel_rfl
 have b:tiB.bytes=8:=by kernel_rfl
 have c:(n==0)=false:=by simp;omega
 have d:(n==1)=false:=by simp;omega
 simp[Lib.swapperK,a,b,c,d]
theorem sKT(n:Nat)(h:n<=1):Lib.swapperK n tiD 25=n+1:=by
 rcases Nat.eq_zero_or_pos n with a|a
 ·subst a;simp[Lib.swapperK]
 obtain rfl:n=1:=by omega
 simp[Lib.swapperK]
theorem afG(D off c H size:Nat)(W:World)(G:Nat->Int)(I:W.cell? ⟨H,0,none⟩=some (.slice (some ⟨D,off,none⟩) size c))
  (hc:∀t,t<size->W.cell? ⟨D,off+t,none⟩=some (.int .i64 (G t))) (i j:Nat) (hi:i<size) (hj:j<size):
  Calls ah 64 #[.int .i64 i,.int .i64 j,.pointer (some ⟨H,0,none⟩)] W λe w'=>e=.returned (.bool (decide (G i<G j)))/\∃q,w'=W.drewN q:=by
 have a:=hc i hi;have a:=hc j hj
 go_enter Tryz.func64,Tryz.ntmps64
 go_wp2
 go_quiet (fail)
 go_wp2
 go_ret
 exact⟨Y,nq,Y⟩
instance:cE ah 58:={}
section
variable {C:Ctx}{S:AS}{Q:Exit->AS->Prop}{id:Nat}{p0 p1 p2 p3:String}{a0 a1 a2 a3:Array Edge}{u0 u1 u2 u3:TypeId}{at_:Array TypeId}
theorem Su{E:Env}{a:Act}{w:World}(h:bw C S E a w)(n:Nat)(os:Array Obj):bw C S {E with M:=E.M} a (Sort.grow (Sort.ahead w n) os):=
 h.grow (M':=E.M) (Mem.le_refl _) (λ_ _ _ e=>.inl e) (λb o v e=>by
  have c:=qw h.kf e;refine(h.kf b o v e).same ?_;show(w.heap++os)[b]? =_;rw[Array.getElem?_append,if_pos c]) ⟨Y,Y,Y,by show _<=(w.heap++os).size;simp,λk c=>by
  show(w.heap++os)[k]? =_;rw[Array.getElem?_append,if_pos c]⟩
theorem akA{P:Program}{w:World}{T:TypeId}{d:Option Nat}{ρ:Operand->Value}{x:Operand}{ty:TypeId}{pos:String}{aft:Array Edge}{v:Value}{E0:TypeId}{n:Nat}[D:ku P T E0 n](H:ρ x=v):(execOp ρ ⟨d,.makeInterface T x,ty,pos,aft,none⟩).run P w=.ok (.value (.iface T v)) w:=by
 simp[execOp,H,Instr.makeInterface,underlying,D.u]
theorem abf{f:FuncId}{s I D H K T:Nat}{n:Nat}{E0:TypeId}[tV:uG ah T][tS:ku ah T E0 n]{x:AV}(h2:S.t s=.ptr s 0)(hb:S.o s=some (.box T [x]))(hn:K<S.n)(hd:s<I/\I<D/\D<H/\H<K)
  (hc:∀E a w g v,bw C S E a w->x.holds E v->E.ν s=.pointer (some ⟨g,0,none⟩)->w.cell? ⟨g,0,none⟩=some v->Calls ah 58 #[.iface T v,.func (.func f) #[] #[.pointer (some ⟨g,0,none⟩)]] w λe w'=>e=.returned (.tuple #[])/\∃k os,w'=Sort.grow (Sort.ahead w k) os)
  (next:∀v0 v1 v2 v3:Value,Q .normal ((((S.set I (.sv (.v v0))).set D (.sv (.v v1))).set H (.sv (.v v2))).set K (.sv (.v v3)))):
  Ok ah C (.region id #[⟨some I,.load T (.tmp s),u0,p0,a0,none⟩,⟨some D,.makeInterface T (.tmp I),u1,p1,a1,none⟩,⟨some H,.makeFunc (.func f) #[] #[.tmp s],u2,p2,a2,none⟩,⟨some K,.call ⟨.value (.func 58),#[.tmp D,.tmp H],at_⟩,u3,p3,a3,none⟩] false) S Q:=by
 obtain⟨j,b,i,c⟩:=hd;rintro a w ⟨E,h⟩;obtain⟨g,vs,z,b,m⟩:=h.ob s _ hb;obtain⟨v,rfl⟩:∃v,vs=[v]:=by
  cases vs with
  |nil=>exact m.elim
  |cons v r=>cases r with
   |nil=>exact⟨v,Y⟩
   |cons _ _=>exact m.2.elim
 have j:w.cell? ⟨g,0,none⟩=some v:=by simp[World.cell?,b]
 have p:∀{S':AS} {b:Act},bw C S' E b w->S'.t s=.ptr s 0->b.eval (.tmp s)=.pointer (some ⟨g,0,none⟩):=λ{S' b} c ht=>by
  have:=c.ev (.tmp s);rw[show S'.ev (.tmp s)=_ from ht]at this;obtain⟨i,l,q⟩:=this;rw[z]at l;cases l;exact q
 have i:∀{S':AS} {b:Act} {d:Nat} {y:Value},bw C S' E b w->S'.t d=.sv (.v y)->b.eval (.tmp d)=y:=λ{S' b d y} c ht=>by
  have:=c.ev (.tmp d);rw[show S'.ev (.tmp d)=_ from ht]at this;exact this
 have b:∀(S:AS) (d:Nat) (x:AV),(S.set d x).n=S.n:=λ_ _ _=>rfl;refine wpIn_region ?_;show wpOpsIn _ _ _ _ _ [0,1,2,3] a w;rw[wpOpsIn_cons];refine cW (C:=C) rfl rfl (cZ (C:=C) ζ (r:=.ok (.value v) w) (by simp[execOp,p h h2,Instr.loadAt,Instr.sureAddr,loadVar,tV.isAgg,j]) ?_);have c:=h.put (d:=I) (x:=.sv (.v v)) (v:=v) Y ω rz;have A:(S.set I (.sv (.v v))).t s=.ptr s 0:=(AS.lU _ _ _ _ ω).trans h2;show wpOpsIn _ _ _ _ _ _ (a.put (some I) v) _;generalize a.put (some I) v=u at c⊢;rw[wpOpsIn_cons];refine cW (C:=C) rfl rfl (cZ (C:=C) ζ (akA (T:=T) (i c (AS.oA _ _ _))) ?_);have i:=c.put (d:=D) (x:=.sv (.v (.iface T v))) (v:=.iface T v) Y (by rw[b];omega) rz;have B:=(AS.lU (S.set I (.sv (.v v))) D s (.sv (.v (.iface T v))) ω).trans A;show wpOpsIn _ _ _ _ _ _ (u.put (some D) (.iface T v)) _;generalize u.put (some D) (.iface T v)=c at i⊢;rw[wpOpsIn_cons];refine cW (C:=C) rfl rfl (cZ (C:=C) ζ (r:=.ok (.value (.func (.func f) #[] #[.pointer (some ⟨g,0,none⟩)])) w) (by simp[execOp,Instr.makeFunc,p i B]) ?_)
 have p:=i.put (d:=H) (x:=.sv (.v (.func (.func f) #[] #[.pointer (some ⟨g,0,none⟩)]))) (v:=.func (.func f) #[] #[.pointer (some ⟨g,0,none⟩)]) Y (by rw[b,b];omega) rz;show wpOpsIn _ _ _ _ _ _ (c.put (some H) (.func (.func f) #[] #[.pointer (some ⟨g,0,none⟩)])) _;generalize c.put (some H) (.func (.func f) #[] #[.pointer (some ⟨g,0,none⟩)])=A at p⊢;have l:((((S.set I (.sv (.v v))).set D (.sv (.v (.iface T v)))).set H (.sv (.v (.func (.func f) #[] #[.pointer (some ⟨g,0,none⟩)]))))).t D=.sv (.v (.iface T v)):=(AS.lU _ _ _ _ ω).trans (AS.oA _ _ _);have q:((((S.set I (.sv (.v v))).set D (.sv (.v (.iface T v)))).set H (.sv (.v (.func (.func f) #[] #[.pointer (some ⟨g,0,none⟩)]))))).t H=.sv (.v (.func (.func f) #[] #[.pointer (some ⟨g,0,none⟩)])):=AS.oA _ _ _;obtain⟨us,i,u⟩:=Zb.enter (P:=ah) (dst:=some K) (at_:=at_) (ty:=u3) (pos:=p3) (aft:=a3) (gd:=none) (xs:=#[.tmp D,.tmp H]) (.k (g:=.func 58) (f:=58) rfl) p (λ_ _=>rfl);obtain rfl:us=[.iface T v,.func (.func f) #[] #[.pointer (some ⟨g,0,none⟩)]]:=by
  have c:jc E [_,_] us:=u;rw[show ∀S:AS,S.ev (.tmp D)=S.t D from λ_=>Y,show ∀S:AS,S.ev (.tmp H)=S.t H from λ_=>Y,l,q]at c;cases us with
  |nil=>exact c.elim
  |cons x us=>cases us with
   |nil=>exact c.2.elim
   |cons y us=>cases us with
    |nil=>rw[show x=_ from c.1,show y=_ from c.2.1]
    |cons _ _=>exact c.2.2.elim
 rw[wpOpsIn_cons];refine cW (C:=C) rfl rfl (cZ (C:=C) ζ i ?_);refine⟨λh=>by simp at h,yE ((hc E a w g v h m.1 z j).mono ?_)⟩;rintro e w' ⟨rfl,k,os,rfl⟩;have c:=(Su p k os).put (d:=K) (x:=.sv (.v (.tuple #[]))) (v:=.tuple #[]) Y (by rw[b,b,b];omega) rz;show wpOpsIn _ _ _ _ _ _ (A.put (some K) (.tuple #[])) _;rw[wpOpsIn];exact⟨_,next v (.iface T v) _ _,_,c⟩
theorem Sv{f:FuncId}{l:List zI}{u:Unit}(H:ck1 l=some u)(h2:S.t 2=.ptr 2 0)(hb:S.o 2=some (.box 85 [.sv (slc 3 (l.map iJ))]))(D:∀v0 v1 K v3:Value,Q .normal ((((S.set 18 (.sv (.v v0))).set 19 (.sv (.v v1))).set 20 (.sv (.v K))).set 21 (.sv (.v v3))))(I:21<S.n:=by exact tl Y):
  Ok ah C (.region id #[⟨some 18,.load 85 (.tmp 2),u0,p0,a0,none⟩,⟨some 19,.makeInterface 85 (.tmp 18),u1,p1,a1,none⟩,⟨some 20,.makeFunc (.func f) #[] #[.tmp 2],u2,p2,a2,none⟩,⟨some 21,.call ⟨.value (.func 58),#[.tmp 19,.tmp 20],at_⟩,u3,p3,a3,none⟩] false) S Q:=by
 have hl:l.length<=1:=by
  unfold ck1 at H;split at H
  ·assumption
  cases H
 refine abf (x:=.sv (slc 3 (l.map iJ))) h2 hb I ξ (λE a w g v _ h _ _=>?_) D
 obtain⟨p,n,c,rfl,d⟩:∃p n c,v=.slice p n c/\n<=1:=by
  rcases h with⟨_,e,_⟩|⟨b,o,c,e,_⟩
  ·exact⟨_,_,_,e,by omega⟩
  exact⟨_,_,_,e,by simpa using hl⟩
 have h:=Any.sort_Slice_tiny Tryz.sl6 85 138 tiC tiD ψ ψ ψ ψ 25 (λ_=>by kernel_rfl) p n c d (bif Nat.beq n 0 then 159 else 160) (by
  rw[sKT n d];rcases Nat.eq_zero_or_pos n with q|q
  ·subst q;kernel_rfl
  obtain rfl:n=1:=by omega
  kernel_rfl) (.func f) #[] #[.pointer (some ⟨g,0,none⟩)] w
 exact h.mono λe w' ⟨d,os,h⟩=>⟨d,0,os,h⟩
theorem abg{r:Nat}{l:List Int}{u:Unit}(H:abe l=some u)(h2:S.t 5=.ptr 5 0)(hb:S.o 5=some (.box 59 [.ob r]))(hr:S.o r=some (TR 2 1 bh l))(D:∀v0 v1 K v3:Value,Q .normal ((((S.set 50 (.sv (.v v0))).set 51 (.sv (.v v1))).set 52 (.sv (.v K))).set 53 (.sv (.v v3))))(I:53<S.n:=by exact tl Y):
  Ok ah C (.region id #[⟨some 50,.load 59 (.tmp 5),u0,p0,a0,none⟩,⟨some 51,.makeInterface 59 (.tmp 50),u1,p1,a1,none⟩,⟨some 52,.makeFunc (.func 64) #[] #[.tmp 5],u2,p2,a2,none⟩,⟨some 53,.call ⟨.value (.func 58),#[.tmp 51,.tmp 52],at_⟩,u3,p3,a3,none⟩] false) S Q:=by
 obtain⟨B,c,d⟩:2<=l.length/\l.length<=12/\Sort.insertionSort ltInt l.toArray 0 l.length=l.toArray:=by
  unfold abe at H;split at H
  ·assumption
  cases H
 refine abf (x:=.ob r) h2 hb I ξ (λE a w g v h f c k=>?_) D
 have f:v=E.ν r:=f;obtain⟨vs,c,p⟩:=h.ob r _ hr;have q:vs.length=l.length:=by have:=c.1;simpa using this
 rcases c.2 with⟨_,F⟩|⟨b,s,D,z,A,c,q⟩
 ·exfalso;have A:l.length=0:=F;omega
 rw[<-f]at z;have f:∀j,j<l.length->vs[j]? =some (.int .i64 (l.getD j 0)):=by
  have A:∀(l:List Int) (vs:List Value),SV.jN E.M (l.flatMap bh) vs->∀j,j<l.length->vs[j]? =some (.int .i64 (l.getD j 0)):=by
   intro l
   induction l with
   |nil=>intro vs _ j hj;simp at hj
   |cons x l D=>
    intro vs h j hj;cases vs with
    |nil=>exact h.elim
    |cons y vs=>
     have B:y=.int .i64 x:=h.1;cases j with
     |zero=>simp[B]
     |succ j=>simpa using D vs h.2 j (by simpa using hj)
  exact A l vs p
 have p:∀j,j<l.length->w.cell? ⟨b,0+j,none⟩=some (.int .i64 (l.getD j 0)):=λj hj=>by
  have A:=f j hj;rw[<-q.2.2.2,List.getElem?_take,if_pos ω]at A;simp only[World.cell?,c];simpa using A
 have F:Holds (Value.int .i64) w b 0 l.toArray:=λj hj=>by
  have f:j<l.length:=by simpa using hj
  refine⟨?_,by simp[World.frozen?,c]⟩;rw[p j f];simp[List.getD,f]
 have f:b<w.heap.size:=(Array.getElem?_eq_some_iff.1 c).1;have B:g<w.heap.size:=by
  have:=World.block_lt_of_cell? w ⟨g,0,none⟩ (by rw[k]);exact this
 have D:g≠b:=λe=>by
  subst e;have:=p 0 ω;rw[k,z]at this;cases this
 have p:l.toArray.size=l.length:=by simp
 have c:LessReads ah 64 #[.pointer (some ⟨g,0,none⟩)] (Value.int .i64) ltInt b 0 l.toArray.size w:=by
  intro m os q G i j H hj;have e:sortWorld (Value.int .i64) w b 0 m q os=putRow (Value.int .i64) (Sort.grow (Sort.ahead w m) os) b 0 q:=by
   unfold sortWorld;rw[putRow_grow _ (Sort.ahead w m) _ b 0 _ f]
  have A:Holds (Value.int .i64) (Sort.grow (Sort.ahead w m) os) b 0 l.toArray:=holds_grow _ _ _ b 0 _ f (holds_ahead _ _ _ _ _ _ F);refine afG b 0 s g l.toArray.size _ (λt=>q[t]!) ?_ (λt ht=>?_) i j H hj
  ·rw[e,cell?_putRow_other _ _ b 0 q _ (Or.inl (by show g≠b;exact D)),cell?_grow _ _ _ (by show g<w.heap.size;exact B)];show w.cell? _=_;rw[k,z,p]
  rw[e];exact cell?_putRow _ _ b 0 l.toArray q A G t ω
 have k:=Any.sort_Slice_small Tryz.sl6 59 2 tiA tiB ψ ψ ψ ψ 6 (λ_=>by kernel_rfl) ψ (λ_=>by kernel_rfl) (Value.int .i64) (λ_=>rfl) ltInt 64 _
  (enters_of Tryz.func64 ψ Y) b 0 s l.toArray ω ω 163 (by rw[sKI _ ω];kernel_rfl) true
  (λargs W=>run_callFunc_extern Tryz.func163 ψ ψ ψ (e:=Extern.ReflectliteSwapper.swap true) ψ args W) w c F f
 rw[p,d]at k;rw[z];refine k.mono λe w' ⟨c,n,os,d⟩=>⟨c,n,os,?_⟩;rw[d,putRow_self _ _ _ _ _ (holds_ahead _ _ _ _ _ _ F)]
end
end
section
open Go.Fw Go.RowKit
noncomputable def jH(D:zI):Option (Bool):=bU (λ(a:Bool)=>(bif a then some false else bU (λ(a:Bool)=>(bif a then some false else(some (D.parts.length:Int)).bind λb=>(bH (λ(a:Int)=>(show Option ((Int)⊕((Unit)⊕(Bool)))from(some (decide ((a:Int)<b))).bind λb=>(bif b then(bV D.parts a).bind λb=>bU (λ(c:Bool)=>(bif c then some (.inr (.inr false))else(some (IntKind.i64.wrap (a+1))).bind λa=>some (.inl a))) λa=>(some (decide ((b:Int)<0))).bind λc=>(bif c then some true else(some (decide ((1000000:Int)<b))).bind λb=>some b).bind λb=>a b else some (.inr (.inl ()))))) 0).bind λa=>match a with|.inr v16=>some v16|.inl _=>some true)) λb=>(some (D.parts.length:Int)).bind λa=>(some (decide ((a:Int)<1))).bind λa=>(bif a then some true else(some (D.parts.length:Int)).bind λa=>(some (decide ((16:Int)<a))).bind λa=>some a).bind λa=>b a)) λb=>(some (decide ((D.dm:Int)<(-1000000)))).bind λa=>(bif a then some true else(some (decide ((1000000:Int)<D.dm))).bind λa=>some a).bind λa=>b a
noncomputable def xZ(D:List zI)(H:Int):Option (Bool):=(some (decide ((H:Int)=0))).bind λa=>(bif a then some true else(bV D H).bind λb=>(some (IntKind.i64.wrap (H-1))).bind λa=>(bV D a).bind λa=>(some (decide ((b.dm:Int)=a.dm))).bind λa=>(bif a then some false else(bV D H).bind λb=>(some (IntKind.i64.wrap (H-1))).bind λa=>(bV D a).bind λa=>(some (decide ((a.dm:Int)<b.dm))).bind λc=>(bV D 1).bind λb=>(bV D 0).bind λa=>(some (decide ((a.dm:Int)<b.dm))).bind λa=>(some (c==a)).bind λa=>some a))
noncomputable def ij(D:List zI):Option (Int):=(some (D.length:Int)).bind λa=>(some (decide ((48:Int)<a))).bind λa=>(bif a then some 5 else(some (D.length:Int)).bind λa=>(bH (λ(b:Int)=>(show Option ((Int)⊕((Unit)⊕(Int)))from(some (decide ((b:Int)<a))).bind λa=>(bif a then(bV D b).bind λa=>(jH a).bind λc=>(some (!c)).bind λc=>(bif c then some (.inr (.inr 1))else(some (a.parts.length:Int)).bind λe=>(bH (λ(c:Int×Int)=>match c with|⟨d,c⟩=>(show Option ((Int×Int)⊕(Int))from(some (decide ((c:Int)<e))).bind λe=>(bif e then(bV a.parts c).bind λe=>(some (IntKind.i64.wrap (d+e))).bind λe=>(some (IntKind.i64.wrap (c+1))).bind λc=>some (.inl (e,c))else some (.inr d)))) (0,0)).bind λd=>bU (λ(c:Bool)=>(bif c then some (.inr (.inr 3))else(some (IntKind.i64.wrap (b+1))).bind λc=>some (.inl c))) λc=>(some (a.parts.length:Int)).bind λf=>(bV D 0).bind λe=>(some (e.parts.length:Int)).bind λe=>(some (decide ((f:Int)≠e))).bind λe=>(bif e then some true else(some (decide ((a.kS:Int)≠d))).bind λa=>some a).bind λa=>(bif a then some true else(some (decide ((d:Int)=0))).bind λa=>some a).bind λa=>(bif a then some true else(xZ D b).bind λa=>(some (!a)).bind λa=>some a).bind λa=>c a)else some (.inr (.inl ()))))) 0).bind λa=>match a with|.inr v34=>some v34|.inl _=>some 0)
noncomputable def nC(D:List zI):Option (Int):=(ij D).bind λa=>(some (decide ((a:Int)≠0))).bind λa=>(bif a then some 0 else(some (D.length:Int)).bind λc=>(bH (λ(a:Int×Int)=>match a with|⟨b,a⟩=>(show Option ((Int×Int)⊕(Int))from(some (decide ((a:Int)<c))).bind λc=>(bif c then(bV D a).bind λc=>(some (IntKind.i64.wrap (b+c.kS))).bind λc=>(some (IntKind.i64.wrap (a+1))).bind λa=>some (.inl (c,a))else some (.inr b)))) (0,0)).bind λa=>some a)
noncomputable def mI(D:List zI)(H:Qr):Option ((List Qr)×Int):=(ij D).bind λa=>(some (decide ((a:Int)≠0))).bind λb=>(bif b then some ([],a)else bU (λ(a:Bool)=>(bif a then some ([],1)else(some (D.length:Int)).bind λa=>(uF 64 a (⟨⟨false,[]⟩,⟨false,[]⟩⟩:Qr)).bind λf=>(some (D.length:Int)).bind λe=>(bH (λ(a:Int×Qr×(List Qr))=>match a with|⟨b,c,d⟩=>(show Option ((Int×Qr×(List Qr))⊕((List Qr)))from(some (decide ((b:Int)<e))).bind λa=>(bif a then(bV D b).bind λa=>(bK a.kS).bind λa=>(qI c a).bind λe=>(fG d b).bind λa=>(stM d a e).bind λa=>(fG a b).bind λe=>(a[e]?).bind λe=>(fj c e).bind λc=>(some (IntKind.i64.wrap (b+1))).bind λb=>some (.inl (b,c,a))else some (.inr d)))) (0,H,f)).bind λa=>some (a,0))) λb=>(cv H).bind λa=>(some (decide ((a:Int)<0))).bind λa=>(bif a then some true else(nC D).bind λa=>(bK a).bind λa=>(iy H a).bind λa=>(some (decide ((0:Int)<a))).bind λa=>some a).bind λa=>b a)
noncomputable def nD(D:List zI)(H:Qr):Option ((List Qr)×Int):=(mI D H).bind λ⟨d,h⟩=>bU (λ(a:Bool)=>(bif a then some ([],h)else(bV D 0).bind λa=>(some (a.parts.length:Int)).bind λa=>(uF 64 a (⟨⟨false,[]⟩,⟨false,[]⟩⟩:Qr)).bind λl=>(some (D.length:Int)).bind λb=>(bH (λ(a:Int×(List Qr))=>match a with|⟨c,e⟩=>(show Option ((Int×(List Qr))⊕((List Qr)))from(some (decide ((c:Int)<b))).bind λa=>(bif a then(bV D c).bind λg=>(bV d c).bind λj=>(some (e.length:Int)).bind λa=>(some (IntKind.i64.wrap (a-1))).bind λk=>(bH (λ(a:Int×Qr×(List Qr))=>match a with|⟨a,f,b⟩=>(show Option ((Int×Qr×(List Qr))⊕((List Qr)))from(some (decide ((0:Int)<=a))).bind λd=>(bif d then(bV g.parts a).bind λd=>(bK d).bind λd=>(qI f d).bind λg=>(fG b a).bind λd=>(b[d]?).bind λd=>(ff d g).bind λd=>(fG b a).bind λi=>(stM b i d).bind λd=>(fj f g).bind λf=>(some (IntKind.i64.wrap (a-1))).bind λa=>some (.inl (a,f,d))else some (.inr b)))) (k,j,e)).bind λb=>(some (IntKind.i64.wrap (c+1))).bind λa=>some (.inl (a,b))else some (.inr e)))) (0,l)).bind λa=>some (a,0))) λb=>(some (decide ((h:Int)≠0))).bind λa=>(bif a then some true else(some (D.length:Int)).bind λa=>(some (decide ((a:Int)=0))).bind λa=>some a).bind λa=>b a
noncomputable def mJ(D:List zI)(H:Qr):Option (Qr×Int):=(mI D H).bind λ⟨d,a⟩=>(some (decide ((a:Int)≠0))).bind λb=>(bif b then some (⟨⟨false,[]⟩,⟨false,[]⟩⟩,a)else(some (D.length:Int)).bind λc=>(bH (λ(a:Int×Qr)=>match a with|⟨b,a⟩=>(show Option ((Int×Qr)⊕(Qr))from(some (decide ((b:Int)<c))).bind λc=>(bif c then(bV D b).bind λc=>(bV d b).bind λd=>(bK c.dm).bind λc=>(ei d c).bind λc=>(ff a c).bind λc=>(some (IntKind.i64.wrap (b+1))).bind λb=>some (.inl (b,c))else some (.inr a)))) (0,⟨⟨false,[]⟩,⟨false,[]⟩⟩)).bind λa=>some (a,0))
noncomputable def rQ(D:List (List Sp)):Option (Int×Int):=(some (D.length:Int)).bind λa=>(some (decide ((16:Int)<a))).bind λa=>(bif a then some (0,5)else(some (D.length:Int)).bind λb=>(bH (λ(a:Int)=>(show Option ((Int)⊕((Unit)⊕(Int×Int)))from(some (decide ((a:Int)<b))).bind λb=>(bif b then(bV D a).bind λb=>(ey b).bind λb=>(some (decide ((b:Int)≠0))).bind λc=>(bif c then some (.inr (.inr (a,b)))else(some (IntKind.i64.wrap (a+1))).bind λa=>some (.inl a))else some (.inr (.inl ()))))) 0).bind λa=>match a with|.inr v6=>some v6|.inl _=>some (0,0))
noncomputable def rR(D:List (List Sp)):Option (Int×Int):=(some (D.length:Int)).bind λa=>(some (decide ((16:Int)<a))).bind λa=>(bif a then some (0,5)else(some (D.length:Int)).bind λb=>(bH (λ(a:Int)=>(show Option ((Int)⊕((Unit)⊕(Int×Int)))from(some (decide ((a:Int)<b))).bind λb=>(bif b then(bV D a).bind λb=>(dM b).bind λb=>(some (decide ((b:Int)≠0))).bind λc=>(bif c then some (.inr (.inr (a,b)))else(some (IntKind.i64.wrap (a+1))).bind λa=>some (.inl a))else some (.inr (.inl ()))))) 0).bind λa=>match a with|.inr v6=>some v6|.inl _=>some (0,0))
noncomputable def lS(D:List (List Sp)):Option ((List zI)×Int×Int):=(rQ D).bind λ⟨b,a⟩=>(some (decide ((a:Int)≠0))).bind λc=>(bif c then some ([],b,a)else(uL D).bind λa=>(ck1 a).bind λ_=>some (a,0,0))
noncomputable def nY(D:List (List Sp)):Option ((List zI)×Int×Int):=(rR D).bind λ⟨b,a⟩=>(some (decide ((a:Int)≠0))).bind λc=>(bif c then some ([],b,a)else(uL D).bind λa=>(ck1 a).bind λ_=>some (a,0,0))
end
section
open Go.Fw Go.RowKit
theorem Ht{D:zI}{r:Bool}(h:jH D=some r):Pure ah 215 [.agg (iJ D)] (ay r):=by
 refine aZ Tryz.func215 Y λE w vs a=>?_;unfold jH at h;refine sr<|acj Y<|aC Y<|dn<|aT<|aT<|?_;refine bB h (λa=>AS.bM 37 [(1,.ptr 1 0),(12,aj a)] [(1,.box 138 [ai D.dm,ai D.kS,aoh 1 bh D.parts])]) (λh=>?_) (λb h=>?_)
 ·refine aU<|aG Y Y<|aH Y Y Y<|aL h λd h=>aB Y<|bq h λc a h=>?_;cases d
  ·replace a:=ct a;refine aG Y Y<|aH Y Y Y<|aeG a λc a=>?_;obtain rfl:=aob a;exact abE Y<|aF<|aR.n ⟨c,h,wk []⟩
  replace a:=cn a;cases a;exact aD<|aD<|aD<|aax Y<|aF<|aR.n ⟨true,h,wk []⟩
 refine aR.n<|?_;cases b
 ·refine cF h λh=>aX<|aR.n<|aT<|aT<|?_;refine bB h (λa=>AS.bM 37 [(1,.ptr 1 0),(22,aj a)] [(1,.box 138 [ai D.dm,ai D.kS,aoh 1 bh D.parts])]) (λh=>?_) (λb h=>?_)
  ·refine aU<|aG Y Y<|aH Y Y Y<|aN h λa h=>aL h λd h=>aB Y<|bq h λc a h=>?_;cases d
   ·replace a:=ct a;refine aG Y Y<|aH Y Y Y<|aN a λc a=>aeG a λc a=>?_;obtain rfl:=aob a;exact abE Y<|aF<|aR.n ⟨c,h,wk []⟩
   replace a:=cn a;cases a;exact aD<|aD<|aD<|aD<|aax Y<|aF<|aR.n ⟨true,h,wk []⟩
  refine aR.n<|?_;cases b
  ·refine cF h λh=>aX<|aR.n<|aT<|sr<|aG Y Y<|aH Y Y Y<|aN h λe h=>aB Y<|dn<|bq h λc b d=>?_;refine bp (λ(a:Unit)=>AS.bM 37 [] []) (λa=>.inl a=c) (aV<|br b (λb=>AS.bM 37 [(24,aoh 1 bh D.parts),(25,ai e),(26,ai b)] []) (wk []) (λf g b h i c=>?_)) (λa b=>?_)
   ·refine sr<|aL h λa h=>dn<|aT<|?_;cases a
    ·refine cF h λh=>bt<|aR.x<|aR.x<|bn.x<|?_;cases h;exact aR.n ⟨(),c _ Y,wk []⟩
    refine cT h λh=>aX<|aR.n<|aT<|aV<|sr<|aQ Y h λa h=>aI Y Y<|aC Y<|dn<|aT<|?_;refine bB h (λa=>AS.bM 37 [(24,aoh 1 bh D.parts),(25,ai e),(26,ai f),(35,aj a)] []) (λh=>?_) (λg h=>?_)
    ·refine aU<|aB Y<|aL h λe h=>aB Y<|bq h λf a h=>?_;cases e
     ·replace a:=ct a;refine aB Y<|aeG a λe a=>?_;obtain rfl:=aob a;exact abE Y<|aF<|aR.n ⟨e,h,wk []⟩
     replace a:=cn a;cases a;exact aD<|aD<|aax Y<|aF<|aR.n ⟨true,h,wk []⟩
    refine aR.n<|?_;cases g
    ·refine cF h λh=>aX<|bn.n<|aR.n<|aU<|aO h λa h=>aB Y<|aF<|?_;obtain rfl:=aob h;exact aR.n ⟨a,i _ Y,wk []⟩
    refine cT h λh=>sr<|aC Y<|dn<|aY<|bn.r<|aR.r<|?_;obtain rfl:=aob h;have a:=c _ Y;subst a;exact aR.r<|bn.r<|aR.r<|aR.r<|f1 d
   subst b;exact aR.n<|sr<|aC Y<|dn<|aY<|f1 d
  exact cT h λh=>sr<|aC Y<|dn<|aY<|aR.r<|f1 h
 exact cT h λh=>sr<|aC Y<|dn<|aY<|aR.r<|f1 h
theorem Lo{H:List zI}{D:Int}{r:Bool}(h:xZ H D=some r):Pure ah 216 [aoc 3 iJ H,ax D] (ay r):=by
 refine aZ Tryz.func216 Y λE w vs a=>?_;unfold xZ at h;refine sr<|aC Y<|dn<|aT<|sr<|aB Y<|aeH h λa h=>dn<|?_;cases a
 ·refine cF h λh=>aX<|aR.n<|aT<|sd mixed<|aB Y<|aB Y<|aQ Y h λa h=>aew Y<|aI Y Y<|aB Y<|aB Y<|aeK h λa h=>aQ Y h λa h=>aew Y<|aI Y Y<|aeH h λa h=>dd<|?_;cases a
  ·exact cF h λh=>aX<|aR.n<|sd mixed<|aB Y<|aB Y<|aQ Y h λa h=>aew Y<|aI Y Y<|aB Y<|aB Y<|aeK h λa h=>aQ Y h λa h=>aew Y<|aI Y Y<|aeG h λa h=>aB Y<|aQ Y h λa h=>aew Y<|aI Y Y<|aB Y<|aQ Y h λa h=>aew Y<|aI Y Y<|aeG h λa h=>anj h λa h=>aC Y<|dd<|aY<|f1 h
  exact cT h λh=>sr<|aC Y<|dn<|aY<|aR.r<|f1 h
 exact cT h λh=>sr<|aC Y<|dn<|aY<|aR.r<|f1 h
theorem B6{D:List zI}{r:Int}(h:ij D=some r):Pure ah 178 [aoc 3 iJ D] (ax r):=by
 refine aZ Tryz.func178 Y λE w vs a=>?_;unfold ij at h;refine sr<|aC Y<|dn<|aT<|sr<|aB Y<|aN h λa h=>aeG h λa h=>dn<|?_;cases a
 ·refine cF h λh=>aX<|aR.n<|aT<|sr<|aB Y<|aN h λg h=>aB Y<|dn<|bq h λb c e=>?_;refine bp (λ(a:Unit)=>AS.bM 58 [] []) (λa=>.inl a=b) (aV<|br c (λb=>AS.bM 58 [(0,aoh 3 iJ D),(11,aoh 3 iJ D),(12,ai g),(13,ai b)] []) (wk []) (λd c b h k f=>?_)) (λa m=>?_)
  ·refine sr<|aL h λa h=>dn<|aT<|?_;cases a
   ·refine cF h λh=>bt<|aR.x<|aR.x<|bn.x<|?_;cases h;exact aR.n ⟨(),f _ Y,wk []⟩
   refine cT h λh=>aX<|aR.n<|aT<|aV<|sr<|aB Y<|aQ Y h λc h=>aeC Y (.cons (.cons (.cons (.nil))))<|aM (cs:=[ax 0,ax 0,aoc 1 bh []]) (by exact⟨aq,aq,aA,an⟩)<|aC Y<|aJ Y Y Y<|dn<|aT<|sr<|aK Y Y (.k3 Y Y Y)<|aE h (λ_=>Ht) λa h=>agy h λa h=>dn<|?_;cases a
   ·refine cF h λh=>aX<|aR.n<|sr<|aC Y<|dn<|aT<|sr<|aG Y Y<|aH Y Y Y<|aN h λl h=>aB Y<|dn<|bq h λb j a=>?_;refine bp (λ(i:Int)=>AS.bM 58 [(0,aoh 3 iJ D),(3,ai d),(4,.ptr 4 0),(5,ai i),(11,aoh 3 iJ D),(12,ai g),(13,ai d)] [(4,.box 138 [ai c.dm,ai c.kS,aoh 1 bh c.parts])]) (λi=>i=b) (aV<|br j (λb=>AS.bM 58 [(0,aoh 3 iJ D),(3,ai d),(4,.ptr 4 0),(5,ai b.1),(11,aoh 3 iJ D),(12,ai g),(13,ai d),(22,aoh 1 bh c.parts),(23,ai l),(24,ai b.2)] [(4,.box 138 [ai c.dm,ai c.kS,aoh 1 bh c.parts])]) (wk []) (λb o c h l j=>?_)) (λi c=>?_)
    ·obtain⟨i,o⟩:=b
     try dsimp only
     refine sr<|aL h λb h=>dn<|aT<|?_;cases b
     ·refine cF h λh=>bt<|aR.x<|aR.x<|bn.x<|?_;obtain rfl:=aob h;exact aR.n ⟨i,j _ Y,wk []⟩
     refine cT h λh=>aX<|aR.n<|aT<|aV<|sr<|aQ Y h λb h=>aI Y Y<|aC Y<|dn<|aU<|aB Y<|aB Y<|aO h λi h=>aC Y<|aF<|bn.n<|aR.n<|aU<|aO h λb h=>aB Y<|aF<|?_;obtain rfl:=aob h;exact aR.n ⟨(i,b),l _ Y,wk []⟩
    subst c;refine aR.n<|aT<|?_;refine bB a (λb=>AS.bM 58 [(0,aoh 3 iJ D),(11,aoh 3 iJ D),(12,ai g),(13,ai d),(56,aj b)] []) (λa=>?_) (λg a=>?_)
    ·refine bz mixed<|aG Y Y<|aH Y Y Y<|aN a λb a=>aB Y<|aQ Y a λb a=>aew Y<|aI Y Y<|aN a λb a=>aeA a λc a=>aB Y<|bq a λb d a=>?_;cases c
     ·replace d:=ct d;refine aG Y Y<|aH Y Y Y<|aB Y<|aeA d λb d=>?_;obtain rfl:=aob d;refine abE Y<|aB Y<|bq a λi c a=>?_;cases b
      ·replace c:=ct c;refine aB Y<|aeH c λi c=>?_;obtain rfl:=aob c;refine abE Y<|aB Y<|bq a λj b a=>?_;cases i
       ·replace b:=ct b;refine aB Y<|aB Y<|aE b (λ_=>Lo) λi b=>agy b λi b=>?_;obtain rfl:=aob b;exact abE Y<|de<|aR.n ⟨i,a,wk []⟩
       replace b:=cn b;cases b;exact aD<|aD<|aD<|aD<|aax Y<|de<|aR.n ⟨true,a,wk []⟩
      replace c:=cn c;obtain rfl:=aob c;refine aD<|aD<|aax Y<|aB Y<|bq a λc b a=>?_;replace b:=cn b;cases b;exact aD<|aD<|aD<|aD<|aax Y<|de<|aR.n ⟨true,a,wk []⟩
     replace d:=cn d;obtain rfl:=aob d;refine aD<|aD<|aD<|aD<|aax Y<|aB Y<|bq a λc b a=>?_;replace b:=cn b;obtain rfl:=aob b;refine aD<|aD<|aax Y<|aB Y<|bq a λc b a=>?_;replace b:=cn b;cases b;exact aD<|aD<|aD<|aD<|aax Y<|de<|aR.n ⟨true,a,wk []⟩
    refine aR.n<|?_;cases g
    ·refine cF a λa=>aX<|bn.n<|aR.n<|aU<|aO a λb a=>aB Y<|aF<|?_;obtain rfl:=aob a;exact aR.n ⟨b,k _ Y,wk []⟩
    refine cT a λa=>sr<|aC Y<|dn<|aY<|bn.r<|aR.r<|?_;obtain rfl:=aob a;have a:=f _ Y;subst a;exact aR.r<|bn.r<|aR.r<|aR.r<|f1 e
   refine cT h λh=>sr<|aC Y<|dn<|aY<|aR.r<|bn.r<|aR.r<|?_;obtain rfl:=aob h;have a:=f _ Y;subst a;exact aR.r<|bn.r<|aR.r<|aR.r<|f1 e
  subst m;exact aR.n<|sr<|aC Y<|dn<|aY<|f1 e
 exact cT h λh=>sr<|aC Y<|dn<|aY<|aR.r<|f1 h
theorem Lp{D:List zI}{r:Int}(h:nC D=some r):Pure ah 179 [aoc 3 iJ D] (ax r):=by
 refine aZ Tryz.func179 Y λE w vs a=>?_;unfold nC at h;refine sr<|aC Y<|dn<|aT<|sr<|aB Y<|aE h (λ_=>B6) λa h=>aeA h λa h=>dn<|?_;cases a
 ·refine cF h λh=>aX<|aR.n<|sr<|aC Y<|dn<|aT<|sr<|aB Y<|aN h λc h=>aB Y<|dn<|bq h λb d g=>?_;refine bp (λ(a:Int)=>AS.bM 21 [(3,ai a)] []) (λa=>a=b) (aV<|br d (λb=>AS.bM 21 [(3,ai b.1),(9,aoh 3 iJ D),(10,ai c),(11,ai b.2)] []) (wk []) (λb e f h d c=>?_)) (λa f=>?_)
  ·obtain⟨e,a⟩:=b
   try dsimp only
   refine sr<|aL h λa h=>dn<|aT<|?_;cases a
   ·refine cF h λh=>bt<|aR.x<|aR.x<|bn.x<|?_;obtain rfl:=aob h;exact aR.n ⟨e,c _ Y,wk []⟩
   refine cT h λh=>aX<|aR.n<|aT<|aV<|sr<|aQ Y h λa h=>aeC Y (.cons (.cons (.cons (.nil))))<|aM (cs:=[ax 0,ax 0,aoc 1 bh []]) (by exact⟨aq,aq,aA,an⟩)<|aJ Y Y Y<|dn<|aU<|aB Y<|aG Y Y<|aH Y Y Y<|aO h λb h=>aC Y<|aF<|bn.n<|aR.n<|aU<|aO h λa h=>aB Y<|aF<|?_;obtain rfl:=aob h;exact aR.n ⟨(b,a),d _ Y,wk []⟩
  subst f;exact aR.n<|sr<|aB Y<|aC Y<|dn<|aY<|f1 g
 exact cT h λh=>sr<|aC Y<|dn<|aY<|aR.r<|f1 h
theorem DN{x0:List zI}{x1:Qr}{r:(List Qr)×Int}(h:mI x0 x1=some r):Pure ah 115 [aoc 3 iJ x0,.agg (eQ x1)] (.lK [aoc 4 eQ r.1,ax r.2]):=by
 refine aZ Tryz.func115 Y λE w vs hvs=>?_;unfold mI at h;refine sr<|acj Y<|aeD (aA (n:=4) (e:=eQ))<|aC Y<|dn<|aT<|sr<|aB Y<|aE h (λ_=>B6) λa h=>aC Y<|dn<|sr<|aB Y<|aeA h λa h=>dn<|?_;cases a
 ·refine cF h λh=>aX<|aR.n<|aT<|aT<|?_;refine bB h (λj3=>AS.bM 54 [(0,aoh 3 iJ x0),(3,.ptr 3 0),(26,aj j3)] [(3,.box 40 [aj x1.num.neg,aoh 1 bf x1.num.w,aj x1.den.neg,aoh 1 bf x1.den.w])]) (λh=>?_) (λrN h=>?_)
  ·refine bz mixed<|aK Y Y (.k4 Y Y Y Y)<|aE h (λ_=>cS) λa h=>aL h λb h=>aB Y<|bq h λa jA h=>?_;cases b
   ·replace jA:=ct jA;refine aK Y Y (.k4 Y Y Y Y)<|aB Y<|aE jA (λ_=>Lp) λgq jA=>aE jA (λ_=>bQ) λa jA=>aE jA (λ_=>kW) λa jA=>aeG jA λiV jA=>?_;obtain rfl:=aob jA;exact abE Y<|de<|aR.n ⟨iV,h,wk []⟩
   replace jA:=cn jA;cases jA;exact aD<|aD<|aD<|aD<|aD<|aD<|aax Y<|de<|aR.n ⟨true,h,wk []⟩
  refine aR.n<|?_;cases rN
  ·refine cF h λh=>aX<|aR.n<|sr<|aK Y Y (.k4 Y Y Y Y)<|aM (cs:=[ay false,au,ay false,au]) (by exact⟨aq,aA,aq,aA,an⟩)<|aJ Y Y Y<|dn<|sr<|aB Y<|aN h λa h=>aeW (e:=eQ) ⟨⟨false,[]⟩,⟨false,[]⟩⟩ (by exact⟨aq,aA,aq,aA,an⟩) h λiF h=>aey Y<|dn<|aT<|sr<|aB Y<|aN h λiL h=>aB Y<|dn<|bq h λd b c=>?_;refine bp (λ(a:(List Qr))=>AS.bM 54 [(8,.ob 30)] [(30,TR 40 4 eQ a)]) (λa=>a=d) (aV<|br b (λs11=>AS.bM 54 [(7,.ptr 7 0),(8,.ob 30),(31,aoh 3 iJ x0),(32,ai iL),(33,ai s11.1)] [(7,.box 40 [aj s11.2.1.num.neg,aoh 1 bf s11.2.1.num.w,aj s11.2.1.den.neg,aoh 1 bf s11.2.1.den.w]),(30,TR 40 4 eQ s11.2.2)]) (wk []) (λs11 y11 d h f b=>?_)) (λa d=>?_)
   ·obtain⟨k,g,j⟩:=s11
    try dsimp only
    refine sr<|aL h λg h=>dn<|aT<|?_;cases g
    ·refine cF h λh=>bt<|aR.x<|aR.x<|bn.x<|?_;obtain rfl:=aob h;exact aR.n ⟨j,b _ Y,wk []⟩
    refine cT h λh=>aX<|aR.n<|aT<|aV<|sr<|aB Y<|aQ Y h λiu h=>aeC Y (.cons (.cons (.cons (.nil))))<|aM (cs:=[ax 0,ax 0,aoc 1 bh []]) (by exact⟨aq,aq,aA,an⟩)<|aC Y<|aJ Y Y Y<|dn<|sd mixed<|aaw Y<|aB Y<|aK Y Y (.k4 Y Y Y Y)<|aG Y Y<|aH Y Y Y<|aE h (λ_=>bQ) λlI h=>aE h (λ_=>IN) λmE h=>acr (p:=.r 30) Y (.r (.r Y)) h λoW h=>afl (p:=.r 30) mE Y (.r Y) h λl13 h=>dd<|bz mixed<|aK Y Y (.k4 Y Y Y Y)<|aaw Y<|aB Y<|acr (p:=.r 30) Y (.r (.r Y)) h λvB h=>aht (p:=.r 30) Y (.r Y) h λtH h=>aE h (λ_=>iH) λpK h=>aJ Y Y Y<|de<|bn.n<|aR.n<|aU<|aO h λrD h=>aB Y<|aF<|?_;obtain rfl:=aob h;exact aR.n ⟨(rD,pK,l13),f _ Y,wk []⟩
   subst d;exact aR.n<|sr<|aaw Y<|aey Y<|aC Y<|dn<|ow (bT (i:=30) (e:=eQ) (l:=a) Y)<|aY<|f2 c
  exact cT h λh=>sr<|aeD (aA (n:=4) (e:=eQ))<|aC Y<|dn<|aY<|aR.r<|f2 h
 exact cT h λh=>sr<|aB Y<|aeD (aA (n:=4) (e:=eQ))<|aC Y<|dn<|aY<|aR.r<|f2 h
theorem Lq{x0:List zI}{x1:Qr}{r:(List Qr)×Int}(h:nD x0 x1=some r):Pure ah 61 [aoc 3 iJ x0,.agg (eQ x1)] (.lK [aoc 4 eQ r.1,ax r.2]):=by
 refine aZ Tryz.func61 Y λE w vs hvs=>?_;unfold nD at h;refine sr<|acj Y<|aeD (aA (n:=4) (e:=eQ))<|aC Y<|dn<|sr<|aB Y<|aK Y Y (.k4 Y Y Y Y)<|aE h (λ_=>DN) λ⟨c,a⟩ h=>aB Y<|aP Y Y<|aP Y Y<|aC Y<|aC Y<|dn<|aT<|aT<|?_;refine bB h (λj3=>AS.bM 74 [(0,aoh 3 iJ x0),(6,aoh 4 eQ c),(7,ai a),(26,aj j3)] []) (λh=>?_) (λrN h=>?_)
 ·refine aU<|aB Y<|aeA h λeY h=>aB Y<|bq h λabn a h=>?_;cases eY
  ·replace a:=ct a;refine aB Y<|aN a λgE a=>aeH a λiV a=>?_;obtain rfl:=aob a;exact abE Y<|aF<|aR.n ⟨iV,h,wk []⟩
  replace a:=cn a;cases a;exact aD<|aD<|aD<|aax Y<|aF<|aR.n ⟨true,h,wk []⟩
 refine aR.n<|?_;cases rN
 ·refine cF h λh=>aX<|aR.n<|sr<|aB Y<|aQ Y h λfO h=>aew Y<|aI Y Y<|aN h λiL h=>aeW (e:=eQ) ⟨⟨false,[]⟩,⟨false,[]⟩⟩ (by exact⟨aq,aA,aq,aA,an⟩) h λlM h=>aey Y<|dn<|aT<|sr<|aB Y<|aN h λjz h=>aB Y<|dn<|bq h λe23 at6 at7=>?_;refine bp (λ(b:(List Qr))=>AS.bM 74 [(8,.ob 33)] [(33,TR 40 4 eQ b)]) (λb=>b=e23) (aV<|br at6 (λs23=>AS.bM 74 [(6,aoh 4 eQ c),(8,.ob 33),(34,aoh 3 iJ x0),(35,ai jz),(36,ai s23.1)] [(33,TR 40 4 eQ s23.2)]) (wk []) (λs23 y23 a h at8 at9=>?_)) (λb aua=>?_)
  ·obtain⟨d,a⟩:=s23
   try dsimp only
   refine sr<|aL h λlJ h=>dn<|aT<|?_;cases lJ
   ·refine cF h λh=>bt<|aR.x<|aR.x<|bn.x<|?_;obtain rfl:=aob h;exact aR.n ⟨a,at9 _ Y,wk []⟩
   refine cT h λh=>aX<|aR.n<|aT<|aV<|sr<|aB Y<|aQ Y h λjC h=>aeC Y (.cons (.cons (.cons (.nil))))<|aM (cs:=[ax 0,ax 0,aoc 1 bh []]) (by exact⟨aq,aq,aA,an⟩)<|aC Y<|aJ Y Y Y<|dn<|sr<|aB Y<|aB Y<|aQ Y h λlI h=>aeC Y (.cons (.cons (.cons (.cons (.nil)))))<|aM (cs:=[ay false,au,ay false,au]) (by exact⟨aq,aA,aq,aA,an⟩)<|aJ Y Y Y<|dn<|sr<|aaw Y<|aeJ (p:=.r 33) Y (.r (.r Y)) h λlq h=>aeK h λsL h=>aC Y<|dn<|bq h λe31 aub akL=>?_;refine bp (λ(a:(List Qr))=>AS.bM 74 [(6,aoh 4 eQ c),(8,.ob 33),(34,aoh 3 iJ x0),(35,ai jz),(36,ai d)] [(33,TR 40 4 eQ a)]) (λa=>a=e31) (aV<|br aub (λs31=>AS.bM 74 [(6,aoh 4 eQ c),(8,.ob 33),(10,.ptr 10 0),(11,.ptr 11 0),(12,ai s31.1),(34,aoh 3 iJ x0),(35,ai jz),(36,ai d)] [(11,.box 40 [aj s31.2.1.num.neg,aoh 1 bf s31.2.1.num.w,aj s31.2.1.den.neg,aoh 1 bf s31.2.1.den.w]),(10,.box 138 [ai jC.dm,ai jC.kS,aoh 1 bh jC.parts]),(33,TR 40 4 eQ s31.2.2)]) (wk []) (λs31 y31 c h auc aud=>?_)) (λa aue=>?_)
   ·obtain⟨d,UR,c⟩:=s31
    try dsimp only
    refine aT<|sr<|aB Y<|afy h λvB h=>dn<|?_;cases vB
    ·refine cF h λh=>bt<|aR.x<|aR.x<|bn.x<|?_;obtain rfl:=aob h;exact aR.n ⟨c,aud _ Y,wk []⟩
    refine cT h λh=>aX<|aR.n<|aT<|aV<|sd mixed<|aK Y Y (.k4 Y Y Y Y)<|aG Y Y<|aH Y Y Y<|aB Y<|aQ Y h λsM h=>aI Y Y<|aE h (λ_=>bQ) λrE h=>aE h (λ_=>IN) λsN h=>aM (cs:=[ay false,au,ay false,au]) (by exact⟨aq,aA,aq,aA,an⟩)<|aJ Y Y Y<|dd<|sd mixed<|aaw Y<|aB Y<|aaw Y<|aB Y<|acr (p:=.r 33) Y (.r (.r Y)) h λw9 h=>aht (p:=.r 33) Y (.r Y) h λUm h=>aK Y Y (.k4 Y Y Y Y)<|aE h (λ_=>jX) λc h=>acr (p:=.r 33) Y (.r (.r Y)) h λd h=>afl (p:=.r 33) c Y (.r Y) h λl33 h=>dd<|aU<|aK Y Y (.k4 Y Y Y Y)<|aK Y Y (.k4 Y Y Y Y)<|aE h (λ_=>iH) λc h=>aJ Y Y Y<|aF<|bn.n<|aR.n<|aU<|aB Y<|aeK h λpK h=>aC Y<|aF<|?_;obtain rfl:=aob h;exact aR.n ⟨(pK,c,l33),auc _ Y,wk []⟩
   subst aue;refine bn.n<|aR.n<|aU<|aO akL λzK akL=>aB Y<|aF<|?_;obtain rfl:=aob akL;exact aR.n ⟨(zK,a),at8 _ Y,wk []⟩
  subst aua;exact aR.n<|sr<|aaw Y<|aey Y<|aC Y<|dn<|ow (bT (i:=33) (e:=eQ) (l:=b) Y)<|aY<|f2 at7
 exact cT h λh=>sr<|aB Y<|aeD (aA (n:=4) (e:=eQ))<|aC Y<|dn<|aY<|aR.r<|f2 h
theorem DO{D:List zI}{H:Qr}{r:Qr×Int}(h:mJ D H=some r):Pure ah 63 [aoc 3 iJ D,.agg (eQ H)] (.lK [.agg (eQ r.1),ax r.2]):=by
 refine aZ Tryz.func63 Y λE w vs b=>?_;unfold mJ at h;refine sr<|acj Y<|aM (cs:=[ay false,au,ay false,au]) (by exact⟨aq,aA,aq,aA,an⟩)<|aC Y<|dn<|sr<|aB Y<|aK Y Y (.k4 Y Y Y Y)<|aE h (λ_=>DN) λ⟨e,j⟩ h=>aB Y<|aP Y Y<|aP Y Y<|aC Y<|aC Y<|dn<|aT<|sr<|aB Y<|aeA h λb h=>dn<|?_;cases b
 ·refine cF h λh=>aX<|aR.n<|sr<|aM (cs:=[ay false,au,ay false,au]) (by exact⟨aq,aA,aq,aA,an⟩)<|dn<|aT<|sr<|aB Y<|aN h λd h=>aB Y<|dn<|bq h λc f i=>?_;refine bp (λ(b:Qr)=>AS.bM 40 [(4,.ptr 4 0),(8,.ptr 8 0)] [(8,.box 40 [aj b.num.neg,aoh 1 bf b.num.w,aj b.den.neg,aoh 1 bf b.den.w]),(4,.box 40 [aj false,.sv au,aj false,.sv au])]) (λb=>b=c) (aV<|br f (λc=>AS.bM 40 [(4,.ptr 4 0),(6,aoh 4 eQ e),(8,.ptr 8 0),(21,aoh 3 iJ D),(22,ai d),(23,ai c.1)] [(8,.box 40 [aj c.2.num.neg,aoh 1 bf c.2.num.w,aj c.2.den.neg,aoh 1 bf c.2.den.w]),(4,.box 40 [aj false,.sv au,aj false,.sv au])]) (wk []) (λc d g h f e=>?_)) (λb g=>?_)
  ·obtain⟨k,d⟩:=c
   try dsimp only
   refine sr<|aL h λc h=>dn<|aT<|?_;cases c
   ·refine cF h λh=>bt<|aR.x<|aR.x<|bn.x<|?_;obtain rfl:=aob h;exact aR.n ⟨d,e _ Y,wk []⟩
   refine cT h λh=>aX<|aR.n<|aT<|aV<|sr<|aB Y<|aQ Y h λc h=>aeC Y (.cons (.cons (.cons (.nil))))<|aM (cs:=[ax 0,ax 0,aoc 1 bh []]) (by exact⟨aq,aq,aA,an⟩)<|aC Y<|aJ Y Y Y<|dn<|bz mixed<|aK Y Y (.k4 Y Y Y Y)<|aB Y<|aB Y<|aQ Y h λc h=>aeC Y (.cons (.cons (.cons (.cons (.nil)))))<|aG Y Y<|aH Y Y Y<|aE h (λ_=>bQ) λc h=>aE h (λ_=>gO) λc h=>aE h (λ_=>jX) λc h=>aJ Y Y Y<|de<|bn.n<|aR.n<|aU<|aO h λd h=>aB Y<|aF<|?_;obtain rfl:=aob h;exact aR.n ⟨(d,c),f _ Y,wk []⟩
  subst g;exact aR.n<|sr<|aK Y Y (.k4 Y Y Y Y)<|aJ Y Y Y<|aC Y<|dn<|aY<|fP i [.agg (eQ b),ax 0] (by exact⟨.a Y Y (.k4 Y Y Y Y) Y,.t Y,an⟩)
 exact cT h λh=>sr<|aez (cs':=[ay false,au,ay false,au]) (.nil) (by exact⟨aq,aA,aq,aA,an⟩)<|aB Y<|aJ Y Y Y<|aC Y<|dn<|aY<|aR.r<|fP h [.agg (eQ ⟨⟨false,[]⟩,⟨false,[]⟩⟩),ax j] (by exact⟨.a Y Y (.k4 Y Y Y Y) Y,.t Y,an⟩)
theorem Jo{D:List (List Sp)}{r:Int×Int}(h:rQ D=some r):Pure ah 56 [aoc 1 (eS 2 iq) D,.v (.func (.func 54) #[] #[])] (.lK [ax r.1,ax r.2]):=by
 refine aZ Tryz.func56 Y λE w vs a=>?_;unfold rQ at h;refine sr<|aC Y<|aC Y<|dn<|aT<|sr<|aB Y<|aN h λa h=>aeG h λa h=>dn<|?_;cases a
 ·refine cF h λh=>aX<|aR.n<|aT<|sr<|aB Y<|aN h λd h=>aB Y<|dn<|bq h λb e c=>?_;refine bp (λ(a:Unit)=>AS.bM 27 [] []) (λa=>.inl a=b) (aV<|br e (λb=>AS.bM 27 [(1,.sv (.v (.func (.func 54) #[] #[]))),(12,aoh 1 (eS 2 iq) D),(13,ai d),(14,ai b)] []) (wk []) (λg e f h d b=>?_)) (λa e=>?_)
  ·refine sr<|aL h λa h=>dn<|aT<|?_;cases a
   ·refine cF h λh=>bt<|aR.x<|aR.x<|bn.x<|?_;cases h;exact aR.n ⟨(),b _ Y,wk []⟩
   refine cT h λh=>aX<|aR.n<|aT<|aV<|sr<|aB Y<|aQ Y h λa h=>aI Y Y<|aC Y<|aC Y<|dn<|sr<|aB Y<|aB Y<|aE h (λ_=>kA) λa h=>aC Y<|dn<|sr<|aB Y<|aeA h λa h=>dn<|?_;cases a
   ·refine cF h λh=>aX<|bn.n<|aR.n<|aU<|aO h λa h=>aB Y<|aF<|?_;obtain rfl:=aob h;exact aR.n ⟨a,d _ Y,wk []⟩
   refine cT h λh=>sr<|aB Y<|aB Y<|aC Y<|aC Y<|dn<|aY<|bn.r<|aR.r<|?_;obtain rfl:=aob h;have a:=b _ Y;subst a;exact aR.r<|bn.r<|aR.r<|aR.r<|f2 c
  subst e;exact aR.n<|sr<|aC Y<|aC Y<|dn<|aY<|f2 c
 exact cT h λh=>sr<|aC Y<|aC Y<|dn<|aY<|aR.r<|f2 h
theorem Jp{D:List (List Sp)}{r:Int×Int}(h:rR D=some r):Pure ah 56 [aoc 1 (eS 2 iq) D,.v (.func (.func 55) #[] #[])] (.lK [ax r.1,ax r.2]):=by
 refine aZ Tryz.func56 Y λE w vs a=>?_;unfold rR at h;refine sr<|aC Y<|aC Y<|dn<|aT<|sr<|aB Y<|aN h λa h=>aeG h λa h=>dn<|?_;cases a
 ·refine cF h λh=>aX<|aR.n<|aT<|sr<|aB Y<|aN h λd h=>aB Y<|dn<|bq h λb e c=>?_;refine bp (λ(a:Unit)=>AS.bM 27 [] []) (λa=>.inl a=b) (aV<|br e (λb=>AS.bM 27 [(1,.sv (.v (.func (.func 55) #[] #[]))),(12,aoh 1 (eS 2 iq) D),(13,ai d),(14,ai b)] []) (wk []) (λg e f h d b=>?_)) (λa e=>?_)
  ·refine sr<|aL h λa h=>dn<|aT<|?_;cases a
   ·refine cF h λh=>bt<|aR.x<|aR.x<|bn.x<|?_;cases h;exact aR.n ⟨(),b _ Y,wk []⟩
   refine cT h λh=>aX<|aR.n<|aT<|aV<|sr<|aB Y<|aQ Y h λa h=>aI Y Y<|aC Y<|aC Y<|dn<|sr<|aB Y<|aB Y<|aE h (λ_=>l9) λa h=>aC Y<|dn<|sr<|aB Y<|aeA h λa h=>dn<|?_;cases a
   ·refine cF h λh=>aX<|bn.n<|aR.n<|aU<|aO h λa h=>aB Y<|aF<|?_;obtain rfl:=aob h;exact aR.n ⟨a,d _ Y,wk []⟩
   refine cT h λh=>sr<|aB Y<|aB Y<|aC Y<|aC Y<|dn<|aY<|bn.r<|aR.r<|?_;obtain rfl:=aob h;have a:=b _ Y;subst a;exact aR.r<|bn.r<|aR.r<|aR.r<|f2 c
  subst e;exact aR.n<|sr<|aC Y<|aC Y<|dn<|aY<|f2 c
 exact cT h λh=>sr<|aC Y<|aC Y<|dn<|aY<|aR.r<|f2 h
end
section
open Go.Fw Go.RowKit
theorem B7{D:List (List Sp)}{r:(List zI)×Int×Int}(h:lS D=some r):Pure ah 28 [aoc 1 (eS 2 iq) D] (.lK [aoc 3 iJ r.1,ax r.2.1,ax r.2.2]):=by
 refine aZ Tryz.func28 Y λE w vs a=>?_;unfold lS at h;refine sr<|aM (cs:=[aoc 3 iJ []]) (by exact⟨aA,an⟩)<|aC Y<|aC Y<|dn<|aT<|sr<|aB Y<|aE h (λ_=>Jo) λ⟨b,c⟩ h=>aB Y<|aP Y Y<|aP Y Y<|aC Y<|aC Y<|dn<|sr<|aB Y<|aeA h λa h=>dn<|?_;cases a
 ·exact cF h λh=>aX<|aR.n<|sr<|aB Y<|aE h (λ_=>yS) λa h=>afv Y Y Y<|dn<|aT<|bq h λ_ d h=>Sv (l:=a) d Y Y λ_ _ _ _=>aR.n<|sr<|aH Y Y Y<|afv Y Y Y<|aC Y<|aC Y<|dn<|aY<|fP h [aoc 3 iJ a,ax 0,ax 0] (by exact⟨.v Y Y,.t Y,.t Y,an⟩)
 exact cT h λh=>sr<|aB Y<|aB Y<|anl (aA (n:=3) (e:=iJ)) Y Y<|aC Y<|aC Y<|dn<|aY<|aR.r<|fP h [aoc 3 iJ [],ax b,ax c] (by exact⟨.v Y Y,.t Y,.t Y,an⟩)
theorem Ei{D:List (List Sp)}{r:(List zI)×Int×Int}(h:nY D=some r):Pure ah 29 [aoc 1 (eS 2 iq) D] (.lK [aoc 3 iJ r.1,ax r.2.1,ax r.2.2]):=by
 refine aZ Tryz.func29 Y λE w vs a=>?_;unfold nY at h;refine sr<|aM (cs:=[aoc 3 iJ []]) (by exact⟨aA,an⟩)<|aC Y<|aC Y<|dn<|aT<|sr<|aB Y<|aE h (λ_=>Jp) λ⟨b,c⟩ h=>aB Y<|aP Y Y<|aP Y Y<|aC Y<|aC Y<|dn<|sr<|aB Y<|aeA h λa h=>dn<|?_;cases a
 ·exact cF h λh=>aX<|aR.n<|sr<|aB Y<|aE h (λ_=>yS) λa h=>afv Y Y Y<|dn<|aT<|bq h λ_ d h=>Sv (l:=a) d Y Y λ_ _ _ _=>aR.n<|sr<|aH Y Y Y<|afv Y Y Y<|aC Y<|aC Y<|dn<|aY<|fP h [aoc 3 iJ a,ax 0,ax 0] (by exact⟨.v Y Y,.t Y,.t Y,an⟩)
 exact cT h λh=>sr<|aB Y<|aB Y<|anl (aA (n:=3) (e:=iJ)) Y Y<|aC Y<|aC Y<|dn<|aY<|aR.r<|fP h [aoc 3 iJ [],ax b,ax c] (by exact⟨.v Y Y,.t Y,.t Y,an⟩)
end
section
open Go.Fw Go.RowKit
noncomputable def iz(D:List Sp)(H:Qr)(I:Int):Option (Int×Int):=(some (D.length:Int)).bind λd=>(bH (λ(a:Int×Int×Int)=>match a with|⟨e,b,c⟩=>(show Option ((Int×Int×Int)⊕(Int×Int))from(some (decide ((c:Int)<d))).bind λa=>(bif a then(bV D c).bind λa=>(bK a.dm).bind λd=>(iy d H).bind λg=>(some (decide ((g:Int)=I))).bind λh=>bU (λ(d:Int×Int)=>match d with|⟨d,f⟩=>(some (IntKind.i64.wrap (c+1))).bind λc=>some (.inl (d,f,c))) λd=>(bif h then(some (IntKind.i64.wrap (e+a.kS))).bind λf=>(some (IntKind.i64.wrap (b+a.kS))).bind λc=>d (f,c)else(some (decide ((g:Int)=0))).bind λf=>bU (λ(c:Int)=>d (e,c)) λc=>(bif f then(some (IntKind.i64.wrap (b+a.kS))).bind λa=>c a else c b))else some (.inr (e,b))))) (0,0,0)).bind λa=>match a with|⟨a,b⟩=>some (a,b)
noncomputable def mU(D:List Sp)(H:Qr):Option (Int×Int×Int):=(ey D).bind λa=>(some (decide ((a:Int)≠0))).bind λb=>(bif b then some (0,0,a)else(iz D H (-1)).bind λ⟨a,b⟩=>some (a,b,0))
noncomputable def mW(D:List Sp)(H:Qr):Option (Int×Int×Int):=(dM D).bind λa=>(some (decide ((a:Int)≠0))).bind λb=>(bif b then some (0,0,a)else(iz D H 1).bind λ⟨a,b⟩=>some (a,b,0))
noncomputable def pT(H:List (List Sp))(D:List (List Sp)):Option (Int):=bU (λ(a:Bool)=>(bif a then some 5 else(some (H.length:Int)).bind λb=>(bH (λ(a:Int)=>(show Option ((Int)⊕((Unit)⊕(Int)))from(some (decide ((a:Int)<b))).bind λb=>(bif b then(bV H a).bind λb=>(ey b).bind λb=>(some (decide ((b:Int)≠0))).bind λc=>(bif c then some (.inr (.inr b))else(some (IntKind.i64.wrap (a+1))).bind λa=>some (.inl a))else some (.inr (.inl ()))))) 0).bind λa=>match a with|.inr v9=>some v9|.inl _=>(some (D.length:Int)).bind λb=>(bH (λ(a:Int)=>(show Option ((Int)⊕((Unit)⊕(Int)))from(some (decide ((a:Int)<b))).bind λb=>(bif b then(bV D a).bind λb=>(dM b).bind λb=>(some (decide ((b:Int)≠0))).bind λc=>(bif c then some (.inr (.inr b))else(some (IntKind.i64.wrap (a+1))).bind λa=>some (.inl a))else some (.inr (.inl ()))))) 0).bind λa=>match a with|.inr v15=>some v15|.inl _=>some 0)) λb=>(some (H.length:Int)).bind λa=>(some (decide ((5:Int)<a))).bind λa=>(bif a then some true else(some (D.length:Int)).bind λa=>(some (decide ((6:Int)<a))).bind λa=>some a).bind λa=>b a
noncomputable def rS(H:List zI)(D:List zI):Option (Int):=(bH (λ(a:Int×Int×Int×Int×Int)=>match a with|⟨e,d,f,a,b⟩=>(show Option ((Int×Int×Int×Int×Int)⊕(Int))from bU (λ(c:Bool)=>(bif c then(bV H a).bind λc=>(some (IntKind.i64.wrap (c.kS-d))).bind λg=>(bV D b).bind λc=>(some (IntKind.i64.wrap (c.kS-f))).bind λc=>(some (min (g:Int) c)).bind λc=>(some (IntKind.i64.wrap (e+c))).bind λi=>(some (IntKind.i64.wrap (d+c))).bind λg=>(some (IntKind.i64.wrap (f+c))).bind λf=>(bV H a).bind λc=>(some (decide ((g:Int)=c.kS))).bind λh=>bU (λ(c:Int×Int)=>match c with|⟨j,k⟩=>(bV D b).bind λc=>(some (decide ((f:Int)=c.kS))).bind λl=>bU (λ(c:Int×Int)=>match c with|⟨d,c⟩=>some (.inl (i,j,d,k,c))) λc=>(bif l then(some (IntKind.i64.wrap (b+1))).bind λd=>c (0,d)else c (f,b))) λc=>(bif h then(some (IntKind.i64.wrap (a+1))).bind λd=>c (0,d)else c (g,a))else some (.inr e))) λd=>(some (H.length:Int)).bind λc=>(some (decide ((a:Int)<c))).bind λc=>(bif c then(some (D.length:Int)).bind λc=>(some (decide ((b:Int)<c))).bind λc=>some c else some false).bind λc=>(bif c then(bV H a).bind λa=>(bV D b).bind λb=>(some (decide ((a.dm:Int)<b.dm))).bind λa=>some a else some false).bind λa=>d a)) (0,0,0,0,0)).bind λa=>some a
noncomputable def mX(D:Qr):Option (Int):=(rO D).bind λ⟨a,b⟩=>(eT ⟨a,b⟩).bind λ⟨a,b⟩=>some a
noncomputable def kC(H:List zI)(D:Int):Option ((List Int)×Int):=(bK D).bind λa=>(nD H a).bind λ⟨c,a⟩=>(some (decide ((a:Int)≠0))).bind λb=>(bif b then some ([],a)else(some (c.length:Int)).bind λa=>(uF 8 a (0:Int)).bind λd=>(some (c.length:Int)).bind λe=>(bH (λ(a:Int×(List Int))=>match a with|⟨a,b⟩=>(show Option ((Int×(List Int))⊕((List Int)))from(some (decide ((a:Int)<e))).bind λe=>(bif e then(bV c a).bind λc=>(mX c).bind λc=>(fG b a).bind λe=>(stM b e c).bind λc=>(some (IntKind.i64.wrap (a+1))).bind λa=>some (.inl (a,c))else some (.inr b)))) (0,d)).bind λa=>some (a,0))
noncomputable def vo(H:List zI)(I:List zI)(D:Int):Option (Int×Int):=(bK D).bind λa=>(mJ H a).bind λ⟨d,a⟩=>(some (decide ((a:Int)≠0))).bind λb=>(bif b then some (0,a)else(bK D).bind λa=>(mJ I a).bind λ⟨b,a⟩=>(some (decide ((a:Int)≠0))).bind λc=>(bif c then some (0,a)else(fj b d).bind λa=>(mX a).bind λa=>some (a,0)))
noncomputable def kp(H:List (List Sp))(D:List (List Sp))(I:Qr):Option (Bool):=(some (H.length:Int)).bind λb=>(bH (λ(a:Int×Int×Int)=>match a with|⟨a,d,c⟩=>(show Option ((Int×Int×Int)⊕(Int×Int))from(some (decide ((c:Int)<b))).bind λb=>(bif b then(bV H c).bind λb=>(mU b I).bind λ⟨e,b,f⟩=>(some (IntKind.i64.wrap (a+e))).bind λe=>(some (IntKind.i64.wrap (d+b))).bind λb=>(some (IntKind.i64.wrap (c+1))).bind λc=>some (.inl (e,b,c))else some (.inr (a,d))))) (0,0,0)).bind λa=>match a with|⟨b,d⟩=>(some (D.length:Int)).bind λf=>(bH (λ(a:Int×Int×Int)=>match a with|⟨a,e,c⟩=>(show Option ((Int×Int×Int)⊕(Int×Int))from(some (decide ((c:Int)<f))).bind λf=>(bif f then(bV D c).bind λf=>(mW f I).bind λ⟨f,h,g⟩=>(some (IntKind.i64.wrap (a+f))).bind λg=>(some (IntKind.i64.wrap (e+h))).bind λf=>(some (IntKind.i64.wrap (c+1))).bind λc=>some (.inl (g,f,c))else some (.inr (a,e))))) (0,0,0)).bind λa=>match a with|⟨a,e⟩=>bU (λ(c:Bool)=>some c) λc=>(some (decide ((b:Int)<=e))).bind λb=>(bif b then(some (decide ((a:Int)<=d))).bind λa=>some a else some false).bind λa=>c a
noncomputable def iQ(H:List (List Sp))(D:List (List Sp)):Option (Int):=(some (([H,D]:List (List (List Sp))).length:Int)).bind λc=>(bH (λ(a:Int×(List Int))=>match a with|⟨b,e⟩=>(show Option ((Int×(List Int))⊕((List Int)))from(some (decide ((b:Int)<c))).bind λa=>(bif a then(bV [H,D] b).bind λd=>(some (d.length:Int)).bind λg=>(bH (λ(a:Int×(List Int))=>match a with|⟨c,f⟩=>(show Option ((Int×(List Int))⊕((List Int)))from(some (decide ((c:Int)<g))).bind λa=>(bif a then(bV d c).bind λd=>(some (d.length:Int)).bind λh=>(bH (λ(a:Int×(List Int))=>match a with|⟨a,g⟩=>(show Option ((Int×(List Int))⊕((List Int)))from(some (decide ((a:Int)<h))).bind λh=>(bif h then(bV d a).bind λd=>(some (IntKind.i64.wrap (0-d.dm))).bind λh=>(some (max (d.dm:Int) h)).bind λd=>(uE 8 g [d]).bind λd=>(some (IntKind.i64.wrap (a+1))).bind λa=>some (.inl (a,d))else some (.inr g)))) (0,f)).bind λd=>(some (IntKind.i64.wrap (c+1))).bind λa=>some (.inl (a,d))else some (.inr f)))) (0,e)).bind λa=>(some (IntKind.i64.wrap (b+1))).bind λb=>some (.inl (b,a))else some (.inr e)))) (0,[0])).bind λa=>(abe a).bind λ_=>(some (a.length:Int)).bind λc=>(bH (λ(b:Int)=>(show Option ((Int)⊕(Int))from(some (decide ((b:Int)<c))).bind λc=>(bif c then(fG a b).bind λc=>(a[c]?).bind λd=>(some (([1,(-1)]:List Int).length:Int)).bind λc=>(bH (λ(a:Int)=>(show Option ((Int)⊕((Unit)⊕((Int)⊕(Int))))from(some (decide ((a:Int)<c))).bind λc=>(bif c then(bV [1,(-1)] a).bind λc=>(some (IntKind.i64.wrap (c*d))).bind λe=>(bK e).bind λe=>(kp H D e).bind λe=>(bif e then(some (IntKind.i64.wrap (c*d))).bind λc=>some (.inr (.inr (.inr c)))else(some (IntKind.i64.wrap (a+1))).bind λa=>some (.inl a))else some (.inr (.inl ()))))) 0).bind λa=>match a with|.inr v82=>some v82|.inl _=>(some (IntKind.i64.wrap (b+1))).bind λa=>some (.inl a)else some (.inr 0)))) 0).bind λa=>some a
noncomputable def xG(H:List (List Sp))(D:List (List Sp)):Option (Cr×Int):=(pT H D).bind λa=>(some (decide ((a:Int)≠0))).bind λb=>(bif b then some (⟨0,0,0,[],[]⟩,a)else(lS H).bind λ⟨e,b,a⟩=>(some (decide ((a:Int)≠0))).bind λb=>(bif b then some (⟨0,0,0,[],[]⟩,a)else(nY D).bind λ⟨d,b,a⟩=>(some (decide ((a:Int)≠0))).bind λb=>(bif b then some (⟨0,0,0,[],[]⟩,a)else(rS e d).bind λb=>(kC e b).bind λ⟨g,a⟩=>(some (decide ((a:Int)≠0))).bind λc=>(bif c then some (⟨0,0,0,[],[]⟩,a)else(kC d b).bind λ⟨c,a⟩=>(some (decide ((a:Int)≠0))).bind λf=>(bif f then some (⟨0,0,0,[],[]⟩,a)else(vo e d b).bind λ⟨d,a⟩=>(some (decide ((a:Int)≠0))).bind λe=>(bif e then some (⟨0,0,0,[],[]⟩,a)else(iQ H D).bind λa=>some (⟨b,a,d,g,c⟩,0)))))))
end
section
open Go.Fw Go.RowKit
theorem A0{H:List Sp}{D:Qr}{I:Int}{r:Int×Int}(h:iz H D I=some r):Pure ah 180 [aoc 2 iq H,.agg (eQ D),ax I] (.lK [ax r.1,ax r.2]):=by
 refine aZ Tryz.func180 Y λE w vs a=>?_;unfold iz at h;refine sr<|acj Y<|aC Y<|aC Y<|dn<|aT<|sr<|aB Y<|aN h λc h=>aB Y<|dn<|bq h λd b i=>?_;refine bp (λ(a:Int×Int)=>AS.bM 41 [(6,ai a.1),(7,ai a.2)] []) (λa=>a=d) (aV<|br b (λb=>AS.bM 41 [(2,ai I),(4,.ptr 4 0),(6,ai b.1),(7,ai b.2.1),(10,aoh 2 iq H),(11,ai c),(12,ai b.2.2)] [(4,.box 40 [aj D.num.neg,aoh 1 bf D.num.w,aj D.den.neg,aoh 1 bf D.den.w])]) (wk []) (λb e d h k g=>?_)) (λa j=>?_)
 ·obtain⟨d,e,f⟩:=b
  try dsimp only
  refine sr<|aL h λb h=>dn<|aT<|?_;cases b
  ·refine cF h λh=>bt<|aR.x<|aR.x<|bn.x<|?_;obtain rfl:=aob h;exact aR.n ⟨(d,e),g _ Y,wk []⟩
  refine cT h λh=>aX<|aR.n<|aT<|aV<|sr<|aQ Y h λb h=>aeC Y (.cons (.cons (.nil)))<|aM (cs:=[ax 0,ax 0]) (by exact⟨aq,aq,an⟩)<|aJ Y Y Y<|dn<|sd mixed<|aG Y Y<|aH Y Y Y<|aE h (λ_=>bQ) λb h=>aK Y Y (.k4 Y Y Y Y)<|aE h (λ_=>kW) λb h=>dd<|aV<|sr<|aB Y<|aeH h λg h=>aC Y<|dn<|?_;refine bB h (λb=>AS.bM 41 [(2,ai I),(4,.ptr 4 0),(6,ai b.1),(7,ai b.2),(10,aoh 2 iq H),(11,ai c),(12,ai f)] [(4,.box 40 [aj D.num.neg,aoh 1 bf D.num.w,aj D.den.neg,aoh 1 bf D.den.w])]) (λh=>?_) (λb h=>?_)
  ·cases g
   ·refine cF h λh=>sr<|aeH h λl h=>aC Y<|dn<|?_;refine bB h (λg=>AS.bM 41 [(2,ai I),(4,.ptr 4 0),(6,ai d),(7,ai g),(10,aoh 2 iq H),(11,ai c),(12,ai f)] [(4,.box 40 [aj D.num.neg,aoh 1 bf D.num.w,aj D.den.neg,aoh 1 bf D.den.w])]) (λh=>?_) (λc h=>?_)
    ·cases l
     ·exact cF h λh=>aX<|aR.n ⟨e,h,wk []⟩
     exact cT h λh=>aU<|aB Y<|aG Y Y<|aH Y Y Y<|aO h λe h=>aC Y<|aF<|aR.n ⟨e,h,wk []⟩
    exact aR.n ⟨(d,c),h,wk []⟩
   exact cT h λh=>sr<|aB Y<|aG Y Y<|aH Y Y Y<|aO h λd h=>aC Y<|dn<|aU<|aB Y<|aG Y Y<|aH Y Y Y<|aO h λc h=>aC Y<|aF<|aR.n ⟨(d,c),h,wk []⟩
  obtain⟨c,d⟩:=b
  try dsimp only
  refine bn.n<|bn.n<|aR.n<|aU<|aO h λb h=>aB Y<|aF<|?_;obtain rfl:=aob h;exact aR.n ⟨(c,d,b),k _ Y,wk []⟩
 subst j;obtain⟨b,c⟩:=a
 try dsimp only
 exact aR.n<|sr<|aB Y<|aB Y<|aC Y<|aC Y<|dn<|aY<|f2 i
theorem Hy{D:List Sp}{H:Qr}{r:Int×Int×Int}(h:mU D H=some r):Pure ah 118 [aoc 2 iq D,.agg (eQ H)] (.lK [ax r.1,ax r.2.1,ax r.2.2]):=by
 refine aZ Tryz.func118 Y λE w vs a=>?_;unfold mU at h;refine sr<|acj Y<|aC Y<|aC Y<|aC Y<|dn<|aT<|sr<|aB Y<|aE h (λ_=>kA) λa h=>aC Y<|dn<|sr<|aB Y<|aeA h λa h=>dn<|?_;cases a
 ·exact cF h λh=>aX<|aR.n<|sr<|aB Y<|aK Y Y (.k4 Y Y Y Y)<|aE h (λ_=>A0) λ⟨a,b⟩ h=>aB Y<|aP Y Y<|aP Y Y<|aC Y<|aC Y<|dn<|sr<|aB Y<|aB Y<|aC Y<|aC Y<|aC Y<|dn<|aY<|f3 h
 exact cT h λh=>sr<|aB Y<|aC Y<|aC Y<|aC Y<|dn<|aY<|aR.r<|f3 h
theorem Hz{D:List Sp}{H:Qr}{r:Int×Int×Int}(h:mW D H=some r):Pure ah 119 [aoc 2 iq D,.agg (eQ H)] (.lK [ax r.1,ax r.2.1,ax r.2.2]):=by
 refine aZ Tryz.func119 Y λE w vs a=>?_;unfold mW at h;refine sr<|acj Y<|aC Y<|aC Y<|aC Y<|dn<|aT<|sr<|aB Y<|aE h (λ_=>l9) λa h=>aC Y<|dn<|sr<|aB Y<|aeA h λa h=>dn<|?_;cases a
 ·exact cF h λh=>aX<|aR.n<|sr<|aB Y<|aK Y Y (.k4 Y Y Y Y)<|aE h (λ_=>A0) λ⟨a,b⟩ h=>aB Y<|aP Y Y<|aP Y Y<|aC Y<|aC Y<|dn<|sr<|aB Y<|aB Y<|aC Y<|aC Y<|aC Y<|dn<|aY<|f3 h
 exact cT h λh=>sr<|aB Y<|aC Y<|aC Y<|aC Y<|dn<|aY<|aR.r<|f3 h
theorem Lw{H:List (List Sp)}{D:List (List Sp)}{r:Int}(h:pT H D=some r):Pure ah 27 [aoc 1 (eS 2 iq) H,aoc 1 (eS 2 iq) D] (ax r):=by
 refine aZ Tryz.func27 Y λE w vs a=>?_;unfold pT at h;refine sr<|aC Y<|dn<|aT<|aT<|?_;refine bB h (λa=>AS.bM 43 [(0,aoh 1 (eS 2 iq) H),(1,aoh 1 (eS 2 iq) D),(18,aj a)] []) (λh=>?_) (λd h=>?_)
 ·refine aU<|aB Y<|aN h λa h=>aeG h λb h=>aB Y<|bq h λc a h=>?_;cases b
  ·replace a:=ct a;refine aB Y<|aN a λb a=>aeG a λb a=>?_;obtain rfl:=aob a;exact abE Y<|aF<|aR.n ⟨b,h,wk []⟩
  replace a:=cn a;cases a;exact aD<|aD<|aD<|aax Y<|aF<|aR.n ⟨true,h,wk []⟩
 refine aR.n<|?_;cases d
 ·refine cF h λh=>aX<|aR.n<|aT<|sr<|aB Y<|aN h λe h=>aB Y<|dn<|bq h λd b c=>?_;refine bp (λ(a:Unit)=>AS.bM 43 [(1,aoh 1 (eS 2 iq) D)] []) (λa=>.inl a=d) (aV<|br b (λb=>AS.bM 43 [(1,aoh 1 (eS 2 iq) D),(19,aoh 1 (eS 2 iq) H),(20,ai e),(21,ai b)] []) (wk []) (λe f g h d b=>?_)) (λa e=>?_)
  ·refine sr<|aL h λa h=>dn<|aT<|?_;cases a
   ·refine cF h λh=>bt<|aR.x<|aR.x<|bn.x<|?_;cases h;exact aR.n ⟨(),b _ Y,wk []⟩
   refine cT h λh=>aX<|aR.n<|aT<|aV<|sr<|aQ Y h λa h=>aI Y Y<|aC Y<|dn<|sr<|aB Y<|aE h (λ_=>kA) λa h=>aC Y<|dn<|sr<|aB Y<|aeA h λa h=>dn<|?_;cases a
   ·refine cF h λh=>aX<|bn.n<|aR.n<|aU<|aO h λa h=>aB Y<|aF<|?_;obtain rfl:=aob h;exact aR.n ⟨a,d _ Y,wk []⟩
   refine cT h λh=>sr<|aB Y<|aC Y<|dn<|aY<|bn.r<|aR.r<|?_;obtain rfl:=aob h;have a:=b _ Y;subst a;exact aR.r<|bn.r<|aR.r<|aR.r<|f1 c
  subst e;refine aR.n<|aT<|sr<|aB Y<|aN c λe c=>aB Y<|dn<|bq c λc d b=>?_;refine bp (λ(a:Unit)=>AS.bM 43 [] []) (λa=>.inl a=c) (aV<|br d (λc=>AS.bM 43 [(31,aoh 1 (eS 2 iq) D),(32,ai e),(33,ai c)] []) (wk []) (λg d f h e c=>?_)) (λa d=>?_)
  ·refine sr<|aL h λa h=>dn<|aT<|?_;cases a
   ·refine cF h λh=>bt<|aR.x<|aR.x<|bn.x<|?_;cases h;exact aR.n ⟨(),c _ Y,wk []⟩
   refine cT h λh=>aX<|aR.n<|aT<|aV<|sr<|aQ Y h λa h=>aI Y Y<|aC Y<|dn<|sr<|aB Y<|aE h (λ_=>l9) λa h=>aC Y<|dn<|sr<|aB Y<|aeA h λa h=>dn<|?_;cases a
   ·refine cF h λh=>aX<|bn.n<|aR.n<|aU<|aO h λa h=>aB Y<|aF<|?_;obtain rfl:=aob h;exact aR.n ⟨a,e _ Y,wk []⟩
   refine cT h λh=>sr<|aB Y<|aC Y<|dn<|aY<|bn.r<|aR.r<|?_;obtain rfl:=aob h;have a:=c _ Y;subst a;exact aR.r<|bn.r<|aR.r<|aR.r<|f1 b
  subst d;exact aR.n<|sr<|aC Y<|dn<|aY<|f1 b
 exact cT h λh=>sr<|aC Y<|dn<|aY<|aR.r<|f1 h
theorem Jq{H:List zI}{D:List zI}{r:Int}(h:rS H D=some r):Pure ah 30 [aoc 3 iJ H,aoc 3 iJ D] (ax r):=by
 refine aZ Tryz.func30 Y λE w vs a=>?_;unfold rS at h;refine sr<|aC Y<|dn<|sr<|aC Y<|aC Y<|aC Y<|dn<|sr<|aC Y<|aC Y<|dn<|aT<|bq h λa c l=>?_;refine bp (λ(b:Int)=>AS.bM 77 [(5,ai b)] []) (λb=>b=a) (aV<|br c (λa=>AS.bM 77 [(0,aoh 3 iJ H),(1,aoh 3 iJ D),(5,ai a.1),(6,ai a.2.1),(7,ai a.2.2.1),(8,ai a.2.2.2.1),(9,ai a.2.2.2.2)] []) (wk []) (λa d c h m j=>?_)) (λb i=>?_)
 ·obtain⟨c,b,f,e,d⟩:=a
  try dsimp only
  refine aT<|aT<|?_;refine bB h (λa=>AS.bM 77 [(0,aoh 3 iJ H),(1,aoh 3 iJ D),(5,ai c),(6,ai b),(7,ai f),(8,ai e),(9,ai d),(33,aj a)] []) (λh=>?_) (λg h=>?_)
  ·refine bz mixed<|aB Y<|aB Y<|aN h λa h=>aL h λb h=>aB Y<|bq h λf a h=>?_;cases b
   ·replace a:=ct a;obtain rfl:=aob a;refine aD<|aD<|aD<|aD<|abE Y<|aB Y<|bq h λf b h=>?_;replace b:=ct b;cases b;exact aD<|aD<|aD<|aD<|aD<|aD<|aD<|aD<|aD<|aD<|aD<|abE Y<|de<|aR.n ⟨false,h,wk []⟩
   replace a:=cn a;refine aB Y<|aB Y<|aN a λb a=>aL a λb a=>?_;obtain rfl:=aob a;refine aax Y<|aB Y<|bq h λf a h=>?_;cases b
   ·replace a:=ct a;cases a;exact aD<|aD<|aD<|aD<|aD<|aD<|aD<|aD<|aD<|aD<|aD<|abE Y<|de<|aR.n ⟨false,h,wk []⟩
   replace a:=cn a;refine aB Y<|aB Y<|aQ Y a λb a=>aew Y<|aI Y Y<|aB Y<|aB Y<|aQ Y a λb a=>aew Y<|aI Y Y<|aL a λb a=>?_;obtain rfl:=aob a;exact aax Y<|de<|aR.n ⟨b,h,wk []⟩
  refine aR.n<|?_;cases g
  ·refine cF h λh=>bt<|aR.x<|aR.x<|bn.x<|?_;obtain rfl:=aob h;exact aR.n ⟨c,j _ Y,wk []⟩
  refine cT h λh=>aX<|aR.n<|aV<|sd mixed<|aB Y<|aB Y<|aQ Y h λa h=>aew Y<|aI Y Y<|aB Y<|aeK h λa h=>aB Y<|aB Y<|aQ Y h λa h=>aew Y<|aI Y Y<|aB Y<|aeK h λa h=>ahE (k:=.i64) h λa h=>aC Y<|dd<|sr<|aB Y<|aB Y<|aO h λc h=>aC Y<|dn<|sr<|aB Y<|aB Y<|aO h λg h=>aC Y<|dn<|sr<|aB Y<|aB Y<|aO h λb h=>aC Y<|dn<|aT<|sr<|aB Y<|aB Y<|aB Y<|aQ Y h λa h=>aew Y<|aI Y Y<|aeH h λf h=>dn<|?_;refine bB h (λa=>AS.bM 77 [(0,aoh 3 iJ H),(1,aoh 3 iJ D),(5,ai c),(6,ai a.1),(7,ai b),(8,ai a.2),(9,ai d)] []) (λh=>?_) (λa h=>?_)
  ·cases f
   ·exact cF h λh=>aX<|aR.n ⟨(g,e),h,wk []⟩
   exact cT h λh=>aU<|aB Y<|aO h λe h=>aC Y<|aC Y<|aF<|aR.n ⟨(0,e),h,wk []⟩
  obtain⟨e,f⟩:=a
  try dsimp only
  refine aR.n<|sr<|aB Y<|aB Y<|aB Y<|aQ Y h λa h=>aew Y<|aI Y Y<|aeH h λg h=>dn<|?_;refine bB h (λa=>AS.bM 77 [(0,aoh 3 iJ H),(1,aoh 3 iJ D),(5,ai c),(6,ai e),(7,ai a.1),(8,ai f),(9,ai a.2)] []) (λh=>?_) (λa h=>?_)
  ·cases g
   ·exact cF h λh=>aX<|aR.n ⟨(b,d),h,wk []⟩
   exact cT h λh=>aU<|aB Y<|aO h λb h=>aC Y<|aC Y<|aF<|aR.n ⟨(0,b),h,wk []⟩
  obtain⟨d,b⟩:=a
  try dsimp only
  refine bn.n<|?_;obtain rfl:=aob h;exact aR.n ⟨(c,e,d,f,b),m _ Y,wk []⟩
 subst i;exact aR.n<|sr<|aB Y<|aC Y<|dn<|aY<|f1 l
theorem yT{D:Qr}{r:Int}(h:mX D=some r):Pure ah 62 [.agg (eQ D)] (ax r):=by
 refine aZ Tryz.func62 Y λE w vs a=>?_;unfold mX at h;exact sr<|acj Y<|aC Y<|dn<|sr<|aK Y Y (.k4 Y Y Y Y)<|aE h (λ_=>Nl) λ⟨a,b⟩ h=>aE h (λ_=>jo) λ⟨a,b⟩ h=>aB Y<|aP Y Y<|aP Y Y<|aC Y<|aC Y<|dn<|sr<|aB Y<|aC Y<|dn<|aY<|f1 h
theorem A3{x0:List zI}{x1:Int}{r:(List Int)×Int}(h:kC x0 x1=some r):Pure ah 31 [aoc 3 iJ x0,ax x1] (.lK [aoc 1 bh r.1,ax r.2]):=by
 refine aZ Tryz.func31 Y λE w vs a=>?_;unfold kC at h;refine sr<|aeD (aA (n:=1) (e:=bh))<|aC Y<|dn<|sr<|aB Y<|aB Y<|aE h (λ_=>bQ) λa h=>aE h (λ_=>Lq) λ⟨c,a⟩ h=>aB Y<|aP Y Y<|aP Y Y<|aC Y<|aC Y<|dn<|aT<|sr<|aB Y<|aeA h λa h=>dn<|?_;cases a
 ·refine cF h λh=>aX<|aR.n<|sr<|aB Y<|aN h λa h=>aeW (e:=bh) 0 (by exact⟨aq,an⟩) h λa h=>aey Y<|dn<|aT<|sr<|aB Y<|aN h λd h=>aB Y<|dn<|bq h λb xV f=>?_;refine bp (λ(a:(List Int))=>AS.bM 38 [(8,.ob 23)] [(23,TR 2 1 bh a)]) (λa=>a=b) (aV<|br xV (λb=>AS.bM 38 [(8,.ob 23),(24,aoh 4 eQ c),(25,ai d),(26,ai b.1)] [(23,TR 2 1 bh b.2)]) (wk []) (λb y8 c h xC xh=>?_)) (λa xW=>?_)
  ·obtain⟨d,c⟩:=b
   try dsimp only
   refine sr<|aL h λb h=>dn<|aT<|?_;cases b
   ·refine cF h λh=>bt<|aR.x<|aR.x<|bn.x<|?_;obtain rfl:=aob h;exact aR.n ⟨c,xh _ Y,wk []⟩
   refine cT h λh=>aX<|aR.n<|aT<|aV<|sr<|aB Y<|aQ Y h λb h=>aeC Y (.cons (.cons (.cons (.cons (.nil)))))<|aM (cs:=[ay false,au,ay false,au]) (by exact⟨aq,aA,aq,aA,an⟩)<|aC Y<|aJ Y Y Y<|dn<|aU<|aaw Y<|aB Y<|aK Y Y (.k4 Y Y Y Y)<|aE h (λ_=>yT) λb h=>acr (p:=.r 23) Y (.r (.r Y)) h λc h=>afx (p:=.r 23) b Y Y (.r Y) h λc h=>aF<|bn.n<|aR.n<|aU<|aO h λb h=>aB Y<|aF<|?_;obtain rfl:=aob h;exact aR.n ⟨(b,c),xC _ Y,wk []⟩
  subst xW;exact aR.n<|sr<|aaw Y<|aey Y<|aC Y<|dn<|ow (bT (i:=23) (e:=bh) (l:=a) Y)<|aY<|f2 f
 exact cT h λh=>sr<|aB Y<|aeD (aA (n:=1) (e:=bh))<|aC Y<|dn<|aY<|aR.r<|f2 h
theorem Ns{H:List zI}{D:List zI}{I:Int}{r:Int×Int}(h:vo H D I=some r):Pure ah 32 [aoc 3 iJ H,aoc 3 iJ D,ax I] (.lK [ax r.1,ax r.2]):=by
 refine aZ Tryz.func32 Y λE w vs a=>?_;unfold vo at h;refine sr<|aC Y<|aC Y<|dn<|sr<|aB Y<|aB Y<|aE h (λ_=>bQ) λa h=>aE h (λ_=>DO) λ⟨a,b⟩ h=>aB Y<|aP Y Y<|aP Y Y<|aM (cs:=[ay false,au,ay false,au]) (by exact⟨aq,aA,aq,aA,an⟩)<|aJ Y Y Y<|aC Y<|dn<|aT<|sr<|aB Y<|aeA h λa h=>dn<|?_;cases a
 ·refine cF h λh=>aX<|aR.n<|sr<|aB Y<|aB Y<|aE h (λ_=>bQ) λa h=>aE h (λ_=>DO) λ⟨b,a⟩ h=>aB Y<|aP Y Y<|aP Y Y<|aM (cs:=[ay false,au,ay false,au]) (by exact⟨aq,aA,aq,aA,an⟩)<|aJ Y Y Y<|aC Y<|dn<|aT<|sr<|aB Y<|aeA h λa h=>dn<|?_;cases a
  ·exact cF h λh=>aX<|aR.n<|sr<|aK Y Y (.k4 Y Y Y Y)<|aK Y Y (.k4 Y Y Y Y)<|aE h (λ_=>iH) λa h=>aE h (λ_=>yT) λa h=>aC Y<|aC Y<|dn<|aY<|f2 h
  exact cT h λh=>sr<|aB Y<|aC Y<|aC Y<|dn<|aY<|aR.r<|f2 h
 exact cT h λh=>sr<|aB Y<|aC Y<|aC Y<|dn<|aY<|aR.r<|f2 h
theorem FT{x0:List (List Sp)}{x1:List (List Sp)}{x2:Qr}{r:Bool}(h:kp x0 x1 x2=some r):Pure ah 65 [aoc 1 (eS 2 iq) x0,aoc 1 (eS 2 iq) x1,.agg (eQ x2)] (ay r):=by
 refine aZ Tryz.func65 Y λE w vs a=>?_;unfold kp at h;refine sr<|acj Y<|aC Y<|dn<|sr<|aC Y<|aC Y<|aC Y<|aC Y<|dn<|aT<|sr<|aB Y<|aN h λb h=>aB Y<|dn<|bq h λa z8 d=>?_;refine bp (λ(vC:Int×Int)=>AS.bM 69 [(1,aoh 1 (eS 2 iq) x1),(5,.ptr 5 0),(7,ai vC.1),(8,ai vC.2),(9,ai 0),(10,ai 0)] [(5,.box 40 [aj x2.num.neg,aoh 1 bf x2.num.w,aj x2.den.neg,aoh 1 bf x2.den.w])]) (λvC=>vC=a) (aV<|br z8 (λa=>AS.bM 69 [(1,aoh 1 (eS 2 iq) x1),(5,.ptr 5 0),(7,ai a.1),(8,ai a.2.1),(9,ai 0),(10,ai 0),(21,aoh 1 (eS 2 iq) x0),(22,ai b),(23,ai a.2.2)] [(5,.box 40 [aj x2.num.neg,aoh 1 bf x2.num.w,aj x2.den.neg,aoh 1 bf x2.den.w])]) (wk []) (λa y6 b h c w8=>?_)) (λvC f=>?_)
 ·obtain⟨b,e,g⟩:=a
  try dsimp only
  refine sr<|aL h λa h=>dn<|aT<|?_;cases a
  ·refine cF h λh=>bt<|aR.x<|aR.x<|bn.x<|?_;obtain rfl:=aob h;exact aR.n ⟨(b,e),w8 _ Y,wk []⟩
  refine cT h λh=>aX<|aR.n<|aT<|aV<|sr<|aQ Y h λa h=>aI Y Y<|aC Y<|dn<|sr<|aB Y<|aK Y Y (.k4 Y Y Y Y)<|aE h (λ_=>Hy) λ⟨e,a,b⟩ h=>aB Y<|aP Y Y<|aP Y Y<|aP Y Y<|aC Y<|aC Y<|aC Y<|dn<|sr<|aB Y<|aB Y<|aO h λa h=>aC Y<|dn<|aU<|aB Y<|aB Y<|aO h λb h=>aC Y<|aF<|bn.n<|aR.n<|aU<|aO h λe h=>aB Y<|aF<|?_;obtain rfl:=aob h;exact aR.n ⟨(a,b,e),c _ Y,wk []⟩
 subst f;obtain⟨c,e⟩:=vC
 try dsimp only
 refine aR.n<|aT<|sr<|aB Y<|aN d λf d=>aB Y<|dn<|bq d λd vQ a=>?_;refine bp (λ(b:Int×Int)=>AS.bM 69 [(7,ai c),(8,ai e),(9,ai b.1),(10,ai b.2)] []) (λb=>b=d) (aV<|br vQ (λd=>AS.bM 69 [(5,.ptr 5 0),(7,ai c),(8,ai e),(9,ai d.1),(10,ai d.2.1),(41,aoh 1 (eS 2 iq) x1),(42,ai f),(43,ai d.2.2)] [(5,.box 40 [aj x2.num.neg,aoh 1 bf x2.num.w,aj x2.den.neg,aoh 1 bf x2.den.w])]) (wk []) (λd y12 c h vi vR=>?_)) (λb vS=>?_)
 ·obtain⟨c,e,f⟩:=d
  try dsimp only
  refine sr<|aL h λd h=>dn<|aT<|?_;cases d
  ·refine cF h λh=>bt<|aR.x<|aR.x<|bn.x<|?_;obtain rfl:=aob h;exact aR.n ⟨(c,e),vR _ Y,wk []⟩
  refine cT h λh=>aX<|aR.n<|aT<|aV<|sr<|aQ Y h λc h=>aI Y Y<|aC Y<|dn<|sr<|aB Y<|aK Y Y (.k4 Y Y Y Y)<|aE h (λ_=>Hz) λ⟨d,e,c⟩ h=>aB Y<|aP Y Y<|aP Y Y<|aP Y Y<|aC Y<|aC Y<|aC Y<|dn<|sr<|aB Y<|aB Y<|aO h λsM h=>aC Y<|dn<|aU<|aB Y<|aB Y<|aO h λsN h=>aC Y<|aF<|bn.n<|aR.n<|aU<|aO h λxg h=>aB Y<|aF<|?_;obtain rfl:=aob h;exact aR.n ⟨(sM,sN,xg),vi _ Y,wk []⟩
 subst vS;obtain⟨c,d⟩:=b
 try dsimp only
 refine aR.n<|aT<|?_;refine bB a (λb=>AS.bM 69 [(6,aj b)] []) (λa=>?_) (λb a=>?_)
 ·refine aU<|aB Y<|aB Y<|agS a λd a=>aB Y<|bq a λc b a=>?_;cases d
  ·replace b:=ct b;cases b;exact aD<|aD<|aD<|abE Y<|aC Y<|aF<|aR.n ⟨false,a,wk []⟩
  replace b:=cn b;refine aB Y<|aB Y<|agS b λc b=>?_;obtain rfl:=aob b;exact aax Y<|aC Y<|aF<|aR.n ⟨c,a,wk []⟩
 exact aR.n<|aY<|f1 a
end
section
open Go.Fw Go.RowKit
theorem Aj{x0:List (List Sp)}{x1:List (List Sp)}{r:Int}(h:iQ x0 x1=some r):Pure ah 33 [aoc 1 (eS 2 iq) x0,aoc 1 (eS 2 iq) x1] (ax r):=by
 refine aZ Tryz.func33 Y λE w vs hvs=>?_;unfold iQ at h;refine sr<|aC Y<|dn<|BF<|sr<|ajN (l:=[0]) (e:=bh) (.one Y (.nil)) Y<|aM (cs:=[.v (.slice none 0 0)]) (by exact⟨aq,an⟩)<|aeN Y Y Y (.ob Y)<|dn<|aT<|sr<|aB Y<|aB Y<|aeI (l:=[x0,x1]) (e:=(eS 1 (eS 2 iq))) (.one Y (.one Y (.nil))) Y<|aN h λeY h=>aB Y<|dn<|bq h λe36 b mS=>?_;refine bp (λ(a:(List Int))=>AS.bM 79 [(0,aoh 1 (eS 2 iq) x0),(1,aoh 1 (eS 2 iq) x1),(5,.ptr 5 0)] [(5,.box 59 [.ob 2011]),(2011,TR 2 1 bh a)]) (λa=>a=e36) (aV<|br b (λb=>AS.bM 79 [(0,aoh 1 (eS 2 iq) x0),(1,aoh 1 (eS 2 iq) x1),(5,.ptr 5 0),(20,aoh 1 (eS 1 (eS 2 iq)) [x0,x1]),(21,ai eY),(22,ai b.1)] [(5,.box 59 [.ob 2011]),(2011,TR 2 1 bh b.2)]) (wk [(2011,17)]) (λb y36 c h g f=>?_)) (λa Uz=>?_)
 ·obtain⟨d,WX⟩:=b
  try dsimp only
  refine sr<|aL h λep h=>dn<|aT<|?_;cases ep
  ·refine cF h λh=>bt<|aR.x<|aR.x<|bn.x<|?_;obtain rfl:=aob h;exact aR.n ⟨WX,f _ Y,wk []⟩
  refine cT h λh=>aX<|aR.n<|aT<|aV<|sr<|aQ Y h λgE h=>aI Y Y<|aC Y<|dn<|sr<|aB Y<|aN h λgJ h=>aB Y<|dn<|bq h λe52 auo akQ=>?_;refine bp (λ(b:(List Int))=>AS.bM 79 [(0,aoh 1 (eS 2 iq) x0),(1,aoh 1 (eS 2 iq) x1),(5,.ptr 5 0),(20,aoh 1 (eS 1 (eS 2 iq)) [x0,x1]),(21,ai eY),(22,ai d)] [(5,.box 59 [.ob 2026]),(2026,TR 2 1 bh b)]) (λb=>b=e52) (aV<|br auo (λs52=>AS.bM 79 [(0,aoh 1 (eS 2 iq) x0),(1,aoh 1 (eS 2 iq) x1),(5,.ptr 5 0),(20,aoh 1 (eS 1 (eS 2 iq)) [x0,x1]),(21,ai eY),(22,ai d),(26,aoh 1 (eS 2 iq) gE),(27,ai gJ),(28,ai s52.1)] [(5,.box 59 [.ob 2026]),(2026,TR 2 1 bh s52.2)]) (wk [(2026,2011)]) (λs52 y52 c h aup auq=>?_)) (λb aur=>?_)
  ·obtain⟨f,WY⟩:=s52
   try dsimp only
   refine sr<|aL h λfO h=>dn<|aT<|?_;cases fO
   ·refine cF h λh=>bt<|aR.x<|aR.x<|bn.x<|?_;obtain rfl:=aob h;exact aR.n ⟨WY,auq _ Y,wk []⟩
   refine cT h λh=>aX<|aR.n<|aT<|aV<|sr<|aQ Y h λiF h=>aI Y Y<|aC Y<|dn<|sr<|aB Y<|aN h λlM h=>aB Y<|dn<|bq h λe58 akR abF=>?_;refine bp (λ(c:(List Int))=>AS.bM 79 [(0,aoh 1 (eS 2 iq) x0),(1,aoh 1 (eS 2 iq) x1),(5,.ptr 5 0),(20,aoh 1 (eS 1 (eS 2 iq)) [x0,x1]),(21,ai eY),(22,ai d),(26,aoh 1 (eS 2 iq) gE),(27,ai gJ),(28,ai f)] [(5,.box 59 [.ob 2032]),(2032,TR 2 1 bh c)]) (λc=>c=e58) (aV<|br akR (λYx=>AS.bM 79 [(0,aoh 1 (eS 2 iq) x0),(1,aoh 1 (eS 2 iq) x1),(5,.ptr 5 0),(20,aoh 1 (eS 1 (eS 2 iq)) [x0,x1]),(21,ai eY),(22,ai d),(26,aoh 1 (eS 2 iq) gE),(27,ai gJ),(28,ai f),(32,aoh 2 iq iF),(33,ai lM),(34,ai Yx.1)] [(5,.box 59 [.ob 2032]),(2032,TR 2 1 bh Yx.2)]) (wk [(2032,2026)]) (λYx y58 d h akS akT=>?_)) (λc akU=>?_)
   ·obtain⟨d,WZ⟩:=Yx
    try dsimp only
    refine sr<|aL h λjz h=>dn<|aT<|?_;cases jz
    ·refine cF h λh=>bt<|aR.x<|aR.x<|bn.x<|?_;obtain rfl:=aob h;exact aR.n ⟨WZ,akT _ Y,wk []⟩
    refine cT h λh=>aX<|aR.n<|aT<|aV<|sr<|aQ Y h λiu h=>aeC Y (.cons (.cons (.nil)))<|aM (cs:=[ax 0,ax 0]) (by exact⟨aq,aq,an⟩)<|aJ Y Y Y<|dn<|aU<|aH Y Y Y<|aG Y Y<|aH Y Y Y<|aG Y Y<|aH Y Y Y<|ahy h λlI h=>ahD (k:=.i64) h λmE h=>aeI (l:=[mE]) (e:=bh) (.one Y (.nil)) Y<|aeM Y Y h λlq h=>aeN Y Y Y (.ob Y)<|aF<|bn.n<|aR.n<|aU<|aO h λsL h=>aB Y<|aF<|?_;obtain rfl:=aob h;exact aR.n ⟨(sL,lq),akS _ Y,wk [(2032,46)]⟩
   subst akU;refine bn.n<|aR.n<|aU<|aO abF λmu abF=>aB Y<|aF<|?_;obtain rfl:=aob abF;exact aR.n ⟨(mu,c),aup _ Y,wk [(2026,2032)]⟩
  subst aur;refine bn.n<|aR.n<|aU<|aO akQ λvB akQ=>aB Y<|aF<|?_;obtain rfl:=aob akQ;exact aR.n ⟨(vB,b),g _ Y,wk [(2011,2026)]⟩
 subst Uz;refine aR.n<|aT<|bq mS λ_ aus mS=>abg (r:=2011) aus Y Y Y λ_ _ _ _=>aR.n<|sr<|aC Y<|dn<|aT<|BG<|aR.n<|aT<|sr<|aH Y Y Y<|aeJ (p:=.r 2011) Y (.r (.r Y)) mS λtc mS=>aB Y<|dn<|bq mS λe76 aut auu=>?_;refine bp (λ(b:Int)=>AS.bM 79 [(12,ai b)] []) (λb=>b=e76) (aV<|br aut (λs76=>AS.bM 79 [(0,aoh 1 (eS 2 iq) x0),(1,aoh 1 (eS 2 iq) x1),(12,ai 0),(54,.ob 2011),(55,ai tc),(56,ai s76)] [(2011,TR 2 1 bh a)]) (wk []) (λc y76 d h auv ao1=>?_)) (λb auw=>?_)
 ·refine sr<|aL h λvP h=>dn<|aT<|?_;cases vP
  ·refine cF h λh=>bt<|aR.x<|aR.x<|bn.x<|?_;cases h;exact aR.n ⟨0,ao1 _ Y,wk []⟩
  refine cT h λh=>aX<|aR.n<|aT<|aV<|sr<|acr (p:=.r 2011) Y (.r (.r Y)) h λrE h=>aeX (p:=.r 2011) Y (.r Y) (λ_=>Y) h λsN h=>aC Y<|dn<|sr<|aeI (l:=[1,(-1)]) (e:=bh) (.one Y (.one Y (.nil))) Y<|aN h λxx h=>aB Y<|dn<|bq h λe82 auy afT=>?_;refine bp (λ(akV:Unit)=>AS.bM 79 [(0,aoh 1 (eS 2 iq) x0),(1,aoh 1 (eS 2 iq) x1),(12,ai 0),(54,.ob 2011),(55,ai tc),(56,ai c)] [(2011,TR 2 1 bh a)]) (λakV=>.inl akV=e82) (aV<|br auy (λs82=>AS.bM 79 [(0,aoh 1 (eS 2 iq) x0),(1,aoh 1 (eS 2 iq) x1),(12,ai 0),(14,ai sN),(54,.ob 2011),(55,ai tc),(56,ai c),(60,aoh 1 bh [1,(-1)]),(61,ai xx),(62,ai s82)] [(2011,TR 2 1 bh a)]) (wk []) (λb y82 a h auz ao2=>?_)) (λakV auA=>?_)
  ·refine sr<|aL h λa h=>dn<|aT<|?_;cases a
   ·refine cF h λh=>bt<|aR.x<|aR.x<|bn.x<|?_;cases h;exact aR.n ⟨(),ao2 _ Y,wk []⟩
   refine cT h λh=>aX<|aR.n<|aT<|aV<|sr<|aQ Y h λw9 h=>aI Y Y<|aC Y<|dn<|sr<|aB Y<|aB Y<|aB Y<|aB Y<|ahm h λzX h=>aE h (λ_=>bQ) λa h=>aE h (λ_=>FT) λzK h=>dn<|?_;cases zK
   ·refine cF h λh=>aX<|bn.n<|aR.n<|aU<|aO h λW0 h=>aB Y<|aF<|?_;obtain rfl:=aob h;exact aR.n ⟨W0,auz _ Y,wk []⟩
   refine cT h λh=>sr<|aB Y<|aB Y<|ahm h λa h=>aC Y<|dn<|bt<|bn.y ξ<|aR.x<|?_;obtain rfl:=aob h;have auB:=ao2 _ Y;subst auB;refine aR.x<|bn.y ξ<|aR.x<|bn.y ξ<|aR.x<|aR.x<|bn.x<|?_;obtain rfl:=aob afT;exact aR.n ⟨a,ao1 _ Y,wk []⟩
  subst auA;refine bn.n<|aR.n<|aU<|aO afT λa afT=>aB Y<|aF<|?_;obtain rfl:=aob afT;exact aR.n ⟨a,auv _ Y,wk []⟩
 subst auw;exact aR.n<|sr<|aB Y<|aC Y<|dn<|aY<|Ze.r<|f1 auu
theorem PZ{H:List (List Sp)}{D:List (List Sp)}{r:Cr×Int}(h:xG H D=some r):Pure ah 14 [aoc 1 (eS 2 iq) H,aoc 1 (eS 2 iq) D] (.lK [.agg (eCr r.1),ax r.2]):=by
 refine aZ Tryz.func14 Y λE w vs b=>?_;unfold xG at h;refine sr<|aM (cs:=[ax 0,ax 0,ax 0,aoc 1 bh [],aoc 1 bh []]) (by exact⟨aq,aq,aq,aA,aA,an⟩)<|aC Y<|dn<|aT<|sr<|aB Y<|aB Y<|aE h (λ_=>Lw) λl h=>aC Y<|dn<|sr<|aB Y<|aeA h λb h=>dn<|?_;cases b
 ·refine cF h λh=>aX<|aR.n<|sr<|aB Y<|aE h (λ_=>B7) λ⟨c,b,d⟩ h=>aB Y<|aP Y Y<|aP Y Y<|aP Y Y<|aC Y<|aC Y<|aC Y<|dn<|aT<|sr<|aB Y<|aeA h λb h=>dn<|?_;cases b
  ·refine cF h λh=>aX<|aR.n<|sr<|aB Y<|aE h (λ_=>Ei) λ⟨c,b,e⟩ h=>aB Y<|aP Y Y<|aP Y Y<|aP Y Y<|aC Y<|aC Y<|aC Y<|dn<|aT<|sr<|aB Y<|aeA h λb h=>dn<|?_;cases b
   ·refine cF h λh=>aX<|aR.n<|sr<|aB Y<|aB Y<|aE h (λ_=>Jq) λj h=>aC Y<|dn<|sr<|aB Y<|aB Y<|aE h (λ_=>A3) λ⟨i,m⟩ h=>aB Y<|aP Y Y<|aP Y Y<|aC Y<|aC Y<|dn<|aT<|sr<|aB Y<|aeA h λb h=>dn<|?_;cases b
    ·refine cF h λh=>aX<|aR.n<|sr<|aB Y<|aB Y<|aE h (λ_=>A3) λ⟨b,g⟩ h=>aB Y<|aP Y Y<|aP Y Y<|aC Y<|aC Y<|dn<|aT<|sr<|aB Y<|aeA h λc h=>dn<|?_;cases c
     ·refine cF h λh=>aX<|aR.n<|sr<|aB Y<|aB Y<|aB Y<|aE h (λ_=>Ns) λ⟨c,f⟩ h=>aB Y<|aP Y Y<|aP Y Y<|aC Y<|aC Y<|dn<|aT<|sr<|aB Y<|aeA h λk h=>dn<|?_;cases k
      ·exact cF h λh=>aX<|aR.n<|sr<|aB Y<|aB Y<|aE h (λ_=>Aj) λk h=>aC Y<|dn<|sr<|aB Y<|aB Y<|aB Y<|aB Y<|aB Y<|aez (cs':=[ax j,ax k,ax c,aoc 1 bh i,aoc 1 bh b]) (.one Y (.one Y (.one Y (.one Y (.one Y (.nil)))))) (by exact⟨aq,aq,aq,aq,aq,an⟩)<|aJ Y Y Y<|aC Y<|dn<|aY<|fP h [.agg (eCr ⟨j,k,c,i,b⟩),ax 0] (by exact⟨.a Y Y (.cons Y (.k4 Y Y Y Y)) Y,.t Y,an⟩)
      exact cT h λh=>sr<|aez (cs':=[ax 0,ax 0,ax 0,aoc 1 bh [],aoc 1 bh []]) (.nil) (by exact⟨aq,aq,aq,aA,aA,an⟩)<|aB Y<|aJ Y Y Y<|aC Y<|dn<|aY<|aR.r<|fP h [.agg (eCr ⟨0,0,0,[],[]⟩),ax f] (by exact⟨.a Y Y (.cons Y (.k4 Y Y Y Y)) Y,.t Y,an⟩)
     exact cT h λh=>sr<|aez (cs':=[ax 0,ax 0,ax 0,aoc 1 bh [],aoc 1 bh []]) (.nil) (by exact⟨aq,aq,aq,aA,aA,an⟩)<|aB Y<|aJ Y Y Y<|aC Y<|dn<|aY<|aR.r<|fP h [.agg (eCr ⟨0,0,0,[],[]⟩),ax g] (by exact⟨.a Y Y (.cons Y (.k4 Y Y Y Y)) Y,.t Y,an⟩)
    exact cT h λh=>sr<|aez (cs':=[ax 0,ax 0,ax 0,aoc 1 bh [],aoc 1 bh []]) (.nil) (by exact⟨aq,aq,aq,aA,aA,an⟩)<|aB Y<|aJ Y Y Y<|aC Y<|dn<|aY<|aR.r<|fP h [.agg (eCr ⟨0,0,0,[],[]⟩),ax m] (by exact⟨.a Y Y (.cons Y (.k4 Y Y Y Y)) Y,.t Y,an⟩)
   exact cT h λh=>sr<|aez (cs':=[ax 0,ax 0,ax 0,aoc 1 bh [],aoc 1 bh []]) (.nil) (by exact⟨aq,aq,aq,aA,aA,an⟩)<|aB Y<|aJ Y Y Y<|aC Y<|dn<|aY<|aR.r<|fP h [.agg (eCr ⟨0,0,0,[],[]⟩),ax e] (by exact⟨.a Y Y (.cons Y (.k4 Y Y Y Y)) Y,.t Y,an⟩)
  exact cT h λh=>sr<|aez (cs':=[ax 0,ax 0,ax 0,aoc 1 bh [],aoc 1 bh []]) (.nil) (by exact⟨aq,aq,aq,aA,aA,an⟩)<|aB Y<|aJ Y Y Y<|aC Y<|dn<|aY<|aR.r<|fP h [.agg (eCr ⟨0,0,0,[],[]⟩),ax d] (by exact⟨.a Y Y (.cons Y (.k4 Y Y Y Y)) Y,.t Y,an⟩)
 exact cT h λh=>sr<|aez (cs':=[ax 0,ax 0,ax 0,aoc 1 bh [],aoc 1 bh []]) (.nil) (by exact⟨aq,aq,aq,aA,aA,an⟩)<|aB Y<|aJ Y Y Y<|aC Y<|dn<|aY<|aR.r<|fP h [.agg (eCr ⟨0,0,0,[],[]⟩),ax l] (by exact⟨.a Y Y (.cons Y (.k4 Y Y Y Y)) Y,.t Y,an⟩)
end
section
open Go.Fw Go.RowKit
noncomputable def vD(D:List Qr)(H:List Qr):Option (List (Qr×Qr)):=M8<|(some (D.length:Int)).bind λb=>(some (H.length:Int)).bind λa=>(some (max (b:Int) a)).bind λb=>(pN (AU (λ(a:Int)=>(show Option (List (Qr×Qr)×((Int)⊕(Unit)))from(some (decide ((a:Int)<b))).bind λb=>(bif b then(some (D.length:Int)).bind λb=>(some (decide ((a:Int)<b))).bind λg=>bU (λ(b:Bool×(List Nat)×Bool×(List Nat))=>match b with|⟨e,f,i,h⟩=>(some (H.length:Int)).bind λb=>(some (decide ((a:Int)<b))).bind λj=>bU (λ(b:Bool×(List Nat)×Bool×(List Nat))=>match b with|⟨d,b,c,k⟩=>(Dt (⟨⟨e,f⟩,⟨i,h⟩⟩,⟨⟨d,b⟩,⟨c,k⟩⟩)<|(some (IntKind.i64.wrap (a+1))).bind λb=>some ([],.inl b))) λb=>(bif j then(bV H a).bind λ⟨⟨e,f⟩,⟨d,c⟩⟩=>b (e,f,d,c)else b (false,[],false,[]))) λb=>(bif g then(bV D a).bind λ⟨⟨a,c⟩,⟨e,d⟩⟩=>b (a,c,e,d)else b (false,[],false,[]))else some ([],.inr ())))) 0) λa=>some ([],()))
noncomputable def rT(H:Qr)(D:Qr)(I:Qr):Option (Qr):=match H with|⟨⟨h,d⟩,⟨i,e⟩⟩=>match D with|⟨⟨l,j⟩,⟨g,c⟩⟩=>match I with|⟨⟨f,k⟩,⟨b,a⟩⟩=>(ei ⟨⟨f,k⟩,⟨b,a⟩⟩ ⟨⟨h,d⟩,⟨i,e⟩⟩).bind λ⟨⟨d,e⟩,⟨b,a⟩⟩=>(ff ⟨⟨d,e⟩,⟨b,a⟩⟩ ⟨⟨l,j⟩,⟨g,c⟩⟩).bind λ⟨⟨c,a⟩,⟨d,b⟩⟩=>some ⟨⟨c,a⟩,⟨d,b⟩⟩
noncomputable def o5(I:List Qr)(H:List Qr)(D:Qr):Option (List Qr):=match D with|⟨⟨o,n⟩,⟨l,p⟩⟩=>(some (I.length:Int)).bind λb=>(some (H.length:Int)).bind λa=>(some (max (b:Int) a)).bind λa=>(RA (α:=Qr) 64 a).bind λm=>(vD I H).bind λe=>(nH (λ(k:Nat) (h:(List Qr))=>(show Option ((List Qr))from(some ((e.getD k ((⟨⟨false,[]⟩,⟨false,[]⟩⟩,⟨⟨false,[]⟩,⟨false,[]⟩⟩):Qr×Qr)).1)).bind λ⟨⟨d,c⟩,⟨g,i⟩⟩=>(some ((e.getD k ((⟨⟨false,[]⟩,⟨false,[]⟩⟩,⟨⟨false,[]⟩,⟨false,[]⟩⟩):Qr×Qr)).2)).bind λ⟨⟨j,a⟩,⟨b,f⟩⟩=>(rT ⟨⟨d,c⟩,⟨g,i⟩⟩ ⟨⟨j,a⟩,⟨b,f⟩⟩ ⟨⟨o,n⟩,⟨l,p⟩⟩).bind λ⟨⟨d,c⟩,⟨a,b⟩⟩=>(uE 64 h [⟨⟨d,c⟩,⟨a,b⟩⟩]).bind λa=>some a)) e.length m).bind λh=>some h
noncomputable def ug(I:Qr)(H:Qr)(D:Qr):Option (Qr):=match I with|⟨⟨i,f⟩,⟨j,g⟩⟩=>match H with|⟨⟨m,l⟩,⟨h,e⟩⟩=>match D with|⟨⟨b,d⟩,⟨a,c⟩⟩=>bU (λ(n:Bool)=>bU (λ(k:Bool×(List Nat)×Bool×(List Nat))=>match k with|⟨k,q,p,o⟩=>some ⟨⟨k,q⟩,⟨p,o⟩⟩) λk=>(bif n then(ei ⟨⟨i,f⟩,⟨j,g⟩⟩ ⟨⟨m,l⟩,⟨h,e⟩⟩).bind λ⟨⟨n,p⟩,⟨o,q⟩⟩=>(ff ⟨⟨b,d⟩,⟨a,c⟩⟩ ⟨⟨n,p⟩,⟨o,q⟩⟩).bind λ⟨⟨n,p⟩,⟨q,o⟩⟩=>k (n,p,q,o)else k (b,d,a,c))) λb=>(cv ⟨⟨i,f⟩,⟨j,g⟩⟩).bind λa=>(some (decide ((a:Int)≠0))).bind λa=>(bif a then(cv ⟨⟨m,l⟩,⟨h,e⟩⟩).bind λa=>(some (decide ((a:Int)≠0))).bind λa=>some a else some false).bind λa=>b a
noncomputable def oJ(H:Qr)(D:List Qr):Option (List Qr):=match H with|⟨⟨f,d⟩,⟨h,e⟩⟩=>(some (D.length:Int)).bind λa=>(uF 64 a (⟨⟨false,[]⟩,⟨false,[]⟩⟩:Qr)).bind λg=>(some (D.length:Int)).bind λc=>(bH (λ(a:Int×(List Qr))=>match a with|⟨a,b⟩=>(show Option ((Int×(List Qr))⊕((List Qr)))from(some (decide ((a:Int)<c))).bind λc=>(bif c then(bV D a).bind λ⟨⟨c,j⟩,⟨i,k⟩⟩=>(ei ⟨⟨f,d⟩,⟨h,e⟩⟩ ⟨⟨c,j⟩,⟨i,k⟩⟩).bind λ⟨⟨f,e⟩,⟨d,h⟩⟩=>(fG b a).bind λc=>(stM b c ⟨⟨f,e⟩,⟨d,h⟩⟩).bind λc=>(some (IntKind.i64.wrap (a+1))).bind λa=>some (.inl (a,c))else some (.inr b)))) (0,g)).bind λa=>some a
noncomputable def kR(D:Qr)(I:List Qr)(H:List Qr):Option (List Qr):=match D with|⟨⟨d,b⟩,⟨a,c⟩⟩=>(o5 I H ⟨⟨d,b⟩,⟨a,c⟩⟩).bind λa=>some a
noncomputable def td(H:List Qr)(D:List Qr):Option (Qr):=(some (H.length:Int)).bind λb=>(some (D.length:Int)).bind λa=>(some (min (b:Int) a)).bind λa=>(Kk H 0 a).bind λb=>(Kk D 0 a).bind λa=>(vD b a).bind λa=>(nH (λ(k:Nat) (b:Bool×(List Nat)×Bool×(List Nat))=>match b with|⟨i,c,f,h⟩=>(show Option (Bool×(List Nat)×Bool×(List Nat))from(some ((a.getD k ((⟨⟨false,[]⟩,⟨false,[]⟩⟩,⟨⟨false,[]⟩,⟨false,[]⟩⟩):Qr×Qr)).1)).bind λ⟨⟨g,j⟩,⟨b,e⟩⟩=>(some ((a.getD k ((⟨⟨false,[]⟩,⟨false,[]⟩⟩,⟨⟨false,[]⟩,⟨false,[]⟩⟩):Qr×Qr)).2)).bind λ⟨⟨m,l⟩,⟨n,d⟩⟩=>(ug ⟨⟨g,j⟩,⟨b,e⟩⟩ ⟨⟨m,l⟩,⟨n,d⟩⟩ ⟨⟨i,c⟩,⟨f,h⟩⟩).bind λ⟨⟨b,e⟩,⟨g,d⟩⟩=>some (b,e,g,d))) a.length (false,[],false,[])).bind λa=>match a with|⟨i,c,f,h⟩=>some ⟨⟨i,c⟩,⟨f,h⟩⟩
noncomputable def ye(H:List Qr)(D:Int):Option (List Qr):=(some (decide ((D:Int)<1))).bind λa=>(bif a then some []else(some (min (D:Int) 65536)).bind λa=>(uF 64 a (⟨⟨false,[]⟩,⟨false,[]⟩⟩:Qr)).bind λg=>(some (H.length:Int)).bind λb=>(some (g.length:Int)).bind λa=>(some (min (b:Int) a)).bind λb=>(bH (λ(a:Int×(List Qr))=>match a with|⟨a,c⟩=>(show Option ((Int×(List Qr))⊕((List Qr)))from(some (decide ((a:Int)<b))).bind λb=>(bif b then(bV H a).bind λ⟨⟨f,d⟩,⟨b,e⟩⟩=>(cA ⟨⟨f,d⟩,⟨b,e⟩⟩).bind λ⟨⟨e,f⟩,⟨d,b⟩⟩=>(fG c a).bind λh=>(stM c h ⟨⟨e,f⟩,⟨d,b⟩⟩).bind λb=>(some (IntKind.i64.wrap (a+1))).bind λa=>some (.inl (a,b))else some (.inr c)))) (0,g)).bind λa=>some a)
noncomputable def Ce(H:Int)(D:Int):Option (List Qr):=(ye [] H).bind λa=>bU (λ(c:Bool)=>bU (λ(b:(List Qr))=>some b) λd=>(bif c then(bK 1).bind λ⟨⟨g,f⟩,⟨b,c⟩⟩=>(fG a D).bind λe=>(stM a e ⟨⟨g,f⟩,⟨b,c⟩⟩).bind λb=>d b else d a)) λc=>(some (decide ((0:Int)<=D))).bind λb=>(bif b then(some (a.length:Int)).bind λa=>(some (decide ((D:Int)<a))).bind λa=>some a else some false).bind λa=>c a
end
section
open Go.Fw Go.RowKit
theorem Lz{D:List Qr}{H:List Qr}{r:List (Qr×Qr)}(h:vD D H=some r):Iter ah 151 [ref [aoc 4 eQ D],ref [aoc 4 eQ H]] r.length (λk=>[.agg (eQ ((r.getD k ((⟨⟨false,[]⟩,⟨false,[]⟩⟩,⟨⟨false,[]⟩,⟨false,[]⟩⟩):Qr×Qr)).1)),.agg (eQ ((r.getD k ((⟨⟨false,[]⟩,⟨false,[]⟩⟩,⟨⟨false,[]⟩,⟨false,[]⟩⟩):Qr×Qr)).2))]):=by
 refine vM Tryz.func151 Y λb M c i J d a hr=>?_;unfold vD at h;obtain⟨o,h,hd⟩:=Fs h;refine sr<|aI Y Y<|aN h λa h=>aI Y Y<|aN h λa h=>ahD (k:=.i64) h λj h=>aB Y<|dn<|?_;obtain⟨b,d,a,e,s,rfl⟩:=mB h;refine bp (λ(c:(Unit)×Nat)=>AS.bM 37 [] [] c.2) (λc=>c.1=d/\D4 r c.2 [] (a++[])) (aV<|rK e hd.as (λb a=>AS.bM 37 [(0,.sv (.v (.func (.yield i) #[] #[]))),(1,.sv (ref [aoc 4 eQ D])),(2,.sv (ref [aoc 4 eQ H])),(11,ai j),(12,ai b)] [] a) (wk []) (λf a b t12 g d h hd u e=>?_)) (λc w=>?_)
 ·refine sr<|aL h λb h=>dn<|aT<|?_;cases b
  ·refine cF h λh=>bt<|aR.x<|?_;obtain⟨rfl,rfl⟩:=tY h;obtain⟨b,d⟩:=e _ _ Y hd;exact aR.x<|bn.x<|aR.n ⟨((),_),⟨b,d⟩,wk []⟩
  refine cT h λh=>aX<|aR.n<|aT<|aV<|sr<|aB Y<|aC Y<|dn<|sr<|aM (cs:=[ay false,au,ay false,au]) (by exact⟨aq,aA,aq,aA,an⟩)<|aM (cs:=[ay false,au,ay false,au]) (by exact⟨aq,aA,aq,aA,an⟩)<|dn<|aT<|sr<|aB Y<|aI Y Y<|aN h λb h=>aL h λd h=>dn<|?_;refine bB h (λb=>AS.bM 37 [(0,.sv (.v (.func (.yield i) #[] #[]))),(1,.sv (ref [aoc 4 eQ D])),(2,.sv (ref [aoc 4 eQ H])),(4,ai f),(5,.ptr 5 0),(6,.ptr 6 0),(11,ai j),(12,ai f)] [(6,.box 40 [aj false,.sv au,aj false,.sv au]),(5,.box 40 [aj b.1,aoh 1 bf b.2.1,aj b.2.2.1,aoh 1 bf b.2.2.2])] a) (λh=>?_) (λb h=>?_)
  ·cases d
   ·exact cF h λh=>aX<|aR.n ⟨(false,[],false,[]),h,wk []⟩
   exact cT h λh=>aU<|aI Y Y<|aB Y<|aQ Y h λ⟨⟨d,e⟩,⟨l,g⟩⟩ h=>aeC Y (.cons (.cons (.cons (.cons (.nil)))))<|aJ Y Y Y<|aF<|aR.n ⟨(d,e,l,g),h,wk []⟩
  obtain⟨g,l,p,m⟩:=b
  try dsimp only
  refine aR.n<|aT<|sr<|aB Y<|aI Y Y<|aN h λb h=>aL h λd h=>dn<|?_;refine bB h (λb=>AS.bM 37 [(0,.sv (.v (.func (.yield i) #[] #[]))),(1,.sv (ref [aoc 4 eQ D])),(2,.sv (ref [aoc 4 eQ H])),(5,.ptr 5 0),(6,.ptr 6 0),(11,ai j),(12,ai f)] [(6,.box 40 [aj b.1,aoh 1 bf b.2.1,aj b.2.2.1,aoh 1 bf b.2.2.2]),(5,.box 40 [aj g,aoh 1 bf l,aj p,aoh 1 bf m])] a) (λh=>?_) (λb h=>?_)
  ·cases d
   ·exact cF h λh=>aX<|aR.n ⟨(false,[],false,[]),h,wk []⟩
   exact cT h λh=>aU<|aI Y Y<|aB Y<|aQ Y h λ⟨⟨f,i⟩,⟨e,d⟩⟩ h=>aeC Y (.cons (.cons (.cons (.cons (.nil)))))<|aJ Y Y Y<|aF<|aR.n ⟨(f,i,e,d),h,wk []⟩
  obtain⟨t,i,j,y⟩:=b
  try dsimp only
  refine aR.n<|sr<|aB Y<|aK Y Y (.k4 Y Y Y Y)<|aK Y Y (.k4 Y Y Y Y)<|?_;obtain⟨b,e,rfl⟩:=vA h;obtain⟨d,b,f⟩:=hd.hd ((⟨⟨false,[]⟩,⟨false,[]⟩⟩,⟨⟨false,[]⟩,⟨false,[]⟩⟩):Qr×Qr);replace hd:=f;refine ajG hr a d (ss:=[.agg (eQ ⟨⟨g,l⟩,⟨p,m⟩⟩),.agg (eQ ⟨⟨t,i⟩,⟨j,y⟩⟩)]) (by show _=([.agg (eQ ((r.getD a ((⟨⟨false,[]⟩,⟨false,[]⟩⟩,⟨⟨false,[]⟩,⟨false,[]⟩⟩):Qr×Qr)).1)),.agg (eQ ((r.getD a ((⟨⟨false,[]⟩,⟨false,[]⟩⟩,⟨⟨false,[]⟩,⟨false,[]⟩⟩):Qr×Qr)).2))]:List SV);rw[b]) (λa=>?_);cases a
  ·exact ahr true<|dn<|Zd<|aY<|bn.r<|aR.r<|aR.r<|bn.r<|aR.r<|⟨.inr rfl,λq=>by cases q⟩
  refine ahr false<|dn<|WC<|aX<|bn.n<|aR.n<|aU<|aO e λa e=>aB Y<|aF<|?_;obtain⟨rfl,rfl⟩:=tY e;exact aR.n ⟨a,_,u _ _ Y hd,wk []⟩
 obtain⟨a,b⟩:=c;obtain⟨rfl,hd⟩:=w;replace hd:=hd.go;obtain⟨rfl,-⟩:=tY s;exact⟨.inl Y,λ_=>hd.fin⟩
theorem FV(D:List Qr)(H:List Qr):Pure ah 96 [aoc 4 eQ D,aoc 4 eQ H] (gg 151 [] [ref [aoc 4 eQ D],ref [aoc 4 eQ H]]):=by
 refine aZ Tryz.func96 Y λE w vs a=>?_;exact sr<|afI Y<|afI Y<|aC Y<|dn<|ow (cK (i:=2) [aoc 4 eQ D] Y)<|ow (cK (i:=3) [aoc 4 eQ H] Y)<|sr<|ahn (bs:=[]) (cs:=[ref [aoc 4 eQ D],ref [aoc 4 eQ H]])<|aC Y<|dn<|aY<|f1 (r:=()) Y
theorem Em{H:Qr}{D:Qr}{I:Qr}{r:Qr}(h:rT H D I=some r):Pure ah 250 [.agg (eQ H),.agg (eQ D),ref (eQ I)] (.agg (eQ r)):=by
 obtain⟨⟨d,b⟩,⟨e,c⟩⟩:=H;obtain⟨⟨e,d⟩,⟨c,b⟩⟩:=D;obtain⟨⟨d,e⟩,⟨c,b⟩⟩:=I;refine aZ Tryz.func250 Y λE w vs b=>?_;unfold rT at h;exact sr<|acj Y<|acj Y<|aM (cs:=[ay false,au,ay false,au]) (by exact⟨aq,aA,aq,aA,an⟩)<|dn<|sd mixed<|aeC Y (.cons (.cons (.cons (.cons (.nil)))))<|aK Y Y (.k4 Y Y Y Y)<|aE h (λ_=>gO) λ⟨⟨d,e⟩,⟨c,b⟩⟩ h=>aK Y Y (.k4 Y Y Y Y)<|aE h (λ_=>jX) λ⟨⟨d,b⟩,⟨e,c⟩⟩ h=>aJ Y Y Y<|dd<|aY<|fP h [.agg (eQ ⟨⟨d,b⟩,⟨e,c⟩⟩)] (by exact⟨.a Y Y (.k4 Y Y Y Y) Y,an⟩)
theorem FW{K:List Qr}{I:List Qr}{H:Qr}{r:List Qr}(h:o5 K I H=some r):Pure ah 249 [aoc 4 eQ K,aoc 4 eQ I,gg 250 [] [ref (eQ H)]] (aoc 4 eQ r):=by
 obtain⟨⟨s,p⟩,⟨o,t⟩⟩:=H;refine aZ Tryz.func249 Y λE w vs a=>?_;unfold o5 at h;refine sr<|afI Y<|aeD (aA (n:=4) (e:=eQ))<|dn<|sr<|aB Y<|aN h λa h=>aB Y<|aN h λa h=>ahD (k:=.i64) h λa h=>ajq (e:=eQ) h λa h=>aM (cs:=[.v (.slice none 0 0)]) (by exact⟨aq,an⟩)<|aeN Y Y Y (.ob Y)<|dn<|aT<|sr<|aB Y<|aB Y<|bq h λa c h=>ahq (FV K I)<|dn<|aV<|?_;replace h:=bind_some h;obtain⟨m,d,g⟩:=h;obtain⟨a,f,b,j⟩:=nw d;refine jP (Lz c) (λ_ _ _ _ _=>trivial) Y (λk=>AS.bM 29 [(5,.ptr 5 0),(7,.ptr 7 0),(18,.sv (gg 151 [] [ref [aoc 4 eQ K],ref [aoc 4 eQ I]]))] [(7,.box 35 [.ob 2002]),(5,.box 51 [.sv (gg 250 [] [ref [ay s,aoc 1 bf p,ay o,aoc 1 bf t]])]),(2002,TR 40 4 eQ (a k))]) [5,7] Y (λ_=>⟨Y,Y⟩) (zQ Y) (λ_=>Y) (zR Y) (by rw[f];exact wk [(2002,15)]) (λk c D d=>?_) ?_
 ·have h:=b k c;obtain⟨m,b⟩:∃q,a k=q:=⟨_,Y⟩;rw[b]at h⊢;dsimp only[AS.Z2,AT]
  try dsimp only at h
  replace h:=bind_some h;obtain⟨⟨⟨c,b⟩,⟨d,f⟩⟩,a,h⟩:=h;rw[aob a];replace h:=bind_some h;obtain⟨⟨⟨f,b⟩,⟨c,d⟩⟩,a,h⟩:=h;rw[aob a];refine sr<|aM (cs:=[ay false,au,ay false,au]) (by exact⟨aq,aA,aq,aA,an⟩)<|aJ Y Y Y<|dn<|aU<|aM (cs:=[ay false,au,ay false,au]) (by exact⟨aq,aA,aq,aA,an⟩)<|aJ Y Y Y<|aF<|aR.n<|?_;refine⟨Y,?_⟩;dsimp only[AS.Ky];refine aV<|bz mixed<|aH Y Y Y<|aH Y Y Y<|aK Y Y (.k4 Y Y Y Y)<|aK Y Y (.k4 Y Y Y Y)<|aE h (λ_=>Em) λ⟨⟨d,c⟩,⟨a,b⟩⟩ h=>aeI (l:=[⟨⟨d,c⟩,⟨a,b⟩⟩]) (e:=eQ) (.agg Y (.nil)) Y<|aeM Y Y h λa h=>aeN Y Y Y (.ob Y)<|de<|bn.n<|?_;replace h:=aob h;refine⟨an,Y,Y,?_⟩;rw[<-h];exact wk [(2002,27)]
 rw[j];exact bn.n<|aR.n<|sr<|aH Y Y Y<|aey Y<|dn<|ow (bT (i:=2002) (e:=eQ) (l:=m) Y)<|aY<|f1 g
theorem P6{I:Qr}{H:Qr}{D:Qr}{r:Qr}(h:ug I H D=some r):FC ah 93 [.sv (.agg (eQ I)),.sv (.agg (eQ H)),.ptr 1000 0] [(1000,.box 40 ((eQ D).map .sv))] (.lK []) [(1000,.box 40 ((eQ r).map .sv))]:=by
 obtain⟨⟨j,f⟩,⟨k,g⟩⟩:=I;obtain⟨⟨o,m⟩,⟨i,a⟩⟩:=H;obtain⟨⟨c,e⟩,⟨b,d⟩⟩:=D;refine cQ Tryz.func93 Y λE w vs l p=>?_;unfold ug at h;refine sr<|acj Y<|acj Y<|dn<|aT<|?_;refine bB h (λl=>AS.bM 18 [(2,.ptr 1000 0),(3,.ptr 3 0),(4,.ptr 4 0),(12,aj l)] [(4,.box 40 [aj o,aoh 1 bf m,aj i,aoh 1 bf a]),(3,.box 40 [aj j,aoh 1 bf f,aj k,aoh 1 bf g]),(1000,.box 40 [aj c,aoh 1 bf e,aj b,aoh 1 bf d])]) (λh=>?_) (λf h=>?_)
 ·refine aU<|aK Y Y (.k4 Y Y Y Y)<|aE h (λ_=>cS) λa h=>aeA h λg h=>aB Y<|bq h λi a h=>?_;cases g
  ·replace a:=ct a;cases a;exact aD<|aD<|aD<|abE Y<|aF<|aR.n ⟨false,h,wk []⟩
  replace a:=cn a;refine aK Y Y (.k4 Y Y Y Y)<|aE a (λ_=>cS) λg a=>aeA a λg a=>?_;obtain rfl:=aob a;exact aax Y<|aF<|aR.n ⟨g,h,wk []⟩
 refine aR.n<|?_;refine bB h (λa=>AS.bM 18 [(2,.ptr 1000 0)] [(1000,.box 40 [aj a.1,aoh 1 bf a.2.1,aj a.2.2.1,aoh 1 bf a.2.2.2])]) (λh=>?_) (λa h=>?_)
 ·cases f
  ·exact cF h λh=>aX<|aR.n ⟨(c,e,b,d),h,wk []⟩
  exact cT h λh=>bz mixed<|aK Y Y (.k4 Y Y Y Y)<|aK Y Y (.k4 Y Y Y Y)<|aK Y Y (.k4 Y Y Y Y)<|aE h (λ_=>gO) λ⟨⟨b,d⟩,⟨c,e⟩⟩ h=>aE h (λ_=>jX) λ⟨⟨b,d⟩,⟨e,c⟩⟩ h=>aJ Y Y Y<|de<|aR.n ⟨(b,d,e,c),h,wk []⟩
 obtain⟨b,e,d,c⟩:=a
 try dsimp only
 exact fC (S':=AS.bM 18 [] [(1000,.box 40 [aj b,aoh 1 bf e,aj d,aoh 1 bf c])]) h [] (wk [])
theorem P7{H:Qr}{D:List Qr}{r:List Qr}(h:oJ H D=some r):Pure ah 222 [.agg (eQ H),aoc 4 eQ D] (aoc 4 eQ r):=by
 obtain⟨⟨g,c⟩,⟨j,f⟩⟩:=H;refine aZ Tryz.func222 Y λE w vs a=>?_;unfold oJ at h;refine sr<|acj Y<|aeD (aA (n:=4) (e:=eQ))<|dn<|sr<|aB Y<|aN h λa h=>aeW (e:=eQ) ⟨⟨false,[]⟩,⟨false,[]⟩⟩ (by exact⟨aq,aA,aq,aA,an⟩) h λa h=>aey Y<|dn<|aT<|sr<|aB Y<|aN h λd h=>aB Y<|dn<|bq h λb xV k=>?_;refine bp (λ(a:(List Qr))=>AS.bM 26 [(5,.ob 10)] [(10,TR 40 4 eQ a)]) (λa=>a=b) (aV<|br xV (λb=>AS.bM 26 [(2,.ptr 2 0),(5,.ob 10),(11,aoh 4 eQ D),(12,ai d),(13,ai b.1)] [(2,.box 40 [aj g,aoh 1 bf c,aj j,aoh 1 bf f]),(10,TR 40 4 eQ b.2)]) (wk []) (λb y8 c h xC xh=>?_)) (λa xW=>?_)
 ·obtain⟨d,c⟩:=b
  try dsimp only
  refine sr<|aL h λb h=>dn<|aT<|?_;cases b
  ·refine cF h λh=>bt<|aR.x<|aR.x<|bn.x<|?_;obtain rfl:=aob h;exact aR.n ⟨c,xh _ Y,wk []⟩
  refine cT h λh=>aX<|aR.n<|aT<|aV<|sr<|aB Y<|aQ Y h λ⟨⟨b,d⟩,⟨c,f⟩⟩ h=>aeC Y (.cons (.cons (.cons (.cons (.nil)))))<|aM (cs:=[ay false,au,ay false,au]) (by exact⟨aq,aA,aq,aA,an⟩)<|aC Y<|aJ Y Y Y<|dn<|aU<|aaw Y<|aB Y<|aK Y Y (.k4 Y Y Y Y)<|aK Y Y (.k4 Y Y Y Y)<|aE h (λ_=>gO) λ⟨⟨yV,yW⟩,⟨yX,yY⟩⟩ h=>acr (p:=.r 10) Y (.r (.r Y)) h λb h=>afl (p:=.r 10) ⟨⟨yV,yW⟩,⟨yX,yY⟩⟩ Y (.r Y) h λc h=>aF<|bn.n<|aR.n<|aU<|aO h λb h=>aB Y<|aF<|?_;obtain rfl:=aob h;exact aR.n ⟨(b,c),xC _ Y,wk []⟩
 subst xW;exact aR.n<|sr<|aaw Y<|aey Y<|dn<|ow (bT (i:=10) (e:=eQ) (l:=a) Y)<|aY<|f1 k
theorem HL{D:Qr}{I:List Qr}{H:List Qr}{r:List Qr}(h:kR D I H=some r):Pure ah 223 [.agg (eQ D),aoc 4 eQ I,aoc 4 eQ H] (aoc 4 eQ r):=by
 obtain⟨⟨d,b⟩,⟨a,c⟩⟩:=D;refine aZ Tryz.func223 Y λE w vs f=>?_;unfold kR at h;exact sr<|acj Y<|aeD (aA (n:=4) (e:=eQ))<|dn<|ow (cK (i:=3) [ay d,aoc 1 bf b,ay a,aoc 1 bf c] Y)<|sr<|aB Y<|aB Y<|ahn (bs:=[]) (cs:=[ref (eQ ⟨⟨d,b⟩,⟨a,c⟩⟩)])<|aE h (λ_=>FW) λa h=>aC Y<|dn<|aY<|f1 h
theorem En{x0:List Qr}{x1:List Qr}{r:Qr}(h:td x0 x1=some r):Pure ah 42 [aoc 4 eQ x0,aoc 4 eQ x1] (.agg (eQ r)):=by
 refine aZ Tryz.func42 Y λE w vs hvs=>?_;unfold td at h;refine sr<|aM (cs:=[ay false,au,ay false,au]) (by exact⟨aq,aA,aq,aA,an⟩)<|dn<|sr<|aM (cs:=[ay false,au,ay false,au]) (by exact⟨aq,aA,aq,aA,an⟩)<|dn<|sr<|ajx<|aM (cs:=[.v .nilFunc]) (by exact⟨aq,an⟩)<|aeN Y Y Y .fn<|dn<|sr<|aB Y<|aN h λb h=>aB Y<|aN h λb h=>ahE (k:=.i64) h λb h=>aC Y<|dn<|aT<|sd mixed<|aB Y<|aB Y<|ajL Y h λd h=>aB Y<|aB Y<|ajL Y h λe h=>bq h λb c h=>ahq (FV d e)<|dd<|aV<|?_;replace h:=bind_some h;obtain⟨i,hl7,j⟩:=h;obtain⟨b,hs7,ht7,hn7⟩:=nw hl7;refine jP (Lz c) (λ_ _ _ _ _=>trivial) Y (λk=>AS.bM 30 [(4,.ptr 4 0),(5,.ptr 5 0),(6,.ptr 6 0),(22,.sv (gg 151 [] [ref [aoc 4 eQ d],ref [aoc 4 eQ e]]))] [(6,.box 182 [.fn 93 [] [.ptr 5 0]]),(5,.box 40 [aj ((b k).1),aoh 1 bf (b k).2.1,aj ((b k).2.2.1),aoh 1 bf (b k).2.2.2]),(4,.box 40 [aj false,.sv au,aj false,.sv au])]) [4,5,6] Y (λ_=>⟨Y,Y⟩) (zQ Y) (λ_=>Y) (zR Y) (by rw[hs7];exact wk []) (λk hk D hD=>?_) ?_
 ·have h:=ht7 k hk;obtain⟨sk,c⟩:∃q,b k=q:=⟨_,Y⟩;rw[c]at h⊢;obtain⟨f,c,d,e⟩:=sk;dsimp only[AS.Z2,AT]
  try dsimp only at h
  replace h:=bind_some h;obtain⟨⟨⟨m,o⟩,⟨g,l⟩⟩,b,h⟩:=h;rw[aob b];replace h:=bind_some h;obtain⟨⟨⟨m,l⟩,⟨o,g⟩⟩,b,h⟩:=h;rw[aob b];refine sr<|aM (cs:=[ay false,au,ay false,au]) (by exact⟨aq,aA,aq,aA,an⟩)<|aJ Y Y Y<|dn<|aU<|aM (cs:=[ay false,au,ay false,au]) (by exact⟨aq,aA,aq,aA,an⟩)<|aJ Y Y Y<|aF<|aR.n<|?_;refine⟨Y,?_⟩;dsimp only[AS.Ky];refine aV<|aU<|aH Y Y Y<|aK Y Y (.k4 Y Y Y Y)<|aK Y Y (.k4 Y Y Y Y)<|aeF [(1000,5)] h (λ_=>P6) λ⟨⟨b,l⟩,⟨m,g⟩⟩ h=>aF<|bn.n<|?_;replace h:=aob h;refine⟨an,Y,Y,?_⟩;rw[<-h];exact wk []
 rw[hn7];obtain⟨f,c,d,e⟩:=i;exact bn.n<|aR.n<|sr<|aK Y Y (.k4 Y Y Y Y)<|aJ Y Y Y<|dn<|aY<|fP j [.agg (eQ ⟨⟨f,c⟩,⟨d,e⟩⟩)] (by exact⟨.a Y Y (.k4 Y Y Y Y) Y,an⟩)
theorem LA{x0:List Qr}{x1:Int}{r:List Qr}(h:ye x0 x1=some r):FC ah 233 [aoh 4 eQ x0,ai x1] [] (.ob 0) [(0,TR 40 4 eQ r)]:=by
 refine cQ Tryz.func233 Y λE w vs a yK=>?_;unfold ye at h;refine sr<|aC Y<|dn<|ow (gw 4 2002 (.row 40 4 0 []) Y)<|aT<|sr<|aB Y<|aL h λx8 h=>dn<|?_;cases x8
 ·refine cF h λh=>aX<|aR.n<|sr<|aB Y<|ahE (k:=.i64) h λa h=>aeW (e:=eQ) ⟨⟨false,[]⟩,⟨false,[]⟩⟩ (by exact⟨aq,aA,aq,aA,an⟩) h λa h=>aey Y<|dn<|aT<|sr<|aB Y<|aN h λa h=>aaw Y<|aeJ (p:=.r 11) Y (.r (.r Y)) h λa h=>ahE (k:=.i64) h λc h=>aB Y<|dn<|bq h λb xV g=>?_;refine bp (λ(a:(List Qr))=>AS.bM 30 [(5,.ob 11)] [(11,TR 40 4 eQ a)]) (λa=>a=b) (aV<|br xV (λb=>AS.bM 30 [(0,aoh 4 eQ x0),(5,.ob 11),(16,ai c),(17,ai b.1)] [(11,TR 40 4 eQ b.2)]) (wk []) (λb y8 c h xC xh=>?_)) (λa xW=>?_)
  ·obtain⟨d,c⟩:=b
   try dsimp only
   refine sr<|aL h λb h=>dn<|aT<|?_;cases b
   ·refine cF h λh=>bt<|aR.x<|aR.x<|bn.x<|?_;obtain rfl:=aob h;exact aR.n ⟨c,xh _ Y,wk []⟩
   refine cT h λh=>aX<|aR.n<|aT<|aV<|sr<|aB Y<|aC Y<|dn<|aU<|aaw Y<|aB Y<|aB Y<|aB Y<|aQ Y h λ⟨⟨f,c⟩,⟨b,d⟩⟩ h=>aeC Y (.cons (.cons (.cons (.cons (.nil)))))<|aE h (λ_=>c9) λ⟨⟨d,f⟩,⟨c,b⟩⟩ h=>acr (p:=.r 11) Y (.r (.r Y)) h λi h=>afl (p:=.r 11) ⟨⟨d,f⟩,⟨c,b⟩⟩ Y (.r Y) h λb h=>aF<|bn.n<|aR.n<|aU<|aO h λc h=>aB Y<|aF<|?_;obtain rfl:=aob h;exact aR.n ⟨(c,b),xC _ Y,wk []⟩
  subst xW;exact aR.n<|sr<|aaw Y<|aey Y<|dn<|aY<|fC (S':=AS.bM 30 [(4,.ob 0)] [(0,TR 40 4 eQ a)]) g [.ob 0] (wk [(0,11)])
 exact cT h λh=>sr<|aC Y<|dn<|ow (gw 4 2005 (.row 40 4 0 []) Y)<|aY<|aR.r<|fC (S':=AS.bM 30 [(4,.ob 0)] [(0,TR 40 4 eQ [])]) h [.ob 0] (wk [(0,2005)])
theorem P8{H:Int}{D:Int}{r:List Qr}(h:Ce H D=some r):FC ah 197 [ai H,ai D] [] (.ob 0) [(0,TR 40 4 eQ r)]:=by
 refine cQ Tryz.func197 Y λE w vs a b=>?_;unfold Ce at h;refine sr<|aC Y<|dn<|ow (gw 4 2002 (.row 40 4 0 []) Y)<|sr<|aB Y<|aeF (hargs:=by exact⟨AV.Zo (aA (n:=4) (e:=eQ)),AV.Bu Y,an⟩) [(0,7)] h (λ_=>LA) λc h=>aey Y<|dn<|aT<|aT<|?_;refine bB h (λa=>AS.bM 21 [(1,ai D),(5,.ob 7),(15,aj a)] [(7,TR 40 4 eQ c)]) (λh=>?_) (λb h=>?_)
 ·refine aU<|aB Y<|afy h λf h=>aB Y<|bq h λd a h=>?_;cases f
  ·replace a:=ct a;cases a;exact aD<|aD<|aD<|aD<|abE Y<|aF<|aR.n ⟨false,h,wk []⟩
  replace a:=cn a;refine aB Y<|aaw Y<|aeJ (p:=.r 7) Y (.r (.r Y)) a λd a=>aL a λd a=>?_;obtain rfl:=aob a;exact aax Y<|aF<|aR.n ⟨d,h,wk []⟩
 refine aR.n<|?_;refine bB h (λa=>AS.bM 21 [(5,.ob 7)] [(7,TR 40 4 eQ a)]) (λh=>?_) (λa h=>?_)
 ·cases b
  ·exact cF h λh=>aX<|aR.n ⟨c,h,wk []⟩
  exact cT h λh=>aU<|aaw Y<|aB Y<|aE h (λ_=>bQ) λ⟨⟨f,d⟩,⟨b,c⟩⟩ h=>acr (p:=.r 7) Y (.r (.r Y)) h λg h=>afl (p:=.r 7) ⟨⟨f,d⟩,⟨b,c⟩⟩ Y (.r Y) h λb h=>aF<|aR.n ⟨b,h,wk []⟩
 exact aR.n<|sr<|aaw Y<|aey Y<|dn<|aY<|fC (S':=AS.bM 21 [(4,.ob 0)] [(0,TR 40 4 eQ a)]) h [.ob 0] (wk [(0,7)])
end
section
open Go.Fw Go.RowKit
noncomputable def vE(H:List (List Qr))(D:Int):Option (List Qr):=bU (λ(a:Bool)=>(bif a then some []else(bV H D).bind λa=>some a)) λb=>(some (decide ((D:Int)<0))).bind λa=>(bif a then some true else(some (H.length:Int)).bind λa=>(some (decide ((a:Int)<=D))).bind λa=>some a).bind λa=>b a
noncomputable def jJ(D:List (List Qr)):Option (Int):=(some (D.length:Int)).bind λc=>(bH (λ(a:Int×Int)=>match a with|⟨b,a⟩=>(show Option ((Int×Int)⊕(Int))from(some (decide ((a:Int)<c))).bind λc=>(bif c then(bV D a).bind λc=>(some (c.length:Int)).bind λc=>(some (max (b:Int) c)).bind λc=>(some (IntKind.i64.wrap (a+1))).bind λa=>some (.inl (c,a))else some (.inr b)))) (0,0)).bind λa=>some a
noncomputable def kD(H:List (List Qr))(I:Int)(D:Int):Option (Qr):=(vE H I).bind λa=>bU (λ(b:Bool)=>(bif b then some ⟨⟨false,[]⟩,⟨false,[]⟩⟩else(bV a D).bind λ⟨⟨e,d⟩,⟨c,b⟩⟩=>(cA ⟨⟨e,d⟩,⟨c,b⟩⟩).bind λ⟨⟨c,b⟩,⟨e,d⟩⟩=>some ⟨⟨c,b⟩,⟨e,d⟩⟩)) λc=>(some (decide ((D:Int)<0))).bind λb=>(bif b then some true else(some (a.length:Int)).bind λa=>(some (decide ((a:Int)<=D))).bind λa=>some a).bind λa=>c a
noncomputable def oK(D:Int):Option (Int):=(some (min (D:Int) 1024)).bind λa=>(some (max (0:Int) a)).bind λa=>some a
noncomputable def o6(D:List (List Qr))(H:List Qr):Option (List Qr):=(some (D.length:Int)).bind λa=>(uF 64 a (⟨⟨false,[]⟩,⟨false,[]⟩⟩:Qr)).bind λh=>(some (D.length:Int)).bind λc=>(bH (λ(a:Int×(List Qr))=>match a with|⟨a,b⟩=>(show Option ((Int×(List Qr))⊕((List Qr)))from(some (decide ((a:Int)<c))).bind λc=>(bif c then(bV D a).bind λc=>(td c H).bind λ⟨⟨f,e⟩,⟨d,g⟩⟩=>(fG b a).bind λc=>(stM b c ⟨⟨f,e⟩,⟨d,g⟩⟩).bind λc=>(some (IntKind.i64.wrap (a+1))).bind λa=>some (.inl (a,c))else some (.inr b)))) (0,h)).bind λa=>some a
end
section
open Go.Fw Go.RowKit
theorem Vc{D:List (List Qr)}{H:Int}{r:List Qr}(h:vE D H=some r):Pure ah 190 [aoc 1 (eS 4 eQ) D,ax H] (aoc 4 eQ r):=by
 refine aZ Tryz.func190 Y λE w vs a=>?_;unfold vE at h;refine sr<|aeD (aA (n:=4) (e:=eQ))<|dn<|aT<|aT<|?_;refine bB h (λa=>AS.bM 17 [(0,aoh 1 (eS 4 eQ) D),(1,ai H),(12,aj a)] []) (λh=>?_) (λb h=>?_)
 ·refine aU<|aB Y<|aL h λc h=>aB Y<|bq h λd a h=>?_;cases c
  ·replace a:=ct a;refine aB Y<|aB Y<|aN a λc a=>afy a λc a=>?_;obtain rfl:=aob a;exact abE Y<|aF<|aR.n ⟨c,h,wk []⟩
  replace a:=cn a;cases a;exact aD<|aD<|aD<|aD<|aax Y<|aF<|aR.n ⟨true,h,wk []⟩
 refine aR.n<|?_;cases b
 ·exact cF h λh=>aX<|aR.n<|sr<|aB Y<|aB Y<|aQ Y h λa h=>aI Y Y<|aC Y<|dn<|aY<|f1 h
 exact cT h λh=>sr<|aeD (aA (n:=4) (e:=eQ))<|dn<|aY<|aR.r<|f1 h
theorem uh{D:List (List Qr)}{r:Int}(h:jJ D=some r):Pure ah 142 [aoc 1 (eS 4 eQ) D] (ax r):=by
 refine aZ Tryz.func142 Y λE w vs a=>?_;unfold jJ at h;refine sr<|aC Y<|dn<|sr<|aC Y<|dn<|aT<|sr<|aB Y<|aN h λc h=>aB Y<|dn<|bq h λb d f=>?_;refine bp (λ(a:Int)=>AS.bM 18 [(3,ai a)] []) (λa=>a=b) (aV<|br d (λb=>AS.bM 18 [(3,ai b.1),(6,aoh 1 (eS 4 eQ) D),(7,ai c),(8,ai b.2)] []) (wk []) (λb e g h d c=>?_)) (λa e=>?_)
 ·obtain⟨a,g⟩:=b
  try dsimp only
  refine sr<|aL h λb h=>dn<|aT<|?_;cases b
  ·refine cF h λh=>bt<|aR.x<|aR.x<|bn.x<|?_;obtain rfl:=aob h;exact aR.n ⟨a,c _ Y,wk []⟩
  refine cT h λh=>aX<|aR.n<|aT<|aV<|sr<|aQ Y h λa h=>aI Y Y<|aC Y<|dn<|aU<|aB Y<|aB Y<|aN h λa h=>ahD (k:=.i64) h λa h=>aC Y<|aF<|bn.n<|aR.n<|aU<|aO h λb h=>aB Y<|aF<|?_;obtain rfl:=aob h;exact aR.n ⟨(a,b),d _ Y,wk []⟩
 subst e;exact aR.n<|sr<|aB Y<|aC Y<|dn<|aY<|f1 f
theorem o7{I:List (List Qr)}{H:Int}{D:Int}{r:Qr}(h:kD I H D=some r):Pure ah 128 [aoc 1 (eS 4 eQ) I,ax H,ax D] (.agg (eQ r)):=by
 refine aZ Tryz.func128 Y λE w vs b=>?_;unfold kD at h;refine sr<|aM (cs:=[ay false,au,ay false,au]) (by exact⟨aq,aA,aq,aA,an⟩)<|dn<|sr<|aB Y<|aB Y<|aE h (λ_=>Vc) λb h=>aC Y<|dn<|aT<|aT<|?_;refine bB h (λc=>AS.bM 25 [(2,ai D),(6,.ptr 6 0),(7,aoh 4 eQ b),(18,aj c)] [(6,.box 40 [aj false,.sv au,aj false,.sv au])]) (λh=>?_) (λd h=>?_)
 ·refine aU<|aB Y<|aL h λc h=>aB Y<|bq h λe b h=>?_;cases c
  ·replace b:=ct b;refine aB Y<|aB Y<|aN b λc b=>afy b λc b=>?_;obtain rfl:=aob b;exact abE Y<|aF<|aR.n ⟨c,h,wk []⟩
  replace b:=cn b;cases b;exact aD<|aD<|aD<|aD<|aax Y<|aF<|aR.n ⟨true,h,wk []⟩
 refine aR.n<|?_;cases d
 ·exact cF h λh=>aX<|aR.n<|sr<|aB Y<|aB Y<|aQ Y h λ⟨⟨d,c⟩,⟨b,e⟩⟩ h=>aeC Y (.cons (.cons (.cons (.cons (.nil)))))<|aE h (λ_=>c9) λ⟨⟨e,c⟩,⟨b,d⟩⟩ h=>aJ Y Y Y<|dn<|aY<|fP h [.agg (eQ ⟨⟨e,c⟩,⟨b,d⟩⟩)] (by exact⟨.a Y Y (.k4 Y Y Y Y) Y,an⟩)
 exact cT h λh=>sr<|aez (cs':=[ay false,au,ay false,au]) (.nil) (by exact⟨aq,aA,aq,aA,an⟩)<|aJ Y Y Y<|dn<|aY<|aR.r<|fP h [.agg (eQ ⟨⟨false,[]⟩,⟨false,[]⟩⟩)] (by exact⟨.a Y Y (.k4 Y Y Y Y) Y,an⟩)
theorem xI{D:Int}{r:Int}(h:oK D=some r):Pure ah 227 [ax D] (ax r):=by
 refine aZ Tryz.func227 Y λE w vs a=>?_;unfold oK at h;exact sr<|aC Y<|dn<|sr<|aB Y<|ahE (k:=.i64) h λa h=>ahD (k:=.i64) h λa h=>aC Y<|dn<|aY<|f1 h
theorem DR{H:List (List Qr)}{D:List Qr}{r:List Qr}(h:o6 H D=some r):Pure ah 88 [aoc 1 (eS 4 eQ) H,aoc 4 eQ D] (aoc 4 eQ r):=by
 refine aZ Tryz.func88 Y λE w vs a=>?_;unfold o6 at h;refine sr<|aeD (aA (n:=4) (e:=eQ))<|dn<|sr<|aB Y<|aN h λa h=>aeW (e:=eQ) ⟨⟨false,[]⟩,⟨false,[]⟩⟩ (by exact⟨aq,aA,aq,aA,an⟩) h λa h=>aey Y<|dn<|aT<|sr<|aB Y<|aN h λc h=>aB Y<|dn<|bq h λb d f=>?_;refine bp (λ(a:(List Qr))=>AS.bM 26 [(5,.ob 10)] [(10,TR 40 4 eQ a)]) (λa=>a=b) (aV<|br d (λb=>AS.bM 26 [(1,aoh 4 eQ D),(5,.ob 10),(11,aoh 1 (eS 4 eQ) H),(12,ai c),(13,ai b.1)] [(10,TR 40 4 eQ b.2)]) (wk []) (λb y8 c h d xh=>?_)) (λa xW=>?_)
 ·obtain⟨g,c⟩:=b
  try dsimp only
  refine sr<|aL h λb h=>dn<|aT<|?_;cases b
  ·refine cF h λh=>bt<|aR.x<|aR.x<|bn.x<|?_;obtain rfl:=aob h;exact aR.n ⟨c,xh _ Y,wk []⟩
  refine cT h λh=>aX<|aR.n<|aT<|aV<|sr<|aB Y<|aQ Y h λb h=>aI Y Y<|aC Y<|aC Y<|dn<|aU<|aaw Y<|aB Y<|aB Y<|aB Y<|aE h (λ_=>En) λ⟨⟨yV,yW⟩,⟨yX,yY⟩⟩ h=>acr (p:=.r 10) Y (.r (.r Y)) h λb h=>afl (p:=.r 10) ⟨⟨yV,yW⟩,⟨yX,yY⟩⟩ Y (.r Y) h λc h=>aF<|bn.n<|aR.n<|aU<|aO h λb h=>aB Y<|aF<|?_;obtain rfl:=aob h;exact aR.n ⟨(b,c),d _ Y,wk []⟩
 subst xW;exact aR.n<|sr<|aaw Y<|aey Y<|dn<|ow (bT (i:=10) (e:=eQ) (l:=a) Y)<|aY<|f1 f
end
section
open Go.Fw Go.RowKit
noncomputable def dK(D:Dp):Option (List Int):=(some (D.rows.length:Int)).bind λa=>(uF 8 a (0:Int)).bind λc=>(some (c.length:Int)).bind λd=>(bH (λ(a:Int×(List Int))=>match a with|⟨a,b⟩=>(show Option ((Int×(List Int))⊕((List Int)))from(some (decide ((a:Int)<d))).bind λd=>(bif d then(fG b a).bind λd=>(stM b d (-1)).bind λd=>(some (IntKind.i64.wrap (a+1))).bind λa=>some (.inl (a,d))else some (.inr b)))) (0,c)).bind λf=>(some (D.free.length:Int)).bind λd=>(bH (λ(a:Int×(List Int))=>match a with|⟨b,c⟩=>(show Option ((Int×(List Int))⊕((List Int)))from(some (decide ((b:Int)<d))).bind λa=>(bif a then(bV D.free b).bind λd=>(some (decide ((D.vars:Int)<=d))).bind λe=>bU (λ(a:(List Int))=>(some (IntKind.i64.wrap (b+1))).bind λg=>some (.inl (g,a))) λa=>(bif e then(some (IntKind.i64.wrap (d-D.vars))).bind λd=>(fG c d).bind λd=>(stM c d b).bind λb=>a b else a c)else some (.inr c)))) (0,f)).bind λa=>some a
noncomputable def gP(D:Dp):Option (Int):=(some (D.bS.length:Int)).bind λa=>(some (IntKind.i64.wrap (a-D.vars))).bind λa=>(some (D.rows.length:Int)).bind λb=>(some (IntKind.i64.wrap (a+b))).bind λa=>some a
noncomputable def dQ(D:Dp)(I:Int)(H:Int)(K:List Int):Option (Qr):=(some (D.bS.length:Int)).bind λa=>(some (IntKind.i64.wrap (a-D.vars))).bind λa=>(some (decide ((H:Int)<a))).bind λb=>(bif b then(bV D.rows I).bind λc=>(some (IntKind.i64.wrap (D.vars+H))).bind λb=>(bV c b).bind λb=>some b else(some (IntKind.i64.wrap (H-a))).bind λb=>(bV K b).bind λb=>(some (decide ((0:Int)<=b))).bind λb=>(bif b then(bV D.rows I).bind λc=>(some (IntKind.i64.wrap (H-a))).bind λb=>(bV K b).bind λb=>(bV c b).bind λb=>some b else(bV D.basic I).bind λb=>(some (IntKind.i64.wrap (D.vars+H))).bind λc=>(some (IntKind.i64.wrap (c-a))).bind λa=>(some (decide ((b:Int)=a))).bind λa=>(bif a then(bK 1).bind λa=>some a else some ⟨⟨false,[]⟩,⟨false,[]⟩⟩)))
noncomputable def gQ(D:Dp)(I:Int)(H:List Int):Option (Int):=(gP D).bind λb=>(bH (λ(a:Int)=>(show Option ((Int)⊕((Unit)⊕(Int)))from(some (decide ((a:Int)<b))).bind λb=>(bif b then(dQ D I a H).bind λb=>(cv b).bind λb=>(some (decide ((b:Int)≠0))).bind λc=>(bif c then some (.inr (.inr b))else(some (IntKind.i64.wrap (a+1))).bind λa=>some (.inl a))else some (.inr (.inl ()))))) 0).bind λa=>match a with|.inr v6=>some v6|.inl _=>some 0
noncomputable def fB(D:Dp):Option (Int):=(some (D.free.length:Int)).bind λc=>(bH (λ(a:Int×Int)=>match a with|⟨b,a⟩=>(show Option ((Int×Int)⊕(Int))from(some (decide ((a:Int)<c))).bind λc=>(bif c then(bV D.free a).bind λf=>(bV D.bS a).bind λc=>(cv c).bind λc=>(some (decide ((0:Int)<=c))).bind λc=>(bif c then(some (IntKind.i64.wrap (a+1))).bind λc=>some (.inl (b,c))else(some (decide ((0:Int)<=b))).bind λh=>bU (λ(d:Int)=>bU (λ(g:Bool)=>bU (λ(e:Int)=>(some (IntKind.i64.wrap (a+1))).bind λc=>some (.inl (e,c))) λc=>(bif g then c a else c b)) λe=>(some (decide ((d:Int)<0))).bind λc=>(bif c then some true else(some (decide ((d:Int)=0))).bind λc=>(bif c then(bV D.free b).bind λc=>(some (decide ((f:Int)<c))).bind λc=>some c else some false).bind λc=>some c).bind λc=>e c) λc=>(bif h then(bV D.bS a).bind λd=>(bV D.bS b).bind λa=>(iy d a).bind λa=>c a else c (-1)))else some (.inr b)))) ((-1),0)).bind λa=>some a
noncomputable def gU(D:Dp)(I:Int)(x2:Int)(H:Int)(K:List Int):Option (Bool):=(gP D).bind λb=>(bH (λ(a:Int)=>(show Option ((Int)⊕((Unit)⊕(Bool)))from(some (decide ((a:Int)<b))).bind λb=>(bif b then(dQ D I a K).bind λb=>(bV D.rows x2).bind λc=>(bV c H).bind λc=>(ei b c).bind λc=>(dQ D x2 a K).bind λd=>(bV D.rows I).bind λb=>(bV b H).bind λb=>(ei d b).bind λb=>(iy c b).bind λb=>(some (decide ((b:Int)≠0))).bind λc=>(bif c then(some (decide ((b:Int)<0))).bind λb=>some (.inr (.inr b))else(some (IntKind.i64.wrap (a+1))).bind λa=>some (.inl a))else some (.inr (.inl ()))))) 0).bind λa=>match a with|.inr v6=>some v6|.inl _=>some false
noncomputable def fI(D:Dp)(H:Int):Option (Int):=(dK D).bind λf=>(some (D.rows.length:Int)).bind λa=>(bH (λ(b:Int×Int)=>match b with|⟨c,b⟩=>(show Option ((Int×Int)⊕(Int))from(some (decide ((b:Int)<a))).bind λa=>(bif a then(bV D.rows b).bind λe=>bU (λ(d:Bool)=>bU (λ(a:Int)=>(some (IntKind.i64.wrap (b+1))).bind λg=>some (.inl (a,g))) λa=>(bif d then a b else a c)) λd=>(bV e H).bind λa=>(cv a).bind λa=>(some (decide ((0:Int)<a))).bind λa=>(bif a then(some (decide ((c:Int)<0))).bind λa=>(bif a then some true else(gU D b c H f).bind λa=>some a).bind λa=>some a else some false).bind λa=>d a else some (.inr c)))) ((-1),0)).bind λa=>some a
noncomputable def eI(D:Dp):Option (List Qr):=(some (D.rows.length:Int)).bind λa=>(uF 64 a (⟨⟨false,[]⟩,⟨false,[]⟩⟩:Qr)).bind λg=>(some (D.free.length:Int)).bind λc=>(bH (λ(a:Int×(List Qr))=>match a with|⟨b,a⟩=>(show Option ((Int×(List Qr))⊕((List Qr)))from(some (decide ((b:Int)<c))).bind λc=>(bif c then(bV D.free b).bind λd=>(some (decide ((D.vars:Int)<=d))).bind λf=>bU (λ(c:(List Qr))=>(some (IntKind.i64.wrap (b+1))).bind λe=>some (.inl (e,c))) λc=>(bif f then(some (IntKind.i64.wrap (d-D.vars))).bind λd=>(bV D.bS b).bind λb=>(cA b).bind λe=>(fG a d).bind λb=>(stM a b e).bind λb=>c b else c a)else some (.inr a)))) (0,g)).bind λa=>some a
noncomputable def fZ(D:Dx)(H:Int):Option (Qr):=(bV D.rows H).bind λa=>(bV a D.vars).bind λa=>some a
noncomputable def eo(D:Dx):Option (List Qr):=(uF 64 D.vars (⟨⟨false,[]⟩,⟨false,[]⟩⟩:Qr)).bind λg=>(some (D.basic.length:Int)).bind λc=>(bH (λ(a:Int×(List Qr))=>match a with|⟨a,b⟩=>(show Option ((Int×(List Qr))⊕((List Qr)))from(some (decide ((a:Int)<c))).bind λc=>(bif c then(bV D.basic a).bind λc=>(some (decide ((c:Int)<D.vars))).bind λf=>bU (λ(e:(List Qr))=>(some (IntKind.i64.wrap (a+1))).bind λd=>some (.inl (d,e))) λd=>(bif f then(fZ D a).bind λa=>(cA a).bind λa=>(fG b c).bind λc=>(stM b c a).bind λa=>d a else d b)else some (.inr b)))) (0,g)).bind λa=>some a
noncomputable def dU(D:Dx):Option (Rs):=(some (D.rows.length:Int)).bind λa=>(uF 64 a (⟨⟨false,[]⟩,⟨false,[]⟩⟩:Qr)).bind λd=>(bV D.basic D.row).bind λg=>(some (decide ((D.vars:Int)<=g))).bind λi=>bU (λ(c:(List Qr))=>(some (D.free.length:Int)).bind λe=>(bH (λ(a:Int×(List Qr))=>match a with|⟨b,a⟩=>(show Option ((Int×(List Qr))⊕((List Qr)))from(some (decide ((b:Int)<e))).bind λe=>(bif e then(bV D.free b).bind λe=>(some (decide ((D.vars:Int)<=e))).bind λj=>bU (λ(f:(List Qr))=>(some (IntKind.i64.wrap (b+1))).bind λh=>some (.inl (h,f))) λf=>(bif j then(some (IntKind.i64.wrap (e-D.vars))).bind λh=>(bV D.rows D.row).bind λe=>(bV e b).bind λb=>(cA b).bind λe=>(fG a h).bind λb=>(stM a b e).bind λb=>f b else f a)else some (.inr a)))) (0,c)).bind λa=>some ⟨2,[],[],[],a,D.cg⟩) λa=>(bif i then(some (IntKind.i64.wrap (g-D.vars))).bind λc=>(bK 1).bind λb=>(fG d c).bind λc=>(stM d c b).bind λb=>a b else a d)
noncomputable def iZ(D:Dx):Option (Rs):=(bV D.free D.col).bind λa=>(Ce D.vars a).bind λg=>(some (D.basic.length:Int)).bind λc=>(bH (λ(a:Int×(List Qr))=>match a with|⟨b,a⟩=>(show Option ((Int×(List Qr))⊕((List Qr)))from(some (decide ((b:Int)<c))).bind λc=>(bif c then(bV D.basic b).bind λc=>(some (decide ((c:Int)<D.vars))).bind λe=>bU (λ(d:(List Qr))=>(some (IntKind.i64.wrap (b+1))).bind λf=>some (.inl (f,d))) λd=>(bif e then(bV D.rows b).bind λb=>(bV b D.col).bind λb=>(iw b).bind λe=>(fG a c).bind λb=>(stM a b e).bind λb=>d b else d a)else some (.inr a)))) (0,g)).bind λa=>(eo D).bind λb=>some ⟨3,b,[],a,[],D.cg⟩
noncomputable def eL(D:Dx)(H:Int):Option (Int):=(some (D.rows.length:Int)).bind λc=>(bH (λ(a:Int×Int×Qr)=>match a with|⟨b,a,f⟩=>(show Option ((Int×Int×Qr)⊕(Int))from(some (decide ((a:Int)<c))).bind λc=>(bif c then(bV D.rows a).bind λc=>(bV c H).bind λd=>(cv d).bind λd=>(some (decide ((d:Int)<=0))).bind λd=>(bif d then(some (IntKind.i64.wrap (a+1))).bind λd=>some (.inl (b,d,f))else(fZ D a).bind λe=>(bV c H).bind λc=>(kz e c).bind λ⟨h,c⟩=>(some (decide ((0:Int)<=b))).bind λi=>bU (λ(g:Int)=>bU (λ(j:Bool)=>bU (λ(c:Int×Qr)=>match c with|⟨e,c⟩=>(some (IntKind.i64.wrap (a+1))).bind λd=>some (.inl (e,d,c))) λc=>(bif j then c (a,h)else c (b,f))) λc=>(some (decide ((g:Int)<0))).bind λd=>(bif d then some true else(some (decide ((g:Int)=0))).bind λd=>(bif d then(bV D.basic a).bind λa=>(bV D.basic b).bind λd=>(some (decide ((a:Int)<d))).bind λa=>some a else some false).bind λa=>some a).bind λa=>c a) λa=>(bif i then(iy h f).bind λc=>a c else a (-1)))else some (.inr b)))) ((-1),0,⟨⟨false,[]⟩,⟨false,[]⟩⟩)).bind λa=>some a
end
section
open Go.Fw Go.RowKit
theorem wv{D:Dp}{r:List Int}(h:dK D=some r):Pure ah 198 [ref (GV D)] (aoc 1 bh r):=by
 refine aZ Tryz.func198 Y λE w vs a=>?_;unfold dK at h;refine sr<|aeD (aA (n:=1) (e:=bh))<|dn<|sr<|aB Y<|aeE Y<|aew Y<|aI Y Y<|aN h λa h=>aeW (e:=bh) 0 (by exact⟨aq,an⟩) h λa h=>aey Y<|dn<|aT<|sr<|aaw Y<|aeJ (p:=.r 12) Y (.r (.r Y)) h λd h=>aB Y<|dn<|bq h λa f c=>?_;refine bp (λ(b:(List Int))=>AS.bM 49 [(0,.sv (ref (GV D))),(3,.ob 12)] [(12,TR 3 1 bh b)]) (λb=>b=a) (aV<|br f (λa=>AS.bM 49 [(0,.sv (ref (GV D))),(3,.ob 12),(14,ai d),(15,ai a.1)] [(12,TR 3 1 bh a.2)]) (wk []) (λa j g h f d=>?_)) (λb g=>?_)
 ·obtain⟨j,b⟩:=a
  try dsimp only
  refine sr<|aL h λa h=>dn<|aT<|?_;cases a
  ·refine cF h λh=>bt<|aR.x<|aR.x<|bn.x<|?_;obtain rfl:=aob h;exact aR.n ⟨b,d _ Y,wk []⟩
  refine cT h λh=>aX<|aR.n<|aT<|aV<|sr<|aB Y<|aC Y<|dn<|aU<|aaw Y<|aB Y<|acr (p:=.r 12) Y (.r (.r Y)) h λa h=>afx (p:=.r 12) (-1) Y Y (.r Y) h λa h=>aF<|bn.n<|aR.n<|aU<|aO h λb h=>aB Y<|aF<|?_;obtain rfl:=aob h;exact aR.n ⟨(b,a),f _ Y,wk []⟩
 subst g;refine aR.n<|aT<|sr<|aB Y<|aeE Y<|aew Y<|aI Y Y<|aN c λf c=>aB Y<|dn<|bq c λb c k=>?_;refine bp (λ(a:(List Int))=>AS.bM 49 [(3,.ob 12)] [(12,TR 3 1 bh a)]) (λa=>a=b) (aV<|br c (λb=>AS.bM 49 [(0,.sv (ref (GV D))),(3,.ob 12),(25,aoh 1 bh D.free),(26,ai f),(27,ai b.1)] [(12,TR 3 1 bh b.2)]) (wk []) (λb d c h m g=>?_)) (λa j=>?_)
 ·obtain⟨c,d⟩:=b
  try dsimp only
  refine sr<|aL h λb h=>dn<|aT<|?_;cases b
  ·refine cF h λh=>bt<|aR.x<|aR.x<|bn.x<|?_;obtain rfl:=aob h;exact aR.n ⟨d,g _ Y,wk []⟩
  refine cT h λh=>aX<|aR.n<|aT<|aV<|sr<|aB Y<|aQ Y h λb h=>aI Y Y<|aC Y<|aC Y<|dn<|sr<|aB Y<|aB Y<|aeE Y<|aew Y<|aI Y Y<|afy h λg h=>dn<|?_;refine bB h (λb=>AS.bM 49 [(0,.sv (ref (GV D))),(3,.ob 12),(25,aoh 1 bh D.free),(26,ai f),(27,ai c)] [(12,TR 3 1 bh b)]) (λh=>?_) (λf h=>?_)
  ·cases g
   ·exact cF h λh=>aX<|aR.n ⟨d,h,wk []⟩
   exact cT h λh=>aU<|aaw Y<|aB Y<|aB Y<|aeE Y<|aew Y<|aI Y Y<|aeK h λb h=>aB Y<|acr (p:=.r 12) Y (.r (.r Y)) h λb h=>afx (p:=.r 12) c Y Y (.r Y) h λb h=>aF<|aR.n ⟨b,h,wk []⟩
  refine bn.n<|aR.n<|aU<|aO h λb h=>aB Y<|aF<|?_;obtain rfl:=aob h;exact aR.n ⟨(b,f),m _ Y,wk []⟩
 subst j;exact aR.n<|sr<|aaw Y<|aey Y<|dn<|ow (bT (i:=12) (e:=bh) (l:=a) Y)<|aY<|f1 k
theorem pW{D:Dp}{r:Int}(h:gP D=some r):Pure ah 234 [ref (GV D)] (ax r):=by
 refine aZ Tryz.func234 Y λE w vs a=>?_;unfold gP at h;exact sr<|aC Y<|dn<|sd mixed<|aB Y<|aeE Y<|aew Y<|aI Y Y<|aN h λa h=>aB Y<|aeE Y<|aew Y<|aI Y Y<|aeK h λa h=>aB Y<|aeE Y<|aew Y<|aI Y Y<|aN h λa h=>aO h λa h=>aC Y<|dd<|aY<|f1 h
theorem kQ{I:Dp}{H:Int}{K:Int}{D:List Int}{r:Qr}(h:dQ I H K D=some r):Pure ah 235 [ref (GV I),ax H,ax K,aoc 1 bh D] (.agg (eQ r)):=by
 refine aZ Tryz.func235 Y λE w vs b=>?_;unfold dQ at h;refine sr<|aM (cs:=[ay false,au,ay false,au]) (by exact⟨aq,aA,aq,aA,an⟩)<|dn<|sd mixed<|aB Y<|aeE Y<|aew Y<|aI Y Y<|aN h λb h=>aB Y<|aeE Y<|aew Y<|aI Y Y<|aeK h λb h=>aC Y<|dd<|aT<|aV<|sr<|aB Y<|aB Y<|aL h λb h=>aC Y<|dn<|?_;cases b
 ·refine cF h λh=>sr<|aB Y<|aB Y<|aB Y<|aeK h λb h=>aQ Y h λb h=>aI Y Y<|afy h λb h=>aC Y<|dn<|?_;cases b
  ·refine cF h λh=>sd mixed<|aB Y<|aeE Y<|aew Y<|aI Y Y<|aB Y<|aQ Y h λb h=>aI Y Y<|aB Y<|aeE Y<|aew Y<|aI Y Y<|aB Y<|aO h λb h=>aB Y<|aeK h λb h=>aeH h λb h=>aC Y<|dd<|?_;cases b
   ·exact cF h λh=>aX<|bn.n<|aR.n<|sr<|aez (cs':=[ay false,au,ay false,au]) (.nil) (by exact⟨aq,aA,aq,aA,an⟩)<|aJ Y Y Y<|dn<|aY<|fP h [.agg (eQ ⟨⟨false,[]⟩,⟨false,[]⟩⟩)] (by exact⟨.a Y Y (.k4 Y Y Y Y) Y,an⟩)
   exact cT h λh=>sr<|aE h (λ_=>bQ) λb h=>aJ Y Y Y<|dn<|aY<|bn.r<|aR.r<|fP h [.agg (eQ b)] (by exact⟨.a Y Y (.k4 Y Y Y Y) Y,an⟩)
  exact cT h λh=>sd mixed<|aB Y<|aeE Y<|aew Y<|aI Y Y<|aB Y<|aQ Y h λb h=>aI Y Y<|aB Y<|aB Y<|aB Y<|aeK h λb h=>aQ Y h λb h=>aI Y Y<|aQ Y h λb h=>aeC Y (.cons (.cons (.cons (.cons (.nil)))))<|aJ Y Y Y<|dd<|aY<|bn.r<|aR.r<|fP h [.agg (eQ b)] (by exact⟨.a Y Y (.k4 Y Y Y Y) Y,an⟩)
 exact cT h λh=>sd mixed<|aB Y<|aeE Y<|aew Y<|aI Y Y<|aB Y<|aQ Y h λb h=>aI Y Y<|aB Y<|aeE Y<|aew Y<|aI Y Y<|aB Y<|aO h λb h=>aQ Y h λb h=>aeC Y (.cons (.cons (.cons (.cons (.nil)))))<|aJ Y Y Y<|dd<|aY<|bn.r<|aR.r<|fP h [.agg (eQ b)] (by exact⟨.a Y Y (.k4 Y Y Y Y) Y,an⟩)
theorem pX{H:Dp}{D:Int}{I:List Int}{r:Int}(h:gQ H D I=some r):Pure ah 199 [ref (GV H),ax D,aoc 1 bh I] (ax r):=by
 refine aZ Tryz.func199 Y λE w vs a=>?_;unfold gQ at h;refine sr<|aC Y<|dn<|aT<|sr<|aB Y<|aE h (λ_=>pW) λd h=>aB Y<|dn<|bq h λb e c=>?_;refine bp (λ(a:Unit)=>AS.bM 24 [] []) (λa=>.inl a=b) (aV<|br e (λb=>AS.bM 24 [(0,.sv (ref (GV H))),(1,ai D),(2,aoh 1 bh I),(10,ai d),(11,ai b)] []) (wk []) (λg e f h d b=>?_)) (λa e=>?_)
 ·refine sr<|aL h λa h=>dn<|aT<|?_;cases a
  ·refine cF h λh=>bt<|aR.x<|aR.x<|bn.x<|?_;cases h;exact aR.n ⟨(),b _ Y,wk []⟩
  refine cT h λh=>aX<|aR.n<|aT<|aV<|sr<|aB Y<|aC Y<|dn<|sr<|aB Y<|aB Y<|aB Y<|aB Y<|aE h (λ_=>kQ) λa h=>aE h (λ_=>cS) λa h=>aC Y<|dn<|sr<|aB Y<|aeA h λa h=>dn<|?_;cases a
  ·refine cF h λh=>aX<|bn.n<|aR.n<|aU<|aO h λa h=>aB Y<|aF<|?_;obtain rfl:=aob h;exact aR.n ⟨a,d _ Y,wk []⟩
  refine cT h λh=>sr<|aB Y<|aC Y<|dn<|aY<|bn.r<|aR.r<|?_;obtain rfl:=aob h;have a:=b _ Y;subst a;exact aR.r<|bn.r<|aR.r<|aR.r<|f1 c
 subst e;exact aR.n<|sr<|aC Y<|dn<|aY<|f1 c
theorem uM{D:Dp}{r:Int}(h:fB D=some r):Pure ah 144 [ref (GV D)] (ax r):=by
 refine aZ Tryz.func144 Y λE w vs a=>?_;unfold fB at h;refine sr<|aC Y<|dn<|sr<|aC Y<|dn<|aT<|sr<|aB Y<|aeE Y<|aew Y<|aI Y Y<|aN h λe h=>aB Y<|dn<|bq h λc a k=>?_;refine bp (λ(b:Int)=>AS.bM 63 [(3,ai b)] []) (λb=>b=c) (aV<|br a (λa=>AS.bM 63 [(0,.sv (ref (GV D))),(3,ai a.1),(10,aoh 1 bh D.free),(11,ai e),(12,ai a.2)] []) (wk []) (λa d c h g i=>?_)) (λb f=>?_)
 ·obtain⟨d,c⟩:=a
  try dsimp only
  refine sr<|aL h λa h=>dn<|aT<|?_;cases a
  ·refine cF h λh=>bt<|aR.x<|aR.x<|bn.x<|?_;obtain rfl:=aob h;exact aR.n ⟨d,i _ Y,wk []⟩
  refine cT h λh=>aX<|aR.n<|aT<|aV<|sr<|aB Y<|aQ Y h λb h=>aI Y Y<|aC Y<|aC Y<|dn<|aT<|sr<|aB Y<|aeE Y<|aew Y<|aI Y Y<|aB Y<|aQ Y h λa h=>aeC Y (.cons (.cons (.cons (.cons (.nil)))))<|aE h (λ_=>cS) λa h=>afy h λa h=>dn<|?_;cases a
  ·refine cF h λh=>aX<|aR.n<|sr<|aC Y<|dn<|aT<|sr<|aB Y<|afy h λi h=>dn<|?_;refine bB h (λa=>AS.bM 63 [(0,.sv (ref (GV D))),(3,ai d),(4,ai c),(5,ai b),(6,ai a),(10,aoh 1 bh D.free),(11,ai e),(12,ai c)] []) (λh=>?_) (λa h=>?_)
   ·cases i
    ·exact cF h λh=>aX<|aR.n ⟨(-1),h,wk []⟩
    exact cT h λh=>bz mixed<|aB Y<|aeE Y<|aew Y<|aI Y Y<|aB Y<|aQ Y h λa h=>aeC Y (.cons (.cons (.cons (.cons (.nil)))))<|aB Y<|aeE Y<|aew Y<|aI Y Y<|aB Y<|aQ Y h λa h=>aeC Y (.cons (.cons (.cons (.cons (.nil)))))<|aE h (λ_=>kW) λa h=>aC Y<|de<|aR.n ⟨a,h,wk []⟩
   refine aR.n<|aT<|?_;refine bB h (λa=>AS.bM 63 [(0,.sv (ref (GV D))),(3,ai d),(4,ai c),(10,aoh 1 bh D.free),(11,ai e),(12,ai c),(59,aj a)] []) (λh=>?_) (λi h=>?_)
   ·refine aU<|aB Y<|aL h λb h=>aB Y<|bq h λj a h=>?_;cases b
    ·replace a:=ct a;refine aB Y<|aeH a λl a=>aB Y<|bq a λj b a=>?_;cases l
     ·replace b:=ct b;obtain rfl:=aob b;refine aD<|aD<|aD<|aD<|aD<|aD<|aD<|aD<|aD<|abE Y<|?_;cases a;exact abE Y<|aF<|aR.n ⟨false,h,wk []⟩
     replace b:=cn b;refine aB Y<|aB Y<|aeE Y<|aew Y<|aI Y Y<|aB Y<|aQ Y b λj b=>aI Y Y<|aL b λj b=>?_;obtain rfl:=aob b;refine aax Y<|?_;obtain rfl:=aob a;exact abE Y<|aF<|aR.n ⟨j,h,wk []⟩
    replace a:=cn a;cases a;exact aD<|aD<|aD<|ada<|ada<|ada<|ada<|ada<|ada<|ada<|ada<|ada<|aD<|aax Y<|aF<|aR.n ⟨true,h,wk []⟩
   refine aR.n<|?_;refine bB h (λa=>AS.bM 63 [(0,.sv (ref (GV D))),(3,ai a),(10,aoh 1 bh D.free),(11,ai e),(12,ai c)] []) (λh=>?_) (λb h=>?_)
   ·cases i
    ·exact cF h λh=>aX<|aR.n ⟨d,h,wk []⟩
    exact cT h λh=>aU<|aB Y<|aC Y<|aF<|aR.n ⟨c,h,wk []⟩
   refine bn.n<|aR.n<|aU<|aO h λa h=>aB Y<|aF<|?_;obtain rfl:=aob h;exact aR.n ⟨(b,a),g _ Y,wk []⟩
  refine cT h λh=>bt<|aR.x<|bn.x<|aR.n<|aU<|aO h λa h=>aB Y<|aF<|?_;obtain rfl:=aob h;exact aR.n ⟨(d,a),g _ Y,wk []⟩
 subst f;exact aR.n<|sr<|aB Y<|aC Y<|dn<|aY<|f1 k
set_option maxRecDepth 8000 in
theorem yf{I:Dp}{H:Int}{x2:Int}{D:Int}{K:List Int}{r:Bool}(h:gU I H x2 D K=some r):Pure ah 200 [ref (GV I),ax H,ax x2,ax D,aoc 1 bh K] (ay r):=by
 refine aZ Tryz.func200 Y λE w vs a=>?_;unfold gU at h;refine sr<|aC Y<|dn<|aT<|sr<|aB Y<|aE h (λ_=>pW) λd h=>aB Y<|dn<|bq h λb e c=>?_;refine bp (λ(a:Unit)=>AS.bM 60 [] []) (λa=>.inl a=b) (aV<|br e (λb=>AS.bM 60 [(0,.sv (ref (GV I))),(1,ai H),(2,ai x2),(3,ai D),(4,aoh 1 bh K),(16,ai d),(17,ai b)] []) (wk []) (λg e f h d b=>?_)) (λa e=>?_)
 ·refine sr<|aL h λa h=>dn<|aT<|?_;cases a
  ·refine cF h λh=>bt<|aR.x<|aR.x<|bn.x<|?_;cases h;exact aR.n ⟨(),b _ Y,wk []⟩
  refine cT h λh=>aX<|aR.n<|aT<|aV<|sr<|aB Y<|aC Y<|dn<|sd mixed<|aB Y<|aB Y<|aB Y<|aB Y<|aE h (λ_=>kQ) λa h=>aB Y<|aeE Y<|aew Y<|aI Y Y<|aB Y<|aQ Y h λa h=>aI Y Y<|aB Y<|aQ Y h λa h=>aeC Y (.cons (.cons (.cons (.cons (.nil)))))<|aE h (λ_=>gO) λa h=>aM (cs:=[ay false,au,ay false,au]) (by exact⟨aq,aA,aq,aA,an⟩)<|aJ Y Y Y<|dd<|sd mixed<|aB Y<|aB Y<|aB Y<|aB Y<|aE h (λ_=>kQ) λa h=>aB Y<|aeE Y<|aew Y<|aI Y Y<|aB Y<|aQ Y h λa h=>aI Y Y<|aB Y<|aQ Y h λa h=>aeC Y (.cons (.cons (.cons (.cons (.nil)))))<|aE h (λ_=>gO) λa h=>aM (cs:=[ay false,au,ay false,au]) (by exact⟨aq,aA,aq,aA,an⟩)<|aJ Y Y Y<|dd<|sr<|aK Y Y (.k4 Y Y Y Y)<|aK Y Y (.k4 Y Y Y Y)<|aE h (λ_=>kW) λa h=>aC Y<|dn<|sr<|aB Y<|aeA h λa h=>dn<|?_;cases a
  ·refine cF h λh=>aX<|bn.n<|aR.n<|aU<|aO h λa h=>aB Y<|aF<|?_;obtain rfl:=aob h;exact aR.n ⟨a,d _ Y,wk []⟩
  refine cT h λh=>sr<|aB Y<|aL h λa h=>aC Y<|dn<|aY<|bn.r<|aR.r<|?_;obtain rfl:=aob h;have a:=b _ Y;subst a;exact aR.r<|bn.r<|aR.r<|aR.r<|f1 c
 subst e;exact aR.n<|sr<|aC Y<|dn<|aY<|f1 c
theorem vp{D:Dp}{H:Int}{r:Int}(h:fI D H=some r):Pure ah 145 [ref (GV D),ax H] (ax r):=by
 refine aZ Tryz.func145 Y λE w vs a=>?_;unfold fI at h;refine sr<|aC Y<|dn<|sr<|aB Y<|aE h (λ_=>wv) λg h=>aC Y<|aC Y<|dn<|aT<|sr<|aB Y<|aeE Y<|aew Y<|aI Y Y<|aN h λd h=>aB Y<|dn<|bq h λc a k=>?_;refine bp (λ(b:Int)=>AS.bM 42 [(5,ai b)] []) (λb=>b=c) (aV<|br a (λa=>AS.bM 42 [(0,.sv (ref (GV D))),(1,ai H),(5,ai a.1),(6,aoh 1 bh g),(14,aoh 1 (eS 4 eQ) D.rows),(15,ai d),(16,ai a.2)] []) (wk []) (λa e c h j f=>?_)) (λb i=>?_)
 ·obtain⟨e,c⟩:=a
  try dsimp only
  refine sr<|aL h λa h=>dn<|aT<|?_;cases a
  ·refine cF h λh=>bt<|aR.x<|aR.x<|bn.x<|?_;obtain rfl:=aob h;exact aR.n ⟨e,f _ Y,wk []⟩
  refine cT h λh=>aX<|aR.n<|aT<|aV<|sr<|aB Y<|aQ Y h λa h=>aI Y Y<|aC Y<|aC Y<|dn<|aT<|?_;refine bB h (λa=>AS.bM 42 [(0,.sv (ref (GV D))),(1,ai H),(5,ai e),(6,aoh 1 bh g),(7,ai c),(14,aoh 1 (eS 4 eQ) D.rows),(15,ai d),(16,ai c),(38,aj a)] []) (λh=>?_) (λl h=>?_)
  ·refine aU<|aB Y<|aB Y<|aQ Y h λa h=>aeC Y (.cons (.cons (.cons (.cons (.nil)))))<|aE h (λ_=>cS) λa h=>aeG h λf h=>aB Y<|bq h λb a h=>?_;cases f
   ·replace a:=ct a;cases a;exact aD<|aD<|aD<|ada<|ada<|ada<|ada<|ada<|ada<|aD<|abE Y<|aF<|aR.n ⟨false,h,wk []⟩
   replace a:=cn a;refine aB Y<|aL a λf a=>aB Y<|bq a λm b a=>?_;cases f
   ·replace b:=ct b;refine aB Y<|aB Y<|aB Y<|aB Y<|aB Y<|aE b (λ_=>yf) λf b=>?_;obtain rfl:=aob b;refine abE Y<|?_;obtain rfl:=aob a;exact aax Y<|aF<|aR.n ⟨f,h,wk []⟩
   replace b:=cn b;obtain rfl:=aob b;refine aD<|aD<|aD<|aD<|aD<|aD<|aax Y<|?_;cases a;exact aax Y<|aF<|aR.n ⟨true,h,wk []⟩
  refine aR.n<|?_;refine bB h (λa=>AS.bM 42 [(0,.sv (ref (GV D))),(1,ai H),(5,ai a),(6,aoh 1 bh g),(14,aoh 1 (eS 4 eQ) D.rows),(15,ai d),(16,ai c)] []) (λh=>?_) (λa h=>?_)
  ·cases l
   ·exact cF h λh=>aX<|aR.n ⟨e,h,wk []⟩
   exact cT h λh=>aU<|aB Y<|aC Y<|aF<|aR.n ⟨c,h,wk []⟩
  refine bn.n<|aR.n<|aU<|aO h λb h=>aB Y<|aF<|?_;obtain rfl:=aob h;exact aR.n ⟨(a,b),j _ Y,wk []⟩
 subst i;exact aR.n<|sr<|aB Y<|aC Y<|dn<|aY<|f1 k
theorem wA{D:Dp}{r:List Qr}(h:eI D=some r):Pure ah 84 [ref (GV D)] (aoc 4 eQ r):=by
 refine aZ Tryz.func84 Y λE w vs a=>?_;unfold eI at h;refine sr<|aeD (aA (n:=4) (e:=eQ))<|dn<|sr<|aB Y<|aeE Y<|aew Y<|aI Y Y<|aN h λa h=>aeW (e:=eQ) ⟨⟨false,[]⟩,⟨false,[]⟩⟩ (by exact⟨aq,aA,aq,aA,an⟩) h λa h=>aey Y<|dn<|aT<|sr<|aB Y<|aeE Y<|aew Y<|aI Y Y<|aN h λc h=>aB Y<|dn<|bq h λd b f=>?_;refine bp (λ(a:(List Qr))=>AS.bM 46 [(3,.ob 11)] [(11,TR 40 4 eQ a)]) (λa=>a=d) (aV<|br b (λb=>AS.bM 46 [(0,.sv (ref (GV D))),(3,.ob 11),(15,aoh 1 bh D.free),(16,ai c),(17,ai b.1)] [(11,TR 40 4 eQ b.2)]) (wk []) (λb g d h m j=>?_)) (λa g=>?_)
 ·obtain⟨k,d⟩:=b
  try dsimp only
  refine sr<|aL h λb h=>dn<|aT<|?_;cases b
  ·refine cF h λh=>bt<|aR.x<|aR.x<|bn.x<|?_;obtain rfl:=aob h;exact aR.n ⟨d,j _ Y,wk []⟩
  refine cT h λh=>aX<|aR.n<|aT<|aV<|sr<|aB Y<|aQ Y h λb h=>aI Y Y<|aC Y<|aC Y<|dn<|sr<|aB Y<|aB Y<|aeE Y<|aew Y<|aI Y Y<|afy h λj h=>dn<|?_;refine bB h (λb=>AS.bM 46 [(0,.sv (ref (GV D))),(3,.ob 11),(15,aoh 1 bh D.free),(16,ai c),(17,ai k)] [(11,TR 40 4 eQ b)]) (λh=>?_) (λb h=>?_)
  ·cases j
   ·exact cF h λh=>aX<|aR.n ⟨d,h,wk []⟩
   exact cT h λh=>bz mixed<|aaw Y<|aB Y<|aB Y<|aeE Y<|aew Y<|aI Y Y<|aeK h λc h=>aB Y<|aeE Y<|aew Y<|aI Y Y<|aB Y<|aQ Y h λc h=>aeC Y (.cons (.cons (.cons (.cons (.nil)))))<|aE h (λ_=>c9) λc h=>acr (p:=.r 11) Y (.r (.r Y)) h λd h=>afl (p:=.r 11) c Y (.r Y) h λc h=>de<|aR.n ⟨c,h,wk []⟩
  refine bn.n<|aR.n<|aU<|aO h λc h=>aB Y<|aF<|?_;obtain rfl:=aob h;exact aR.n ⟨(c,b),m _ Y,wk []⟩
 subst g;exact aR.n<|sr<|aaw Y<|aey Y<|dn<|ow (bT (i:=11) (e:=eQ) (l:=a) Y)<|aY<|f1 f
theorem oM{D:Dx}{H:Int}{r:Qr}(h:fZ D H=some r):Pure ah 193 [ref (pM D),ax H] (.agg (eQ r)):=by
 refine aZ Tryz.func193 Y λE w vs b=>?_;unfold fZ at h;exact sr<|aM (cs:=[ay false,au,ay false,au]) (by exact⟨aq,aA,aq,aA,an⟩)<|dn<|sd mixed<|aB Y<|aeE Y<|aew Y<|aI Y Y<|aB Y<|aQ Y h λb h=>aI Y Y<|aB Y<|aeE Y<|aew Y<|aI Y Y<|aQ Y h λb h=>aeC Y (.cons (.cons (.cons (.cons (.nil)))))<|aJ Y Y Y<|dd<|aY<|fP h [.agg (eQ b)] (by exact⟨.a Y Y (.k4 Y Y Y Y) Y,an⟩)
theorem nZ{D:Dx}{r:List Qr}(h:eo D=some r):Pure ah 192 [ref (pM D)] (aoc 4 eQ r):=by
 refine aZ Tryz.func192 Y λE w vs a=>?_;unfold eo at h;refine sr<|aeD (aA (n:=4) (e:=eQ))<|dn<|sr<|aB Y<|aeE Y<|aew Y<|aI Y Y<|aeW (e:=eQ) ⟨⟨false,[]⟩,⟨false,[]⟩⟩ (by exact⟨aq,aA,aq,aA,an⟩) h λa h=>aey Y<|dn<|aT<|sr<|aB Y<|aeE Y<|aew Y<|aI Y Y<|aN h λc h=>aB Y<|dn<|bq h λd b f=>?_;refine bp (λ(a:(List Qr))=>AS.bM 36 [(3,.ob 10)] [(10,TR 40 4 eQ a)]) (λa=>a=d) (aV<|br b (λb=>AS.bM 36 [(0,.sv (ref (pM D))),(3,.ob 10),(14,aoh 1 bh D.basic),(15,ai c),(16,ai b.1)] [(10,TR 40 4 eQ b.2)]) (wk []) (λb g d h m k=>?_)) (λa g=>?_)
 ·obtain⟨j,d⟩:=b
  try dsimp only
  refine sr<|aL h λb h=>dn<|aT<|?_;cases b
  ·refine cF h λh=>bt<|aR.x<|aR.x<|bn.x<|?_;obtain rfl:=aob h;exact aR.n ⟨d,k _ Y,wk []⟩
  refine cT h λh=>aX<|aR.n<|aT<|aV<|sr<|aB Y<|aQ Y h λb h=>aI Y Y<|aC Y<|aC Y<|dn<|sr<|aB Y<|aB Y<|aeE Y<|aew Y<|aI Y Y<|aL h λk h=>dn<|?_;refine bB h (λb=>AS.bM 36 [(0,.sv (ref (pM D))),(3,.ob 10),(14,aoh 1 bh D.basic),(15,ai c),(16,ai j)] [(10,TR 40 4 eQ b)]) (λh=>?_) (λc h=>?_)
  ·cases k
   ·exact cF h λh=>aX<|aR.n ⟨d,h,wk []⟩
   exact cT h λh=>aU<|aaw Y<|aB Y<|aB Y<|aB Y<|aE h (λ_=>oM) λb h=>aE h (λ_=>c9) λb h=>acr (p:=.r 10) Y (.r (.r Y)) h λd h=>afl (p:=.r 10) b Y (.r Y) h λb h=>aF<|aR.n ⟨b,h,wk []⟩
  refine bn.n<|aR.n<|aU<|aO h λb h=>aB Y<|aF<|?_;obtain rfl:=aob h;exact aR.n ⟨(b,c),m _ Y,wk []⟩
 subst g;exact aR.n<|sr<|aaw Y<|aey Y<|dn<|ow (bT (i:=10) (e:=eQ) (l:=a) Y)<|aY<|f1 f
theorem rU{x0:Dx}{r:Rs}(h:dU x0=some r):Pure ah 138 [ref (pM x0)] (.agg (Zy r)):=by
 refine aZ Tryz.func138 Y λE w vs hvs=>?_;unfold dU at h;refine sr<|aM (cs:=[.v (.int .u8 ((0:Nat):Int)),aoc 4 eQ [],aoc 1 (eS 4 eQ) [],aoc 4 eQ [],aoc 4 eQ [],ax 0]) (by exact⟨aq,aA,aA,aA,aA,aq,an⟩)<|dn<|sr<|aB Y<|aeE Y<|aew Y<|aI Y Y<|aN h λdh h=>aeW (e:=eQ) ⟨⟨false,[]⟩,⟨false,[]⟩⟩ (by exact⟨aq,aA,aq,aA,an⟩) h λdi h=>aey Y<|dn<|aT<|sd mixed<|aB Y<|aeE Y<|aew Y<|aI Y Y<|aB Y<|aeE Y<|aew Y<|aI Y Y<|aQ Y h λeY h=>aI Y Y<|aC Y<|dd<|sr<|aB Y<|aB Y<|aeE Y<|aew Y<|aI Y Y<|afy h λjy h=>dn<|?_;refine bB h (λj3=>AS.bM 83 [(0,.sv (ref (pM x0))),(2,.ptr 2 0),(3,.ob 12)] [(2,.box 166 [.sv (.v (.int .u8 ((0:Nat):Int))),aoh 4 eQ [],aoh 1 (eS 4 eQ) [],aoh 4 eQ [],aoh 4 eQ [],ai 0]),(12,TR 40 4 eQ j3)]) (λh=>?_) (λaip h=>?_)
 ·cases jy
  ·exact cF h λh=>aX<|aR.n ⟨di,h,wk []⟩
  exact cT h λh=>bz mixed<|aaw Y<|aB Y<|aB Y<|aeE Y<|aew Y<|aI Y Y<|aeK h λjz h=>aE h (λ_=>bQ) λiu h=>acr (p:=.r 12) Y (.r (.r Y)) h λlJ h=>afl (p:=.r 12) iu Y (.r Y) h λb h=>de<|aR.n ⟨b,h,wk []⟩
 refine aR.n<|aT<|sr<|aB Y<|aeE Y<|aew Y<|aI Y Y<|aN h λnJ h=>aB Y<|dn<|bq h λe13 ak1 ak2=>?_;refine bp (λ(b:(List Qr))=>AS.bM 83 [(0,.sv (ref (pM x0))),(2,.ptr 2 0),(3,.ob 12)] [(2,.box 166 [.sv (.v (.int .u8 ((0:Nat):Int))),aoh 4 eQ [],aoh 1 (eS 4 eQ) [],aoh 4 eQ [],aoh 4 eQ [],ai 0]),(12,TR 40 4 eQ b)]) (λb=>b=e13) (aV<|br ak1 (λs13=>AS.bM 83 [(0,.sv (ref (pM x0))),(2,.ptr 2 0),(3,.ob 12),(41,aoh 1 bh x0.free),(42,ai nJ),(43,ai s13.1)] [(2,.box 166 [.sv (.v (.int .u8 ((0:Nat):Int))),aoh 4 eQ [],aoh 1 (eS 4 eQ) [],aoh 4 eQ [],aoh 4 eQ [],ai 0]),(12,TR 40 4 eQ s13.2)]) (wk []) (λs13 y13 c h auF auG=>?_)) (λb auH=>?_)
 ·obtain⟨d,c⟩:=s13
  try dsimp only
  refine sr<|aL h λmE h=>dn<|aT<|?_;cases mE
  ·refine cF h λh=>bt<|aR.x<|aR.x<|bn.x<|?_;obtain rfl:=aob h;exact aR.n ⟨c,auG _ Y,wk []⟩
  refine cT h λh=>aX<|aR.n<|aT<|aV<|sr<|aB Y<|aQ Y h λlq h=>aI Y Y<|aC Y<|aC Y<|dn<|sr<|aB Y<|aB Y<|aeE Y<|aew Y<|aI Y Y<|afy h λf h=>dn<|?_;refine bB h (λRo=>AS.bM 83 [(0,.sv (ref (pM x0))),(2,.ptr 2 0),(3,.ob 12),(41,aoh 1 bh x0.free),(42,ai nJ),(43,ai d)] [(2,.box 166 [.sv (.v (.int .u8 ((0:Nat):Int))),aoh 4 eQ [],aoh 1 (eS 4 eQ) [],aoh 4 eQ [],aoh 4 eQ [],ai 0]),(12,TR 40 4 eQ Ro)]) (λh=>?_) (λVh h=>?_)
  ·cases f
   ·exact cF h λh=>aX<|aR.n ⟨c,h,wk []⟩
   exact cT h λh=>bz mixed<|aaw Y<|aB Y<|aB Y<|aeE Y<|aew Y<|aI Y Y<|aeK h λxg h=>aB Y<|aeE Y<|aew Y<|aI Y Y<|aB Y<|aeE Y<|aew Y<|aI Y Y<|aQ Y h λuU h=>aI Y Y<|aB Y<|aQ Y h λzK h=>aeC Y (.cons (.cons (.cons (.cons (.nil)))))<|aE h (λ_=>c9) λc h=>acr (p:=.r 12) Y (.r (.r Y)) h λd h=>afl (p:=.r 12) c Y (.r Y) h λc h=>de<|aR.n ⟨c,h,wk []⟩
  refine bn.n<|aR.n<|aU<|aO h λW0 h=>aB Y<|aF<|?_;obtain rfl:=aob h;exact aR.n ⟨(W0,Vh),auF _ Y,wk []⟩
 subst auH;exact aR.n<|aT<|ow (bT (i:=12) (e:=eQ) (l:=b) Y)<|aU<|aB Y<|aB Y<|aeE Y<|aew Y<|aI Y Y<|aez (cs':=[.v (.int .u8 ((2:Nat):Int)),aoc 4 eQ [],aoc 1 (eS 4 eQ) [],aoc 4 eQ [],aoc 4 eQ b,ax x0.cg]) (.one Y (.one Y (.one Y (.nil)))) (by exact⟨aq,aA,aA,aA,aq,aq,an⟩)<|aJ Y Y Y<|dn<|aY<|fP ak2 [.agg (Zy ⟨2,[],[],[],b,x0.cg⟩)] (by exact⟨.a Y Y (.cons Y (.cons Y (.k4 Y Y Y Y))) Y,an⟩)
theorem sK{D:Dx}{r:Rs}(h:iZ D=some r):Pure ah 140 [ref (pM D)] (.agg (Zy r)):=by
 refine aZ Tryz.func140 Y λE w vs b=>?_;unfold iZ at h;refine sr<|aM (cs:=[.v (.int .u8 ((0:Nat):Int)),aoc 4 eQ [],aoc 1 (eS 4 eQ) [],aoc 4 eQ [],aoc 4 eQ [],ax 0]) (by exact⟨aq,aA,aA,aA,aA,aq,an⟩)<|dn<|sd mixed<|aB Y<|aeE Y<|aew Y<|aI Y Y<|aB Y<|aeE Y<|aew Y<|aI Y Y<|aB Y<|aeE Y<|aew Y<|aI Y Y<|aQ Y h λb h=>aI Y Y<|aeF [(0,20)] h (λ_=>P8) λb h=>aey Y<|dd<|aT<|sr<|aB Y<|aeE Y<|aew Y<|aI Y Y<|aN h λg h=>aB Y<|dn<|bq h λf c d=>?_
 refine bp (λ(b:(List Qr))=>AS.bM 63 [(0,.sv (ref (pM D))),(2,.ptr 2 0),(3,.ob 20)] [(2,.box 166 [.sv (.v (.int .u8 ((0:Nat):Int))),aoh 4 eQ [],aoh 1 (eS 4 eQ) [],aoh 4 eQ [],aoh 4 eQ [],ai 0]),(20,TR 40 4 eQ b)]) (λb=>b=f) (aV<|br c (λc=>AS.bM 63 [(0,.sv (ref (pM D))),(2,.ptr 2 0),(3,.ob 20),(24,aoh 1 bh D.basic),(25,ai g),(26,ai c.1)] [(2,.box 166 [.sv (.v (.int .u8 ((0:Nat):Int))),aoh 4 eQ [],aoh 1 (eS 4 eQ) [],aoh 4 eQ [],aoh 4 eQ [],ai 0]),(20,TR 40 4 eQ c.2)]) (wk []) (λc j f h o k=>?_)) (λb j=>?_)
 ·obtain⟨m,f⟩:=c
  try dsimp only
  refine sr<|aL h λc h=>dn<|aT<|?_;cases c
  ·refine cF h λh=>bt<|aR.x<|aR.x<|bn.x<|?_;obtain rfl:=aob h;exact aR.n ⟨f,k _ Y,wk []⟩
  refine cT h λh=>aX<|aR.n<|aT<|aV<|sr<|aB Y<|aQ Y h λc h=>aI Y Y<|aC Y<|aC Y<|dn<|sr<|aB Y<|aB Y<|aeE Y<|aew Y<|aI Y Y<|aL h λc h=>dn<|?_;refine bB h (λk=>AS.bM 63 [(0,.sv (ref (pM D))),(2,.ptr 2 0),(3,.ob 20),(24,aoh 1 bh D.basic),(25,ai g),(26,ai m)] [(2,.box 166 [.sv (.v (.int .u8 ((0:Nat):Int))),aoh 4 eQ [],aoh 1 (eS 4 eQ) [],aoh 4 eQ [],aoh 4 eQ [],ai 0]),(20,TR 40 4 eQ k)]) (λh=>?_) (λg h=>?_)
  ·cases c
   ·exact cF h λh=>aX<|aR.n ⟨f,h,wk []⟩
   exact cT h λh=>bz mixed<|aaw Y<|aB Y<|aB Y<|aeE Y<|aew Y<|aI Y Y<|aB Y<|aQ Y h λc h=>aI Y Y<|aB Y<|aeE Y<|aew Y<|aI Y Y<|aQ Y h λc h=>aeC Y (.cons (.cons (.cons (.cons (.nil)))))<|aE h (λ_=>mw) λc h=>acr (p:=.r 20) Y (.r (.r Y)) h λf h=>afl (p:=.r 20) c Y (.r Y) h λc h=>de<|aR.n ⟨c,h,wk []⟩
  refine bn.n<|aR.n<|aU<|aO h λc h=>aB Y<|aF<|?_;obtain rfl:=aob h;exact aR.n ⟨(c,g),o _ Y,wk []⟩
 subst j;exact aR.n<|aT<|ow (bT (i:=20) (e:=eQ) (l:=b) Y)<|bz mixed<|aB Y<|aE d (λ_=>nZ) λc d=>aB Y<|aB Y<|aeE Y<|aew Y<|aI Y Y<|aez (cs':=[.v (.int .u8 ((3:Nat):Int)),aoc 4 eQ c,aoc 1 (eS 4 eQ) [],aoc 4 eQ b,aoc 4 eQ [],ax D.cg]) (.one Y (.one Y (.one Y (.one Y (.nil))))) (by exact⟨aq,aq,aA,aq,aA,aq,an⟩)<|aJ Y Y Y<|dd<|aY<|fP d [.agg (Zy ⟨3,c,[],b,[],D.cg⟩)] (by exact⟨.a Y Y (.cons Y (.cons Y (.k4 Y Y Y Y))) Y,an⟩)
theorem uj{x0:Dx}{x1:Int}{r:Int}(h:eL x0 x1=some r):Pure ah 196 [ref (pM x0),ax x1] (ax r):=by
 refine aZ Tryz.func196 Y λE w vs hvs=>?_;unfold eL at h;refine sr<|aC Y<|dn<|sr<|aC Y<|dn<|sr<|aM (cs:=[ay false,au,ay false,au]) (by exact⟨aq,aA,aq,aA,an⟩)<|dn<|aT<|sr<|aB Y<|aeE Y<|aew Y<|aI Y Y<|aN h λdS h=>aB Y<|dn<|bq h λe16 abo Yv=>?_;refine bp (λ(a:Int)=>AS.bM 71 [(5,ai a)] []) (λa=>a=e16) (aV<|br abo (λb=>AS.bM 71 [(0,.sv (ref (pM x0))),(1,ai x1),(5,ai b.1),(6,.ptr 6 0),(15,aoh 1 (eS 4 eQ) x0.rows),(16,ai dS),(17,ai b.2.1)] [(6,.box 40 [aj b.2.2.num.neg,aoh 1 bf b.2.2.num.w,aj b.2.2.den.neg,aoh 1 bf b.2.2.den.w])]) (wk []) (λb y16 c h d Yw=>?_)) (λa abp=>?_)
 ·obtain⟨c,xK,a⟩:=b
  try dsimp only
  refine sr<|aL h λcO h=>dn<|aT<|?_;cases cO
  ·refine cF h λh=>bt<|aR.x<|aR.x<|bn.x<|?_;obtain rfl:=aob h;exact aR.n ⟨c,Yw _ Y,wk []⟩
  refine cT h λh=>aX<|aR.n<|aT<|aV<|sr<|aB Y<|aQ Y h λdG h=>aI Y Y<|aC Y<|aC Y<|dn<|aT<|sr<|aB Y<|aB Y<|aQ Y h λgE h=>aeC Y (.cons (.cons (.cons (.cons (.nil)))))<|aE h (λ_=>cS) λdN h=>agS h λgJ h=>dn<|?_;cases gJ
  ·refine cF h λh=>aX<|aR.n<|sd mixed<|aB Y<|aB Y<|aE h (λ_=>oM) λkg h=>aB Y<|aB Y<|aQ Y h λgD h=>aeC Y (.cons (.cons (.cons (.cons (.nil)))))<|aE h (λ_=>uf) λ⟨wh,b⟩ h=>aB Y<|aP Y Y<|aP Y Y<|aM (cs:=[ay false,au,ay false,au]) (by exact⟨aq,aA,aq,aA,an⟩)<|aJ Y Y Y<|aC Y<|dd<|sr<|aC Y<|dn<|aT<|sr<|aB Y<|afy h λiN h=>dn<|?_;refine bB h (λj18=>AS.bM 71 [(0,.sv (ref (pM x0))),(1,ai x1),(5,ai c),(6,.ptr 6 0),(7,ai xK),(9,.ptr 9 0),(11,ai j18),(15,aoh 1 (eS 4 eQ) x0.rows),(16,ai dS),(17,ai xK)] [(9,.box 40 [aj wh.num.neg,aoh 1 bf wh.num.w,aj wh.den.neg,aoh 1 bf wh.den.w]),(6,.box 40 [aj a.num.neg,aoh 1 bf a.num.w,aj a.den.neg,aoh 1 bf a.den.w])]) (λh=>?_) (λb h=>?_)
   ·cases iN
    ·exact cF h λh=>aX<|aR.n ⟨(-1),h,wk []⟩
    exact cT h λh=>aU<|aK Y Y (.k4 Y Y Y Y)<|aK Y Y (.k4 Y Y Y Y)<|aE h (λ_=>kW) λlI h=>aC Y<|aF<|aR.n ⟨lI,h,wk []⟩
   refine aR.n<|aT<|?_;refine bB h (λj22=>AS.bM 71 [(0,.sv (ref (pM x0))),(1,ai x1),(5,ai c),(6,.ptr 6 0),(7,ai xK),(9,.ptr 9 0),(15,aoh 1 (eS 4 eQ) x0.rows),(16,ai dS),(17,ai xK),(66,aj j22)] [(9,.box 40 [aj wh.num.neg,aoh 1 bf wh.num.w,aj wh.den.neg,aoh 1 bf wh.den.w]),(6,.box 40 [aj a.num.neg,aoh 1 bf a.num.w,aj a.den.neg,aoh 1 bf a.den.w])]) (λh=>?_) (λe h=>?_)
   ·refine bz mixed<|aB Y<|aL h λoW h=>aB Y<|bq h λab7 wz h=>?_;cases oW
    ·replace wz:=ct wz;refine aB Y<|aeH wz λmu wz=>aB Y<|bq wz λab6 pY wz=>?_;cases mu
     ·replace pY:=ct pY;obtain rfl:=aob pY;refine aD<|aD<|aD<|aD<|aD<|aD<|aD<|aD<|aD<|aD<|aD<|aD<|aD<|aD<|aD<|abE Y<|?_;cases wz;exact abE Y<|de<|aR.n ⟨false,h,wk []⟩
     replace pY:=cn pY;refine aB Y<|aeE Y<|aew Y<|aI Y Y<|aB Y<|aQ Y pY λtc pY=>aI Y Y<|aB Y<|aeE Y<|aew Y<|aI Y Y<|aB Y<|aQ Y pY λb pY=>aI Y Y<|aL pY λw9 pY=>?_;obtain rfl:=aob pY;refine aax Y<|?_;obtain rfl:=aob wz;exact abE Y<|de<|aR.n ⟨w9,h,wk []⟩
    replace wz:=cn wz;cases wz;exact aD<|aD<|aD<|ada<|ada<|ada<|ada<|ada<|ada<|ada<|ada<|ada<|ada<|ada<|ada<|ada<|ada<|ada<|aD<|aax Y<|de<|aR.n ⟨true,h,wk []⟩
   refine aR.n<|?_;refine bB h (λb=>AS.bM 71 [(0,.sv (ref (pM x0))),(1,ai x1),(5,ai b.1),(6,.ptr 6 0),(15,aoh 1 (eS 4 eQ) x0.rows),(16,ai dS),(17,ai xK)] [(6,.box 40 [aj b.2.num.neg,aoh 1 bf b.2.num.w,aj b.2.den.neg,aoh 1 bf b.2.den.w])]) (λh=>?_) (λb h=>?_)
   ·cases e
    ·exact cF h λh=>aX<|aR.n ⟨(c,a),h,wk []⟩
    exact cT h λh=>bz mixed<|aB Y<|aK Y Y (.k4 Y Y Y Y)<|aC Y<|aJ Y Y Y<|de<|aR.n ⟨(xK,wh),h,wk []⟩
   obtain⟨ab4,ab5⟩:=b
   try dsimp only
   refine bn.n<|aR.n<|aU<|aO h λuU h=>aB Y<|aF<|?_;obtain rfl:=aob h;exact aR.n ⟨(ab4,uU,ab5),d _ Y,wk []⟩
  refine cT h λh=>bt<|aR.x<|bn.x<|aR.n<|aU<|aO h λuU h=>aB Y<|aF<|?_;obtain rfl:=aob h;exact aR.n ⟨(c,uU,a),d _ Y,wk []⟩
 subst abp;exact aR.n<|sr<|aB Y<|aC Y<|dn<|aY<|f1 Yv
end
section
open Go.Fw Go.RowKit
noncomputable def vr(D:Lr):Option (Sz):=match D with|⟨d,b,a,c⟩=>(some (b.length:Int)).bind λb=>(some (a.length:Int)).bind λa=>(some (c.length:Int)).bind λc=>some ⟨d,b,a,c⟩
noncomputable def tf(D:Lr):Option (Bool):=match D with|⟨b,c,e,a⟩=>(vr ⟨b,c,e,a⟩).bind λ⟨a,d,f,g⟩=>bU (λ(b:Bool)=>(bif b then some false else bU (λ(b:Bool)=>(bif b then some false else bU (λ(b:Bool)=>some b) λh=>(jJ c).bind λb=>(some (decide ((b:Int)<=a))).bind λb=>(bif b then(jJ e).bind λb=>(some (decide ((b:Int)<=a))).bind λb=>some b else some false).bind λb=>h b)) λc=>(some (decide ((128:Int)<f))).bind λb=>(bif b then some true else(some (decide ((g:Int)≠f))).bind λb=>some b).bind λb=>c b)) λb=>(some (decide ((a:Int)<0))).bind λc=>(bif c then some true else(some (decide ((64:Int)<a))).bind λa=>some a).bind λa=>(bif a then some true else(some (decide ((d:Int)<1))).bind λa=>some a).bind λa=>(bif a then some true else(some (decide ((4:Int)<d))).bind λa=>some a).bind λa=>b a
noncomputable def yg(D:Lr)(H:List Qr):Option (List Qr):=match D with|⟨d,a,b,c⟩=>(o6 a H).bind λa=>some a
end
section
open Go.Fw Go.RowKit
theorem Nu{D:Lr}{r:Sz}(h:vr D=some r):Pure ah 141 [.agg (TY D)] (.agg (eSz r)):=by
 obtain⟨c,d,b,e⟩:=D;refine aZ Tryz.func141 Y λE w vs b=>?_;unfold vr at h;exact sr<|acj Y<|aM (cs:=[ax 0,ax 0,ax 0,ax 0]) (by exact⟨aq,aq,aq,aq,an⟩)<|dn<|sr<|aG Y Y<|aH Y Y Y<|aG Y Y<|aH Y Y Y<|aN h λb h=>aG Y Y<|aH Y Y Y<|aN h λd h=>aG Y Y<|aH Y Y Y<|aN h λe h=>aez (cs':=[ax c,ax b,ax d,ax e]) (.one Y (.one Y (.one Y (.one Y (.nil))))) (by exact⟨aq,aq,aq,aq,an⟩)<|aJ Y Y Y<|dn<|aY<|fP h [.agg (eSz ⟨c,b,d,e⟩)] (by exact⟨.a Y Y (.k4 Y Y Y Y) Y,an⟩)
theorem IS{D:Lr}{r:Bool}(h:tf D=some r):Pure ah 80 [.agg (TY D)] (ay r):=by
 obtain⟨j,e,k,f⟩:=D;refine aZ Tryz.func80 Y λE w vs a=>?_;unfold tf at h;refine sr<|acj Y<|aC Y<|dn<|sr<|aK Y Y (.k4 Y Y Y Y)<|aE h (λ_=>Nu) λ⟨l,i,m,g⟩ h=>aM (cs:=[ax 0,ax 0,ax 0,ax 0]) (by exact⟨aq,aq,aq,aq,an⟩)<|aJ Y Y Y<|dn<|aT<|aT<|?_;refine bB h (λa=>AS.bM 48 [(1,.ptr 1 0),(3,.ptr 3 0),(23,aj a)] [(3,.box 228 [ai l,ai i,ai m,ai g]),(1,.box 95 [ai j,aoh 1 (eS 4 eQ) e,aoh 1 (eS 4 eQ) k,aoh 4 eQ f])]) (λh=>?_) (λd h=>?_)
 ·refine aU<|aG Y Y<|aH Y Y Y<|aL h λa h=>aB Y<|bq h λc b h=>?_;cases a
  ·replace b:=ct b;refine aG Y Y<|aH Y Y Y<|aeG b λc b=>?_;obtain rfl:=aob b;refine abE Y<|aB Y<|bq h λo a h=>?_;cases c
   ·replace a:=ct a;refine aG Y Y<|aH Y Y Y<|aL a λo a=>?_;obtain rfl:=aob a;refine abE Y<|aB Y<|bq h λp c h=>?_;cases o
    ·replace c:=ct c;refine aG Y Y<|aH Y Y Y<|aeG c λo c=>?_;obtain rfl:=aob c;exact abE Y<|aF<|aR.n ⟨o,h,wk []⟩
    replace c:=cn c;cases c;exact aD<|aD<|aD<|aax Y<|aF<|aR.n ⟨true,h,wk []⟩
   replace a:=cn a;obtain rfl:=aob a;refine aD<|aD<|aD<|aax Y<|aB Y<|bq h λc a h=>?_;replace a:=cn a;cases a;exact aD<|aD<|aD<|aax Y<|aF<|aR.n ⟨true,h,wk []⟩
  replace b:=cn b;obtain rfl:=aob b;refine aD<|aD<|aD<|aax Y<|aB Y<|bq h λb a h=>?_;replace a:=cn a;obtain rfl:=aob a;refine aD<|aD<|aD<|aax Y<|aB Y<|bq h λb a h=>?_;replace a:=cn a;cases a;exact aD<|aD<|aD<|aax Y<|aF<|aR.n ⟨true,h,wk []⟩
 refine aR.n<|?_;cases d
 ·refine cF h λh=>aX<|aR.n<|aT<|aT<|?_;refine bB h (λa=>AS.bM 48 [(1,.ptr 1 0),(3,.ptr 3 0),(33,aj a)] [(3,.box 228 [ai l,ai i,ai m,ai g]),(1,.box 95 [ai j,aoh 1 (eS 4 eQ) e,aoh 1 (eS 4 eQ) k,aoh 4 eQ f])]) (λh=>?_) (λc h=>?_)
  ·refine aU<|aG Y Y<|aH Y Y Y<|aeG h λb h=>aB Y<|bq h λd a h=>?_;cases b
   ·replace a:=ct a;refine aG Y Y<|aH Y Y Y<|aG Y Y<|aH Y Y Y<|aeA a λb a=>?_;obtain rfl:=aob a;exact abE Y<|aF<|aR.n ⟨b,h,wk []⟩
   replace a:=cn a;cases a;exact aD<|aD<|aD<|aD<|aD<|aax Y<|aF<|aR.n ⟨true,h,wk []⟩
  refine aR.n<|?_;cases c
  ·refine cF h λh=>aX<|aR.n<|aT<|?_;refine bB h (λa=>AS.bM 48 [(2,aj a)] []) (λh=>?_) (λa h=>?_)
   ·refine bz mixed<|aG Y Y<|aH Y Y Y<|aE h (λ_=>uh) λa h=>aG Y Y<|aH Y Y Y<|agS h λc h=>aB Y<|bq h λb a h=>?_;cases c
    ·replace a:=ct a;cases a;exact aD<|aD<|aD<|aD<|aD<|aD<|abE Y<|aC Y<|de<|aR.n ⟨false,h,wk []⟩
    replace a:=cn a;refine aG Y Y<|aH Y Y Y<|aE a (λ_=>uh) λb a=>aG Y Y<|aH Y Y Y<|agS a λb a=>?_;obtain rfl:=aob a;exact aax Y<|aC Y<|de<|aR.n ⟨b,h,wk []⟩
   exact aR.n<|aY<|f1 h
  exact cT h λh=>sr<|aC Y<|dn<|aY<|aR.r<|f1 h
 exact cT h λh=>sr<|aC Y<|dn<|aY<|aR.r<|f1 h
theorem LH{D:Lr}{H:List Qr}{r:List Qr}(h:yg D H=some r):Pure ah 79 [.agg (TY D),aoc 4 eQ H] (aoc 4 eQ r):=by
 obtain⟨d,b,a,c⟩:=D;refine aZ Tryz.func79 Y λE w vs a=>?_;unfold yg at h;exact sr<|acj Y<|aeD (aA (n:=4) (e:=eQ))<|dn<|sr<|aG Y Y<|aH Y Y Y<|aB Y<|aE h (λ_=>DR) λa h=>aC Y<|dn<|aY<|f1 h
end
section
open Go.Fw Go.RowKit
noncomputable def gV(D:Lr):Option (Dx):=(bH (λ(a:Int×Dx)=>match a with|⟨b,a⟩=>(show Option ((Int×Dx)⊕(Dx))from(some (decide ((b:Int)<D.vars))).bind λc=>(bif c then(uE 8 a.free [b]).bind λc=>(some (IntKind.i64.wrap (b+1))).bind λb=>some (.inl (b,⟨a.vars,a.basic,c,a.rows,a.bS,a.cg,a.row,a.col⟩))else some (.inr a)))) (0,⟨D.vars,[],[],[],[],0,(-1),(-1)⟩)).bind λh=>(some (D.rows.length:Int)).bind λc=>(bH (λ(a:Int×Dx)=>match a with|⟨b,a⟩=>(show Option ((Int×Dx)⊕(Dx))from(some (decide ((b:Int)<c))).bind λc=>(bif c then(some (IntKind.i64.wrap (D.vars+1))).bind λc=>(uF 64 c (⟨⟨false,[]⟩,⟨false,[]⟩⟩:Qr)).bind λf=>(bH (λ(c:Int×(List Qr))=>match c with|⟨c,e⟩=>(show Option ((Int×(List Qr))⊕((List Qr)))from(some (decide ((c:Int)<D.vars))).bind λd=>(bif d then(kD D.rows b c).bind λg=>(fG e c).bind λd=>(stM e d g).bind λd=>(some (IntKind.i64.wrap (c+1))).bind λc=>some (.inl (c,d))else some (.inr e)))) (0,f)).bind λc=>(bV D.bounds b).bind λd=>(cA d).bind λe=>(fG c D.vars).bind λd=>(stM c d e).bind λc=>(uE 24 a.rows [c]).bind λd=>(some (IntKind.i64.wrap (D.vars+b))).bind λc=>(uE 8 a.basic [c]).bind λc=>(some (IntKind.i64.wrap (b+1))).bind λb=>some (.inl (b,⟨a.vars,c,a.free,d,a.bS,a.cg,a.row,a.col⟩))else some (.inr a)))) (0,h)).bind λg=>(some (D.ik.length:Int)).bind λb=>(bH (λ(a:Int×Dx)=>match a with|⟨e,a⟩=>(show Option ((Int×Dx)⊕(Dx))from(some (decide ((e:Int)<b))).bind λb=>(bif b then(some (IntKind.i64.wrap (D.vars+1))).bind λb=>(uF 64 b (⟨⟨false,[]⟩,⟨false,[]⟩⟩:Qr)).bind λd=>(bH (λ(b:Int×(List Qr))=>match b with|⟨b,c⟩=>(show Option ((Int×(List Qr))⊕((List Qr)))from(some (decide ((b:Int)<D.vars))).bind λf=>(bif f then(kD D.ik e b).bind λf=>(iw f).bind λf=>(fG c b).bind λh=>(stM c h f).bind λf=>(some (IntKind.i64.wrap (b+1))).bind λb=>some (.inl (b,f))else some (.inr c)))) (0,d)).bind λb=>(uE 24 a.bS [b]).bind λb=>(some (IntKind.i64.wrap (e+1))).bind λc=>some (.inl (c,⟨a.vars,a.basic,a.free,a.rows,b,a.cg,a.row,a.col⟩))else some (.inr a)))) (0,g)).bind λa=>some a
noncomputable def eW(D:List Qr)(H:List Qr)(I:Int):Option (List Qr):=(fG D I).bind λa=>(D[a]?).bind λc=>(cv c).bind λa=>(some (decide ((a:Int)=0))).bind λa=>(bif a then some D else(fG D I).bind λa=>(stM D a ⟨⟨false,[]⟩,⟨false,[]⟩⟩).bind λg=>(some (H.length:Int)).bind λd=>(bH (λ(a:Int×(List Qr))=>match a with|⟨b,a⟩=>(show Option ((Int×(List Qr))⊕((List Qr)))from(some (decide ((b:Int)<d))).bind λd=>(bif d then(fG H b).bind λd=>(H[d]?).bind λe=>(cv e).bind λd=>(some (decide ((d:Int)≠0))).bind λh=>bU (λ(f:(List Qr))=>(some (IntKind.i64.wrap (b+1))).bind λd=>some (.inl (d,f))) λd=>(bif h then(fG a b).bind λf=>(a[f]?).bind λf=>(ei c e).bind λc=>(fj f c).bind λc=>(fG a b).bind λb=>(stM a b c).bind λb=>d b else d a)else some (.inr a)))) (0,g)).bind λa=>some a)
noncomputable def mY(D:Dx)(H:Int):Option (Qr):=(fG D.rows H).bind λa=>(D.rows[a]?).bind λ_=>(Ds D.rows a D.vars).bind λb=>(M6 D.rows a b).bind λa=>some a
noncomputable def fJ(D:Dx)(I:Int)(H:Int):Option (Dx):=(fG D.rows I).bind λa=>(D.rows[a]?).bind λ_=>(bK 1).bind λb=>(Ds D.rows a H).bind λc=>(M6 D.rows a c).bind λc=>(kz b c).bind λ⟨h,b⟩=>(bK 1).bind λc=>(Ds D.rows a H).bind λb=>(Rk D.rows a b c).bind λd=>(lnn d a).bind λe=>(bH (λ(b:Int×Dx)=>match b with|⟨c,b⟩=>(show Option ((Int×Dx)⊕(Dx))from(some (decide ((c:Int)<e))).bind λe=>(bif e then(Ds b.rows a c).bind λe=>(M6 b.rows a e).bind λe=>(cv e).bind λf=>(some (decide ((f:Int)≠0))).bind λg=>bU (λ(i:Dx)=>(some (IntKind.i64.wrap (c+1))).bind λf=>some (.inl (f,i))) λf=>(bif g then(ei h e).bind λe=>(Ds b.rows a c).bind λc=>(Rk b.rows a c e).bind λc=>f ⟨b.vars,b.basic,b.free,c,b.bS,b.cg,b.row,b.col⟩else f b)else some (.inr b)))) (0,⟨D.vars,D.basic,D.free,d,D.bS,D.cg,D.row,D.col⟩)).bind λg=>(some (g.rows.length:Int)).bind λd=>(bH (λ(b:Int×Dx)=>match b with|⟨c,b⟩=>(show Option ((Int×Dx)⊕(Dx))from(some (decide ((c:Int)<d))).bind λd=>(bif d then(fG b.rows c).bind λd=>(b.rows[d]?).bind λ_=>(some (decide ((c:Int)≠I))).bind λe=>bU (λ(f:Dx)=>(some (IntKind.i64.wrap (c+1))).bind λc=>some (.inl (c,f))) λc=>(bif e then(ll2 b.rows d a).bind λ⟨e,f⟩=>(eW e f H).bind λe=>c ⟨b.vars,b.basic,b.free,(List.set (List.set b.rows a f) d e),b.bS,b.cg,b.row,b.col⟩else c b)else some (.inr b)))) (0,g)).bind λg=>(some (g.bS.length:Int)).bind λc=>(bH (λ(b:Int×Dx)=>match b with|⟨d,b⟩=>(show Option ((Int×Dx)⊕(Dx))from(some (decide ((d:Int)<c))).bind λc=>(bif c then(fG b.bS d).bind λe=>(b.bS[e]?).bind λ_=>(b.bS[e]?).bind λc=>(b.rows[a]?).bind λf=>(eW c f H).bind λc=>(some (IntKind.i64.wrap (d+1))).bind λd=>some (.inl (d,⟨b.vars,b.basic,b.free,(List.set b.rows a f),(List.set b.bS e c),b.cg,b.row,b.col⟩))else some (.inr b)))) (0,g)).bind λa=>(fG a.free H).bind λb=>(a.free[b]?).bind λb=>(fG a.basic I).bind λc=>(a.basic[c]?).bind λd=>(fG a.basic I).bind λc=>(stM a.basic c b).bind λc=>(fG a.free H).bind λb=>(stM a.free b d).bind λb=>(some (IntKind.i64.wrap (a.cg+1))).bind λd=>some ⟨a.vars,c,b,a.rows,a.bS,d,a.row,a.col⟩
noncomputable def eM(D:Dx):Option (Bool×Dx):=(bH (λ(a:Dx)=>(show Option ((Dx)⊕((Unit)⊕(Bool×Dx)))from(some (a.rows.length:Int)).bind λe=>(bH (λ(b:Int×Int)=>match b with|⟨d,c⟩=>(show Option ((Int×Int)⊕(Int))from(some (decide ((c:Int)<e))).bind λb=>(bif b then bU (λ(e:Bool)=>bU (λ(b:Int)=>(some (IntKind.i64.wrap (c+1))).bind λf=>some (.inl (b,f))) λb=>(bif e then b c else b d)) λe=>(mY a c).bind λb=>(cv b).bind λb=>(some (decide ((b:Int)<0))).bind λb=>(bif b then(some (decide ((d:Int)<0))).bind λb=>(bif b then some true else(fG a.basic c).bind λb=>(a.basic[b]?).bind λb=>(fG a.basic d).bind λc=>(a.basic[c]?).bind λc=>(some (decide ((b:Int)<c))).bind λb=>some b).bind λb=>some b else some false).bind λb=>e b else some (.inr d)))) ((-1),0)).bind λe=>(some (decide ((e:Int)<0))).bind λb=>(bif b then some (.inr (.inr (true,a)))else(some (a.free.length:Int)).bind λf=>(bH (λ(b:Int×Int)=>match b with|⟨d,c⟩=>(show Option ((Int×Int)⊕(Int))from(some (decide ((c:Int)<f))).bind λb=>(bif b then(fG a.free c).bind λb=>(a.free[b]?).bind λg=>bU (λ(h:Bool)=>bU (λ(f:Int)=>(some (IntKind.i64.wrap (c+1))).bind λb=>some (.inl (f,b))) λb=>(bif h then b c else b d)) λb=>(fG a.rows e).bind λf=>(a.rows[f]?).bind λ_=>(Ds a.rows f c).bind λc=>(M6 a.rows f c).bind λc=>(cv c).bind λc=>(some (decide ((c:Int)<0))).bind λc=>(bif c then(some (decide ((d:Int)<0))).bind λc=>(bif c then some true else(fG a.free d).bind λc=>(a.free[c]?).bind λc=>(some (decide ((g:Int)<c))).bind λc=>some c).bind λc=>some c else some false).bind λc=>b c else some (.inr d)))) ((-1),0)).bind λb=>(some (decide ((b:Int)<0))).bind λc=>(bif c then some (.inr (.inr (false,⟨a.vars,a.basic,a.free,a.rows,a.bS,a.cg,e,a.col⟩)))else(fJ a e b).bind λa=>some (.inl a))))) D).bind λa=>match a with|.inr v59=>some v59|.inl _=>none
noncomputable def iR(D:Lr):Option (Dp):=(bH (λ(a:Int×Dp)=>match a with|⟨b,a⟩=>(show Option ((Int×Dp)⊕(Dp))from(some (decide ((b:Int)<D.vars))).bind λc=>(bif c then(uE 8 a.free [b]).bind λd=>(kD D.ik 0 b).bind λc=>(iw c).bind λc=>(uE 64 a.bS [c]).bind λc=>(some (IntKind.i64.wrap (b+1))).bind λb=>some (.inl (b,⟨a.vars,a.basic,d,a.rows,c⟩))else some (.inr a)))) (0,⟨D.vars,[],[],[],[]⟩)).bind λc=>(uE 64 c.bS [⟨⟨false,[]⟩,⟨false,[]⟩⟩]).bind λg=>(some (D.rows.length:Int)).bind λd=>(bH (λ(a:Int×Dp)=>match a with|⟨b,a⟩=>(show Option ((Int×Dp)⊕(Dp))from(some (decide ((b:Int)<d))).bind λd=>(bif d then(bH (λ(d:Int×(List Qr))=>match d with|⟨d,e⟩=>(show Option ((Int×(List Qr))⊕((List Qr)))from(some (decide ((d:Int)<D.vars))).bind λf=>(bif f then(kD D.rows b d).bind λf=>(uE 64 e [f]).bind λf=>(some (IntKind.i64.wrap (d+1))).bind λd=>some (.inl (d,f))else some (.inr e)))) (0,[])).bind λe=>(bV D.bounds b).bind λd=>(cA d).bind λd=>(uE 64 e [d]).bind λd=>(uE 24 a.rows [d]).bind λe=>(some (IntKind.i64.wrap (D.vars+b))).bind λd=>(uE 8 a.basic [d]).bind λd=>(some (IntKind.i64.wrap (b+1))).bind λb=>some (.inl (b,⟨a.vars,d,a.free,e,a.bS⟩))else some (.inr a)))) (0,⟨c.vars,c.basic,c.free,c.rows,g⟩)).bind λa=>some a
noncomputable def n5(D:List Qr)(H:List Qr)(I:Int):Option (List Qr):=(fG D I).bind λa=>(D[a]?).bind λc=>(cv c).bind λa=>(some (decide ((a:Int)=0))).bind λa=>(bif a then some D else(fG D I).bind λa=>(stM D a ⟨⟨false,[]⟩,⟨false,[]⟩⟩).bind λg=>(some (H.length:Int)).bind λd=>(bH (λ(a:Int×(List Qr))=>match a with|⟨b,a⟩=>(show Option ((Int×(List Qr))⊕((List Qr)))from(some (decide ((b:Int)<d))).bind λd=>(bif d then(fG H b).bind λd=>(H[d]?).bind λe=>(cv e).bind λd=>(some (decide ((d:Int)≠0))).bind λh=>bU (λ(f:(List Qr))=>(some (IntKind.i64.wrap (b+1))).bind λd=>some (.inl (d,f))) λd=>(bif h then(fG a b).bind λf=>(a[f]?).bind λf=>(ei c e).bind λc=>(fj f c).bind λc=>(fG a b).bind λb=>(stM a b c).bind λb=>d b else d a)else some (.inr a)))) (0,g)).bind λa=>some a)
noncomputable def mZ(D:Dp):Option (List Int):=(some (D.rows.length:Int)).bind λa=>(uF 8 a (0:Int)).bind λc=>(some (c.length:Int)).bind λd=>(bH (λ(a:Int×(List Int))=>match a with|⟨a,b⟩=>(show Option ((Int×(List Int))⊕((List Int)))from(some (decide ((a:Int)<d))).bind λd=>(bif d then(fG b a).bind λd=>(stM b d (-1)).bind λd=>(some (IntKind.i64.wrap (a+1))).bind λa=>some (.inl (a,d))else some (.inr b)))) (0,c)).bind λf=>(some (D.free.length:Int)).bind λd=>(bH (λ(a:Int×(List Int))=>match a with|⟨b,c⟩=>(show Option ((Int×(List Int))⊕((List Int)))from(some (decide ((b:Int)<d))).bind λa=>(bif a then(fG D.free b).bind λa=>(D.free[a]?).bind λd=>(some (decide ((D.vars:Int)<=d))).bind λe=>bU (λ(a:(List Int))=>(some (IntKind.i64.wrap (b+1))).bind λg=>some (.inl (g,a))) λa=>(bif e then(some (IntKind.i64.wrap (d-D.vars))).bind λd=>(fG c d).bind λd=>(stM c d b).bind λb=>a b else a c)else some (.inr c)))) (0,f)).bind λa=>some a
noncomputable def gA(D:Dp)(I:Int)(H:Int):Option (Dp):=(fG D.rows I).bind λa=>(D.rows[a]?).bind λ_=>(bK 1).bind λc=>(Ds D.rows a H).bind λb=>(M6 D.rows a b).bind λb=>(kz c b).bind λ⟨g,b⟩=>(bK 1).bind λb=>(Ds D.rows a H).bind λc=>(Rk D.rows a c b).bind λe=>(lnn e a).bind λd=>(bH (λ(b:Int×Dp)=>match b with|⟨c,b⟩=>(show Option ((Int×Dp)⊕(Dp))from(some (decide ((c:Int)<d))).bind λd=>(bif d then(Ds b.rows a c).bind λd=>(M6 b.rows a d).bind λd=>(cv d).bind λf=>(some (decide ((f:Int)≠0))).bind λh=>bU (λ(i:Dp)=>(some (IntKind.i64.wrap (c+1))).bind λf=>some (.inl (f,i))) λf=>(bif h then(ei g d).bind λd=>(Ds b.rows a c).bind λc=>(Rk b.rows a c d).bind λc=>f ⟨b.vars,b.basic,b.free,c,b.bS⟩else f b)else some (.inr b)))) (0,⟨D.vars,D.basic,D.free,e,D.bS⟩)).bind λg=>(some (g.rows.length:Int)).bind λd=>(bH (λ(b:Int×Dp)=>match b with|⟨c,b⟩=>(show Option ((Int×Dp)⊕(Dp))from(some (decide ((c:Int)<d))).bind λd=>(bif d then(fG b.rows c).bind λd=>(b.rows[d]?).bind λ_=>(some (decide ((c:Int)≠I))).bind λe=>bU (λ(f:Dp)=>(some (IntKind.i64.wrap (c+1))).bind λc=>some (.inl (c,f))) λc=>(bif e then(ll2 b.rows d a).bind λ⟨e,f⟩=>(n5 e f H).bind λe=>c ⟨b.vars,b.basic,b.free,(List.set (List.set b.rows a f) d e),b.bS⟩else c b)else some (.inr b)))) (0,g)).bind λb=>(b.rows[a]?).bind λe=>(n5 b.bS e H).bind λc=>(fG b.free H).bind λd=>(b.free[d]?).bind λf=>(fG b.basic I).bind λd=>(b.basic[d]?).bind λd=>(fG b.basic I).bind λg=>(stM b.basic g f).bind λf=>(fG b.free H).bind λg=>(stM b.free g d).bind λd=>some ⟨b.vars,f,d,(List.set b.rows a e),c⟩
noncomputable def fL(D:Dp):Option (Bool×Dp):=(bH (λ(a:Dp)=>(show Option ((Dp)⊕((Unit)⊕(Bool×Dp)))from(mZ a).bind λf=>(some (a.rows.length:Int)).bind λe=>(bH (λ(b:Int×Int)=>match b with|⟨d,c⟩=>(show Option ((Int×Int)⊕(Int))from(some (decide ((c:Int)<e))).bind λb=>(bif b then bU (λ(g:Bool)=>bU (λ(b:Int)=>(some (IntKind.i64.wrap (c+1))).bind λe=>some (.inl (b,e))) λb=>(bif g then b c else b d)) λe=>(some (decide ((d:Int)<0))).bind λb=>(bif b then some true else(fG a.basic c).bind λb=>(a.basic[b]?).bind λg=>(fG a.basic d).bind λb=>(a.basic[b]?).bind λb=>(some (decide ((g:Int)<b))).bind λb=>some b).bind λb=>(bif b then(gQ a c f).bind λb=>(some (decide ((b:Int)<0))).bind λb=>some b else some false).bind λb=>e b else some (.inr d)))) ((-1),0)).bind λf=>(some (decide ((f:Int)<0))).bind λb=>(bif b then some (.inr (.inr (true,a)))else(some (a.free.length:Int)).bind λc=>(bH (λ(b:Int×Int)=>match b with|⟨d,b⟩=>(show Option ((Int×Int)⊕(Int))from(some (decide ((b:Int)<c))).bind λc=>(bif c then(fG a.free b).bind λc=>(a.free[c]?).bind λg=>bU (λ(e:Bool)=>bU (λ(h:Int)=>(some (IntKind.i64.wrap (b+1))).bind λc=>some (.inl (h,c))) λc=>(bif e then c b else c d)) λe=>(fG a.rows f).bind λc=>(a.rows[c]?).bind λ_=>(Ds a.rows c b).bind λb=>(M6 a.rows c b).bind λb=>(cv b).bind λb=>(some (decide ((b:Int)<0))).bind λb=>(bif b then(some (decide ((d:Int)<0))).bind λb=>(bif b then some true else(fG a.free d).bind λb=>(a.free[b]?).bind λb=>(some (decide ((g:Int)<b))).bind λb=>some b).bind λb=>some b else some false).bind λb=>e b else some (.inr d)))) ((-1),0)).bind λb=>(some (decide ((b:Int)<0))).bind λc=>(bif c then some (.inr (.inr (false,a)))else(gA a f b).bind λa=>some (.inl a))))) D).bind λa=>match a with|.inr v67=>some v67|.inl _=>none
noncomputable def gB(D:Dp):Option (Nat×Dp):=(fL D).bind λ⟨a,d⟩=>(some (!a)).bind λa=>(bif a then some (2,d)else(bH (λ(a:Dp)=>(show Option ((Dp)⊕((Unit)⊕(Nat×Dp)))from(fB a).bind λb=>(some (decide ((b:Int)<0))).bind λc=>(bif c then some (.inr (.inr (1,a)))else(fI a b).bind λc=>(some (decide ((c:Int)<0))).bind λe=>(bif e then some (.inr (.inr (3,a)))else(gA a c b).bind λa=>some (.inl a))))) d).bind λa=>match a with|.inr v9=>some v9|.inl _=>none)
end
end Go.Proofs.YtianbhacbgnboaaGreat
