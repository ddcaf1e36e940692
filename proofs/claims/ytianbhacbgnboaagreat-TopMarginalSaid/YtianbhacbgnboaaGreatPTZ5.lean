/- A part of the proof: the framework, the plain functions, the followed functions, the plain laws. -/
import Derived.Test.YtianbhacbgnboaaGreatPTZ4
set_option linter.unusedVariables false
set_option linter.unusedSimpArgs false
set_option linter.unusedSectionVars false
set_option maxHeartbeats 4000000
namespace Go.Proofs.YtianbhacbgnboaaGreat
section
open Go.Fw Go.RowKit
theorem Bb{H:List Qr}{D:Int}{r:Qr}(h:mj H D=some r):Pure ah 205 [aoc 4 eQ H,ax D] (.agg (eQ r)):=by
 refine aZ Tryz.func205 Y λE w vs b=>?_;unfold mj at h;refine sr<|aM (cs:=[ay false,au,ay false,au]) (by exact⟨aq,aA,aq,aA,an⟩)<|dn<|aT<|aT<|?_;refine bB h (λb=>AS.bM 18 [(0,aoh 4 eQ H),(1,ai D),(4,.ptr 4 0),(12,aj b)] [(4,.box 40 [aj false,.sv au,aj false,.sv au])]) (λh=>?_) (λc h=>?_)
 ·refine aU<|aB Y<|aL h λd h=>aB Y<|bq h λe b h=>?_;cases d
  ·replace b:=ct b;refine aB Y<|aB Y<|aN b λd b=>afy b λd b=>?_;obtain rfl:=aob b;exact abE Y<|aF<|aR.n ⟨d,h,wk []⟩
  replace b:=cn b;cases b;exact aD<|aD<|aD<|aD<|aax Y<|aF<|aR.n ⟨true,h,wk []⟩
 refine aR.n<|?_;cases c
 ·exact cF h λh=>aX<|aR.n<|sr<|aB Y<|aB Y<|aQ Y h λ⟨⟨b,d⟩,⟨c,e⟩⟩ h=>aeC Y (.cons (.cons (.cons (.cons (.nil)))))<|aJ Y Y Y<|dn<|aY<|fP h [.agg (eQ ⟨⟨b,d⟩,⟨c,e⟩⟩)] (by exact⟨.a Y Y (.k4 Y Y Y Y) Y,an⟩)
 exact cT h λh=>sr<|aez (cs':=[ay false,au,ay false,au]) (.nil) (by exact⟨aq,aA,aq,aA,an⟩)<|aJ Y Y Y<|dn<|aY<|aR.r<|fP h [.agg (eQ ⟨⟨false,[]⟩,⟨false,[]⟩⟩)] (by exact⟨.a Y Y (.k4 Y Y Y Y) Y,an⟩)
theorem JD{D:Int}{H:List Qr}{I:List (List Qr)}{K:Int}{r:Qr}(h:sj D H I K=some r):Pure ah 206 [ax D,ref [aoc 4 eQ H],ref [aoc 1 (eS 4 eQ) I],ref [ax K]] (.agg (eQ r)):=by
 refine aZ Tryz.func206 Y λE w vs b=>?_;unfold sj at h;exact sr<|aM (cs:=[ay false,au,ay false,au]) (by exact⟨aq,aA,aq,aA,an⟩)<|dn<|sd mixed<|aI Y Y<|aB Y<|aQ Y h λ⟨⟨d,e⟩,⟨c,b⟩⟩ h=>aeC Y (.cons (.cons (.cons (.cons (.nil)))))<|aI Y Y<|aB Y<|aQ Y h λb h=>aI Y Y<|aI Y Y<|aE h (λ_=>Bb) λ⟨⟨d,c⟩,⟨b,e⟩⟩ h=>aE h (λ_=>gO) λ⟨⟨b,d⟩,⟨c,e⟩⟩ h=>aJ Y Y Y<|dd<|aY<|fP h [.agg (eQ ⟨⟨b,d⟩,⟨c,e⟩⟩)] (by exact⟨.a Y Y (.k4 Y Y Y Y) Y,an⟩)
theorem QA{x0:Int}{H:List Qr}{I:List (List Qr)}{D:Int}{r:Qr}(h:ux x0 H I D=some r):Pure ah 202 [ax x0,gg 206 [] [ref [aoc 4 eQ H],ref [aoc 1 (eS 4 eQ) I],ref [ax D]]] (.agg (eQ r)):=by
 refine aZ Tryz.func202 Y λE w vs b=>?_;unfold ux at h;refine sr<|aM (cs:=[ay false,au,ay false,au]) (by exact⟨aq,aA,aq,aA,an⟩)<|dn<|sr<|aez (cs':=[ay false,au,ay false,au]) (.nil) (by exact⟨aq,aA,aq,aA,an⟩)<|aM (cs:=[ay false,au,ay false,au]) (by exact⟨aq,aA,aq,aA,an⟩)<|aJ Y Y Y<|dn<|aT<|sr<|aB Y<|aB Y<|dn<|bq h λb z8 j=>?_;refine bp (λ(vC:Bool×(List Nat)×Bool×(List Nat))=>AS.bM 19 [(4,.ptr 4 0),(5,.ptr 5 0)] [(5,.box 40 [aj vC.1,aoh 1 bf vC.2.1,aj vC.2.2.1,aoh 1 bf vC.2.2.2]),(4,.box 40 [aj false,.sv au,aj false,.sv au])]) (λvC=>vC=b) (aV<|br z8 (λs6=>AS.bM 19 [(1,.sv (gg 206 [] [ref [aoc 4 eQ H],ref [aoc 1 (eS 4 eQ) I],ref [ax D]])),(4,.ptr 4 0),(5,.ptr 5 0),(8,ai x0),(9,ai s6.1)] [(5,.box 40 [aj s6.2.1,aoh 1 bf s6.2.2.1,aj s6.2.2.2.1,aoh 1 bf s6.2.2.2.2]),(4,.box 40 [aj false,.sv au,aj false,.sv au])]) (wk []) (λs6 y6 b h c w8=>?_)) (λvC g=>?_)
 ·obtain⟨e,f,i,b,d⟩:=s6
  try dsimp only
  refine sr<|aL h λe h=>dn<|aT<|?_;cases e
  ·refine cF h λh=>bt<|aR.x<|aR.x<|bn.x<|?_;obtain rfl:=aob h;exact aR.n ⟨(f,i,b,d),w8 _ Y,wk []⟩
  refine cT h λh=>aX<|aR.n<|aT<|aV<|sr<|aB Y<|aC Y<|dn<|bz mixed<|aK Y Y (.k4 Y Y Y Y)<|aB Y<|aB Y<|aE h (λ_=>JD) λ⟨⟨d,b⟩,⟨uV,uW⟩⟩ h=>aE h (λ_=>jX) λ⟨⟨d,f⟩,⟨e,pV⟩⟩ h=>aJ Y Y Y<|de<|bn.n<|aR.n<|aU<|aO h λb h=>aB Y<|aF<|?_;obtain rfl:=aob h;exact aR.n ⟨(b,d,f,e,pV),c _ Y,wk []⟩
 subst g;obtain⟨d,e,b,c⟩:=vC
 try dsimp only
 exact aR.n<|sr<|aK Y Y (.k4 Y Y Y Y)<|aJ Y Y Y<|dn<|aY<|fP j [.agg (eQ ⟨⟨d,e⟩,⟨b,c⟩⟩)] (by exact⟨.a Y Y (.k4 Y Y Y Y) Y,an⟩)
theorem JE{D:Int}{I:List Int}{K:Int}{H:List Qr}{r:Qr}(h:sn D I K H=some r):Pure ah 203 [ax D,ref [aoc 1 bh I],ref [ax K],ref [aoc 4 eQ H]] (.agg (eQ r)):=by
 refine aZ Tryz.func203 Y λE w vs b=>?_;unfold sn at h;refine sr<|aM (cs:=[ay false,au,ay false,au]) (by exact⟨aq,aA,aq,aA,an⟩)<|dn<|aT<|sd mixed<|aI Y Y<|aB Y<|aQ Y h λb h=>aI Y Y<|aI Y Y<|aeA h λb h=>dd<|?_;cases b
 ·exact cF h λh=>aX<|aR.n<|sr<|aI Y Y<|aB Y<|aQ Y h λ⟨⟨d,b⟩,⟨c,e⟩⟩ h=>aeC Y (.cons (.cons (.cons (.cons (.nil)))))<|aJ Y Y Y<|dn<|aY<|fP h [.agg (eQ ⟨⟨d,b⟩,⟨c,e⟩⟩)] (by exact⟨.a Y Y (.k4 Y Y Y Y) Y,an⟩)
 exact cT h λh=>sr<|aez (cs':=[ay false,au,ay false,au]) (.nil) (by exact⟨aq,aA,aq,aA,an⟩)<|aJ Y Y Y<|dn<|aY<|aR.r<|fP h [.agg (eQ ⟨⟨false,[]⟩,⟨false,[]⟩⟩)] (by exact⟨.a Y Y (.k4 Y Y Y Y) Y,an⟩)
theorem QB{x0:Int}{H:List Int}{I:Int}{D:List Qr}{r:Qr}(h:CB x0 H I D=some r):Pure ah 202 [ax x0,gg 203 [] [ref [aoc 1 bh H],ref [ax I],ref [aoc 4 eQ D]]] (.agg (eQ r)):=by
 refine aZ Tryz.func202 Y λE w vs b=>?_;unfold CB at h;refine sr<|aM (cs:=[ay false,au,ay false,au]) (by exact⟨aq,aA,aq,aA,an⟩)<|dn<|sr<|aez (cs':=[ay false,au,ay false,au]) (.nil) (by exact⟨aq,aA,aq,aA,an⟩)<|aM (cs:=[ay false,au,ay false,au]) (by exact⟨aq,aA,aq,aA,an⟩)<|aJ Y Y Y<|dn<|aT<|sr<|aB Y<|aB Y<|dn<|bq h λb z8 j=>?_;refine bp (λ(vC:Bool×(List Nat)×Bool×(List Nat))=>AS.bM 19 [(4,.ptr 4 0),(5,.ptr 5 0)] [(5,.box 40 [aj vC.1,aoh 1 bf vC.2.1,aj vC.2.2.1,aoh 1 bf vC.2.2.2]),(4,.box 40 [aj false,.sv au,aj false,.sv au])]) (λvC=>vC=b) (aV<|br z8 (λs6=>AS.bM 19 [(1,.sv (gg 203 [] [ref [aoc 1 bh H],ref [ax I],ref [aoc 4 eQ D]])),(4,.ptr 4 0),(5,.ptr 5 0),(8,ai x0),(9,ai s6.1)] [(5,.box 40 [aj s6.2.1,aoh 1 bf s6.2.2.1,aj s6.2.2.2.1,aoh 1 bf s6.2.2.2.2]),(4,.box 40 [aj false,.sv au,aj false,.sv au])]) (wk []) (λs6 y6 b h c w8=>?_)) (λvC g=>?_)
 ·obtain⟨e,f,i,b,d⟩:=s6
  try dsimp only
  refine sr<|aL h λe h=>dn<|aT<|?_;cases e
  ·refine cF h λh=>bt<|aR.x<|aR.x<|bn.x<|?_;obtain rfl:=aob h;exact aR.n ⟨(f,i,b,d),w8 _ Y,wk []⟩
  refine cT h λh=>aX<|aR.n<|aT<|aV<|sr<|aB Y<|aC Y<|dn<|bz mixed<|aK Y Y (.k4 Y Y Y Y)<|aB Y<|aB Y<|aE h (λ_=>JE) λ⟨⟨d,b⟩,⟨uV,uW⟩⟩ h=>aE h (λ_=>jX) λ⟨⟨d,f⟩,⟨e,pV⟩⟩ h=>aJ Y Y Y<|de<|bn.n<|aR.n<|aU<|aO h λb h=>aB Y<|aF<|?_;obtain rfl:=aob h;exact aR.n ⟨(b,d,f,e,pV),c _ Y,wk []⟩
 subst g;obtain⟨d,e,b,c⟩:=vC
 try dsimp only
 exact aR.n<|sr<|aK Y Y (.k4 Y Y Y Y)<|aJ Y Y Y<|dn<|aY<|fP j [.agg (eQ ⟨⟨d,e⟩,⟨b,c⟩⟩)] (by exact⟨.a Y Y (.k4 Y Y Y Y) Y,an⟩)
theorem NK{x0:List Int}{x1:List Qr}{x2:List (List Qr)}{x3:List Qr}{r:(List Qr)×(List Qr)}(h:so x0 x1 x2 x3=some r):Pure ah 150 [aoc 1 bh x0,aoc 4 eQ x1,aoc 1 (eS 4 eQ) x2,aoc 4 eQ x3] (.lK [aoc 4 eQ r.1,aoc 4 eQ r.2]):=by
 refine aZ Tryz.func150 Y λE w vs a=>?_;unfold so at h;refine sr<|afI Y<|afI Y<|aC Y<|aC Y<|dn<|ow (cK (i:=6) [aoc 1 (eS 4 eQ) x2] Y)<|ow (cK (i:=7) [aoc 4 eQ x3] Y)<|ow (gw 8 2003 (.row 40 4 0 []) Y)<|ow (gw 9 2004 (.row 40 4 0 []) Y)<|sr<|aB Y<|aN h λa h=>aeW (e:=eQ) ⟨⟨false,[]⟩,⟨false,[]⟩⟩ (by exact⟨aq,aA,aq,aA,an⟩) h λa h=>aey Y<|dn<|sr<|aB Y<|aN h λa h=>aeW (e:=eQ) ⟨⟨false,[]⟩,⟨false,[]⟩⟩ (by exact⟨aq,aA,aq,aA,an⟩) h λa h=>aey Y<|dn<|sr<|aI Y Y<|aN h λa h=>aI Y Y<|aN h λa h=>ahE (k:=.i64) h λc h=>aC Y<|dn<|aT<|sr<|aB Y<|aN h λd h=>aB Y<|dn<|bq h λb zZ uJ=>?_;refine bp (λ(a:(List Qr)×(List Qr))=>AS.bM 48 [(8,.ob 15),(9,.ob 18)] [(15,TR 40 4 eQ a.1),(18,TR 40 4 eQ a.2)]) (λa=>a=b) (aV<|br zZ (λb=>AS.bM 48 [(1,aoh 4 eQ x1),(6,.sv (ref [aoc 1 (eS 4 eQ) x2])),(7,.sv (ref [aoc 4 eQ x3])),(8,.ob 15),(9,.ob 18),(10,ai c),(24,aoh 1 bh x0),(25,ai d),(26,ai b.1)] [(15,TR 40 4 eQ b.2.1),(18,TR 40 4 eQ b.2.2)]) (wk []) (λb y10 c h z6 yO=>?_)) (λa z7=>?_)
 ·obtain⟨uZ,c,d⟩:=b
  try dsimp only
  refine sr<|aL h λb h=>dn<|aT<|?_;cases b
  ·refine cF h λh=>bt<|aR.x<|aR.x<|bn.x<|?_;obtain rfl:=aob h;exact aR.n ⟨(c,d),yO _ Y,wk []⟩
  refine cT h λh=>aX<|aR.n<|aT<|aV<|sr<|aB Y<|aQ Y h λb h=>aI Y Y<|aM (cs:=[ax 0]) (by exact⟨aq,an⟩)<|afv Y Y Y<|aC Y<|dn<|ow (cK (i:=11) [ax uZ] Y)<|sd mixed<|aaw Y<|aI Y Y<|aB Y<|aB Y<|aE h (λ_=>Bb) λ⟨⟨c,b⟩,⟨d,f⟩⟩ h=>aE h (λ_=>c9) λ⟨⟨sO,sQ⟩,⟨b,c⟩⟩ h=>acr (p:=.r 15) Y (.r (.r Y)) h λd h=>afl (p:=.r 15) ⟨⟨sO,sQ⟩,⟨b,c⟩⟩ Y (.r Y) h λb h=>dd<|bz mixed<|aaw Y<|aI Y Y<|aB Y<|ahn (bs:=[]) (cs:=[ref [aoc 4 eQ x3],ref [aoc 1 (eS 4 eQ) x2],ref [ax uZ]])<|aE h (λ_=>QA) λ⟨⟨d,g⟩,⟨c,f⟩⟩ h=>aE h (λ_=>mw) λ⟨⟨d,f⟩,⟨c,g⟩⟩ h=>acr (p:=.r 18) Y (.r (.r Y)) h λj h=>afl (p:=.r 18) ⟨⟨d,f⟩,⟨c,g⟩⟩ Y (.r Y) h λc h=>de<|bn.n<|aR.n<|aU<|aO h λd h=>aB Y<|aF<|?_;obtain rfl:=aob h;exact aR.n ⟨(d,b,c),z6 _ Y,wk []⟩
 subst z7;obtain⟨b,c⟩:=a
 try dsimp only
 exact aR.n<|sr<|aaw Y<|aaw Y<|aey Y<|aey Y<|dn<|ow (bT (i:=15) (e:=eQ) (l:=b) Y)<|ow (bT (i:=18) (e:=eQ) (l:=c) Y)<|aY<|f2 uJ
theorem Mh{x0:List Int}{x1:List Qr}{x2:List (List Qr)}{x3:List Qr}{r:List Qr}(h:qe x0 x1 x2 x3=some r):Pure ah 91 [aoc 1 bh x0,aoc 4 eQ x1,aoc 1 (eS 4 eQ) x2,aoc 4 eQ x3] (aoc 4 eQ r):=by
 refine aZ Tryz.func91 Y λE w vs a=>?_;unfold qe at h;refine sr<|aeD (aA (n:=4) (e:=eQ))<|dn<|sr<|aB Y<|aB Y<|aB Y<|aB Y<|aE h (λ_=>NK) λ⟨c,f⟩ h=>aB Y<|aP Y Y<|aP Y Y<|aC Y<|aC Y<|dn<|sr<|aB Y<|aN h λa h=>aeW (e:=eQ) ⟨⟨false,[]⟩,⟨false,[]⟩⟩ (by exact⟨aq,aA,aq,aA,an⟩) h λa h=>aey Y<|dn<|aT<|sr<|aaw Y<|aeJ (p:=.r 23) Y (.r (.r Y)) h λd h=>aB Y<|dn<|bq h λb xV g=>?_;refine bp (λ(a:(List Qr))=>AS.bM 43 [(11,.ob 23)] [(23,TR 40 4 eQ a)]) (λa=>a=b) (aV<|br xV (λb=>AS.bM 43 [(9,aoh 4 eQ c),(10,aoh 4 eQ f),(11,.ob 23),(25,ai d),(26,ai b.1)] [(23,TR 40 4 eQ b.2)]) (wk []) (λb y8 c h xC xh=>?_)) (λa xW=>?_)
 ·obtain⟨d,c⟩:=b
  try dsimp only
  refine sr<|aL h λb h=>dn<|aT<|?_;cases b
  ·refine cF h λh=>bt<|aR.x<|aR.x<|bn.x<|?_;obtain rfl:=aob h;exact aR.n ⟨c,xh _ Y,wk []⟩
  refine cT h λh=>aX<|aR.n<|aT<|aV<|sr<|aB Y<|aC Y<|dn<|bz mixed<|aaw Y<|aB Y<|aB Y<|aB Y<|aQ Y h λ⟨⟨yQ,c⟩,⟨d,b⟩⟩ h=>aeC Y (.cons (.cons (.cons (.cons (.nil)))))<|aB Y<|aB Y<|aQ Y h λ⟨⟨c,d⟩,⟨b,f⟩⟩ h=>aeC Y (.cons (.cons (.cons (.cons (.nil)))))<|aE h (λ_=>jX) λ⟨⟨b,d⟩,⟨c,f⟩⟩ h=>acr (p:=.r 23) Y (.r (.r Y)) h λj h=>afl (p:=.r 23) ⟨⟨b,d⟩,⟨c,f⟩⟩ Y (.r Y) h λb h=>de<|bn.n<|aR.n<|aU<|aO h λc h=>aB Y<|aF<|?_;obtain rfl:=aob h;exact aR.n ⟨(c,b),xC _ Y,wk []⟩
 subst xW;exact aR.n<|sr<|aaw Y<|aey Y<|dn<|ow (bT (i:=23) (e:=eQ) (l:=a) Y)<|aY<|f1 g
theorem QC{D:List Qr}{H:List Qr}{r:Qr}(h:CC D H=some r):Pure ah 92 [aoc 4 eQ D,aoc 4 eQ H] (.agg (eQ r)):=by
 refine aZ Tryz.func92 Y λE w vs b=>?_;unfold CC at h;exact sr<|aM (cs:=[ay false,au,ay false,au]) (by exact⟨aq,aA,aq,aA,an⟩)<|dn<|sr<|aB Y<|aB Y<|aE h (λ_=>En) λ⟨⟨b,d⟩,⟨e,c⟩⟩ h=>aE h (λ_=>mw) λ⟨⟨d,e⟩,⟨b,c⟩⟩ h=>aJ Y Y Y<|dn<|aY<|fP h [.agg (eQ ⟨⟨d,e⟩,⟨b,c⟩⟩)] (by exact⟨.a Y Y (.k4 Y Y Y Y) Y,an⟩)
theorem DW{D:List Int}{I:Int}{H:List Qr}{r:Qr}(h:sq D I H=some r):Pure ah 147 [aoc 1 bh D,ax I,aoc 4 eQ H] (.agg (eQ r)):=by
 refine aZ Tryz.func147 Y λE w vs b=>?_;unfold sq at h;exact sr<|afI Y<|afI Y<|afI Y<|aM (cs:=[ay false,au,ay false,au]) (by exact⟨aq,aA,aq,aA,an⟩)<|dn<|ow (cK (i:=3) [aoc 1 bh D] Y)<|ow (cK (i:=4) [ax I] Y)<|ow (cK (i:=5) [aoc 4 eQ H] Y)<|sr<|aI Y Y<|aN h λb h=>aI Y Y<|aN h λb h=>ahE (k:=.i64) h λb h=>ahn (bs:=[]) (cs:=[ref [aoc 1 bh D],ref [ax I],ref [aoc 4 eQ H]])<|aE h (λ_=>QB) λ⟨⟨b,c⟩,⟨e,d⟩⟩ h=>aJ Y Y Y<|dn<|aY<|fP h [.agg (eQ ⟨⟨b,c⟩,⟨e,d⟩⟩)] (by exact⟨.a Y Y (.k4 Y Y Y Y) Y,an⟩)
theorem VP{x0:Int}{x1:List Int}{x2:List Int}{x3:List Qr}{x4:List Qr}{r:List Qr}(h:C0 x0 x1 x2 x3 x4=some r):Pure ah 86 [ax x0,aoc 1 bh x1,aoc 1 bh x2,aoc 4 eQ x3,aoc 4 eQ x4] (aoc 4 eQ r):=by
 refine aZ Tryz.func86 Y λE w vs a=>?_;unfold C0 at h;refine sr<|aeD (aA (n:=4) (e:=eQ))<|dn<|aT<|sr<|aB Y<|aL h λa h=>dn<|?_;cases a
 ·refine cF h λh=>aX<|aR.n<|sr<|aB Y<|ahE (k:=.i64) h λa h=>aeW (e:=eQ) ⟨⟨false,[]⟩,⟨false,[]⟩⟩ (by exact⟨aq,aA,aq,aA,an⟩) h λa h=>aey Y<|dn<|aT<|sr<|aaw Y<|aeJ (p:=.r 17) Y (.r (.r Y)) h λc h=>aB Y<|dn<|bq h λb xV g=>?_;refine bp (λ(a:(List Qr))=>AS.bM 37 [(11,.ob 17)] [(17,TR 40 4 eQ a)]) (λa=>a=b) (aV<|br xV (λb=>AS.bM 37 [(1,aoh 1 bh x1),(2,aoh 1 bh x2),(3,aoh 4 eQ x3),(4,aoh 4 eQ x4),(11,.ob 17),(19,ai c),(20,ai b.1)] [(17,TR 40 4 eQ b.2)]) (wk []) (λb y8 c h xC xh=>?_)) (λa xW=>?_)
  ·obtain⟨d,c⟩:=b
   try dsimp only
   refine sr<|aL h λb h=>dn<|aT<|?_;cases b
   ·refine cF h λh=>bt<|aR.x<|aR.x<|bn.x<|?_;obtain rfl:=aob h;exact aR.n ⟨c,xh _ Y,wk []⟩
   refine cT h λh=>aX<|aR.n<|aT<|aV<|sr<|aB Y<|aC Y<|dn<|aU<|aaw Y<|aB Y<|aB Y<|aB Y<|aB Y<|aE h (λ_=>DW) λ⟨⟨d,c⟩,⟨b,f⟩⟩ h=>aB Y<|aB Y<|aB Y<|aE h (λ_=>DW) λ⟨⟨d,b⟩,⟨c,f⟩⟩ h=>aE h (λ_=>iH) λ⟨⟨yQ,c⟩,⟨d,b⟩⟩ h=>acr (p:=.r 17) Y (.r (.r Y)) h λf h=>afl (p:=.r 17) ⟨⟨yQ,c⟩,⟨d,b⟩⟩ Y (.r Y) h λb h=>aF<|bn.n<|aR.n<|aU<|aO h λc h=>aB Y<|aF<|?_;obtain rfl:=aob h;exact aR.n ⟨(c,b),xC _ Y,wk []⟩
  subst xW;exact aR.n<|sr<|aaw Y<|aey Y<|dn<|ow (bT (i:=17) (e:=eQ) (l:=a) Y)<|aY<|f1 g
 exact cT h λh=>sr<|aeD (aA (n:=4) (e:=eQ))<|dn<|aY<|aR.r<|f1 h
end
section
open Go.Fw Go.RowKit
noncomputable def oS(D:List Int)(H:Int):Option (Int):=(some (D.length:Int)).bind λb=>(bH (λ(a:Int)=>(show Option ((Int)⊕((Unit)⊕(Int)))from(some (decide ((a:Int)<b))).bind λb=>(bif b then(bV D a).bind λb=>(some (decide ((H:Int)=b))).bind λb=>(bif b then some (.inr (.inr a))else(some (IntKind.i64.wrap (a+1))).bind λa=>some (.inl a))else some (.inr (.inl ()))))) 0).bind λa=>match a with|.inr v6=>some v6|.inl _=>some (-1)
noncomputable def sw(H:List Int)(D:Int):Option (Bool):=(oS H D).bind λa=>(some (decide ((0:Int)<=a))).bind λa=>some a
noncomputable def jT(H:Gr)(D:Int):Option (Bool):=(sw H.out D).bind λa=>(some (!a)).bind λa=>some a
noncomputable def dD(H:Pc)(D:Int):Option (Qr):=match H with|⟨b,a⟩=>(some (IntKind.i64.wrap (2*D))).bind λb=>(some (IntKind.i64.wrap (b+1))).bind λb=>(some (a.length:Int)).bind λc=>(some (decide ((c:Int)<=b))).bind λb=>(bif b then some ⟨⟨false,[]⟩,⟨false,[]⟩⟩else(some (IntKind.i64.wrap (2*D))).bind λb=>(bV a b).bind λc=>(some (IntKind.i64.wrap (2*D))).bind λb=>(some (IntKind.i64.wrap (b+1))).bind λb=>(bV a b).bind λa=>(fj c a).bind λa=>some a)
noncomputable def dW(D:Pc):Option (List Qr):=match D with|⟨c,f⟩=>(uF 64 c.count (⟨⟨false,[]⟩,⟨false,[]⟩⟩:Qr)).bind λd=>(some (d.length:Int)).bind λe=>(bH (λ(a:Int×(List Qr))=>match a with|⟨b,a⟩=>(show Option ((Int×(List Qr))⊕((List Qr)))from(some (decide ((b:Int)<e))).bind λe=>(bif e then(dD ⟨c,f⟩ b).bind λc=>(fG a b).bind λe=>(stM a e c).bind λc=>(some (IntKind.i64.wrap (b+1))).bind λb=>some (.inl (b,c))else some (.inr a)))) (0,d)).bind λa=>some a
noncomputable def dF(D:Pc):Option (List Qr):=match D with|⟨b,j⟩=>(some (b.uT.lines.length:Int)).bind λa=>(uF 64 a (⟨⟨false,[]⟩,⟨false,[]⟩⟩:Qr)).bind λf=>(some (f.length:Int)).bind λe=>(bH (λ(a:Int×Int×(List Qr))=>match a with|⟨a,d,c⟩=>(show Option ((Int×Int×(List Qr))⊕((List Qr)))from(some (decide ((d:Int)<e))).bind λe=>(bif e then(jT b d).bind λg=>bU (λ(e:Int×(List Qr))=>match e with|⟨e,h⟩=>(some (IntKind.i64.wrap (d+1))).bind λi=>some (.inl (e,i,h))) λe=>(bif g then(dD ⟨b,j⟩ a).bind λg=>(fG c d).bind λd=>(stM c d g).bind λg=>(some (IntKind.i64.wrap (a+1))).bind λd=>e (d,g)else e (a,c))else some (.inr c)))) (b.count,0,f)).bind λa=>some a
noncomputable def lD(H:Pc)(D:Dh):Option (Dh):=match H with|⟨a,b⟩=>(dW ⟨a,b⟩).bind λc=>(dF ⟨a,b⟩).bind λb=>(qe a.nU c a.zP b).bind λa=>(CC a D.inj).bind λd=>some ⟨D.gen,D.take,D.inj,D.ID,c,b,a,d,⟨⟨D.gz.num.neg,D.gz.num.w⟩,⟨D.gz.den.neg,D.gz.den.w⟩⟩⟩
noncomputable def iS(K:Nt)(D:List sI)(H:List Bd)(I:List (List Qr))(x4:List (List Qr)):Option (List Qr):=(some (D.length:Int)).bind λa=>(uF 8 a (0:Int)).bind λd=>(some (D.length:Int)).bind λc=>(bH (λ(a:Int×(List Int))=>match a with|⟨a,b⟩=>(show Option ((Int×(List Int))⊕((List Int)))from(some (decide ((a:Int)<c))).bind λc=>(bif c then(bV D a).bind λe=>(fG b a).bind λc=>(stM b c e.uH).bind λc=>(some (IntKind.i64.wrap (a+1))).bind λa=>some (.inl (a,c))else some (.inr b)))) (0,d)).bind λf=>(some (H.length:Int)).bind λa=>(uF 8 a (0:Int)).bind λd=>(some (H.length:Int)).bind λc=>(bH (λ(a:Int×(List Int))=>match a with|⟨a,b⟩=>(show Option ((Int×(List Int))⊕((List Int)))from(some (decide ((a:Int)<c))).bind λc=>(bif c then(bV H a).bind λc=>(fG b a).bind λe=>(stM b e c.uH).bind λc=>(some (IntKind.i64.wrap (a+1))).bind λa=>some (.inl (a,c))else some (.inr b)))) (0,d)).bind λa=>(mg I).bind λc=>(mg x4).bind λb=>(C0 K.dA f a c b).bind λa=>some a
noncomputable def pG(D:Nt)(H:List Int):Option (Gr×Int):=(jr D H).bind λ⟨d,a⟩=>(some (decide ((a:Int)≠0))).bind λb=>(bif b then some (⟨⟨0,[]⟩,[],[],0,[]⟩,a)else(iB D H).bind λ⟨b,a⟩=>(some (decide ((a:Int)≠0))).bind λc=>(bif c then some (⟨⟨0,[]⟩,[],[],0,[]⟩,a)else(fN D H).bind λ⟨e,a⟩=>(some (decide ((a:Int)≠0))).bind λc=>(bif c then some (⟨⟨0,[]⟩,[],[],0,[]⟩,a)else some (⟨D,H,d,b,e⟩,0))))
noncomputable def mm(D:Nt)(H:List Int)(K:List sI)(x3:List Bool)(I:List Bd):Option (Dh×Int):=(j1 D H K x3 I).bind λ⟨c,a⟩=>(some (decide ((a:Int)≠0))).bind λb=>(bif b then some (⟨[],[],[],[],[],[],[],⟨⟨false,[]⟩,⟨false,[]⟩⟩,⟨⟨false,[]⟩,⟨false,[]⟩⟩⟩,a)else(n9 c).bind λ⟨f,b,a⟩=>(some (decide ((a:Int)≠0))).bind λb=>(bif b then some (⟨[],[],[],[],[],[],[],⟨⟨false,[]⟩,⟨false,[]⟩⟩,⟨⟨false,[]⟩,⟨false,[]⟩⟩⟩,a)else(oO c).bind λ⟨g,a⟩=>(some (decide ((a:Int)≠0))).bind λb=>(bif b then some (⟨[],[],[],[],[],[],[],⟨⟨false,[]⟩,⟨false,[]⟩⟩,⟨⟨false,[]⟩,⟨false,[]⟩⟩⟩,a)else(pG D H).bind λ⟨i,a⟩=>(some (decide ((a:Int)≠0))).bind λb=>(bif b then some (⟨[],[],[],[],[],[],[],⟨⟨false,[]⟩,⟨false,[]⟩⟩,⟨⟨false,[]⟩,⟨false,[]⟩⟩⟩,a)else(r9 K x3 I f).bind λ⟨b,a⟩=>(iS D K I b a).bind λe=>(yw D H e).bind λ⟨j,d⟩=>(some (decide ((d:Int)≠0))).bind λh=>(bif h then some (⟨[],[],[],[],[],[],[],⟨⟨false,[]⟩,⟨false,[]⟩⟩,⟨⟨false,[]⟩,⟨false,[]⟩⟩⟩,d)else(lD ⟨i,g⟩ ⟨b,a,e,j,[],[],[],⟨⟨false,[]⟩,⟨false,[]⟩⟩,⟨⟨false,[]⟩,⟨false,[]⟩⟩⟩).bind λa=>(bV c.ik 0).bind λb=>(td b f).bind λb=>some (⟨a.gen,a.take,a.inj,a.ID,a.nU,a.lines,a.qA,⟨⟨a.vg.num.neg,a.vg.num.w⟩,⟨a.vg.den.neg,a.vg.den.w⟩⟩,b⟩,0))))))
end
section
open Go.Fw Go.RowKit
theorem JG{H:List Int}{D:Int}{r:Int}(h:oS H D=some r):Pure ah 236 [aoc 1 bh H,ax D] (ax r):=by
 refine aZ Tryz.func236 Y λE w vs a=>?_;unfold oS at h;refine sr<|aC Y<|dn<|aT<|sr<|aB Y<|aN h λd h=>aB Y<|dn<|bq h λb e c=>?_;refine bp (λ(a:Unit)=>AS.bM 19 [] []) (λa=>.inl a=b) (aV<|br e (λb=>AS.bM 19 [(0,aoh 1 bh H),(1,ai D),(7,ai d),(8,ai b)] []) (wk []) (λf e g h d b=>?_)) (λa e=>?_)
 ·refine sr<|aL h λa h=>dn<|aT<|?_;cases a
  ·refine cF h λh=>bt<|aR.x<|aR.x<|bn.x<|?_;cases h;exact aR.n ⟨(),b _ Y,wk []⟩
  refine cT h λh=>aX<|aR.n<|aT<|aV<|sr<|aB Y<|aC Y<|dn<|sr<|aB Y<|aB Y<|aB Y<|aQ Y h λa h=>aI Y Y<|aeH h λa h=>dn<|?_;cases a
  ·refine cF h λh=>aX<|bn.n<|aR.n<|aU<|aO h λa h=>aB Y<|aF<|?_;obtain rfl:=aob h;exact aR.n ⟨a,d _ Y,wk []⟩
  refine cT h λh=>sr<|aB Y<|aC Y<|dn<|aY<|bn.r<|aR.r<|?_;obtain rfl:=aob h;have a:=b _ Y;subst a;exact aR.r<|bn.r<|aR.r<|aR.r<|f1 c
 subst e;exact aR.n<|sr<|aC Y<|dn<|aY<|f1 c
theorem EW{D:List Int}{H:Int}{r:Bool}(h:sw D H=some r):Pure ah 204 [aoc 1 bh D,ax H] (ay r):=by
 refine aZ Tryz.func204 Y λE w vs a=>?_;unfold sw at h;exact sr<|aC Y<|dn<|sr<|aB Y<|aB Y<|aE h (λ_=>JG) λa h=>afy h λa h=>aC Y<|dn<|aY<|f1 h
theorem zh{D:Gr}{H:Int}{r:Bool}(h:jT D H=some r):Pure ah 149 [.agg (eGr D),ax H] (ay r):=by
 refine aZ Tryz.func149 Y λE w vs a=>?_;unfold jT at h;exact sr<|acj Y<|aC Y<|dn<|sr<|aG Y Y<|aH Y Y Y<|aB Y<|aE h (λ_=>EW) λa h=>agy h λa h=>aC Y<|dn<|aY<|f1 h
theorem mo{D:Pc}{H:Int}{r:Qr}(h:dD D H=some r):Pure ah 148 [.agg (ePc D),ax H] (.agg (eQ r)):=by
 obtain⟨c,b⟩:=D;refine aZ Tryz.func148 Y λE w vs b=>?_;unfold dD at h;refine sr<|acj Y<|aM (cs:=[ay false,au,ay false,au]) (by exact⟨aq,aA,aq,aA,an⟩)<|dn<|aT<|sr<|aB Y<|ahm h λb h=>aO h λb h=>aG Y Y<|aH Y Y Y<|aN h λb h=>afy h λb h=>dn<|?_;cases b
 ·exact cF h λh=>aX<|aR.n<|sd mixed<|aG Y Y<|aH Y Y Y<|aB Y<|ahm h λb h=>aQ Y h λb h=>aeC Y (.cons (.cons (.cons (.cons (.nil)))))<|aG Y Y<|aH Y Y Y<|aB Y<|ahm h λb h=>aO h λb h=>aQ Y h λb h=>aeC Y (.cons (.cons (.cons (.cons (.nil)))))<|aE h (λ_=>iH) λb h=>aJ Y Y Y<|dd<|aY<|fP h [.agg (eQ b)] (by exact⟨.a Y Y (.k4 Y Y Y Y) Y,an⟩)
 exact cT h λh=>sr<|aez (cs':=[ay false,au,ay false,au]) (.nil) (by exact⟨aq,aA,aq,aA,an⟩)<|aJ Y Y Y<|dn<|aY<|aR.r<|fP h [.agg (eQ ⟨⟨false,[]⟩,⟨false,[]⟩⟩)] (by exact⟨.a Y Y (.k4 Y Y Y Y) Y,an⟩)
theorem sx{D:Pc}{r:List Qr}(h:dW D=some r):Pure ah 89 [.agg (ePc D)] (aoc 4 eQ r):=by
 obtain⟨a,d⟩:=D;refine aZ Tryz.func89 Y λE w vs b=>?_;unfold dW at h;refine sr<|acj Y<|aeD (aA (n:=4) (e:=eQ))<|dn<|sr<|aG Y Y<|aG Y Y<|aH Y Y Y<|aeW (e:=eQ) ⟨⟨false,[]⟩,⟨false,[]⟩⟩ (by exact⟨aq,aA,aq,aA,an⟩) h λb h=>aey Y<|dn<|aT<|sr<|aaw Y<|aeJ (p:=.r 8) Y (.r (.r Y)) h λg h=>aB Y<|dn<|bq h λc f j=>?_;refine bp (λ(b:(List Qr))=>AS.bM 22 [(3,.ob 8)] [(8,TR 40 4 eQ b)]) (λb=>b=c) (aV<|br f (λc=>AS.bM 22 [(1,.ptr 1 0),(3,.ob 8),(10,ai g),(11,ai c.1)] [(1,.box 111 [ai a.uT.dA,aoh 4 nT a.uT.lines,aoh 1 bh a.out,aoh 1 bh a.nU,ai a.count,aoh 1 (eS 4 eQ) a.zP,aoh 4 eQ d]),(8,TR 40 4 eQ c.2)]) (wk []) (λc g a h f d=>?_)) (λb g=>?_)
 ·obtain⟨k,a⟩:=c
  try dsimp only
  refine sr<|aL h λc h=>dn<|aT<|?_;cases c
  ·refine cF h λh=>bt<|aR.x<|aR.x<|bn.x<|?_;obtain rfl:=aob h;exact aR.n ⟨a,d _ Y,wk []⟩
  refine cT h λh=>aX<|aR.n<|aT<|aV<|sr<|aB Y<|aC Y<|dn<|aU<|aaw Y<|aB Y<|aK Y Y (.cons Y (.cons Y (.cons Y (.k4 Y Y Y Y))))<|aB Y<|aE h (λ_=>mo) λa h=>acr (p:=.r 8) Y (.r (.r Y)) h λc h=>afl (p:=.r 8) a Y (.r Y) h λa h=>aF<|bn.n<|aR.n<|aU<|aO h λc h=>aB Y<|aF<|?_;obtain rfl:=aob h;exact aR.n ⟨(c,a),f _ Y,wk []⟩
 subst g;exact aR.n<|sr<|aaw Y<|aey Y<|dn<|ow (bT (i:=8) (e:=eQ) (l:=b) Y)<|aY<|f1 j
theorem tB{D:Pc}{r:List Qr}(h:dF D=some r):Pure ah 90 [.agg (ePc D)] (aoc 4 eQ r):=by
 obtain⟨a,f⟩:=D;refine aZ Tryz.func90 Y λE w vs b=>?_;unfold dF at h;refine sr<|acj Y<|aeD (aA (n:=4) (e:=eQ))<|dn<|sr<|aG Y Y<|aG Y Y<|aG Y Y<|aH Y Y Y<|aN h λb h=>aeW (e:=eQ) ⟨⟨false,[]⟩,⟨false,[]⟩⟩ (by exact⟨aq,aA,aq,aA,an⟩) h λb h=>aey Y<|dn<|sr<|aG Y Y<|aG Y Y<|aH Y Y Y<|aC Y<|dn<|aT<|sr<|aaw Y<|aeJ (p:=.r 11) Y (.r (.r Y)) h λg h=>aB Y<|dn<|bq h λd b m=>?_;refine bp (λ(c:(List Qr))=>AS.bM 34 [(3,.ob 11)] [(11,TR 40 4 eQ c)]) (λc=>c=d) (aV<|br b (λb=>AS.bM 34 [(1,.ptr 1 0),(3,.ob 11),(4,ai b.1),(16,ai g),(17,ai b.2.1)] [(1,.box 111 [ai a.uT.dA,aoh 4 nT a.uT.lines,aoh 1 bh a.out,aoh 1 bh a.nU,ai a.count,aoh 1 (eS 4 eQ) a.zP,aoh 4 eQ f]),(11,TR 40 4 eQ b.2.2)]) (wk []) (λb j d h s k=>?_)) (λc o=>?_)
 ·obtain⟨d,q,j⟩:=b
  try dsimp only
  refine sr<|aL h λb h=>dn<|aT<|?_;cases b
  ·refine cF h λh=>bt<|aR.x<|aR.x<|bn.x<|?_;obtain rfl:=aob h;exact aR.n ⟨j,k _ Y,wk []⟩
  refine cT h λh=>aX<|aR.n<|aT<|aV<|sr<|aB Y<|aC Y<|dn<|sr<|aG Y Y<|aK Y Y (.cons Y (.cons Y (.k4 Y Y Y Y)))<|aB Y<|aE h (λ_=>zh) λk h=>dn<|?_;refine bB h (λb=>AS.bM 34 [(1,.ptr 1 0),(3,.ob 11),(4,ai b.1),(16,ai g),(17,ai q)] [(1,.box 111 [ai a.uT.dA,aoh 4 nT a.uT.lines,aoh 1 bh a.out,aoh 1 bh a.nU,ai a.count,aoh 1 (eS 4 eQ) a.zP,aoh 4 eQ f]),(11,TR 40 4 eQ b.2)]) (λh=>?_) (λb h=>?_)
  ·cases k
   ·exact cF h λh=>aX<|aR.n ⟨(d,j),h,wk []⟩
   exact cT h λh=>sr<|aaw Y<|aB Y<|aK Y Y (.cons Y (.cons Y (.cons Y (.k4 Y Y Y Y))))<|aB Y<|aE h (λ_=>mo) λa h=>acr (p:=.r 11) Y (.r (.r Y)) h λd h=>afl (p:=.r 11) a Y (.r Y) h λd h=>dn<|aU<|aB Y<|aO h λa h=>aC Y<|aF<|aR.n ⟨(a,d),h,wk []⟩
  obtain⟨a,d⟩:=b
  try dsimp only
  refine bn.n<|aR.n<|aU<|aO h λb h=>aB Y<|aF<|?_;obtain rfl:=aob h;exact aR.n ⟨(a,b,d),s _ Y,wk []⟩
 subst o;exact aR.n<|sr<|aaw Y<|aey Y<|dn<|ow (bT (i:=11) (e:=eQ) (l:=c) Y)<|aY<|f1 m
set_option maxRecDepth 8000 in
theorem xo{H:Pc}{D:Dh}{r:Dh}(h:lD H D=some r):FC ah 41 [.sv (.agg (ePc H)),.ptr 1000 0] [(1000,.box 42 [aoh 1 (eS 4 eQ) D.gen,aoh 1 (eS 4 eQ) D.take,aoh 4 eQ D.inj,aoh 4 eQ D.ID,aoh 4 eQ D.nU,aoh 4 eQ D.lines,aoh 4 eQ D.qA,aj D.vg.num.neg,aoh 1 bf D.vg.num.w,aj D.vg.den.neg,aoh 1 bf D.vg.den.w,aj D.gz.num.neg,aoh 1 bf D.gz.num.w,aj D.gz.den.neg,aoh 1 bf D.gz.den.w])] (.lK []) [(1000,.box 42 [aoh 1 (eS 4 eQ) r.gen,aoh 1 (eS 4 eQ) r.take,aoh 4 eQ r.inj,aoh 4 eQ r.ID,aoh 4 eQ r.nU,aoh 4 eQ r.lines,aoh 4 eQ r.qA,aj r.vg.num.neg,aoh 1 bf r.vg.num.w,aj r.vg.den.neg,aoh 1 bf r.vg.den.w,aj r.gz.num.neg,aoh 1 bf r.gz.num.w,aj r.gz.den.neg,aoh 1 bf r.gz.den.w])]:=by
 obtain⟨b,a⟩:=H;refine cQ Tryz.func41 Y λE w vs a b=>?_;unfold lD at h
 exact sr<|acj Y<|dn<|sr<|aex Y<|aK Y Y (.cons Y (.cons Y (.cons Y (.k4 Y Y Y Y))))<|aE h (λ_=>sx) λd h=>aeB Y<|aG Y Y<|afv Y Y Y<|dn<|sr<|aex Y<|aK Y Y (.cons Y (.cons Y (.cons Y (.k4 Y Y Y Y))))<|aE h (λ_=>tB) λc h=>aeB Y<|aG Y Y<|afv Y Y Y<|dn<|sd mixed<|aex Y<|aG Y Y<|aG Y Y<|aH Y Y Y<|aex Y<|aeB Y<|aG Y Y<|aH Y Y Y<|aG Y Y<|aG Y Y<|aH Y Y Y<|aex Y<|aeB Y<|aG Y Y<|aH Y Y Y<|aE h (λ_=>Mh) λb h=>aeB Y<|aG Y Y<|afv Y Y Y<|dd<|bz mixed<|aex Y<|aex Y<|aeB Y<|aG Y Y<|aH Y Y Y<|aex Y<|aeB Y<|aG Y Y<|aH Y Y Y<|aE h (λ_=>QC) λa h=>aeB Y<|aG Y Y<|aJ Y Y Y<|de<|fC (S':=AS.bM 44 [] [(1000,.box 42 [aoh 1 (eS 4 eQ) D.gen,aoh 1 (eS 4 eQ) D.take,aoh 4 eQ D.inj,aoh 4 eQ D.ID,aoh 4 eQ d,aoh 4 eQ c,aoh 4 eQ b,aj a.num.neg,aoh 1 bf a.num.w,aj a.den.neg,aoh 1 bf a.den.w,aj D.gz.num.neg,aoh 1 bf D.gz.num.w,aj D.gz.den.neg,aoh 1 bf D.gz.den.w])]) h [] (wk []) (hp:=by intro a;subst a;exact⟨Y,an⟩)
theorem AB{x0:Nt}{x1:List sI}{x2:List Bd}{x3:List (List Qr)}{x4:List (List Qr)}{r:List Qr}(h:iS x0 x1 x2 x3 x4=some r):Pure ah 39 [.agg (Dn x0),aoc 9 gK x1,aoc 2 rJ x2,aoc 1 (eS 4 eQ) x3,aoc 1 (eS 4 eQ) x4] (aoc 4 eQ r):=by
 refine aZ Tryz.func39 Y λE w vs a=>?_;unfold iS at h;refine sr<|acj Y<|aeD (aA (n:=4) (e:=eQ))<|dn<|sr<|aB Y<|aN h λa h=>aeW (e:=bh) 0 (by exact⟨aq,an⟩) h λa h=>aey Y<|dn<|aT<|sr<|aB Y<|aN h λc h=>aB Y<|dn<|bq h λa xV oq=>?_;refine bp (λ(b:(List Int))=>AS.bM 58 [(2,aoh 2 rJ x2),(3,aoh 1 (eS 4 eQ) x3),(4,aoh 1 (eS 4 eQ) x4),(5,.ptr 5 0),(11,.ob 19)] [(5,.box 24 [ai x0.dA,aoh 4 nT x0.lines]),(19,TR 3 1 bh b)]) (λb=>b=a) (aV<|br xV (λs8=>AS.bM 58 [(2,aoh 2 rJ x2),(3,aoh 1 (eS 4 eQ) x3),(4,aoh 1 (eS 4 eQ) x4),(5,.ptr 5 0),(11,.ob 19),(20,aoh 9 gK x1),(21,ai c),(22,ai s8.1)] [(5,.box 24 [ai x0.dA,aoh 4 nT x0.lines]),(19,TR 3 1 bh s8.2)]) (wk []) (λs8 y8 a h xC xh=>?_)) (λb xW=>?_)
 ·obtain⟨zg,c⟩:=s8
  try dsimp only
  refine sr<|aL h λa h=>dn<|aT<|?_;cases a
  ·refine cF h λh=>bt<|aR.x<|aR.x<|bn.x<|?_;obtain rfl:=aob h;exact aR.n ⟨c,xh _ Y,wk []⟩
  refine cT h λh=>aX<|aR.n<|aT<|aV<|sr<|aB Y<|aQ Y h λa h=>aeC Y (.cons (.cons (.cons (.cons (.cons (.cons (.cons (.cons (.cons (.nil))))))))))<|aM (cs:=[ax 0,ax 0,aoc 2 iq [],ax 0,ax 0,ax 0,ax 0,ax 0,ax 0]) (by exact⟨aq,aq,aA,aq,aq,aq,aq,aq,aq,an⟩)<|aC Y<|aJ Y Y Y<|dn<|aU<|aaw Y<|aB Y<|aG Y Y<|aH Y Y Y<|acr (p:=.r 19) Y (.r (.r Y)) h λkg h=>afx (p:=.r 19) a.uH Y Y (.r Y) h λq9 h=>aF<|bn.n<|aR.n<|aU<|aO h λa h=>aB Y<|aF<|?_;obtain rfl:=aob h;exact aR.n ⟨(a,q9),xC _ Y,wk []⟩
 subst xW;refine aR.n<|sr<|aB Y<|aN oq λa oq=>aeW (e:=bh) 0 (by exact⟨aq,an⟩) oq λjz oq=>aey Y<|dn<|aT<|sr<|aB Y<|aN oq λlJ oq=>aB Y<|dn<|bq oq λf d a=>?_;refine bp (λ(c:(List Int))=>AS.bM 58 [(3,aoh 1 (eS 4 eQ) x3),(4,aoh 1 (eS 4 eQ) x4),(5,.ptr 5 0),(11,.ob 19),(14,.ob 35)] [(5,.box 24 [ai x0.dA,aoh 4 nT x0.lines]),(19,TR 3 1 bh b),(35,TR 3 1 bh c)]) (λc=>c=f) (aV<|br d (λd=>AS.bM 58 [(3,aoh 1 (eS 4 eQ) x3),(4,aoh 1 (eS 4 eQ) x4),(5,.ptr 5 0),(11,.ob 19),(14,.ob 35),(36,aoh 2 rJ x2),(37,ai lJ),(38,ai d.1)] [(5,.box 24 [ai x0.dA,aoh 4 nT x0.lines]),(19,TR 3 1 bh b),(35,TR 3 1 bh d.2)]) (wk []) (λd y18 j h g f=>?_)) (λc j=>?_)
 ·obtain⟨m,k⟩:=d
  try dsimp only
  refine sr<|aL h λjC h=>dn<|aT<|?_;cases jC
  ·refine cF h λh=>bt<|aR.x<|aR.x<|bn.x<|?_;obtain rfl:=aob h;exact aR.n ⟨k,f _ Y,wk []⟩
  refine cT h λh=>aX<|aR.n<|aT<|aV<|sr<|aB Y<|aQ Y h λkI h=>aeC Y (.cons (.cons (.nil)))<|aM (cs:=[ax 0,aoc 2 iq []]) (by exact⟨aq,aA,an⟩)<|aC Y<|aJ Y Y Y<|dn<|aU<|aaw Y<|aB Y<|aG Y Y<|aH Y Y Y<|acr (p:=.r 35) Y (.r (.r Y)) h λsL h=>afx (p:=.r 35) kI.uH Y Y (.r Y) h λd h=>aF<|bn.n<|aR.n<|aU<|aO h λmu h=>aB Y<|aF<|?_;obtain rfl:=aob h;exact aR.n ⟨(mu,d),g _ Y,wk []⟩
 subst j;exact aR.n<|aT<|ow (bT (i:=19) (e:=bh) (l:=b) Y)<|ow (bT (i:=35) (e:=bh) (l:=c) Y)<|bz mixed<|aG Y Y<|aH Y Y Y<|aB Y<|aB Y<|aB Y<|aE a (λ_=>Ba) λpz a=>aB Y<|aE a (λ_=>Ba) λsM a=>aE a (λ_=>VP) λvP a=>aC Y<|dd<|aY<|f1 a
theorem CD{D:Nt}{H:List Int}{r:Gr×Int}(h:pG D H=some r):Pure ah 37 [.agg (Dn D),aoc 1 bh H] (.lK [.agg (eGr r.1),ax r.2]):=by
 refine aZ Tryz.func37 Y λE w vs b=>?_;unfold pG at h;refine sr<|acj Y<|aM (cs:=[ax 0,aoc 4 nT [],aoc 1 bh [],aoc 1 bh [],ax 0,aoc 1 (eS 4 eQ) []]) (by exact⟨aq,aA,aA,aA,aq,aA,an⟩)<|aC Y<|dn<|sr<|aK Y Y (.k2 Y Y)<|aB Y<|aE h (λ_=>Av) λ⟨d,g⟩ h=>aB Y<|aP Y Y<|aP Y Y<|aC Y<|aC Y<|dn<|aT<|sr<|aB Y<|aeA h λb h=>dn<|?_;cases b
 ·refine cF h λh=>aX<|aR.n<|sr<|aK Y Y (.k2 Y Y)<|aB Y<|aE h (λ_=>A9) λ⟨b,c⟩ h=>aB Y<|aP Y Y<|aP Y Y<|aC Y<|aC Y<|dn<|aT<|sr<|aB Y<|aeA h λe h=>dn<|?_;cases e
  ·refine cF h λh=>aX<|aR.n<|sr<|aK Y Y (.k2 Y Y)<|aB Y<|aE h (λ_=>tv) λ⟨e,i⟩ h=>aB Y<|aP Y Y<|aP Y Y<|aC Y<|aC Y<|dn<|aT<|sr<|aB Y<|aeA h λf h=>dn<|?_;cases f
   ·exact cF h λh=>aX<|aR.n<|sr<|aK Y Y (.k2 Y Y)<|aB Y<|aB Y<|aB Y<|aB Y<|aez (cs':=[ax D.dA,aoc 4 nT D.lines,aoc 1 bh H,aoc 1 bh d,ax b,aoc 1 (eS 4 eQ) e]) (.agg Y (.one Y (.one Y (.one Y (.one Y (.nil)))))) (by exact⟨aq,aq,aq,aq,aq,aq,an⟩)<|aJ Y Y Y<|aC Y<|dn<|aY<|fP h [.agg (eGr ⟨D,H,d,b,e⟩),ax 0] (by exact⟨.a Y Y (.cons Y (.cons Y (.k4 Y Y Y Y))) Y,.t Y,an⟩)
   exact cT h λh=>sr<|aez (cs':=[ax 0,aoc 4 nT [],aoc 1 bh [],aoc 1 bh [],ax 0,aoc 1 (eS 4 eQ) []]) (.nil) (by exact⟨aq,aA,aA,aA,aq,aA,an⟩)<|aB Y<|aJ Y Y Y<|aC Y<|dn<|aY<|aR.r<|fP h [.agg (eGr ⟨⟨0,[]⟩,[],[],0,[]⟩),ax i] (by exact⟨.a Y Y (.cons Y (.cons Y (.k4 Y Y Y Y))) Y,.t Y,an⟩)
  exact cT h λh=>sr<|aez (cs':=[ax 0,aoc 4 nT [],aoc 1 bh [],aoc 1 bh [],ax 0,aoc 1 (eS 4 eQ) []]) (.nil) (by exact⟨aq,aA,aA,aA,aq,aA,an⟩)<|aB Y<|aJ Y Y Y<|aC Y<|dn<|aY<|aR.r<|fP h [.agg (eGr ⟨⟨0,[]⟩,[],[],0,[]⟩),ax c] (by exact⟨.a Y Y (.cons Y (.cons Y (.k4 Y Y Y Y))) Y,.t Y,an⟩)
 exact cT h λh=>sr<|aez (cs':=[ax 0,aoc 4 nT [],aoc 1 bh [],aoc 1 bh [],ax 0,aoc 1 (eS 4 eQ) []]) (.nil) (by exact⟨aq,aA,aA,aA,aq,aA,an⟩)<|aB Y<|aJ Y Y Y<|aC Y<|dn<|aY<|aR.r<|fP h [.agg (eGr ⟨⟨0,[]⟩,[],[],0,[]⟩),ax g] (by exact⟨.a Y Y (.cons Y (.cons Y (.k4 Y Y Y Y))) Y,.t Y,an⟩)
set_option maxRecDepth 8000 in
theorem JH{I:Nt}{H:List Int}{x2:List sI}{D:List Bool}{K:List Bd}{r:Dh×Int}(h:mm I H x2 D K=some r):Pure ah 16 [.agg (Dn I),aoc 1 bh H,aoc 9 gK x2,aoc 1 eB D,aoc 2 rJ K] (.lK [.agg (eDh r.1),ax r.2]):=by
 refine aZ Tryz.func16 Y λE w vs b=>?_;unfold mm at h;refine sr<|acj Y<|aM (cs:=[aoc 1 (eS 4 eQ) [],aoc 1 (eS 4 eQ) [],aoc 4 eQ [],aoc 4 eQ [],aoc 4 eQ [],aoc 4 eQ [],aoc 4 eQ [],ay false,au,ay false,au,ay false,au,ay false,au]) (by exact⟨aA,aA,aA,aA,aA,aA,aA,aq,aA,aq,aA,aq,aA,aq,aA,an⟩)<|aC Y<|dn<|sr<|aK Y Y (.k2 Y Y)<|aB Y<|aB Y<|aB Y<|aB Y<|aE h (λ_=>Mc) λ⟨b,i⟩ h=>aB Y<|aP Y Y<|aP Y Y<|aM (cs:=[ax 0,aoc 1 (eS 4 eQ) [],aoc 1 (eS 4 eQ) [],aoc 4 eQ []]) (by exact⟨aq,aA,aA,aA,an⟩)<|aJ Y Y Y<|aC Y<|dn<|aT<|sr<|aB Y<|aeA h λb h=>dn<|?_;cases b
 ·refine cF h λh=>aX<|aR.n<|sr<|aK Y Y (.k4 Y Y Y Y)<|aE h (λ_=>Ex) λ⟨c,b,d⟩ h=>aB Y<|aP Y Y<|aP Y Y<|aP Y Y<|aC Y<|aC Y<|aC Y<|dn<|aT<|sr<|aB Y<|aeA h λb h=>dn<|?_;cases b
  ·refine cF h λh=>aX<|aR.n<|sr<|aK Y Y (.k4 Y Y Y Y)<|aE h (λ_=>Jt) λ⟨e,j⟩ h=>aB Y<|aP Y Y<|aP Y Y<|aC Y<|aC Y<|dn<|aT<|sr<|aB Y<|aeA h λb h=>dn<|?_;cases b
   ·refine cF h λh=>aX<|aR.n<|sr<|aK Y Y (.k2 Y Y)<|aB Y<|aE h (λ_=>CD) λ⟨b,c⟩ h=>aB Y<|aP Y Y<|aP Y Y<|aM (cs:=[ax 0,aoc 4 nT [],aoc 1 bh [],aoc 1 bh [],ax 0,aoc 1 (eS 4 eQ) []]) (by exact⟨aq,aA,aA,aA,aq,aA,an⟩)<|aJ Y Y Y<|aC Y<|dn<|aT<|sr<|aB Y<|aeA h λf h=>dn<|?_;cases f
    ·refine cF h λh=>aX<|aR.n<|sr<|aM (cs:=[aoc 1 (eS 4 eQ) [],aoc 1 (eS 4 eQ) [],aoc 4 eQ [],aoc 4 eQ [],aoc 4 eQ [],aoc 4 eQ [],aoc 4 eQ [],ay false,au,ay false,au,ay false,au,ay false,au]) (by exact⟨aA,aA,aA,aA,aA,aA,aA,aq,aA,aq,aA,aq,aA,aq,aA,an⟩)<|dn<|sr<|aB Y<|aB Y<|aB Y<|aB Y<|aE h (λ_=>NJ) λ⟨g,f⟩ h=>aB Y<|aP Y Y<|aP Y Y<|aG Y Y<|afv Y Y Y<|aG Y Y<|afv Y Y Y<|dn<|sr<|aK Y Y (.k2 Y Y)<|aB Y<|aB Y<|aG Y Y<|aH Y Y Y<|aG Y Y<|aH Y Y Y<|aE h (λ_=>AB) λf h=>aG Y Y<|afv Y Y Y<|dn<|sr<|aK Y Y (.k2 Y Y)<|aB Y<|aG Y Y<|aH Y Y Y<|aE h (λ_=>L6) λ⟨g,f⟩ h=>aB Y<|aP Y Y<|aP Y Y<|aG Y Y<|afv Y Y Y<|aC Y<|dn<|aT<|sr<|aB Y<|aeA h λg h=>dn<|?_;cases g
     ·exact cF h λh=>aX<|aR.n<|sr<|aK Y Y (.cons Y (.cons Y (.k4 Y Y Y Y)))<|aB Y<|aez (cs':=[ax b.uT.dA,aoc 4 nT b.uT.lines,aoc 1 bh b.out,aoc 1 bh b.nU,ax b.count,aoc 1 (eS 4 eQ) b.zP,aoc 4 eQ e]) (.agg Y (.one Y (.nil))) (by exact⟨aq,aq,aq,aq,aq,aq,aq,an⟩)<|aeF [(1000,18)] h (λ_=>xo) λb h=>dn<|sr<|aG Y Y<|aH Y Y Y<|aQ Y h λe h=>aI Y Y<|aB Y<|aE h (λ_=>En) λe h=>aG Y Y<|aJ Y Y Y<|dn<|sr<|aK Y Y (.cons Y (.cons Y (.cons Y (.cons Y (.cons Y (.cons Y (.cons Y (.cons Y (.cons Y (.cons Y (.cons Y (.k4 Y Y Y Y))))))))))))<|aJ Y Y Y<|aC Y<|dn<|aY<|fP h [.agg (eDh ⟨b.gen,b.take,b.inj,b.ID,b.nU,b.lines,b.qA,⟨⟨b.vg.num.neg,b.vg.num.w⟩,⟨b.vg.den.neg,b.vg.den.w⟩⟩,e⟩),ax 0] (by exact⟨.a Y Y (.cons Y (.cons Y (.cons Y (.cons Y (.cons Y (.cons Y (.cons Y (.cons Y (.cons Y (.cons Y (.cons Y (.k4 Y Y Y Y)))))))))))) Y,.t Y,an⟩)
     exact cT h λh=>sr<|aez (cs':=[aoc 1 (eS 4 eQ) [],aoc 1 (eS 4 eQ) [],aoc 4 eQ [],aoc 4 eQ [],aoc 4 eQ [],aoc 4 eQ [],aoc 4 eQ [],ay false,au,ay false,au,ay false,au,ay false,au]) (.nil) (by exact⟨aA,aA,aA,aA,aA,aA,aA,aq,aA,aq,aA,aq,aA,aq,aA,an⟩)<|aB Y<|aJ Y Y Y<|aC Y<|dn<|aY<|aR.r<|fP h [.agg (eDh ⟨[],[],[],[],[],[],[],⟨⟨false,[]⟩,⟨false,[]⟩⟩,⟨⟨false,[]⟩,⟨false,[]⟩⟩⟩),ax f] (by exact⟨.a Y Y (.cons Y (.cons Y (.cons Y (.cons Y (.cons Y (.cons Y (.cons Y (.cons Y (.cons Y (.cons Y (.cons Y (.k4 Y Y Y Y)))))))))))) Y,.t Y,an⟩)
    exact cT h λh=>sr<|aez (cs':=[aoc 1 (eS 4 eQ) [],aoc 1 (eS 4 eQ) [],aoc 4 eQ [],aoc 4 eQ [],aoc 4 eQ [],aoc 4 eQ [],aoc 4 eQ [],ay false,au,ay false,au,ay false,au,ay false,au]) (.nil) (by exact⟨aA,aA,aA,aA,aA,aA,aA,aq,aA,aq,aA,aq,aA,aq,aA,an⟩)<|aB Y<|aJ Y Y Y<|aC Y<|dn<|aY<|aR.r<|fP h [.agg (eDh ⟨[],[],[],[],[],[],[],⟨⟨false,[]⟩,⟨false,[]⟩⟩,⟨⟨false,[]⟩,⟨false,[]⟩⟩⟩),ax c] (by exact⟨.a Y Y (.cons Y (.cons Y (.cons Y (.cons Y (.cons Y (.cons Y (.cons Y (.cons Y (.cons Y (.cons Y (.cons Y (.k4 Y Y Y Y)))))))))))) Y,.t Y,an⟩)
   exact cT h λh=>sr<|aez (cs':=[aoc 1 (eS 4 eQ) [],aoc 1 (eS 4 eQ) [],aoc 4 eQ [],aoc 4 eQ [],aoc 4 eQ [],aoc 4 eQ [],aoc 4 eQ [],ay false,au,ay false,au,ay false,au,ay false,au]) (.nil) (by exact⟨aA,aA,aA,aA,aA,aA,aA,aq,aA,aq,aA,aq,aA,aq,aA,an⟩)<|aB Y<|aJ Y Y Y<|aC Y<|dn<|aY<|aR.r<|fP h [.agg (eDh ⟨[],[],[],[],[],[],[],⟨⟨false,[]⟩,⟨false,[]⟩⟩,⟨⟨false,[]⟩,⟨false,[]⟩⟩⟩),ax j] (by exact⟨.a Y Y (.cons Y (.cons Y (.cons Y (.cons Y (.cons Y (.cons Y (.cons Y (.cons Y (.cons Y (.cons Y (.cons Y (.k4 Y Y Y Y)))))))))))) Y,.t Y,an⟩)
  exact cT h λh=>sr<|aez (cs':=[aoc 1 (eS 4 eQ) [],aoc 1 (eS 4 eQ) [],aoc 4 eQ [],aoc 4 eQ [],aoc 4 eQ [],aoc 4 eQ [],aoc 4 eQ [],ay false,au,ay false,au,ay false,au,ay false,au]) (.nil) (by exact⟨aA,aA,aA,aA,aA,aA,aA,aq,aA,aq,aA,aq,aA,aq,aA,an⟩)<|aB Y<|aJ Y Y Y<|aC Y<|dn<|aY<|aR.r<|fP h [.agg (eDh ⟨[],[],[],[],[],[],[],⟨⟨false,[]⟩,⟨false,[]⟩⟩,⟨⟨false,[]⟩,⟨false,[]⟩⟩⟩),ax d] (by exact⟨.a Y Y (.cons Y (.cons Y (.cons Y (.cons Y (.cons Y (.cons Y (.cons Y (.cons Y (.cons Y (.cons Y (.cons Y (.k4 Y Y Y Y)))))))))))) Y,.t Y,an⟩)
 exact cT h λh=>sr<|aez (cs':=[aoc 1 (eS 4 eQ) [],aoc 1 (eS 4 eQ) [],aoc 4 eQ [],aoc 4 eQ [],aoc 4 eQ [],aoc 4 eQ [],aoc 4 eQ [],ay false,au,ay false,au,ay false,au,ay false,au]) (.nil) (by exact⟨aA,aA,aA,aA,aA,aA,aA,aq,aA,aq,aA,aq,aA,aq,aA,an⟩)<|aB Y<|aJ Y Y Y<|aC Y<|dn<|aY<|aR.r<|fP h [.agg (eDh ⟨[],[],[],[],[],[],[],⟨⟨false,[]⟩,⟨false,[]⟩⟩,⟨⟨false,[]⟩,⟨false,[]⟩⟩⟩),ax i] (by exact⟨.a Y Y (.cons Y (.cons Y (.cons Y (.cons Y (.cons Y (.cons Y (.cons Y (.cons Y (.cons Y (.cons Y (.cons Y (.k4 Y Y Y Y)))))))))))) Y,.t Y,an⟩)
end
section
open Go.Fw Go.RowKit
noncomputable def wS(H:List (List Sp))(D:List (List Sp)):Option (Hr):=(bH (λ(a:Int×Hr)=>match a with|⟨b,a⟩=>(show Option ((Int×Hr)⊕(Hr))from(some (H.length:Int)).bind λc=>(some (decide ((b:Int)<c))).bind λc=>(bif c then(bV H b).bind λc=>(uE 88 a.units [⟨0,0,c,1,1,0,0,0,1⟩]).bind λc=>(uE 1 a.on [true]).bind λd=>(some (IntKind.i64.wrap (b+1))).bind λb=>some (.inl (b,⟨⟨a.uT.dA,a.uT.lines⟩,a.out,c,d,a.zO⟩))else some (.inr a)))) (0,⟨⟨1,[]⟩,[],[],[],[]⟩)).bind λd=>(bH (λ(a:Int×Hr)=>match a with|⟨a,b⟩=>(show Option ((Int×Hr)⊕(Hr))from(some (D.length:Int)).bind λc=>(some (decide ((a:Int)<c))).bind λc=>(bif c then(bV D a).bind λc=>(uE 32 b.zO [⟨0,c⟩]).bind λc=>(some (IntKind.i64.wrap (a+1))).bind λa=>some (.inl (a,⟨⟨b.uT.dA,b.uT.lines⟩,b.out,b.units,b.on,c⟩))else some (.inr b)))) (0,d)).bind λa=>some a
noncomputable def zj(D:Hr):Option (Dh×Int):=(mm ⟨D.uT.dA,D.uT.lines⟩ D.out D.units D.on D.zO).bind λ⟨a,b⟩=>some (a,b)
noncomputable def oT:Option (Bool):=(wS [[⟨10,3⟩]] [[⟨4,9⟩]]).bind λa=>(zj a).bind λ⟨a,c⟩=>(xG [[⟨10,3⟩]] [[⟨4,9⟩]]).bind λ⟨d,e⟩=>bU (λ(b:Bool)=>some b) λb=>(bif true then(some (decide ((c:Int)=0))).bind λc=>some c else none).bind λc=>(bif c then(some (a.qA.length:Int)).bind λc=>(some (decide ((c:Int)=1))).bind λc=>some c else some false).bind λc=>(bif c then(bV a.qA 0).bind λc=>(bK 3).bind λf=>(ji c f).bind λc=>some c else some false).bind λc=>(bif c then(bK 24).bind λc=>(ji ⟨⟨a.gz.num.neg,a.gz.num.w⟩,⟨a.gz.den.neg,a.gz.den.w⟩⟩ c).bind λa=>some a else some false).bind λa=>(bif a then(some (decide ((e:Int)=0))).bind λa=>some a else some false).bind λa=>(bif a then(some (decide ((d.kS:Int)=4))).bind λa=>some a else some false).bind λa=>(bif a then(some (decide ((d.dm:Int)=3))).bind λa=>some a else some false).bind λa=>(bif a then(some (decide ((d.Wh:Int)=24))).bind λa=>some a else some false).bind λa=>b a
noncomputable def iD(D:Hr)(I:Nat)(K:Nat)(H:Int):Option (Bool):=bU (λ(a:Bool)=>(bif a then(oT).bind λa=>some a else(zj D).bind λ⟨a,b⟩=>(some (decide ((b:Int)≠0))).bind λb=>(bif b then some true else bU (λ(b:Bool)=>(bif b then some false else(some (IntKind.i64.wrap (I:Int))).bind λb=>(M3 b D.uT.dA).bind λe=>(some (K%20)).bind λb=>(some (IntKind.i64.wrap (b:Int))).bind λb=>(some (IntKind.i64.wrap (1+b))).bind λc=>(uE 88 [] D.units).bind λb=>(some (IntKind.i64.wrap H)).bind λd=>(uE 88 b [⟨e,c,[⟨c,d⟩],1,1,0,0,0,1⟩]).bind λd=>(uE 1 [] D.on).bind λb=>(uE 1 b [true]).bind λb=>(zj ⟨⟨D.uT.dA,D.uT.lines⟩,D.out,d,b,D.zO⟩).bind λ⟨b,d⟩=>(some (decide ((d:Int)≠0))).bind λf=>(bif f then(some (decide ((d:Int)=8))).bind λd=>some d else(bK c).bind λd=>(bV a.qA e).bind λe=>(some (IntKind.i64.wrap H)).bind λc=>(bK c).bind λc=>(fj e c).bind λc=>(ei d c).bind λc=>(fj ⟨⟨b.gz.num.neg,b.gz.num.w⟩,⟨b.gz.den.neg,b.gz.den.w⟩⟩ ⟨⟨a.gz.num.neg,a.gz.num.w⟩,⟨a.gz.den.neg,a.gz.den.w⟩⟩).bind λb=>(iy b c).bind λb=>(some (decide ((b:Int)<=0))).bind λb=>some b))) λb=>(some (decide ((D.uT.dA:Int)<1))).bind λc=>(bif c then some true else(some (a.qA.length:Int)).bind λa=>(some (decide ((a:Int)≠D.uT.dA))).bind λa=>some a).bind λa=>b a))) λb=>(r8 D).bind λa=>(bif a then some true else(some (D.units.length:Int)).bind λa=>(some (decide ((5:Int)<=a))).bind λa=>some a).bind λa=>(bif a then some true else(oT).bind λa=>(some (!a)).bind λa=>some a).bind λa=>b a
end
section
open Go.Fw Go.RowKit
theorem S4{x0:List (List Sp)}{x1:List (List Sp)}{r:Hr}(h:wS x0 x1=some r):Pure ah 13 [aoc 1 (eS 2 iq) x0,aoc 1 (eS 2 iq) x1] (.agg (eHr r)):=by
 refine aZ Tryz.func13 Y λE w vs b=>?_;unfold wS at h;refine sr<|aM (cs:=[ax 0,aoc 4 nT [],aoc 1 bh [],aoc 9 gK [],aoc 1 eB [],aoc 2 rJ []]) (by exact⟨aq,aA,aA,aA,aA,aA,an⟩)<|dn<|sr<|aez (cs':=[ax 1,aoc 4 nT []]) (.one Y (.nil)) (by exact⟨aq,aA,an⟩)<|aez (cs':=[ax 1,aoc 4 nT [],aoc 1 bh [],.v (.slice none 0 0),.v (.slice none 0 0),.v (.slice none 0 0)]) (.agg Y (.nil)) (by exact⟨aq,aq,aA,aq,aq,aq,an⟩)<|aM (cs:=[ax 0,aoc 4 nT [],aoc 1 bh [],.v (.slice none 0 0),.v (.slice none 0 0),.v (.slice none 0 0)]) (by exact⟨aq,aA,aA,aq,aq,aq,an⟩)<|aJ Y Y Y<|dn<|ow (gx 5 3 2004 (.row 50 9 0 []) Y Y)<|ow (gx 5 4 2005 (.row 4 1 0 []) Y Y)<|ow (gx 5 5 2006 (.row 78 2 0 []) Y Y)<|aT<|sr<|aC Y<|dn<|bq h λc z8 k=>?_
 refine bp (λ(b:Hr)=>AS.bM 48 [(1,aoh 1 (eS 2 iq) x1),(4,.ptr 4 0),(5,.ptr 5 0)] [(5,.box 30 [ai b.uT.dA,aoh 4 nT b.uT.lines,aoh 1 bh b.out,.ob 2009,.ob 2010,.ob 2006]),(4,.box 30 [ai 0,aoh 4 nT [],aoh 1 bh [],aoh 9 gK [],aoh 1 eB [],aoh 2 rJ []]),(2009,TR 50 9 gK b.units),(2010,TR 4 1 eB b.on),(2006,TR 78 2 rJ b.zO)]) (λb=>b=c) (aV<|br z8 (λc=>AS.bM 48 [(0,aoh 1 (eS 2 iq) x0),(1,aoh 1 (eS 2 iq) x1),(4,.ptr 4 0),(5,.ptr 5 0),(6,ai c.1)] [(5,.box 30 [ai c.2.uT.dA,aoh 4 nT c.2.uT.lines,aoh 1 bh c.2.out,.ob 2009,.ob 2010,.ob 2006]),(4,.box 30 [ai 0,aoh 4 nT [],aoh 1 bh [],aoh 9 gK [],aoh 1 eB [],aoh 2 rJ []]),(2009,TR 50 9 gK c.2.units),(2010,TR 4 1 eB c.2.on),(2006,TR 78 2 rJ c.2.zO)]) (wk [(2009,2004),(2010,2005)]) (λc y6 d h f w8=>?_)) (λb j=>?_)
 ·obtain⟨d,b⟩:=c
  try dsimp only
  refine aT<|sr<|aB Y<|aB Y<|aN h λc h=>aL h λc h=>dn<|?_;cases c
  ·refine cF h λh=>bt<|aR.x<|aR.x<|bn.x<|?_;obtain rfl:=aob h;exact aR.n ⟨b,w8 _ Y,wk []⟩
  refine cT h λh=>aX<|aR.n<|aT<|aV<|bz mixed<|aG Y Y<|aH Y Y Y<|aB Y<|aB Y<|aQ Y h λc h=>aI Y Y<|aez (cs':=[ax 0,ax 0,aoc 2 iq c,ax 1,ax 1,ax 0,ax 0,ax 0,ax 1]) (.one Y (.one Y (.one Y (.one Y (.nil))))) (by exact⟨aq,aq,aq,aq,aq,aq,aq,aq,aq,an⟩)<|aeI (l:=[⟨0,0,c,1,1,0,0,0,1⟩]) (e:=gK) (.agg Y (.nil)) Y<|aeM Y Y h λc h=>aG Y Y<|aH Y Y Y<|aeI (l:=[true]) (e:=eB) (.one Y (.nil)) Y<|aeM Y Y h λg h=>aG Y Y<|aeN Y Y Y (.ob Y)<|aG Y Y<|aeN Y Y Y (.ob Y)<|de<|bn.n<|aR.n<|aU<|aB Y<|aO h λd h=>aC Y<|aF<|?_;obtain rfl:=aob h;exact aR.n ⟨(d,⟨⟨b.uT.dA,b.uT.lines⟩,b.out,c,g,b.zO⟩),f _ Y,wk [(2009,24),(2010,28)]⟩
 subst j;refine aR.n<|aT<|sr<|aC Y<|dn<|bq k λc b d=>?_;refine bp (λ(wU:Hr)=>AS.bM 48 [(4,.ptr 4 0),(5,.ptr 5 0)] [(5,.box 30 [ai wU.uT.dA,aoh 4 nT wU.uT.lines,aoh 1 bh wU.out,.ob 2009,.ob 2010,.ob 2014]),(4,.box 30 [ai 0,aoh 4 nT [],aoh 1 bh [],aoh 9 gK [],aoh 1 eB [],aoh 2 rJ []]),(2009,TR 50 9 gK wU.units),(2010,TR 4 1 eB wU.on),(2014,TR 78 2 rJ wU.zO)]) (λwU=>wU=c) (aV<|br b (λb=>AS.bM 48 [(1,aoh 1 (eS 2 iq) x1),(4,.ptr 4 0),(5,.ptr 5 0),(7,ai b.1)] [(5,.box 30 [ai b.2.uT.dA,aoh 4 nT b.2.uT.lines,aoh 1 bh b.2.out,.ob 2009,.ob 2010,.ob 2014]),(4,.box 30 [ai 0,aoh 4 nT [],aoh 1 bh [],aoh 9 gK [],aoh 1 eB [],aoh 2 rJ []]),(2009,TR 50 9 gK b.2.units),(2010,TR 4 1 eB b.2.on),(2014,TR 78 2 rJ b.2.zO)]) (wk [(2014,2006)]) (λb y12 c h vi vR=>?_)) (λwU vS=>?_)
 ·obtain⟨f,c⟩:=b
  try dsimp only
  refine aT<|sr<|aB Y<|aB Y<|aN h λb h=>aL h λb h=>dn<|?_;cases b
  ·refine cF h λh=>bt<|aR.x<|aR.x<|bn.x<|?_;obtain rfl:=aob h;exact aR.n ⟨c,vR _ Y,wk []⟩
  refine cT h λh=>aX<|aR.n<|aT<|aV<|bz mixed<|aG Y Y<|aH Y Y Y<|aB Y<|aB Y<|aQ Y h λb h=>aI Y Y<|aez (cs':=[ax 0,aoc 2 iq b]) (.one Y (.nil)) (by exact⟨aq,aq,an⟩)<|aeI (l:=[⟨0,b⟩]) (e:=rJ) (.agg Y (.nil)) Y<|aeM Y Y h λf h=>aG Y Y<|aeN Y Y Y (.ob Y)<|de<|bn.n<|aR.n<|aU<|aB Y<|aO h λb h=>aC Y<|aF<|?_;obtain rfl:=aob h;exact aR.n ⟨(b,⟨⟨c.uT.dA,c.uT.lines⟩,c.out,c.units,c.on,f⟩),vi _ Y,wk [(2014,45)]⟩
 subst vS;exact aR.n<|aT<|ow (bT (i:=2009) (e:=gK) (l:=wU.units) Y)<|ow (bT (i:=2010) (e:=eB) (l:=wU.on) Y)<|ow (bT (i:=2014) (e:=rJ) (l:=wU.zO) Y)<|aU<|aK Y Y (.cons Y (.cons Y (.k4 Y Y Y Y)))<|aJ Y Y Y<|dn<|aY<|fP d [.agg (eHr wU)] (by exact⟨.a Y Y (.cons Y (.cons Y (.k4 Y Y Y Y))) Y,an⟩)
theorem EX{D:Hr}{r:Dh×Int}(h:zj D=some r):Pure ah 6 [.agg (eHr D)] (.lK [.agg (eDh r.1),ax r.2]):=by
 refine aZ Tryz.func6 Y λE w vs b=>?_;unfold zj at h;exact sr<|acj Y<|aM (cs:=[aoc 1 (eS 4 eQ) [],aoc 1 (eS 4 eQ) [],aoc 4 eQ [],aoc 4 eQ [],aoc 4 eQ [],aoc 4 eQ [],aoc 4 eQ [],ay false,au,ay false,au,ay false,au,ay false,au]) (by exact⟨aA,aA,aA,aA,aA,aA,aA,aq,aA,aq,aA,aq,aA,aq,aA,an⟩)<|aC Y<|dn<|sr<|aG Y Y<|aK Y Y (.k2 Y Y)<|aG Y Y<|aH Y Y Y<|aG Y Y<|aH Y Y Y<|aG Y Y<|aH Y Y Y<|aG Y Y<|aH Y Y Y<|aE h (λ_=>JH) λ⟨b,c⟩ h=>aP Y Y<|aP Y Y<|aJ Y Y Y<|aC Y<|dn<|aY<|fP h [.agg (eDh b),ax c] (by exact⟨.a Y Y (.cons Y (.cons Y (.cons Y (.cons Y (.cons Y (.cons Y (.cons Y (.cons Y (.cons Y (.cons Y (.cons Y (.k4 Y Y Y Y)))))))))))) Y,.t Y,an⟩)
set_option maxRecDepth 8000 in
theorem Gi{r:Bool}(h:oT=some r):Pure ah 5 [] (ay r):=by
 refine aZ Tryz.func5 Y λE w vs a=>?_;unfold oT at h
 refine sr<|aC Y<|dn<|sr<|aez (cs':=[ax 10,ax 3]) (.one Y (.one Y (.nil))) (by exact⟨aq,aq,an⟩)<|aeI (l:=[⟨10,3⟩]) (e:=iq) (.agg Y (.nil)) Y<|aeI (l:=[[⟨10,3⟩]]) (e:=(eS 2 iq)) (.one Y (.nil)) Y<|aez (cs':=[ax 4,ax 9]) (.one Y (.one Y (.nil))) (by exact⟨aq,aq,an⟩)<|aeI (l:=[⟨4,9⟩]) (e:=iq) (.agg Y (.nil)) Y<|aeI (l:=[[⟨4,9⟩]]) (e:=(eS 2 iq)) (.one Y (.nil)) Y<|aE h (λ_=>S4) λa h=>aM (cs:=[ax 0,aoc 4 nT [],aoc 1 bh [],aoc 9 gK [],aoc 1 eB [],aoc 2 rJ []]) (by exact⟨aq,aA,aA,aA,aA,aA,an⟩)<|aJ Y Y Y<|dn<|sr<|aK Y Y (.cons Y (.cons Y (.k4 Y Y Y Y)))<|aE h (λ_=>EX) λ⟨b,a⟩ h=>aB Y<|aP Y Y<|aP Y Y<|aM (cs:=[aoc 1 (eS 4 eQ) [],aoc 1 (eS 4 eQ) [],aoc 4 eQ [],aoc 4 eQ [],aoc 4 eQ [],aoc 4 eQ [],aoc 4 eQ [],ay false,au,ay false,au,ay false,au,ay false,au]) (by exact⟨aA,aA,aA,aA,aA,aA,aA,aq,aA,aq,aA,aq,aA,aq,aA,an⟩)<|aJ Y Y Y<|aC Y<|dn<|sr<|aez (cs':=[ax 10,ax 3]) (.one Y (.one Y (.nil))) (by exact⟨aq,aq,an⟩)<|aeI (l:=[⟨10,3⟩]) (e:=iq) (.agg Y (.nil)) Y<|aeI (l:=[[⟨10,3⟩]]) (e:=(eS 2 iq)) (.one Y (.nil)) Y<|aez (cs':=[ax 4,ax 9]) (.one Y (.one Y (.nil))) (by exact⟨aq,aq,an⟩)<|aeI (l:=[⟨4,9⟩]) (e:=iq) (.agg Y (.nil)) Y<|aeI (l:=[[⟨4,9⟩]]) (e:=(eS 2 iq)) (.one Y (.nil)) Y<|aE h (λ_=>PZ) λ⟨a,b⟩ h=>aB Y<|aP Y Y<|aP Y Y<|aM (cs:=[ax 0,ax 0,ax 0,aoc 1 bh [],aoc 1 bh []]) (by exact⟨aq,aq,aq,aA,aA,an⟩)<|aJ Y Y Y<|aC Y<|dn<|aT<|?_
 refine bB h (λa=>AS.bM 71 [(0,aj a)] []) (λh=>?_) (λa h=>?_)
 ·refine bz mixed<|aB Y<|bq h λb a h=>?_;replace a:=cn a;refine aB Y<|aeH a λb a=>?_;obtain rfl:=aob a;refine aax Y<|aB Y<|bq h λc a h=>?_;cases b
  ·replace a:=ct a;obtain rfl:=aob a;refine aD<|aD<|aD<|aD<|abE Y<|aB Y<|bq h λc b h=>?_;replace b:=ct b;obtain rfl:=aob b;refine aD<|aD<|aD<|aD<|aD<|aD<|abE Y<|aB Y<|bq h λc b h=>?_;replace b:=ct b;obtain rfl:=aob b;refine aD<|aD<|aD<|aD<|abE Y<|aB Y<|bq h λc b h=>?_;replace b:=ct b;obtain rfl:=aob b;refine aD<|aD<|abE Y<|aB Y<|bq h λc b h=>?_;replace b:=ct b;obtain rfl:=aob b;refine aD<|aD<|aD<|abE Y<|aB Y<|bq h λc b h=>?_;replace b:=ct b;obtain rfl:=aob b;refine aD<|aD<|aD<|abE Y<|aB Y<|bq h λc b h=>?_;replace b:=ct b;cases b;exact aD<|aD<|aD<|abE Y<|aC Y<|de<|aR.n ⟨false,h,wk []⟩
  replace a:=cn a;refine aG Y Y<|aH Y Y Y<|aN a λb a=>aeH a λb a=>?_;obtain rfl:=aob a;refine aax Y<|aB Y<|bq h λc a h=>?_;cases b
  ·replace a:=ct a;obtain rfl:=aob a;refine aD<|aD<|aD<|aD<|aD<|aD<|abE Y<|aB Y<|bq h λc b h=>?_;replace b:=ct b;obtain rfl:=aob b;refine aD<|aD<|aD<|aD<|abE Y<|aB Y<|bq h λc b h=>?_;replace b:=ct b;obtain rfl:=aob b;refine aD<|aD<|abE Y<|aB Y<|bq h λc b h=>?_;replace b:=ct b;obtain rfl:=aob b;refine aD<|aD<|aD<|abE Y<|aB Y<|bq h λc b h=>?_;replace b:=ct b;obtain rfl:=aob b;refine aD<|aD<|aD<|abE Y<|aB Y<|bq h λc b h=>?_;replace b:=ct b;cases b;exact aD<|aD<|aD<|abE Y<|aC Y<|de<|aR.n ⟨false,h,wk []⟩
  replace a:=cn a;refine aG Y Y<|aH Y Y Y<|aQ Y a λb a=>aeC Y (.cons (.cons (.cons (.cons (.nil)))))<|aE a (λ_=>bQ) λb a=>aE a (λ_=>DK) λc a=>?_;obtain rfl:=aob a;refine aax Y<|aB Y<|bq h λb a h=>?_;cases c
  ·replace a:=ct a;obtain rfl:=aob a;refine aD<|aD<|aD<|aD<|abE Y<|aB Y<|bq h λc b h=>?_;replace b:=ct b;obtain rfl:=aob b;refine aD<|aD<|abE Y<|aB Y<|bq h λc b h=>?_;replace b:=ct b;obtain rfl:=aob b;refine aD<|aD<|aD<|abE Y<|aB Y<|bq h λc b h=>?_;replace b:=ct b;obtain rfl:=aob b;refine aD<|aD<|aD<|abE Y<|aB Y<|bq h λc b h=>?_;replace b:=ct b;cases b;exact aD<|aD<|aD<|abE Y<|aC Y<|de<|aR.n ⟨false,h,wk []⟩
  replace a:=cn a;refine aG Y Y<|aK Y Y (.k4 Y Y Y Y)<|aE a (λ_=>bQ) λb a=>aE a (λ_=>DK) λc a=>?_;obtain rfl:=aob a;refine aax Y<|aB Y<|bq h λb a h=>?_;cases c
  ·replace a:=ct a;obtain rfl:=aob a;refine aD<|aD<|abE Y<|aB Y<|bq h λc b h=>?_;replace b:=ct b;obtain rfl:=aob b;refine aD<|aD<|aD<|abE Y<|aB Y<|bq h λc b h=>?_;replace b:=ct b;obtain rfl:=aob b;refine aD<|aD<|aD<|abE Y<|aB Y<|bq h λc b h=>?_;replace b:=ct b;cases b;exact aD<|aD<|aD<|abE Y<|aC Y<|de<|aR.n ⟨false,h,wk []⟩
  replace a:=cn a;refine aB Y<|aeH a λc a=>?_;obtain rfl:=aob a;refine aax Y<|aB Y<|bq h λb a h=>?_;cases c
  ·replace a:=ct a;obtain rfl:=aob a;refine aD<|aD<|aD<|abE Y<|aB Y<|bq h λc b h=>?_;replace b:=ct b;obtain rfl:=aob b;refine aD<|aD<|aD<|abE Y<|aB Y<|bq h λc b h=>?_;replace b:=ct b;cases b;exact aD<|aD<|aD<|abE Y<|aC Y<|de<|aR.n ⟨false,h,wk []⟩
  replace a:=cn a;refine aG Y Y<|aH Y Y Y<|aeH a λc a=>?_;obtain rfl:=aob a;refine aax Y<|aB Y<|bq h λb a h=>?_;cases c
  ·replace a:=ct a;obtain rfl:=aob a;refine aD<|aD<|aD<|abE Y<|aB Y<|bq h λc b h=>?_;replace b:=ct b;cases b;exact aD<|aD<|aD<|abE Y<|aC Y<|de<|aR.n ⟨false,h,wk []⟩
  replace a:=cn a;refine aG Y Y<|aH Y Y Y<|aeH a λb a=>?_;obtain rfl:=aob a;refine aax Y<|aB Y<|bq h λc a h=>?_;cases b
  ·replace a:=ct a;cases a;exact aD<|aD<|aD<|abE Y<|aC Y<|de<|aR.n ⟨false,h,wk []⟩
  replace a:=cn a;refine aG Y Y<|aH Y Y Y<|aeH a λb a=>?_;obtain rfl:=aob a;exact aax Y<|aC Y<|de<|aR.n ⟨b,h,wk []⟩
 exact aR.n<|aY<|f1 h
set_option maxRecDepth 8000 in
theorem EY{D:Hr}{I:Nat}{K:Nat}{H:Int}{r:Bool}(h:iD D I K H=some r):Pure ah 3 [.agg (eHr D),.v (.int .u8 ((I:Nat):Int)),.v (.int .u8 ((K:Nat):Int)),.v (.int .i16 H)] (ay r):=by
 refine aZ Tryz.func3 Y λE w vs a=>?_;unfold iD at h;refine sr<|acj Y<|aC Y<|dn<|aT<|aT<|?_;refine bB h (λa=>AS.bM 112 [(1,.sv (.v (.int .u8 ((I:Nat):Int)))),(2,.sv (.v (.int .u8 ((K:Nat):Int)))),(3,.sv (.v (.int .i16 H))),(4,.ptr 4 0),(28,aj a)] [(4,.box 30 [ai D.uT.dA,aoh 4 nT D.uT.lines,aoh 1 bh D.out,aoh 9 gK D.units,aoh 1 eB D.on,aoh 2 rJ D.zO])]) (λh=>?_) (λc h=>?_)
 ·refine aU<|aK Y Y (.cons Y (.cons Y (.k4 Y Y Y Y)))<|aE h (λ_=>NI) λb h=>aB Y<|bq h λd a h=>?_;cases b
  ·replace a:=ct a;refine aG Y Y<|aH Y Y Y<|aN a λb a=>afy a λd a=>?_;obtain rfl:=aob a;refine abE Y<|aB Y<|bq h λf b h=>?_;cases d
   ·replace b:=ct b;refine aE b (λ_=>Gi) λd b=>agy b λd b=>?_;obtain rfl:=aob b;exact abE Y<|aF<|aR.n ⟨d,h,wk []⟩
   replace b:=cn b;cases b;exact aD<|aD<|aax Y<|aF<|aR.n ⟨true,h,wk []⟩
  replace a:=cn a;obtain rfl:=aob a;refine aD<|aD<|aD<|aD<|aax Y<|aB Y<|bq h λb a h=>?_;replace a:=cn a;cases a;exact aD<|aD<|aax Y<|aF<|aR.n ⟨true,h,wk []⟩
 refine aR.n<|?_;cases c
 ·refine cF h λh=>aX<|aR.n<|sr<|aK Y Y (.cons Y (.cons Y (.k4 Y Y Y Y)))<|aE h (λ_=>EX) λ⟨a,b⟩ h=>aB Y<|aP Y Y<|aP Y Y<|aM (cs:=[aoc 1 (eS 4 eQ) [],aoc 1 (eS 4 eQ) [],aoc 4 eQ [],aoc 4 eQ [],aoc 4 eQ [],aoc 4 eQ [],aoc 4 eQ [],ay false,au,ay false,au,ay false,au,ay false,au]) (by exact⟨aA,aA,aA,aA,aA,aA,aA,aq,aA,aq,aA,aq,aA,aq,aA,an⟩)<|aJ Y Y Y<|aC Y<|dn<|aT<|sr<|aB Y<|aeA h λb h=>dn<|?_;cases b
  ·refine cF h λh=>aX<|aR.n<|aT<|aT<|?_;refine bB h (λb=>AS.bM 112 [(1,.sv (.v (.int .u8 ((I:Nat):Int)))),(2,.sv (.v (.int .u8 ((K:Nat):Int)))),(3,.sv (.v (.int .i16 H))),(4,.ptr 4 0),(9,.ptr 9 0),(49,aj b)] [(9,.box 42 [aoh 1 (eS 4 eQ) a.gen,aoh 1 (eS 4 eQ) a.take,aoh 4 eQ a.inj,aoh 4 eQ a.ID,aoh 4 eQ a.nU,aoh 4 eQ a.lines,aoh 4 eQ a.qA,aj a.vg.num.neg,aoh 1 bf a.vg.num.w,aj a.vg.den.neg,aoh 1 bf a.vg.den.w,aj a.gz.num.neg,aoh 1 bf a.gz.num.w,aj a.gz.den.neg,aoh 1 bf a.gz.den.w]),(4,.box 30 [ai D.uT.dA,aoh 4 nT D.uT.lines,aoh 1 bh D.out,aoh 9 gK D.units,aoh 1 eB D.on,aoh 2 rJ D.zO])]) (λh=>?_) (λb h=>?_)
   ·refine aU<|aG Y Y<|aG Y Y<|aH Y Y Y<|aL h λd h=>aB Y<|bq h λc a h=>?_;cases d
    ·replace a:=ct a;refine aG Y Y<|aH Y Y Y<|aN a λc a=>aG Y Y<|aG Y Y<|aH Y Y Y<|aeA a λc a=>?_;obtain rfl:=aob a;exact abE Y<|aF<|aR.n ⟨c,h,wk []⟩
    replace a:=cn a;cases a;exact aD<|aD<|aD<|aD<|aD<|aD<|aD<|aax Y<|aF<|aR.n ⟨true,h,wk []⟩
   refine aR.n<|?_;cases b
   ·refine cF h λh=>aX<|aR.n<|sr<|aB Y<|aiq h λa h=>aG Y Y<|aG Y Y<|aH Y Y Y<|anh h λc h=>aB Y<|anB h λa h=>aiq h λa h=>aO h λa h=>aC Y<|aC Y<|dn<|sr<|aK Y Y (.cons Y (.cons Y (.k4 Y Y Y Y)))<|aM (cs:=[ax 0,aoc 4 nT [],aoc 1 bh [],aoc 9 gK [],aoc 1 eB [],aoc 2 rJ []]) (by exact⟨aq,aA,aA,aA,aA,aA,an⟩)<|aJ Y Y Y<|dn<|sr<|ajN (l:=([]:List sI)) (e:=gK) (.nil) Y<|aG Y Y<|aH Y Y Y<|aeM Y Y h λb h=>aB Y<|aB Y<|aB Y<|aB Y<|aiq h λb h=>aez (cs':=[ax a,ax b]) (.one Y (.one Y (.nil))) (by exact⟨aq,aq,an⟩)<|aeI (l:=[⟨a,b⟩]) (e:=iq) (.agg Y (.nil)) Y<|aez (cs':=[ax c,ax a,aoc 2 iq [⟨a,b⟩],ax 1,ax 1,ax 0,ax 0,ax 0,ax 1]) (.one Y (.one Y (.one Y (.one Y (.one Y (.one Y (.nil))))))) (by exact⟨aq,aq,aq,aq,aq,aq,aq,aq,aq,an⟩)<|aeI (l:=[⟨c,a,[⟨a,b⟩],1,1,0,0,0,1⟩]) (e:=gK) (.agg Y (.nil)) Y<|aeM Y Y h λb h=>aG Y Y<|aeN Y Y Y (.ob Y)<|dn<|sr<|ajN (l:=([]:List Bool)) (e:=eB) (.nil) Y<|aG Y Y<|aH Y Y Y<|aeM Y Y h λa h=>aeI (l:=[true]) (e:=eB) (.one Y (.nil)) Y<|aeM Y Y h λa h=>aG Y Y<|aeN Y Y Y (.ob Y)<|dn<|aT<|ow (bT (i:=74) (e:=gK) (l:=b) Y)<|ow (bT (i:=81) (e:=eB) (l:=a) Y)<|aU<|aK Y Y (.cons Y (.cons Y (.k4 Y Y Y Y)))<|aE h (λ_=>EX) λ⟨b,a⟩ h=>aB Y<|aP Y Y<|aP Y Y<|aM (cs:=[aoc 1 (eS 4 eQ) [],aoc 1 (eS 4 eQ) [],aoc 4 eQ [],aoc 4 eQ [],aoc 4 eQ [],aoc 4 eQ [],aoc 4 eQ [],ay false,au,ay false,au,ay false,au,ay false,au]) (by exact⟨aA,aA,aA,aA,aA,aA,aA,aq,aA,aq,aA,aq,aA,aq,aA,an⟩)<|aJ Y Y Y<|aC Y<|dn<|aT<|sr<|aB Y<|aeA h λa h=>dn<|?_
    cases a
    ·exact cF h λh=>aX<|aR.n<|sd mixed<|aB Y<|aE h (λ_=>bQ) λa h=>aG Y Y<|aH Y Y Y<|aB Y<|aQ Y h λa h=>aeC Y (.cons (.cons (.cons (.cons (.nil)))))<|aB Y<|aiq h λa h=>aE h (λ_=>bQ) λa h=>aE h (λ_=>iH) λa h=>aE h (λ_=>gO) λa h=>aM (cs:=[ay false,au,ay false,au]) (by exact⟨aq,aA,aq,aA,an⟩)<|aJ Y Y Y<|dd<|sd mixed<|aG Y Y<|aK Y Y (.k4 Y Y Y Y)<|aG Y Y<|aK Y Y (.k4 Y Y Y Y)<|aE h (λ_=>iH) λa h=>aK Y Y (.k4 Y Y Y Y)<|aE h (λ_=>kW) λa h=>agS h λa h=>aC Y<|dd<|aY<|f1 h
    exact cT h λh=>sr<|aB Y<|aeH h λa h=>aC Y<|dn<|aY<|aR.r<|f1 h
   exact cT h λh=>sr<|aC Y<|dn<|aY<|aR.r<|f1 h
  exact cT h λh=>sr<|aC Y<|dn<|aY<|aR.r<|f1 h
 exact cT h λh=>sr<|aE h (λ_=>Gi) λa h=>aC Y<|dn<|aY<|aR.r<|f1 h
end
end Go.Proofs.YtianbhacbgnboaaGreat
namespace Go.Fw
section
theorem Ml{x:Int}(h: -9223372036854775808<=x/\x<=9223372036854775807):IntKind.i64.wrap x=x:=IntWalk.i64_in x h
theorem xO{n:Nat}(h:n<=9223372036854775807):IntKind.i64.wrap (n:Int)=n:=Ml ω
theorem cV{x:Int}(h: -9223372036854775808<=x)(D:x<=9223372036854775807):IntKind.i64.wrap x=x:=Ml ⟨h,D⟩
theorem bC{n:Nat}(h:n<9223372036854775807):IntKind.i64.wrap ((n:Int)+1)=((n+1:Nat):Int):=by rw[Ml ω];simp
theorem oe{n m:Nat}(h:n+m<=9223372036854775807):IntKind.i64.wrap ((n:Int)+(m:Int))=((n+m:Nat):Int):=by rw[Ml ω];simp
theorem Mm{n:Nat}(h:n<=9223372036854775807):IntKind.i64.wrap (((n+1:Nat):Int)-1)=(n:Int):=by rw[Ml ω];omega
theorem bu{α:Type}{l:List α}{i:Nat}{a:α}(h:l[i]? =some a):bV l (i:Int)=some a:=by simp[bV,h]
theorem Ig{α:Type}{l:List α}{a:α}(h:l[0]? =some a):bV l 0=some a:=by simp[bV,h]
theorem adv{α:Type}{l:List α}{a:α}(h:l[1]? =some a):bV l 1=some a:=by simp[bV,h]
theorem bY{α:Type}{l:List α}{i:Nat}(h:i<l.length):fG l (i:Int)=some i:=by simp[fG,h]
theorem cL{α:Type}{l:List α}{i:Nat}{y:α}(h:i<l.length):stM l i y=some (l.set i y):=by simp[stM,h]
theorem adw{α:Type}{b:Nat}{l k:List α}(h:(l.length+k.length)*b<=140737488355328)(D:l.length+k.length<=140737488355328):uE b l k=some (l++k):=by simp[uE,h,D]
theorem ru{α:Type}{b:Nat}{l:List α}{x:α}(D:b<=100)(h:l.length<=1000000000000):uE b l [x]=some (l++[x]):=by
 apply adw
 ·have:(l.length+[x].length)*b<=1000000000001*100:=Nat.mul_le_mul θ D;omega
 simp;omega
theorem amp{α:Type}{b:Nat}{l k:List α}(D:b<=100)(h:l.length+k.length<=1000000000000):uE b l k=some (l++k):=by
 apply adw
 ·have:(l.length+k.length)*b<=1000000000000*100:=Nat.mul_le_mul h D;omega
 omega
theorem QD{α:Type}{b:Nat}{n:Nat}(D:b<=100)(h:n<=1000000000000):RA (α:=α) b (n:Int)=some []:=by
 have:b*n<=100*1000000000000:=Nat.mul_le_mul D h;have a:(b:Int)*(n:Int)=((b*n:Nat):Int):=by simp
 unfold RA;rw[a,if_pos ⟨by omega,by omega,by omega⟩]
theorem fE{α:Type}{b:Nat}{n:Nat}{z:α}(D:b<=100)(h:n<=1000000000000):uF b (n:Int) z=some (List.replicate n z):=by
 have:b*n<=100*1000000000000:=Nat.mul_le_mul D h;have a:(b:Int)*(n:Int)=((b*n:Nat):Int):=by simp
 unfold uF;rw[a,if_pos ⟨by omega,by omega,by omega⟩,Int.toNat_natCast]
theorem Mn{α:Type}{l:List α}{i j:Nat}(h:i<=j)(D:j<=l.length):Kk l (i:Int) (j:Int)=some (cut l i j):=by
 unfold Kk;rw[if_pos ⟨by omega,by omega,by omega⟩];simp
theorem C1{α:Type}{l:List α}{j:Nat}(D:j<=l.length):Kk l 0 (j:Int)=some (l.take j):=by
 have:=Mn (l:=l) (i:=0) (j:=j) ω D;simpa[cut]using this
theorem AD{M a b:Nat}(h:b<=a)(D:a<M):vf M a b=a-b:=by
 unfold vf;rw[show(a:Int)-(b:Int)=((a-b:Nat):Int) by omega,<-Int.natCast_emod,Int.toNat_natCast,Nat.mod_eq_of_lt ω]
theorem J5{M a b:Nat}(h:a<b)(D:b<=M):vf M a b=M+a-b:=by
 unfold vf;have:((a:Int)-(b:Int))%(M:Int)=((M+a-b:Nat):Int):=by
  rw[<-Int.add_emod_right (a:=(a:Int)-b),show(a:Int)-(b:Int)+(M:Int)=((M+a-b:Nat):Int) by omega,<-Int.natCast_emod,Nat.mod_eq_of_lt ω]
 rw[this,Int.toNat_natCast]
theorem J6{o n i:Nat}(h:i<n):ckR o n (i:Int)=some (o+i):=by simp[ckR,h]
theorem zm{α:Type}{l D:List α}(h:D.length=l.length):xu l D=some ():=by simp[xu,h]
theorem QE{M a b:Nat}(h:b≠0)(D:a<M):M4 M a b=some (a/b):=by
 unfold M4;rw[if_neg h,Nat.mod_eq_of_lt (Nat.lt_of_le_of_lt (Nat.div_le_self _ _) D)]
theorem J7{a b:Nat}(h:b≠0):Kl a b=some (a%b):=by unfold Kl;rw[if_neg h]
theorem dj{α β:Type}{a:α}{f:α->Option β}:Option.bind (some a) f=f a:=by
 have h:∀o,o=some a->Option.bind o f=f a:=by intro o b;rw[b];rfl
 exact h _ Y
theorem pL{α:Type}{x y:α}:(bif true then x else y)=x:=by
 have h:∀b,b=true->(bif b then x else y)=x:=by intro b a;rw[a];rfl
 exact h _ Y
theorem qo{α:Type}{x y:α}:(bif false then x else y)=y:=by
 have h:∀b,b=false->(bif b then x else y)=y:=by intro b a;rw[a];rfl
 exact h _ Y
theorem zo{S E R:Type}{body:S->Option (S⊕E)}{s:S}{f:E->Option R}{r:R}(I:S->Prop)(D:E->Prop)(μ:S->Nat)
  (step:∀s,I s->(∃s',body s=some (.inl s')/\I s'/\μ s'<μ s)\/(∃e,body s=some (.inr e)/\D e)) (h:I s) (hf:∀e,D e->f e=some r):(bH body s).bind f=some r:=by
 obtain⟨e,b,a⟩:=GU I D μ step h;rw[b];exact hf e a
theorem QF{S E R:Type}{body:S->Option (S⊕E)}{s:S}{f:E->Option R}{Q:R->Prop}(I:S->Prop)(D:E->Prop)(μ:S->Nat)
  (step:∀s,I s->(∃s',body s=some (.inl s')/\I s'/\μ s'<μ s)\/(∃e,body s=some (.inr e)/\D e)) (h:I s) (hf:∀e,D e->∃r,f e=some r/\Q r):∃r,(bH body s).bind f=some r/\Q r:=by
 obtain⟨e,b,a⟩:=GU I D μ step h;rw[b];exact hf e a
theorem jU{S E R:Type}{body:S->Option (S⊕E)}{s:S}{f:E->Option R}{r:R}(D:Nat->S)(n:Nat)(e:E)(K:s=D 0)(H:∀k,k<n->body (D k)=some (.inl (D (k+1))))(he:body (D n)=some (.inr e))(I:f e=some r):(bH body s).bind f=some r:=by
 rw[K,yH D n H he];exact I
theorem wV{S R:Type}{body:Nat->S->Option S}{s:S}{f:S->Option R}{r:R}(D:Nat->S){n:Nat}(K:s=D 0)(H:∀k,k<n->body k (D k)=some (D (k+1)))(I:f (D n)=some r):(nH body n s).bind f=some r:=by
 rw[K,G0 D n H];exact I
theorem cm{α:Type}{b:Bool}{x y r:α}(D:b=true)(h:x=r):(bif b then x else y)=r:=by rw[D];exact h
theorem cq{α:Type}{b:Bool}{x y r:α}(D:b=false)(h:y=r):(bif b then x else y)=r:=by rw[D];exact h
end
section
def val(B:Nat):List Nat->Nat
 |[]=>0
 |x::l=>x+B*val B l
def jV(B:Nat):Nat->Nat->List Nat
 |0,_=>[]
 |n+1,v=>v%B::jV B n (v/B)
def sy(D:List Nat):List Nat:=(D.reverse.dropWhile (· ==0)).reverse
def can(B v:Nat):List Nat:=sy (jV B v v)
theorem cw(B:Nat):∀n v,(jV B n v).length=n
 |0,_=>rfl
 |n+1,v=>by simp[jV,cw B n]
theorem sA(B:Nat):∀n v,val B (jV B n v)=v%B^n
 |0,v=>by simp[jV,val,Nat.mod_one]
 |n+1,v=>by
  rw[jV,val,sA B n,Nat.pow_succ,Nat.mul_comm (B^n) B,Nat.mod_mul]
theorem uR{B:Nat}(D:0<B):∀(n v x:Nat),x∈jV B n v->x<B
 |n+1,v,x,h=>by
  rcases List.mem_cons.1 h with rfl|h
  ·exact Nat.mod_lt _ D
  exact uR D n _ x h
theorem nQ{B:Nat}:∀(l:List Nat),(∀x∈l,x<B)->val B l<B^l.length
 |[],_=>by simp[val]
 |x::l,h=>by
  have a:=nQ l (λy b=>h y (List.mem_cons_of_mem _ b));have b:=h x η;rw[val,List.length_cons,Nat.pow_succ]
  calc x+B*val B l<B+B*val B l:=by omega
   _=B*(val B l+1):=by rw[Nat.mul_add];omega
   _<=B*B^l.length:=Nat.mul_le_mul_left _ a
   _=B^l.length*B:=Nat.mul_comm _ _
theorem J8{B:Nat}:∀(l:List Nat),(∀x∈l,x<B)->jV B l.length (val B l)=l
 |[],_=>rfl
 |x::l,h=>by
  have a:=h x η;have b:0<B:=by omega
  rw[List.length_cons,jV,val,Nat.add_mul_mod_self_left,Nat.mod_eq_of_lt a,Nat.add_mul_div_left _ _ b,Nat.div_eq_of_lt a,Nat.zero_add,J8 l (λy a=>h y (List.mem_cons_of_mem _ a))]
theorem Gj{B:Nat}:∀(n v j:Nat),j<n->(jV B n v)[j]? =some (v/B^j%B)
 |n+1,v,0,_=>by simp[jV]
 |n+1,v,j+1,h=>by
  rw[jV,List.getElem?_cons_succ,Gj n _ j ω,Nat.div_div_eq_div_mul,Nat.pow_succ,Nat.mul_comm B]
theorem QG{B:Nat}:∀(a b:List Nat),val B (a++b)=val B a+B^a.length*val B b
 |[],b=>by simp[val]
 |x::a,b=>by
  rw[List.cons_append,val,val,QG a b,List.length_cons,Nat.pow_succ,Nat.mul_add,Nat.add_assoc,Nat.mul_comm (B^a.length) B,Nat.mul_assoc]
theorem wW{B:Nat}:∀(n v:Nat),jV B (n+1) v=jV B n v++[v/B^n%B]
 |0,v=>by simp[jV]
 |n+1,v=>by
  rw[jV,wW n,jV,List.cons_append,Nat.div_div_eq_div_mul,Nat.pow_succ,Nat.mul_comm B]
theorem CE(B:Nat):∀k,jV B k 0=List.replicate k 0
 |0=>rfl
 |k+1=>by rw[jV,Nat.zero_mod,Nat.zero_div,CE B k];rfl
theorem Mo{B:Nat}(D:0<B):∀(n k v:Nat),v<B^n->jV B (n+k) v=jV B n v++List.replicate k 0
 |0,k,v,h=>by
  have:v=0:=by simpa using h
  subst this;rw[Nat.zero_add,CE];rfl
 |n+1,k,v,h=>by
  rw[show n+1+k=n+k+1 by omega,jV,jV,List.cons_append,Mo D n k (v/B) (by rw[Nat.div_lt_iff_lt_mul D];rwa[Nat.pow_succ]at h)]
theorem AE{B:Nat}(D:2<=B):∀v,v<B^v
 |0=>by simp
 |v+1=>by
  have:=AE D v;rw[Nat.pow_succ];have a:B^v*2<=B^v*B:=Nat.mul_le_mul_left _ D;omega
theorem AF(l:List Nat):sy (l++[0])=sy l:=by simp[sy]
theorem CF(l:List Nat):∀k,sy (l++List.replicate k 0)=sy l
 |0=>by simp
 |k+1=>by rw[List.replicate_succ',<-List.append_assoc,AF,CF l k]
theorem EZ(l:List Nat){x:Nat}(h:x≠0):sy (l++[x])=l++[x]:=by simp[sy,h]
theorem E4(xs:List Nat):xs=[]\/(∃a,xs=a++[0])\/(∃a y,y≠0/\xs=a++[y]):=by
 rcases List.eq_nil_or_concat xs with rfl|⟨a,y,rfl⟩
 ·exact .inl Y
 by_cases b:y=0
 ·subst b;exact .inr (.inl ⟨a,by simp⟩)
 exact .inr (.inr ⟨a,y,b,by simp⟩)
theorem Ih:∀(n:Nat) (l:List Nat),l.length=n->∃k,l=sy l++List.replicate k 0:=by
 intro n
 induction n with
 |zero=>intro l h;obtain rfl:=List.length_eq_zero_iff.1 h;exact⟨0,Y⟩
 |succ n d=>
  intro l h;rcases E4 l with rfl|⟨a,rfl⟩|⟨a,y,b,rfl⟩
  ·simp at h
  ·obtain⟨k,c⟩:=d a (by simpa using h);refine⟨k+1,?_⟩;rw[AF,List.replicate_succ',<-List.append_assoc,<-c]
  exact⟨0,by rw[EZ _ b];simp⟩
theorem YR{l:List Nat}{x:Nat}(h:x∈sy l):x∈l:=by
 obtain⟨k,a⟩:=Ih _ l Y;rw[a];exact List.mem_append_left _ h
theorem OR(l:List Nat):(sy l).length<=l.length:=by
 obtain⟨k,a⟩:=Ih _ l Y;have:=congrArg List.length a;rw[List.length_append]at this;omega
theorem OS(B:Nat):∀k,val B (List.replicate k 0)=0
 |0=>rfl
 |k+1=>by rw[List.replicate_succ,val,OS B k];simp
theorem adx(B:Nat)(l:List Nat):val B (sy l)=val B l:=by
 obtain⟨k,a⟩:=Ih _ l Y
 conv=>rhs;rw[a,QG,OS]
 simp
theorem S5{B:Nat}(D:2<=B){n v:Nat}(h:v<B^n):sy (jV B n v)=can B v:=by
 have b:=AE D v;rcases Nat.le_total n v with a|a
 ·obtain⟨k,rfl⟩:=Nat.exists_eq_add_of_le a;rw[can,Mo ω n k _ h,CF]
 obtain⟨k,rfl⟩:=Nat.exists_eq_add_of_le a;rw[can,Mo ω v k _ b,CF]
theorem zu{B:Nat}(D:2<=B){l:List Nat}(h:∀x∈l,x<B):sy l=can B (val B l):=by
 conv=>lhs;rw[<-J8 l h]
 exact S5 D (nQ l h)
theorem AG{B:Nat}(D:2<=B)(v:Nat):val B (can B v)=v:=by
 rw[can,adx,sA,Nat.mod_eq_of_lt (AE D v)]
theorem sB{B:Nat}(D:2<=B){v x:Nat}(h:x∈can B v):x<B:=uR ω v v x (YR h)
theorem CG(B:Nat):can B 0=[]:=rfl
theorem QH{B:Nat}(D:2<=B){v:Nat}(h:can B v=[]):v=0:=by have:=AG D v;rw[h]at this;exact this.symm
theorem agk{B:Nat}(D:2<=B){v n:Nat}(h:v<B^n):(can B v).length<=n:=by
 rw[<-S5 D h];have:=OR (jV B n v);rwa[cw]at this
theorem agl{B:Nat}(D:2<=B)(v:Nat):sy (can B v)=can B v:=by
 rw[zu D (λx a=>sB D a),AG D]
theorem agm{B:Nat}(D:2<=B)(v:Nat):can B v=jV B (can B v).length v:=by
 have:=J8 (can B v) (λx a=>sB D a);rw[AG D]at this;exact this.symm
theorem gI{B:Nat}(D:2<=B)(v:Nat):v<B^(can B v).length:=by
 have:=nQ (can B v) (λx a=>sB D a);rwa[AG D]at this
theorem QI{B:Nat}(D:2<=B){v j:Nat}(h:j<(can B v).length):(can B v)[j]? =some (v/B^j%B):=by
 rw[agm D v]at h⊢;rw[cw]at h;exact Gj _ _ _ h
theorem Mp{B:Nat}(D:2<=B){v j:Nat}(h:(can B v).length<=j):v/B^j=0:=by
 refine Nat.div_eq_of_lt (Nat.lt_of_lt_of_le (gI D v) ?_);exact Nat.pow_le_pow_right ω h
theorem S6{B:Nat}(D:2<=B){v:Nat}(h:v≠0):∃l x,x≠0/\can B v=l++[x]:=by
 rcases E4 (can B v)with e|⟨a,e⟩|⟨a,y,d,e⟩
 ·exact absurd (QH D e) h
 ·exfalso;have c:=agl D v;rw[e,AF]at c;have b:=OR a;rw[c]at b;simp at b;omega
 exact⟨a,y,d,e⟩
theorem DX{B:Nat}(D:2<=B){v n:Nat}(h:n<(can B v).length):B^n<=v:=by
 by_cases a:v=0
 ·subst a;simp[CG]at h
 obtain⟨l,x,b,e⟩:=S6 D a;have a:=AG D v;rw[e,QG]at a;have hl:n<=l.length:=by rw[e]at h;simp at h;omega
 have a:B^n<=B^l.length:=Nat.pow_le_pow_right ω hl;have a:B^l.length<=B^l.length*val B [x]:=Nat.le_mul_of_pos_right _ (by simp[val];omega);omega
theorem ju{B:Nat}(D:2<=B){v n:Nat}:(can B v).length<=n↔v<B^n:=by
 refine⟨λh=>?_,agk D⟩;exact Nat.lt_of_lt_of_le (gI D v) (Nat.pow_le_pow_right ω h)
theorem ady{B:Nat}(H:2<=B){l:List Nat}{x:Nat}(D:x≠0)(h:∀y∈l++[x],y<B):l++[x]=can B (val B (l++[x])):=by
 rw[<-zu H h,EZ _ D]
theorem zw{B:Nat}:∀(l:List Nat),(∀x∈l,x<B)->∀k,l.getD k 0=val B l/B^k%B
 |[],_,k=>by simp[val]
 |x::l,h,0=>by
  have a:=h x η;simp[val,Nat.add_mul_mod_self_left,Nat.mod_eq_of_lt a]
 |x::l,h,k+1=>by
  have a:=h x η;have c:0<B:=by omega
  rw[List.getD_cons_succ,zw l (λy b=>h y (List.mem_cons_of_mem _ b)) k,val,Nat.pow_succ,Nat.mul_comm (B^k) B,<-Nat.div_div_eq_div_mul,Nat.add_mul_div_left _ _ c,Nat.div_eq_of_lt a,Nat.zero_add]
theorem k7(B V k:Nat):V%B^(k+1)=V%B^k+B^k*(V/B^k%B):=by
 rw[Nat.pow_succ,Nat.mod_mul]
def Ru(B V W k:Nat):Nat:=(V%B^k+W%B^k)/B^k
theorem VR{B:Nat}(D:0<B)(V W k:Nat):Ru B V W k<=1:=by
 have a:0<B^k:=Nat.pow_pos D;have b:=Nat.mod_lt V a;have b:=Nat.mod_lt W a;have:Ru B V W k<2:=by rw[Ru,Nat.div_lt_iff_lt_mul a];omega
 omega
theorem S7{B:Nat}(D:0<B)(V W k:Nat):(V/B^k%B+W/B^k%B+Ru B V W k)/B=Ru B V W (k+1):=by
 have a:0<B^k:=Nat.pow_pos D;rw[Ru,Ru,k7,k7,Nat.pow_succ,<-Nat.div_div_eq_div_mul];congr 1;rw[show V%B^k+B^k*(V/B^k%B)+(W%B^k+B^k*(W/B^k%B))=(V%B^k+W%B^k)+B^k*(V/B^k%B+W/B^k%B) by rw[Nat.mul_add];omega,Nat.add_mul_div_left _ _ a];omega
theorem QJ{B:Nat}(D:0<B)(V W k:Nat):(V/B^k%B+W/B^k%B+Ru B V W k)%B=(V+W)/B^k%B:=by
 have a:0<B^k:=Nat.pow_pos D;have h:(V+W)/B^k=V/B^k+W/B^k+Ru B V W k:=by
  have c:=Nat.div_add_mod V (B^k);have b:=Nat.div_add_mod W (B^k);rw[Ru]
  conv=>lhs;rw[<-c,<-b]
  rw[show B^k*(V/B^k)+V%B^k+(B^k*(W/B^k)+W%B^k)=(V%B^k+W%B^k)+B^k*(V/B^k+W/B^k) by rw[Nat.mul_add];omega,Nat.add_mul_div_left _ _ a];omega
 rw[h];simp[Nat.add_mod]
theorem agn{B:Nat}{V W k:Nat}(D:V<B^k)(H:W<B^k):Ru B V W k=(V+W)/B^k:=by
 rw[Ru,Nat.mod_eq_of_lt D,Nat.mod_eq_of_lt H]
theorem S8(B V W:Nat):Ru B V W 0=0:=by simp[Ru,Nat.mod_one]
def JK(B V W k:Nat):Nat:=(V%B^k+B^k-W%B^k)/B^k
theorem S9(B V W:Nat):JK B V W 0=1:=by simp[JK,Nat.mod_one]
theorem adz{B:Nat}(D:0<B)(V W k:Nat):JK B V W k<=1:=by
 have a:0<B^k:=Nat.pow_pos D;have b:=Nat.mod_lt V a;have:JK B V W k<2:=by
  rw[JK,Nat.div_lt_iff_lt_mul a];generalize W%B^k=y at*;generalize V%B^k=x at*;omega
 omega
theorem Xn{B:Nat}(D:0<B)(V W k:Nat):V%B^(k+1)+B^(k+1)-W%B^(k+1)=(V%B^k+B^k-W%B^k)+B^k*(V/B^k%B+(B-1-W/B^k%B)):=by
 have a:0<B^k:=Nat.pow_pos D;have b:=Nat.mod_lt V a;have b:=Nat.mod_lt W a;have a:=Nat.mod_lt (W/B^k) D;rw[k7,k7,Nat.pow_succ];generalize B^k=p at*;generalize V/p%B=x at*;generalize W/p%B=y at*;obtain⟨z,rfl⟩:∃z,B=y+1+z:=⟨B-y-1,by omega⟩;have a:y+1+z-1-y=z:=by omega
 rw[a,Nat.mul_add p x z,Nat.mul_add p (y+1) z,Nat.mul_add p y 1];omega
theorem Ta{B:Nat}(D:0<B)(V W k:Nat):(V/B^k%B+(B-1-W/B^k%B)+JK B V W k)/B=JK B V W (k+1):=by
 have a:0<B^k:=Nat.pow_pos D;rw[JK,JK,Xn D,Nat.pow_succ,<-Nat.div_div_eq_div_mul,Nat.add_mul_div_left _ _ a];congr 1;omega
theorem VS{Q V W:Nat}(D:0<Q)(h:W<=V):(V%Q+Q-W%Q)%Q=(V-W)%Q:=by
 have e:=Nat.div_add_mod V Q;have d:=Nat.div_add_mod W Q;have d:=Nat.mod_lt V D;have d:=Nat.mod_lt W D;have d:W/Q<=V/Q:=Nat.div_le_div_right h;generalize V%Q=r at*;generalize W%Q=s at*;generalize V/Q=a at*;generalize W/Q=b at*;obtain⟨c,rfl⟩:=Nat.exists_eq_add_of_le d;rw[Nat.mul_add]at e;rcases Nat.lt_or_ge r s with d|d
 ·cases c with
  |zero=>simp at e;omega
  |succ c=>
   rw[Nat.mul_add,Nat.mul_one]at e;rw[show V-W=Q*c+(r+Q-s) by omega,Nat.mul_add_mod]
 rw[show V-W=Q*c+(r-s) by omega,Nat.mul_add_mod,show r+Q-s=r-s+Q by omega,Nat.add_mod_right]
theorem Xo{B:Nat}(D:0<B){V W:Nat}(h:W<=V)(k:Nat):(V/B^k%B+(B-1-W/B^k%B)+JK B V W k)%B=(V-W)/B^k%B:=by
 have a:0<B^k:=Nat.pow_pos D;have b:0<B^(k+1):=Nat.pow_pos D;have e:=VS b h;have b:V/B^k%B+(B-1-W/B^k%B)+JK B V W k=(V%B^(k+1)+B^(k+1)-W%B^(k+1))/B^k:=by
  rw[Xn D,Nat.add_mul_div_left _ _ a,JK];omega
 rw[b,<-Nat.mod_mul_right_div_self,<-Nat.mod_mul_right_div_self,<-Nat.pow_succ,e]
end
section
theorem Xp{B:Nat}(D:0<B):∀(j N a p d b:Nat),a<B^j->p<B->d<B->j<N->(jV B N (a+B^j*(p+B*b))).set j d=jV B N (a+B^j*(d+B*b))
 |0,N+1,a,p,d,b,c,hp,f,_=>by
  have:a=0:=by simpa using c
  subst this;simp only[Nat.pow_zero,Nat.zero_add,Nat.one_mul,jV,List.set_cons_zero,Nat.add_mul_mod_self_left,Nat.mod_eq_of_lt f];rw[Nat.add_mul_div_left _ _ D,Nat.add_mul_div_left _ _ D,Nat.div_eq_of_lt hp,Nat.div_eq_of_lt f]
 |j+1,N+1,a,p,d,b,c,hp,f,g=>by
  have e:∀q,(a+B^(j+1)*(q+B*b))%B=a%B:=λq=>by
   rw[Nat.pow_succ,Nat.mul_comm (B^j) B,Nat.mul_assoc,Nat.add_mul_mod_self_left]
  have h:∀q,(a+B^(j+1)*(q+B*b))/B=a/B+B^j*(q+B*b):=λq=>by
   rw[Nat.pow_succ,Nat.mul_comm (B^j) B,Nat.mul_assoc,Nat.add_mul_div_left _ _ D]
  have g:a/B<B^j:=by rw[Nat.div_lt_iff_lt_mul D];rwa[Nat.pow_succ]at c
  rw[jV,jV,List.set_cons_succ,e,e,h,h,Xp D j N (a/B) p d b g hp f ω]
theorem C2{B:Nat}(H:0<B){N j u D d:Nat}(hj:j<N)(hd:d<B)(K:D%B^j=u%B^j)(amq:D/B^j%B=d)(I:D/B^(j+1)=u/B^(j+1)):(jV B N u).set j d=jV B N D:=by
 have b:0<B^j:=Nat.pow_pos H;have f:∀u,u=u%B^j+B^j*(u/B^j%B+B*(u/B^(j+1))):=λu=>by
  have c:=Nat.mod_add_div u (B^j);have a:=YS B u j;rw[Nat.add_comm]at a;rw[<-a,c]
 rw[f u,Xp H j N _ _ d _ (Nat.mod_lt _ b) (Nat.mod_lt _ H) hd hj]
 conv=>rhs;rw[f D,K,amq,I]
where
 YS (B v m:Nat):v/B^m=B*(v/B^(m+1))+v/B^m%B:=by
  rw[Nat.pow_succ,<-Nat.div_div_eq_div_mul,Nat.div_add_mod]
def mT(B V W i k:Nat):Nat:=((V%B^i)*W)%B^(i+k)+B^i*(V/B^i%B)*(W%B^k)
def mC(B V W i k:Nat):Nat:=mT B V W i k/B^(i+k)
def mV(B V W i k:Nat):Nat:=mT B V W i k%B^(i+k)+B^(i+k)*(((V%B^i)*W)/B^(i+k))
theorem ai6{B:Nat}(D:0<B)(V W i k:Nat):mT B V W i k<B^(i+k)*B:=by
 have a:((V%B^i)*W)%B^(i+k)<B^(i+k):=Nat.mod_lt _ (Nat.pow_pos D);have a:V/B^i%B<B:=Nat.mod_lt _ D;have a:W%B^k<B^k:=Nat.mod_lt _ (Nat.pow_pos D);have c:B^i*(V/B^i%B)*(W%B^k)<=B^i*(B-1)*B^k:=Nat.mul_le_mul (Nat.mul_le_mul_left _ ω) (Nat.le_of_lt a);have a:B^i*(B-1)*B^k=B^(i+k)*(B-1):=by rw[Nat.pow_add,Nat.mul_assoc,Nat.mul_assoc,Nat.mul_comm (B-1)]
 have a:B^(i+k)*B=B^(i+k)*(B-1)+B^(i+k):=by
  obtain⟨b,rfl⟩:∃b,B=b+1:=⟨B-1,by omega⟩;rw[Nat.add_sub_cancel,Nat.mul_add,Nat.mul_one]
 unfold mT;omega
theorem ai7{B:Nat}(D:0<B)(V W i k:Nat):mC B V W i k<B:=by
 rw[mC,Nat.div_lt_iff_lt_mul (Nat.pow_pos D),Nat.mul_comm];exact ai6 D V W i k
theorem QK{B:Nat}(V W i k:Nat):mT B V W i (k+1)=mT B V W i k+B^(i+k)*(((V%B^i)*W)/B^(i+k)%B+(V/B^i%B)*(W/B^k%B)):=by
 have b:((V%B^i)*W)%B^(i+(k+1))=((V%B^i)*W)%B^(i+k)+B^(i+k)*(((V%B^i)*W)/B^(i+k)%B):=by rw[<-Nat.add_assoc,k7]
 have a:W%B^(k+1)=W%B^k+B^k*(W/B^k%B):=k7 B W k;unfold mT;rw[b,a,Nat.mul_add,Nat.mul_add (B^(i+k))];have a:B^i*(V/B^i%B)*(B^k*(W/B^k%B))=B^(i+k)*((V/B^i%B)*(W/B^k%B)):=by
  rw[Nat.pow_add,Nat.mul_assoc,Nat.mul_assoc,Nat.mul_left_comm (V/B^i%B)]
 omega
theorem ago{B:Nat}(D:0<B)(V W i k:Nat):(((V%B^i)*W)/B^(i+k)%B+(V/B^i%B)*(W/B^k%B)+mC B V W i k)/B=mC B V W i (k+1):=by
 have a:0<B^(i+k):=Nat.pow_pos D;rw[mC,mC,QK,<-Nat.add_assoc,Nat.pow_succ,<-Nat.div_div_eq_div_mul,Nat.add_mul_div_left _ _ a];congr 1;omega
theorem ai8{B:Nat}(V W i k:Nat):mV B V W i k%B^(i+k)=mT B V W i k%B^(i+k):=by
 rw[mV,Nat.add_mul_mod_self_left,Nat.mod_mod]
theorem Xq{B:Nat}(D:0<B)(V W i k:Nat):mV B V W i k/B^(i+k)=((V%B^i)*W)/B^(i+k):=by
 have a:0<B^(i+k):=Nat.pow_pos D;rw[mV,Nat.add_mul_div_left _ _ a,Nat.div_eq_of_lt (Nat.mod_lt _ a),Nat.zero_add]
theorem amr{B:Nat}(D:0<B){V W i k N:Nat}(h:i+k<N):(jV B N (mV B V W i k))[i+k]? =some (((V%B^i)*W)/B^(i+k)%B):=by
 rw[Gj _ _ _ h,Xq D]
theorem agp{B:Nat}(D:0<B){V W i k N:Nat}(h:i+k<N):
  (jV B N (mV B V W i k)).set (i+k) ((((V%B^i)*W)/B^(i+k)%B+(V/B^i%B)*(W/B^k%B)+mC B V W i k)%B)=jV B N (mV B V W i (k+1)):=by
 have b:0<B^(i+k):=Nat.pow_pos D;have a:B^(i+(k+1))=B^(i+k)*B:=by rw[<-Nat.add_assoc,Nat.pow_succ]
 have c:mT B V W i (k+1)/B^(i+k)=((V%B^i)*W)/B^(i+k)%B+(V/B^i%B)*(W/B^k%B)+mC B V W i k:=by
  rw[QK,Nat.add_mul_div_left _ _ b,mC];omega
 have ht:mT B V W i (k+1)%B^(i+k)=mT B V W i k%B^(i+k):=by rw[QK,Nat.add_mul_mod_self_left]
 refine C2 D h (Nat.mod_lt _ D) ?_ ?_ ?_
 ·rw[ai8,<-ht,mV,a,Nat.mul_assoc,Nat.add_mul_mod_self_left,Nat.mod_mul_right_mod]
 ·rw[mV,a,Nat.mul_assoc,Nat.add_mul_div_left _ _ b,Nat.add_mul_mod_self_left,Nat.mod_mul_right_div_self,Nat.mod_mod,c]
 rw[show i+k+1=i+(k+1) by omega,Xq D,show i+(k+1)=i+k+1 by omega,Nat.pow_succ,<-Nat.div_div_eq_div_mul,<-Nat.div_div_eq_div_mul,Xq D]
theorem agq{B:Nat}(V W i:Nat):mV B V W i 0=(V%B^i)*W:=by
 rw[mV,mT,Nat.pow_zero,Nat.mod_one,Nat.mul_zero,Nat.add_zero,Nat.add_zero,Nat.mod_mod,Nat.mod_add_div]
theorem agr{B:Nat}(D:0<B)(V W i:Nat):mC B V W i 0=0:=by
 rw[mC,mT,Nat.pow_zero,Nat.mod_one,Nat.mul_zero,Nat.add_zero,Nat.add_zero];exact Nat.div_eq_of_lt (Nat.mod_lt _ (Nat.pow_pos D))
theorem ams{B:Nat}(D:0<B){V W i n N:Nat}(H:W<B^n)(h:i+n<N):(jV B N (mV B V W i n)).set (i+n) ((0+mC B V W i n)%B)=jV B N ((V%B^(i+1))*W):=by
 have a:0<B^(i+n):=Nat.pow_pos D;have hp:(V%B^i)*W<B^(i+n):=by
  have a:V%B^i<B^i:=Nat.mod_lt _ (Nat.pow_pos D);rw[Nat.pow_add];by_cases b:W=0
  ·subst b;rw[Nat.mul_zero];exact Nat.mul_pos (Nat.pow_pos D) (Nat.pow_pos D)
  calc (V%B^i)*W<B^i*W:=Nat.mul_lt_mul_of_pos_right a ω
   _<=B^i*B^n:=Nat.mul_le_mul_left _ (Nat.le_of_lt H)
 have b:mT B V W i n=(V%B^(i+1))*W:=by
  rw[mT,Nat.mod_eq_of_lt hp,Nat.mod_eq_of_lt H,k7,Nat.add_mul]
 have a:=ai6 D V W i n;rw[b]at a;refine C2 D h (Nat.mod_lt _ D) ?_ ?_ ?_
 ·rw[ai8,b]
 ·rw[Nat.zero_add,mC,b]
 rw[Nat.pow_succ B (i+n),Nat.div_eq_of_lt a,<-Nat.div_div_eq_div_mul,Xq D,Nat.div_eq_of_lt hp,Nat.zero_div]
def sT(B V f e i:Nat):Nat:=V%B^i*f+e
def sC(B V f e i:Nat):Nat:=sT B V f e i/B^i
theorem Xr(B V f e:Nat):sC B V f e 0=e:=by simp[sC,sT,Nat.mod_one]
theorem Xs(B V f e i:Nat):sT B V f e (i+1)=sT B V f e i+B^i*(V/B^i%B*f):=by
 unfold sT;rw[k7,Nat.add_mul,Nat.mul_assoc];omega
theorem Xt{B:Nat}(D:0<B)(V f e i:Nat):(V/B^i%B*f+sC B V f e i)/B=sC B V f e (i+1):=by
 have a:0<B^i:=Nat.pow_pos D;rw[sC,sC,Xs,Nat.pow_succ,<-Nat.div_div_eq_div_mul,Nat.add_mul_div_left _ _ a];congr 1;omega
theorem adA{B:Nat}(D:0<B)(V f e i:Nat):(V/B^i%B*f+sC B V f e i)%B=(V*f+e)/B^i%B:=by
 have a:0<B^i:=Nat.pow_pos D;have b:V*f+e=sT B V f e (i+1)+B^i*(B*(V/B^(i+1)*f)):=by
  have c:=Nat.mod_add_div V (B^(i+1));unfold sT
  conv=>lhs;rw[<-c,Nat.add_mul]
  rw[Nat.pow_succ,Nat.mul_assoc,Nat.mul_assoc];omega
 rw[b,Nat.add_mul_div_left _ _ a,Nat.add_mul_mod_self_left,Xs,Nat.add_mul_div_left _ _ a,sC,Nat.add_comm]
theorem ai9{B:Nat}(D:0<B){V f e:Nat}(H:f<B)(I:e<B)(i:Nat):sC B V f e i<B:=by
 have a:0<B^i:=Nat.pow_pos D;rw[sC,Nat.div_lt_iff_lt_mul a];have c:V%B^i<=B^i-1:=by have:=Nat.mod_lt V a;omega
 have a:V%B^i*f<=(B^i-1)*(B-1):=Nat.mul_le_mul c ω;obtain⟨p,hp⟩:∃p,B^i=p+1:=⟨B^i-1,by omega⟩;obtain⟨b,rfl⟩:∃b,B=b+1:=⟨B-1,by omega⟩;unfold sT;rw[hp]at a⊢;rw[Nat.add_sub_cancel,Nat.add_sub_cancel]at a;have a:(b+1)*(p+1)=p*b+b+p+1:=by rw[Nat.add_mul,Nat.mul_add,Nat.mul_comm b p];omega
 omega
theorem amt{B V f e i:Nat}(h:V<B^i):sC B V f e i=(V*f+e)/B^i:=by rw[sC,sT,Nat.mod_eq_of_lt h]
def sU(B V f e i:Nat):Nat:=sT B V f e i%B^i+B^i*(V/B^i)
def qU(B V d n:Nat):Nat:=V%B^n+B^n*(V/B^n/d)
theorem ags(B V d:Nat):qU B V d 0=V/d:=by simp[qU,Nat.mod_one]
theorem amu{B V d n:Nat}(h:V<B^n):qU B V d n=V:=by simp[qU,Nat.mod_eq_of_lt h,Nat.div_eq_of_lt h]
theorem agt(B V m:Nat):V/B^m=B*(V/B^(m+1))+V/B^m%B:=by rw[Nat.pow_succ,<-Nat.div_div_eq_div_mul,Nat.div_add_mod]
theorem aja{B d:Nat}(V m:Nat):V/B^m=(V/B^(m+1)%d*B+V/B^m%B)+d*(B*(V/B^(m+1)/d)):=by
 have b:=agt B V m;have a:=Nat.mod_add_div (V/B^(m+1)) d;generalize V/B^(m+1)=q at*;generalize V/B^m%B=y at*;rw[b]
 conv=>lhs;rw[<-a]
 rw[Nat.mul_add,Nat.mul_left_comm B d,Nat.mul_comm B (q%d)];omega
theorem aqa{B d:Nat}(D:0<d)(V m:Nat):V/B^m/d=B*(V/B^(m+1)/d)+(V/B^(m+1)%d*B+V/B^m%B)/d:=by
 conv=>lhs;rw[aja (B:=B) (d:=d) V m]
 rw[Nat.add_mul_div_left _ _ D,Nat.add_comm]
theorem aqb{B d:Nat}(V m:Nat):V/B^m%d=(V/B^(m+1)%d*B+V/B^m%B)%d:=by
 conv=>lhs;rw[aja (B:=B) (d:=d) V m]
 rw[Nat.add_mul_mod_self_left]
theorem aqc{B d:Nat}(H:0<B)(D:0<d)(V m:Nat):V/B^(m+1)%d*B+V/B^m%B<d*B:=by
 have a:=Nat.mod_lt (V/B^(m+1)) D;have b:=Nat.mod_lt (V/B^m) H;have b:(V/B^(m+1)%d+1)*B<=d*B:=Nat.mul_le_mul_right _ a;rw[Nat.add_mul]at b;omega
theorem adB{B:Nat}(D:0<B)(V d n:Nat):qU B V d n/B^n=V/B^n/d:=by
 have a:0<B^n:=Nat.pow_pos D;rw[qU,Nat.add_mul_div_left _ _ a,Nat.div_eq_of_lt (Nat.mod_lt _ a),Nat.zero_add]
theorem aqd(B V d n:Nat):qU B V d n%B^n=V%B^n:=by rw[qU,Nat.add_mul_mod_self_left,Nat.mod_mod]
theorem agu{B:Nat}(V d m:Nat):qU B V d (m+1)%B^m=V%B^m:=by
 rw[qU,Nat.pow_succ,Nat.mul_assoc,Nat.add_mul_mod_self_left,Nat.mod_mul_right_mod]
theorem amv{B:Nat}(D:0<B){V d m N:Nat}(h:m<N):(jV B N (qU B V d (m+1)))[m]? =some (V/B^m%B):=by
 have a:0<B^m:=Nat.pow_pos D;rw[Gj _ _ _ h,qU,Nat.pow_succ,Nat.mul_assoc,Nat.add_mul_div_left _ _ a,Nat.add_mul_mod_self_left,Nat.mod_mul_right_div_self,Nat.mod_mod]
theorem agv{B:Nat}(D:0<B){V d m N:Nat}(H:0<d)(h:m<N):(jV B N (qU B V d (m+1))).set m ((V/B^(m+1)%d*B+V/B^m%B)/d)=jV B N (qU B V d m):=by
 have a:(V/B^(m+1)%d*B+V/B^m%B)/d<B:=by rw[Nat.div_lt_iff_lt_mul H,Nat.mul_comm B d];exact aqc D H V m
 have b:=aqa (B:=B) H V m;refine C2 D h a ?_ ?_ ?_
 ·rw[aqd,agu]
 ·rw[adB D,b,Nat.mul_add_mod,Nat.mod_eq_of_lt a]
 rw[adB D,Nat.pow_succ,<-Nat.div_div_eq_div_mul,adB D,b,Nat.mul_add_div D,Nat.div_eq_of_lt a,<-Nat.pow_succ];rfl
end
section
theorem agw{B v:Nat}(H:2<=B)(D:v≠0)(h:v<B):can B v=[v]:=by
 have:=ady H (l:=[]) D (by simpa using h);simpa[val]using this.symm
theorem agx{B v:Nat}(H:2<=B)(D:v/B≠0)(h:v<B*B):can B v=[v%B,v/B]:=by
 have b:v/B<B:=by rw[Nat.div_lt_iff_lt_mul ω];exact h
 have a:v%B<B:=Nat.mod_lt _ ω;have:=ady H (l:=[v%B]) D (by simp;exact⟨a,b⟩);simp only[List.cons_append,List.nil_append,val,Nat.mul_zero,Nat.add_zero]at this;rw[Nat.mod_add_div]at this;exact this.symm
theorem xP{B:Nat}{l:List Nat}(h:∀x∈l,x<B){i:Nat}(D:i<l.length):l[i]? =some (val B l/B^i%B):=by
 rw[<-zw l h i];simp[List.getD,D]
def NO(v w:Nat):Int:=if v<w then-1 else if v=w then 0 else 1
theorem Gk{v w:Nat}(h:v<w):NO v w=-1:=by simp[NO,h]
theorem QL(v:Nat):NO v v=0:=by simp[NO]
theorem J9{v w:Nat}(h:w<v):NO v w=1:=by
 have b:¬v<w:=by omega
 have a:¬v=w:=by omega
 simp[NO,b,a]
theorem Mr{B v w:Nat}(D:2<=B)(h:(can B v).length<(can B w).length):v<w:=
 Nat.lt_of_lt_of_le (gI D v) (DX D h)
theorem Tb(B v m:Nat):v/B^m=B*(v/B^(m+1))+v/B^m%B:=by
 rw[Nat.pow_succ,<-Nat.div_div_eq_div_mul,Nat.div_add_mod]
theorem OT{B v w m:Nat}(h:v/B^m<w/B^m):v<w:=by
 rcases Nat.lt_or_ge v w with a|a
 ·exact a
 have:=Nat.div_le_div_right (c:=B^m) a;omega
theorem YT{B v w m:Nat}(h:v/B^(m+1)=w/B^(m+1)):(v/B^m%B=w/B^m%B/\v/B^m=w/B^m)\/(v/B^m%B<w/B^m%B/\v<w)\/(w/B^m%B<v/B^m%B/\w<v):=by
 have a:=Tb B v m;have a:=Tb B w m;rw[<-h]at a;rcases Nat.lt_trichotomy (v/B^m%B) (w/B^m%B)with a|a|a
 ·exact .inr (.inl ⟨a,OT (B:=B) (m:=m) ω⟩)
 ·exact .inl ⟨a,by omega⟩
 exact .inr (.inr ⟨a,OT (B:=B) (m:=m) ω⟩)
end
end Go.Fw
namespace Go.Proofs.YtianbhacbgnboaaGreat
section
open Go.Fw
theorem Ka(l:List Nat)(hl:l.length<=1000000000000):bN l=some (sy l):=by
 unfold bN;refine zo (λy=>y.length<=1000000000000/\sy y=sy l) (λe=>e=sy l) (λy=>y.length) ?_ ⟨hl,Y⟩ (λe b=>by rw[b]);rintro y ⟨d,ht⟩;rcases E4 y with rfl|⟨b,rfl⟩|⟨b,x,g,rfl⟩
 ·right;exact⟨[],by simp[bU],ht⟩
 ·left;have f:((b++[0]).length:Int)=((b.length+1:Nat):Int):=by simp
  have c:b.length<=9223372036854775807:=by simp at d;omega
  refine⟨b,?_,⟨by simp at d⊢;omega,by rw[<-ht,AF]⟩,by simp⟩;simp only[bU,Option.bind_some,f,Mm c];rw[bu (a:=0) η,C1 η];simp
 right;have f:((b++[x]).length:Int)=((b.length+1:Nat):Int):=by simp
 have c:b.length<=9223372036854775807:=by simp at d;omega
 refine⟨b++[x],?_,by rw[<-ht,EZ _ g]⟩;simp only[bU,Option.bind_some,f,Mm c];rw[bu (a:=x) η];simp[g]
def zc(n:Bool)(v:Nat):Zr:=⟨n&&v != 0,can 4294967296 v⟩
theorem Xu(n:Bool):zc n 0=⟨false,[]⟩:=by simp[zc,CG]
theorem adC(n:Bool){v:Nat}(h:v≠0):zc n v=⟨n,can 4294967296 v⟩:=by simp[zc,h]
def Rv(l:List Nat):Prop:=(∀x∈l,x<4294967296)/\l.length<=100000000000
abbrev vl(l:List Nat):Nat:=val 4294967296 l
theorem qf(n:Bool)(l:List Nat)(h:Rv l):dy n l=some (zc n (vl l)):=by
 unfold dy;rw[Ka l (by have:=h.2;omega),zu ξ h.1];show _=some (zc n (val 4294967296 l));by_cases a:val 4294967296 l=0
 ·rw[a,Xu];simp[CG]
 have:can 4294967296 (val 4294967296 l)≠[]:=λe=>a (QH ξ e);rw[adC _ a];simp[this]
theorem zx(n:Bool)(v:Nat)(h:v<18446744073709551616):jg n v=some (zc n v):=by
 unfold jg;by_cases b:v=0
 ·subst b;simp[Xu]
 rw[adC _ b];by_cases c:v/2^32=0
 ·rw[agw ξ b ω];simp only[Option.bind_some,b,c,decide_false,decide_true,cond_false,cond_true];rw[Nat.mod_eq_of_lt ω]
 rw[agx ξ ω ω];simp only[Option.bind_some,b,c,decide_false,cond_false];rw[Nat.mod_eq_of_lt (a:=v/2^32) ω]
theorem adD{a b s:Nat}(h:a<2^s):a ||| b*2^s=a+b*2^s:=by
 rw[Nat.or_comm,Nat.mul_comm b,<-Nat.two_pow_add_eq_or_of_lt h,Nat.add_comm]
theorem low_eq(l:List Nat)(h:∀x∈l,x<4294967296)(hl:l.length<=2):gj l=some (vl l):=by
 rcases l with _|⟨x,_|⟨y,_|⟨z,l⟩⟩⟩
 ·simp[gj,vl,val]
 ·have b:=h x η;simp only[gj,Ig (l:=[x]) (a:=x) rfl];simp[vl,val];omega
 ·have b:=h x η;have b:=h y η;simp only[gj,Ig (l:=[x,y]) (a:=x) Y,adv (l:=[x,y]) (a:=y) Y,Option.bind_some];rw[Nat.mod_eq_of_lt (a:=x) ω,Nat.mod_eq_of_lt (a:=y) ω,Nat.mod_eq_of_lt (a:=y*2^32) ω,adD ω,Nat.mod_eq_of_lt ω];simp[vl,val];omega
 simp at hl
theorem lE(x c:Nat)(h:x+c<18446744073709551616):cu x c=some ((x+c)%4294967296,(x+c)/4294967296):=by
 simp[cu,Nat.mod_eq_of_lt h]
theorem qp(v w:Nat)(D:(can 4294967296 v).length<=100000000000)(H:(can 4294967296 w).length<=100000000000):eA (can 4294967296 v) (can 4294967296 w)=some (NO v w):=by
 unfold eA;rcases Nat.lt_trichotomy (can 4294967296 v).length (can 4294967296 w).length with hl|hl|hl
 ·rw[Gk (Mr ξ hl)];simp only[Option.bind_some];rw[show decide (((can 4294967296 v).length:Int)≠((can 4294967296 w).length:Int))=true by simp;omega,show decide (((can 4294967296 v).length:Int)<((can 4294967296 w).length:Int))=true by simp;omega];rfl
 ·simp only[Option.bind_some];rw[show decide (((can 4294967296 v).length:Int)≠((can 4294967296 w).length:Int))=false by simp;omega,cond_false];refine zo (λy=>∃n:Nat,y=(n:Int)-1/\n<=(can 4294967296 v).length/\v/4294967296^n=w/4294967296^n) (λe=>e=(if v=w then .inl ()else .inr (NO v w))) (λy=>(y+1).toNat) ?_ ⟨(can 4294967296 v).length,?_,Nat.le_refl _,?_⟩ ?_
  ·rintro y ⟨n,rfl,b,a⟩;cases n with
   |zero=>
    right;have:v=w:=by simpa using a
    subst this;exact⟨_,by simp,Y⟩
   |succ m=>
    have d:=QI (B:=4294967296) ξ (v:=v) (j:=m) ω;have b:=QI (B:=4294967296) ξ (v:=w) (j:=m) ω;have c:((m+1:Nat):Int)-1=(m:Int):=by omega
    rw[c];rcases YT a with⟨a,c⟩|⟨a,c⟩|⟨a,c⟩
    ·left;refine⟨(m:Int)-1,?_,⟨m,Y,by omega,c⟩,by omega⟩;simp only[Option.bind_some,bu d,bu b,a];rw[cV ω ω];simp
    ·right;refine⟨.inr (-1),?_,by rw[if_neg ω,Gk c]⟩;simp only[Option.bind_some,bu d,bu b];simp[a,Nat.ne_of_lt a]
    right;refine⟨.inr 1,?_,by rw[if_neg ω,J9 c]⟩;simp only[Option.bind_some,bu d,bu b];simp[Nat.not_lt_of_lt a,Nat.ne_of_gt a]
  ·rw[cV ω ω]
  ·rw[Mp ξ (Nat.le_refl _),Mp ξ ω]
  rintro e rfl;by_cases h:v=w
  ·subst h;simp[QL]
  simp[h]
 rw[J9 (Mr ξ hl)];simp only[Option.bind_some];rw[show decide (((can 4294967296 v).length:Int)≠((can 4294967296 w).length:Int))=true by simp;omega,show decide (((can 4294967296 v).length:Int)<((can 4294967296 w).length:Int))=false by simp;omega];rfl
theorem Kb{l:List Nat}(h:∀x∈l,x<4294967296)(i:Nat):l.getD i 0<4294967296:=by
 rcases Nat.lt_or_ge i l.length with a|a
 ·exact h _ (List.mem_of_getElem? (R3 a))
 rw[KA a];decide
theorem Tc{α:Type}{body:Int->Option (List α×(Int⊕Unit))}(f:Nat->α)(n:Nat)(D:∀k:Nat,k<n->body k=some ([f k],.inl ((k+1:Nat):Int)))(H:body n=some ([],.inr ())):AU body 0=some ((List.range n).map f,()):=by
 refine yH (λk=>((List.range k).map f,(k:Int))) n (λk a=>?_) ?_
 ·simp[Bf,D k a,List.range_succ]
 simp[Bf,H]
def prl{α β:Type}(z:α)(f:α->β)(a b:List α):List (β×β):=(List.range (max a.length b.length)).map λk=>(f (a.getD k z),f (b.getD k z))
theorem Kc{α β:Type}{z:α}{f:α->β}{a b:List α}:(prl z f a b).length=max a.length b.length:=by simp[prl]
theorem Ke{α β:Type}{z:α}{f:α->β}{a b:List α}{k:Nat}{d:β×β}(h:k<max a.length b.length):(prl z f a b).getD k d=(f (a.getD k z),f (b.getD k z)):=by
 rw[List.getD_eq_getElem?_getD,prl,List.getElem?_map,List.getElem?_range h];rfl
theorem Xv(a b:List Nat)(H:a.length<=9223372036854775806)(D:b.length<=9223372036854775806):qT a b=some (prl 0 (λx=>x%18446744073709551616) a b):=by
 unfold qT;simp only[Option.bind_some];rw[show max (a.length:Int) (b.length:Int)=((max a.length b.length:Nat):Int) by omega,Tc (λk=>(a.getD k 0%18446744073709551616,b.getD k 0%18446744073709551616)) (max a.length b.length) (λk c=>?_) η]
 ·simp[pN,M8,prl]
 rw[bC ω];have g:∀(l:List Nat),((if k<l.length then bV l (k:Int)else some 0):Option Nat)=some (l.getD k 0):=λl=>by
  by_cases h:k<l.length
  ·rw[if_pos h,bu (R3 h)]
  rw[if_neg h,KA ω]
 have i:=g a;have f:=g b;have c:(k:Int)<((max a.length b.length:Nat):Int):=by omega
 by_cases e:k<a.length<;>by_cases d:k<b.length<;>simp[e,d]at i f<;>simp[e,d,i,f,c,bU,Dt]
theorem I0(a b:List Nat)(H:Rv a)(D:Rv b):iW a b=some (jV 4294967296 (max a.length b.length+1) (vl a+vl b)):=by
 obtain⟨c,d⟩:=H;obtain⟨e,d⟩:=D;have f:val 4294967296 a<4294967296^(max a.length b.length):=Nat.lt_of_lt_of_le (nQ a c) (Nat.pow_le_pow_right ξ ω);have i:val 4294967296 b<4294967296^(max a.length b.length):=Nat.lt_of_lt_of_le (nQ b e) (Nat.pow_le_pow_right ξ ω);unfold iW;rw[Xv a b ω ω];simp only[Option.bind_some,Kc];rw[show max (a.length:Int) (b.length:Int)=((max a.length b.length:Nat):Int) by omega,bC ω,QD ξ ω,Option.bind_some];refine wV (λk=>(Ru 4294967296 (vl a) (vl b) k,jV 4294967296 k (vl a+vl b))) (by simp[S8,jV]) (λk g=>?_) ?_
 ·have d:=Kb c k;have d:=Kb e k;have h:=VR (B:=4294967296) ξ (vl a) (vl b) k;have d:=zw a c k;have c:=zw b e k;rw[Ke g];simp only[Option.bind_some];rw[Nat.mod_eq_of_lt (a:=a.getD k 0) ω,Nat.mod_eq_of_lt (a:=b.getD k 0) ω,Nat.mod_eq_of_lt (a:=a.getD k 0+b.getD k 0) ω,lE _ _ ω];simp only[Option.bind_some];rw[ru ξ (by rw[cw];omega),Option.bind_some,d,c,S7 ξ,QJ ξ,<-wW]
 have h:=VR (B:=4294967296) ξ (vl a) (vl b) (max a.length b.length);simp only;rw[lE _ _ ω];simp only[Option.bind_some];rw[ru ξ (by rw[cw];omega),Option.bind_some,Nat.zero_add,agn f i,<-wW]
theorem I1(a b:List Nat)(I:Rv a)(H:Rv b)(hl:b.length<=a.length)(D:vl b<=vl a):eP a b=some (jV 4294967296 a.length (vl a-vl b)):=by
 obtain⟨d,c⟩:=I;obtain⟨e,c⟩:=H;have c:max a.length b.length=a.length:=by omega
 unfold eP;rw[Xv a b ω ω];simp only[Option.bind_some,Kc];rw[QD ξ ω,Option.bind_some,c];refine wV (λk=>(JK 4294967296 (vl a) (vl b) k,jV 4294967296 k (vl a-vl b))) (by simp[S9,jV]) (λk c=>?_) Y;have c:=Kb d k;have c:=Kb e k;have c:=adz (B:=4294967296) ξ (vl a) (vl b) k;have c:=zw a d k;have d:=zw b e k;rw[Ke ω];simp only[Option.bind_some];rw[Nat.mod_eq_of_lt (a:=a.getD k 0) ω,Nat.mod_eq_of_lt (a:=b.getD k 0) ω,AD ω ω,Nat.mod_eq_of_lt (a:=a.getD k 0+(4294967295-b.getD k 0)) ω,lE _ _ ω];simp only[Option.bind_some];rw[ru ξ (by rw[cw];omega),Option.bind_some,c,d,Ta (B:=4294967296) ξ,Xo (B:=4294967296) ξ D,<-wW]
theorem Td(a b:List Nat)(D:Rv a)(H:Rv b):kj a b=some (jV 4294967296 (a.length+b.length) (vl a*vl b)):=by
 obtain⟨d,c⟩:=D;obtain⟨e,c⟩:=H;unfold kj;simp only[Option.bind_some];rw[oe ω,fE ξ ω,Option.bind_some];refine jU (λi=>((i:Int),jV 4294967296 (a.length+b.length) (vl a%4294967296^i*vl b))) a.length (jV 4294967296 (a.length+b.length) (vl a%4294967296^a.length*vl b)) (by simp[Nat.mod_one,CE]) (λi f=>?_) η (by rw[Nat.mod_eq_of_lt (nQ a d)]);have c:=xP d f;have d:val 4294967296 a/4294967296^i%4294967296<4294967296:=Nat.mod_lt _ ξ;simp only[Option.bind_some,show decide ((i:Int)<(a.length:Int))=true by simp;omega,cond_true];rw[bu c,Option.bind_some];refine jU (λk=>((k:Int),mC 4294967296 (vl a) (vl b) i k,jV 4294967296 (a.length+b.length) (mV 4294967296 (vl a) (vl b) i k))) b.length (mC 4294967296 (vl a) (vl b) i b.length,jV 4294967296 (a.length+b.length) (mV 4294967296 (vl a) (vl b) i b.length)) (by simp[agr,agq]) (λk c=>?_) η ?_
 ·have d:=xP e c;have c:=amr (B:=4294967296) ξ (V:=vl a) (W:=vl b) (i:=i) (k:=k) (N:=a.length+b.length) ω;have f:val 4294967296 b/4294967296^k%4294967296<4294967296:=Nat.mod_lt _ ξ;have hp:vl a%4294967296^i*vl b/4294967296^(i+k)%4294967296<4294967296:=Nat.mod_lt _ ξ;have f:=ai7 (B:=4294967296) ξ (vl a) (vl b) i k;have g:val 4294967296 a/4294967296^i%4294967296*(val 4294967296 b/4294967296^k%4294967296)<=4294967295*4294967295:=Nat.mul_le_mul ω ω;simp only[Option.bind_some,show decide ((k:Int)<(b.length:Int))=true by simp;omega,cond_true];rw[bu d,Option.bind_some,oe ω,bY (by rw[cw];omega),Option.bind_some,c,Option.bind_some]
  rw[Nat.mod_eq_of_lt (a:=vl a%4294967296^i*vl b/4294967296^(i+k)%4294967296) ω,Nat.mod_eq_of_lt (a:=val 4294967296 a/4294967296^i%4294967296) (b:=18446744073709551616) ω,Nat.mod_eq_of_lt (a:=val 4294967296 b/4294967296^k%4294967296) (b:=18446744073709551616) ω,Nat.mod_eq_of_lt (a:=val 4294967296 a/4294967296^i%4294967296*(val 4294967296 b/4294967296^k%4294967296)) ω,Nat.mod_eq_of_lt (a:=vl a%4294967296^i*vl b/4294967296^(i+k)%4294967296+_) ω,lE _ _ ω];simp only[Option.bind_some];rw[cL (by rw[cw];omega),Option.bind_some,ago (B:=4294967296) ξ,agp (B:=4294967296) ξ ω,bC ω]
 have f:=ai7 (B:=4294967296) ξ (vl a) (vl b) i b.length;simp only[Option.bind_some];rw[oe ω,lE _ _ ω];simp only[Option.bind_some];rw[bY (by rw[cw];omega),Option.bind_some,cL (by rw[cw];omega),Option.bind_some,ams (B:=4294967296) ξ (nQ b e) ω,bC ω]
end
section
open Go.Fw
theorem agz{a b s:Nat}(h:a<2^s):b*2^s ||| a=b*2^s+a:=by rw[Nat.or_comm,adD h,Nat.add_comm]
theorem Xw{a b:Nat}(h:a<4294967296):b*4294967296 ||| a=b*4294967296+a:=agz (s:=32) h
theorem Te(a:List Nat)(d:Nat)(I:Rv a)(D:0<d)(H:d<=4294967296):lY a d=some (vl a%d,jV 4294967296 a.length (vl a/d)):=by
 obtain⟨c,e⟩:=I;unfold lY;simp only[Option.bind_some];rw[cV ω ω];refine jU (λi=>(vl a/4294967296^(a.length-i)%d,((a.length-i:Nat):Int)-1,jV 4294967296 a.length (qU 4294967296 (vl a) d (a.length-i)))) a.length (vl a%d,jV 4294967296 a.length (vl a/d)) ?_ (λi e=>?_) (by simp[ags]) ?_
 ·simp only[Nat.sub_zero];rw[amu (nQ a c),J8 a c,Nat.div_eq_of_lt (nQ a c),Nat.zero_mod]
 ·obtain⟨m,f⟩:∃m,a.length-i=m+1:=⟨a.length-i-1,by omega⟩;have c:a.length-(i+1)=m:=by omega
  have e:m<a.length:=by omega
  rw[f,c];have k:vl a/4294967296^m%4294967296<4294967296:=Nat.mod_lt _ ξ;have hr:vl a/4294967296^(m+1)%d<d:=Nat.mod_lt _ D;have c:=aqc (B:=4294967296) ξ D (vl a) m;have h:(vl a/4294967296^(m+1)%d*4294967296+vl a/4294967296^m%4294967296)/d<4294967296:=by rw[Nat.div_lt_iff_lt_mul D,Nat.mul_comm 4294967296 d];exact c
  have l:=amv (B:=4294967296) ξ (V:=vl a) (d:=d) (m:=m) (N:=a.length) e;have c:vl a/4294967296^(m+1)%d*4294967296+vl a/4294967296^m%4294967296<18446744073709551616:=by omega
  have f:vl a/4294967296^(m+1)%d*4294967296<18446744073709551616:=Nat.lt_of_le_of_lt (Nat.le_add_right _ _) c;have g:vl a/4294967296^m%4294967296<18446744073709551616:=Nat.lt_of_le_of_lt (Nat.le_add_left _ _) c;have j:((m+1:Nat):Int)-1=(m:Int):=by omega
  simp only[j,show decide ((0:Int)<=(m:Int))=true by simp,cond_true,Option.bind_some];rw[bY (by rw[cw];omega),Option.bind_some,l];simp only[Option.bind_some];rw[show(2:Nat)^32=4294967296 from rfl];rw[Nat.mod_eq_of_lt (a:=vl a/4294967296^(m+1)%d*4294967296) f,Nat.mod_eq_of_lt (a:=vl a/4294967296^m%4294967296) (b:=18446744073709551616) g,Xw k,Nat.mod_eq_of_lt (a:=vl a/4294967296^(m+1)%d*4294967296+vl a/4294967296^m%4294967296) c,QE ω c,J7 ω];simp only[Option.bind_some];rw[Nat.mod_eq_of_lt (b:=4294967296) (a:=(vl a/4294967296^(m+1)%d*4294967296+vl a/4294967296^m%4294967296)/d) h,cL (by rw[cw];omega),Option.bind_some,cV ω ω];rw[agv (B:=4294967296) ξ D e,<-aqb (B:=4294967296) (d:=d) (vl a) m]
 simp only;rw[zm (by rw[cw]),Option.bind_some]
theorem shiftLeft_eq(a:List Nat)(s:Nat)(H:Rv a)(D:s<32):jB a s=some (jV 4294967296 (a.length+1) (vl a*2^s)):=by
 obtain⟨c,d⟩:=H;have d:2^s<4294967296:=by
  have:2^s<2^32:=Nat.pow_lt_pow_right ξ D;omega
 unfold jB;simp only[Option.bind_some];rw[bC ω,QD ξ ω,Option.bind_some];refine jU (λi=>((i:Int),sC 4294967296 (vl a) (2^s) 0 i,jV 4294967296 i (vl a*2^s+0))) a.length (sC 4294967296 (vl a) (2^s) 0 a.length,jV 4294967296 a.length (vl a*2^s+0)) (by simp[Xr,jV]) (λi f=>?_) η ?_
 ·have e:vl a/4294967296^i%4294967296<4294967296:=Nat.mod_lt _ ξ;have g:=ai9 (B:=4294967296) ξ (V:=vl a) d (show(0:Nat)<4294967296 by decide) i;have e:vl a/4294967296^i%4294967296*2^s<=4294967295*4294967295:=Nat.mul_le_mul ω ω;have e:a[i]? =some (vl a/4294967296^i%4294967296):=xP c f;simp only[show decide ((i:Int)<(a.length:Int))=true by simp;omega,cond_true];rw[bu e];simp only[Option.bind_some];rw[show min s 64=s by omega,Nat.mod_eq_of_lt (a:=vl a/4294967296^i%4294967296) (b:=18446744073709551616) ω,Nat.mod_eq_of_lt (b:=18446744073709551616) ω,lE _ _ ω];simp only[Option.bind_some];rw[ru ξ (by rw[cw];omega),Option.bind_some,Xt (B:=4294967296) ξ,adA (B:=4294967296) ξ,bC ω,<-wW]
 have g:=ai9 (B:=4294967296) ξ (V:=vl a) d (show(0:Nat)<4294967296 by decide) a.length;simp only;rw[lE _ _ ω];simp only[Option.bind_some];rw[ru ξ (by rw[cw];omega),Option.bind_some,Nat.zero_add,amt (nQ a c),<-wW];simp
theorem NP(a:List Nat)(s:Nat):mD a s=jB a s:=rfl
def E5:Str:=[0,1,2,2,3,3,3,3,4,4,4,4,4,4,4,4,5,5,5,5,5,5,5,5,5,5,5,5,5,5,5,5]++List.replicate 32 6++List.replicate 64 7++List.replicate 128 8
theorem amw:∀y:Nat,y<256->Dv E5 (y:Int)=some ((Dv E5 (y:Int)).getD 0)/\(Dv E5 (y:Int)).getD 0<=8/\y<2^(Dv E5 (y:Int)).getD 0/\(y=0\/2^(Dv E5 (y:Int)).getD 0<=2*y):=by decide+kernel
set_option maxRecDepth 20000 in
theorem adE(x:Nat)(h:x<4294967296):∃n:Nat,kU x=some (n:Int)/\n<=32/\x<2^n/\(x=0\/2^n<=2*x):=by
 have a:∀(y k:Nat),y<256->y=x/2^k->k<=24->(x≠0->y≠0)->∃n:Nat,(((Dv E5 ((y%256:Nat):Int)).bind λb=>(some (IntKind.i64.wrap (b:Int))).bind λb=>(some (IntKind.i64.wrap ((k:Int)+b))).bind λb=>some b)=some (n:Int))/\n<=32/\x<2^n/\(x=0\/2^n<=2*x):=by
  intro y k e c b d;obtain⟨f,i,g,b⟩:=amw y e;rw[Nat.mod_eq_of_lt e,f];generalize (Dv E5 (y:Int)).getD 0=t at*;have hp:0<2^k:=Nat.two_pow_pos _;have e:2^(k+t)=2^k*2^t:=Nat.pow_add ..;have f:=Nat.div_add_mod x (2^k);have i:=Nat.mod_lt x hp;rw[<-c]at f;refine⟨k+t,?_,by omega,?_,?_⟩
  ·simp only[Option.bind_some];rw[xO ω,oe ω]
  ·rw[e];have:2^k*(y+1)<=2^k*2^t:=Nat.mul_le_mul_left _ g;rw[Nat.mul_add]at this;omega
  rcases b with b|b
  ·left;cases Nat.eq_zero_or_pos x with
   |inl h=>exact h
   |inr h=>exact absurd b (d ω)
  right;rw[e];have:2^k*2^t<=2^k*(2*y):=Nat.mul_le_mul_left _ b;rw[show 2^k*(2*y)=2*(2^k*y) by rw[Nat.mul_left_comm]]at this;omega
 unfold kU;simp only[bU,Option.bind_some];by_cases c:65536<=x
 ·rw[show decide (65536<=x)=true by simpa using c];simp only[cond_true];by_cases b:256<=x/2^16
  ·rw[show decide (256<=x/2^16)=true by simpa using b];simp only[cond_true];rw[show IntKind.i64.wrap (16+8)=((24:Nat):Int) by decide];exact a (x/2^16/2^8) 24 ω ω ω ω
  rw[show decide (256<=x/2^16)=false by simpa using b];simp only[cond_false];exact a (x/2^16) 16 ω Y ω ω
 rw[show decide (65536<=x)=false by simpa using c];simp only[cond_false];by_cases b:256<=x
 ·rw[show decide (256<=x)=true by simpa using b];simp only[cond_true];rw[show IntKind.i64.wrap (0+8)=((8:Nat):Int) by decide];exact a (x/2^8) 8 ω Y ω ω
 rw[show decide (256<=x)=false by simpa using b];simp only[cond_false];exact a x 0 ω η ω (λh=>h)
theorem aqe(x:Nat)(h:x<4294967296)(D:x≠0):∃s:Nat,fH x=some (s:Int)/\s<32/\2147483648<=x*2^s/\x*2^s<4294967296:=by
 obtain⟨n,c,d,b,a⟩:=adE x h;have a:2^n<=2*x:=a.resolve_left D;have d:n≠0:=by rintro rfl;simp at b;omega
 refine⟨32-n,?_,by omega,?_,?_⟩
 ·unfold fH;rw[c];simp only[Option.bind_some];rw[cV ω ω];congr 1;omega
 ·have:2^n*2^(32-n)<=2*x*2^(32-n):=Nat.mul_le_mul_right _ a;rw[<-Nat.pow_add,show n+(32-n)=32 by omega,Nat.mul_assoc]at this;omega
 have:x*2^(32-n)<2^n*2^(32-n):=Nat.mul_lt_mul_of_pos_right b (Nat.two_pow_pos _);rw[<-Nat.pow_add,show n+(32-n)=32 by omega]at this;omega
end
end Go.Proofs.YtianbhacbgnboaaGreat
namespace Go.Fw
section
section aqf
variable {B V U W:Nat}
theorem amx{P F T:Nat}(I:0<P)(H:0<F)(D:F*P<=V)(K:U<(T+1)*P):U/V<=T/F:=by
 have a:0<V:=Nat.lt_of_lt_of_le (Nat.mul_pos H I) D;rw[Nat.le_div_iff_mul_le H];rcases Nat.lt_or_ge T (U/V*F)with h|h
 ·exfalso;have a:U/V*V<=U:=Nat.div_mul_le_self U V;have a:U/V*(F*P)<=U/V*V:=Nat.mul_le_mul_left _ D;have a:(T+1)*P<=U/V*F*P:=Nat.mul_le_mul_right _ h;rw[Nat.mul_assoc]at a;omega
 exact h
theorem agA{P F S T u g r:Nat}(H:(F*B+S)*P<=V)(I:U<(T*B+u+1)*P)(D:g*F+r=T)(h:r*B+u<g*S):U<g*V:=by
 have a:g*((F*B+S)*P)<=g*V:=Nat.mul_le_mul_left _ H;have a:(T*B+u+1)*P<=g*(F*B+S)*P:=by
  apply Nat.mul_le_mul_right;rw[Nat.mul_add,<-Nat.mul_assoc,<-D,Nat.add_mul];omega
 rw[Nat.mul_assoc]at a;omega
theorem amz{P D I g:Nat}(K:V<(D+1)*P)(hU:I*P<=U)(hq:U/V<B)(hB:B<=D)(H:0<V)(h:g*D<=I):g<=U/V+1:=by
 rcases Nat.lt_or_ge (U/V+1) g with b|b
 ·exfalso;have c:U<(U/V+1)*V:=by have:=Nat.lt_div_mul_add (a:=U) H;rw[Nat.add_mul,Nat.one_mul];exact this
  have c:(U/V+1)*V<=(U/V+1)*((D+1)*P):=Nat.mul_le_mul_left _ (Nat.le_of_lt K);have c:g*D*P<=I*P:=Nat.mul_le_mul_right _ h;have c:(U/V+2)*D<=g*D:=Nat.mul_le_mul_right _ b;have d:(U/V+2)*D*P<=g*D*P:=Nat.mul_le_mul_right _ c;have c:(U/V+1)*((D+1)*P)<=(U/V+2)*D*P:=by
   rw[<-Nat.mul_assoc];apply Nat.mul_le_mul_right;rw[Nat.mul_add,Nat.add_mul (U/V) 2 D,Nat.add_mul (U/V) 1 D];omega
  omega
 exact b
end aqf
def mix(B o i X U A:Nat):Nat:=A%B^o+B^o*(X%B^i+B^i*(U/B^i))
theorem Xx(B o i X U A:Nat):mix B o i X U A%B^o=A%B^o:=by rw[mix,Nat.add_mul_mod_self_left,Nat.mod_mod]
section mix
variable {B:Nat}(hB:0<B)(o i X U A:Nat)
include hB
theorem Gl:mix B o i X U A/B^o=X%B^i+B^i*(U/B^i):=by
 rw[mix,Nat.add_mul_div_left _ _ (Nat.pow_pos hB),Nat.div_eq_of_lt (Nat.mod_lt _ (Nat.pow_pos hB)),Nat.zero_add]
theorem Gn:mix B o i X U A/B^(o+i)=U/B^i:=by
 rw[Nat.pow_add,<-Nat.div_div_eq_div_mul,Gl hB,Nat.add_mul_div_left _ _ (Nat.pow_pos hB),Nat.div_eq_of_lt (Nat.mod_lt _ (Nat.pow_pos hB)),Nat.zero_add]
theorem agB:mix B o i X U A%B^(o+i)=A%B^o+B^o*(X%B^i):=by
 rw[Nat.pow_add,Nat.mod_mul,Xx,Gl hB,Nat.add_mul_mod_self_left,Nat.mod_mod]
theorem QM{N:Nat}(h:o+i<N):(jV B N (mix B o i X U A)).set (o+i) (X/B^i%B)=jV B N (mix B o (i+1) X U A):=by
 apply C2 hB h (Nat.mod_lt _ hB)
 ·rw[agB hB,Nat.pow_add,Nat.mod_mul,Xx,Gl hB,Nat.pow_succ B i,Nat.mul_assoc,Nat.add_mul_mod_self_left,Nat.mod_mul,Nat.add_mul_mod_self_left,Nat.mod_mod]
 ·rw[Nat.pow_add,<-Nat.div_div_eq_div_mul,Gl hB,Nat.pow_succ B i,Nat.mod_mul,Nat.mul_assoc,Nat.add_assoc,<-Nat.mul_add,Nat.add_mul_div_left _ _ (Nat.pow_pos hB),Nat.div_eq_of_lt (Nat.mod_lt _ (Nat.pow_pos hB)),Nat.zero_add,Nat.add_mul_mod_self_left,Nat.mod_mod]
 have a:=Gn hB o (i+1) X U A;have b:=Gn hB o i X U A;rw[show o+i+1=o+(i+1) by omega,a,show o+(i+1)=(o+i)+1 by omega,Nat.pow_succ B (o+i),<-Nat.div_div_eq_div_mul,b,Nat.pow_succ,<-Nat.div_div_eq_div_mul]
end mix
theorem Tf{B o m X U A:Nat}(D:U<B^m):mix B o m X U A=A%B^o+B^o*(X%B^m):=by rw[mix,Nat.div_eq_of_lt D];simp
theorem Tg{B:Nat}(o X A:Nat):mix B o 0 X (A/B^o) A=A:=by
 simp only[mix,Nat.pow_zero,Nat.mod_one,Nat.zero_add,Nat.one_mul,Nat.div_one];exact Nat.mod_add_div A (B^o)
theorem YU{B U U' T i:Nat}(h:U%B^i=U'%B^i):JK B U T i=JK B U' T i:=by rw[JK,JK,h]
theorem adF{B:Nat}(D:0<B){U T m i:Nat}(I:i<m)(H:T<=U+B^m):(U/B^i%B+(B-1-T/B^i%B)+JK B U T i)%B=(U+B^m-T)/B^i%B:=by
 have e:B^m=B^i*(B*B^(m-i-1)):=by rw[<-Nat.pow_succ',<-Nat.pow_add];congr 1;omega
 have b:(U+B^m)%B^i=U%B^i:=by rw[e,Nat.add_mul_mod_self_left]
 have a:(U+B^m)/B^i%B=U/B^i%B:=by rw[e,Nat.add_mul_div_left _ _ (Nat.pow_pos D),Nat.add_mul_mod_self_left]
 rw[<-a,YU (U':=U+B^m) b.symm,Xo D H]
theorem agC{B m U T:Nat}(I:0<B)(H:U<B^m)(D:T<B^m):JK B U T m=if U<T then 0 else 1:=by
 rw[JK,Nat.mod_eq_of_lt H,Nat.mod_eq_of_lt D];have hp:0<B^m:=Nat.pow_pos I;split
 ·exact Nat.div_eq_of_lt ω
 rw[show U+B^m-T=(U-T)+B^m by omega,Nat.add_div_right _ hp,Nat.div_eq_of_lt ω]
end
end Go.Fw
namespace Go.Proofs.YtianbhacbgnboaaGreat
section
open Go.Fw
theorem uy{N A j:Nat}(h:j<N):(jV 4294967296 N A)[j]? =some (A/4294967296^j%4294967296):=Gj N A j h
theorem two32:(2:Nat)^32=4294967296:=rfl
theorem aqg:(2:Nat)^63=9223372036854775808:=rfl
theorem QN(A o j:Nat):A/4294967296^(o+j)=A/4294967296^o/4294967296^j:=by rw[Nat.pow_add,Nat.div_div_eq_div_mul]
theorem Th{N A o n:Nat}{v:List Nat}(D:Rv v)(hn:v.length=n+2)(H:N<=100000000001)(I:o+(n+2)<N)
  (hU:A/4294967296^o<4294967296*vl v) (adG:2147483648*4294967296^(n+1)<=vl v):
  ∃r,lZ (jV 4294967296 N A) o (n+3) v=some r/\r.2=jV 4294967296 N A/\A/4294967296^o/vl v<=r.1/\r.1<=A/4294967296^o/vl v+1:=by
 obtain⟨i,b⟩:=D;obtain⟨U,d⟩:∃U,A/4294967296^o=U:=⟨_,Y⟩;obtain⟨V,c⟩:∃V,vl v=V:=⟨_,Y⟩;have L:V<4294967296^(n+2):=by rw[<-c,<-hn];exact nQ v i
 have b:0<4294967296^(n+1):=Nat.pow_pos ξ;have O:0<4294967296^n:=Nat.pow_pos ξ;have l:4294967296^(n+1)=4294967296^n*4294967296:=Nat.pow_succ ..;have w:4294967296^(n+2)=4294967296^(n+1)*4294967296:=Nat.pow_succ ..;rw[d,c]at hU⊢;rw[c]at adG;have z:U<4294967296^(n+1)*4294967296*4294967296:=by
  have:4294967296*V<4294967296*4294967296^(n+2):=Nat.mul_lt_mul_of_pos_left L ξ;rw[w]at this;omega
 obtain⟨F,p⟩:∃F,V/4294967296^(n+1)=F:=⟨_,Y⟩;obtain⟨S,J⟩:∃S,V/4294967296^n%4294967296=S:=⟨_,Y⟩;obtain⟨T,f⟩:∃T,U/4294967296^(n+1)=T:=⟨_,Y⟩;obtain⟨u,K⟩:∃u,U/4294967296^n%4294967296=u:=⟨_,Y⟩;have s:F<4294967296:=by rw[<-p,Nat.div_lt_iff_lt_mul b];rw[w,Nat.mul_comm]at L;exact L
 have j:2147483648<=F:=by rw[<-p,Nat.le_div_iff_mul_le b];exact adG
 have j:S<4294967296:=by rw[<-J];exact Nat.mod_lt _ ξ
 have R:u<4294967296:=by rw[<-K];exact Nat.mod_lt _ ξ
 have M:T<4294967296*4294967296:=by rw[<-f,Nat.div_lt_iff_lt_mul b];rw[Nat.mul_comm,<-Nat.mul_assoc];exact z
 have j:V/4294967296^n=F*4294967296+S:=by rw[<-p,<-J,l,<-Nat.div_div_eq_div_mul,Nat.mul_comm,Nat.div_add_mod]
 have m:U/4294967296^n=T*4294967296+u:=by rw[<-f,<-K,l,<-Nat.div_div_eq_div_mul,Nat.mul_comm,Nat.div_add_mod]
 have hq:U/V<4294967296:=by rw[Nat.div_lt_iff_lt_mul ω];exact hU
 have I:(F*4294967296+S)*4294967296^n<=V:=by rw[<-j];exact Nat.div_mul_le_self _ _
 have H:V<(F*4294967296+S+1)*4294967296^n:=by rw[<-j,Nat.add_mul,Nat.one_mul];exact Nat.lt_div_mul_add O
 have C:(T*4294967296+u)*4294967296^n<=U:=by rw[<-m];exact Nat.div_mul_le_self _ _
 have D:U<(T*4294967296+u+1)*4294967296^n:=by rw[<-m,Nat.add_mul,Nat.one_mul];exact Nat.lt_div_mul_add O
 have G:F*4294967296^(n+1)<=V:=by rw[<-p];exact Nat.div_mul_le_self _ _
 have E:U<(T+1)*4294967296^(n+1):=by rw[<-f,Nat.add_mul,Nat.one_mul];exact Nat.lt_div_mul_add b
 have y:V<(F+1)*4294967296^(n+1):=by rw[<-p,Nat.add_mul,Nat.one_mul];exact Nat.lt_div_mul_add b
 have Q:T<4294967296*(F+1):=by
  rw[<-f,Nat.div_lt_iff_lt_mul b];have:4294967296*V<4294967296*((F+1)*4294967296^(n+1)):=Nat.mul_lt_mul_of_pos_left y ξ;rw[Nat.mul_assoc];omega
 have X:(jV 4294967296 N A)[o+(n+2)]? =some (U/4294967296^(n+2)%4294967296):=by rw[uy ω,QN,d]
 have W:(jV 4294967296 N A)[o+(n+1)]? =some (U/4294967296^(n+1)%4294967296):=by rw[uy ω,QN,d]
 have g3:(jV 4294967296 N A)[o+n]? =some u:=by rw[uy ω,QN,d,K]
 have g4:v[n+1]? =some F:=by rw[xP i ω,show val 4294967296 v=V from c,p,Nat.mod_eq_of_lt s]
 have g5:v[n]? =some S:=by rw[xP i ω,show val 4294967296 v=V from c,J]
 have i:U/4294967296^(n+2)<4294967296:=by rw[w,<-Nat.div_div_eq_div_mul,f,Nat.div_lt_iff_lt_mul ξ];exact M
 have M:U/4294967296^(n+2)%4294967296*4294967296+U/4294967296^(n+1)%4294967296=T:=by
  rw[Nat.mod_eq_of_lt i,w,<-Nat.div_div_eq_div_mul,f,Nat.mul_comm,Nat.div_add_mod]
 obtain⟨P,s⟩:∃t,U/4294967296^(n+2)%4294967296=t:=⟨_,Y⟩;obtain⟨Z,i⟩:∃t,U/4294967296^(n+1)%4294967296=t:=⟨_,Y⟩;have l1:P<4294967296:=by rw[<-s];exact Nat.mod_lt _ ξ
 have l2:Z<4294967296:=by rw[<-i];exact Nat.mod_lt _ ξ
 rw[s]at X M;rw[i]at W M;clear s i m j;have j:((n+2:Nat):Int)-1=((n+1:Nat):Int):=by omega
 have i:((n+2:Nat):Int)-2=(n:Int):=by omega
 unfold lZ;simp only[Option.bind_some,hn,j,i];rw[xO ω,xO ω,J6 ω,J6 ω,J6 ω];simp only[Option.bind_some];rw[X,W,bu g4,bu g5];simp only[Option.bind_some,two32];rw[Nat.mod_eq_of_lt (a:=P) ω,Nat.mod_eq_of_lt (a:=Z) ω,Nat.mod_eq_of_lt (a:=P*4294967296) ω,Xw l2,M,Nat.mod_eq_of_lt (a:=T) ω,Nat.mod_eq_of_lt (a:=F) ω,Nat.mod_eq_of_lt (a:=S) ω,QE ω ω,J7 ω];simp only[Option.bind_some];have M:=amx (V:=V) (U:=U) b (show 0<F by omega) G E;have j:∀g,g*(F*4294967296+S)<=T*4294967296+u->g<=U/V+1:=λg h=>amz (B:=4294967296) H C hq ω ω h;have m:∀g r,g*F+r=T->r*4294967296+u<g*S->U/V<g:=λg r i ht=>(Nat.div_lt_iff_lt_mul ω).2 (agA I D i ht);have s:T/F<=4294967297:=by
  have:T/F<4294967298:=by
   rw[Nat.div_lt_iff_lt_mul ω];omega
  omega
 generalize U/V=q at*;clear I H C D G E y Q z adG L l w O b p J f K d c hU;have b:=Nat.div_add_mod T F;have c:=Nat.mod_lt T (show 0<F by omega);have c:T/F*F+T%F=T:=by rw[Nat.mul_comm];exact b
 clear b;refine QF (λx=>x.1*F+x.2=T/\q<=x.1/\x.2<4294967296/\x.1<=4294967297) (λe=>q<=e/\e<=q+1) (λx=>x.1) ?_ ⟨c,M,by show T%F<_;omega,s⟩ ?_
 ·rintro⟨g,r⟩ ⟨i,d,i3,i4⟩;simp only at i d i3 i4;have b:q<g->(∃s',(bif decide ((r+F)%18446744073709551616/4294967296≠0)then some (.inr (vf 18446744073709551616 g 1))else some (.inl (vf 18446744073709551616 g 1,(r+F)%18446744073709551616)):Option ((Nat×Nat)⊕Nat))=some (.inl s')/\(s'.1*F+s'.2=T/\q<=s'.1/\s'.2<4294967296/\s'.1<=4294967297)/\s'.1<g)\/
    (∃e,(bif decide ((r+F)%18446744073709551616/4294967296≠0)then some (.inr (vf 18446744073709551616 g 1))else some (.inl (vf 18446744073709551616 g 1,(r+F)%18446744073709551616)):Option ((Nat×Nat)⊕Nat))=some (.inr e)/\q<=e/\e<=q+1):=by
   intro c;have f:(g-1)*F+(r+F)=T:=by
    obtain⟨k,rfl⟩:∃k,g=k+1:=⟨g-1,by omega⟩;rw[Nat.add_sub_cancel];rw[Nat.add_mul]at i;omega
   rw[AD ω ω,Nat.mod_eq_of_lt (a:=r+F) ω];by_cases c:r+F<4294967296
   ·left;refine⟨(g-1,r+F),by simp[Nat.div_eq_of_lt c],⟨f,by simp only;omega,c,by simp only;omega⟩,by simp only;omega⟩
   right;have c:(r+F)/4294967296≠0:=by omega
   refine⟨g-1,by simp[c],by omega,?_⟩;refine j _ ?_;have c:(g-1)*S<=4294967296*4294967295:=Nat.mul_le_mul ω ω;rw[Nat.mul_add,<-Nat.mul_assoc];have c:((g-1)*F+(r+F))*4294967296=T*4294967296:=by rw[f]
   rw[Nat.add_mul]at c;omega
  simp only[bU,dj];by_cases c:g<4294967296
  ·rw[show decide (g/4294967296≠0)=false by simp;omega];have c:g*S<=4294967295*4294967295:=Nat.mul_le_mul ω ω;simp only[qo];rw[g3];simp only[dj];rw[Nat.mod_eq_of_lt (a:=g*S) ω,Nat.mod_eq_of_lt (a:=r*4294967296) ω,Nat.mod_eq_of_lt (a:=u) ω,Xw R,Nat.mod_eq_of_lt (a:=r*4294967296+u) ω];by_cases ht:r*4294967296+u<g*S
   ·rw[show decide (r*4294967296+u<g*S)=true by simpa using ht];simp only[dj,pL];exact b (m _ _ i ht)
   rw[show decide (r*4294967296+u<g*S)=false by simpa using ht];right;refine⟨g,by simp,d,?_⟩;refine j _ ?_;rw[Nat.mul_add,<-Nat.mul_assoc,<-i,Nat.add_mul];omega
  rw[show decide (g/4294967296≠0)=true by simp;omega];simp only[dj,pL];exact b ω
 rintro e ⟨c,b⟩;exact⟨(e,jV 4294967296 N A),by rw[zm Y,Option.bind_some],Y,c,b⟩
end
section
open Go.Fw
theorem Dm{N A o n f:Nat}{v:List Nat}(H:Rv v)(I:v.length=n)(hN:N<=100000000001)(K:o+n<N)(D:f<=4294967296)
  (hU:A/4294967296^o<4294967296^(n+1)):
  eR (jV 4294967296 N A) o (n+1) v f=some (decide (A/4294967296^o<vl v*f),jV 4294967296 N (A%4294967296^o+4294967296^o*((A/4294967296^o+4294967296^(n+1)-vl v*f)%4294967296^(n+1)))):=by
 obtain⟨x,d⟩:=H;obtain⟨U,d⟩:∃U,A/4294967296^o=U:=⟨_,Y⟩;obtain⟨V,j⟩:∃V,vl v=V:=⟨_,Y⟩;have w:V<4294967296^n:=by rw[<-j,<-I];exact nQ v x
 have e:4294967296^(n+1)=4294967296^n*4294967296:=Nat.pow_succ ..;have E:V*f<4294967296^(n+1):=by
  rw[e]
  calc V*f<=V*4294967296:=Nat.mul_le_mul_left _ D
   _<4294967296^n*4294967296:=Nat.mul_lt_mul_of_pos_right w ξ
 rw[d]at hU⊢;rw[j];obtain⟨X,r⟩:∃X,U+4294967296^(n+1)-V*f=X:=⟨_,Y⟩;rw[r];unfold eR;simp only[dj];have m:∀i,JK 4294967296 U (V*f) i<=1:=λi=>adz ξ _ _ _;refine jU (λi=>(1-JK 4294967296 U (V*f) i,(i:Int),sC 4294967296 V f 0 i,jV 4294967296 N (mix 4294967296 o i X U A))) (n+1) (1-JK 4294967296 U (V*f) (n+1),jV 4294967296 N (mix 4294967296 o (n+1) X U A)) ?_ (λi C=>?_) ?_ ?_
 ·rw[S9,Xr,<-d,Tg];rfl
 ·
  obtain⟨t,ht⟩:∃t,V*f/4294967296^i%4294967296=t:=⟨_,Y⟩;obtain⟨c,q⟩:∃c,sC 4294967296 V f 0 i=c:=⟨_,Y⟩;obtain⟨p,hp⟩:∃p,V/4294967296^i%4294967296*f=p:=⟨_,Y⟩;have d:c<4294967296:=by
   rw[<-q,sC,sT,Nat.add_zero,Nat.div_lt_iff_lt_mul (Nat.pow_pos ξ)]
   calc V%4294967296^i*f<=V%4294967296^i*4294967296:=Nat.mul_le_mul_left _ D
    _<4294967296*4294967296^i:=by rw[Nat.mul_comm];exact Nat.mul_lt_mul_of_pos_left (Nat.mod_lt _ (Nat.pow_pos ξ)) ξ
  have d:p<=4294967295*4294967296:=by
   rw[<-hp];exact Nat.mul_le_mul (by have:=Nat.mod_lt (V/4294967296^i) (show 0<4294967296 by decide);omega) D
  have s:(p+c)%4294967296=t:=by rw[<-hp,<-q,adA (B:=4294967296) ξ,Nat.add_zero,ht]
  have g:(p+c)/4294967296=sC 4294967296 V f 0 (i+1):=by rw[<-hp,<-q,Xt (B:=4294967296) ξ]
  have d:t<4294967296:=by rw[<-ht];exact Nat.mod_lt _ ξ
  obtain⟨u,e⟩:∃u,U/4294967296^i%4294967296=u:=⟨_,Y⟩;have d:u<4294967296:=by rw[<-e];exact Nat.mod_lt _ ξ
  have z:(jV 4294967296 N (mix 4294967296 o i X U A))[o+i]? =some u:=by rw[uy ω,Gn ξ,e]
  have hl:=m i;obtain⟨l,d⟩:∃l,JK 4294967296 U (V*f) i=l:=⟨_,Y⟩;have m:(u+(4294967296-1-t)+l)%4294967296=X/4294967296^i%4294967296:=by rw[<-e,<-ht,<-d,adF (B:=4294967296) ξ C ω,r]
  have r:(u+(4294967296-1-t)+l)/4294967296=JK 4294967296 U (V*f) (i+1):=by rw[<-e,<-ht,<-d,Ta (B:=4294967296) ξ]
  rw[d]at hl;have e:=QM (B:=4294967296) ξ o i X U A (N:=N) ω;rw[d,q,<-r];simp only[show decide ((i:Int)<((n+1:Nat):Int))=true by simp;omega,pL,dj,bU];rw[J6 ω];simp only[dj,z];have d:∀k:Nat->Option ((Nat×Int×Nat×List Nat)⊕(Nat×List Nat)),(bif decide ((i:Int)<(v.length:Int))then(bV v (i:Int)).bind λq=>k (q%18446744073709551616*f%18446744073709551616)else k 0)=k p:=by
   intro k;by_cases q:i<v.length
   ·rw[show decide ((i:Int)<(v.length:Int))=true by simp;omega,pL];have r:v[i]? =some (V/4294967296^i%4294967296):=by rw[<-j];exact xP x q
    rw[bu r,dj,Nat.mod_eq_of_lt (a:=V/4294967296^i%4294967296) (b:=18446744073709551616) (by have:=Nat.mod_lt (V/4294967296^i) (show 0<4294967296 by decide);omega),hp,Nat.mod_eq_of_lt (a:=p) ω]
   rw[show decide ((i:Int)<(v.length:Int))=false by simp;omega,qo];have:V/4294967296^i=0:=Nat.div_eq_of_lt (Nat.lt_of_lt_of_le w (Nat.pow_le_pow_right ξ ω));rw[<-hp,this];simp
  refine(d (λy=>(cu y c).bind _)).trans ?_;rw[lE _ _ ω];simp only[dj];rw[s,g,Nat.mod_eq_of_lt (a:=u) ω,Nat.mod_eq_of_lt (a:=t) ω];rw[cL (by rw[cw];omega),dj,bC ω,aqg];by_cases d:u<t+(1-l)
  ·have j:vf 18446744073709551616 (vf 18446744073709551616 u t) (1-l)=18446744073709551616+u-t-(1-l):=by
    by_cases d:u<t
    ·rw[J5 d ω,AD ω ω]
    rw[AD (a:=u) (b:=t) ω ω,J5 ω ω];omega
   rw[j];have d:(18446744073709551616+u-t-(1-l))%4294967296=X/4294967296^i%4294967296:=by rw[<-m];omega
   have g:(18446744073709551616+u-t-(1-l))/9223372036854775808=1-(u+(4294967296-1-t)+l)/4294967296:=by omega
   rw[d,g,e]
  have j:vf 18446744073709551616 (vf 18446744073709551616 u t) (1-l)=u-t-(1-l):=by
   rw[AD (a:=u) (b:=t) ω ω,AD ω ω]
  rw[j];have d:(u-t-(1-l))%4294967296=X/4294967296^i%4294967296:=by rw[<-m];omega
  have g:(u-t-(1-l))/9223372036854775808=1-(u+(4294967296-1-t)+l)/4294967296:=by omega
  rw[d,g,e]
 ·simp
 simp only[dj];rw[zm (by rw[cw,cw]),dj,Tf hU,agC ξ hU E];congr 2;by_cases h:U<V*f<;>simp[h]
end
section
open Go.Fw
theorem aqo{B V:Nat}(D:0<B)(H:0<V)(A k:Nat):A%(V*B^(k+1))/B^k<B*V:=by
 rw[Nat.div_lt_iff_lt_mul (Nat.pow_pos D)];have:V*B^(k+1)=B*V*B^k:=by rw[Nat.pow_succ,Nat.mul_comm (B^k),<-Nat.mul_assoc,Nat.mul_comm V]
 rw[<-this];exact Nat.mod_lt _ (Nat.mul_pos H (Nat.pow_pos D))
theorem amC{B V:Nat}(A k:Nat):A%(V*B^(k+1))%B^k+B^k*(A%(V*B^(k+1))/B^k%V)=A%(V*B^k):=by
 rw[<-Nat.mod_mul,Nat.mul_comm (B^k),Nat.mod_mod_of_dvd];rw[Nat.pow_succ,<-Nat.mul_assoc];exact Nat.dvd_mul_right _ _
theorem amD{B V:Nat}(A k:Nat):A%(V*B^(k+1))/B^k/V=A/V/B^k%B:=by
 rw[Nat.div_div_eq_div_mul,Nat.mul_comm (B^k),Nat.pow_succ,<-Nat.mul_assoc,Nat.mod_mul_right_div_self,Nat.div_div_eq_div_mul]
theorem adH{B:Nat}(D:0<B){N k:Nat}(h:k<N)(Q:Nat):(jV B N (Q/B^(k+1)*B^(k+1))).set k (Q/B^k%B)=jV B N (Q/B^k*B^k):=by
 have a:0<B^k:=Nat.pow_pos D;refine C2 D h (Nat.mod_lt _ D) ?_ ?_ ?_
 ·rw[Nat.mul_mod_left,Nat.pow_succ,Nat.mul_comm (B^k),<-Nat.mul_assoc,Nat.mul_mod_left]
 ·rw[Nat.mul_div_cancel _ a]
 rw[Nat.mul_div_cancel _ (Nat.pow_pos D),Nat.pow_succ,<-Nat.div_div_eq_div_mul,Nat.mul_div_cancel _ a,Nat.div_div_eq_div_mul]
theorem Xy{α:Type}{l:List α}{o n:Nat}(h:o<l.length)(D:o+n<=l.length):ckS l (o:Int) ((o+n:Nat):Int)=some (o,n):=by
 unfold ckS;rw[if_pos ω];congr 2;omega
theorem agD{U V g M:Nat}(I:0<V)(H:U/V<=g)(D:g<=U/V+1)(hM:U<M)(K:V<=M):
  (V*g<=U/\g=U/V/\(U+M-V*g)%M=U%V)\/(U<V*g/\g=U/V+1/\U+M-V*g<M/\(U+M-V*g+V)%M=U%V):=by
 have a:=Nat.div_add_mod U V;have b:=Nat.mod_lt U I
 revert H D a b
 generalize U/V=q;generalize U%V=r;intro H D a b;rcases Nat.lt_or_ge q g with h|h
 ·obtain rfl:g=q+1:=by omega
  have e:V*(q+1)=V*q+V:=Nat.mul_succ ..;right;refine⟨by omega,Y,by omega,?_⟩;rw[show U+M-V*(q+1)+V=r+M by omega,Nat.add_mod_right,Nat.mod_eq_of_lt ω]
 obtain rfl:g=q:=by omega
 left;refine⟨by omega,Y,?_⟩;rw[show U+M-V*g=r+M by omega,Nat.add_mod_right,Nat.mod_eq_of_lt ω]
theorem agE{R D e i:Nat}(H:0<D)(I:4294967296=D*e):(R*D/4294967296^(i+1)%4294967296*4294967296+R*D/4294967296^i%4294967296)/D%4294967296=R/4294967296^i%4294967296:=by
 have b:R*D/4294967296^(i+1)%4294967296*4294967296+R*D/4294967296^i%4294967296=R*D/4294967296^i%(4294967296*4294967296):=by
  rw[Nat.mod_mul,Nat.div_div_eq_div_mul,show 4294967296^i*4294967296=4294967296^(i+1)from(Nat.pow_succ ..).symm,Nat.add_comm,Nat.mul_comm 4294967296]
 have a:(4294967296*4294967296:Nat)=D*(e*4294967296):=by
  rw[<-Nat.mul_assoc,<-I]
 rw[b,a,Nat.mod_mul_right_div_self,Nat.mod_mul_left_mod,Nat.div_div_eq_div_mul,Nat.mul_comm (4294967296^i) D,<-Nat.div_div_eq_div_mul,Nat.mul_div_cancel _ H]
theorem amE{B:Nat}(D:0<B){N i R:Nat}(h:i<N):(jV B N (R%B^i)).set i (R/B^i%B)=jV B N (R%B^(i+1)):=by
 refine C2 D h (Nat.mod_lt _ D) ?_ ?_ ?_
 ·rw[Nat.mod_mod,Nat.mod_mod_of_dvd _ (Nat.pow_dvd_pow _ (Nat.le_succ i))]
 ·rw[Nat.pow_succ,Nat.mod_mul_right_div_self,Nat.mod_mod]
 rw[Nat.div_eq_of_lt (Nat.mod_lt _ (Nat.pow_pos D)),Nat.div_eq_of_lt];exact Nat.lt_of_lt_of_le (Nat.mod_lt _ (Nat.pow_pos D)) (Nat.pow_le_pow_right D (Nat.le_succ i))
theorem VU(a b:List Nat)(ha:Rv a)(H:Rv b){n:Nat}(hn:b.length=n+2)(hl:b.length<=a.length)(I:b[n+1]? ≠some 0):
  mR a b=some (jV 4294967296 (a.length-b.length+1) (vl a/vl b),jV 4294967296 b.length (vl a%vl b)):=by
 obtain⟨hA,hla⟩:=ha;obtain⟨hB,hlb⟩:=H;have T:∀k,0<4294967296^k:=λk=>Nat.pow_pos ξ;obtain⟨L,z⟩:∃V,vl a=V:=⟨_,Y⟩;obtain⟨d,t⟩:∃V,vl b=V:=⟨_,Y⟩;have F:d<4294967296^(n+2):=by rw[<-t,<-hn];exact nQ b hB
 have E:L<4294967296^a.length:=by rw[<-z];exact nQ a hA
 have r:4294967296^(n+2)=4294967296^(n+1)*4294967296:=Nat.pow_succ ..;obtain⟨x,H⟩:∃x,d/4294967296^(n+1)=x:=⟨_,Y⟩;have m:x<4294967296:=by rw[<-H,Nat.div_lt_iff_lt_mul (T _)];rw[r,Nat.mul_comm]at F;exact F
 have P:b[n+1]? =some x:=by rw[xP hB ω,show val 4294967296 b=d from t,H,Nat.mod_eq_of_lt m]
 have q:x≠0:=λe=>I (by rw[P,e]);obtain⟨s,G,l,p,c⟩:=aqe x m q;have S:0<2^s:=Nat.two_pow_pos s;have m:2^s<4294967296:=by
  have:2^s<2^32:=Nat.pow_lt_pow_right ξ l;rw[two32]at this;exact this
 obtain⟨D,O⟩:∃D,2^s=D:=⟨_,Y⟩;rw[O]at p c S m;obtain⟨V,q⟩:∃V,d*D=V:=⟨_,Y⟩;obtain⟨A,m⟩:∃A,L*D=A:=⟨_,Y⟩;have Z:V<4294967296^(n+2):=by
  have J:d<(x+1)*4294967296^(n+1):=by rw[<-H,Nat.add_mul,Nat.one_mul];exact Nat.lt_div_mul_add (T _)
  have h2:(x+1)*D<=4294967296:=by
   obtain⟨e,X⟩:∃e,4294967296=D*e:=⟨2^(32-s),by rw[<-O,<-Nat.pow_add,show s+(32-s)=32 by omega,two32]⟩;have C:x<e:=by
    apply Nat.lt_of_mul_lt_mul_left (a:=D);rw[<-X,Nat.mul_comm];exact c
   calc (x+1)*D<=e*D:=Nat.mul_le_mul_right _ C
    _=4294967296:=by rw[Nat.mul_comm,<-X]
  rw[<-q,r]
  calc d*D<(x+1)*4294967296^(n+1)*D:=Nat.mul_lt_mul_of_pos_right J S
   _=4294967296^(n+1)*((x+1)*D):=by rw[Nat.mul_comm (x+1),Nat.mul_assoc]
   _<=4294967296^(n+1)*4294967296:=Nat.mul_le_mul_left _ h2
 have I:2147483648*4294967296^(n+1)<=V:=by
  have J:x*4294967296^(n+1)<=d:=by rw[<-H];exact Nat.div_mul_le_self _ _
  rw[<-q]
  calc 2147483648*4294967296^(n+1)<=x*D*4294967296^(n+1):=Nat.mul_le_mul_right _ p
   _=x*4294967296^(n+1)*D:=by rw[Nat.mul_assoc,Nat.mul_comm D,<-Nat.mul_assoc]
   _<=d*D:=Nat.mul_le_mul_right _ J
 have r:0<V:=Nat.lt_of_lt_of_le (Nat.mul_pos ξ (T _)) I;have hb0:0<d:=by
  rcases Nat.eq_zero_or_pos d with h|h
  ·rw[<-q,h,Nat.zero_mul]at r;omega
  exact h
 have W:A/V=L/d:=by rw[<-m,<-q,Nat.mul_div_mul_right _ _ S]
 have axK:A%V=L%d*D:=by rw[<-m,<-q,Nat.mul_mod_mul_right]
 obtain⟨K,c⟩:∃K,a.length=K+(n+2):=⟨a.length-(n+2),by omega⟩;have C:A<V*4294967296^(K+1):=by
  have J:4294967296^(n+1)<=d:=by
   have:1*4294967296^(n+1)<=x*4294967296^(n+1):=Nat.mul_le_mul_right _ ω;have h2:x*4294967296^(n+1)<=d:=by rw[<-H];exact Nat.div_mul_le_self _ _
   omega
  rw[<-m,<-q]
  calc L*D<4294967296^a.length*D:=Nat.mul_lt_mul_of_pos_right E S
   _=4294967296^(n+1)*4294967296^(K+1)*D:=by rw[c,<-Nat.pow_add];congr 2;omega
   _<=d*4294967296^(K+1)*D:=Nat.mul_le_mul_right _ (Nat.mul_le_mul_right _ J)
   _=d*D*4294967296^(K+1):=by rw[Nat.mul_assoc,Nat.mul_comm _ D,<-Nat.mul_assoc]
 obtain⟨v,c⟩:∃v,jV 4294967296 (n+2) V=v:=⟨_,Y⟩;have J:v.length=n+2:=by rw[<-c,cw]
 have H:Rv v:=⟨λy p=>by rw[<-c]at p;exact uR ξ _ _ _ p,by omega⟩;have p:vl v=V:=by rw[<-c];show val _ _=_;rw[sA,Nat.mod_eq_of_lt Z]
 have E:List.take b.length (jV 4294967296 (b.length+1) (d*2^s))=v:=by
  rw[O,q,hn,wW,List.take_append_of_le_length (by rw[cw];omega),List.take_of_length_le (by rw[cw];omega),c]
 unfold mR;simp only[dj];rw[show((b.length:Nat):Int)-1=((n+1:Nat):Int) by omega,xO ω,bu P,dj,G,dj];rw[show((s:Int)%18446744073709551616).toNat=s by rw[Int.emod_eq_of_lt ω ω];simp];rw[NP,shiftLeft_eq a s ⟨hA,hla⟩ l,dj,shiftLeft_eq b s ⟨hB,hlb⟩ l,dj,C1 (by rw[cw];omega),dj];obtain⟨Q,c⟩:∃Q,A/V=Q:=⟨_,Y⟩;have q:Q<4294967296^(K+1):=by rw[<-c,Nat.div_lt_iff_lt_mul r,Nat.mul_comm];exact C
 rw[z,t,<-W,c,E,O,m,hn];rw[show a.length-(n+2)+1=K+1 by omega];rw[cV (x:=(a.length:Int)-((n+2:Nat):Int)) ω ω,cV (x:=(a.length:Int)-((n+2:Nat):Int)+1) ω ω,show(a.length:Int)-((n+2:Nat):Int)+1=((K+1:Nat):Int) by omega,fE ξ ω,dj,show(a.length:Int)-((n+2:Nat):Int)=(K:Int) by omega];refine jU (λj=>((K:Int)-(j:Int),jV 4294967296 (K+1) (Q/4294967296^(K+1-j)*4294967296^(K+1-j)),jV 4294967296 (a.length+1) (A%(V*4294967296^(K+1-j))))) (K+1) (jV 4294967296 (K+1) Q,jV 4294967296 (a.length+1) (A%V)) ?_ (λj hj=>?_) ?_ ?_
 ·rw[show K+1-0=K+1 by omega,Nat.mod_eq_of_lt C,Nat.div_eq_of_lt q,Nat.zero_mul,CE];simp
 ·
  obtain⟨k,m⟩:∃k,K=k+j:=⟨K-j,by omega⟩;rw[show K+1-j=k+1 by omega,show K+1-(j+1)=k by omega,show(K:Int)-(j:Int)=(k:Int) by omega,show(K:Int)-((j+1:Nat):Int)=(k:Int)-1 by omega];have t:=aqo (B:=4294967296) ξ r A k;have z:=amC (B:=4294967296) (V:=V) A k;have m:=amD (B:=4294967296) (V:=V) A k;obtain⟨N,C⟩:∃N,a.length+1=N:=⟨_,Y⟩;obtain⟨E,q⟩:∃E,A%(V*4294967296^(k+1))=E:=⟨_,Y⟩;rw[C];rw[q]at t z m⊢;rw[c]at m;obtain⟨⟨g,W⟩,P,c,C,q⟩:=Th (N:=N) (A:=E) (o:=k) (n:=n) (v:=v) H J ω ω (by rw[p];exact t) (by rw[p];exact I);simp only at c C q;rw[p]at C q;subst c;have c:=Dm (N:=N) (A:=E) (o:=k) (n:=n+2) (v:=v) (f:=g) H J ω ω ?_ ?_
  ·rw[p]at c;obtain⟨U,I⟩:∃U,E/4294967296^k=U:=⟨_,Y⟩;rw[I]at t z m C q c;have t:4294967296^(n+2+1)=4294967296^(n+2)*4294967296:=Nat.pow_succ ..;have I:U<4294967296^(n+2+1):=by
    have:4294967296*V<4294967296*4294967296^(n+2):=Nat.mul_lt_mul_of_pos_left Z ξ;rw[t];omega
   have W:=agD (M:=4294967296^(n+2+1)) r C q I (by rw[t];omega);have I:U/V<4294967296:=by rw[m];exact Nat.mod_lt _ ξ
   rw[show decide ((0:Int)<=(k:Int))=true by simp,pL];rw[oe ω,bC ω,show k+(n+2)+1=k+(n+3) by omega,Xy (by rw[cw];omega) (by rw[cw];omega),dj,P,dj,zm Y,dj,Xy (by rw[cw];omega) (by rw[cw];omega),dj];show(Option.bind (eR _ k (n+2+1) v g) _)=_;rw[c,dj,zm (by rw[cw,cw]),dj];simp only[bU];rcases W with⟨r,c,q⟩|⟨r,c,q,W⟩
   ·rw[show decide (U<V*g)=false by simp;omega,qo,q,z,c,Nat.mod_eq_of_lt I,m,bY (by rw[cw];omega),dj,cL (by rw[cw];omega),dj,adH ξ ω,cV ω ω]
   rw[show decide (U<V*g)=true by simp;omega,pL,AD ω ω,show g-1=U/V by omega,Nat.mod_eq_of_lt I,m];rw[Nat.mod_eq_of_lt q];obtain⟨c,r⟩:∃c,U+4294967296^(n+2+1)-V*g=c:=⟨_,Y⟩;rw[r]at q W⊢;obtain⟨r,C⟩:∃r,E%4294967296^k+4294967296^k*c=r:=⟨_,Y⟩;rw[C];have hw2:r/4294967296^k=c:=by rw[<-C,Nat.add_mul_div_left _ _ (T k),Nat.div_eq_of_lt (Nat.mod_lt _ (T k)),Nat.zero_add]
   have T:r%4294967296^k=E%4294967296^k:=by rw[<-C,Nat.add_mul_mod_self_left,Nat.mod_mod]
   have P:∀i,Ru 4294967296 c V i<=1:=λi=>VR ξ _ _ _;refine jU (λi=>((i:Int),Ru 4294967296 c V i,jV 4294967296 N (mix 4294967296 k i (c+V) c r))) (n+2) (Ru 4294967296 c V (n+2),jV 4294967296 N (mix 4294967296 k (n+2) (c+V) c r)) ?_ (λi hi=>?_) ?_ ?_
   ·rw[S8,<-hw2,Tg];rfl
   ·have Zc:v[i]? =some (V/4294967296^i%4294967296):=by rw[<-p];exact xP H.1 ω
    have C:(jV 4294967296 N (mix 4294967296 k i (c+V) c r))[k+i]? =some (c/4294967296^i%4294967296):=by rw[uy ω,Gn ξ]
    have G:=S7 (B:=4294967296) ξ c V i;have l:=QJ (B:=4294967296) ξ c V i;have p:=QM (B:=4294967296) ξ k i (c+V) c r (N:=N) ω;have H:=P i;have hv1:=Nat.mod_lt (V/4294967296^i) (show 0<4294967296 by decide);have Wf:=Nat.mod_lt (c/4294967296^i) (show 0<4294967296 by decide);simp only[show decide ((i:Int)<(v.length:Int))=true by simp;omega,pL];rw[bu Zc,dj,oe ω,bY (by rw[cw];omega),dj,C,dj,Nat.mod_eq_of_lt (a:=c/4294967296^i%4294967296) (b:=18446744073709551616) ω,Nat.mod_eq_of_lt (a:=V/4294967296^i%4294967296) (b:=18446744073709551616) ω,Nat.mod_eq_of_lt (b:=18446744073709551616) ω,lE _ _ ω,dj,dj,cL (by rw[cw];omega),dj,bC ω];rw[G,l,p]
   ·simp[J]
   have C:(jV 4294967296 N (mix 4294967296 k (n+2) (c+V) c r))[k+(n+2)]? =some (c/4294967296^(n+2)%4294967296):=by rw[uy ω,Gn ξ]
   have l:=QJ (B:=4294967296) ξ c V (n+2);have p:=QM (B:=4294967296) ξ k (n+2) (c+V) c r (N:=N) ω;have H:=P (n+2);have Wf:=Nat.mod_lt (c/4294967296^(n+2)) (show 0<4294967296 by decide);rw[Nat.div_eq_of_lt Z,Nat.zero_mod,Nat.add_zero]at l;simp only[];rw[bY (by rw[cw];omega),dj,C,dj,Nat.mod_eq_of_lt (a:=c/4294967296^(n+2)%4294967296) (b:=18446744073709551616) ω,lE _ _ ω,dj,dj,cL (by rw[cw];omega),dj,l,p,Tf q,T,W,z,bY (by rw[cw];omega),dj,cL (by rw[cw];omega),dj,adH ξ ω,cV ω ω]
  ·
   have I:E/4294967296^k/V<4294967296:=by rw[m];exact Nat.mod_lt _ ξ
   omega
  have t:4294967296^(n+2+1)=4294967296^(n+2)*4294967296:=Nat.pow_succ ..;have:4294967296*V<4294967296*4294967296^(n+2):=Nat.mul_lt_mul_of_pos_left Z ξ;rw[t];omega
 ·rw[show K+1-(K+1)=0 by omega,Nat.pow_zero,Nat.mul_one,Nat.mul_one,Nat.div_one,show decide (0<=(K:Int)-((K+1:Nat):Int))=false by simp;omega,qo]
 obtain⟨R,c⟩:∃R,L%d=R:=⟨_,Y⟩;rw[axK,c];have d:R<4294967296^(n+2):=by rw[<-c];exact Nat.lt_trans (Nat.mod_lt _ hb0) F
 rw[fE ξ ω,dj];refine jU (λi=>((i:Int),jV 4294967296 (n+2) (R%4294967296^i))) (n+2) (jV 4294967296 (n+2) R) ?_ (λi hi=>?_) ?_ Y
 ·rw[Nat.pow_zero,Nat.mod_one,CE];rfl
 ·obtain⟨e,X⟩:∃e,4294967296=D*e:=⟨2^(32-s),by rw[<-O,<-Nat.pow_add,show s+(32-s)=32 by omega,two32]⟩;have c:=agE (R:=R) (i:=i) S X;obtain⟨u,l⟩:∃u,R*D/4294967296^i%4294967296=u:=⟨_,Y⟩;obtain⟨w,p⟩:∃w,R*D/4294967296^(i+1)%4294967296=w:=⟨_,Y⟩;have m:u<4294967296:=by rw[<-l];exact Nat.mod_lt _ ξ
  have q:w<4294967296:=by rw[<-p];exact Nat.mod_lt _ ξ
  rw[l,p]at c;simp only[show decide ((i:Int)<((n+2:Nat):Int))=true by simp;omega,pL];rw[bY (by rw[cw];omega),dj,uy ω,dj,l,bC ω,bY (by rw[cw];omega),dj,uy ω,dj,p,Nat.mod_eq_of_lt (a:=u) ω,Nat.mod_eq_of_lt (a:=w) ω,two32,Nat.mod_eq_of_lt (a:=w*4294967296) ω,Nat.or_comm,Xw m,Nat.mod_eq_of_lt (a:=w*4294967296+u) ω,show min s 64=s by omega,O,c,bY (by rw[cw];omega),dj,cL (by rw[cw];omega),dj];rw[amE ξ hi]
 rw[Nat.mod_eq_of_lt d];simp
end
section
open Go.Fw
def sv(n:Bool)(v:Nat):Int:=bif n then-(v:Int)else v
def zi(z:Zr):Int:=sv z.neg (vl z.w)
def zn(i:Int):Zr:=⟨decide (i<0),can 4294967296 i.natAbs⟩
def Wl(z:Zr):Prop:=(∀x∈z.w,x<4294967296)/\z.w.length<=10000000000
def Fit(L:Nat)(i:Int):Prop:=i.natAbs<4294967296^L
theorem adJ(n:Bool)(v:Nat):(sv n v).natAbs=v:=by cases n<;>simp[sv]
theorem QO(z:Zr):(zi z).natAbs=vl z.w:=adJ _ _
theorem amH(n:Bool)(v:Nat):decide (sv n v<0)=(n&&v != 0):=by
 cases n
 ·have:¬((v:Int)<0):=by omega
  simp[sv,this]
 rcases v with _|v
 ·simp[sv]
 simp[sv]
theorem xQ(n:Bool)(v:Nat):zc n v=zn (sv n v):=by rw[zc,zn,amH,adJ]
theorem agH(i:Int):sv (decide (i<0)) i.natAbs=i:=by
 by_cases h:i<0
 ·rw[show decide (i<0)=true by simp[h]];simp[sv];omega
 rw[show decide (i<0)=false by simp[h]];simp[sv];omega
theorem jd(i:Int):zi (zn i)=i:=by
 show sv (decide (i<0)) (vl (can 4294967296 i.natAbs))=i;rw[show vl (can 4294967296 i.natAbs)=i.natAbs from AG ξ _,agH]
theorem QS(n:Bool)(v:Nat):sv (!n) v=-sv n v:=by cases n<;>simp[sv]
theorem wX(v:Nat):sv false v=v:=rfl
theorem Fit.mono{L M:Nat}{i:Int}(h:Fit L i)(hl:L<=M):Fit M i:=Nat.lt_of_lt_of_le h (Nat.pow_le_pow_right ξ hl)
theorem Fit.neg{L:Nat}{i:Int}(h:Fit L i):Fit L (-i):=by unfold Fit at*;rw[Int.natAbs_neg];exact h
theorem Fit.add{L:Nat}{i j:Int}(h:Fit L i)(D:Fit L j):Fit (L+1) (i+j):=by
 unfold Fit at*;have:=Int.natAbs_add_le i j;rw[Nat.pow_succ];omega
theorem Fit.sub{L:Nat}{i j:Int}(h:Fit L i)(D:Fit L j):Fit (L+1) (i-j):=by
 rw[Int.sub_eq_add_neg];exact h.add D.neg
theorem Fit.mul{L M:Nat}{i j:Int}(h:Fit L i)(D:Fit M j):Fit (L+M) (i*j):=by
 unfold Fit at*;rw[Int.natAbs_mul,Nat.pow_add];exact Nat.mul_lt_mul'' h D
theorem Fit.i64{i:Int}(h: -9223372036854775808<=i)(D:i<=9223372036854775807):Fit 2 i:=by
 unfold Fit;rw[show(4294967296:Nat)^2=18446744073709551616 by decide];omega
theorem Fit.le{L:Nat}{i j:Int}(h:Fit L i)(D:j.natAbs<=i.natAbs):Fit L j:=Nat.lt_of_le_of_lt D h
theorem pB{L:Nat}{i:Int}(h:Fit L i)(D:L<=10000000000):Wl (zn i):=
 ⟨λ_ a=>sB ξ a,Nat.le_trans ((ju ξ).2 h) D⟩
theorem Wl.fit{z:Zr}(h:Wl z):Fit z.w.length (zi z):=by
 unfold Fit;rw[QO];exact nQ z.w h.1
theorem Wl.lt{z:Zr}(h:Wl z):vl z.w<4294967296^z.w.length:=nQ z.w h.1
theorem Wl.cl{z:Zr}(h:Wl z):(can 4294967296 (vl z.w)).length<=10000000000:=
 Nat.le_trans ((ju ξ).2 (Wl.lt h)) h.2
theorem Wl.trim{z:Zr}(h:Wl z):bN z.w=some (can 4294967296 (vl z.w)):=by
 rw[Ka _ (by have:=h.2;omega),zu ξ h.1]
theorem k8{v:Nat}(h:(can 4294967296 v).length<=10000000001):Rv (can 4294967296 v):=⟨λ_ a=>sB ξ a,by omega⟩
theorem ja(v:Nat):vl (can 4294967296 v)=v:=AG ξ v
theorem kF{v:Nat}:((can 4294967296 v).length:Int)<=2↔v<18446744073709551616:=by
 have:=ju (B:=4294967296) ξ (v:=v) (n:=2);rw[show(4294967296:Nat)^2=18446744073709551616 by decide]at this;omega
theorem sD{v:Nat}:((can 4294967296 v).length:Int)<=1↔v<4294967296:=by
 have:=ju (B:=4294967296) ξ (v:=v) (n:=1);rw[show(4294967296:Nat)^1=4294967296 by decide]at this;omega
theorem zy{v:Nat}:(can 4294967296 v).length=0↔v=0:=by
 constructor
 ·intro h;exact QH ξ (List.length_eq_zero_iff.1 h)
 intro h;rw[h,CG];rfl
theorem Gp(l:List Nat)(h:l.length<=1000000000000):jm l=some l:=by
 unfold jm;rw[amp ξ θ];simp
end
section
open Go.Fw
theorem Tj(a b:Nat):decide (NO a b<0)=decide (a<b):=by
 rcases Nat.lt_trichotomy a b with h|h|h
 ·rw[Gk h];simp[h]
 ·rw[h,QL];simp
 rw[J9 h];simp;omega
theorem I2(a b:Nat)(H:(can 4294967296 a).length<=10000000000)(I:(can 4294967296 b).length<=10000000000)(D:b≠0):
  ∃q r,kn (can 4294967296 a) (can 4294967296 b)=some (q,r)/\Rv q/\vl q=a/b/\Rv r/\vl r=a%b/\q.length<=10000000001/\r.length<=10000000001:=by
 unfold kn;rw[qp a b ω ω];simp only[dj];by_cases c:a<b
 ·rw[Gk c];simp only[show decide ((-1:Int)<0)=true by decide,pL];rw[Gp _ ω];refine⟨_,_,Y,⟨by simp,by simp⟩,?_,k8 ω,?_,by simp,by omega⟩
  ·rw[Nat.div_eq_of_lt c];rfl
  rw[ja,Nat.mod_eq_of_lt c]
 rw[Tj,show decide (a<b)=false by simp[c]];simp only[qo];by_cases d:a<18446744073709551616
 ·rw[show decide (((can 4294967296 a).length:Int)<=2)=true by rw[decide_eq_true_eq];exact kF.2 d];have g:b<18446744073709551616:=by omega
  simp only[pL];have f:=low_eq (can 4294967296 a) (λ_ c=>sB ξ c) (by have:=kF.2 d;omega);have e:=low_eq (can 4294967296 b) (λ_ c=>sB ξ c) (by have:=kF.2 g;omega);rw[ja]at f e;rw[f,dj,e,dj,QE D d,dj,zx _ _ (Nat.lt_of_le_of_lt (Nat.div_le_self _ _) d),dj,J7 D,dj,zx _ _ (Nat.lt_of_le_of_lt (Nat.mod_le _ _) d),dj];have e:a/b<18446744073709551616:=Nat.lt_of_le_of_lt (Nat.div_le_self _ _) d;have hr:a%b<18446744073709551616:=Nat.lt_of_le_of_lt (Nat.mod_le _ _) d;have f:=kF.2 e;have e:=kF.2 hr;exact⟨_,_,Y,k8 ω,ja _,k8 ω,ja _,by show(can _ _).length<=_;omega,by show(can _ _).length<=_;omega⟩
 rw[show decide (((can 4294967296 a).length:Int)<=2)=false by rw[decide_eq_false_iff_not];exact λh=>d (kF.1 h)];simp only[qo];have d:(can 4294967296 b).length≠0:=λh=>D (zy.1 h);by_cases d:b<4294967296
 ·have e:=sD.2 d;rw[show decide (((can 4294967296 b).length:Int)=1)=true by simp;omega,pL];have f:(can 4294967296 b)[0]? =some b:=by rw[QI ξ ω];simp;exact d
  rw[Gp _ ω,dj,Ig f,dj,Nat.mod_eq_of_lt (b:=18446744073709551616) ω,Te _ _ (k8 ω) ω ω,dj,ja];simp only[];rw[zm (by rw[cw]),dj];have f:a%b<b:=Nat.mod_lt _ ω;rw[Nat.mod_eq_of_lt (a:=a%b) ω];refine⟨_,_,Y,⟨λx c=>uR ξ _ _ _ c,by rw[cw];omega⟩,?_,⟨?_,by simp⟩,?_,by rw[cw];omega,by simp⟩
  ·show val _ _=_;rw[sA,Nat.mod_eq_of_lt (Nat.lt_of_le_of_lt (Nat.div_le_self _ _) (gI ξ a))]
  ·intro x c;simp at c;omega
  simp[vl,val]
 have e:¬(((can 4294967296 b).length:Int)<=1):=λh=>d (sD.1 h);rw[show decide (((can 4294967296 b).length:Int)=1)=false by simp;omega,qo];obtain⟨n,d⟩:∃n,(can 4294967296 b).length=n+2:=⟨(can 4294967296 b).length-2,by omega⟩;have hl:(can 4294967296 b).length<=(can 4294967296 a).length:=(ju ξ).2 (Nat.lt_of_le_of_lt ω (gI ξ a));obtain⟨l,x,c,e⟩:=S6 (B:=4294967296) ξ D;have f:(can 4294967296 b)[n+1]? ≠some 0:=by
  have:l.length=n+1:=by rw[e]at d;simp at d;omega
  rw[e,<-this];simp;exact c
 rw[VU _ _ (k8 ω) (k8 ω) d hl f,dj,ja,ja];have d:0<b:=by omega
 have g:a<4294967296^(can 4294967296 a).length:=gI ξ a;have e:b<4294967296^(can 4294967296 b).length:=gI ξ b;have f:4294967296^(n+1)<=b:=DX ξ ω;refine⟨_,_,Y,⟨λx c=>uR ξ _ _ _ c,by rw[cw];omega⟩,?_,⟨λx c=>uR ξ _ _ _ c,by rw[cw];omega⟩,?_,by rw[cw];omega,by rw[cw];omega⟩
 ·show val _ _=_;rw[sA,Nat.mod_eq_of_lt];rw[Nat.div_lt_iff_lt_mul d];have:4294967296^((can 4294967296 a).length-(can 4294967296 b).length+1)*4294967296^(n+1)=4294967296^(can 4294967296 a).length:=by rw[<-Nat.pow_add];congr 1;omega
  calc a<4294967296^((can 4294967296 a).length-(can 4294967296 b).length+1)*4294967296^(n+1):=by rw[this];exact g
   _<=_:=Nat.mul_le_mul_left _ f
 show val _ _=_;rw[sA,Nat.mod_eq_of_lt (Nat.lt_trans (Nat.mod_lt _ d) e)]
end
section
open Go.Fw
theorem oU{x:Int}(H: -9223372036854775808<=x)(D:x<=9223372036854775807):cD x=some (zn x):=by
 unfold cD;simp only[dj,bU];by_cases a:x<0
 ·have e:(x%18446744073709551616).toNat=18446744073709551616-x.natAbs:=by omega
  rw[show decide (x<0)=true by simp[a],pL,e,J5 ω ω,show 18446744073709551616+0-(18446744073709551616-x.natAbs)=x.natAbs by omega,zx _ _ ω,dj,xQ,show sv true x.natAbs=x by simp[sv];omega]
 have e:(x%18446744073709551616).toNat=x.natAbs:=by omega
 rw[show decide (x<0)=false by simp[a],qo,e,zx _ _ ω,dj,xQ,show sv false x.natAbs=x by simp[sv];omega]
def fQ(i:Int):Prop:=-9223372036854775808<=i/\i<=9223372036854775807
instance(i:Int):Decidable (fQ i):=by unfold fQ;infer_instance
def Bc(i:Int):Int×Bool:=if fQ i then(i,true)else(0,false)
theorem uz{z:Zr}(h:Wl z):eT z=some (Bc (zi z)):=by
 obtain⟨n,w⟩:=z;unfold eT;have ht:=h.trim;have c:vl w<18446744073709551616->gj (can 4294967296 (vl w))=some (vl w):=λa=>by
  rw[low_eq _ (λ_ b=>sB ξ b) (by have:=kF.2 a;omega),ja]
 show(bN w).bind _=some (Bc (sv n (vl w)));rw[show bN w=some (can 4294967296 (vl w))from ht];simp only[dj];generalize vl w=v at*;by_cases a:v<18446744073709551616
 ·have:=kF.2 a;rw[show decide ((2:Int)<((can 4294967296 v).length:Int))=false by simp;omega,qo,c a,dj];cases n
  ·rw[qo,wX];by_cases b:v<9223372036854775808
   ·rw[show decide (9223372036854775808<=v)=false by simp;omega,qo,xO ω,Bc,if_pos (by unfold fQ;omega)]
   rw[show decide (9223372036854775808<=v)=true by simp;omega,pL,Bc,if_neg (by unfold fQ;omega)]
  rw[pL,show sv true v=-(v:Int)from rfl];by_cases b:9223372036854775808<v
  ·rw[show decide (9223372036854775808<v)=true by simp;omega,pL,Bc,if_neg (by unfold fQ;omega)]
  rw[show decide (9223372036854775808<v)=false by simp;omega,qo,Bc,if_pos (by unfold fQ;omega)];by_cases b:v=0
  ·subst b;rfl
  rw[J5 ω ω];rw[show IntKind.i64.wrap ((18446744073709551616+0-v:Nat):Int)=-(v:Int) by
   rw[IntKind.wrap];simp[IntKind.signed,IntKind.bits];omega]
 have:¬(((can 4294967296 v).length:Int)<=2):=λh=>a (kF.1 h);rw[show decide ((2:Int)<((can 4294967296 v).length:Int))=true by simp;omega,pL,Bc,if_neg (by unfold fQ;cases n<;>simp[sv]<;>omega)]
theorem sign_eq{z:Zr}(h:Wl z):eJ z=some (zi z).sign:=by
 obtain⟨n,w⟩:=z;unfold eJ;show(bN w).bind _=some (sv n (vl w)).sign;rw[show bN w=some (can 4294967296 (vl w))from h.trim];simp only[dj];generalize vl w=v;by_cases a:v=0
 ·subst a;cases n<;>rfl
 have:(can 4294967296 v).length≠0:=λh=>a (zy.1 h);rw[show decide (((can 4294967296 v).length:Int)=0)=false by simp;intro e;rw[e]at this;exact this Y,qo];cases n
 ·rw[qo,wX,Int.sign_eq_one_of_pos ω]
 rw[pL,show sv true v=-(v:Int)from Y,Int.sign_eq_neg_one_of_neg ω]
def zA(i j:Int):Int:=if i<j then-1 else if i=j then 0 else 1
theorem tN{i j:Int}(h:i<j):zA i j=-1:=by simp[zA,h]
theorem tO{i j:Int}(h:j<i):zA i j=1:=by
 have b:¬i<j:=by omega
 have a:¬i=j:=by omega
 simp[zA,b,a]
theorem C3(i:Int):zA i i=0:=by simp[zA]
theorem Tk(v w:Nat):NO v w=zA (v:Int) (w:Int):=by
 rcases Nat.lt_trichotomy v w with h|h|h
 ·rw[Gk h,tN ω]
 ·rw[h,QL,C3]
 rw[J9 h,tO ω]
theorem adK(i j:Int):zA (-i) (-j)=zA j i:=by
 rcases Int.lt_trichotomy i j with h|h|h
 ·rw[tO h,tO ω]
 ·rw[h,C3,C3]
 rw[tN h,tN ω]
theorem amI{x y:Zr}(H:Wl x)(D:Wl y):ue x y=some (zA (zi x) (zi y)):=by
 obtain⟨n,w⟩:=x;obtain⟨m,u⟩:=y;unfold ue;show(eJ ⟨n,w⟩).bind _=_;rw[sign_eq H,dj];show(eJ ⟨m,u⟩).bind _=_;rw[sign_eq D,dj,show bN w=some (can 4294967296 (vl w))from H.trim,show bN u=some (can 4294967296 (vl u))from D.trim];simp only[dj];rw[qp _ _ (Nat.le_trans H.cl ξ) (Nat.le_trans D.cl ξ),qp _ _ (Nat.le_trans D.cl ξ) (Nat.le_trans H.cl ξ)];simp only[dj];rw[show zi ⟨n,w⟩=sv n (vl w)from Y,show zi ⟨m,u⟩=sv m (vl u)from rfl];generalize vl w=a;generalize vl u=b;rw[Tk,Tk];obtain⟨i,c⟩:∃i,sv n a=i:=⟨_,Y⟩;obtain⟨j,hj⟩:∃j,sv m b=j:=⟨_,Y⟩;have e:(i<0->i=-(a:Int))/\(0<=i->i=a):=by rw[<-c];cases n<;>simp[sv]<;>omega
 have f:(j<0->j=-(b:Int))/\(0<=j->j=b):=by rw[<-hj];cases m<;>simp[sv]<;>omega
 rw[c,hj];rcases Int.lt_trichotomy i 0 with d|d|d<;>rcases Int.lt_trichotomy j 0 with c|c|c
 ·rw[Int.sign_eq_neg_one_of_neg d,Int.sign_eq_neg_one_of_neg c,e.1 d,f.1 c,adK];rfl
 ·rw[Int.sign_eq_neg_one_of_neg d,show Int.sign j=0 by rw[c];rfl,show zA i j=-1 from tN ω];rfl
 ·rw[Int.sign_eq_neg_one_of_neg d,Int.sign_eq_one_of_pos c,show zA i j=-1 from tN ω];rfl
 ·rw[show Int.sign i=0 by rw[d];rfl,Int.sign_eq_neg_one_of_neg c,show zA i j=1 from tO ω];rfl
 ·rw[show Int.sign i=0 by rw[d];rfl,show Int.sign j=0 by rw[c];rfl,<-e.2 ω,<-f.2 ω];rfl
 ·rw[show Int.sign i=0 by rw[d];rfl,Int.sign_eq_one_of_pos c,show zA i j=-1 from tN ω];rfl
 ·rw[Int.sign_eq_one_of_pos d,Int.sign_eq_neg_one_of_neg c,show zA i j=1 from tO ω];rfl
 ·rw[Int.sign_eq_one_of_pos d,show Int.sign j=0 by rw[c];rfl,show zA i j=1 from tO ω];rfl
 rw[Int.sign_eq_one_of_pos d,Int.sign_eq_one_of_pos c,<-e.2 ω,<-f.2 ω];rfl
theorem neg_eq{x:Zr}(D:Wl x):kV x=some (zn (-zi x)):=by
 obtain⟨n,w⟩:=x;unfold kV;have a:(can 4294967296 (vl w)).length<=10000000000:=D.cl;simp only[dj];rw[show bN w=some (can 4294967296 (vl w))from D.trim,dj,Gp _ ω,dj,qf _ _ (k8 ω),dj,ja,xQ,QS];rfl
end
section
open Go.Fw
theorem Gq(n m:Bool)(a b:Nat)(D:(can 4294967296 a).length<=10000000000)(H:(can 4294967296 b).length<=10000000000):
  fm n (can 4294967296 a) m (can 4294967296 b)=some (zn (sv n a+sv m b)):=by
 have i:=gI (B:=4294967296) ξ a;have j:=gI (B:=4294967296) ξ b;unfold fm;simp only[dj];by_cases e:n=m
 ·subst e;rw[show(n==n)=true by simp,pL,I0 _ _ (k8 ω) (k8 ω),dj,ja,ja,qf _ _ ⟨λx f=>uR ξ _ _ _ f,by rw[cw];omega⟩,dj];have g:vl (jV 4294967296 (max (can 4294967296 a).length (can 4294967296 b).length+1) (a+b))=a+b:=by
   show val _ _=_;rw[sA,Nat.mod_eq_of_lt];have h:a<4294967296^(max (can 4294967296 a).length (can 4294967296 b).length):=Nat.lt_of_lt_of_le i (Nat.pow_le_pow_right ξ ω);have i:b<4294967296^(max (can 4294967296 a).length (can 4294967296 b).length):=Nat.lt_of_lt_of_le j (Nat.pow_le_pow_right ξ ω);rw[Nat.pow_succ];omega
  rw[g,xQ,show sv n (a+b)=sv n a+sv n b by cases n<;>simp[sv];omega]
 rw[show(n==m)=false by simp[e],qo,qp _ _ ω ω,dj,Tj];have e:m= !n:=by cases n<;>cases m<;>simp_all
 subst e;have g:∀c d,d<=c->(can 4294967296 c).length<=10000000000->eP (can 4294967296 c) (can 4294967296 d)=some (jV 4294967296 (can 4294967296 c).length (c-d))/\vl (jV 4294967296 (can 4294967296 c).length (c-d))=c-d:=by
  intro c d e j;have j:=gI (B:=4294967296) ξ c;have j:(can 4294967296 d).length<=(can 4294967296 c).length:=(ju ξ).2 ω;constructor
  ·rw[I1 _ _ (k8 ω) (k8 ω) j (by rw[ja,ja];exact e),ja,ja]
  show val _ _=_;rw[sA,Nat.mod_eq_of_lt ω]
 by_cases e:a<b
 ·obtain⟨h,i⟩:=g b a ω H;rw[show decide (a<b)=true by simp[e],pL,h,dj,qf _ _ ⟨λx f=>uR ξ _ _ _ f,by rw[cw];omega⟩,dj,i,xQ,show sv (!n) (b-a)=sv n a+sv (!n) b by cases n<;>simp[sv]<;>omega]
 obtain⟨h,i⟩:=g a b ω D;rw[show decide (a<b)=false by simp[e],qo,h,dj,qf _ _ ⟨λx f=>uR ξ _ _ _ f,by rw[cw];omega⟩,dj,i,xQ,show sv n (a-b)=sv n a+sv (!n) b by cases n<;>simp[sv]<;>omega]
theorem Xz(v:BitVec 64):IntKind.i64.wrap (v.toNat:Int)=v.toInt:=by
 rw[BitVec.toInt_eq_toNat_cond];have:=v.isLt;rw[show(2:Nat)^64=18446744073709551616 by decide]at this⊢;split
 ·rw[xO ω]
 rw[IntKind.wrap];simp[IntKind.signed,IntKind.bits];omega
theorem XA(v:BitVec 64):BitVec.ofInt 64 (IntKind.i64.wrap (v.toNat:Int))=v:=by rw[Xz,BitVec.ofInt_toInt]
theorem Ii{x:Int}(h:fQ x):(BitVec.ofInt 64 x).msb=decide (x<0):=by
 rw[BitVec.msb_eq_toInt,BitVec.toInt_ofInt];unfold fQ at h;have:x.bmod (2^64)=x:=by
  rw[Int.bmod_def];simp only[show((2^64:Nat):Int)=18446744073709551616 by decide];split<;>omega
 rw[this]
theorem OV(v:BitVec 64):decide ((0:Int)<=IntKind.i64.wrap (v.toNat:Int))= !v.msb:=by
 rw[Xz,BitVec.msb_eq_toInt];by_cases h:v.toInt<0
 ·simp[h]
 simp[h];omega
theorem zB(x:Int):fQ (IntKind.i64.wrap x):=by
 unfold fQ;rw[IntKind.wrap];simp[IntKind.signed,IntKind.bits];split<;>omega
theorem Ms{α:Type}(b:Bool)(x:α):(bif b then x else x)=x:=by cases b<;>rfl
theorem ng{i:Int}(h:fQ i):Bc i=(i,true):=if_pos h
theorem wY{i:Int}(h:¬fQ i):Bc i=(0,false):=if_neg h
theorem add_eq{x y:Zr}(H:Wl x)(D:Wl y):ua x y=some (zn (zi x+zi y)):=by
 obtain⟨n,w⟩:=x;obtain⟨m,u⟩:=y;unfold ua;simp only[uz H,uz D,dj,bU];have d:((bN w).bind λa=>(bN u).bind λb=>(fm n a m b).bind λx=>some x)=some (zn (zi ⟨n,w⟩+zi ⟨m,u⟩)):=by
  rw[show bN w=some (can 4294967296 (vl w))from H.trim,show bN u=some (can 4294967296 (vl u))from D.trim,dj,dj,Gq _ _ _ _ H.cl D.cl,dj];rfl
 have c:((bN w).bind λa=>(bN u).bind λb=>(fm n a m b).bind λx=>some ⟨x.neg,x.w⟩)=some (zn (zi ⟨n,w⟩+zi ⟨m,u⟩)):=d;rw[c];generalize zi ⟨n,w⟩=i;generalize zi ⟨m,u⟩=j;by_cases a:fQ i
 ·by_cases b:fQ j
  ·rw[ng a,ng b,pL,dj,pL,XA,XA,OV,BitVec.msb_and,BitVec.msb_xor,BitVec.msb_xor,Ii a,Ii b,Ii (zB _),oU (zB _).1 (zB _).2,dj];by_cases hr:fQ (i+j)
   ·rw[cV hr.1 hr.2];exact Ms _ _
   have:(!((decide (i<0)^^decide (IntKind.i64.wrap (i+j)<0))&&(decide (j<0)^^decide (IntKind.i64.wrap (i+j)<0))))=false:=by
    unfold fQ at*;by_cases c:i<0
    ·have e:IntKind.i64.wrap (i+j)=i+j+18446744073709551616:=by rw[IntKind.wrap];simp[IntKind.signed,IntKind.bits];omega
     rw[e,show decide (i<0)=true by simp[c],show decide (j<0)=true by simp;omega,show decide (i+j+18446744073709551616<0)=false by simp;omega];rfl
    have e:IntKind.i64.wrap (i+j)=i+j-18446744073709551616:=by rw[IntKind.wrap];simp[IntKind.signed,IntKind.bits];omega
    rw[e,show decide (i<0)=false by simp[c],show decide (j<0)=false by simp;omega,show decide (i+j-18446744073709551616<0)=true by simp;omega];rfl
   rw[this,qo]
  rw[ng a,wY b,pL,dj,qo]
 rw[wY a,qo,dj,qo]
theorem sub_eq{x y:Zr}(H:Wl x)(D:Wl y):ud x y=some (zn (zi x-zi y)):=by
 obtain⟨n,w⟩:=x;obtain⟨m,u⟩:=y;unfold ud;simp only[uz H,uz D,dj,bU];have a:((bN w).bind λb=>(bN u).bind λc=>(fm n b (!m) c).bind λx=>some ⟨x.neg,x.w⟩)=some (zn (zi ⟨n,w⟩-zi ⟨m,u⟩)):=by
  rw[show bN w=some (can 4294967296 (vl w))from H.trim,show bN u=some (can 4294967296 (vl u))from D.trim,dj,dj,Gq _ _ _ _ H.cl D.cl,dj,QS,<-Int.sub_eq_add_neg];rfl
 rw[a];generalize zi ⟨n,w⟩=i;generalize zi ⟨m,u⟩=j;by_cases a:fQ i
 ·by_cases b:fQ j
  ·rw[ng a,ng b,pL,dj,pL,XA,XA,OV,BitVec.msb_and,BitVec.msb_xor,BitVec.msb_xor,Ii a,Ii b,Ii (zB _),oU (zB _).1 (zB _).2,dj];by_cases hr:fQ (i-j)
   ·rw[cV hr.1 hr.2];exact Ms _ _
   have:(!((decide (i<0)^^decide (j<0))&&(decide (i<0)^^decide (IntKind.i64.wrap (i-j)<0))))=false:=by
    unfold fQ at*;by_cases c:i<0
    ·have e:IntKind.i64.wrap (i-j)=i-j+18446744073709551616:=by rw[IntKind.wrap];simp[IntKind.signed,IntKind.bits];omega
     rw[e,show decide (i<0)=true by simp[c],show decide (j<0)=false by simp;omega,show decide (i-j+18446744073709551616<0)=false by simp;omega];rfl
    have e:IntKind.i64.wrap (i-j)=i-j-18446744073709551616:=by rw[IntKind.wrap];simp[IntKind.signed,IntKind.bits];omega
    rw[e,show decide (i<0)=false by simp[c],show decide (j<0)=true by simp;omega,show decide (i-j-18446744073709551616<0)=true by simp;omega];rfl
   rw[this,qo]
  rw[ng a,wY b,pL,dj,qo]
 rw[wY a,qo,dj,qo]
theorem adL(n m:Bool)(a b:Nat):sv (!(n==m)) (a*b)=sv n a*sv m b:=by
 cases n<;>cases m<;>simp[sv,Int.neg_mul,Int.mul_neg]
theorem mul_eq{x y:Zr}(D:Wl x)(H:Wl y):eU x y=some (zn (zi x*zi y)):=by
 obtain⟨n,w⟩:=x;obtain⟨m,u⟩:=y;unfold eU;have c:(can 4294967296 (vl w)).length<=10000000000:=D.cl;have c:(can 4294967296 (vl u)).length<=10000000000:=H.cl;simp only[];rw[show bN w=some (can 4294967296 (vl w))from D.trim,show bN u=some (can 4294967296 (vl u))from H.trim,dj,dj,show zi ⟨n,w⟩=sv n (vl w)from Y,show zi ⟨m,u⟩=sv m (vl u)from rfl];simp only[dj,bU];generalize vl w=a at*;generalize vl u=b at*;have f:=gI (B:=4294967296) ξ a;have d:=gI (B:=4294967296) ξ b;have e:((kj (can 4294967296 a) (can 4294967296 b)).bind λc=>(dy (!(n==m)) c).bind λx=>some ⟨x.neg,x.w⟩)=some (zn (sv n a*sv m b)):=by
  rw[Td _ _ (k8 ω) (k8 ω),dj,ja,ja,qf _ _ ⟨λx D=>uR ξ _ _ _ D,by rw[cw];omega⟩,dj,xQ];have c:vl (jV 4294967296 ((can 4294967296 a).length+(can 4294967296 b).length) (a*b))=a*b:=by
   show val _ _=_;rw[sA,Nat.mod_eq_of_lt];rw[Nat.pow_add];exact Nat.mul_lt_mul'' f d
  rw[c,adL]
 rw[e];by_cases c:a<4294967296
 ·by_cases e:b<4294967296
  ·have g:=low_eq (can 4294967296 a) (λ_ D=>sB ξ D) (by have:=sD.2 c;omega);have f:=low_eq (can 4294967296 b) (λ_ D=>sB ξ D) (by have:=sD.2 e;omega);rw[ja]at g f;have d:a*b<18446744073709551616:=Nat.mul_lt_mul'' c e;rw[show decide (((can 4294967296 a).length:Int)<=1)=true by rw[decide_eq_true_eq];exact sD.2 c,pL,dj,show decide (((can 4294967296 b).length:Int)<=1)=true by rw[decide_eq_true_eq];exact sD.2 e,pL,g,f,dj,dj,Nat.mod_eq_of_lt d,zx _ _ d,dj,xQ,adL]
  rw[show decide (((can 4294967296 a).length:Int)<=1)=true by rw[decide_eq_true_eq];exact sD.2 c,pL,dj,show decide (((can 4294967296 b).length:Int)<=1)=false by rw[decide_eq_false_iff_not];exact λh=>e (sD.1 h),qo]
 rw[show decide (((can 4294967296 a).length:Int)<=1)=false by rw[decide_eq_false_iff_not];exact λh=>c (sD.1 h),qo,dj,qo]
end
section
open Go.Fw
theorem amJ(n m:Bool){a b:Nat}(D:0<b):
  sv n a/sv m b=(if n=true/\0<a%b then sv (!(n==m)) (a/b+1)else sv (!(n==m)) (a/b))/\
  sv n a%sv m b=(if n=true/\0<a%b then((b-a%b:Nat):Int)else((a%b:Nat):Int)):=by
 have c:=Nat.div_add_mod a b;have d:=Nat.mod_lt a D
 revert c d
 generalize a/b=q;generalize a%b=r;intro c d;have d:(b:Int)*q+r=a:=by exact_mod_cast c
 have pos:∀n,sv n a/(b:Int)=(if n=true/\0<r then sv n (q+1)else sv n q)/\sv n a%(b:Int)=(if n=true/\0<r then((b-r:Nat):Int)else(r:Int)):=by
  intro n;apply(Int.ediv_emod_unique ω).2;cases n
  ·simp[sv];omega
  by_cases hr:0<r
  ·simp only[hr,and_self,if_true,sv,cond_true];have:(b:Int)* -((q+1:Nat):Int)=-((b:Int)*q)-b:=by
    rw[Int.mul_neg,Int.natCast_add,Int.mul_add];simp;omega
   rw[this];omega
  have:r=0:=by omega
  subst this;simp[sv,Int.mul_neg];omega
 cases m
 ·have:=pos n;rw[wX,show(!(n==false))=n by cases n<;>rfl];exact this
 have:=pos n;rw[show sv true b=-(b:Int)from rfl,Int.ediv_neg,Int.emod_neg,this.1,this.2,show(!(n==true))= !n by cases n<;>rfl,QS,QS];refine⟨?_,Y⟩;split<;>rfl
theorem amK{a b:Nat}(D:b<=a)(H:(can 4294967296 a).length<=10000000000):eP (can 4294967296 a) (can 4294967296 b)=some (jV 4294967296 (can 4294967296 a).length (a-b))/\vl (jV 4294967296 (can 4294967296 a).length (a-b))=a-b:=by
 have c:=gI (B:=4294967296) ξ a;have c:(can 4294967296 b).length<=(can 4294967296 a).length:=(ju ξ).2 ω;constructor
 ·rw[I1 _ _ (k8 ω) (k8 ω) c (by rw[ja,ja];exact D),ja,ja]
 show val _ _=_;rw[sA,Nat.mod_eq_of_lt ω]
def adM(i j:Int):Zr×Zr×Int:=if j=0 then(⟨false,[]⟩,⟨false,[]⟩,7)else(zn (i/j),zn (i%j),0)
theorem divMod_eq{x y:Zr}(D:Wl x)(H:Wl y):iv x y=some (adM (zi x) (zi y)):=by
 obtain⟨n,w⟩:=x;obtain⟨m,u⟩:=y;unfold iv;have i:(can 4294967296 (vl w)).length<=10000000000:=D.cl;have g:(can 4294967296 (vl u)).length<=10000000000:=H.cl;simp only[];rw[show bN w=some (can 4294967296 (vl w))from D.trim,show bN u=some (can 4294967296 (vl u))from H.trim,dj,dj,show zi ⟨n,w⟩=sv n (vl w)from Y,show zi ⟨m,u⟩=sv m (vl u)from rfl];simp only[dj,bU];generalize vl w=a at*;generalize vl u=b at*;by_cases k:b=0
 ·subst k;rw[show sv m 0=0 by cases m<;>rfl];rfl
 have d:(can 4294967296 b).length≠0:=λh=>k (zy.1 h);rw[show decide (((can 4294967296 b).length:Int)=0)=false by simp;intro e;rw[e]at d;exact d Y,qo];obtain⟨q,r,j,d,f,l,s,o,p⟩:=I2 a b i g k;have k:a%b<b:=Nat.mod_lt _ ω;obtain⟨o,i⟩:=amJ n m (a:=a) (show 0<b by omega);have hj:sv m b≠0:=by cases m<;>simp[sv]<;>omega
 rw[j,dj];simp only[];rw[Ka r (by have:=l.2;omega),zu ξ l.1,show val 4294967296 r=a%b from s,dj,adM,if_neg hj,o,i];have i:(can 4294967296 (a%b)).length<=(can 4294967296 b).length:=(ju ξ).2 (Nat.lt_trans k (gI ξ b));have j:∀c:Bool,(decide (n=true/\0<a%b)=c)->(bif c then(iW q [1]).bind λjC=>(eP (can 4294967296 b) (can 4294967296 (a%b))).bind λnJ=>(dy (!(n==m)) jC).bind λx=>(dy false nJ).bind λx_1=>some ((⟨x.neg,x.w⟩:Zr),(⟨x_1.neg,x_1.w⟩:Zr),(0:Int))
   else(dy (!(n==m)) q).bind λx=>(dy false (can 4294967296 (a%b))).bind λx_1=>some ((⟨x.neg,x.w⟩:Zr),(⟨x_1.neg,x_1.w⟩:Zr),(0:Int)))=
   some (zn (if n=true/\0<a%b then sv (!(n==m)) (a/b+1)else sv (!(n==m)) (a/b)),zn (if n=true/\0<a%b then((b-a%b:Nat):Int)else((a%b:Nat):Int)),0):=by
  intro c i;cases c
  ·have qx:=of_decide_eq_false i;rw[qo,if_neg qx,if_neg qx,qf _ _ d,dj,qf _ _ (k8 ω),dj,ja,f,xQ,xQ,wX]
  have qx:=of_decide_eq_true i;obtain⟨s1,s2⟩:=amK (a:=b) (b:=a%b) ω g;have w1:Rv [1]:=⟨by simp,by simp⟩;rw[pL,if_pos qx,if_pos qx,I0 _ _ d w1,dj,s1,dj,qf _ _ ⟨λx D=>uR ξ _ _ _ D,by rw[cw];simp;omega⟩,dj,qf _ _ ⟨λx D=>uR ξ _ _ _ D,by rw[cw];omega⟩,dj,s2,xQ,xQ,wX];have:vl (jV 4294967296 (max q.length [1].length+1) (vl q+vl [1]))=a/b+1:=by
   show val _ _=_;rw[sA,show vl [1]=1 by decide,f,Nat.mod_eq_of_lt];have g:vl q<4294967296^q.length:=nQ q d.1;rw[f]at g;have d:4294967296^q.length<=4294967296^(max q.length [1].length):=Nat.pow_le_pow_right ξ ω;have d:0<4294967296^(max q.length [1].length):=Nat.pow_pos ξ;rw[Nat.pow_succ];omega
  rw[this]
 have hz:(0<(can 4294967296 (a%b)).length)↔0<a%b:=by
  have:=zy (v:=a%b);omega
 cases n
 ·rw[qo,dj];exact j false η
 rw[pL,dj];refine j _ ?_;simp only[true_and];by_cases h:0<a%b
 ·simp[h,hz.2 h]
 have d:¬0<(can 4294967296 (a%b)).length:=λe=>h (hz.1 e);have d:¬((0:Int)<((can 4294967296 (a%b)).length:Int)):=by omega
 simp only[h,d,decide_false]
theorem amL{x y:Zr}(D:Wl x)(H:Wl y):qW x y=some (zn (Int.gcd (zi x) (zi y):Int)):=by
 obtain⟨n,w⟩:=x;obtain⟨m,u⟩:=y;unfold qW;have f:(can 4294967296 (vl w)).length<=10000000000:=D.cl;have g:(can 4294967296 (vl u)).length<=10000000000:=H.cl;simp only[];rw[show bN w=some (can 4294967296 (vl w))from D.trim,show bN u=some (can 4294967296 (vl u))from H.trim,dj,dj,Int.gcd,QO,QO];show _=some (zn ((Nat.gcd (vl w) (vl u):Nat):Int));generalize vl w=a at*;generalize vl u=b at*;refine zo (λs=>∃c d,s=(can 4294967296 c,can 4294967296 d)/\Nat.gcd c d=Nat.gcd a b/\(can 4294967296 c).length<=10000000000/\(can 4294967296 d).length<=10000000000)
  (λs=>∃c d,s=(can 4294967296 c,can 4294967296 d)/\Nat.gcd c d=Nat.gcd a b/\(can 4294967296 c).length<=10000000000/\(d=0\/(c<18446744073709551616/\d<18446744073709551616))) (λs=>vl s.2) ?_ ⟨a,b,Y,Y,f,g⟩ ?_
 ·rintro _ ⟨c,d,rfl,i,j,p⟩;simp only[dj,bU];by_cases g:d=0
  ·right;subst g;exact⟨_,Y,c,0,Y,i,j,.inl Y⟩
  have l:(can 4294967296 d).length≠0:=λh=>g (zy.1 h);rw[show decide ((0:Int)<((can 4294967296 d).length:Int))=true by simp;omega,pL];by_cases f:c<18446744073709551616/\d<18446744073709551616
  ·right;have B:=kF.2 f.1;have F:=kF.2 f.2;rw[show decide ((2:Int)<((can 4294967296 c).length:Int))=false by simp;omega,qo,show decide ((2:Int)<((can 4294967296 d).length:Int))=false by simp;omega];exact⟨_,Y,c,d,Y,i,j,.inr f⟩
  left;have z:c%d<d:=Nat.mod_lt _ ω;obtain⟨q,r,k,o,v,A,C,-,-⟩:=I2 c d j p g;have E:((bif decide ((2:Int)<((can 4294967296 c).length:Int))then some true else some (decide ((2:Int)<((can 4294967296 d).length:Int)))):Option Bool)=some true:=by
   by_cases v:c<18446744073709551616
   ·have o:¬d<18446744073709551616:=λh=>f ⟨v,h⟩;have:¬(((can 4294967296 d).length:Int)<=2):=λh=>o (kF.1 h);rw[show decide ((2:Int)<((can 4294967296 d).length:Int))=true by simp;omega];exact Ms _ _
   have:¬(((can 4294967296 c).length:Int)<=2):=λh=>v (kF.1 h);rw[show decide ((2:Int)<((can 4294967296 c).length:Int))=true by simp;omega,pL]
  rw[E,dj,dj,pL,k,dj];simp only[];rw[Ka r (by have:=A.2;omega),zu ξ A.1,show val 4294967296 r=c%d from C,dj];refine⟨_,Y,⟨d,c%d,Y,?_,p,?_⟩,?_⟩
  ·rw[<-i,Nat.gcd_comm d,<-Nat.gcd_rec,Nat.gcd_comm]
  ·exact Nat.le_trans ((ju ξ).2 (Nat.lt_trans z (gI ξ d))) p
  simp only[ja];exact z
 rintro _ ⟨c,d,rfl,i,j,k⟩;simp only[dj];by_cases g:d=0
 ·subst g;rw[show decide (((can 4294967296 0).length:Int)=0)=true by simp[CG],pL,Gp _ ω,dj,qf _ _ (k8 ω),dj,ja,xQ,wX,<-i,Nat.gcd_zero_right]
 have f:=k.resolve_left g;have l:(can 4294967296 d).length≠0:=λh=>g (zy.1 h);have B:=kF.2 f.1;have F:=kF.2 f.2;rw[show decide (((can 4294967296 d).length:Int)=0)=false by simp;intro e;rw[e]at l;exact l Y,qo,low_eq _ (λ_ D=>sB ξ D) ω,dj,low_eq _ (λ_ D=>sB ξ D) ω,dj,ja,ja];refine zo (λs=>Nat.gcd s.1 s.2=Nat.gcd a b/\s.1<18446744073709551616/\s.2<18446744073709551616) (λe=>e=Nat.gcd a b/\e<18446744073709551616) (λs=>s.2) ?_ ⟨i,f.1,f.2⟩ ?_
 ·rintro⟨s,t⟩ ⟨f,g,i3⟩;simp only at f g i3⊢;by_cases ht:0<t
  ·left;rw[show decide (0<t)=true by simp[ht],pL,J7 ω,dj];refine⟨_,Y,⟨?_,i3,?_⟩,Nat.mod_lt _ ht⟩
   ·rw[<-f,Nat.gcd_comm t,<-Nat.gcd_rec,Nat.gcd_comm]
   exact Nat.lt_trans (Nat.mod_lt _ ht) i3
  right;rw[show decide (0<t)=false by simp[ht],qo];refine⟨_,Y,?_,g⟩;rw[<-f,show t=0 by omega,Nat.gcd_zero_right]
 rintro e ⟨rfl,f⟩;rw[zx _ _ f,dj,xQ,wX]
end
section
open Go.Fw
def zl(l:List Nat):List Int:=l.map (λ(n:Nat)=>(n:Int))
abbrev v16(l:List Nat):Nat:=val 65536 l
end
section
open Go.Fw
theorem p9(k:Nat):10^(9*(k+1))=10^(9*k)*1000000000:=by
 rw[show 9*(k+1)=9*k+9 by omega,Nat.pow_add]
end
section
open Go.Fw
def body(s:Str):Str:=if s.head?=some 45 then s.tail else s
def dv(s:Str):Nat:=s.foldl (λa c=>a*10+(c.toNat-48)) 0
def z0:Zr:=⟨false,[]⟩
end
section
open Go.Fw
theorem zeta'(z:Zr):(⟨z.neg,z.w⟩:Zr)=z:=by cases z;rfl
theorem C4{i:Int}(h:fQ i):Fit 2 i:=Fit.i64 h.1 h.2
theorem Mt{i:Int}(h:fQ i):Wl (zn i):=pB (C4 h) ξ
end
section
open Go.Fw
theorem adN(i j:Int):(i-j).sign=zA i j:=by
 rcases Int.lt_trichotomy i j with h|h|h
 ·rw[tN h,Int.sign_eq_neg_one_of_neg ω]
 ·rw[h,C3,Int.sub_self];rfl
 rw[tO h,Int.sign_eq_one_of_pos ω]
end
section
open Go.Fw
theorem X0{α:Type}(x:Option α):(x.bind λa=>some a)=x:=by cases x<;>rfl
end
section
open Go.Fw
def qd(q:Qr):Int:=if zi q.den=0 then 1 else zi q.den
def qv(q:Qr):Rat:=Rat.divInt (zi q.num) (qd q)
def qn(r:Rat):Qr:=⟨zn r.num,if r.den=1 then⟨false,[]⟩else zn (r.den:Int)⟩
def FQ(L:Nat)(r:Rat):Prop:=Fit L r.num/\Fit L (r.den:Int)
structure mq (L:Nat) (q:Qr) (r:Rat):Prop where
 n:∀x∈q.num.w,x<4294967296
 d:∀x∈q.den.w,x<4294967296
 ln:q.num.w.length<=L
 ld:q.den.w.length<=L
 l1:1<=L
 v:qv q=r
theorem aqw(q:Qr):qd q≠0:=by
 unfold qd;by_cases h:zi q.den=0
 ·rw[if_pos h];decide
 rw[if_neg h];exact h
theorem XB(r:Rat):qv (qn r)=r:=by
 unfold qv qd qn;by_cases h:r.den=1
 ·rw[if_pos h];show Rat.divInt (zi (zn r.num)) (if zi ⟨false,[]⟩=0 then 1 else zi ⟨false,[]⟩)=r;rw[if_pos (show zi ⟨false,[]⟩=0 from rfl),jd];have:=Rat.num_divInt_den r;rw[h]at this;exact this
 rw[if_neg h];show Rat.divInt (zi (zn r.num)) (if zi (zn (r.den:Int))=0 then 1 else zi (zn (r.den:Int)))=r;have:=r.den_nz;rw[jd,jd,if_neg ω,Rat.num_divInt_den]
theorem XC{w:List Nat}{n:Bool}{L:Nat}(h:∀x∈w,x<4294967296)(hl:w.length<=L):Fit L (zi ⟨n,w⟩):=by
 unfold Fit;rw[QO];exact Nat.lt_of_lt_of_le (nQ w h) (Nat.pow_le_pow_right ξ hl)
theorem vz{L:Nat}(h:1<=L):Fit L 1:=by
 unfold Fit;exact Nat.lt_of_lt_of_le (show(1:Int).natAbs<4294967296^1 by decide) (Nat.pow_le_pow_right ξ h)
theorem FQ.rep{L:Nat}{r:Rat}(h:FQ L r)(D:1<=L):mq L (qn r) r:=by
 refine⟨λx a=>sB ξ a,?_,(ju ξ).2 h.1,?_,D,XB r⟩
 ·unfold qn;by_cases e:r.den=1
  ·rw[if_pos e];simp
  rw[if_neg e];exact λx a=>sB ξ a
 unfold qn;by_cases e:r.den=1
 ·rw[if_pos e];simp
 rw[if_neg e];exact(ju ξ).2 h.2
theorem mq.wn{L:Nat}{q:Qr}{r:Rat}(h:mq L q r)(D:L<=10000000000):Wl q.num:=⟨h.n,Nat.le_trans h.ln D⟩
theorem mq.wd{L:Nat}{q:Qr}{r:Rat}(h:mq L q r)(D:L<=10000000000):Wl q.den:=⟨h.d,Nat.le_trans h.ld D⟩
theorem mq.fn{L:Nat}{q:Qr}{r:Rat}(h:mq L q r):Fit L (zi q.num):=XC (n:=q.num.neg) h.n h.ln
theorem mq.fd{L:Nat}{q:Qr}{r:Rat}(h:mq L q r):Fit L (zi q.den):=XC (n:=q.den.neg) h.d h.ld
theorem mq.fqd{L:Nat}{q:Qr}{r:Rat}(h:mq L q r):Fit L (qd q):=by
 unfold qd;by_cases e:zi q.den=0
 ·rw[if_pos e];exact vz h.l1
 rw[if_neg e];exact h.fd
theorem FQ.mono{L M:Nat}{r:Rat}(h:FQ L r)(hl:L<=M):FQ M r:=⟨h.1.mono hl,h.2.mono hl⟩
theorem tC{L:Nat}{a d:Int}(H:d≠0)(I:Fit L a)(D:Fit L d):FQ L (Rat.divInt a d):=by
 generalize hr:Rat.divInt a d=r;obtain⟨b,f,e,c⟩:=r;obtain⟨m,g,f,e⟩:=Rat.divInt_num_den H hr;have b:0<m.natAbs:=Int.natAbs_pos.2 g;refine⟨I.le ?_,D.le ?_⟩
 ·rw[f,Int.natAbs_mul];exact Nat.le_mul_of_pos_right _ b
 rw[e,Int.natAbs_mul];exact Nat.le_mul_of_pos_right _ b
theorem mq.fq{L:Nat}{q:Qr}{r:Rat}(h:mq L q r):FQ L r:=by rw[<-h.v];exact tC (aqw q) h.fn h.fqd
theorem C5(r:Rat):r=Rat.divInt r.num (r.den:Int):=(Rat.num_divInt_den r).symm
theorem yB(r:Rat):(r.den:Int)≠0:=by have:=r.den_nz;omega
theorem FQ.add{L M:Nat}{x y:Rat}(H:FQ L x)(D:FQ M y):FQ (L+M+1) (x+y):=by
 have e:x+y=Rat.divInt (x.num*y.den+y.num*x.den) (x.den*y.den):=by
  conv=>lhs;rw[C5 x,C5 y,Rat.divInt_add_divInt _ _ (yB x) (yB y)]
 rw[e];refine tC (Int.mul_ne_zero (yB x) (yB y)) ?_ ?_
 ·exact(H.1.mul D.2).add (by rw[Nat.add_comm L M];exact D.1.mul H.2)
 exact(H.2.mul D.2).mono ω
theorem FQ.sub{L M:Nat}{x y:Rat}(H:FQ L x)(D:FQ M y):FQ (L+M+1) (x-y):=by
 have e:x-y=Rat.divInt (x.num*y.den-y.num*x.den) (x.den*y.den):=by
  conv=>lhs;rw[C5 x,C5 y,Rat.divInt_sub_divInt _ _ (yB x) (yB y)]
 rw[e];refine tC (Int.mul_ne_zero (yB x) (yB y)) ?_ ?_
 ·exact(H.1.mul D.2).sub (by rw[Nat.add_comm L M];exact D.1.mul H.2)
 exact(H.2.mul D.2).mono ω
theorem FQ.mul{L M:Nat}{x y:Rat}(H:FQ L x)(D:FQ M y):FQ (L+M) (x*y):=by
 have e:x*y=Rat.divInt (x.num*y.num) (x.den*y.den):=by
  conv=>lhs;rw[C5 x,C5 y,Rat.divInt_mul_divInt]
 rw[e];exact tC (Int.mul_ne_zero (yB x) (yB y)) (H.1.mul D.1) (H.2.mul D.2)
theorem FQ.neg{L:Nat}{x:Rat}(D:FQ L x):FQ L (-x):=⟨D.1.neg,D.2⟩
theorem FQ.inv{L:Nat}{x:Rat}(D:FQ L x)(h:x≠0):FQ L x⁻¹:=by
 have a:x.num≠0:=λe=>h (Rat.num_eq_zero.1 e);rw[Rat.inv_def];exact tC a D.2 D.1
theorem FQ.div{L M:Nat}{x y:Rat}(H:FQ L x)(D:FQ M y)(h:y≠0):FQ (L+M) (x/y):=by rw[Rat.div_def];exact H.mul (D.inv h)
theorem FQ.int{L:Nat}{i:Int}(h:Fit L i)(D:1<=L):FQ L (i:Rat):=⟨h,vz D⟩
def o9(x y:Rat):Int:=if x<y then-1 else if x=y then 0 else 1
theorem tD(x:Rat):o9 x x=0:=by unfold o9;rw[if_neg Rat.lt_irrefl,if_pos rfl]
theorem OW{a b c d:Int}(H:0<b)(D:0<d):Rat.divInt a b<Rat.divInt c d↔a*d<c*b:=by
 have f:(0:Rat)<(b:Rat):=Rat.intCast_pos.2 H;have e:(0:Rat)<(d:Rat):=Rat.intCast_pos.2 D;rw[Rat.divInt_eq_div,Rat.divInt_eq_div,Rat.div_lt_iff f,Rat.div_def,Rat.mul_assoc,Rat.mul_comm (d:Rat)⁻¹,<-Rat.mul_assoc,<-Rat.div_def,Rat.lt_div_iff e,<-Rat.intCast_mul,<-Rat.intCast_mul,Rat.intCast_lt_intCast]
theorem Tl{a b c d:Int}(H:0<b)(D:0<d):o9 (Rat.divInt a b) (Rat.divInt c d)=zA (a*d) (c*b):=by
 unfold o9 zA;have g:=OW (a:=a) (c:=c) H D;have f:=Rat.divInt_eq_divInt_iff (n₁:=a) (d₁:=b) (n₂:=c) (d₂:=d) ω ω;by_cases e:a*d<c*b
 ·rw[if_pos (g.2 e),if_pos e]
 rw[if_neg (λh=>e (g.1 h)),if_neg e];by_cases e:a*d=c*b
 ·rw[if_pos (f.2 e),if_pos e]
 rw[if_neg (λh=>e (f.1 h)),if_neg e]
theorem CH{a b:Int}(D:0<b):a.sign=o9 (Rat.divInt a b) 0:=by
 have:(0:Rat)=Rat.divInt 0 1:=rfl;rw[this,Tl D ξ,Int.mul_one,Int.zero_mul,<-adN,Int.sub_zero]
theorem OX{a d:Int}(D:0<d):qn (Rat.divInt a d)=⟨zn (a/(Int.gcd a d:Int)),if d/(Int.gcd a d:Int)=1 then⟨false,[]⟩else zn (d/(Int.gcd a d:Int))⟩:=by
 have c:(Rat.divInt a d).num=a/(Int.gcd a d:Int):=by rw[Rat.num_divInt,Int.sign_eq_one_of_pos D,Int.one_mul,Int.gcd_comm]
 have b:((Rat.divInt a d).den:Int)=d/(Int.gcd a d:Int):=by
  rw[Rat.den_divInt,if_neg ω,Int.gcd_comm];have:(d.natAbs:Int)=d:=by omega
  rw[Int.natCast_ediv,this]
 unfold qn;rw[c,b];by_cases e:(Rat.divInt a d).den=1
 ·rw[if_pos e,if_pos ω]
 rw[if_neg e,if_neg ω]
theorem agJ(k:Int):((bif(Bc k).2 then some (decide ((Bc k).1=1))else some false):Option Bool)=some (decide (k=1)):=by
 by_cases h:fQ k
 ·rw[ng h];rfl
 rw[wY h];have:¬k=1:=by rintro rfl;exact h ξ
 rw[decide_eq_false this];rfl
theorem Mu{n d:Zr}(H:Wl n)(D:Wl d)(h:0<zi d):((qW n d).bind λg=>(iv n g).bind λa=>(iv d g).bind λb=>(eT b.1).bind λc=>
  (bif c.2 then some (decide (c.1=1))else some false).bind λe=>bif e then some (⟨a.1,⟨false,[]⟩⟩:Qr)else some ⟨a.1,b.1⟩)=some (qn (Rat.divInt (zi n) (zi d))):=by
 have f:(Int.gcd (zi n) (zi d):Int)≠0:=by
  have:0<Int.gcd (zi n) (zi d):=Int.gcd_pos_of_ne_zero_right _ ω;omega
 have i:Wl (zn (Int.gcd (zi n) (zi d):Int)):=pB ((Wl.fit D).le (by
  have:=Nat.le_of_dvd (Int.natAbs_pos.2 (show zi d≠0 by omega)) (Int.gcd_dvd_natAbs_right (zi n) (zi d));simpa using this)) D.2
 have j:Wl (zn (zi d/(Int.gcd (zi n) (zi d):Int))):=pB ((Wl.fit D).le (Int.natAbs_ediv_le_natAbs _ _)) D.2;rw[amL H D,dj,divMod_eq H i,dj,divMod_eq D i,dj,jd,adM,if_neg f,adM,if_neg f];simp only[];rw[uz j,dj,jd,agJ,dj,OX h];by_cases e:zi d/(Int.gcd (zi n) (zi d):Int)=1
 ·rw[decide_eq_true e,pL,if_pos e]
 rw[decide_eq_false e,qo,if_neg e]
theorem reduce_eq{x y:Zr}(H:Wl x)(D:Wl y)(I:zi y≠0):ig x y=some (qn (Rat.divInt (zi x) (zi y))):=by
 unfold ig;simp only[bU,dj,zeta',sign_eq D];by_cases h:zi y<0
 ·rw[show decide ((zi y).sign<0)=true by rw[Int.sign_eq_neg_one_of_neg h];rfl,pL,neg_eq H,dj,neg_eq D,dj];have hp:=Mu (pB (Wl.fit H).neg H.2) (pB (Wl.fit D).neg D.2) (by rw[jd];omega);rw[jd,jd,Rat.neg_divInt_neg]at hp;exact hp
 rw[show decide ((zi y).sign<0)=false by rw[Int.sign_eq_one_of_pos ω];rfl,qo];exact Mu H D ω
end
section
open Go.Fw
theorem wZ(q:Qr):(⟨⟨q.num.neg,q.num.w⟩,⟨q.den.neg,q.den.w⟩⟩:Qr)=q:=by cases q;rfl
theorem w5(q:Qr):(⟨q.num,q.den⟩:Qr)=q:=by cases q;rfl
theorem parts_eq{L:Nat}{q:Qr}{r:Rat}(h:mq L q r)(D:L<=10000000000):∃n d:Zr,dY q=some (n,d)/\Wl n/\Wl d/\0<zi d/\Rat.divInt (zi n) (zi d)=r/\Fit L (zi n)/\Fit L (zi d):=by
 have wn:=h.wn D;have wd:=h.wd D;have b:=h.v;unfold dY;simp only[zeta',dj,sign_eq wd,oU (x:=1) ξ ξ,neg_eq wn,neg_eq wd];unfold qv qd at b;rcases Int.lt_trichotomy (zi q.den) 0 with a|a|a
 ·refine⟨_,_,?_,pB h.fn.neg D,pB h.fd.neg D,by rw[jd];omega,?_,by rw[jd];exact h.fn.neg,by rw[jd];exact h.fd.neg⟩
  ·rw[Int.sign_eq_neg_one_of_neg a];rfl
  rw[jd,jd,Rat.neg_divInt_neg,<-b,if_neg ω]
 ·refine⟨_,_,?_,wn,pB (vz h.l1) D,by rw[jd];decide,?_,h.fn,by rw[jd];exact vz h.l1⟩
  ·rw[a];rfl
  rw[jd,<-b,if_pos a]
 refine⟨_,_,?_,wn,wd,a,?_,h.fn,h.fd⟩
 ·rw[Int.sign_eq_one_of_pos a];rfl
 rw[<-b,if_neg ω]
def Sm(a:Int):Prop:=-2147483648<a/\a<2147483648
theorem Sm.ok{a:Int}(h:Sm a):fQ a:=by unfold Sm at h;unfold fQ;omega
theorem sE{L:Nat}{q:Qr}{r:Rat}(h:mq L q r)(D:L<=10000000000):∃a b c,fS q=some (a,b,c)/\(c=true->Sm a/\0<b/\Sm b/\Rat.divInt a b=r):=by
 have wn:=h.wn D;have wd:=h.wd D;have g:=h.v;unfold fS;simp only[zeta',dj,bU,uz wn,uz wd];unfold qv qd at g;generalize zi q.num=n at*;generalize zi q.den=d at*;by_cases k:Sm n/\Sm d
 ·obtain⟨i,j⟩:=k;rw[ng i.ok,ng j.ok];unfold Sm at i j;simp only[];rw[decide_eq_false (show ¬n<=-2147483648 by omega),decide_eq_false (show ¬2147483648<=n by omega),decide_eq_false (show ¬d<=-2147483648 by omega),decide_eq_false (show ¬2147483648<=d by omega)];simp only[Bool.not_true,qo,dj];by_cases f:d=0
  ·rw[decide_eq_true f,pL];refine⟨_,_,_,Y,λ_=>⟨i,by decide,⟨by decide,by decide⟩,?_⟩⟩;rw[<-g,if_pos f]
  rw[decide_eq_false f,qo];rw[if_neg f]at g;by_cases f:d<0
  ·rw[decide_eq_true f,pL,cV ω ω,cV ω ω];refine⟨_,_,_,Y,λ_=>⟨⟨by omega,by omega⟩,by omega,⟨by omega,by omega⟩,?_⟩⟩;rw[Int.zero_sub,Int.zero_sub,Rat.neg_divInt_neg,g]
  rw[decide_eq_false f,qo];exact⟨_,_,_,Y,λ_=>⟨i,by omega,j,g⟩⟩
 refine⟨0,0,false,?_,λe=>by cases e⟩;by_cases f:fQ n
 ·by_cases i:fQ d
  ·rw[ng f,ng i];simp only[Bool.not_true,qo,dj];unfold Sm at k;by_cases g:n<=-2147483648
   ·rw[decide_eq_true g];simp only[dj,pL]
   rw[decide_eq_false g];simp only[dj,qo];by_cases g:2147483648<=n
   ·rw[decide_eq_true g];simp only[dj,pL]
   rw[decide_eq_false g];simp only[dj,qo];by_cases g:d<=-2147483648
   ·rw[decide_eq_true g];simp only[dj,pL]
   rw[decide_eq_false g];simp only[dj,qo];rw[decide_eq_true (show 2147483648<=d by omega)];simp only[pL]
  rw[ng f,wY i];simp only[Bool.not_true,Bool.not_false,qo,dj,pL]
 rw[wY f];simp only[Bool.not_false,dj,pL]
theorem Tm{a g:Int}(D:0<g)(h:g∣a):Int.tdiv a g=a/g:=by
 obtain⟨k,rfl⟩:=h;rw[Int.mul_tdiv_cancel_left _ ω,Int.mul_ediv_cancel_left _ ω]
theorem zC{n d:Int}(I:0<d)(H:d<=9223372036854775807)(K: -9223372036854775807<=n)(D:n<=9223372036854775807):jR n d=some (qn (Rat.divInt n d)):=by
 unfold jR;simp only[dj,bU];refine zo (λs=>Int.gcd s.1 s.2=Int.gcd n d/\s.1.natAbs<=9223372036854775807/\s.2.natAbs<=9223372036854775807) (λe=>e.natAbs=Int.gcd n d/\e.natAbs<=9223372036854775807) (λs=>s.2.natAbs) ?_ ⟨Y,by simp only[];omega,by simp only[];omega⟩ ?_
 ·rintro⟨a,b⟩ ⟨f,h,i3⟩;simp only at f h i3⊢;by_cases c:b=0
  ·right;subst c;refine⟨a,by simp,?_,h⟩;rw[<-f];simp[Int.gcd]
  left;rw[decide_eq_true c,pL,M3,if_neg c,dj];have i:(Int.tmod a b).natAbs=a.natAbs%b.natAbs:=Int.natAbs_tmod a b;have h:=Nat.mod_lt a.natAbs (Int.natAbs_pos.2 c);refine⟨_,Y,⟨?_,i3,by simp only[];omega⟩,by simp only[];omega⟩;simp only[];rw[<-f,Int.gcd,Int.gcd,i,Nat.gcd_comm b.natAbs,<-Nat.gcd_rec,Nat.gcd_comm]
 rintro e ⟨f,c⟩;obtain⟨g,i⟩:∃g:Int,(Int.gcd n d:Int)=g:=⟨_,Y⟩;have c:0<g:=by have:=Int.gcd_pos_of_ne_zero_right n (show d≠0 by omega);omega
 have h:g∣n:=i▸Int.gcd_dvd_left ..;have f:g∣d:=i▸Int.gcd_dvd_right ..;have j:∀m:Int,m=g->(bif decide (m=d)then(DY n m).bind λk=>(cD k).bind λx=>some (⟨⟨x.neg,x.w⟩,⟨false,[]⟩⟩:Qr)else(DY n m).bind λk=>(cD k).bind λx=>(DY d m).bind λk=>(cD k).bind λy=>some ⟨⟨x.neg,x.w⟩,⟨y.neg,y.w⟩⟩)=some (qn (Rat.divInt n d)):=by
  rintro m rfl;have k:(n/m).natAbs<=n.natAbs:=Int.natAbs_ediv_le_natAbs _ _;have k:(d/m).natAbs<=d.natAbs:=Int.natAbs_ediv_le_natAbs _ _;have k:DY n m=some (n/m):=by
   rw[DY,if_neg ω,Tm c h,cV ω ω]
  have h:DY d m=some (d/m):=by
   rw[DY,if_neg ω,Tm c f,cV ω ω]
  rw[OX I,i,k,h];simp only[dj,oU (x:=n/m) ω ω,oU (x:=d/m) ω ω,zeta'];by_cases c:m=d
  ·rw[decide_eq_true c,pL,if_pos (by rw[c];exact Int.ediv_self ω)]
  rw[decide_eq_false c,qo,if_neg];intro c;have:=Int.ediv_mul_cancel f;rw[c]at this;omega
 by_cases c:e<0
 ·rw[decide_eq_true c,pL,cV ω ω];exact j _ ω
 rw[decide_eq_false c,qo];exact j _ ω
theorem nF{a b:Int}(H:Sm a)(D:Sm b): -4611686018427387904<a*b/\a*b<4611686018427387904:=by
 unfold Sm at H D;have c:(a*b).natAbs=a.natAbs*b.natAbs:=Int.natAbs_mul a b;have c:a.natAbs*b.natAbs<=2147483647*2147483647:=Nat.mul_le_mul ω ω;omega
theorem xR{a b:Int}(H:0<a)(D:0<b):0<a*b:=Int.mul_pos H D
section ops
variable {L M:Nat}{a b:Qr}{x y:Rat}
theorem mq.add(D:mq L a x)(H:mq M b y)(h:L+M<=4000000000):ff a b=some (qn (x+y))/\mq (L+M+1) (qn (x+y)) (x+y):=by
 refine⟨?_,(D.fq.add H.fq).rep ω⟩;obtain⟨C,g,p,w,F⟩:=sE D ω;obtain⟨u,i,v,n,k⟩:=sE H ω;obtain⟨j,e,q,A,d,m,t,f,c⟩:=parts_eq D ω;obtain⟨z,j,l,r,e,s,o,t3,t4⟩:=parts_eq H ω;have B:oC a b=some (qn (x+y)):=by
  unfold oC lN;have E:=pB (f.mul t4) ω;have z:=pB (t3.mul c) ω;have D:=pB (c.mul t4) ω;have j:=pB ((f.mul t4).add ((t3.mul c).mono ω)) ω;simp only[zeta',wZ,w5,q,l,dj,mul_eq A e,mul_eq r d,add_eq E z,mul_eq d e,jd];rw[reduce_eq j D (by rw[jd];have:=xR m s;omega),dj,jd,jd,<-t,<-o,Rat.divInt_add_divInt _ _ ω ω]
 unfold ff;simp only[zeta',wZ,w5,w,n,dj,bU,B];cases p
 ·rw[qo,dj,qo]
 cases v
 ·rw[pL,dj,qo]
 obtain⟨f,l,c,e⟩:=F Y;obtain⟨n,m,d,j⟩:=k Y;have k:=nF f d;have f:=nF n c;have f:=nF c d;have c:=xR l m;rw[pL,dj,pL,cV (x:=C*i) ω ω,cV (x:=u*g) ω ω,cV (x:=g*i) ω ω,cV ω ω,zC c ω ω ω,dj,<-e,<-j,Rat.divInt_add_divInt _ _ ω ω]
theorem mq.sub(D:mq L a x)(H:mq M b y)(h:L+M<=4000000000):fj a b=some (qn (x-y))/\mq (L+M+1) (qn (x-y)) (x-y):=by
 refine⟨?_,(D.fq.sub H.fq).rep ω⟩;obtain⟨C,g,p,w,F⟩:=sE D ω;obtain⟨u,i,v,n,k⟩:=sE H ω;obtain⟨j,e,q,A,d,m,t,f,c⟩:=parts_eq D ω;obtain⟨z,j,l,r,e,s,o,t3,t4⟩:=parts_eq H ω;have B:oD a b=some (qn (x-y)):=by
  unfold oD lO;have E:=pB (f.mul t4) ω;have z:=pB (t3.mul c) ω;have D:=pB (c.mul t4) ω;have j:=pB ((f.mul t4).sub ((t3.mul c).mono ω)) ω;simp only[zeta',wZ,w5,q,l,dj,mul_eq A e,mul_eq r d,sub_eq E z,mul_eq d e,jd];rw[reduce_eq j D (by rw[jd];have:=xR m s;omega),dj,jd,jd,<-t,<-o,Rat.divInt_sub_divInt _ _ ω ω]
 unfold fj;simp only[zeta',wZ,w5,w,n,dj,bU,B];cases p
 ·rw[qo,dj,qo]
 cases v
 ·rw[pL,dj,qo]
 obtain⟨f,l,c,e⟩:=F Y;obtain⟨n,m,d,j⟩:=k Y;have k:=nF f d;have f:=nF n c;have f:=nF c d;have c:=xR l m;rw[pL,dj,pL,cV (x:=C*i) ω ω,cV (x:=u*g) ω ω,cV (x:=g*i) ω ω,cV ω ω,zC c ω ω ω,dj,<-e,<-j,Rat.divInt_sub_divInt _ _ ω ω]
theorem mq.mul(D:mq L a x)(H:mq M b y)(h:L+M<=4000000000):ei a b=some (qn (x*y))/\mq (L+M) (qn (x*y)) (x*y):=by
 have l1:=D.l1;refine⟨?_,(D.fq.mul H.fq).rep ω⟩;obtain⟨d,v,l,s,c⟩:=sE D ω;obtain⟨e,w,r,j,d⟩:=sE H ω;obtain⟨i,f,m,t,e,g,p,q,A⟩:=parts_eq D ω;obtain⟨z,u,f,n,i,o,k,t3,t4⟩:=parts_eq H ω;have u:oF a b=some (qn (x*y)):=by
  unfold oF lQ;have z:=pB (q.mul t3) ω;have q:=pB (A.mul t4) ω;simp only[zeta',wZ,w5,m,f,dj,mul_eq t n,mul_eq e i];rw[reduce_eq z q (by rw[jd];have:=xR g o;omega),dj,jd,jd,<-p,<-k,Rat.divInt_mul_divInt]
 unfold ei;simp only[zeta',wZ,w5,s,j,dj,bU,u];cases l
 ·rw[qo,dj,qo]
 cases r
 ·rw[pL,dj,qo]
 obtain⟨g,j,e,f⟩:=c Y;obtain⟨l,k,c,i⟩:=d Y;have d:=nF g l;have d:=nF e c;have c:=xR j k;rw[pL,dj,pL,cV ω ω,cV (x:=v*w) ω ω,zC c ω ω ω,dj,<-f,<-i,Rat.divInt_mul_divInt]
theorem mq.sign(D:mq L a x)(h:L<=10000000000):cv a=some (o9 x 0):=by
 unfold cv;have wn:=D.wn h;have wd:=D.wd h;have b:=D.v;simp only[zeta',dj,sign_eq wn,sign_eq wd];unfold qv qd at b;rcases Int.lt_trichotomy (zi a.den) 0 with c|c|c
 ·rw[Int.sign_eq_neg_one_of_neg c];rw[if_neg ω,<-Rat.neg_divInt_neg]at b;rw[<-b,<-CH ω,Int.sign_neg];show some (IntKind.i64.wrap (0-(zi a.num).sign))=_;have:(zi a.num).sign=-1\/(zi a.num).sign=0\/(zi a.num).sign=1:=by
   rcases Int.lt_trichotomy (zi a.num) 0 with e|e|e
   ·left;exact Int.sign_eq_neg_one_of_neg e
   ·right;left;rw[e];rfl
   right;right;exact Int.sign_eq_one_of_pos e
  rw[cV ω ω,Int.zero_sub]
 ·rw[if_pos c]at b;rw[<-b,<-CH ω,c];rfl
 rw[if_neg ω]at b;rw[Int.sign_eq_one_of_pos c,<-b,<-CH c];rfl
theorem jE{x:Rat}:o9 x 0=0↔x=0:=by
 unfold o9;by_cases h:x<0
 ·rw[if_pos h];refine⟨λe=>absurd e ξ,λe=>?_⟩;rw[e]at h;exact absurd h Rat.lt_irrefl
 rw[if_neg h];by_cases a:x=0
 ·rw[if_pos a];simp[a]
 rw[if_neg a];simp[a]
theorem mq.div(D:mq L a x)(H:mq M b y)(h:L+M<=4000000000)(I:y≠0):kz a b=some (qn (x/y),0)/\mq (L+M) (qn (x/y)) (x/y):=by
 have l1:=D.l1;refine⟨?_,(D.fq.div H.fq I).rep ω⟩;obtain⟨l,q,s,B,o⟩:=sE D ω;obtain⟨i,r,A,p,t⟩:=sE H ω;obtain⟨j,f,u,C,k,g,w,z,F⟩:=parts_eq D ω;obtain⟨D,f,m,v,n,g,j,t3,t4⟩:=parts_eq H ω;have f:∀a b c d:Int,Rat.divInt a b/Rat.divInt c d=Rat.divInt (a*d) (b*c):=λa b c d=>by rw[Rat.div_def,Rat.inv_divInt,Rat.divInt_mul_divInt]
 have g:∀a b:Int,Rat.divInt a b=y->a≠0:=λa b e D=>I (by rw[<-e,D,Rat.zero_divInt]);have D:oG a b=some (qn (x/y)):=by
  unfold oG lR;have E:=pB (z.mul t4) ω;have z:=pB (F.mul t3) ω;simp only[zeta',wZ,w5,u,m,dj,mul_eq C n,mul_eq k v];rw[reduce_eq E z (by rw[jd];exact Int.mul_ne_zero ω (g _ _ j)),dj,jd,jd,<-w,<-j,f]
 unfold kz;simp only[zeta',wZ,w5,H.sign ω,B,p,dj,bU,D];rw[decide_eq_false (λe=>I (jE.1 e)),qo];cases s
 ·rw[qo,dj,qo]
 cases A
 ·rw[pL,dj,qo]
 obtain⟨n,p,k,m⟩:=o Y;obtain⟨s,u,o,j⟩:=t Y;have t:=g _ _ j;have g:=nF n o;have g:=nF k s;rw[pL,dj,pL];unfold Sm at n k s o;by_cases g:i<0
 ·have k:=xR p (show 0< -i by omega);have n:(-l)*r=-(l*r):=Int.neg_mul _ _;have o:q*(-i)=-(q*i):=Int.mul_neg _ _;rw[decide_eq_true g,pL,cV (x:=0-l) ω ω,cV (x:=0-i) ω ω,Int.zero_sub,Int.zero_sub,cV ω ω,cV ω ω,zC k ω ω ω,dj,n,o,Rat.neg_divInt_neg,<-m,<-j,f]
 have k:=xR p (show 0<i by omega);rw[decide_eq_false g,qo,cV ω ω,cV ω ω,zC k ω ω ω,dj,<-m,<-j,f]
theorem mq.canon(D:mq L a x)(h:L<=10000000000):cA a=some (qn x)/\mq L (qn x) x:=by
 refine⟨?_,D.fq.rep D.l1⟩;obtain⟨c,e,d,g,b⟩:=sE D ω;obtain⟨m,j,e,i,c,k,f,l,n⟩:=parts_eq D ω;unfold cA;simp only[zeta',wZ,w5,g,dj,e];cases d
 ·rw[qo,reduce_eq i c ω,dj,f]
 obtain⟨d,e,f,c⟩:=b Y;unfold Sm at d f;rw[pL,zC e ω ω ω,dj,c]
end ops
end
section
open Go.Fw
def VW(x y:Rat):Rat:=if y<x then y else x
theorem QT{p q:Int}(D:0<q):(Rat.divInt p q).floor=p/q:=by
 have a:∀k:Int,k<=(Rat.divInt p q).floor↔k<=p/q:=by
  intro k;rw[Rat.le_floor_iff,<-Rat.not_lt,show(k:Rat)=Rat.divInt k 1 by rw[Rat.divInt_eq_div];show _=(k:Rat)/1;grind,OW D ξ,Int.mul_one,Int.not_lt,Int.le_ediv_iff_mul_le D]
 exact Int.le_antisymm ((a _).1 (Int.le_refl _)) ((a _).2 (Int.le_refl _))
theorem OY{p q u v:Int}(H:0<q)(D:0<v)(h:p.sign≠u.sign\/p.sign=0):xE (IntKind.i64.wrap (p.sign-u.sign))=some (zA (p*v) (u*q)):=by
 have e:0<p->0<p*v:=λh=>Int.mul_pos h D;have c:p<0->p*v<0:=λh=>Int.mul_neg_of_neg_of_pos h D;have f:0<u->0<u*q:=λh=>Int.mul_pos h H;have d:u<0->u*q<0:=λh=>Int.mul_neg_of_neg_of_pos h H;rcases Int.lt_trichotomy p 0 with b|b|b<;>rcases Int.lt_trichotomy u 0 with a|a|a
 ·rw[Int.sign_eq_neg_one_of_neg b,Int.sign_eq_neg_one_of_neg a]at h;simp at h
 ·have:=c b;rw[Int.sign_eq_neg_one_of_neg b,a,Int.zero_mul,tN this];rfl
 ·have:=c b;have:=f a;rw[Int.sign_eq_neg_one_of_neg b,Int.sign_eq_one_of_pos a,tN ω];rfl
 ·have:=d a;rw[Int.sign_eq_neg_one_of_neg a,b,Int.zero_mul,tO this];rfl
 ·rw[b,a,Int.zero_mul,Int.zero_mul];rfl
 ·have:=f a;rw[Int.sign_eq_one_of_pos a,b,Int.zero_mul,tN this];rfl
 ·have:=e b;have:=d a;rw[Int.sign_eq_one_of_pos b,Int.sign_eq_neg_one_of_neg a,tO ω];rfl
 ·have:=e b;rw[Int.sign_eq_one_of_pos b,a,Int.zero_mul,tO this];rfl
 rw[Int.sign_eq_one_of_pos b,Int.sign_eq_one_of_pos a]at h;simp at h
theorem Gs{x y:Rat}:o9 x y=0↔x=y:=by
 unfold o9;by_cases h:x<y
 ·rw[if_pos h];refine⟨λe=>absurd e ξ,λe=>?_⟩;rw[e]at h;exact absurd h Rat.lt_irrefl
 rw[if_neg h];by_cases a:x=y
 ·rw[if_pos a];simp[a]
 rw[if_neg a];simp[a]
theorem nh{x y:Rat}:o9 x y<0↔x<y:=by
 unfold o9;by_cases h:x<y
 ·rw[if_pos h];simp[h]
 rw[if_neg h];by_cases a:x=y
 ·rw[if_pos a];simp[a,Rat.lt_irrefl]
 rw[if_neg a];simp[h]
theorem CI{x y:Rat}:0<o9 x y↔y<x:=by
 unfold o9;by_cases h:x<y
 ·rw[if_pos h];have:¬y<x:=by grind
  simp[this]
 rw[if_neg h];by_cases a:x=y
 ·rw[if_pos a];simp[a,Rat.lt_irrefl]
 rw[if_neg a];have:y<x:=by grind
 simp[this]
theorem amM(i:Int):qn (i:Rat)=⟨zn i,⟨false,[]⟩⟩:=by
 unfold qn;rw[Rat.den_intCast,if_pos Y,Rat.num_intCast]
section ops
variable {L M:Nat}{a b:Qr}{x y:Rat}
theorem mq.neg(D:mq L a x)(h:L<=10000000000):iw a=some (qn (-x))/\mq L (qn (-x)) (-x):=by
 refine⟨?_,D.fq.neg.rep D.l1⟩;unfold iw;have r:=(D.canon h).2;simp only[zeta',wZ,w5,(D.canon h).1,dj,neg_eq (r.wn h)];show some (⟨zn (-zi (zn x.num)),_⟩:Qr)=some (qn (-x));rw[jd];rfl
theorem mq.cmp(D:mq L a x)(H:mq M b y)(h:L+M<=4000000000):iy a b=some (o9 x y):=by
 obtain⟨c,e,n,i,j,d,o,p,r⟩:=parts_eq D ω;obtain⟨g,q,k,e,l,f,m,t3,t4⟩:=parts_eq H ω;unfold iy;have q:=pB (p.mul t4) ω;have p:=pB (t3.mul r) ω;simp only[zeta',wZ,w5,n,k,dj,bU,sign_eq i,sign_eq e,mul_eq i l,mul_eq e j,amI q p,jd];rw[<-o,<-m,Tl d f];by_cases i:(zi c).sign=(zi g).sign
 ·rw[show decide ((zi c).sign≠(zi g).sign)=false by simp[i],qo,dj];by_cases e:(zi c).sign=0
  ·rw[decide_eq_true e,pL,OY d f (.inr e),dj]
  rw[decide_eq_false e,qo]
 rw[show decide ((zi c).sign≠(zi g).sign)=true by simp[i],pL,dj,pL,OY d f (.inl i),dj]
theorem mq.eq(H:mq L a x)(D:mq M b y)(h:L+M<=4000000000):ji a b=some (decide (x=y)):=by
 unfold ji;simp only[zeta',wZ,w5,H.cmp D h,dj];congr 1;rw[decide_eq_decide];exact Gs
theorem mq.min(D:mq L a x)(H:mq M b y)(h:L+M<=4000000000):qI a b=some (qn (VW x y))/\mq (L+M) (qn (VW x y)) (VW x y):=by
 have l1:=D.l1;have c:FQ (L+M) (VW x y):=by
  unfold VW;split
  ·exact H.fq.mono ω
  exact D.fq.mono ω
 refine⟨?_,c.rep ω⟩;unfold qI VW;simp only[zeta',wZ,w5,H.cmp D ω,dj,(D.canon ω).1,(H.canon ω).1];by_cases e:y<x
 ·rw[decide_eq_true (nh.2 e),pL,if_pos e]
 rw[decide_eq_false (λq=>e (nh.1 q)),qo,if_neg e]
theorem mq.floor(D:mq L a x)(h:L<=10000000000):rO a=some (zn x.floor):=by
 obtain⟨j,g,d,c,e,f,b,i,k⟩:=parts_eq D h;unfold rO;simp only[zeta',wZ,w5,d,dj,divMod_eq c e];rw[adM,if_neg ω,<-b,QT f]
theorem new_eq{n d:Int}(H:fQ n)(D:fQ d)(I:d≠0):v7 n d=some (qn (Rat.divInt n d),0)/\mq 2 (qn (Rat.divInt n d)) (Rat.divInt n d):=by
 refine⟨?_,(tC I (C4 H) (C4 D)).rep ξ⟩;unfold v7;simp only[zeta',wZ,w5,dj,oU H.1 H.2,oU D.1 D.2];rw[decide_eq_false I,qo,reduce_eq (Mt H) (Mt D) (by rw[jd];exact I),dj,jd,jd]
theorem cz{n:Int}(D:fQ n):bK n=some (qn (n:Rat))/\mq 2 (qn (n:Rat)) (n:Rat):=by
 refine⟨?_,(FQ.int (C4 D) ξ).rep ξ⟩;unfold bK;simp only[zeta',dj,oU D.1 D.2];rw[amM]
end ops
end
section
open Go.Fw
def vq(n:Nat)(h:Nat->Rat):List Qr:=(List.range n).map λi=>qn (h i)
structure Bl (L:Nat) (v:List Qr) (f:Nat->Rat):Prop where
 e:∀i (h:i<v.length),mq L v[i] (f i)
 z:∀i,v.length<=i->f i=0
 l1:1<=L
theorem b9(n:Nat)(h:Nat->Rat):(vq n h).length=n:=by simp[vq]
theorem fU{n i:Nat}{h:Nat->Rat}(D:i<n):(vq n h)[i]? =some (qn (h i)):=by simp[vq,D]
theorem Kf{n i:Nat}{h:Nat->Rat}(D:i<(vq n h).length):(vq n h)[i]=qn (h i):=by simp[vq]
theorem AH(n:Nat)(h:Nat->Rat):vq (n+1) h=vq n h++[qn (h n)]:=by simp[vq,List.range_succ]
theorem eH{n:Nat}{h k:Nat->Rat}(e:∀i,i<n->h i=k i):vq n h=vq n k:=by
 unfold vq;apply List.map_congr_left;intro i a;rw[e i (List.mem_range.1 a)]
theorem Ik{L n:Nat}{h:Nat->Rat}(H:∀i,i<n->FQ L (h i))(I:∀i,n<=i->h i=0)(D:1<=L):Bl L (vq n h) h:=by
 refine⟨λi a=>?_,λi a=>I i (by rwa[b9]at a),D⟩;rw[Kf a];exact(H i (by rwa[b9]at a)).rep D
def qz:Qr:=⟨⟨false,[]⟩,⟨false,[]⟩⟩
theorem agK:qn 0=qz:=rfl
theorem CJ{L:Nat}(h:1<=L):mq L qz 0:=⟨by simp[qz],by simp[qz],by simp[qz],by simp[qz],h,by decide⟩
theorem qq{L:Nat}(h:1<=L):FQ L 0:=(CJ h).fq
def Tn(v:List Qr)(i:Nat):Qr:=v.getD i qz
theorem Bl.at{L:Nat}{v:List Qr}{f:Nat->Rat}(h:Bl L v f)(i:Nat):mq L (Tn v i) (f i):=by
 unfold Tn;by_cases a:i<v.length
 ·rw[List.getD_eq_getElem?_getD,List.getElem?_eq_getElem a];exact h.e i a
 rw[List.getD_eq_getElem?_getD,List.getElem?_eq_none ω,h.z i ω];exact CJ h.l1
theorem Bl.fq{L:Nat}{v:List Qr}{f:Nat->Rat}(h:Bl L v f)(i:Nat):FQ L (f i):=(h.at i).fq
theorem Bl.get{L:Nat}{v:List Qr}{f:Nat->Rat}(h:Bl L v f){i:Nat}(D:i<v.length):∃q,v[i]? =some q/\mq L q (f i):=⟨v[i],by simp,h.e i D⟩
def tF(v:List Qr)(i:Nat):Rat:=qv (Tn v i)
theorem AI{L:Nat}{v:List Qr}(h:∀q∈v,mq L q (qv q))(D:1<=L):Bl L v (tF v):=by
 refine⟨λi a=>?_,λi a=>?_,D⟩
 ·have e:Tn v i=v[i]:=by unfold Tn;rw[List.getD_eq_getElem?_getD,List.getElem?_eq_getElem a];rfl
  unfold tF;rw[e];exact h _ (List.getElem_mem a)
 unfold tF Tn;rw[List.getD_eq_getElem?_getD,List.getElem?_eq_none a];decide
def bX(h:Nat->Rat):Nat->Rat
 |0=>0
 |n+1=>bX h n+h n
theorem bZ{h k:Nat->Rat}:∀{n:Nat},(∀i,i<n->h i=k i)->bX h n=bX k n
 |0,_=>rfl
 |n+1,e=>by rw[bX,bX,bZ (λi a=>e i ω),e n ω]
theorem CK(h k:Nat->Rat):∀n,bX (λi=>h i+k i) n=bX h n+bX k n
 |0=>by simp only[bX];grind
 |n+1=>by rw[bX,bX,bX,CK h k n];grind
theorem uB(h k:Nat->Rat):∀n,bX (λi=>h i-k i) n=bX h n-bX k n
 |0=>by simp only[bX];grind
 |n+1=>by rw[bX,bX,bX,uB h k n];grind
theorem jv(c:Rat)(h:Nat->Rat):∀n,bX (λi=>c*h i) n=c*bX h n
 |0=>by simp[bX]
 |n+1=>by rw[bX,bX,jv c h n];grind
theorem gX:∀n,bX (λ_=>0) n=0
 |0=>rfl
 |n+1=>by rw[bX,gX n];grind
theorem Gt{L:Nat}{h:Nat->Rat}:∀{n:Nat},(∀i,i<n->FQ L (h i))->FQ (n*(L+1)+1) (bX h n)
 |0,_=>qq ω
 |n+1,e=>by
  rw[bX];exact((Gt (λi a=>e i ω)).add (e n ω)).mono (by rw[Nat.add_mul];omega)
theorem iI{h:Nat->Rat}{n k:Nat}(H:k<n)(D:∀i,i<n->i≠k->h i=0):bX h n=h k:=by
 induction n with
 |zero=>omega
 |succ n a=>
  rw[bX];rcases Nat.lt_or_ge k n with q|q
  ·rw[a q (λi b a=>D i ω a),D n ω ω];grind
  obtain rfl:k=n:=by omega
  rw[bZ (k:=λ_=>0) (λi a=>D i ω ω),gX];grind
theorem qY{h:Nat->Rat}:∀{n:Nat},(∀i,i<n->0<=h i)->0<=bX h n
 |0,_=>Rat.le_refl
 |n+1,e=>by
  rw[bX];have a:=qY (λi (a:i<n)=>e i ω);have a:=e n ω;grind
end
section
open Go.Fw
theorem qR(h:Nat->Rat)(n:Nat):∀m,bX h (n+m)=bX h n+bX (λj=>h (n+j)) m
 |0=>by show bX h n=bX h n+0;grind
 |m+1=>by
  show bX h (n+m)+h (n+m)=bX h n+(bX (λj=>h (n+j)) m+h (n+m));rw[qR h n m];grind
theorem zD(h:Nat->Nat->Rat)(m:Nat):∀n,bX (λi=>bX (λj=>h i j) m) n=bX (λj=>bX (λi=>h i j) n) m
 |0=>by
  show(0:Rat)=bX (λj=>(0:Rat)) m;rw[gX]
 |n+1=>by
  show bX (λi=>bX (λj=>h i j) m) n+bX (λj=>h n j) m=bX (λj=>bX (λi=>h i j) n+h n j) m;rw[zD h m n,CK]
theorem QU{h k:Nat->Rat}{n:Nat}(e:∀i,i<n->h i<=k i):bX h n<=bX k n:=by
 have:=qY (h:=λi=>k i-h i) (n:=n) (λi a=>by have:=e i a;grind);rw[uB]at this;grind
def iE(P:Nat)(f:Nat->Rat):Prop:=∃p,p<P/\0<f p/\∀q,q<p->f q=0
def cG(P:Nat)(f:Nat->Rat):Prop:=∃p,p<P/\f p<0/\∀q,q<p->f q=0
section lex
variable {P:Nat}{f g:Nat->Rat}
theorem zE(f:Nat->Rat):∀P,(∀p,p<P->f p=0)\/iE P f\/cG P f
 |0=>.inl (λp hp=>by omega)
 |P+1=>by
  rcases zE f P with h|⟨p,c,a,b⟩|⟨p,c,a,b⟩
  ·rcases(show f P=0\/0<f P\/f P<0 by grind)with q|q|q
   ·exact .inl (λp hp=>by
     rcases Nat.lt_or_ge p P with w|w
     ·exact h p w
     rw[show p=P by omega];exact q)
   ·exact .inr (.inl ⟨P,by omega,q,h⟩)
   exact .inr (.inr ⟨P,by omega,q,h⟩)
  ·exact .inr (.inl ⟨p,by omega,a,b⟩)
  exact .inr (.inr ⟨p,by omega,a,b⟩)
theorem iE.not(h:iE P f):¬cG P f:=λ⟨q,a,c,b⟩=>by
 obtain⟨p,d,c,a⟩:=h;rcases Nat.lt_trichotomy p q with w|w|w
 ·have:=b p w;grind
 ·subst w;grind
 have:=a q w;grind
theorem ni(h:∀p,p<P->f p=0):¬cG P f:=λ⟨q,a,b,_⟩=>by have:=h q a;grind
theorem iE.add(h:iE P f)(k:¬cG P g):iE P (λp=>f p+g p):=by
 rcases zE g P with z|⟨q,h4,h5,h6⟩|z
 ·obtain⟨p,b,c,a⟩:=h;exact⟨p,b,by have:=z p b;grind,λq hq=>by have:=z q ω;have:=a q hq;grind⟩
 ·obtain⟨p,b,c,a⟩:=h;rcases Nat.lt_trichotomy p q with w|w|w
  ·exact⟨p,b,by have:=h6 p w;grind,λr hr=>by have:=a r hr;have:=h6 r ω;grind⟩
  ·subst w;exact⟨p,b,by grind,λr hr=>by have:=a r hr;have:=h6 r hr;grind⟩
  exact⟨q,h4,by have:=a q w;grind,λr hr=>by have:=a r ω;have:=h6 r hr;grind⟩
 exact absurd z k
theorem QV(h:¬cG P f)(k:¬cG P g):¬cG P (λp=>f p+g p):=by
 rcases zE f P with z|z|z
 ·rintro⟨q,a,c,b⟩;exact k ⟨q,a,by have:=z q a;grind,λr hr=>by have:=z r ω;have:=b r hr;grind⟩
 ·exact(z.add k).not
 exact absurd z h
theorem iE.smul{c:Rat}(D:0<c)(h:iE P f):iE P (λp=>c*f p):=by
 obtain⟨p,d,a,b⟩:=h;exact⟨p,d,Rat.mul_pos D a,λq e=>by show c*f q=0;rw[b q e];grind⟩
theorem cG.smul{c:Rat}(D:0<c)(h:cG P f):cG P (λp=>c*f p):=by
 obtain⟨p,b,d,a⟩:=h;refine⟨p,b,?_,λq d=>by show c*f q=0;rw[a q d];grind⟩;have:=Rat.mul_pos D (show 0< -f p by grind);grind
theorem XD:iE P (λp=>-f p)↔cG P f:=by
 constructor
 ·rintro⟨p,b,d,a⟩;exact⟨p,b,by grind,λq c=>by have:=a q c;grind⟩
 rintro⟨p,b,d,a⟩;exact⟨p,b,by grind,λq c=>by have:=a q c;grind⟩
theorem Mw{c:Rat}(D:c<0)(h:cG P f):iE P (λp=>c*f p):=by
 have:=(XD.2 h).smul (show 0< -c by grind);obtain⟨p,b,d,a⟩:=this;exact⟨p,b,by grind,λq d=>by have:=a q d;grind⟩
theorem Gu{c:Rat}(D:0<=c)(h:¬cG P f):¬cG P (λp=>c*f p):=by
 rcases(show c=0\/0<c by grind)with e|e
 ·subst e;exact ni (λp _=>by grind)
 rcases zE f P with z|z|z
 ·exact ni (λp hp=>by rw[z p hp];grind)
 ·exact(z.smul e).not
 exact absurd z h
theorem amN{m:Nat}{h:Nat->Nat->Rat}(e:∀i,i<m->¬cG P (h i)):¬cG P (λp=>bX (λi=>h i p) m):=by
 induction m with
 |zero=>exact ni (λp _=>rfl)
 |succ m a=>exact QV (f:=λp=>bX (λi=>h i p) m) (a (λi a=>e i ω)) (e m ω)
theorem XE{m:Nat}{h:Nat->Nat->Rat}(e:∀i,i<m->¬cG P (h i)){j:Nat}(hj:j<m)(hp:iE P (h j)):iE P (λp=>bX (λi=>h i p) m):=by
 induction m with
 |zero=>omega
 |succ m a=>
  rcases Nat.lt_or_ge j m with w|w
  ·exact(a (λi a=>e i ω) w).add (e m ω)
  obtain rfl:j=m:=by omega
  have:=hp.add (amN (m:=j) (λi a=>e i ω));obtain⟨p,b,c,a⟩:=this;exact⟨p,b,by show 0<bX _ j+h j p;grind,λq c=>by show bX _ j+h j q=0;have:=a q c;grind⟩
theorem nG(e:∀p,p<P->f p=g p):cG P f->cG P g:=λ⟨p,a,b,c⟩=>⟨p,a,by rw[<-e p a];exact b,λq d=>by rw[<-e q ω];exact c q d⟩
theorem E6(e:∀p,p<P->f p=g p):iE P f->iE P g:=λ⟨p,a,b,c⟩=>⟨p,a,by rw[<-e p a];exact b,λq d=>by rw[<-e q ω];exact c q d⟩
end lex
theorem aqx(Q:Nat->Nat->Prop):∀N,∃M,∀v,v<N->(∀t,M<=t->(Q t v↔Q M v))\/((∀T,∃t,T<=t/\Q t v)/\∀T,∃t,T<=t/\¬Q t v)
 |0=>⟨0,λv b=>by omega⟩
 |N+1=>by
  obtain⟨M,h⟩:=aqx Q N;by_cases e:∀T,∃t,T<=t/\Q t N
  ·by_cases d:∀T,∃t,T<=t/\¬Q t N
   ·refine⟨M,λv b=>?_⟩;rcases Nat.lt_or_ge v N with w|w
    ·exact h v w
    obtain rfl:v=N:=by omega
    exact .inr ⟨e,d⟩
   obtain⟨T,c⟩:=Classical.not_forall.1 d;refine⟨max M T,λv b=>?_⟩;rcases Nat.lt_or_ge v N with w|w
   ·rcases h v w with q|q
    ·exact .inl (λt ht=>by rw[q t ω,q (max M T) ω])
    exact .inr q
   obtain rfl:v=N:=by omega
   have a:∀t,T<=t->Q t v:=λt ht=>Classical.not_not.1 (λq=>c ⟨t,ht,q⟩);exact .inl (λt ht=>by simp only[a t ω,a (max M T) ω])
  obtain⟨T,c⟩:=Classical.not_forall.1 e;refine⟨max M T,λv b=>?_⟩;rcases Nat.lt_or_ge v N with w|w
  ·rcases h v w with q|q
   ·exact .inl (λt ht=>by rw[q t ω,q (max M T) ω])
   exact .inr q
  obtain rfl:v=N:=by omega
  have a:∀t,T<=t->¬Q t v:=λt ht q=>c ⟨t,ht,q⟩;exact .inl (λt ht=>by simp only[a t ω,a (max M T) ω])
theorem ajf{Q:Nat->Prop}{a:Nat}(D:Q a):∀d,¬Q (a+d)->∃t,a<=t/\t<a+d/\Q t/\¬Q (t+1)
 |0,h=>absurd D h
 |d+1,h=>by
  by_cases q:Q (a+d)
  ·exact⟨a+d,by omega,by omega,q,h⟩
  obtain⟨t,c,e,b⟩:=ajf D d q;exact⟨t,c,by omega,b⟩
theorem ups{Q:Nat->Prop}(H:∀T,∃t,T<=t/\Q t)(D:∀T,∃t,T<=t/\¬Q t)(T:Nat):∃t,T<=t/\Q t/\¬Q (t+1):=by
 obtain⟨a,b,e⟩:=H T;obtain⟨c,d,b⟩:=D a;obtain⟨t,g,f,d⟩:=ajf e (c-a) (by rw[show a+(c-a)=c by omega];exact b);exact⟨t,by omega,d⟩
theorem again(Q:Nat->Nat->Prop):∀N,∃p:Nat->Prop,∀T,∃t,T<=t/\∀v,v<N->(Q t v↔p v)
 |0=>⟨λ_=>True,λT=>⟨T,Nat.le_refl _,λv f=>by omega⟩⟩
 |N+1=>by
  obtain⟨p,hp⟩:=again Q N;have a:∀q:Prop,(∀T,∃t,T<=t/\(∀v,v<N->(Q t v↔p v))/\(Q t N↔q))->∃p:Nat->Prop,∀T,∃t,T<=t/\∀v,v<N+1->(Q t v↔p v):=λq g=>
   ⟨λv=>if v=N then q else p v,λT=>by
    obtain⟨t,c,d,b⟩:=g T;refine⟨t,c,λv f=>?_⟩;show _↔if v=N then q else p v;by_cases e:v=N
    ·rw[if_pos e,e];exact b
    rw[if_neg e];exact d v ω⟩
  by_cases c:∀T,∃t,T<=t/\(∀v,v<N->(Q t v↔p v))/\(Q t N↔True)
  ·exact a True c
  obtain⟨f,g⟩:=Classical.not_forall.1 c;refine a False (λT=>?_);obtain⟨t,d,b⟩:=hp (max T f);exact⟨t,by omega,b,⟨λq=>g ⟨t,by omega,b,⟨λ_=>trivial,λ_=>q⟩⟩,λq=>q.elim⟩⟩
theorem adO{P:Nat}{w:Nat->Nat->Rat}(h:∀t,¬cG P (λp=>w (t+1) p-w t p))(a:Nat):∀d,¬cG P (λp=>w (a+d) p-w a p)
 |0=>ni (λp _=>by show w a p-w a p=0;grind)
 |d+1=>λq=>QV (adO h a d) (h (a+d)) (nG (λp _=>by show w (a+d+1) p-w a p=_;grind) q)
theorem XF{P N:Nat}{Q:Nat->Nat->Prop}{w:Nat->Nat->Rat}(D:∀s t,(∀v,v<N->(Q s v↔Q t v))->∀p,p<P->w s p=w t p)
  (h:∀t,¬cG P (λp=>w (t+1) p-w t p)):∃T,∀t,T<=t->¬iE P (λp=>w (t+1) p-w t p):=by
 refine Classical.not_not.1 (λq=>?_);obtain⟨p,hp⟩:=again Q N;obtain⟨a,_,f⟩:=hp 0;have b:=Classical.not_forall.1 (not_exists.1 q a);obtain⟨t,b⟩:=b;obtain⟨b,g⟩:=Classical.not_imp.1 b;obtain⟨c,d,b⟩:=hp (t+1);have e:=D a c (λv d=>(f v d).trans (b v d).symm);have b:=adO h a (t-a);rw[show a+(t-a)=t by omega]at b;have d:=adO h (t+1) (c-(t+1));rw[show t+1+(c-(t+1))=c by omega]at d;have f:=((Classical.not_not.1 g).add d);have d:=f.add b;obtain⟨p,b,f,_⟩:=d;have:=e p b;grind
end
section
open Go.Fw
def Il(F:Nat->Nat->Rat)(r c i k:Nat):Rat:=if i=r then F r k/F r c else F i k-F i c*(F r k/F r c)
def rC(b:Nat->Nat)(r c:Nat)(j:Nat):Nat:=if j=r then c else b j
def TV(n m:Nat)(F:Nat->Nat->Rat)(z:Nat->Rat):Prop:=∀i,i<m->bX (λk=>F i k*z k) (n+m)=F i (n+m)
def Uc(m:Nat)(F:Nat->Nat->Rat)(b:Nat->Nat):Prop:=∀i j,i<m->j<m->F i (b j)=if i=j then 1 else 0
section Il
variable {n m r c:Nat}{F:Nat->Nat->Rat}{b:Nat->Nat}{z:Nat->Rat}
theorem OZ(N:Nat):bX (λk=>Il F r c r k*z k) N=(F r c)⁻¹*bX (λk=>F r k*z k) N:=by
 rw[<-jv];refine bZ (λk _=>?_);unfold Il;rw[if_pos Y,Rat.div_def];grind
theorem O0{i:Nat}(D:i≠r)(N:Nat):bX (λk=>Il F r c i k*z k) N=bX (λk=>F i k*z k) N-F i c*((F r c)⁻¹*bX (λk=>F r k*z k) N):=by
 rw[<-jv,<-jv,<-uB];refine bZ (λk _=>?_);unfold Il;rw[if_neg D,Rat.div_def];grind
theorem agL(hr:r<m)(D:F r c≠0):TV n m (Il F r c) z↔TV n m F z:=by
 have hi:F r c*(F r c)⁻¹=1:=Rat.mul_inv_cancel _ D;have pr:Il F r c r (n+m)=(F r c)⁻¹*F r (n+m):=by unfold Il;rw[if_pos Y,Rat.div_def];grind
 have pi:∀i,i≠r->Il F r c i (n+m)=F i (n+m)-F i c*((F r c)⁻¹*F r (n+m)):=λi h=>by unfold Il;rw[if_neg h,Rat.div_def];grind
 constructor
 ·intro h;have e:=h r hr;rw[OZ,pr]at e;have a:bX (λk=>F r k*z k) (n+m)=F r (n+m):=by
   have:=congrArg (λx=>F r c*x) e;simp only[<-Rat.mul_assoc,hi,Rat.one_mul]at this;exact this
  intro i hi';by_cases q:i=r
  ·subst q;exact a
  have b:=h i hi';rw[O0 q,pi i q,a]at b;grind
 intro h i hi';by_cases q:i=r
 ·subst q;rw[OZ,pr,h _ hi']
 rw[O0 q,pi i q,h i hi',h r hr]
theorem adP(hr:r<m)(H:F r c≠0)(D:Uc m F b):Uc m (Il F r c) (rC b r c):=by
 have d:F r c*(F r c)⁻¹=1:=Rat.mul_inv_cancel _ H;intro i j a hj;show Il F r c i (if j=r then c else b j)=_;by_cases e:j=r
 ·subst e;rw[if_pos rfl];unfold Il;by_cases q:i=j
  ·subst q;rw[if_pos Y,if_pos Y,Rat.div_def];exact d
  rw[if_neg q,if_neg q,Rat.div_def,d];grind
 rw[if_neg e];have z0:F r (b j)=0:=by rw[D r j hr hj,if_neg (λq=>e q.symm)]
 unfold Il;rw[z0];by_cases q:i=r
 ·subst q;rw[if_pos Y,if_neg (λq=>e q.symm),Rat.div_def];grind
 rw[if_neg q,D i j a hj,Rat.div_def];grind
theorem AJ(H:Uc m F b){i j:Nat}(D:i<m)(hj:j<m)(e:b i=b j):i=j:=by
 by_cases q:i=j
 ·exact q
 have c:=H i i D D;have a:=H i j D hj;rw[if_pos rfl]at c;rw[if_neg q,<-e,c]at a;exact absurd a ξ
end Il
section two
variable {n m:Nat}{F G:Nat->Nat->Rat}{b c:Nat->Nat}
theorem C6(D:∀j,j<m->b j<n+m)(f h:Nat->Rat):bX (λl=>f l*bX (λj=>if b j=l then h j else 0) m) (n+m)=bX (λj=>f (b j)*h j) m:=by
 rw[show(λl=>f l*bX (λj=>if b j=l then h j else 0) m)=λl=>bX (λj=>f l*(if b j=l then h j else 0)) m from funext λl=>(jv _ _ _).symm,zD];refine bZ (λj hj=>?_);rw[iI (D j hj) (λi _ a=>by rw[if_neg (λq=>a q.symm)];grind),if_pos rfl]
theorem O1(H:∀j,j<m->b j<n+m)(I:Uc m F b)(K:∀z,TV n m F z->TV n m G z){i k:Nat}(D:i<m)(hk:k<=n+m):G i k=bX (λs=>G i (b s)*F s k) m:=by
 have c:∀(h:Nat->Rat) (i:Nat),i<m->bX (λj=>F i (b j)*h j) m=h i:=λh i D=>by
  rw[iI D (λj hj a=>by rw[I i j D hj,if_neg (λq=>a q.symm)];grind),I i i D D,if_pos rfl];grind
 have d:TV n m F (λl=>bX (λj=>if b j=l then F j (n+m)else 0) m):=λi D=>by rw[C6 H,c _ i D]
 have g:=K _ d i D;rw[C6 H]at g;by_cases e:k=n+m
 ·rw[e,<-g]
 have d:k<n+m:=by omega
 have o:∀(f:Nat->Rat),bX (λl=>f l*(bX (λj=>if b j=l then F j (n+m)else 0) m+((if l=k then 1 else 0)-bX (λj=>if b j=l then F j k else 0) m))) (n+m)=bX (λj=>f (b j)*F j (n+m)) m+(f k-bX (λj=>f (b j)*F j k) m):=λf=>by
  rw[<-C6 H f (λj=>F j (n+m)),<-C6 H f (λj=>F j k)];have p:f k=bX (λl=>f l*(if l=k then 1 else 0)) (n+m):=by
   rw[iI d (λi _ a=>by rw[if_neg a];grind),if_pos rfl];grind
  rw[p,<-uB,<-CK];exact bZ (λl _=>by grind)
 have d:TV n m F (λl=>bX (λj=>if b j=l then F j (n+m)else 0) m+((if l=k then 1 else 0)-bX (λj=>if b j=l then F j k else 0) m)):=λi D=>by
  rw[o (F i),c _ i D,c _ i D];grind
 have a:=K _ d i D;rw[o (G i),g]at a;grind
theorem adQ(hb:∀j,j<m->b j<n+m)(H:Uc m F b)(D:Uc m G c)(hs:∀z,TV n m F z->TV n m G z)(K:∀s,s<m->∃j,j<m/\c j=b s){i j k:Nat}(I:i<m)(hj:j<m)(e:c j=b i)(hk:k<=n+m):F i k=G j k:=by
 rw[O1 hb H hs hj hk,iI I (λs a d=>?_),<-e,D j j hj hj,if_pos rfl]
 ·grind
 obtain⟨t,ht,f⟩:=K s a;rw[<-f,D j t hj ht,if_neg (λq=>?_)]
 ·grind
 subst q;exact d (AJ H a I (f.symm.trans e))
end two
def rF(m:Nat)(b:Nat->Nat)(v:Nat):Prop:=∃i,i<m/\b i=v
structure Bm (n m:Nat) (G F:Nat->Nat->Rat) (b:Nat->Nat):Prop where
 hb:∀i,i<m->b i<n+m
 hu:Uc m F b
 hs:∀z,TV n m F z↔TV n m G z
 hg:Uc m G (λj=>n+j)
structure ry (n m:Nat) (G:Nat->Nat->Rat) (z0 Z:Nat->Rat) (b:Nat->Nat):Prop where
 e:∀k,k<=n+m->Z k=z0 k+bX (λj=>Z (n+j)*G j k) m
 z:∀i,i<m->Z (b i)=0
section tab
variable {n m:Nat}{G F F':Nat->Nat->Rat}{b b':Nat->Nat}{z0 Z Z':Nat->Rat}
theorem Bm.pivot(h:Bm n m G F b){r c:Nat}(hr:r<m)(H:c<n+m)(D:F r c≠0):Bm n m G (Il F r c) (rC b r c):=
 ⟨λi a=>by unfold rC;split<;>first|exact H|exact h.hb i a,adP hr D h.hu,λz=>(agL hr D).trans (h.hs z),h.hg⟩
theorem Bm.trans(h:Bm n m G F b)(H:Bm n m G F' b'){i k:Nat}(D:i<m)(I:k<=n+m):F' i k=bX (λs=>F' i (b s)*F s k) m:=
 O1 h.hb h.hu (λz q=>(H.hs z).2 ((h.hs z).1 q)) D I
theorem Bm.first(D:Uc m G (λj=>n+j)):Bm n m G G (λj=>n+j):=⟨λi a=>by omega,D,λ_=>Iff.rfl,D⟩
theorem ry.pivot(h:Bm n m G F b)(D:ry n m G z0 Z b){r c:Nat}(hr:r<m)(H:F r c≠0):ry n m G z0 (λk=>Z k-Z c*(F r k/F r c)) (rC b r c):=by
 have f:F r c*(F r c)⁻¹=1:=Rat.mul_inv_cancel _ H;refine⟨λk d=>?_,λi a=>?_⟩
 ·have e:=(Bm.first h.hg).trans h hr d;have g:=D.e k d;have d:bX (λj=>(Z (n+j)-Z c*(F r (n+j)/F r c))*G j k) m=bX (λj=>Z (n+j)*G j k) m-Z c*(F r c)⁻¹*bX (λs=>F r (n+s)*G s k) m:=by
   rw[<-jv,<-uB];exact bZ (λj _=>by rw[Rat.div_def];grind)
  show Z k-Z c*(F r k/F r c)=z0 k+bX (λj=>(Z (n+j)-Z c*(F r (n+j)/F r c))*G j k) m;rw[d,<-e,Rat.div_def];grind
 show Z (rC b r c i)-Z c*(F r (rC b r c i)/F r c)=0;unfold rC;by_cases q:i=r
 ·rw[if_pos q,Rat.div_def,f];grind
 rw[if_neg q,D.z i a,h.hu r i hr a,if_neg (λw=>q w.symm),Rat.div_def];grind
theorem ry.two(h:Bm n m G F b)(I:ry n m G z0 Z b)(H:ry n m G z0 Z' b'){k:Nat}(D:k<=n+m):Z' k=Z k+bX (λi=>Z' (b i)*F i k) m:=by
 have e:∀k,k<=n+m->Z' k-Z k=bX (λj=>(Z' (n+j)-Z (n+j))*G j k) m:=λk D=>by
  have a:=I.e k D;have a:=H.e k D;have a:bX (λj=>(Z' (n+j)-Z (n+j))*G j k) m=bX (λj=>Z' (n+j)*G j k) m-bX (λj=>Z (n+j)*G j k) m:=by
   rw[<-uB];exact bZ (λj _=>by grind)
  rw[a];grind
 have c:bX (λi=>Z' (b i)*F i k) m=bX (λj=>(Z' (n+j)-Z (n+j))*G j k) m:=by
  rw[bZ (k:=λi=>bX (λj=>(Z' (n+j)-Z (n+j))*(G j (b i)*F i k)) m) (λi a=>?_),zD]
  ·refine bZ (λj hj=>?_);rw[jv,<-h.trans (Bm.first h.hg) hj D]
  have:=e (b i) (Nat.le_of_lt (h.hb i a));rw[I.z i a]at this;rw[show Z' (b i)=Z' (b i)-0 by grind,this,Rat.mul_comm,<-jv];exact bZ (λj _=>by grind)
 rw[c,<-e k D];grind
theorem ry.same(h:Bm n m G F b)(K:ry n m G z0 Z b)(D:ry n m G z0 Z' b')(H:∀v,v<n+m->(rF m b v↔rF m b' v)){k:Nat}(I:k<=n+m):Z k=Z' k:=by
 rw[K.two h D I,bZ (k:=λ_=>0) (λi a=>?_),gX]
 ·grind
 obtain⟨j,hj,c⟩:=(H _ (h.hb i a)).1 ⟨i,a,Y⟩;rw[<-c,D.z j hj];grind
theorem adR{Q:Nat->Prop}:∀{N:Nat},(∃v,v<N/\Q v)->∃v,v<N/\Q v/\∀u,u<N->Q u->u<=v
 |0,⟨v,a,_⟩=>by omega
 |N+1,⟨v,a,q⟩=>by
  by_cases h:Q N
  ·exact⟨N,by omega,h,λu d _=>by omega⟩
  have a:v≠N:=λe=>h (e▸q);obtain⟨w,a,b,c⟩:=adR (N:=N) ⟨v,by omega,q⟩;exact⟨w,by omega,b,λu d a=>by
   have:u≠N:=λe=>h (e▸a);exact c u ω a⟩
end tab
section run
variable {n m:Nat}{G:Nat->Nat->Rat}{F:Nat->Nat->Nat->Rat}{b:Nat->Nat->Nat}{r s:Nat->Nat}
structure To (n m:Nat) (G:Nat->Nat->Rat) (F:Nat->Nat->Nat->Rat) (b:Nat->Nat->Nat) (r s:Nat->Nat):Prop where
 tt:∀t,Bm n m G (F t) (b t)
 bb:∀t j,j<m->b (t+1) j=rC (b t) (r t) (s t) j
 nn:∀t,¬rF m (b t) (s t)
 rr:∀t,r t<m
 ss:∀t,s t<n+m
theorem To.leave(h:To n m G F b r s){t v:Nat}(H:rF m (b t) v)(D:¬rF m (b (t+1)) v):b t (r t)=v:=by
 obtain⟨j,hj,e⟩:=H;by_cases q:j=r t
 ·rw[<-q];exact e
 exact absurd ⟨j,hj,by rw[h.bb t j hj,rC,if_neg q];exact e⟩ D
theorem To.enter(h:To n m G F b r s){t v:Nat}(H:¬rF m (b t) v)(D:rF m (b (t+1)) v):s t=v:=by
 obtain⟨j,hj,e⟩:=D;rw[h.bb t j hj,rC]at e;by_cases q:j=r t
 ·rw[if_pos q]at e;exact e
 rw[if_neg q]at e;exact absurd ⟨j,hj,e⟩ H
theorem To.gone(h:To n m G F b r s)(t:Nat):¬rF m (b (t+1)) (b t (r t)):=λ⟨j,hj,e⟩=>by
 rw[h.bb t j hj,rC]at e;by_cases q:j=r t
 ·rw[if_pos q]at e;exact h.nn t ⟨r t,h.rr t,e.symm⟩
 rw[if_neg q]at e;exact q (AJ (h.tt t).hu hj (h.rr t) e)
theorem To.axU(h:To n m G F b r s)(t:Nat):rF m (b (t+1)) (s t):=⟨r t,h.rr t,by rw[h.bb t _ (h.rr t),rC,if_pos rfl]⟩
theorem To.adS(h:To n m G F b r s):∃M v d e,M<=d/\M<=e/\b d (r d)=v/\s e=v/\v<n+m/\rF m (b d) v/\¬rF m (b e) v/\
  ∀x,x<n+m->(∀t,M<=t->(rF m (b t) x↔rF m (b M) x))\/(x<=v/\∀T,∃t,T<=t/\¬rF m (b t) x):=by
 obtain⟨M,g⟩:=aqx (λt v=>rF m (b t) v) (n+m);have i:∀t,M<=t->¬(∀u,M<=u->(rF m (b u) (b t (r t))↔rF m (b M) (b t (r t)))):=λt ht q=>
  h.gone t ((q (t+1) ω).2 ((q t ht).1 ⟨r t,h.rr t,Y⟩))
 obtain⟨v,k,f,w⟩:=adR (Q:=λv=>(∀T,∃t,T<=t/\rF m (b t) v)/\∀T,∃t,T<=t/\¬rF m (b t) v) (N:=n+m) ⟨b M (r M),(h.tt M).hb _ (h.rr M),by
  rcases g _ ((h.tt M).hb _ (h.rr M))with q|q
  ·exact absurd q (i M (Nat.le_refl _))
  exact q⟩
 obtain⟨d,l,i,p⟩:=ups f.1 f.2 M;obtain⟨e,y,j,o⟩:=ups (Q:=λt=>¬rF m (b t) v) f.2 (λT=>by obtain⟨t,a,c⟩:=f.1 T;exact⟨t,a,λq=>q c⟩) M;refine⟨M,v,d,e,l,y,h.leave i p,h.enter j (Classical.not_not.1 o),k,i,j,λx f=>?_⟩;rcases g x f with q|q
 ·exact .inl q
 exact .inr ⟨w x f q,q.2⟩
theorem adT{P:Nat}{cp:Nat->Nat}(h:To n m G F b r s)(D:∀p,p<P->cp p<=n+m)(H:∀t,cG P (λp=>F t (r t) (cp p)))
  (h2:∀t i,i<m->b t i<b t (r t)->¬cG P (λp=>F t i (cp p))) (h3:∀t,F t (r t) (s t)<0)
  (h4:∀t k,k<n+m->¬rF m (b t) k->k<s t->0<=F t (r t) k):False:=by
 obtain⟨M,v,c,a,f,o,y,d,g,u,l,z⟩:=h.adS;have l:=h.tt c;have u:=h.tt a;have x:iE P (λp=>bX (λi=>F a (r a) (b c i)*F c i (cp p)) m):=by
  have g:iE P (λp=>F a (r a) (b c (r c))*F c (r c) (cp p)):=Mw (by rw[y,<-d];exact h3 a) (H c);refine XE (h:=λi p=>F a (r a) (b c i)*F c i (cp p)) (λi d=>?_) (h.rr c) g;by_cases q:i=r c
  ·rw[q];exact g.not
  have g:b c i≠v:=λe=>q (AJ l.hu d (h.rr c) (e.trans y.symm));rcases z (b c i) (l.hb i d)with w|⟨w,_⟩
  ·obtain⟨j,hj,g⟩:=(w a o).2 ((w c f).1 ⟨i,d,Y⟩);have o:r a≠j:=λe=>by
    have:=h.gone a;rw[e,g]at this;exact this ((w (a+1) ω).2 ((w c f).1 ⟨i,d,Y⟩))
   refine ni (λp _=>?_);rw[<-g,u.hu (r a) j (h.rr a) hj,if_neg o];grind
  refine Gu ?_ (h2 c i d ω);by_cases f:rF m (b a) (b c i)
  ·obtain⟨j,hj,g⟩:=f;rw[<-g,u.hu (r a) j (h.rr a) hj];split<;>decide
  exact h4 a _ (l.hb i d) f ω
 exact x.not (nG (λp hp=>l.trans u (h.rr a) (D p hp)) (H a))
theorem VX{P:Nat}{z0:Nat->Nat->Rat}{Z:Nat->Nat->Nat->Rat}(h:To n m G F b r s)(D:∀t p,p<P->ry n m G (z0 p) (Z t p) (b t))
  (hF:∀t i,i<m->F (t+1) i (n+m)=Il (F t) (r t) (s t) i (n+m)) (h0:∀t,0<F t (r t) (s t)) (h1:∀t,cG P (λp=>Z t p (s t)))
  (h2:∀t k,k<n+m->¬rF m (b t) k->k<s t->¬cG P (λp=>Z t p k)) (deg:∀t,F t (r t) (n+m)=0)
  (h3:∀t i,i<m->0<F t i (s t)->F t i (n+m)=0->b t (r t)<=b t i):False:=by
 obtain⟨M,v,a,f,l,B,I,K,c,H,o,J⟩:=h.adS;have c:=h.tt f;have y:=h.tt a;have o:∀x t,(∀i,i<m->b t i=x->F t i (n+m)=0)->∀i,i<m->b (t+1) i=x->F (t+1) i (n+m)=0:=λx t q i c e=>by
  rw[hF t i c,Il];rw[h.bb t i c,rC]at e;by_cases w:i=r t
  ·rw[if_pos w,deg,Rat.div_def];grind
  rw[if_neg w]at e;rw[if_neg w,deg,q i c e,Rat.div_def];grind
 have A:∀x t,(∀i,i<m->b t i=x->F t i (n+m)=0)->∀d,∀i,i<m->b (t+d) i=x->F (t+d) i (n+m)=0:=λx t q d=>by
  induction d with
  |zero=>exact q
  |succ d A=>exact o x (t+d) A
 have o:∀x t,(∀i,i<m->b (t+1) i=x->F (t+1) i (n+m)=0)->∀i,i<m->b t i=x->F t i (n+m)=0:=λx t q i c e=>by
  by_cases w:i=r t
  ·rw[w];exact deg t
  have:=q i c (by rw[h.bb t i c,rC,if_neg w];exact e);rw[hF t i c,Il,if_neg w,deg,Rat.div_def]at this;rw[<-this];grind
 have C:∀x,(∀T,∃t,T<=t/\¬rF m (b t) x)->∀t i,i<m->b t i=x->F t i (n+m)=0:=λx q t=>by
  obtain⟨u,hu,E⟩:=q t;have L:∀d t,(∀i,i<m->b (t+d) i=x->F (t+d) i (n+m)=0)->∀i,i<m->b t i=x->F t i (n+m)=0:=λd=>by
   induction d with
   |zero=>exact λt q=>q
   |succ d A=>exact λt q=>A t (o x (t+d) q)
  refine L (u-t) t (λi c e=>?_);rw[show t+(u-t)=u by omega]at e;exact absurd ⟨i,c,e⟩ E
 have ss:s a<=v/\s a≠v:=by
  refine⟨?_,λe=>h.nn a (by rw[e];exact H)⟩;rcases J (s a) (h.ss a)with w|⟨w,_⟩
  ·exact absurd ((w a l).2 ((w (a+1) ω).1 (h.axU a))) (h.nn a)
  exact w
 have H:∀x,x<n+m->x<v->¬cG P (λp=>Z f p x):=λx o A=>by
  by_cases w:rF m (b f) x
  ·obtain⟨j,hj,E⟩:=w;exact ni (λp hp=>by rw[<-E];exact(D f p hp).z j hj)
  exact h2 f x o w (by rw[K];exact A)
 have A:iE P (λp=>Z f p (s a)+bX (λi=>-F a i (s a)*Z f p (b a i)) m):=by
  have o:iE P (λp=>-F a (r a) (s a)*Z f p (b a (r a))):=by
   rw[I,<-K];exact Mw (by have:=h0 a;grind) (h1 f)
  refine E6 (λp _=>Rat.add_comm _ _) (iE.add (XE (h:=λi p=>-F a i (s a)*Z f p (b a i)) (λi c=>?_) (h.rr a) o) (H _ (h.ss a) ω));by_cases q:i=r a
  ·rw[q];exact o.not
  have o:b a i≠v:=λe=>q (AJ y.hu c (h.rr a) (e.trans I.symm));rcases J (b a i) (y.hb i c)with w|⟨w,o⟩
  ·obtain⟨j,hj,E⟩:=(w f B).2 ((w a l).1 ⟨i,c,Y⟩);exact ni (λp hp=>by rw[<-E,(D f p hp).z j hj];grind)
  refine Gu ?_ (H _ (y.hb i c) ω);rcases(show F a i (s a)<=0\/0<F a i (s a) by grind)with g|g
  ·grind
  have:=h3 a i c g (C _ o a i c Y);omega
 refine A.not (nG (λp hp=>?_) (h1 a));have e:=ry.two y (D a p hp) (D f p hp) (k:=s a) (Nat.le_of_lt (h.ss a));show Z a p (s a)=Z f p (s a)+_;rw[e,bZ (h:=λi=>-F a i (s a)*Z f p (b a i)) (k:=λi=>(-1:Rat)*(Z f p (b a i)*F a i (s a))) (λi _=>by grind),jv];grind
theorem To.shift(h:To n m G F b r s)(T:Nat):To n m G (λt=>F (T+t)) (λt=>b (T+t)) (λt=>r (T+t)) (λt=>s (T+t)):=
 ⟨λt=>h.tt _,λt=>h.bb (T+t),λt=>h.nn _,λt=>h.rr _,λt=>h.ss _⟩
theorem Tp{P:Nat}{z0:Nat->Nat->Rat}{Z:Nat->Nat->Nat->Rat}(h:To n m G F b r s)(D:∀t p,p<P->ry n m G (z0 p) (Z t p) (b t))
  (hF:∀t i,i<m->F (t+1) i (n+m)=Il (F t) (r t) (s t) i (n+m)) (hZ':∀t p,p<P->Z (t+1) p (n+m)=Z t p (n+m)-Z t p (s t)*(F t (r t) (n+m)/F t (r t) (s t)))
  (h0:∀t,0<F t (r t) (s t)) (h1:∀t,cG P (λp=>Z t p (s t))) (nn:∀t,0<=F t (r t) (n+m))
  (h2:∀t k,F t (r t) (n+m)=0->k<n+m->¬rF m (b (t+1)) k->k<s (t+1)->¬cG P (λp=>Z (t+1) p k))
  (h3:∀t i,i<m->0<F t i (s t)->F t i (n+m)=0->F t (r t) (n+m)=0->b t (r t)<=b t i):False:=by
 have a:∀t,iE P (λp=>Z (t+1) p (n+m)-Z t p (n+m))\/F t (r t) (n+m)=0:=λt=>by
  rcases(show F t (r t) (n+m)=0\/0<F t (r t) (n+m) by have:=nn t;grind)with q|q
  ·exact .inr q
  refine .inl (E6 (λp hp=>?_) (Mw (c:=-(F t (r t) (n+m)/F t (r t) (s t))) (by have:=Rat.mul_pos q (Rat.inv_pos.2 (h0 t));rw[Rat.div_def];grind) (h1 t)));rw[hZ' t p hp];grind
 obtain⟨T,e⟩:=XF (P:=P) (N:=n+m) (Q:=λt v=>rF m (b t) v) (w:=λt p=>Z t p (n+m)) (λt u d p hp=>ry.same (h.tt t) (D t p hp) (D u p hp) d (Nat.le_refl _)) (λt=>by
  rcases a t with q|q
  ·exact q.not
  exact ni (λp hp=>by rw[hZ' t p hp,q,Rat.div_def];grind))
 have d:∀t,T<=t->F t (r t) (n+m)=0:=λt ht=>(a t).resolve_left (e t ht);refine VX (h.shift (T+1)) (P:=P) (z0:=z0) (Z:=λt=>Z (T+1+t)) (λt p hp=>D _ p hp) (λt i a=>hF (T+1+t) i a) (λt=>h0 _) (λt=>h1 _) (λt k f e l=>?_) (λt=>d _ ω) (λt i a g j=>h3 _ i a g j (d _ ω));have:=h2 (T+t) k (d _ ω) f;rw[show T+t+1=T+1+t by omega]at this;exact this e l
theorem adU{P:Nat}{cp:Nat->Nat}{z0:Nat->Rat}{Z:Nat->Nat->Rat}(h:To n m G F b r s)(D:∀p,p<P->cp p<=n+m)(H:∀t,ry n m G z0 (Z t) (b t))
  (h1:∀t,iE P (λp=>Z (t+1) (cp p)-Z t (cp p))):False:=by
 obtain⟨T,c⟩:=XF (P:=P) (N:=n+m) (Q:=λt v=>rF m (b t) v) (w:=λt p=>Z t (cp p)) (λt u a p hp=>ry.same (h.tt t) (H t) (H u) a (D p hp)) (λt=>(h1 t).not);exact c T (Nat.le_refl _) (h1 T)
end run
end
section
open Go.Fw
def Gd(h N:Nat)(f:Nat->Rat):Prop:=∃d:Nat,0<d/\d<4294967296^h/\∀k,k<=N->∃z:Int,f k*((d:Int):Rat)=(z:Rat)/\z.natAbs<4294967296^h
theorem Gd.mono{h D N:Nat}{f:Nat->Rat}(g:Gd h N f)(H:h<=D):Gd D N f:=by
 obtain⟨d,c,a,b⟩:=g;have hp:4294967296^h<=4294967296^D:=Nat.pow_le_pow_right ξ H;exact⟨d,c,Nat.lt_of_lt_of_le a hp,λk i=>by obtain⟨z,e,j⟩:=b k i;exact⟨z,e,Nat.lt_of_lt_of_le j hp⟩⟩
theorem Gw{d:Int}(h:d≠0):(d:Rat)≠0:=λe=>h (Rat.intCast_inj.1 e)
theorem Tq(z:Int)(h:z≠0):∃s:Int,(s=1\/s=-1)/\s*z=z.natAbs/\0<z.natAbs:=by
 rcases Int.lt_or_gt_of_ne h with w|w
 ·exact⟨-1,.inr Y,by omega,by omega⟩
 exact⟨1,.inl Y,by omega,by omega⟩
theorem adV{f z:Rat}{d:Int}{y:Int}(h:f*(d:Rat)=(y:Rat))(H:f≠0)(D:d≠0):y≠0:=λe=>by
 rw[e]at h;rcases Rat.mul_eq_zero.1 (show f*(d:Rat)=0 from h)with q|q
 ·exact H q
 exact Gw D q
theorem Gd.aqy{h N:Nat}{f:Nat->Rat}(g:Gd h N f){c:Nat}(H:c<=N)(D:f c≠0):Gd h N (λk=>f k/f c):=by
 obtain⟨d,a,b,i⟩:=g;obtain⟨j,b,a⟩:=i c H;obtain⟨s,m,n,hp⟩:=Tq j (adV (z:=0) b D ω);refine⟨j.natAbs,hp,a,λk l=>?_⟩;obtain⟨z,e,a⟩:=i k l;refine⟨s*z,?_,?_⟩
 ·show f k/f c*_=_;rw[<-n,Rat.intCast_mul,Rat.intCast_mul,<-b,<-e,Rat.div_def];have:=Rat.mul_inv_cancel _ D;grind
 rcases m with rfl|rfl
 ·rw[Int.one_mul];exact a
 rw[Int.neg_one_mul,Int.natAbs_neg];exact a
theorem Gd.amP{h N:Nat}{f g:Nat->Rat}(K:Gd h N f)(I:Gd h N g){c:Nat}(D:c<=N)(H:f c≠0):Gd (2*h+1) N (λk=>g k-g c*(f k/f c)):=by
 obtain⟨d,a,b,l⟩:=K;obtain⟨e,m,o,q⟩:=I;obtain⟨a,r,b⟩:=l c D;obtain⟨i,u,n⟩:=q c D;obtain⟨s,v,x,hp⟩:=Tq a (adV (z:=0) r H ω);have j:(4294967296:Nat)^(2*h+1)=4294967296^h*4294967296^h*4294967296:=by rw[Nat.pow_succ,Nat.two_mul,Nat.pow_add]
 unfold Gd;rw[j];generalize (4294967296:Nat)^h=P at*;have j:e*a.natAbs<P*P:=Nat.mul_lt_mul'' o b;refine⟨e*a.natAbs,Nat.mul_pos m hp,Nat.lt_of_lt_of_le j (Nat.le_mul_of_pos_right _ ξ),λk p=>?_⟩;obtain⟨j,w,o⟩:=l k p;obtain⟨l,t,m⟩:=q k p;refine⟨s*(l*a-i*j),?_,?_⟩
 ·show(g k-g c*(f k/f c))*_=_;rw[Int.natCast_mul,<-x,Rat.intCast_mul,Rat.intCast_mul,Rat.intCast_mul,Rat.intCast_sub,Rat.intCast_mul,Rat.intCast_mul,<-r,<-w,<-u,<-t,Rat.div_def];have:=Rat.mul_inv_cancel _ H;grind
 have p:(l*a).natAbs<P*P:=by rw[Int.natAbs_mul];exact Nat.mul_lt_mul'' m b
 have b:(i*j).natAbs<P*P:=by rw[Int.natAbs_mul];exact Nat.mul_lt_mul'' n o
 have a3:(s*(l*a-i*j)).natAbs=(l*a-i*j).natAbs:=by
  rcases v with rfl|rfl
  ·rw[Int.one_mul]
  rw[Int.neg_one_mul,Int.natAbs_neg]
 rw[a3];omega
def hsz(L:Nat):Nat->Nat
 |0=>L
 |k+1=>2*hsz L k+1
theorem Mx(L:Nat)(k:Nat):hsz L k<=hsz L (k+1):=by show _<=2*hsz L k+1;omega
theorem CL(L:Nat){k c:Nat}(h:k<=c):hsz L k<=hsz L c:=by
 induction h with
 |refl=>exact Nat.le_refl _
 |step _ a=>exact Nat.le_trans a (Mx L _)
section reach
variable {L n m:Nat}{G F F':Nat->Nat->Rat}{b b':Nat->Nat}{z0 Z:Nat->Rat}
theorem Bm.reach(h:Bm n m G F b)(I:∀i,i<m->Gd L (n+m) (G i))(D:ry n m G z0 z0 (λj=>n+j))(H:Gd L (n+m) z0):∀t,t<=n->∃a b' c,Bm n m G a b'/\((∀i,i<m->Gd (hsz L t) (n+m) (a i))/\ry n m G z0 c b'/\Gd (hsz L t) (n+m) c)/\(∀j,j<m->n<=b j->rF m b' (b j))/\∀j,j<m->b j<t->rF m b' (b j)
 |0,_=>⟨G,λj=>n+j,z0,Bm.first h.hg,⟨I,D,H⟩,λj hj B=>⟨b j-n,by have:=h.hb j hj;omega,by show n+(b j-n)=b j;omega⟩,λj _ hj=>by omega⟩
 |t+1,ht=>by
  obtain⟨a,b',c,z,⟨x,M,K⟩,E,J⟩:=Bm.reach h I D H t ω;have g:(∀j,j<m->b j=t->rF m b' t)->∃a b' c,Bm n m G a b'/\((∀i,i<m->Gd (hsz L (t+1)) (n+m) (a i))/\ry n m G z0 c b'/\Gd (hsz L (t+1)) (n+m) c)/\(∀j,j<m->n<=b j->rF m b' (b j))/\∀j,j<m->b j<t+1->rF m b' (b j):=λq=>
   ⟨a,b',c,z,⟨λi p=>(x i p).mono (Mx L t),M,K.mono (Mx L t)⟩,E,λj hj A=>by
    by_cases e:b j=t
    ·rw[e];exact q j hj e
    exact J j hj ω⟩
  by_cases q:rF m b' t
  ·exact g (λ_ _ _=>q)
  by_cases D:rF m b t
  ·obtain⟨o,d,l⟩:=D;by_cases C:∃r,r<m/\a r t≠0/\¬rF m b (b' r)
   ·obtain⟨r,hr,y,B⟩:=C;have f:∀v,rF m b' v->rF m b v->rF m (rC b' r t) v:=λv ⟨i,p,e⟩ c=>⟨i,p,by
     unfold rC;rw[if_neg (λw=>B (by rw[<-w,e];exact c))];exact e⟩
    have c:t<n+m:=by omega
    refine⟨_,_,_,z.pivot hr c y,⟨λi p=>?_,M.pivot z hr y,(x r hr).amP K (Nat.le_of_lt c) y⟩,λj hj B=>f _ (E j hj B) ⟨j,hj,Y⟩,λj hj A=>?_⟩
    ·by_cases e:i=r
     ·have:=(x r hr).aqy (Nat.le_of_lt c) y;rw[e,show Il a r t r=λk=>a r k/a r t from funext λk=>if_pos rfl];exact this.mono (Mx L t)
     have:=(x r hr).amP (x i p) (Nat.le_of_lt c) y;rw[show Il a r t i=λk=>a i k-a i t*(a r k/a r t)from funext λk=>if_neg e];exact this
    by_cases e:b j=t
    ·exact⟨r,hr,by unfold rC;rw[if_pos Y,e]⟩
    exact f _ (J j hj ω) ⟨j,hj,Y⟩
   exfalso;have e:=z.trans h (i:=o) (k:=t) d ω;rw[<-l,h.hu o o d d,if_pos Y,bZ (k:=λ_=>0) (λs f=>?_),gX]at e
   ·exact absurd e ξ
   by_cases w:a s (b o)=0
   ·rw[w];grind
   obtain⟨u,hu,c⟩:=Classical.not_not.1 (λa=>C ⟨s,f,by rw[<-l];exact w,a⟩);rw[<-c,h.hu o u d hu,if_neg (λa=>q ⟨s,f,by rw[<-c,<-a,l]⟩)];grind
  exact g (λj hj e=>absurd ⟨j,hj,e⟩ D)
theorem Bm.size(h:Bm n m G F b)(K:∀i,i<m->Gd L (n+m) (G i))(D:ry n m G z0 z0 (λj=>n+j))(H:Gd L (n+m) z0)(I:ry n m G z0 Z b):(∀i,i<m->Gd (hsz L n) (n+m) (F i))/\Gd (hsz L n) (n+m) Z:=by
 obtain⟨f,b',u,p,⟨v,r,t,g,l,o⟩,a,c⟩:=h.reach K D H n (Nat.le_refl n);have f:∀s,s<m->∃j,j<m/\b' j=b s:=λs hs=>by
  rcases Nat.lt_or_ge (b s) n with w|w
  ·exact c s hs w
  exact a s hs w
 refine⟨λi c=>?_,t,g,l,λk a=>?_⟩
 ·obtain⟨j,hj,e⟩:=f i c;obtain⟨d,g,t,l⟩:=v j hj;refine⟨d,g,t,λk a=>?_⟩;rw[adQ h.hb h.hu p.hu (λz q=>(p.hs z).2 ((h.hs z).1 q)) f c hj e a];exact l k a
 have e:Z k=u k:=by
  rw[ry.two h I r a,bZ (k:=λ_=>0) (λi c=>?_),gX]
  ·grind
  obtain⟨j,hj,e⟩:=f i c;rw[<-e,r.z j hj];grind
 rw[e];exact o k a
end reach
end
section
open Go.Fw
section fin
variable {n m:Nat}{G F:Nat->Nat->Rat}{b:Nat->Nat}{z0 Z:Nat->Rat}
def pH(m N:Nat)(F:Nat->Nat->Rat)(b:Nat->Nat)(k:Nat):Rat:=bX (λi=>if b i=k then F i N else 0) m
theorem C7(H:Uc m F b){i:Nat}(D:i<m)(N:Nat):pH m N F b (b i)=F i N:=by
 unfold pH;rw[iI D (λj hj a=>if_neg (λe=>a (AJ H hj D e))),if_pos rfl]
theorem xS{k:Nat}(h:¬rF m b k)(N:Nat):pH m N F b k=0:=by
 unfold pH;rw[bZ (k:=λ_=>0) (λi a=>if_neg (λe=>h ⟨i,a,e⟩)),gX]
theorem Bm.pH(h:Bm n m G F b):TV n m G (pH m (n+m) F b):=(h.hs _).1 λi a=>by
 show bX (λk=>F i k*bX (λj=>if b j=k then F j (n+m)else 0) m) (n+m)=_;rw[C6 h.hb (F i) (λj=>F j (n+m)),iI a (λj hj c=>by rw[h.hu i j a hj,if_neg (λq=>c q.symm)];grind),h.hu i i a a,if_pos rfl];grind
theorem agM(D:∀i,i<m->0<=F i (n+m))(k:Nat):0<=pH m (n+m) F b k:=
 qY λi a=>by
  show 0<=if b i=k then F i (n+m)else 0;split
  ·exact D i a
  exact Rat.le_refl
theorem Tr(D:ry n m G z0 Z b){z:Nat->Rat}(H:TV n m G z):bX (λk=>z0 k*z k) (n+m)=bX (λk=>Z k*z k) (n+m)-Z (n+m)+z0 (n+m):=by
 have a:bX (λk=>Z k*z k) (n+m)=bX (λk=>z0 k*z k) (n+m)+bX (λj=>Z (n+j)*G j (n+m)) m:=by
  rw[bZ (h:=λk=>Z k*z k) (k:=λk=>z0 k*z k+bX (λj=>Z (n+j)*(G j k*z k)) m) (λk a=>?_),CK,zD]
  ·refine congrArg (λx=>_+x) (bZ (λj hj=>?_));rw[jv,H j hj]
  rw[D.e k (Nat.le_of_lt a),bZ (h:=λj=>Z (n+j)*(G j k*z k)) (k:=λj=>z k*(Z (n+j)*G j k)) (λj _=>by grind),jv];grind
 have a:=D.e (n+m) (Nat.le_refl _);grind
theorem O2(h:Bm n m G F b)(D:ry n m G z0 Z b):bX (λk=>z0 k*pH m (n+m) F b k) (n+m)=z0 (n+m)-Z (n+m):=by
 rw[Tr D h.pH,bZ (k:=λ_=>0) (λk a=>?_),gX]
 ·grind
 by_cases q:rF m b k
 ·obtain⟨i,a,e⟩:=q;rw[<-e,D.z i a];grind
 rw[xS q];grind
theorem adW(h:Bm n m G F b)(D:ry n m G z0 Z b)(I:∀k,k<n+m->0<=Z k){z:Nat->Rat}(H:TV n m G z)(hp:∀k,k<n+m->0<=z k):bX (λk=>z0 k*pH m (n+m) F b k) (n+m)<=bX (λk=>z0 k*z k) (n+m):=by
 rw[O2 h D,Tr D H];have:=qY (h:=λk=>Z k*z k) (n:=n+m) (λk a=>Rat.mul_nonneg (I k a) (hp k a));grind
theorem adX(h:Bm n m G F b){r:Nat}(hr:r<m)(D:F r (n+m)<0)(hp:∀k,k<n+m->0<=F r k){z:Nat->Rat}(hs:TV n m G z)(H:∀k,k<n+m->0<=z k):False:=by
 have:=(h.hs z).2 hs r hr;have g:=qY (h:=λk=>F r k*z k) (n:=n+m) (λk a=>Rat.mul_nonneg (hp k a) (H k a));grind
theorem adY(h:Bm n m G F b)(K:∀k,k<n->∃i,i<m/\∀j,j<n->G i j=if j=k then 1 else 0){c:Nat}(H:c<n+m)(I:¬rF m b c)(D:∀i,i<m->F i c<=0):False:=by
 have f:∀i j,i<m->j<m->G i (n+j)=if i=j then 1 else 0:=h.hg
 let u:Nat->Rat:=λk=>(if k=c then 1 else 0)-pH m c F b k
 have o:∀k,0<=u k:=λk=>by
  have:pH m c F b k<=0:=by
   have:=qY (h:=λi=>-(if b i=k then F i c else 0)) (n:=m) (λi a=>by have:=D i a;split<;>grind);rw[show(λi=>-(if b i=k then F i c else 0))=λi=>(-1:Rat)*(if b i=k then F i c else 0)from funext λi=>by grind,jv]at this;unfold pH;grind
  show 0<=(if k=c then 1 else 0)-pH m c F b k;split<;>grind
 have g:∀i,i<m->bX (λk=>G i k*u k) (n+m)=0:=λi a=>by
  have r:G i c=bX (λk=>G i k*(if k=c then 1 else 0)) (n+m):=by
   rw[iI H (λk _ d=>by rw[if_neg d];grind),if_pos rfl];grind
  have l:=h.trans (Bm.first h.hg) a (Nat.le_of_lt H);have p:bX (λk=>G i k*pH m c F b k) (n+m)=bX (λj=>G i (b j)*F j c) m:=C6 h.hb (G i) (λj=>F j c);rw[show(λk=>G i k*u k)=λk=>G i k*(if k=c then 1 else 0)-G i k*pH m c F b k from funext λk=>by show G i k*((if k=c then 1 else 0)-pH m c F b k)=_;grind,uB,<-r,p,<-l];grind
 have l:∀i,i<m->bX (λk=>G i k*u k) n+u (n+i)=0:=λi a=>by
  have e:=g i a;rw[qR]at e;rw[iI (h:=λj=>G i (n+j)*u (n+j)) a (λj hj d=>by rw[f i j a hj,if_neg (λq=>d q.symm)];grind),f i i a a,if_pos rfl]at e;grind
 have us:∀k,k<n->u k=0:=λk f=>by
  obtain⟨i,a,hg⟩:=K k f;have e:=l i a;rw[iI (h:=λj=>G i j*u j) f (λj hj d=>by rw[hg j hj,if_neg d];grind),hg k f,if_pos rfl]at e;have:=o k;have:=o (n+i);grind
 have d:∀i,i<m->u (n+i)=0:=λi a=>by
  have e:=l i a;rw[bZ (k:=λ_=>0) (λk f=>by rw[us k f];grind),gX]at e;grind
 have a:u c=1:=by
  show(if c=c then 1 else 0)-pH m c F b c=1;rw[if_pos Y,xS I];grind
 have:u c=0:=by
  rcases Nat.lt_or_ge c n with w|w
  ·exact us c w
  have:=d (c-n) ω;rw[show n+(c-n)=c by omega]at this;exact this
 grind
end fin
section axW
variable {n m:Nat}{G F:Nat->Nat->Rat}{b:Nat->Nat}{z0 Z:Nat->Rat}
def zL(n m p:Nat):Nat:=if p=0 then n+m else n+(p-1)
theorem My{n m p:Nat}(h:p<1+m):zL n m p<=n+m:=by unfold zL;split<;>omega
theorem Bm.amQ(h:Bm n m G F b){i:Nat}(D:i<m)(H:¬cG (1+m) (λp=>F i (zL n m p))):iE (1+m) (λp=>F i (zL n m p)):=by
 rcases zE (λp=>F i (zL n m p)) (1+m)with q|q|q
 ·exfalso;have e:=(Bm.first h.hg).trans h D (Nat.le_of_lt (h.hb i D));rw[h.hu i i D D,if_pos Y,bZ (k:=λ_=>0) (λj hj=>?_),gX]at e
  ·exact absurd e ξ
  have:=q (1+j) ω;rw[zL,if_neg ω,show n+(1+j-1)=n+j by omega]at this;rw[this];grind
 ·exact q
 exact absurd q H
theorem iE.first{P:Nat}{f:Nat->Rat}(h:¬cG P f)(D:0<P):0<=f 0:=by
 rcases(show f 0<0\/0<=f 0 by grind)with q|q
 ·exact absurd ⟨0,D,q,λ_ h=>by omega⟩ h
 exact q
theorem Mz{P:Nat}{cp:Nat->Nat}{r c:Nat}(K:0<F r c)(hr:r<m)(H:∀i,i<m->¬cG P (λp=>F i (cp p)))(I:∀i,i<m->0<F i c->¬cG P (λp=>F i (cp p)*F r c-F r (cp p)*F i c)){i:Nat}(D:i<m):¬cG P (λp=>Il F r c i (cp p)):=by
 have hp:=Rat.inv_pos.2 K;have a:=Rat.mul_inv_cancel _ (show F r c≠0 by grind);by_cases e:i=r
 ·subst e;refine λw=>Gu (c:=(F i c)⁻¹) (by grind) (H i D) (nG (λp _=>?_) w);rw[Il,if_pos Y,Rat.div_def];grind
 rcases(show F i c<=0\/0<F i c by grind)with q|q
 ·refine λw=>QV (H i D) (Gu (c:=-F i c*(F r c)⁻¹) (Rat.mul_nonneg (by grind) (by grind)) (H r hr)) (nG (λp _=>?_) w);rw[Il,if_neg e,Rat.div_def];grind
 refine λw=>Gu (c:=(F r c)⁻¹) (by grind) (I i D q) (nG (λp _=>?_) w);rw[Il,if_neg e,Rat.div_def];grind
theorem VY{P:Nat}{cp:Nat->Nat}{r c:Nat}(D:0<F r c)(H:Z c<0)(hp:iE P (λp=>F r (cp p))):iE P (λp=>(Z (cp p)-Z c*(F r (cp p)/F r c))-Z (cp p)):=by
 refine E6 (λp _=>?_) (hp.smul (c:=-Z c*(F r c)⁻¹) (Rat.mul_pos (by grind) (Rat.inv_pos.2 D)));rw[Rat.div_def];grind
end axW
end
section
open Go.Fw
theorem agN{α β:Type}(a:List α)(b:List β):max (a.length:Int) (b.length:Int)=((max a.length b.length:Nat):Int):=by omega
theorem agQ{α β:Type}(a:List α)(b:List β):min (a.length:Int) (b.length:Int)=((min a.length b.length:Nat):Int):=by omega
theorem Bl.gd{L:Nat}{v:List Qr}{f:Nat->Rat}(h:Bl L v f)(k:Nat):mq L (v.getD k (⟨⟨false,[]⟩,⟨false,[]⟩⟩:Qr)) (f k):=h.at k
theorem QW{n k:Nat}{h:Nat->Rat}(D:k<n):(vq k h++List.replicate (n-k) qz).set k (qn (h k))=vq (k+1) h++List.replicate (n-(k+1)) qz:=by
 rw[show n-k=(n-(k+1))+1 by omega,List.replicate_succ,List.set_append_right _ _ (by rw[b9];exact Nat.le_refl _),b9,Nat.sub_self,AH,List.append_assoc];rfl
theorem xT{n k:Nat}{h:Nat->Rat}(D:k<=n):(vq k h++List.replicate (n-k) qz).length=n:=by rw[List.length_append,b9,List.length_replicate];omega
section ops
variable {K L M:Nat}{c:Qr}{a b:List Qr}{k:Rat}{f g:Nat->Rat}
theorem XG(a b:List Qr)(H:a.length<=9223372036854775806)(D:b.length<=9223372036854775806):vD a b=some (prl qz id a b):=by
 unfold vD;simp only[Option.bind_some];rw[show max (a.length:Int) (b.length:Int)=((max a.length b.length:Nat):Int) by omega,Tc (λk=>(a.getD k qz,b.getD k qz)) (max a.length b.length) (λk c=>?_) η]
 ·simp[pN,M8,prl]
 rw[bC ω];have g:∀(l:List Qr),((if k<l.length then bV l (k:Int)else some qz):Option Qr)=some (l.getD k qz):=λl=>by
  by_cases h:k<l.length
  ·rw[if_pos h];simp[bV,h]
  rw[if_neg h];simp[h]
 have i:=g a;have f:=g b;have c:(k:Int)<((max a.length b.length:Nat):Int):=by omega
 by_cases e:k<a.length<;>by_cases d:k<b.length<;>simp[e,d]at i f<;>simp[e,d,i,f,c,bU,Dt,qz]
theorem aqz(I:mq K c k)(D:Bl L a f)(H:Bl M b g)(h:K+L+M<=4000000000)(la:a.length<=1000000)(lb:b.length<=1000000):kR c a b=some (vq (max a.length b.length) λi=>k*f i+g i)/\Bl (K+L+M+1) (vq (max a.length b.length) λi=>k*f i+g i) (λi=>k*f i+g i):=by
 refine⟨?_,Ik (λi _=>(I.fq.mul (D.fq i)).add (H.fq i)) (λi e=>?_) ω⟩
 ·unfold kR o5;obtain⟨⟨_,_⟩,⟨_,_⟩⟩:=c;refine az (a:=vq (max a.length b.length) (λi=>k*f i+g i)) ?_ Y;refine az Y<|az Y<|az (congrArg some (agN a b))<|az (QD ω ω)<|az (XG a b ω ω) ?_;rw[Kc];refine wV (λj=>vq j (λi=>k*f i+g i)) Y (λj hj=>?_) Y;have hp:=Ke (f:=id) (d:=(qz,qz)) (z:=qz) hj;have e:=I.mul (D.gd j) ω;have l:=(e.2.add (H.gd j) ω).1;replace e:=e.1;change(prl qz id a b).getD j (qz,qz)=(a.getD j (⟨⟨false,[]⟩,⟨false,[]⟩⟩:Qr),b.getD j (⟨⟨false,[]⟩,⟨false,[]⟩⟩:Qr))at hp;generalize a.getD j (⟨⟨false,[]⟩,⟨false,[]⟩⟩:Qr)=m at e hp;generalize b.getD j (⟨⟨false,[]⟩,⟨false,[]⟩⟩:Qr)=n at l hp;obtain⟨⟨_,_⟩,⟨_,_⟩⟩:=m;obtain⟨⟨_,_⟩,⟨_,_⟩⟩:=n;generalize qn (k*f j)=m at e l;obtain⟨⟨_,_⟩,⟨_,_⟩⟩:=m;obtain⟨n,m⟩:∃q,qn (k*f j+g j)=q:=⟨_,Y⟩;rw[AH,m];rw[m]at l;obtain⟨⟨_,_⟩,⟨_,_⟩⟩:=n;refine az (congrArg (λp=>some p.1) hp)<|az (congrArg (λp=>some p.2) hp)<|az (az e<|az l Y)<|az (ru ω (by rw[b9];omega)) Y
 rw[D.z i ω,H.z i ω];grind
theorem adZ(H:mq K c k)(D:Bl L a f)(h:K+L<=4000000000)(I:a.length<=1000000):oJ c a=some (vq a.length λi=>k*f i)/\Bl (K+L) (vq a.length λi=>k*f i) (λi=>k*f i):=by
 have b:=D.l1;refine⟨?_,Ik (λi _=>H.fq.mul (D.fq i)) (λi e=>?_) ω⟩
 ·unfold oJ;obtain⟨⟨_,_⟩,⟨_,_⟩⟩:=c;refine az Y<|az (fE ω ω)<|az Y ?_;refine jU (λj=>((j:Int),vq j (λi=>k*f i)++List.replicate (a.length-j) qz)) a.length (vq a.length λi=>k*f i) Y (λj hj=>?_) ?_ Y
  ·obtain⟨q,m,rq⟩:=D.get hj;have d:=(H.mul rq h).1;obtain⟨g,l⟩:∃q,qn (k*f j)=q:=⟨_,Y⟩;have b:=QW (h:=λi=>k*f i) hj;rw[l]at d b;obtain⟨⟨_,_⟩,⟨_,_⟩⟩:=q;obtain⟨⟨_,_⟩,⟨_,_⟩⟩:=g;refine az Y<|cm (decide_eq_true ω)<|az (bu m)<|az d<|az (bY (by rw[xT ω];exact hj))<|az (cL (by rw[xT ω];exact hj))<|az Y ?_;rw[bC ω,b]
  refine az Y<|cq (decide_eq_false ω) ?_;simp
 rw[D.z i e];grind
end ops
end
section
open Go.Fw
section ops
variable {K L M:Nat}{c:Qr}{a b:List Qr}{k:Rat}{f g:Nat->Rat}
theorem axX{x y z:Rat}{p q r:Qr}(hp:mq K p x)(D:mq L q y)(hr:mq M r z)(H:r=qn z)(h:K+L+M<=4000000000):ug p q r=some (qn (z+x*y)):=by
 have a:=hp.mul D ω;have c:=(hr.add a.2 ω).1;have b:=hp.sign ω;have f:=D.sign ω;replace a:=a.1;obtain⟨⟨_,_⟩,⟨_,_⟩⟩:=p;obtain⟨⟨_,_⟩,⟨_,_⟩⟩:=q;obtain⟨⟨_,_⟩,⟨_,_⟩⟩:=r;generalize qn (x*y)=w at a c;obtain⟨⟨_,_⟩,⟨_,_⟩⟩:=w;unfold ug;refine az b<|az Y ?_;by_cases b:x=0
 ·refine az (cq (decide_eq_false (by rw[b,tD];simp)) Y) ?_;rw[show z+x*y=z by rw[b];grind,<-H];rfl
 by_cases d:y=0
 ·refine az (cm (decide_eq_true (λe=>b (jE.1 e))) (az f (az Y Y))) ?_;refine cq (decide_eq_false (by rw[d,tD];simp)) ?_;rw[show z+x*y=z by rw[d];grind,<-H]
 refine az (cm (decide_eq_true (λe=>b (jE.1 e))) (az f (az Y Y))) ?_;refine cm (decide_eq_true (λe=>d (jE.1 e))) ?_;obtain⟨b,d⟩:∃w,qn (z+x*y)=w:=⟨_,Y⟩;rw[d]at c⊢;obtain⟨⟨_,_⟩,⟨_,_⟩⟩:=b;exact az a<|az c Y
theorem XH{n i:Nat}(D:i<n):(a.take n).getD i (⟨⟨false,[]⟩,⟨false,[]⟩⟩:Qr)=a.getD i (⟨⟨false,[]⟩,⟨false,[]⟩⟩:Qr):=by
 simp[List.getD,List.getElem?_take,D]
theorem lK(q:Qr):(⟨⟨(q.num.neg,q.num.w,q.den.neg,q.den.w).1,(q.num.neg,q.num.w,q.den.neg,q.den.w).2.1⟩,⟨(q.num.neg,q.num.w,q.den.neg,q.den.w).2.2.1,(q.num.neg,q.num.w,q.den.neg,q.den.w).2.2.2⟩⟩:Qr)=q:=by cases q;rfl
theorem amR(D:Bl L a f)(H:Bl M b g)(h:(min a.length b.length+2)*(L+M+1)<=4000000000):td a b=some (qn (bX (λi=>f i*g i) (min a.length b.length)))/\mq (min a.length b.length*(L+M+1)+1) (qn (bX (λi=>f i*g i) (min a.length b.length))) (bX (λi=>f i*g i) (min a.length b.length)):=by
 have e:∀n,FQ (n*(L+M+1)+1) (bX (λi=>f i*g i) n):=λn=>Gt (λi _=>(D.fq i).mul (H.fq i));refine⟨?_,(e _).rep ω⟩;unfold td;have l:∀n:Nat,n<=min a.length b.length->n*(L+M+1)<=min a.length b.length*(L+M+1):=λn c=>Nat.mul_le_mul_right _ c;rw[Nat.add_mul]at h;have c:min a.length b.length<=min a.length b.length*(L+M+1):=Nat.le_mul_of_pos_right _ ω;refine az Y<|az Y<|az (congrArg some (agQ a b))<|az (C1 ω)<|az (C1 ω)<|az (XG _ _ (by simp only[List.length_take];omega) (by simp only[List.length_take];omega)) ?_;rw[Kc,show max (a.take (min a.length b.length)).length (b.take (min a.length b.length)).length=min a.length b.length by simp only[List.length_take];omega];refine wV (λj=>((qn (bX (λi=>f i*g i) j)).num.neg,(qn (bX (λi=>f i*g i) j)).num.w,(qn (bX (λi=>f i*g i) j)).den.neg,(qn (bX (λi=>f i*g i) j)).den.w)) Y (λj hj=>?_) Y;have c:=l j ω;have c:=axX (D.gd j) (H.gd j) ((e j).rep ω) Y ω;simp only[bX];generalize e:qn (bX (λi=>f i*g i) j)=q0 at c⊢;generalize e:qn (bX (λi=>f i*g i) j+f j*g j)=q3 at c⊢;rw[<-XH (a:=a) hj,<-XH (a:=b) hj]at c
 have hp:=Ke (a:=a.take (min a.length b.length)) (b:=b.take (min a.length b.length)) (f:=id) (d:=(qz,qz)) (z:=qz) (k:=j) (by simp only[List.length_take];omega);change _=((a.take (min a.length b.length)).getD j (⟨⟨false,[]⟩,⟨false,[]⟩⟩:Qr),(b.take (min a.length b.length)).getD j (⟨⟨false,[]⟩,⟨false,[]⟩⟩:Qr))at hp;generalize (a.take (min a.length b.length)).getD j (⟨⟨false,[]⟩,⟨false,[]⟩⟩:Qr)=q1 at c hp;generalize (b.take (min a.length b.length)).getD j (⟨⟨false,[]⟩,⟨false,[]⟩⟩:Qr)=q2 at c hp;obtain⟨⟨_,_⟩,⟨_,_⟩⟩:=q0;obtain⟨⟨_,_⟩,⟨_,_⟩⟩:=q1;obtain⟨⟨_,_⟩,⟨_,_⟩⟩:=q2;obtain⟨⟨_,_⟩,⟨_,_⟩⟩:=q3;exact az (congrArg (λp=>some p.1) hp)<|az (congrArg (λp=>some p.2) hp)<|az c Y
end ops
end
section
open Go.Fw
def bg{α:Type}(m:Option α)(Q:α->Prop):Prop:=∃r,m=some r/\Q r
section ret
variable {α β S E:Type}{Q:β->Prop}
theorem bg.ret{a:β}(h:Q a):bg (some a) Q:=⟨a,Y,h⟩
theorem bg.bind{x:Option α}{f:α->Option β}{P:α->Prop}(h:bg x P)(k:∀a,P a->bg (f a) Q):bg (x.bind f) Q:=by
 obtain⟨a,c,b⟩:=h;rw[c];exact k a b
theorem bg.eq{x:Option α}{f:α->Option β}{a:α}(h:x=some a)(k:bg (f a) Q):bg (x.bind f) Q:=by rw[h];exact k
theorem bg.bif{b:Bool}{x y:Option β}(h:b=true->bg x Q)(k:b=false->bg y Q):bg (bif b then x else y) Q:=by
 cases b with
 |true=>exact h Y
 |false=>exact k Y
theorem bg.mono{x:Option β}{P:β->Prop}(h:bg x P)(k:∀b,P b->Q b):bg x Q:=by
 obtain⟨a,d,c⟩:=h;exact⟨a,d,k a c⟩
theorem bg.bU{J:Type}{k:J->Option β}{f:(J->Option β)->Option β}(P:J->Prop)(D:∀K:J->Option β,(∀j,P j->bg (K j) Q)->bg (f K) Q)(H:∀j,P j->bg (k j) Q):bg (bU k f) Q:=D k H
theorem bg.loop{body:S->Option (S⊕E)}{s:S}{Q:E->Prop}(I:S->Prop)(μ:S->Nat)(h:I s)(k:∀s,I s->bg (body s) λy=>match y with|.inl s'=>I s'/\μ s'<μ s|.inr e=>Q e):bg (bH body s) Q:=
 GU I Q μ (λs c=>by
  obtain⟨y,b,a⟩:=k s c;cases y with
  |inl s'=>exact .inl ⟨s',b,a⟩
  |inr e=>exact .inr ⟨e,b,a⟩) h
abbrev Nx(c:S->Int)(n:Nat)(I:Nat->S->Prop)(Q:E->Prop)(i:Nat):S⊕E->Prop
 |.inl s'=>i<n/\c s'=((i+1:Nat):Int)/\I (i+1) s'
 |.inr e=>Q e
theorem bg.inl{c:S->Int}{n:Nat}{I:Nat->S->Prop}{Q:E->Prop}{i:Nat}{s':S}(K:i<n)(D:c s'=((i+1:Nat):Int))(H:I (i+1) s'):bg (some (.inl s')) (Nx c n I Q i):=⟨_,Y,K,D,H⟩
theorem bg.inr{c:S->Int}{n:Nat}{I:Nat->S->Prop}{Q:E->Prop}{i:Nat}{e:E}(h:Q e):bg (some (.inr e)) (Nx c n I Q i):=⟨_,Y,h⟩
theorem bg.cnt{body:S->Option (S⊕E)}{s:S}{Q:E->Prop}(c:S->Int)(n:Nat)(I:Nat->S->Prop)(D:c s=0)(h:I 0 s)(k:∀i s,i<=n->c s=(i:Nat)->I i s->bg (body s) (Nx c n I Q i)):bg (bH body s) Q:=by
 refine bg.loop (λt=>∃i:Nat,c t=i/\i<=n/\I i t) (λt=>n-(c t).toNat) ⟨0,D,Nat.zero_le _,h⟩ ?_;rintro t ⟨i,b,g,d⟩;obtain⟨y,f,a⟩:=k i t g b d;refine⟨y,f,?_⟩;cases y with
 |inl s'=>exact⟨⟨i+1,a.2.1,a.1,a.2.2⟩,by rw[a.2.1,b];have:=a.1;omega⟩
 |inr e=>exact a
theorem qg{body:Int×S->Option ((Int×S)⊕E)}{e:E}{s:S}(D:Nat->S)(n:Nat)(I:s=D 0)(H:∀k,k<n->body ((k:Int),D k)=some (.inl (((k+1:Nat):Int),D (k+1))))(K:body ((n:Int),D n)=some (.inr e)):bH body (0,s)=some e:=by
 rw[I];exact yH (λk=>((k:Int),D k)) n H K
theorem zF{α:Type}{z:α}{n:Nat}(g:Nat->α){body:Int×List α->Option ((Int×List α)⊕List α)}(D:∀(j:Nat) l,j<n->l.length=n->l[j]? =some z->body ((j:Int),l)=some (.inl (((j+1:Nat):Int),l.set j (g j))))(H:∀l,l.length=n->body ((n:Int),l)=some (.inr l)):bH body (0,List.replicate n z)=some ((List.range n).map g):=by
 have hl:∀k,k<=n->((List.range k).map g++List.replicate (n-k) z).length=n:=λk a=>by simp;omega
 refine qg (λk=>(List.range k).map g++List.replicate (n-k) z) n Y (λk a=>?_) (by rw[H _ (hl n (Nat.le_refl n)),Nat.sub_self];simp);rw[D k _ a (hl k (Nat.le_of_lt a)) (by rw[List.getElem?_append_right η,show n-k=(n-(k+1))+1 by omega];simp[List.replicate_succ])];rw[show n-k=(n-(k+1))+1 by omega,List.replicate_succ,List.set_append_right _ _ η];simp[List.range_succ]
theorem aqA{α:Type}{n:Nat}(g:Nat->α){body:Int×List α->Option ((Int×List α)⊕List α)}(D:∀(j:Nat) l,j<n->l.length=j->body ((j:Int),l)=some (.inl (((j+1:Nat):Int),l++[g j])))(H:∀l,l.length=n->body ((n:Int),l)=some (.inr l)):bH body (0,[])=some ((List.range n).map g):=
 qg (λk=>(List.range k).map g) n Y (λk a=>by rw[D k _ a η];simp[List.range_succ]) (H _ η)
theorem Gx{A:Type}(enc:A->S){body:S->Option (S⊕E)}{a:A}{Q:E->Prop}(I:A->Prop)(R:A->A->Prop)(h:I a)(k:∀a,I a->bg (body (enc a)) λy=>(∃D,y=.inl (enc D)/\I D/\R a D)\/∃e,y=.inr e/\Q e)(no:∀H:Nat->A,(∀t,I (H t)/\R (H t) (H (t+1)))->False):bg (bH body (enc a)) Q:=by
 by_cases w:bg (bH body (enc a)) Q
 ·exact w
 have j:∀t:{t//I t/\¬bg (bH body (enc t)) Q},∃u:{t//I t/\¬bg (bH body (enc t)) Q},R t.1 u.1:=by
  rintro⟨t,g,d⟩;obtain⟨y,c,⟨u,rfl,b,l⟩|⟨e,rfl,b⟩⟩:=k t g
  ·exact⟨⟨u,b,λ⟨e,g,i⟩=>d ⟨e,by rw[<-g];exact sZ c,i⟩⟩,l⟩
  exact absurd ⟨e,my c,b⟩ d
 obtain⟨f,b⟩:=Classical.skolem.1 j;exact(no (λt=>(Nat.rec ⟨a,h,w⟩ (λ_ u=>f u) t:{t//I t/\¬bg (bH body (enc t)) Q}).1) (λt=>⟨(Nat.rec ⟨a,h,w⟩ (λ_ u=>f u) t:{t//I t/\¬bg (bH body (enc t)) Q}).2.1,b _⟩)).elim
end ret
theorem nl0{i:Nat}:decide ((i:Int)<0)=false:=decide_eq_false ω
theorem lF{α β E:Type}{a D:α}{b b':β}(h:a=D)(H:b=b'):(some (.inl (a,b)):Option ((α×β)⊕E))=some (.inl (D,b')):=by rw[h,H]
theorem Gd.fq{h N k:Nat}{f:Nat->Rat}(g:Gd h N f)(D:k<=N):FQ h (f k):=by
 obtain⟨d,c,b,a⟩:=g;obtain⟨z,e,c⟩:=a k D;have a:(d:Int)≠0:=by omega
 have:f k=Rat.divInt z d:=by
  rw[Rat.divInt_eq_div,<-e,Rat.div_def,Rat.mul_assoc,Rat.mul_inv_cancel _ (Gw a),Rat.mul_one]
 rw[this];exact tC a c (by unfold Fit;simpa using b)
def Gv(L:Nat)(v:List Qr):Prop:=∀q∈v,mq L q (qv q)
theorem Gv.at{L:Nat}{v:List Qr}(h:Gv L v)(D:1<=L)(i:Nat):mq L (Tn v i) (tF v i):=(AI h D).at i
theorem CM{L n:Nat}{f:Nat->Rat}(h:∀i,i<n->FQ L (f i))(D:1<=L):Gv L (vq n f):=λq b=>by
 obtain⟨i,a,rfl⟩:=List.mem_map.1 b;rw[XB];exact(h i (List.mem_range.1 a)).rep D
theorem og{n i:Nat}{f:Nat->Rat}(D:i<n):tF (vq n f) i=f i:=by
 unfold tF Tn;rw[List.getD_eq_getElem?_getD,fU D];exact XB _
def sF(m:List (List Qr))(i k:Nat):Rat:=tF (m.getD i []) k
def Gm(L:Nat)(m:List (List Qr)):Prop:=∀r∈m,Gv L r
theorem Gm.row{L:Nat}{m:List (List Qr)}(h:Gm L m)(i:Nat):Gv L (m.getD i []):=by
 rcases Nat.lt_or_ge i m.length with q|q
 ·rw[List.getD_eq_getElem?_getD,List.getElem?_eq_getElem q];exact h _ (List.getElem_mem q)
 rw[List.getD_eq_getElem?_getD,List.getElem?_eq_none q];intro q a;cases a
theorem E7{L:Nat}{m:List (List Qr)}(h:Gm L m)(D:1<=L)(H:L<=10000000000)(i k:Nat):kD m i k=some (qn (sF m i k)):=by
 have e:vE m i=some (m.getD i []):=by
  by_cases q:i<m.length
  ·simp[vE,bU,bV,q,nl0,show ¬m.length<=i by omega]
  simp[vE,bU,q,nl0,show m.length<=i by omega]
 have g:=((h.row i).at D k).canon H;unfold kD sF;rw[e];generalize m.getD i []=r at g⊢;by_cases q:k<r.length
 ·have a:Tn r k=r[k]:=by simp[Tn,q]
  rw[a]at g;simp[bU,bV,q,nl0,show ¬r.length<=k by omega,g.1]
 have a:tF r k=0:=by simp[tF,Tn,show r.length<=k by omega];decide
 rw[a];simp[bU,nl0,show r.length<=k by omega];rfl
theorem Gy{m:List (List Qr)}{n:Nat}(h:∀r∈m,r.length<=n)(D:n<=1000000)(H:m.length<=1000000):bg (jJ m) λc=>∃k:Nat,c=k/\k<=n/\∀r∈m,r.length<=k:=by
 unfold jJ;refine bg.eq Y<|bg.bind (P:=λc=>∃k:Nat,c=k/\k<=n/\∀r∈m,r.length<=k) ?_ λc a=>.ret a;refine bg.cnt Prod.snd m.length (λi s=>∃k:Nat,s.1=k/\k<=n/\∀r∈m.take i,r.length<=k) Y ⟨0,Y,Nat.zero_le _,by simp⟩ ?_;rintro i ⟨_,_⟩ a rfl ⟨k,rfl,b,hr⟩;refine bg.eq Y<|bg.bif (λq=>?_) (λq=>?_)
 ·have q:i<m.length:=by simpa using q
  have hl:=h _ (List.getElem_mem q);refine bg.eq (bu (List.getElem?_eq_getElem q))<|bg.eq Y<|bg.eq Y<|bg.eq Y<|.inl q (bC ω) ⟨max k m[i].length,by simp;omega,by omega,λr a=>?_⟩;rw[List.take_succ_eq_append_getElem q,List.mem_append,List.mem_singleton]at a;rcases a with w|rfl
  ·have:=hr r w;omega
  omega
 have q:¬i<m.length:=by simpa using q
 exact .inr ⟨k,Y,b,λr a=>hr r (by rw[List.take_of_length_le ω];exact a)⟩
theorem MA{L M:Nat}{m:List (List Qr)}{x:List Qr}(K:Gm L m)(hx:Gv M x)(I:1<=L)(D:1<=M)(H:(x.length+2)*(L+M+1)<=4000000000)(hl:m.length<=1000000):o6 m x=some (vq m.length λi=>bX (λk=>sF m i k*tF x k) (min (m.getD i []).length x.length)):=by
 unfold o6;refine az Y<|az (fE ω ω)<|az Y<|az (zF (λi=>qn (bX (λk=>sF m i k*tF x k) (min (m.getD i []).length x.length))) (λj l hj hl _=>?_) (λl hl=>by simp)) Y;have e:m[j]? =some (m.getD j []):=by simp[hj]
 have a:=amR (AI (K.row j) I) (AI hx D) (Nat.le_trans (Nat.mul_le_mul_right _ ω) H);refine az Y<|cm (decide_eq_true ω)<|az (bu e)<|az a.1<|az (bY ω)<|az (cL ω)<|az Y (lF (bC ω) Y)
end
section
open Go.Fw
theorem AK{α:Type}{l:List (List α)}{i:Nat}{r:List α}(h:l[i]? =some r):Na l (i:Int)=some (i,r):=by
 obtain⟨b,a⟩:=List.getElem?_eq_some_iff.1 h;simp[Na,fG,b,a]
theorem nR{α:Type}{l:List α}{i:Nat}{x:α}(h:i<l.length):(l.set i x)[i]? =some x:=by simp[h]
theorem Im{e:Int->Int->Option Qr}{g:Nat->Nat->Rat}{n c:Nat}(H:n<=1000000)(I:c<=1000000)(D:∀i k:Nat,i<n->k<c->e i k=some (qn (g i k))):mL e n c=some ((List.range n).map λi=>vq c (g i)):=by
 unfold mL;refine az (fE ω ω)<|az (congrArg (λk:Nat=>some (k:Int)) List.length_replicate)<|az (zF (λi=>vq c (g i)) (λi l b hl _=>?_) (λl hl=>by simp)) Y;have a:i<l.length:=by omega
 have d:∀k,k<c->(l.set i (vq k (g i)++List.replicate (c-k) qz))[i]? =some (vq k (g i)++List.replicate (c-k) qz):=λk _=>nR a;refine az Y<|cm (decide_eq_true ω)<|az (AK (List.getElem?_eq_getElem a))<|az (fE ω ω)<|az (AK (nR a))<|az (congrArg (λk:Nat=>some (k:Int)) List.length_replicate)<|az (qg (e:=l.set i (vq c (g i))) (λk=>l.set i (vq k (g i)++List.replicate (c-k) qz)) c (by rw[List.set_set];rfl) (λk a=>?_) ?_)<|az Y (lF (bC ω) Y)
 ·refine az Y<|cm (decide_eq_true ω)<|az (AK (d k a))<|az (D i k b a)<|az (bY (by rw[xT ω];exact a))<|az (cL (by rw[xT ω];exact a))<|az Y (lF (bC ω) ?_);rw[QW a,List.set_set]
 refine az Y<|cq (decide_eq_false ω) ?_;rw[Nat.sub_self];simp
theorem VZ{L n c:Nat}{g:Nat->Nat->Rat}(h:∀i k,i<n->k<c->FQ L (g i k))(D:1<=L):Gm L ((List.range n).map λi=>vq c (g i)):=λr hr=>by
 obtain⟨i,a,rfl⟩:=List.mem_map.1 hr;exact CM (λk b=>h i k (List.mem_range.1 a) b) D
theorem Ts{n c i k:Nat}{g:Nat->Nat->Rat}(D:i<n)(H:k<c):sF ((List.range n).map λi=>vq c (g i)) i k=g i k:=by
 simp[sF,D,og H]
theorem Gz{n:Nat}(h:n<=1000):oK n=some (n:Int):=by
 unfold oK;simp;omega
theorem MB{n:Nat}(h:n<=1000):qb [] n n=some ((List.range n).map λ_=>vq n λ_=>0):=by
 unfold qb;rw[show @tL=@mL from rfl];exact az (Gz h)<|az (Gz h)<|az (Im (g:=λ_ _=>0) ω ω λi k _ _=>az (E7 (L:=1) (by intro r hr;cases hr) ω ω i k) (congrArg (λq=>some (qn q)) (show sF [] i k=0 by simp[sF,tF,Tn];decide))) rfl
def dl(i k:Nat):Rat:=if i=k then 1 else 0
theorem ident_eq{n:Nat}(h:n<=1000):rX n=some ((List.range n).map λi=>vq n (dl i)):=
 az (Gz h)<|az (Gz h)<|az (Im (g:=dl) ω ω λi k _ _=>by
  unfold o8 dl;by_cases e:i=k
  ·simp[e,(cz (n:=1) ξ).1]
  simp[e,show ¬((i:Int)=k) by omega];rfl) Y
theorem O3{L:Nat}{a b:List (List Qr)}(ha:Gm L a)(hb:Gm L b)(D:1<=L)(H:L<=10000000000){n c d:Nat}(K:a.length=n)(I:b.length=n)(hn:n<=1000)(hc:jJ a=some (c:Int))(hd:jJ b=some (d:Int))(hcd:c+d<=1000):pZ a b=some ((List.range n).map λi=>vq (c+d) λk=>if k<c then sF a i k else sF b i (k-c)):=by
 unfold pZ;rw[show @tK=@mL from rfl];refine az hc<|az hd<|az Y<|az Y<|az (congrArg some (show max (a.length:Int) b.length=(n:Int) by omega))<|az (congrArg some (oe ω))<|az (Im ω ω λi k _ e=>?_) Y;unfold rW;by_cases q:k<c
 ·rw[if_pos q];exact az Y<|cm (decide_eq_true ω)<|az (E7 ha D H i k) Y
 rw[if_neg q];exact az Y<|cq (decide_eq_false ω)<|az (congrArg some (show IntKind.i64.wrap ((k:Int)-c)=((k-c:Nat):Int) by rw[cV ω ω];omega))<|az (E7 hb D H i (k-c)) Y
def Rw(h N:Nat)(r:List Qr):Prop:=∃f,r=vq N f/\(∀k,N<=k->f k=0)/\Gd h N f
section elim
variable {h N:Nat}{r s:List Qr}
theorem Rw.mono{D:Nat}(a:Rw h N r)(k:h<=D):Rw D N r:=by obtain⟨f,e,z,g⟩:=a;exact⟨f,e,z,g.mono k⟩
theorem Rw.len(a:Rw h N r):r.length=N:=by obtain⟨f,e,z,g⟩:=a;rw[e,b9]
theorem Gd.zero(h N:Nat)(D:1<=h):Gd h N (λ_=>0):=⟨1,by omega,Nat.one_lt_pow ω ξ,λk _=>⟨0,by rw[Rat.zero_mul];rfl,Nat.pow_pos ξ⟩⟩
theorem Rw.gv(a:Rw h N r)(D:1<=h):Gv h r:=by
 obtain⟨f,rfl,z,g⟩:=a;exact CM (λi b=>g.fq (Nat.le_of_lt b)) D
theorem Rw.at(a:Rw h N r)(D:1<=h){k:Nat}(H:k<N):∃q,r[k]? =some q/\mq h q (tF r k):=by
 have hl:=a.len;refine⟨Tn r k,by simp[Tn,show k<r.length by omega],(a.gv D).at D k⟩
theorem YV(a:Rw h N r)(I:1<=h)(hh:h<=1000000)(K:N<=1000){c:Nat}(D:c<N)(H:tF r c≠0):∃q e t,kz (qn 1) q=some (e,0)/\r[c]? =some q/\oJ e r=some t/\Rw h N t/\∀k,k<N->tF t k=tF r k/tF r c:=by
 obtain⟨f,rfl,z,g⟩:=a;rw[og D]at H⊢;have b:mq h (qn (f c)) (f c):=(g.fq (Nat.le_of_lt D)).rep I;have j:=((cz (n:=1) ξ).2).div b ω H;have b:Bl h (vq N f) f:=Ik (λi d=>g.fq (Nat.le_of_lt d)) z I;have d:=adZ j.2 b ω (by rw[b9];omega);rw[b9]at d;have e:∀k,f k/f c=((1:Int):Rat)/f c*f k:=λk=>by rw[Rat.div_def,Rat.div_def];grind
 refine⟨_,_,_,j.1,fU D,d.1,⟨_,Y,λk b=>by rw[z k b];grind,?_⟩,λk b=>by rw[og b,og b,e]⟩;have:=g.aqy (Nat.le_of_lt D) H;rw[show(λi=>((1:Int):Rat)/f c*f i)=λk=>f k/f c from funext λk=>(e k).symm];exact this
theorem agR{p:List Qr}(a:Rw h N r)(b:Rw h N s)(H:1<=h)(hh:h<=1000000)(hN:N<=1000){c:Nat}(D:c<N)(K:tF r c≠0)(hp:Rw h N p)(I:∀k,k<N->tF p k=tF r k/tF r c):∃q e t,s[c]? =some q/\iw q=some e/\kR e p s=some t/\Rw (2*h+1) N t:=by
 obtain⟨f,rfl,z,g⟩:=a;obtain⟨u,rfl,y,k⟩:=b;obtain⟨v,rfl,w,l⟩:=hp;rw[og D]at K;have j:mq h (qn (u c)) (u c):=(k.fq (Nat.le_of_lt D)).rep H;have n:=j.neg ω;have m:=aqz n.2 (Ik (λi j=>l.fq (Nat.le_of_lt j)) w H) (Ik (λi j=>k.fq (Nat.le_of_lt j)) y H) ω (by rw[b9];omega) (by rw[b9];omega);rw[b9,b9,Nat.max_self]at m;refine⟨_,_,_,fU D,n.1,m.1,_,Y,λi j=>by rw[w i j,y i j];grind,?_⟩;have e:∀i,i<=N-> -u c*v i+u i=u i-u c*(f i/f c):=λi j=>by
  rcases Nat.lt_or_ge i N with q|q
  ·have:=I i q;rw[og q,og q,og D]at this;rw[this];grind
  rw[w i q,y i q,z i q,Rat.div_def];grind
 obtain⟨d,n,o,m⟩:=g.amP k (Nat.le_of_lt D) K;exact⟨d,n,o,λi j=>by dsimp only;rw[e i j];exact m i j⟩
def MX(h n N:Nat)(m:List (List Qr)):Prop:=m.length=n/\∀r∈m,Rw h N r
theorem MX.mono{D n:Nat}{m:List (List Qr)}(a:MX h n N m)(k:h<=D):MX D n N m:=⟨a.1,λr hr=>(a.2 r hr).mono k⟩
theorem MX.set{n i:Nat}{m:List (List Qr)}(a:MX h n N m)(hr:Rw h N r):MX h n N (m.set i r):=⟨by rw[List.length_set];exact a.1,λx b=>by
 rcases List.mem_or_eq_of_mem_set b with q|rfl
 ·exact a.2 x q
 exact hr⟩
theorem MX.get{n i:Nat}{m:List (List Qr)}(a:MX h n N m)(D:i<n):∃r,m[i]? =some r/\Rw h N r:=by
 have:=a.1;exact⟨m[i],by simp,a.2 _ (List.getElem_mem _)⟩
theorem axY(x y:Rat):o9 x y=-1\/o9 x y=0\/o9 x y=1:=by unfold o9;by_cases h:x<y<;>by_cases a:x=y<;>simp[h,a]
theorem AL{α:Type}{l k:List α}(e:k.length=l.length):xu l k=some ():=by simp[xu,e]
theorem Tt{n p c:Nat}{m:List (List Qr)}(a:MX h n N m)(D:1<=h)(K:h<=1000000)(I:n<=1000)(H:c<N):bg (kr m p c) λy=>y.2=m/\(y.1.2=true->∃i:Nat,y.1.1=i/\i<n/\∃r,m[i]? =some r/\tF r c≠0):=by
 have hl:=a.1;unfold kr;refine bg.bind (P:=λy=>y.2=true->∃i:Nat,y.1=i/\i<n/\∃r,m[i]? =some r/\tF r c≠0) ?_ (λy b=>bg.eq (AL Y) (.ret ⟨Y,b⟩));refine bg.loop (λs=>∃i:Nat,s=i) (λs=>n-s.toNat) ⟨p,Y⟩ ?_;rintro _ ⟨i,rfl⟩;refine bg.eq rfl<|bg.eq rfl<|bg.bif (λq=>?_) (λq=>.ret (λw=>by cases w));have q:i<n:=by rw[<-hl];simpa using q
 obtain⟨r,e,b⟩:=a.get q;obtain⟨x,d,f⟩:=b.at D H;refine bg.eq (bY ω)<|bg.eq e<|bg.eq (bu d) ?_;have b:=f.sign ω;rcases axY (tF r c) 0 with w|w|w<;>rw[w]at b
 ·exact bg.eq b ⟨.inr (i,true),rfl,λ_=>⟨i,rfl,q,r,e,λd=>by rw[d,tD]at w;cases w⟩⟩
 ·exact bg.eq b ⟨.inl (IntKind.i64.wrap ((i:Int)+1)),Y,⟨i+1,bC ω⟩,by rw[bC ω];omega⟩
 exact bg.eq b ⟨.inr (i,true),rfl,λ_=>⟨i,rfl,q,r,e,λd=>by rw[d,tD]at w;cases w⟩⟩
theorem agT{n L c:Nat}{m:List (List Qr)}(a:MX L n N m)(h1:1<=L)(hn:n<=1000)(hN:N<=1000)(hc:c<=N)(hh:hsz L c<=1000000):bg (iA m c) λy=>MX (hsz L c) n N y.2:=by
 have mono:∀k,k<=c->hsz L k<=hsz L c/\1<=hsz L k:=λk hk=>⟨CL L hk,Nat.le_trans h1 (CL L (Nat.zero_le k))⟩;unfold iA;refine bg.bind (P:=λy=>MX (hsz L c) n N y.2) ?_ (λy hy=>bg.eq (AL (by rw[hy.1,a.1])) (.ret hy));refine bg.cnt Prod.fst c (λk s=>MX (hsz L k) n N s.2.1/\s.2.2.length<=n) Y ⟨a,Nat.zero_le _⟩ ?_;rintro k ⟨_,m,pv⟩ hk rfl ⟨ha,hp⟩;dsimp only at ha hp⊢;obtain⟨hk1,Pp⟩:=mono k hk;refine bg.eq Y<|bg.bif (λq=>?_) (λq=>.inr (ha.mono hk1));have q:k<c:=by simpa using q
 obtain⟨hk3,_⟩:=mono (k+1) q;refine bg.eq Y<|bg.eq Y<|bg.eq Y<|bg.bif (λ_=>.inr (ha.mono hk1)) (λw=>?_);have T7:pv.length<n:=by
  have:=of_decide_eq_false w;have:=ha.1;omega
 refine bg.bind (Tt ha Pp ω hn (Nat.lt_of_lt_of_le q hc)) ?_;rintro⟨⟨pi,ps⟩,m2⟩ ⟨e2,hf⟩;dsimp only at e2 hf⊢;subst e2;refine bg.eq (AL Y)<|bg.eq Y<|bg.bif (λ_=>bg.eq Y<|.inl q (bC ω) ⟨ha.mono (Mx L k),hp⟩) (λw=>?_);obtain⟨i,rfl,hi,r,I3,Ij⟩:=hf (by simpa using w);refine bg.eq Y<|bg.bU (λm'=>MX (hsz L k) n N m'/\m'[pv.length]? =some r) (λK hK=>?_) ?_
 ·refine bg.bif (λw2=>?_) (λw2=>hK _ ⟨ha,?_⟩)
  ·obtain⟨r3,hr3,hr4⟩:=ha.get T7;have hl:=ha.1;refine bg.eq (bY ω)<|bg.eq hr3<|bg.eq (bY ω)<|bg.eq I3<|bg.eq (bY ω)<|bg.eq (cL ω)<|bg.eq (bY θ)<|bg.eq (cL θ)<|bg.eq Y<|hK _ ⟨(ha.set hr4).set ?_,nR θ⟩;exact ha.2 _ (List.mem_of_getElem? I3)
  have:i=pv.length:=by have:=of_decide_eq_false w2;omega
  rw[<-this];exact I3
 rintro m ⟨ha,hr⟩;have hrr:=ha.2 _ (List.mem_of_getElem? hr);obtain⟨x,e,t,s1,s2,s3,s4,s5⟩:=YV hrr Pp ω hN (Nat.lt_of_lt_of_le q hc) Ij;have hl:=ha.1;have c1:=bY (l:=m) (i:=pv.length) ω;refine bg.eq c1<|bg.eq hr<|bg.eq (bu s2)<|bg.eq Y<|bg.eq (cz (n:=1) ξ).1<|bg.eq c1<|bg.eq hr<|bg.eq (bu s2)<|bg.eq s1<|bg.eq c1<|bg.eq hr<|bg.eq s3<|bg.eq c1<|bg.eq (cL ω)<|bg.eq Y ?_;rw[List.length_set,hl];refine bg.bind (P:=λm'=>MX (hsz L (k+1)) n N m') (bg.cnt Prod.fst n (λi s=>s.2.length=n/\s.2[pv.length]? =some t/\∀j,j<n->∃r,s.2[j]? =some r/\Rw (if j<i then 2*hsz L k+1 else hsz L k) N r) Y ⟨by simp[hl],nR ω,λj hj=>(ha.set s4).get hj⟩ ?_) λm' hm'=>?_
 ·rintro i ⟨_,m'⟩ hi rfl ⟨b1,b2,b3⟩;dsimp only at b1 b2 b3⊢;refine bg.eq Y<|bg.bif (λw=>?_) (λw=>.inr ⟨b1,λr hr=>?_⟩)
  ·have w:i<n:=by simpa using w
   obtain⟨r',hr',agU⟩:=b3 i w;rw[if_neg (Nat.lt_irrefl i)]at agU;have next:∀u,Rw (2*hsz L k+1) N u->(i≠pv.length\/u=t)->(m'.set i u).length=n/\(m'.set i u)[pv.length]? =some t/\∀j,j<n->∃r,(m'.set i u)[j]? =some r/\Rw (if j<i+1 then 2*hsz L k+1 else hsz L k) N r:=λu hu hne=>by
    refine⟨by simp[b1],?_,λj hj=>?_⟩
    ·by_cases z:i=pv.length
     ·rw[z,nR ω,hne.resolve_left (λw=>w z)]
     rw[List.getElem?_set_ne z];exact b2
    by_cases z:i=j
    ·rw[z,nR ω,if_pos ω];exact⟨u,Y,hu⟩
    obtain⟨r3,z1,z2⟩:=b3 j hj;rw[List.getElem?_set_ne z];exact⟨r3,z1,by by_cases z3:j<i<;>simp[z3,show(j<i+1)=(j<i) by simp;omega]at z2⊢ <;>exact z2⟩
   obtain⟨y,Wf,hy2⟩:=agU.at Pp (Nat.lt_of_lt_of_le q hc);have same:m'.set i r'=m':=by
    apply List.ext_getElem?;intro j;by_cases z:i=j
    ·rw[z,nR ω,<-z,hr']
    rw[List.getElem?_set_ne z]
   refine bg.eq (bY ω)<|bg.eq hr'<|bg.bU (λb=>b=true->i≠pv.length) (λK hK=>?_) λb hb=>bg.bU (λm3=>∃u,Rw (2*hsz L k+1) N u/\(i≠pv.length\/u=t)/\m3=m'.set i u) (λK hK=>?_) ?_
   ·refine bg.eq rfl<|bg.bind (P:=λb=>b=true->i≠pv.length) (bg.bif (λw2=>bg.eq (bu Wf)<|bg.eq (hy2.sign ω)<|bg.eq rfl<|.ret λ_=>by have:=of_decide_eq_true w2;omega) (λ_=>.ret λz=>by cases z)) λb hb=>hK b hb
   ·refine bg.bif (λw2=>?_) (λw2=>hK _ ⟨r',agU.mono ω,?_,same.symm⟩)
    ·obtain⟨x1,x2,x3,y1,y2,y3,y4⟩:=agR hrr agU Pp ω hN (Nat.lt_of_lt_of_le q hc) Ij s4 s5;refine bg.eq (bu y1)<|bg.eq y2<|bg.eq (bY ω)<|bg.eq b2<|bg.eq y3<|bg.eq (bY ω)<|bg.eq (cL ω)<|hK _ ⟨x3,y4,.inl (hb w2),Y⟩
    by_cases z:i=pv.length
    ·right;rw[z,b2]at hr';exact(aob hr').symm
    exact .inl z
   rintro _ ⟨u,u1,u2,rfl⟩;exact bg.eq Y<|.inl w (bC ω) (next u u1 u2)
  have w:i=n:=by have:=of_decide_eq_false w;omega
  obtain⟨j,hj,rfl⟩:=List.getElem_of_mem hr;obtain⟨r3,z1,z2⟩:=b3 j ω;rw[if_pos ω]at z2;rw[List.getElem?_eq_getElem hj]at z1;rw[aob z1];exact z2
 refine bg.eq (ru ξ ω)<|bg.eq Y<|.inl q (bC ω) ⟨hm',?_⟩;simp;omega
theorem QX{i:Nat}{m:List (List Qr)}(H:∀r∈m,Rw h N r)(D:1<=h)(M:Nat):(∀k,N<=k->sF m i k=0)/\Gd h M (sF m i):=by
 rcases Nat.lt_or_ge i m.length with q|q
 ·have e:m.getD i []=m[i]:=by simp[q]
  obtain⟨f,b,z,d,c,j,g⟩:=H _ (List.getElem_mem q);have a:∀k,sF m i k=f k:=λk=>by
   unfold sF;rw[e,b];rcases Nat.lt_or_ge k N with w|w
   ·exact og w
   rw[z k w];simp[tF,Tn,vq,w];decide
  refine⟨λk b=>by rw[a,z k b],d,c,j,λk _=>?_⟩;rw[a];rcases Nat.lt_or_ge k N with w|w
  ·exact g k (Nat.le_of_lt w)
  rw[z k w];exact⟨0,by rw[Rat.zero_mul];rfl,Nat.pow_pos ξ⟩
 have a:sF m i=λ_=>0:=funext λk=>by simp[sF,tF,Tn,q];decide
 rw[a];exact⟨λ_ _=>Y,Gd.zero h M D⟩
theorem V0{n i:Nat}(D:i<n):(List.replicate n qz).set i (qn 1)=vq n (dl i):=by
 apply List.ext_getElem (by simp[vq]);intro j a a;rw[Kf a,List.getElem_set];unfold dl;by_cases e:i=j
 ·simp[e]
 simp[e,agK]
theorem inv_eq{n L:Nat}{m:List (List Qr)}(a:MX L n n m)(D:1<=L)(I:n<=100)(H:hsz L n<=1000000):bg (jK m) λy=>y.2=0->∃d,d<=n/\∀r∈y.1,Rw (hsz L n) d r:=by
 have b:L<=1000000:=Nat.le_trans (CL L (Nat.zero_le n)) H;unfold jK;obtain⟨c,h,k,rfl,o,b⟩:=Gy (m:=m) (n:=n) (λr hr=>by rw[(a.2 r hr).len];exact Nat.le_refl n) ω (by rw[a.1];omega);refine bg.eq rfl<|bg.eq h<|bg.eq rfl<|bg.bif (λ_=>.ret (λe=>by cases e)) (λw=>?_);obtain rfl:n=k:=by have:=of_decide_eq_false w;have:=a.1;omega
 rw[a.1];refine bg.eq (fE ω ω)<|bg.eq Y ?_;rw[List.length_replicate];refine bg.eq (zF (λi=>vq n (dl i)) (λi l b hl _=>?_) (λl hl=>by simp)) ?_
 ·have o:i<l.length:=by omega
  refine az Y<|cm (decide_eq_true ω)<|az (AK (List.getElem?_eq_getElem o))<|az (fE ω ω)<|az (AK (nR o))<|az (cz (n:=1) ξ).1<|az (bY (by simpa using b))<|az (cL (by simpa using b))<|az Y (lF (bC ω) ?_);rw[List.set_set,<-V0 b];rfl
 have p:Gm L ((List.range n).map λi=>vq n (dl i)):=VZ (g:=dl) (λi k _ _=>by unfold dl;split;exact cz (n:=1) ξ|>.2.fq |> λq=>⟨vz D,vz D⟩;exact qq D) D;have u:Gm L m:=λr hr=>(a.2 r hr).gv D;obtain⟨c,t,k,rfl,x,o⟩:=Gy (m:=(List.range n).map λi=>vq n (dl i)) (n:=n) (λr hr=>by obtain⟨i,_,rfl⟩:=List.mem_map.1 hr;rw[b9];exact Nat.le_refl n) ω θ;refine bg.eq (O3 u p D ω a.1 η ω h t ω) ?_;have p:MX L n (n+k) ((List.range n).map λi=>vq (n+k) λj=>if j<n then sF m i j else sF ((List.range n).map λi=>vq n (dl i)) i (j-n)):=by
  refine⟨by simp,λr hr=>?_⟩;obtain⟨i,b,rfl⟩:=List.mem_map.1 hr;have b:i<n:=List.mem_range.1 b;have h:n<=k:=by have:=o (vq n (dl i)) (List.mem_map.2 ⟨i,List.mem_range.2 b,Y⟩);rw[b9]at this;exact this
  have h:∀j,n<=j->sF ((List.range n).map λi=>vq n (dl i)) i j=0:=λj hj=>by simp[sF,b,tF,Tn,vq,hj];decide
  obtain⟨_,d,t,o,u⟩:=QX (i:=i) a.2 D (n+k);refine⟨_,Y,λj hj=>by rw[if_neg ω];exact h _ ω,d,t,o,λj hj=>?_⟩;dsimp only;by_cases w:j<n
  ·rw[if_pos w];exact u j hj
  rw[if_neg w];rcases Nat.lt_or_ge (j-n) n with q|q
  ·rw[Ts b q];unfold dl;split
   ·exact⟨d,by rw[Rat.one_mul],by simpa using o⟩
   exact⟨0,by rw[Rat.zero_mul];rfl,Nat.pow_pos ξ⟩
  rw[h _ q];exact⟨0,by rw[Rat.zero_mul];rfl,Nat.pow_pos ξ⟩
 refine bg.bind (agT p D ω ω ω H) ?_;rintro⟨p,h⟩ h;dsimp only at h⊢;refine bg.eq (AL (by rw[h.1];simp))<|bg.eq rfl<|bg.eq rfl<|bg.bif (λ_=>.ret (λe=>by cases e)) (λ_=>bg.eq rfl ?_);refine bg.bind (P:=λp=>∀r∈p,Rw (hsz L n) k r) (bg.cnt Prod.fst n (λi s=>s.2.length=n/\∀j,j<n->∃r,s.2[j]? =some r/\Rw (hsz L n) (if j<i then k else n+k) r) Y ⟨h.1,λj hj=>h.get hj⟩ ?_) λp v=>.ret λ_=>⟨k,x,v⟩;rintro i ⟨_,p⟩ b rfl ⟨v,p⟩;dsimp only at v p⊢;rw[h.1];refine bg.eq Y<|bg.bif (λw=>?_) (λw=>.inr (λr hr=>?_))
 ·have w:i<n:=by simpa using w
  obtain⟨r,hr,f,b⟩:=p i w;rw[if_neg (Nat.lt_irrefl i)]at b;obtain⟨rfl,h,d,t,o,u⟩:=b;refine bg.eq (bY ω)<|bg.eq hr<|bg.eq (Mn (by rw[b9];omega) (Nat.le_refl _))<|bg.eq (bY ω)<|bg.eq (cL ω)<|bg.eq Y<|.inl w (bC ω) ⟨by simp[v],λj hj=>?_⟩;by_cases z:i=j
  ·rw[z,nR ω,if_pos ω];refine⟨_,Y,λj=>f (n+j),?_,λj hj=>h _ ω,d,t,o,λj hj=>u _ ω⟩;apply List.ext_getElem?;intro j;rcases Nat.lt_or_ge j k with q|q
   ·rw[fU q];simp[cut,vq,q,List.getElem?_take,List.getElem?_drop,show n+j<n+k by omega]
   simp[cut,vq,q]
  obtain⟨o,h,b⟩:=p j hj;refine⟨o,by rw[List.getElem?_set_ne z];exact h,?_⟩;by_cases z3:j<i<;>simp[z3,show(j<i+1)=(j<i) by simp;omega]at b⊢ <;>exact b
 have w:i=n:=by have:=of_decide_eq_false w;omega
 obtain⟨j,hj,rfl⟩:=List.getElem_of_mem hr;obtain⟨o,h,b⟩:=p j ω;rw[if_pos ω]at b;rw[List.getElem?_eq_getElem hj]at h;rw[aob h];exact b
end elim
end
end Go.Proofs.YtianbhacbgnboaaGreat
