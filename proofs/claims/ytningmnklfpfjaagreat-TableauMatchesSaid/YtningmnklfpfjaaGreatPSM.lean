/- The law TableauMatches answers true for every input. -/
import Derived.Test.YtningmnklfpfjaaGreatPSM5
set_option linter.unusedVariables false
set_option linter.unusedSimpArgs false
set_option linter.unusedSectionVars false
namespace Go.Proofs.YtningmnklfpfjaaGreat
section
open Go.Fw
theorem SB{S E R:Type}{body:S->Option (S⊕E)}{s:S}{f:E->Option R}{Q:R->Prop}(st:Nat->S)(n:Nat)(e:E)(h0:s=st 0)(hs:∀k,k<n->body (st k)=some (.inl (st (k+1))))(he:body (st n)=some (.inr e))(hf:∃r,f e=some r/\Q r):∃r,(b9 body s).bind f=some r/\Q r:=by
 obtain⟨r,h1,h2⟩:=hf;exact⟨r,bG st n e h0 hs he h1,h2⟩
theorem exF{β:Type}{b:Bool}{x y:Option β}{Q:β->Prop}(hb:b=false)(h:∃r,y=some r/\Q r):∃r,(bif b then x else y)=some r/\Q r:=by rw[hb];exact h
theorem Ma{m w i:Nat}{F:Nat->Nat->Rat}{f:Nat->Rat}(hi:i<m):(mq m (λ_=>w) F).set i (vq w f)=mq m (λ_=>w) (λj=>if j=i then f else F j):=by
 apply List.ext_getElem?;intro j;rw[List.getElem?_set,cK];by_cases hj:j<m
 ·rw[fD hj,fD hj];by_cases e:i=j
  ·rw[if_pos e,if_pos hi,if_pos e.symm]
  rw[if_neg e,if_neg (λq=>e q.symm)]
 rw[List.getElem?_eq_none (l:=mq m _ _) (by rw[cK];omega),List.getElem?_eq_none (l:=mq m _ _) (by rw[cK];omega),if_neg (by omega)]
theorem rby{K L:Nat}{a b:Qr}{x y:Rat}(ha:kp K a x)(hb:kp L b y)(h:K+L<=4000000000)(h0:y≠0):wX a b=some (qn (x/y)):=by
 have e:=ha.ar9 hb h h0;unfold wX;obtain⟨⟨_,_⟩,⟨_,_⟩⟩:=a;obtain⟨⟨_,_⟩,⟨_,_⟩⟩:=b;generalize qn (x/y)=q at*;obtain⟨⟨_,_⟩,⟨_,_⟩⟩:=q;exact aB e Y
theorem T5{L r w:Nat}{rows:List (List Qr)}{A:Nat->Nat->Rat}(h:kg L rows A)(hr:rows.length=r)(hc:qF rows=w)(hr8:r<=100)(hw:w<=100)(hL:CH L (r+1)<=100000000):
  ∃res,jV rows=some res/\∃d H pv,res=(mq d (λ_=>w) H,bq d pv)/\Dz L r w A d w H pv:=by
 have L1:=h.l1;have sz:∀d,d<=r->CH L d<=100000000:=λd hd=>Nat.le_trans (F0 L (show d<=r+1 by omega)) hL;have LL:L<=100000000:=sz 0 (by omega);have ft:=alq h (by omega) (a:=r) (b:=w) (by omega) (by omega);rw[<-abU]at ft;have az:∀i,i<r->∀l,w<=l->A i l=0:=λi hi l hl=>(h.row i).z l (by
  have:=xe.1 (Nat.le_of_eq hc) (rows.getD i []) (List.mem_of_getElem? (gW (d:=[]) (by omega)));omega)
 have rc:=xg rows (by omega);rw[hc]at rc;unfold jV;refine DB rc<|DB (congrArg some (show(rows.length:Int)=(r:Int) by rw[hr]))<|DB ft ?_;refine BM (λs=>∃(d k:Nat) (H:Nat->Nat->Rat) (pv:Nat->Nat),s=((d:Int),(k:Int),mq r (λ_=>w) H,bq d pv)/\k<=w/\Dz L r w A d k H pv) (λe=>∃(d:Nat) (H:Nat->Nat->Rat) (pv:Nat->Nat),e=((d:Int),mq r (λ_=>w) H,bq d pv)/\Dz L r w A d w H pv) (λs=>w-s.2.1.toNat) ?_ ⟨0,0,A,λ_=>0,Y,Nat.zero_le _,Nat.zero_le _,λi _ l=>(h.row i).fq l,az,λs hs=>by omega,λs hs=>by omega,λs hs=>by omega,λ_ _ _ l hl=>by omega,λ_=>Iff.rfl,λs t _ ht=>by omega⟩ ?_
 ·rintro _ ⟨d,k,H,pv,rfl,hk,inv⟩;by_cases hlt:k<w
  ·have QD:=cK r (λ_=>w) H;refine DB (dT (by omega))<|exT Y ?_;refine BM (λy=>∃t:Nat,y=(t:Int)/\d<=t/\t<=r/\∀q,d<=q->q<t->H q k=0) (λy=>∃t:Nat,y=(t:Int)/\d<=t/\t<=r/\(∀q,d<=q->q<t->H q k=0)/\(t<r->H t k≠0)) (λy=>r-y.toNat) ?_ ⟨d,Y,Nat.le_refl _,inv.hd,λq h1 h2=>by omega⟩ ?_
   ·rintro _ ⟨t,rfl,h1,h2,h3⟩;by_cases ht:t<r
    ·have g1:(mq r (λ_=>w) H)[t]? =some (vq w (H t)):=fD ht;have g2:(vq w (H t))[k]? =some (qn (H t k)):=ju hlt;have sg:=((inv.f t ht k).rep (ER L1 d)).Qo (by have:=sz d inv.hd;omega);have zz:pg (H t k) 0=0↔H t k=0:=nk;generalize mq r (λ_=>w) H=R at*;generalize qn (H t k)=q at*;obtain⟨⟨_,_⟩,⟨_,_⟩⟩:=q;by_cases e:H t k=0
     ·exact⟨_,bW<|aB Y<|aB (dT (by omega))<|aB (a:=true) (bN Y<|aB (cE (by omega))<|aB g1<|aB (bC g2)<|aB sg<|aB (dT (zz.2 e)) Y)<|bN Y<|aB (congrArg some (bM (by omega))) Y,.inl ⟨_,Y,⟨t+1,Y,by omega,by omega,λq q1 q2=>by
       by_cases w2:q=t
       ·rw[w2];exact e
       exact h3 q q1 (by omega)⟩,by simp only[Int.toNat_natCast];omega⟩⟩
     exact⟨_,bW<|aB Y<|aB (dT (by omega))<|aB (a:=false) (bN Y<|aB (cE (by omega))<|aB g1<|aB (bC g2)<|aB sg<|aB (dF (λw=>e (zz.1 w))) Y)<|bA Y Y,.inr ⟨_,Y,t,Y,h1,h2,h3,λ_=>e⟩⟩
    exact⟨_,bW<|aB Y<|aB (dF (by omega))<|aB (a:=false) (bA Y Y)<|bA Y Y,.inr ⟨_,Y,t,Y,h1,h2,h3,λw=>by omega⟩⟩
   rintro _ ⟨t,rfl,h1,h2,h3,h4⟩;by_cases ht:t<r
   ·have h0:=h4 ht;have sY:d<r:=by omega
    have st:=inv.step h1 ht h0;have s0:sp d t d=t:=by unfold sp;rw[if_pos rfl]
    have szd:=sz d inv.hd;have g1:(mq r (λ_=>w) H)[t]? =some (vq w (H t)):=fD ht;have g2:(mq r (λ_=>w) H)[d]? =some (vq w (H d)):=fD sY;have esw:=alo (w:=w) (F:=H) sY ht;obtain⟨F,hF⟩:∃F:Nat->Nat->Rat,F=λs=>H (sp d t s):=⟨_,Y⟩;rw[<-hF]at st esw;have fF:∀i,i<r->∀l,FQ (CH L d) (F i l):=λi hi l=>by rw[hF];exact inv.f _ (Gz sY ht hi) l
    have zF:∀i,i<r->∀l,w<=l->F i l=0:=λi hi l hl=>by rw[hF];exact inv.z _ (Gz sY ht hi) l hl
    have n0:F d k≠0:=by rw[hF];show H (sp d t d) k≠0;rw[s0];exact h0
    have alr:∀i,i<r->eP (CH L d) (vq w (F i)) (F i):=λi hi=>qe (λl _=>fF i hi l) (zF i hi) (ER L1 d);have one:=EN (n:=1) (by decide);have r1:kp 2 (qn ((1:Int):Rat)) ((1:Int):Rat):=(kR (by decide)).2;have rx:=(fF d sY k).rep (ER L1 d);have eby:=rby r1 rx (by omega) n0;have rinv:kp (CH L d+CH L d+2) (qn (((1:Int):Rat)/F d k)) (((1:Int):Rat)/F d k):=((((kR (n:=1) (by decide)).2.fq).div (fF d sY k) n0).mono (by have:=ER L1 d;omega)).rep (by omega);have esc:=Su rinv (alr d sY) (by omega) (by rw[bZ];omega);have o1:∀x:Rat,(((1:Int):Rat))/F d k*x=x/F d k:=λx=>by
     have:(((1:Int):Rat))=1:=by decide
     rw[this,Rat.div_def,Rat.div_def];grind
    have e6:vq w (λl=>((1:Int):Rat)/F d k*F d l)=vq w (jX F d k d):=dI (λl _=>by unfold jX;rw[if_pos rfl];exact o1 _);rw[bZ,e6]at esc;have gd:(mq r (λ_=>w) F)[d]? =some (vq w (F d)):=fD sY;have gx:(vq w (F d))[k]? =some (qn (F d k)):=ju hlt;have asi:=Ma (w:=w) (F:=F) (f:=jX F d k d) sY;have fl:=cK r (λ_=>w) F;have apk:mQ 8 (bq d pv) [(k:Int)]=some (bq (d+1) (λs=>if s=d then k else pv s)):=by
     rw[nq (by decide) (by rw[rY];omega),NS,if_pos rfl];congr 2;unfold bq;exact List.map_congr_left (λs hs=>by
      have:=List.mem_range.1 hs;show((pv s:Nat):Int)=((if s=d then k else pv s:Nat):Int);rw[if_neg (by omega)])
    generalize qn ((1:Int):Rat)=q1 at*;generalize qn (((1:Int):Rat)/F d k)=q2 at*;obtain⟨⟨_,_⟩,⟨_,_⟩⟩:=q1;obtain⟨⟨_,_⟩,⟨_,_⟩⟩:=q2;generalize hq3:qn (F d k)=q3 at*;obtain⟨⟨_,_⟩,⟨_,_⟩⟩:=q3;refine DB Y<|DB (dF (by omega))<|exF Y<|DB (cE (by omega))<|DB g1<|DB (cE (by omega))<|DB g2<|DB (cE (by omega))<|DB (fz (by omega))<|DB (cE (by rw[List.length_set];omega))<|DB (fz (by rw[List.length_set];omega)) ?_;rw[esw];refine DB one<|DB (cE (by omega))<|DB gd<|DB (bC gx)<|DB eby<|DB (cE (by omega))<|DB gd<|DB esc<|DB (cE (by omega))<|DB (fz (by omega)) ?_;rw[asi];refine SB (λi=>((i:Int),mq r (λ_=>w) (λj=>if j=d\/j<i then jX F d k j else F j))) r (mq r (λ_=>w) (jX F d k)) ?_ (λi hi=>?_) ?_ ?_
    ·congr 1;refine jh (λj _=>⟨Y,λl _=>?_⟩);by_cases e:j=d
     ·rw[if_pos e,if_pos (.inl e),e]
     rw[if_neg e,if_neg (by omega)]
    ·have ln:=cK r (λ_=>w) (λj=>if j=d\/j<i then jX F d k j else F j);by_cases e:i=d
     ·have same:mq r (λ_=>w) (λj=>if j=d\/j<i then jX F d k j else F j)=mq r (λ_=>w) (λj=>if j=d\/j<i+1 then jX F d k j else F j):=jh (λj _=>⟨Y,λl _=>by
       by_cases c:j=d\/j<i
       ·rw[if_pos c,if_pos (by omega)]
       rw[if_neg c,if_neg (by omega)]⟩)
      rw[<-same];exact aB (congrArg some (show((mq r (λ_=>w) (λj=>if j=d\/j<i then jX F d k j else F j)).length:Int)=(r:Int) by rw[ln]))<|aB (dT (by omega))<|bN Y<|aB (dF (by omega))<|bW<|bA Y<|aB (congrArg some (bM (by omega))) Y
     have gi:(mq r (λ_=>w) (λj=>if j=d\/j<i then jX F d k j else F j))[i]? =some (vq w (F i)):=by rw[fD hi,if_neg (by omega)]
     have gd2:(mq r (λ_=>w) (λj=>if j=d\/j<i then jX F d k j else F j))[d]? =some (vq w (jX F d k d)):=by rw[fD sY,if_pos (.inl Y)]
     have gk:(vq w (F i))[k]? =some (qn (F i k)):=ju hlt;have ri:=(fF i hi k).rep (ER L1 d);have ng:=ri.ahu (by omega);have rn:kp (CH L d) (qn (-F i k)) (-F i k):=(ri.neg (by omega)).2;have rpd:eP (4*CH L d+1) (vq w (jX F d k d)) (jX F d k d):=qe (λl _=>st.f d sY l) (st.z d sY) (by omega);have cb:=TW rn rpd (alr i hi) (by omega) (by rw[bZ];omega) (by rw[bZ];omega);have e7:vq w (λl=>-F i k*jX F d k d l+F i l)=vq w (jX F d k i):=dI (λl _=>by unfold jX;rw[if_pos Y,if_neg e];grind);rw[bZ,bZ,Nat.max_self,e7]at cb;have es:=Ma (w:=w) (F:=λj=>if j=d\/j<i then jX F d k j else F j) (f:=jX F d k i) hi;have es2:mq r (λ_=>w) (λj=>if j=i then jX F d k i else(λj=>if j=d\/j<i then jX F d k j else F j) j)=mq r (λ_=>w) (λj=>if j=d\/j<i+1 then jX F d k j else F j):=jh (λj _=>⟨Y,λl _=>by
      show(if j=i then jX F d k i else if j=d\/j<i then jX F d k j else F j) l=(if j=d\/j<i+1 then jX F d k j else F j) l;by_cases c:j=i
      ·rw[if_pos c,if_pos (by omega),c]
      rw[if_neg c];by_cases c2:j=d\/j<i
      ·rw[if_pos c2,if_pos (by omega)]
      rw[if_neg c2,if_neg (by omega)]⟩)
     rw[es2]at es;rw[<-es];generalize mq r (λ_=>w) (λj=>if j=d\/j<i then jX F d k j else F j)=W at*;generalize qn (F i k)=q4 at*;generalize qn (-F i k)=q5 at*;obtain⟨⟨_,_⟩,⟨_,_⟩⟩:=q4;obtain⟨⟨_,_⟩,⟨_,_⟩⟩:=q5;exact aB Y<|aB (dT (by omega))<|bN Y<|aB (dT (by omega))<|bW<|bN Y<|aB (cE (by omega))<|aB gi<|aB (bC gk)<|aB ng<|aB (cE (by omega))<|aB gd2<|aB (cE (by omega))<|aB gi<|aB cb<|aB (cE (by omega))<|aB (fz (by omega))<|aB (congrArg some (bM (by omega))) Y
    ·have ln:=cK r (λ_=>w) (λj=>if j=d\/j<r then jX F d k j else F j);have all:mq r (λ_=>w) (λj=>if j=d\/j<r then jX F d k j else F j)=mq r (λ_=>w) (jX F d k):=jh (λj hj=>⟨Y,λl _=>by rw[if_pos (.inr hj)]⟩);rw[<-all];exact aB (congrArg some (show((mq r (λ_=>w) (λj=>if j=d\/j<r then jX F d k j else F j)).length:Int)=(r:Int) by rw[ln]))<|aB (dF (by omega))<|bA Y Y
    exact⟨_,aB apk<|aB (congrArg some (bM (by omega)))<|aB (congrArg some (bM (by omega))) Y,.inl ⟨_,Y,⟨d+1,k+1,_,_,Y,by omega,st⟩,by simp only[Int.toNat_natCast];omega⟩⟩
   obtain rfl:t=r:=by omega
   exact⟨_,aB (congrArg some (show((mq t (λ_=>w) H).length:Int)=(t:Int) by rw[QD]))<|aB (dT Y)<|bN Y<|aB (congrArg some (bM (by omega))) Y,.inl ⟨_,Y,⟨d,k+1,H,pv,Y,by omega,inv.skip h3⟩,by simp only[Int.toNat_natCast];omega⟩⟩
  obtain rfl:k=w:=by omega
  exact⟨_,aB (dF (by omega))<|bA Y Y,.inr ⟨_,Y,d,H,pv,Y,inv⟩⟩
 rintro _ ⟨d,H,pv,rfl,inv⟩;refine⟨_,aB (y4 (by rw[cK];exact inv.hd)) Y,d,H,pv,?_,inv⟩;rw[show(mq r (λ_=>w) H).take d=mq d (λ_=>w) H by unfold mq;rw[<-List.map_take,List.take_range,Nat.min_eq_left inv.hd]]
end
section
open Go.Fw
theorem rin{d:Nat}{pv:Nat->Nat}(k:Nat)(hd:d<=1000000):sO (bq d pv) (k:Int)=some (decide (∃s,s<d/\pv s=k)):=by
 unfold sO;have ln:=rY d pv;refine aB (a:=if ∀s,s<d->pv s≠k then .inl ()else .inr true) (sS (n:=d) (p:=λs=>pv s≠k) (e:=true) (λs hs=>?_) (aB (congrArg some (show((bq d pv).length:Int)=(d:Int) by rw[ln]))<|aB (dF (by omega))<|bA Y Y)) ?_
 ·have g:(bq d pv)[s]? =some ((pv s:Nat):Int):=sV hs;generalize bq d pv=B at*;refine aB Y<|aB (dT (by omega))<|bN Y<|aB (bC g)<|aB Y ?_;by_cases q:pv s=k
  ·rw[if_neg (λe=>e q)];exact bN (decide_eq_true (by omega)) Y
  rw[if_pos q];exact bA (decide_eq_false (by omega))<|aB (congrArg some (bM (by omega))) Y
 by_cases q:∀s,s<d->pv s≠k
 ·rw[if_pos q];exact congrArg some (decide_eq_false (λ⟨s,h1,h2⟩=>q s h1 h2)).symm
 rw[if_neg q];have:∃s,s<d/\pv s=k:=Classical.byContradiction (λw=>q (λs h1 h2=>w ⟨s,h1,h2⟩));exact congrArg some (decide_eq_true this).symm
def wide(w:Nat)(A:Nat->Nat->Rat)(y:Nat->Rat)(i l:Nat):Rat:=if l<w then A i l else if l=w then y i else 0
theorem als{L M r w:Nat}{rows:List (List Qr)}{b:List Qr}{A:Nat->Nat->Rat}{y:Nat->Rat}(h:kg L rows A)(hb:eP M b y)(hL:L<=1000000000)(hr:rows.length=r)(Oh:b.length=r)(hc:qF rows=w)(hr8:r<=1000)(hw:w<=1000)(hcan:∀i,b.getD i (⟨⟨false,[]⟩,⟨false,[]⟩⟩:Qr)=qn (y i)):
  rO rows b=some (mq r (λ_=>w+1) (wide w A y)):=by
 have rc:=xg rows (by omega);rw[hc]at rc;unfold rO;refine aB rc ?_;refine bG (λi=>((i:Int),mq i (λ_=>w+1) (wide w A y))) r (mq r (λ_=>w+1) (wide w A y)) Y (λi hi=>?_) ?_ Y
 ·refine bW<|aB (congrArg some (show(rows.length:Int)=(r:Int) by rw[hr]))<|aB (dT (by omega))<|aB (a:=true) (bN Y Y)<|bN Y ?_;refine bG (λj=>((j:Int),vq j (wide w A y i))) w (vq w (wide w A y i)) Y (λj hj=>?_) (aB (dF (by omega))<|bA Y Y) ?_
  ·have e1:=NV h (by omega) i j;have e0:wide w A y i j=A i j:=if_pos hj;have e2:mQ 64 (vq j (wide w A y i)) [qn (A i j)]=some (vq (j+1) (wide w A y i)):=by rw[nq (by decide) (by rw[bZ];omega),mO,e0]
   generalize qn (A i j)=q at*;exact aB (dT (by omega))<|bN Y<|aB e1<|aB e2<|aB (congrArg some (bM (by omega))) Y
  have e1:=BK b i;rw[hcan i]at e1;have e0:wide w A y i w=y i:=by unfold wide;rw[if_neg (by omega),if_pos rfl]
  have e2:mQ 64 (vq w (wide w A y i)) [qn (y i)]=some (vq (w+1) (wide w A y i)):=by rw[nq (by decide) (by rw[bZ];omega),mO,e0]
  have e3:mQ 24 (mq i (λ_=>w+1) (wide w A y)) [vq (w+1) (wide w A y i)]=some (mq (i+1) (λ_=>w+1) (wide w A y)):=by rw[nq (by decide) (by rw[cK];omega),tD]
  generalize qn (y i)=q at*;exact aB e1<|aB e2<|aB e3<|aB (congrArg some (bM (by omega))) Y
 exact bW<|aB (congrArg some (show(rows.length:Int)=(r:Int) by rw[hr]))<|aB (dF (by omega))<|aB (a:=false) (bA Y<|aB (congrArg some (show(b.length:Int)=(r:Int) by rw[Oh]))<|aB (dF (by omega)) Y)<|bA Y Y
end
section
open Go.Fw
theorem Zi{d w:Nat}{pv:Nat->Nat}(hb:∀j,j<d->pv j<w)(f h:Nat->Rat):cw (λl=>f l*cw (λj=>if pv j=l then h j else 0) d) w=cw (λj=>f (pv j)*h j) d:=by
 rw[show(λl=>f l*cw (λj=>if pv j=l then h j else 0) d)=λl=>cw (λj=>f l*(if pv j=l then h j else 0)) d from funext λl=>(pz _ _ _).symm,zj];refine c7 (λj hj=>?_);rw[gQ (hb j hj) (λi _ hne=>by rw[if_neg (λq=>hne q.symm)];grind),if_pos rfl]
def Vp(m r w:Nat)(A:Nat->Nat->Rat):Prop:=∀z:Nat->Rat,(∀l,m<=l->z l=0)->Nul r w A z->∀l,l<m->z l=0
section inv
variable {L r w d m:Nat}{A H:Nat->Nat->Rat}{pv:Nat->Nat}
theorem Dz.Zj(inv:Dz L r w A d w H pv)(hm:m<=w)(ind:Vp m r w A){k:Nat}(hk:k<m):∃s,s<d/\pv s=k:=by
 refine Classical.byContradiction (λno=>?_);have np:∀s,s<d->pv s≠k:=λs h1 h2=>no ⟨s,h1,h2⟩;have hz:∀s,s<d->k<pv s->H s k=0:=λs hs h=>inv.el s hs k h;have z0:=ind (λl=>(if l=k then 1 else 0)-cw (λs=>if pv s=l then H s k else 0) d) (λl hl=>by
  show(if l=k then(1:Rat)else 0)-_=0;rw[if_neg (by omega),c7 (k:=λ_=>0) (λs hs=>?_),qD]
  ·grind
  by_cases e:pv s=l
  ·rw[if_pos e];exact hz s hs (by omega)
  rw[if_neg e]) ((inv.ho _).1 (λi hi=>?_)) k hk
 ·replace z0:(if k=k then(1:Rat)else 0)-cw (λs=>if pv s=k then H s k else 0) d=0:=z0;rw[if_pos Y,c7 (k:=λ_=>0) (λs hs=>if_neg (np s hs)),qD]at z0;exact absurd (show(1:Rat)=0 by grind) (by decide)
 have hkw:k<w:=by omega
 have e1:H i k=cw (λl=>H i l*(if l=k then 1 else 0)) w:=by
  rw[gQ hkw (λl _ hne=>by rw[if_neg hne];grind),if_pos rfl];grind
 rw[c7 (h:=λl=>H i l*((if l=k then 1 else 0)-cw (λs=>if pv s=l then H s k else 0) d)) (k:=λl=>H i l*(if l=k then 1 else 0)-H i l*cw (λs=>if pv s=l then H s k else 0) d) (λl _=>by grind),BJ,<-e1,Zi inv.pl (λl=>H i l) (λs=>H s k)];by_cases e:i<d
 ·rw[gQ e (λs hs hne=>by rw[inv.pu s hs i hi,if_neg (λq=>hne q.symm)];grind),inv.pu i e i hi,if_pos rfl];grind
 rw[inv.ez i (by omega) hi k hkw,c7 (k:=λ_=>0) (λs hs=>by rw[inv.pu s hs i hi,if_neg (by omega)];grind),qD];grind
end inv
end
section
open Go.Fw
theorem T6(j:Nat)(n:Int):((bif decide ((j:Int)<n)then(some (decide ((j:Int)<65536))).bind λc8=>some c8 else some false):Option Bool)=some (decide (j<(min n 65536).toNat)):=by
 by_cases h:(j:Int)<n
 ·rw[decide_eq_true h,gS,cc];by_cases h':(j:Int)<65536
  ·rw[decide_eq_true h',decide_eq_true (by omega)]
  rw[decide_eq_false h',decide_eq_false (by omega)]
 rw[decide_eq_false h,iz,decide_eq_false (by omega)]
section ops
variable {K L M:Nat}{c:Qr}{a b:List Qr}{k:Rat}{f g:Nat->Rat}
theorem Zk(ha:eP L a f)(hb:eP M b g)(h:(a.length+2)*(L+M+1)<=4000000000)(la:a.length<=1000000):qy a b=some (qn (cw (λi=>f i*g i) (min a.length b.length))):=by
 have hs:∀n,FQ (n*(L+M+1)+1) (cw (λi=>f i*g i) n):=λn=>NL (λi _=>(ha.fq i).mul (hb.fq i));rw[<-YQ (h:=λi=>f i*g i) (n:=min a.length b.length) (m:=a.length) (by omega) (λi h1 h2=>by show f i*g i=0;rw[hb.z i (by omega)];grind)];have hm:∀n:Nat,n<=a.length->n*(L+M+1)<=a.length*(L+M+1):=λn hn=>Nat.mul_le_mul_right _ hn;rw[Nat.add_mul]at h;unfold qy;refine bG (λj=>((j:Int),(qn (cw (λi=>f i*g i) j)).num.neg,(qn (cw (λi=>f i*g i) j)).num.w,(qn (cw (λi=>f i*g i) j)).den.neg,(qn (cw (λi=>f i*g i) j)).den.w)) a.length
  ((qn (cw (λi=>f i*g i) a.length)).num.neg,(qn (cw (λi=>f i*g i) a.length)).num.w,(qn (cw (λi=>f i*g i) a.length)).den.neg,(qn (cw (λi=>f i*g i) a.length)).den.w) Y (λj hj=>?_) ?_ Y
 ·have hmj:=hm j (by omega);obtain⟨q1,hq1,rq1⟩:=ha.get hj;have a2:=BK b j;have e1:=rq1.YU (hb.gd j) (by omega);have e3:=((hs j).rep (by omega)).abI (rq1.mul (hb.gd j) (by omega)).2 (by omega);simp only[cw];generalize hq0:qn (cw (λi=>f i*g i) j)=q0 at e3⊢;generalize hq3:qn (cw (λi=>f i*g i) j+f j*g j)=q3 at e3⊢;generalize b.getD j (⟨⟨false,[]⟩,⟨false,[]⟩⟩:Qr)=q2 at e1 a2;generalize qn (f j*g j)=q4 at e1 e3;obtain⟨⟨_,_⟩,⟨_,_⟩⟩:=q0;obtain⟨⟨_,_⟩,⟨_,_⟩⟩:=q1;obtain⟨⟨_,_⟩,⟨_,_⟩⟩:=q2;obtain⟨⟨_,_⟩,⟨_,_⟩⟩:=q3;obtain⟨⟨_,_⟩,⟨_,_⟩⟩:=q4;refine aB Y<|aB Y<|bN (decide_eq_true (by omega))<|aB (bC hq1)<|aB a2<|aB e1<|aB e3<|aB Y ?_;rw[bM (by omega)]
 exact aB Y<|aB Y<|bA (decide_eq_false (by omega)) Y
theorem asj(ha:eP L a f)(hb:eP M b g)(h:L+M<=4000000000)(la:a.length<=1000000)(lb:b.length<=1000000):qA a b=some (ou f g (max a.length b.length)):=by
 unfold qA;refine iU (λs=>∃j:Nat,s=(j:Int)/\j<=max a.length b.length/\ou f g j=0) (λe=>(match e with|.inr v=>v|.inl _=>0)=ou f g (max a.length b.length)) (λs=>max a.length b.length-s.toNat) ?_ ⟨0,rfl,by omega,rfl⟩ ?_
 ·rintro s ⟨j,rfl,hj,h0⟩;by_cases hjn:j<max a.length b.length
  ·have a1:=BK a j;have a2:=BK b j;have e1:=(ha.gd j).ar8 (hb.gd j) h;generalize a.getD j (⟨⟨false,[]⟩,⟨false,[]⟩⟩:Qr)=q1 at e1 a1;generalize b.getD j (⟨⟨false,[]⟩,⟨false,[]⟩⟩:Qr)=q2 at e1 a2;obtain⟨⟨_,_⟩,⟨_,_⟩⟩:=q1;obtain⟨⟨_,_⟩,⟨_,_⟩⟩:=q2;by_cases hc:pg (f j) (g j)=0
   ·refine .inl ⟨((j+1:Nat):Int),?_,⟨j+1,Y,by omega,by rw[ou,if_neg (by simpa using h0),hc]⟩,by simp only[Int.toNat_natCast];omega⟩;rw[xV];refine aB Y<|aB Y<|aB (JY a b j) ?_;refine bN (decide_eq_true hjn)<|aB a1<|aB a2<|aB e1<|aB Y<|bA (decide_eq_false (by simpa using hc))<|aB Y ?_;rw[bM (by omega)]
   refine .inr ⟨.inr (pg (f j) (g j)),?_,(U6 h0 hjn hc).symm⟩;rw[xV];refine aB Y<|aB Y<|aB (JY a b j) ?_;exact bN (decide_eq_true hjn)<|aB a1<|aB a2<|aB e1<|aB Y<|bN (decide_eq_true hc) Y
  obtain rfl:j=max a.length b.length:=by omega
  refine .inr ⟨.inl (),?_,h0.symm⟩;rw[xV];refine aB Y<|aB Y<|aB (JY a b _) ?_;exact bA (decide_eq_false hjn) Y
 intro e he;rw[<-he];cases e<;>rfl
theorem sX(n k:Int):jo n k=some (vq (min n 65536).toNat λi=>if(i:Int)=k then 1 else 0):=by
 unfold jo;refine bG (λj=>((j:Int),vq j (λi=>if(i:Int)=k then 1 else 0))) (min n 65536).toNat (vq (min n 65536).toNat (λi=>if(i:Int)=k then 1 else 0)) Y (λj hj=>?_) ?_ Y
 ·show cJ _ _=_;rw[xV];refine aB Y<|aB (T6 j n) ?_;refine bN (decide_eq_true hj)<|aB Y ?_;rw[xV,mO];by_cases hc:(j:Int)=k
  ·refine bN (decide_eq_true hc) ?_;have e1:=EN (n:=1) (by decide);rw[if_pos hc];have hq:qn ((1:Int):Rat)=qn 1:=rfl;rw[hq]at e1;generalize qn 1=q3 at e1⊢;obtain⟨⟨_,_⟩,⟨_,_⟩⟩:=q3;refine aB e1<|aB (nq (by omega) (by rw[bZ];omega))<|aB Y ?_;rw[bM (by omega)]
  refine bA (decide_eq_false hc) ?_;rw[if_neg hc,TN];refine aB (nq (by omega) (by rw[bZ];omega))<|aB Y ?_;rw[bM (by omega)];rfl
 show cJ _ _=_;rw[xV];refine aB Y<|aB (T6 _ n) ?_;exact bA (decide_eq_false (by omega)) Y
end ops
end
section
open Go.Fw
theorem J3(n k:Int):ni n k=jo n k:=rfl
theorem alu{L r w d:Nat}{rows:List (List Qr)}{A H:Nat->Nat->Rat}{pv:Nat->Nat}(hlen:rows.length<=1000)(hc:qF rows=w)(hw:w<=1000)(h1:1<=L)(hS:CH L d<=1000000000)(hd6:d<=1000000)
  (asl:jV rows=some (mq d (λ_=>w) H,bq d pv)) (inv:Dz L r w A d w H pv):
  ∃N,rM rows=some N/\((∀k,k<w->∃s,s<d/\pv s=k)->N=[])/\((¬∀k,k<w->∃s,s<d/\pv s=k)->0<N.length):=by
 have rc:=xg rows (by omega);rw[hc]at rc;have sY:=inv.hd;unfold rM;refine DB asl<|DB rc ?_;refine BM (λs=>∃(k:Nat) (N:List (List Qr)),s=((k:Int),N)/\k<=w/\N.length<=k/\((∀j,j<k->∃s,s<d/\pv s=j)->N=[])/\((¬∀j,j<k->∃s,s<d/\pv s=j)->0<N.length)) (λN=>((∀j,j<w->∃s,s<d/\pv s=j)->N=[])/\((¬∀j,j<w->∃s,s<d/\pv s=j)->0<N.length)) (λs=>w-s.1.toNat) ?_ ⟨0,[],Y,Nat.zero_le _,Nat.le_refl _,λ_=>Y,λq=>absurd (λj hj=>by omega) q⟩ (λe he=>⟨e,Y,he⟩);rintro _ ⟨k,N,rfl,hk,hN,n1,n2⟩;by_cases hlt:k<w
 ·have ein:=rin (pv:=pv) k hd6;refine DB (dT (by omega))<|exT Y<|DB ein ?_;by_cases q:∃s,s<d/\pv s=k
  ·refine exT (decide_eq_true q) ⟨_,aB (congrArg some (bM (by omega))) Y,.inl ⟨_,Y,⟨k+1,N,Y,hlt,by omega,λhh=>n1 (λj hj=>hh j (by omega)),λhh=>n2 (λh2=>hh (λj hj=>by
    by_cases e:j=k
    ·rw[e];exact q
    exact h2 j (by omega)))⟩,by simp only[Int.toNat_natCast];omega⟩⟩
  refine exF (decide_eq_false q) ?_;have eu:=sX (w:Int) (k:Int);rw[<-J3]at eu;refine DB eu ?_;refine BM (λs=>∃(t:Nat) (xs:List Qr),s=((t:Int),xs)/\xs.length=w) (λxs=>xs.length=w) (λs=>d-s.1.toNat) ?_ ⟨0,_,Y,by rw[bZ];omega⟩ ?_
  ·rintro _ ⟨t,xs,rfl,hx⟩;by_cases ht:t<d
   ·have g0:(bq d pv)[t]? =some ((pv t:Nat):Int):=sV ht;have g1:(mq d (λ_=>w) H)[t]? =some (vq w (H t)):=fD ht;have g2:(vq w (H t))[k]? =some (qn (H t k)):=ju hlt;have ng:=((inv.f t (by omega) k).rep (ER h1 d)).ahu (by omega);have hp:=inv.pl t ht;have ln:=cK d (λ_=>w) H;generalize qn (H t k)=q1 at*;generalize qn (-H t k)=q2 at*;obtain⟨⟨_,_⟩,⟨_,_⟩⟩:=q1;obtain⟨⟨_,_⟩,⟨_,_⟩⟩:=q2;exact⟨_,aB (congrArg some (show((mq d (λ_=>w) H).length:Int)=(d:Int) by rw[ln]))<|aB (dT (by omega))<|bN Y<|aB (bC g0)<|aB (bC g1)<|aB (bC g2)<|aB ng<|aB (cE (by omega))<|aB (fz (by omega))<|aB (congrArg some (bM (by omega))) Y,.inl ⟨_,Y,⟨t+1,_,Y,by rw[List.length_set];exact hx⟩,by simp only[Int.toNat_natCast];omega⟩⟩
   have ln:=cK d (λ_=>w) H;exact⟨_,aB (congrArg some (show((mq d (λ_=>w) H).length:Int)=(d:Int) by rw[ln]))<|aB (dF (by omega))<|bA Y Y,.inr ⟨_,Y,hx⟩⟩
  intro xs hx;exact⟨_,aB (nq (by decide) (by omega))<|aB (congrArg some (bM (by omega))) Y,.inl ⟨_,Y,⟨k+1,_,Y,hlt,by rw[List.length_append];simp;omega,λhh=>absurd (hh k (by omega)) q,λ_=>by rw[List.length_append];simp⟩,by simp only[Int.toNat_natCast];omega⟩⟩
 obtain rfl:k=w:=by omega
 exact⟨_,aB (dF (by omega))<|bA Y Y,.inr ⟨_,Y,n1,n2⟩⟩
end
section
open Go.Fw
theorem Ag{r w:Nat}{F:Nat->Nat->Rat}(hr:1<=r):qF (mq r (λ_=>w) F)=w:=by
 refine Nat.le_antisymm (xe.2 (λv hv=>?_)) ?_
 ·obtain⟨i,hi,rfl⟩:=List.getElem_of_mem hv;have:=fD (n:=r) (i:=i) (ln:=λ_=>w) (F:=F) (by rwa[cK]at hi);rw[List.getElem?_eq_getElem hi]at this;rw[Option.some.inj this,bZ];exact Nat.le_refl _
 have:=xe.1 (Nat.le_refl (qF (mq r (λ_=>w) F))) (vq w (F 0)) (List.mem_of_getElem? (fD (i:=0) (by omega)));rwa[bZ]at this
theorem Zl{L M r w:Nat}{rows:List (List Qr)}{b:List Qr}{A:Nat->Nat->Rat}{y:Nat->Rat}(h:kg L rows A)(hb:eP M b y)(hr:rows.length=r)(Oh:b.length=r):kg (max L M) (mq r (λ_=>w+1) (wide w A y)) (wide w A y):=by
 have l1:=h.l1;refine yx (λi hi k hk=>?_) (λi hi k hk=>?_) (λi hi k=>?_) (by omega)
 ·show FQ (max L M) (if k<w then A i k else if k=w then y i else 0);split
  ·exact((h.row i).fq k).mono (by omega)
  split
  ·exact(hb.fq i).mono (by omega)
  exact mP (by omega)
 ·show(if k<w then A i k else if k=w then y i else 0)=0;rw[if_neg (by omega),if_neg (by omega)]
 show(if k<w then A i k else if k=w then y i else 0)=0;rw[h.z i (by omega) k,hb.z i (by omega)];split
 ·rfl
 split<;>rfl
theorem Dz.diag{L r w d m:Nat}{A H:Nat->Nat->Rat}{pv:Nat->Nat}(inv:Dz L r w A d w H pv)(hd:d<=m)(hp:∀k,k<m->∃s,s<d/\pv s=k):∀s,s<d->pv s=s:=by
 have ge:∀s,s<d->s<=pv s:=λs=>by
  induction s with
  |zero=>intro _;exact Nat.zero_le _
  |succ s ih=>intro hs;have:=ih (by omega);have:=inv.mo s (s+1) (by omega) hs;omega
 intro s
 induction s using Nat.strongRecOn with
 |_ s ih=>
  intro hs;have g:=ge s hs;by_cases e:pv s=s
  ·exact e
  obtain⟨t,ht,et⟩:=hp s (by omega);rcases Nat.lt_trichotomy t s with q|q|q
  ·have:=ih t q ht;omega
  ·rw[q]at et;exact et
  have:=inv.mo s t q ht;omega
end
section
open Go.Fw
theorem Zm{w:Nat}{A:Nat->Nat->Rat}{y:Nat->Rat}(ind:Vp w w w A):Vp w w (w+1) (wide w A y):=λz hz hn=>ind z hz (λi hi=>by
 have e:=hn i hi;show cw (λl=>A i l*z l) w=0;have e2:cw (λl=>wide w A y i l*z l) (w+1)=cw (λl=>wide w A y i l*z l) w+wide w A y i w*z w:=rfl;rw[e2,hz w (Nat.le_refl w),c7 (h:=λl=>wide w A y i l*z l) (k:=λl=>A i l*z l) (λl hl=>by unfold wide;rw[if_pos hl])]at e;grind)
theorem Zn{L w d:Nat}{A H:Nat->Nat->Rat}{y:Nat->Rat}{pv:Nat->Nat}(inv:Dz L w (w+1) (wide w A y) d (w+1) H pv)(hd:d=w)(hpv:∀s,s<w->pv s=s):∀i,i<w->cw (λl=>A i l*H l w) w=y i:=by
 subst hd;have e:=(inv.ho (λl=>if l<d then H l d else if l=d then-1 else 0)).1 (λi hi=>by
  have s1:cw (λl=>H i l*(if l<d then H l d else if l=d then-1 else 0)) (d+1)=cw (λl=>H i l*(if l<d then H l d else if l=d then-1 else 0)) d+H i d*(if d<d then H d d else if d=d then-1 else 0):=rfl;rw[s1,if_neg (Nat.lt_irrefl d),if_pos Y,gQ hi (λl hl hne=>by
   have:=inv.pu l hl i hi;rw[hpv l hl,if_neg (λq=>hne q.symm)]at this;rw[this];grind)]
  have:=inv.pu i hi i hi;rw[hpv i hi,if_pos rfl]at this;rw[this,if_pos hi];grind)
 intro i hi;have e:=e i hi;have s1:cw (λl=>wide d A y i l*(if l<d then H l d else if l=d then-1 else 0)) (d+1)=cw (λl=>wide d A y i l*(if l<d then H l d else if l=d then-1 else 0)) d+wide d A y i d*(if d<d then H d d else if d=d then-1 else 0):=rfl;rw[s1,if_neg (Nat.lt_irrefl d),if_pos Y,show wide d A y i d=y i by unfold wide;rw[if_neg (Nat.lt_irrefl d),if_pos rfl],c7 (k:=λl=>A i l*H l d) (λl hl=>by unfold wide;rw[if_pos hl,if_pos hl])]at e;grind
end
section
open Go.Fw
theorem ahJ{L M w:Nat}{rows:List (List Qr)}{b:List Qr}{A:Nat->Nat->Rat}{y:Nat->Rat}(h:kg L rows A)(hr:rows.length=w)(hc:qF rows=w)(h1:1<=w)(hw:w<=90)(hb:eP M b y)(Oh:b.length=w)(hcan:∀i,b.getD i (⟨⟨false,[]⟩,⟨false,[]⟩⟩:Qr)=qn (y i))(hL:CH (max L M) (w+1)<=100000000)(hL2:CH L (w+1)<=100000000)(ind:Vp w w w A):
  ∃x,o8 rows b=some (vq w x,[],0)/\(∀i,i<w->cw (λl=>A i l*x l) w=y i)/\∀l,l<w->FQ (CH (max L M) w) (x l):=by
 have l1:=h.l1;have LL:L<=100000000:=Nat.le_trans (F0 L (show 0<=w+1 by omega)) hL2;have rc:=xg rows (by omega);rw[hc]at rc;have ew:=als h hb (by omega) hr Oh hc (by omega) (by omega) hcan;obtain⟨_,e1,d,H,pv,rfl,inv⟩:=T5 (Zl (w:=w) h hb hr Oh) (cK _ _ _) (Ag h1) (by omega) (by omega) hL;have hd:=inv.hd;have hp:=λk (hk:k<w)=>inv.Zj (m:=w) (by omega) (Zm ind) hk;have dg:=inv.diag hd hp;have hdw:d=w:=by
  obtain⟨s,hs,e⟩:=hp (w-1) (by omega);rw[dg s hs]at e;omega
 subst hdw;have ein:=rin (pv:=pv) (d:=d) d (by omega);rw[decide_eq_false (λ⟨s,hs,e⟩=>by rw[dg s hs]at e;omega)]at ein;have sol:=Zn inv Y dg;obtain⟨_,f1,d2,H2,pv2,rfl,inv2⟩:=T5 h hr hc (by omega) (by omega) hL2;have hd2:=inv2.hd;obtain⟨N,en,n1,_⟩:=alu (by omega) hc (by omega) l1 (Nat.le_trans (F0 L (show d2<=d+1 by omega)) (by omega)) (by omega) f1 inv2;obtain rfl:=n1 (λk hk=>inv2.Zj (Nat.le_refl d) ind hk);have eu:=sX (d:Int) (-1);rw[show(min ((d:Nat):Int) 65536).toNat=d by omega,dI (k:=λ_=>0) (λi _=>if_neg (by omega)),<-J3]at eu;refine⟨λl=>H l d,?_,sol,λl hl=>inv.f l hl d⟩;unfold o8;refine aB rc<|aB ew<|aB e1<|aB ein<|bA Y<|aB eu ?_;refine bG (λt=>((t:Int),vq d (λl=>if l<t then H l d else 0))) d (vq d (λl=>H l d)) (by simp) (λt ht=>?_) ?_ (aB en Y)
 ·have g0:(bq d pv)[t]? =some ((pv t:Nat):Int):=sV ht;have g1:(mq d (λ_=>d+1) H)[t]? =some (vq (d+1) (H t)):=fD ht;have g2:(vq (d+1) (H t))[d]? =some (qn (H t d)):=ju (by omega);rw[dg t ht]at g0;have s:=uE (k:=d) (j:=t) (h:=λl=>if l<t then H l d else 0) (x:=H t d) ht;have s2:vq d (λi=>if i=t then H t d else if i<t then H i d else 0)=vq d (λl=>if l<t+1 then H l d else 0):=dI (λi _=>by
   by_cases e:i=t
   ·rw[if_pos e,if_pos (by omega),e]
   rw[if_neg e];by_cases e2:i<t
   ·rw[if_pos e2,if_pos (by omega)]
   rw[if_neg e2,if_neg (by omega)])
  rw[s2]at s;have ln:=cK d (λ_=>d+1) H;have lv:=bZ d (λl=>if l<t then H l d else 0);rw[<-s];generalize vq d (λl=>if l<t then H l d else 0)=X at*;generalize qn (H t d)=q at*;obtain⟨⟨_,_⟩,⟨_,_⟩⟩:=q;exact aB (congrArg some (show((mq d (λ_=>d+1) H).length:Int)=(d:Int) by rw[ln]))<|aB (dT (by omega))<|bN Y<|aB (bC g0)<|aB (bC g1)<|aB (bC g2)<|aB (cE (by omega))<|aB (fz (by omega))<|aB (congrArg some (bM (by omega))) Y
 have ln:=cK d (λ_=>d+1) H;rw[dI (k:=λl=>H l d) (λi hi=>if_pos hi)];exact aB (congrArg some (show((mq d (λ_=>d+1) H).length:Int)=(d:Int) by rw[ln]))<|aB (dF (by omega))<|bA Y Y
end
section
open Go.Fw
theorem abW{L w:Nat}{rows:List (List Qr)}{A:Nat->Nat->Rat}(h:kg L rows A)(hr:rows.length=w)(hc:qF rows=w)(h1:1<=w)(hw:w<=90)(hL:CH L (w+1)<=100000000)(ind:Vp w w w A):
  ∃res,eA rows=some res/\∃N:Nat->Nat->Rat,res=(mq w (λ_=>w) N,0)/\(∀i k,i<w->k<w->cw (λl=>A i l*N l k) w=if i=k then 1 else 0)/\(∀i k,FQ (CH L w) (N i k))/\(∀i k,w<=i\/w<=k->N i k=0):=by
 have l1:=h.l1;have LL:CH L w<=100000000:=Nat.le_trans (F0 L (show w<=w+1 by omega)) hL;unfold eA;refine DB (congrArg some (show(rows.length:Int)=(w:Int) by rw[hr])) ?_;refine BM (λs=>∃(k:Nat) (X:Nat->Nat->Rat),s=((k:Int),mq k (λ_=>w) X)/\k<=w/\(∀j l,FQ (CH L w) (X j l))/\(∀j l,k<=j\/w<=l->X j l=0)/\∀j,j<k->∀i,i<w->cw (λl=>A i l*X j l) w=if i=j then 1 else 0) (λe=>∃(X:Nat->Nat->Rat),e=.inl (mq w (λ_=>w) X)/\(∀j l,FQ (CH L w) (X j l))/\(∀j l,w<=j\/w<=l->X j l=0)/\∀j,j<w->∀i,i<w->cw (λl=>A i l*X j l) w=if i=j then 1 else 0) (λs=>w-s.1.toNat) ?_ ⟨0,λ_ _=>0,Y,Nat.zero_le _,λ_ _=>mP (ER l1 w),λ_ _ _=>Y,λj hj=>by omega⟩ ?_
 ·rintro _ ⟨k,X,rfl,hk,hf,hz,hs⟩;by_cases hlt:k<w
  ·have eu:=sX (w:Int) (k:Int);rw[show(min ((w:Nat):Int) 65536).toNat=w by omega]at eu;have ru:=YW w (k:Int) (λ_=>by omega);obtain⟨x,ex,sx,fx⟩:=ahJ h hr hc h1 hw (ru.mono l1) (bZ _ _) (λi=>by
    by_cases hi:i<w
    ·rw[List.getD_eq_getElem?_getD,ju hi];rfl
    rw[List.getD_eq_getElem?_getD,List.getElem?_eq_none (by rw[bZ];omega),if_neg (by omega)];rfl) (by rw[Nat.max_self];exact hL) hL ind
   rw[Nat.max_self]at fx;have ap:mQ 24 (mq k (λ_=>w) X) [vq w x]=some (mq (k+1) (λ_=>w) (λj l=>if j=k then(if l<w then x l else 0)else X j l)):=by
    rw[nq (by decide) (by rw[cK];omega),tD];congr 2
    ·exact jh (λj hj=>⟨Y,λl _=>by rw[if_neg (by omega)]⟩)
    congr 1;exact dI (λl hl=>by rw[if_pos Y,if_pos hl])
   refine⟨_,aB (dT (by omega))<|bN Y<|aB eu<|aB ex<|bW<|aB Y<|aB (a:=false) (bA Y<|aB Y<|aB Y Y)<|bA Y<|aB ap<|aB (congrArg some (bM (by omega))) Y,.inl ⟨_,Y,⟨k+1,_,Y,hlt,λj l=>?_,λj l hjl=>?_,λj hj i hi=>?_⟩,by simp only[Int.toNat_natCast];omega⟩⟩
   ·show FQ (CH L w) (if j=k then(if l<w then x l else 0)else X j l);split
    ·split
     ·exact fx l (by assumption)
     exact mP (ER l1 w)
    exact hf j l
   ·show(if j=k then(if l<w then x l else 0)else X j l)=0;by_cases e:j=k
    ·rw[if_pos e,if_neg (by omega)]
    rw[if_neg e];exact hz j l (by omega)
   show cw (λl=>A i l*(if j=k then(if l<w then x l else 0)else X j l)) w=_;by_cases e:j=k
   ·rw[c7 (k:=λl=>A i l*x l) (λl hl=>by rw[if_pos e,if_pos hl]),sx i hi,e];by_cases q:i=k
    ·rw[if_pos q,if_pos (by omega)]
    rw[if_neg q,if_neg (by omega)]
   rw[c7 (k:=λl=>A i l*X j l) (λl hl=>by rw[if_neg e])];exact hs j (by omega) i hi
  obtain rfl:k=w:=by omega
  exact⟨_,aB (dF (by omega))<|bA Y Y,.inr ⟨_,Y,X,Y,hf,hz,hs⟩⟩
 rintro _ ⟨X,rfl,hf,hz,hs⟩;have rX:kg (CH L w) (mq w (λ_=>w) X) X:=yx (λj _ l _=>hf j l) (λj _ l hl=>hz j l (.inr hl)) (λj hj l=>hz j l (.inl hj)) (ER l1 w);have pl:∀i j:Nat,i<w->j<w->eJ 1 (⟨⟨false,[]⟩,⟨false,[]⟩⟩:Qr) (mq w (λ_=>w) X) [] (i:Int) (j:Int)=some (qn (X j i)):=λi j _ _=>by
  have e1:=NV rX (by omega) j i;unfold eJ;generalize qn (X j i)=q at*;exact aB (dT (by decide))<|bN Y<|aB e1 Y
 have e3:=L9 (F:=λi j=>X j i) (by omega) (by omega) pl;have rc:=xg (mq w (λ_=>w) X) (by rw[cK];omega);rw[Ag h1]at rc;have et:mL (mq w (λ_=>w) X)=some (mq w (λ_=>w) (λi j=>X j i)):=by
  unfold mL;exact aB rc<|aB (congrArg some (show((mq w (λ_=>w) X).length:Int)=(w:Int) by rw[cK]))<|aB e3 Y
 exact⟨_,aB et Y,λi j=>X j i,Y,λi k hi hk=>hs k hk i hi,λi k=>hf k i,λi k q=>hz k i (by omega)⟩
end
section
open Go.Fw
theorem linv{m:Nat}{B N:Nat->Nat->Rat}(ind:Vp m m m B)(hN:∀i k,i<m->k<m->cw (λl=>B i l*N l k) m=if i=k then 1 else 0){i k:Nat}(hi:i<m)(hk:k<m):cw (λl=>N i l*B l k) m=if i=k then 1 else 0:=by
 have e:=ind (λl=>if l<m then cw (λt=>N l t*B t k) m-(if l=k then 1 else 0)else 0) (λl hl=>if_neg (by omega)) (λj hj=>?_) i hi
 ·show _=_;have e2:(if i<m then cw (λt=>N i t*B t k) m-(if i=k then 1 else 0)else 0:Rat)=0:=e;rw[if_pos hi]at e2;grind
 have q:cw (λl=>B j l*cw (λt=>N l t*B t k) m) m=B j k:=by
  rw[show(λl=>B j l*cw (λt=>N l t*B t k) m)=λl=>cw (λt=>B j l*(N l t*B t k)) m from funext λl=>(pz _ _ _).symm,zj];rw[c7 (k:=λt=>(if j=t then 1 else 0)*B t k) (λt ht=>?_),gQ hj (λt _ hne=>by rw[if_neg (λq=>hne q.symm)];grind),if_pos rfl]
  ·grind
  rw[<-hN j t hj ht,Rat.mul_comm,<-pz];exact c7 (λl _=>by grind)
 have q2:cw (λl=>B j l*(if l=k then 1 else 0)) m=B j k:=by
  rw[gQ hk (λt _ hne=>by rw[if_neg hne];grind),if_pos rfl];grind
 show cw (λl=>B j l*(if l<m then cw (λt=>N l t*B t k) m-(if l=k then 1 else 0)else 0)) m=0;rw[c7 (k:=λl=>B j l*cw (λt=>N l t*B t k) m-B j l*(if l=k then 1 else 0)) (λl hl=>by rw[if_pos hl];grind),BJ,q,q2];grind
theorem Qv{m:Nat}{B N:Nat->Nat->Rat}{x y:Nat->Rat}(hl:∀i k,i<m->k<m->cw (λl=>N i l*B l k) m=if i=k then 1 else 0)(hE:∀i,i<m->x i=cw (λs=>B i s*y s) m){i:Nat}(hi:i<m):cw (λt=>N i t*x t) m=y i:=by
 rw[c7 (k:=λt=>cw (λs=>N i t*(B t s*y s)) m) (λt ht=>by rw[hE t ht,pz]),zj];rw[c7 (k:=λs=>(if i=s then 1 else 0)*y s) (λs hs=>?_),gQ hi (λt _ hne=>by rw[if_neg (λq=>hne q.symm)];grind),if_pos rfl]
 ·grind
 rw[<-hl i s hi hs,Rat.mul_comm,<-pz];exact c7 (λl _=>by grind)
section basis
variable {n m:Nat}{E G H:Nat->Nat->Rat}{c d:Nat->Nat}
theorem ahK(uF:∀j,j<m->c j<n+m)(hu:Uc m G c)(hs:∀z,EU n m E z↔EU n m G z):Vp m m m (λi s=>E i (c s)):=by
 intro z hz hn l hl;have one:∀(h:Nat->Rat) (i:Nat),i<m->cw (λj=>G i (c j)*h j) m=h i:=λh i hi=>by
  rw[gQ hi (λj hj hne=>by rw[hu i j hi hj,if_neg (λq=>hne q.symm)];grind),hu i i hi hi,if_pos rfl];grind
 have s0:EU n m G (λl=>cw (λj=>if c j=l then G j (n+m)else 0) m):=λi hi=>by rw[xW uF,one _ i hi]
 have e0:=(hs _).2 s0;have s1:EU n m E (λl=>cw (λj=>if c j=l then G j (n+m)+z j else 0) m):=λi hi=>by
  have e:=e0 i hi;rw[xW uF]at e;have e2:cw (λl=>E i (c l)*z l) m=0:=hn i hi;rw[xW uF,c7 (k:=λj=>E i (c j)*G j (n+m)+E i (c j)*z j) (λj _=>by grind),EI,e,e2];grind
 have g:=(hs _).1 s1 l hl;rw[xW uF,one _ l hl]at g;grind
end basis
end
section
open Go.Fw
theorem ahL{m:Nat}(hm:m<=1000):rK (m:Int)=some (mq m (λ_=>m) (λi k=>if k=i then 1 else 0)):=by
 unfold rK;refine bG (λi=>((i:Int),mq i (λ_=>m) (λi k=>if k=i then 1 else 0))) m (mq m (λ_=>m) (λi k=>if k=i then 1 else 0)) Y (λi hi=>?_) (aB (EP (by omega))<|aB (dF (by omega))<|bA Y Y) Y;have eu:=sX (m:Int) (i:Int);rw[show(min ((m:Nat):Int) 65536).toNat=m by omega]at eu;have ap:mQ 24 (mq i (λ_=>m) (λi k=>if k=i then 1 else 0)) [vq m (λl=>if(l:Int)=(i:Int)then 1 else 0)]=some (mq (i+1) (λ_=>m) (λi k=>if k=i then 1 else 0)):=by
  rw[nq (by decide) (by rw[cK];omega),tD];congr 2;congr 1;exact dI (λl _=>by
   by_cases e:l=i
   ·rw[if_pos e,if_pos (by omega)]
   rw[if_neg e,if_neg (by omega)])
 exact aB (EP (by omega))<|aB (dT (by omega))<|bN Y<|aB (EP (by omega))<|aB eu<|aB ap<|aB (congrArg some (bM (by omega))) Y
def eqs(n m:Nat)(R:Nat->Nat->Rat)(i k:Nat):Rat:=if i<m then(if k<n then R i k else if k=n+i then 1 else 0)else 0
theorem alv{L:Nat}(h:1<=L):FQ L 1:=FQ.int (i:=1) (L:=L) (by unfold Fit;exact Nat.lt_of_lt_of_le (by decide:(1:Int).natAbs<4294967296^1) (Nat.pow_le_pow_right (by decide) h)) h
theorem Zo{L n m:Nat}{rw:List (List Qr)}{R:Nat->Nat->Rat}(h:kg L rw R)(i k:Nat):FQ L (eqs n m R i k):=by
 unfold eqs;split
 ·split
  ·exact(h.row i).fq k
  split
  ·exact alv h.l1
  exact mP h.l1
 exact mP h.l1
theorem T7{n m i k:Nat}{R:Nat->Nat->Rat}{g:Nat->Rat}(hi:i<m)(hk:k<n+m):eqs n m R i k=sW n m R g i k:=by
 unfold eqs sW;rw[if_pos hi];by_cases q:k<n
 ·rw[if_pos q,if_pos q]
 rw[if_neg q,if_neg q];by_cases q2:k=n+i
 ·rw[if_pos q2,if_pos q2]
 rw[if_neg q2,if_neg q2,if_neg (by omega)]
theorem T8{L n m:Nat}{rw:List (List Qr)}{R:Nat->Nat->Rat}(h:kg L rw R):kg L (mq m (λ_=>n+m) (eqs n m R)) (eqs n m R):=
 yx (λi _ k _=>Zo h i k) (λi hi k hk=>by unfold eqs;rw[if_pos hi,if_neg (by omega),if_neg (by omega)]) (λi hi k=>by unfold eqs;rw[if_neg (by omega)]) h.l1
theorem J4{L n m:Nat}{ob rw:List (List Qr)}{bd:List Qr}{R:Nat->Nat->Rat}(h:kg L rw R)(hL:L<=1000000000)(hm:rw.length=m)(hmm:m<=100)(hn:n<=100):
  fH ⟨(n:Int),ob,rw,bd⟩=some (mq m (λ_=>n+m) (eqs n m R)):=by
 have l1:=h.l1;have ft:=alq h hL (a:=m) (b:=n) (by omega) (by omega);have um:=ahL (m:=m) (by omega);have eC:mq m (λ_=>n) R=mq m (λ_=>n) (λi k=>if i<m/\k<n then R i k else 0):=jh (λi hi=>⟨Y,λk hk=>by rw[if_pos ⟨hi,hk⟩]⟩);have rA:kg L (mq m (λ_=>n) R) (λi k=>if i<m/\k<n then R i k else 0):=by
  rw[eC];exact yx (λi hi k hk=>by
   show FQ L (if i<m/\k<n then R i k else 0);rw[if_pos ⟨hi,hk⟩];exact(h.row i).fq k) (λi hi k hk=>if_neg (by omega)) (λi hi k=>if_neg (by omega)) l1
 have eU:mq m (λ_=>m) (λi k=>if k=i then 1 else 0)=mq m (λ_=>m) (λi k=>if i<m/\k=i then 1 else 0):=jh (λi hi=>⟨Y,λk hk=>by
  by_cases e:k=i
  ·rw[if_pos e,if_pos ⟨hi,e⟩]
  rw[if_neg e,if_neg (λq=>e q.2)]⟩)
 have rU:kg L (mq m (λ_=>m) (λi k=>if k=i then 1 else 0)) (λi k=>if i<m/\k=i then 1 else 0):=by
  rw[eU];refine yx (λi hi k hk=>?_) (λi hi k hk=>if_neg (by omega)) (λi hi k=>if_neg (by omega)) l1;show FQ L (if i<m/\k=i then 1 else 0);split
  ·exact alv l1
  exact mP l1
 have lA:=cK m (λ_=>n) R;have lU:=cK m (λ_=>m) (λi k=>if k=i then 1 else 0);obtain⟨w,cA,cU,hw⟩:∃w:Nat,cV (mq m (λ_=>n) R)=some (w:Int)/\cV (mq m (λ_=>m) (λi k=>if k=i then 1 else 0))=some (m:Int)/\(m=0/\w=0\/1<=m/\w=n):=by
  rw[xg _ (by omega),xg _ (by omega)];by_cases q:1<=m
  ·exact⟨n,by rw[Ag q],by rw[Ag q],.inr ⟨q,Y⟩⟩
  obtain rfl:m=0:=by omega
  exact⟨0,Y,Y,.inl ⟨Y,Y⟩⟩
 generalize mq m (λ_=>n) R=a at*;generalize mq m (λ_=>m) (λi k=>if k=i then 1 else 0)=u at*;have pl:∀i j:Nat,i<m->j<w+m->eJ 3 ⟨⟨false,[]⟩,⟨false,[]⟩⟩ a u (i:Int) (j:Int)=some (qn (eqs n m R i j)):=λi j hi hj=>by
  have hwn:w=n:=by omega
  subst hwn;unfold eJ;refine aB (dF (by decide))<|bA Y<|aB (dF (by decide))<|bA Y<|aB (dT (by decide))<|bN Y<|aB cA ?_;by_cases q:j<w
  ·have e:=NV rA (by omega) i j;have e2:eqs w m R i j=if i<m/\j<w then R i j else 0:=by unfold eqs;rw[if_pos hi,if_pos q,if_pos ⟨hi,q⟩]
   rw[e2];generalize qn (if i<m/\j<w then R i j else 0)=z at*;exact aB (dT (by omega))<|bN Y<|aB e Y
  have e:=NV rU (by omega) i (j-w);have e2:eqs w m R i j=if i<m/\j-w=i then 1 else 0:=by
   unfold eqs;rw[if_pos hi,if_neg q];by_cases e3:j=w+i
   ·rw[if_pos e3,if_pos ⟨hi,by omega⟩]
   rw[if_neg e3,if_neg (by omega)]
  rw[e2];generalize qn (if i<m/\j-w=i then 1 else 0)=z at*;exact aB (dF (by omega))<|bA Y<|aB cA<|aB (congrArg some (show IntKind.i64.wrap ((j:Int)-(w:Int))=((j-w:Nat):Int) by rw[cH (by omega) (by omega)];omega))<|aB e Y
 have e3:=L9 (F:=eqs n m R) (show m<=1024 by omega) (show w+m<=1024 by omega) pl;have e4:mq m (λ_=>w+m) (eqs n m R)=mq m (λ_=>n+m) (eqs n m R):=jh (λi hi=>⟨by omega,λ_ _=>Y⟩);rw[e4]at e3;have bs:oa a u=some (mq m (λ_=>n+m) (eqs n m R)):=by
  unfold oa;refine aB Y<|aB Y<|aB (congrArg some (show max (a.length:Int) (u.length:Int)=(m:Int) by rw[lA,lU];omega))<|aB cA<|aB cU<|aB (congrArg some (show IntKind.i64.wrap ((w:Int)+(m:Int))=((w+m:Nat):Int) by rw[cH (by omega) (by omega)];omega))<|aB e3 Y
 unfold fH;exact aB (congrArg some (show(rw.length:Int)=(m:Int) by rw[hm]))<|aB ft<|aB (congrArg some (show(rw.length:Int)=(m:Int) by rw[hm]))<|aB um<|aB bs Y
end
section
open Go.Fw
theorem abX{L n m:Nat}{ob rw:List (List Qr)}{bd:List Qr}{R:Nat->Nat->Rat}{c:Nat->Nat}(h:kg L rw R)(hL:L<=1000000000)(hm:rw.length=m)(hmm:m<=100)(hn:n<=100):
  kZ ⟨⟨(n:Int),ob,rw,bd⟩,bq m c⟩=some (mq m (λ_=>m) (λi k=>eqs n m R i (c k))):=by
 have re:=J4 (ob:=ob) (bd:=bd) h hL hm hmm hn;have rr:=T8 (n:=n) (m:=m) h;have rl:=cK m (λ_=>n+m) (eqs n m R);have bl:=rY m c;have bg:∀j,j<m->(bq m c)[j]? =some ((c j:Nat):Int):=λj hj=>sV hj;unfold kZ;refine aB re ?_;have at4:∀i j:Nat,fo (mq m (λ_=>n+m) (eqs n m R)) (i:Int) ((c j:Nat):Int)=some (qn (eqs n m R i (c j))):=λi j=>NV rr (by omega) i (c j);generalize mq m (λ_=>n+m) (eqs n m R)=a at*;generalize bq m c=bs at*;obtain⟨B,hB⟩:∃B:Nat->Nat->Rat,B=λi k=>eqs n m R i (c k):=⟨_,Y⟩;have at5:∀i j:Nat,fo a (i:Int) ((c j:Nat):Int)=some (qn (B i j)):=λi j=>by rw[hB];exact at4 i j
 rw[<-hB];clear hB at4;refine bG (λi=>((i:Int),mq i (λ_=>m) B)) m (mq m (λ_=>m) B) Y (λi hi=>?_) (aB (congrArg some (show(a.length:Int)=(m:Int) by rw[rl]))<|aB (dF (by omega))<|bA Y Y) Y;refine aB (congrArg some (show(a.length:Int)=(m:Int) by rw[rl]))<|aB (dT (by omega))<|bN Y ?_;refine bG (λj=>((j:Int),vq j (B i))) m (vq m (B i)) Y (λj hj=>?_) (aB (congrArg some (show(bs.length:Int)=(m:Int) by rw[bl]))<|aB (dF (by omega))<|bA Y Y) ?_
 ·have e1:=at5 i j;have e2:mQ 64 (vq j (B i)) [qn (B i j)]=some (vq (j+1) (B i)):=by rw[nq (by decide) (by rw[bZ];omega),mO]
  generalize qn (B i j)=q at*;exact aB (congrArg some (show(bs.length:Int)=(m:Int) by rw[bl]))<|aB (dT (by omega))<|bN Y<|aB (bC (bg j hj))<|aB e1<|aB e2<|aB (congrArg some (bM (by omega))) Y
 have e3:mQ 24 (mq i (λ_=>m) B) [vq m (B i)]=some (mq (i+1) (λ_=>m) B):=by
  rw[nq (by decide) (by rw[cK];omega),tD]
 exact aB e3<|aB (congrArg some (bM (by omega))) Y
section mul
variable {L M r m w:Nat}{a b:List (List Qr)}{A B:Nat->Nat->Rat}
theorem abY(ha:kg L a A)(hb:kg M b B)(ca:cV a=some (m:Int))(hm:m<=1000)(hL:(m+1)*(L+M+1)+1<=2000000000)(i k:Nat):eJ 2 ⟨⟨false,[]⟩,⟨false,[]⟩⟩ a b (i:Int) (k:Int)=some (qn (cw (λl=>A i l*B l k) m)):=by
 have hs:∀n,FQ (n*(L+M+1)+1) (cw (λl=>A i l*B l k) n):=λn=>NL (λl _=>((ha.row i).fq l).mul ((hb.row l).fq k));have hmm:∀n:Nat,n<=m->n*(L+M+1)<=m*(L+M+1):=λn hn=>Nat.mul_le_mul_right _ hn;rw[Nat.succ_mul]at hL;have l1:=ha.l1;have l2:=hb.l1;unfold eJ;refine aB (dF (by decide))<|bA Y<|aB (dT (by decide))<|bN Y ?_;refine bG (λj=>((j:Int),(qn (cw (λl=>A i l*B l k) j)).num.neg,(qn (cw (λl=>A i l*B l k) j)).num.w,(qn (cw (λl=>A i l*B l k) j)).den.neg,(qn (cw (λl=>A i l*B l k) j)).den.w)) m
  ((qn (cw (λl=>A i l*B l k) m)).num.neg,(qn (cw (λl=>A i l*B l k) m)).num.w,(qn (cw (λl=>A i l*B l k) m)).den.neg,(qn (cw (λl=>A i l*B l k) m)).den.w) Y (λj hj=>?_) ?_ Y
 ·have hmj:=hmm j (by omega);have a1:=NV ha (by omega) i j;have a2:=NV hb (by omega) j k;have r1:=((ha.row i).fq j).rep l1;have r2:=((hb.row j).fq k).rep l2;have e1:=r1.YU r2 (by omega);have e3:=((hs j).rep (by omega)).abI ((((ha.row i).fq j).mul ((hb.row j).fq k)).rep (by omega)) (by omega);simp only[cw];generalize hq0:qn (cw (λl=>A i l*B l k) j)=q0 at e3⊢;generalize hq3:qn (cw (λl=>A i l*B l k) j+A i j*B j k)=q3 at e3⊢;generalize qn (A i j)=q1 at*;generalize qn (B j k)=q2 at*;generalize qn (A i j*B j k)=q4 at*;obtain⟨⟨_,_⟩,⟨_,_⟩⟩:=q0;obtain⟨⟨_,_⟩,⟨_,_⟩⟩:=q1;obtain⟨⟨_,_⟩,⟨_,_⟩⟩:=q2;obtain⟨⟨_,_⟩,⟨_,_⟩⟩:=q3;obtain⟨⟨_,_⟩,⟨_,_⟩⟩:=q4;exact aB ca<|aB (dT (by omega))<|bN Y<|aB a1<|aB a2<|aB e1<|aB e3<|aB (congrArg some (bM (by omega))) Y
 exact aB ca<|aB (dF (by omega))<|bA Y Y
theorem alw(ha:kg L a A)(hb:kg M b B)(la:a.length=r)(ca:cV a=some (m:Int))(cb:cV b=some (w:Int))(hr:r<=1024)(hw:w<=1024)(hm:m<=1000)(hL:(m+1)*(L+M+1)+1<=2000000000):
  kN a b=some (mq r (λ_=>w) (λi k=>cw (λl=>A i l*B l k) m)):=by
 have e:=L9 (F:=λi k=>cw (λl=>A i l*B l k) m) hr hw (λi k _ _=>abY ha hb ca hm hL i k);unfold kN;exact aB (congrArg some (show(a.length:Int)=(r:Int) by rw[la]))<|aB cb<|aB e Y
theorem ahM{g:Nat->Rat}{bd:List Qr}(ha:∀i,i<r->eP L (vq m (A i)) (A i))(hb:eP M bd g)(Oh:bd.length=m)(hr:r<=1000)(hm:m<=1000)(hL:(m+2)*(L+M+1)<=4000000000):
  nh (mq r (λ_=>m) A) bd=some (vq r (λi=>cw (λl=>A i l*g l) m)):=by
 have ml:=cK r (λ_=>m) A;have mg:∀i,i<r->(mq r (λ_=>m) A)[i]? =some (vq m (A i)):=λi hi=>fD hi;obtain⟨D,hD⟩:∃D:Nat->Rat,D=λi=>cw (λl=>A i l*g l) m:=⟨_,Y⟩;have dot:∀i,i<r->qy (vq m (A i)) bd=some (qn (D i)):=λi hi=>by
  have e:=Zk (ha i hi) hb (by rw[bZ];exact hL) (by rw[bZ];omega);rw[bZ,Oh,Nat.min_self]at e;rw[hD];exact e
 rw[<-hD];clear hD;unfold nh;generalize mq r (λ_=>m) A=a at*;refine bG (λi=>((i:Int),vq i D)) r (vq r D) Y (λi hi=>?_) (aB (congrArg some (show(a.length:Int)=(r:Int) by rw[ml]))<|aB (dF (by omega))<|bA Y Y) Y;have e1:=dot i hi;have e2:mQ 64 (vq i D) [qn (D i)]=some (vq (i+1) D):=by rw[nq (by decide) (by rw[bZ];omega),mO]
 generalize qn (D i)=q at*;exact aB (congrArg some (show(a.length:Int)=(r:Int) by rw[ml]))<|aB (dT (by omega))<|bN Y<|aB (bC (mg i hi))<|aB e1<|aB e2<|aB (congrArg some (bM (by omega))) Y
end mul
end
section
open Go.Fw
section val
variable {K L n m p:Nat}{ob rw:List (List Qr)}{bd:List Qr}{O G:Nat->Nat->Rat}{c:Nat->Nat}
theorem rvalue(ho:kg K ob O)(hK:K<=1000000000)(hp:ob.length=p)(hp4:p<=1000)(hn:n<=1000)(k:Nat):jG ⟨(n:Int),ob,rw,bd⟩ (k:Int)=some (vq (p+n) (r8 n p O k)):=by
 have at4:∀i:Nat,fo ob (i:Int) (k:Int)=some (qn (O i k)):=λi=>NV ho (by omega) i k;obtain⟨V,hV⟩:∃V:Nat->Rat,V=λi=>if i<p then O i k else if i=p+k then-1 else 0:=⟨_,Y⟩;have v1:∀i,i<p->V i=O i k:=λi hi=>by rw[hV];exact if_pos hi
 have v2:V (p+k)=-1:=by rw[hV];show(if p+k<p then _ else if p+k=p+k then(-1:Rat)else 0)=-1;rw[if_neg (by omega),if_pos rfl]
 have v3:∀i,p<=i->i≠p+k->V i=0:=λi h1 h2=>by rw[hV];show(if i<p then _ else if i=p+k then(-1:Rat)else 0)=0;rw[if_neg (by omega),if_neg h2]
 unfold jG;refine bG (λi=>((i:Int),vq i V)) p (vq p V) Y (λi hi=>?_) (aB (congrArg some (show(ob.length:Int)=(p:Int) by rw[hp]))<|aB (dF (by omega))<|bA Y Y) ?_
 ·have e1:=at4 i;have e2:mQ 64 (vq i V) [qn (O i k)]=some (vq (i+1) V):=by rw[nq (by decide) (by rw[bZ];omega),mO,v1 i hi]
  generalize qn (O i k)=q at*;obtain⟨⟨_,_⟩,⟨_,_⟩⟩:=q;exact aB (congrArg some (show(ob.length:Int)=(p:Int) by rw[hp]))<|aB (dT (by omega))<|bN Y<|aB e1<|aB e2<|aB (congrArg some (bM (by omega))) Y
 refine bG (λi=>((i:Int),vq (p+i) V)) n (vq (p+n) V) Y (λi hi=>?_) (aB (dF (by omega))<|bA Y Y) ?_
 ·refine aB (dT (by omega))<|bN Y ?_;by_cases e:i=k
  ·subst e;have e1:=EN (n:=-1) (by decide);have e2:mQ 64 (vq (p+i) V) [qn (-1)]=some (vq (p+i+1) V):=by rw[nq (by decide) (by rw[bZ];omega),mO,v2]
   have hq:qn ((-1:Int):Rat)=qn (-1):=rfl;rw[hq]at e1;generalize qn (-1)=q at*;obtain⟨⟨_,_⟩,⟨_,_⟩⟩:=q;exact aB (dT (by omega))<|bW<|bN Y<|aB e1<|aB e2<|aB (congrArg some (bM (by omega))) Y
  have e2:mQ 64 (vq (p+i) V) [⟨⟨false,[]⟩,⟨false,[]⟩⟩]=some (vq (p+i+1) V):=by
   rw[nq (by decide) (by rw[bZ];omega),mO,v3 (p+i) (by omega) (by omega)];rfl
  exact aB (dF (by omega))<|bW<|bA Y<|aB e2<|aB (congrArg some (bM (by omega))) Y
 by_cases e:k<n
 ·refine aB (dF (by omega))<|bA Y (congrArg some (dI (λi hi=>?_)));rw[hV];show(if i<p then O i k else if i=p+k then-1 else 0)=_;unfold r8;rw[if_pos e]
 have eu:=sX ((p+n:Nat):Int) (-1);rw[show(min ((p+n:Nat):Int) 65536).toNat=p+n by omega]at eu;refine aB (dT (by omega))<|bN Y<|aB (congrArg some (show((vq (p+n) V).length:Int)=((p+n:Nat):Int) by rw[bZ]))<|aB eu (congrArg some (dI (λi hi=>?_)));unfold r8;rw[if_neg e,if_neg (by omega)]
theorem alx(ho:kg K ob O)(hK:K<=1000000000)(hp:ob.length=p)(h:uY L n m p O G c)(hL:(m+1)*(L+L+1)<=2000000000){g:Nat->Rat}(hg:∀j,j<m->FQ L (g j)):
  qa ⟨⟨(n:Int),ob,rw,bd⟩,bq m c⟩ (vq m g)=some (vq (p+n) (pA n p O c g m)):=by
 have hX:m*(L+L+1)+(L+L+1)<=2000000000:=by rw[<-Nat.succ_mul];exact hL
 have hm:=h.hm;have hn:=h.hn;have hp4:=h.hp;have h1:=h.l1;have bl:=rY m c;have bg:∀j,j<m->(bq m c)[j]? =some ((c j:Nat):Int):=λj hj=>sV hj;have eu:=sX ((p+n:Nat):Int) (-1);rw[show(min ((p+n:Nat):Int) 65536).toNat=p+n by omega]at eu;rw[show vq (p+n) (λi=>if(i:Int)=-1 then 1 else 0)=vq (p+n) (pA n p O c g 0)from dI (λi _=>by rw[if_neg (by omega)];rfl)]at eu;have val:∀k:Nat,jG ⟨(n:Int),ob,rw,bd⟩ (k:Int)=some (vq (p+n) (r8 n p O k)):=λk=>rvalue ho hK hp (by omega) (by omega) k;unfold qa;refine aB (congrArg some (show(ob.length:Int)=(p:Int) by rw[hp]))<|aB (congrArg some (show IntKind.i64.wrap ((p:Int)+(n:Int))=((p+n:Nat):Int) by rw[cH (by omega) (by omega)];omega))<|aB eu ?_;generalize bq m c=bs at*;refine bG (λk=>(vq (p+n) (pA n p O c g k),(k:Int))) m (vq (p+n) (pA n p O c g m)) Y (λk hk=>?_) (aB (congrArg some (show(bs.length:Int)=(m:Int) by rw[bl]))<|aB (dF (by omega))<|bA Y Y) Y;have a1:=BK (vq m g) k;rw[List.getD_eq_getElem?_getD,ju hk]at a1;replace a1:g9 (vq m g) (k:Int)=some (qn (g k)):=a1;have rg:=(hg k hk).rep h1;have va:=TW rg (HT h (c k)) (BL h hg (Nat.le_of_lt hk)) (by have:=Nat.mul_le_mul_right (L+L+1) (show k<=m by omega);omega) (by rw[bZ];omega) (by rw[bZ];omega)
 have e0:vq (max (vq (p+n) (r8 n p O (c k))).length (vq (p+n) (pA n p O c g k)).length) (λi=>g k*r8 n p O (c k) i+pA n p O c g k i)=vq (p+n) (pA n p O c g (k+1)):=by
  rw[bZ,bZ,Nat.max_self];refine dI (λi _=>?_);show _=cw _ k+_;unfold pA;grind
 rw[e0]at va;have vk:=val (c k);generalize vq (p+n) (pA n p O c g (k+1))=o2 at*;generalize vq (p+n) (pA n p O c g k)=o1 at*;generalize vq (p+n) (r8 n p O (c k))=o3 at*;generalize qn (g k)=q at*;obtain⟨⟨_,_⟩,⟨_,_⟩⟩:=q;exact aB (congrArg some (show(bs.length:Int)=(m:Int) by rw[bl]))<|aB (dT (by omega))<|bN Y<|aB a1<|aB (bC (bg k hk))<|aB vk<|aB va<|aB (congrArg some (bM (by omega))) Y
theorem Zp(ho:kg K ob O)(hK:K<=1000000000)(hp:ob.length=p)(hm:rw.length=m)(h:uY L n m p O G c)(hL:(m+1)*(L+L+1)<=1000000000)(er:iJ ⟨⟨(n:Int),ob,rw,bd⟩,bq m c⟩=some (mq m (λ_=>n+m) G)):
  eL ⟨⟨(n:Int),ob,rw,bd⟩,bq m c⟩=some (mq (n+m) (λ_=>p+n) (oU n m p O G c)):=by
 have hX:m*(L+L+1)+(L+L+1)<=1000000000:=by rw[<-Nat.succ_mul];exact hL
 have hm1:=h.hm;have hn:=h.hn;have hp4:=h.hp;have h1:=h.l1;have rl:=cK m (λ_=>n+m) G;have mg:∀i,i<m->(mq m (λ_=>n+m) G)[i]? =some (vq (n+m) (G i)):=λi hi=>fD hi;have sm:∀k,k<n+m->qa ⟨⟨(n:Int),ob,rw,bd⟩,bq m c⟩ (vq m (λi=>G i k))=some (vq (p+n) (pA n p O c (λi=>G i k) m)):=λk _=>alx ho hK hp h (by omega) (λj hj=>h.f j hj k);have val:∀k:Nat,jG ⟨(n:Int),ob,rw,bd⟩ (k:Int)=some (vq (p+n) (r8 n p O k)):=λk=>rvalue ho hK hp (by omega) (by omega) k;have sub:∀k:Nat,qx (vq (p+n) (pA n p O c (λi=>G i k) m)) (vq (p+n) (r8 n p O k))=some (vq (p+n) (oU n m p O G c k)):=λk=>by
  have s:=YX (BL h (g:=λj=>G j k) (λj hj=>h.f j hj k) (Nat.le_refl m)) (HT h k) (by omega) (by rw[bZ];omega) (by rw[bZ];omega);rw[bZ,bZ,Nat.max_self]at s;exact s
 unfold eL;refine aB er ?_;generalize mq m (λ_=>n+m) G=rows at*;generalize hbs:bq m c=bs at*;obtain⟨D,hD⟩:∃D:Nat->Nat->Rat,D=oU n m p O G c:=⟨_,Y⟩;rw[<-hD]at sub⊢;have hw:IntKind.i64.wrap ((n:Int)+(rw.length:Int))=((n+m:Nat):Int):=by rw[hm,cH (by omega) (by omega)];omega
 refine bG (λk=>((k:Int),mq k (λ_=>p+n) D)) (n+m) (mq (n+m) (λ_=>p+n) D) Y (λk hk=>?_) (aB Y<|aB (congrArg some hw)<|aB (dF (by omega))<|bA Y Y) Y;refine aB Y<|aB (congrArg some hw)<|aB (dT (by omega))<|bN Y ?_;refine bG (λi=>((i:Int),vq i (λi=>G i k))) m (vq m (λi=>G i k)) Y (λi hi=>?_) (aB (congrArg some (show(rows.length:Int)=(m:Int) by rw[rl]))<|aB (dF (by omega))<|bA Y Y) ?_
 ·have g2:(vq (n+m) (G i))[k]? =some (qn (G i k)):=ju hk;have e2:mQ 64 (vq i (λi=>G i k)) [qn (G i k)]=some (vq (i+1) (λi=>G i k)):=by rw[nq (by decide) (by rw[bZ];omega),mO]
  generalize qn (G i k)=q at*;obtain⟨⟨_,_⟩,⟨_,_⟩⟩:=q;exact aB (congrArg some (show(rows.length:Int)=(m:Int) by rw[rl]))<|aB (dT (by omega))<|bN Y<|aB (bC (mg i hi))<|aB (bC g2)<|aB e2<|aB (congrArg some (bM (by omega))) Y
 have e3:mQ 24 (mq k (λ_=>p+n) D) [vq (p+n) (D k)]=some (mq (k+1) (λ_=>p+n) D):=by
  rw[nq (by decide) (by rw[cK];omega),tD]
 exact aB (sm k hk)<|aB (val k)<|aB (sub k)<|aB e3<|aB (congrArg some (bM (by omega))) Y
theorem abZ(ho:kg K ob O)(hK:K<=1000000000)(hp:ob.length=p)(h:uY L n m p O G c)(hL:(m+1)*(L+L+1)<=2000000000)(eh:iZ ⟨⟨(n:Int),ob,rw,bd⟩,bq m c⟩=some (vq m (λi=>G i (n+m)))):
  rP ⟨⟨(n:Int),ob,rw,bd⟩,bq m c⟩=some (vq (p+n) (pA n p O c (λj=>G j (n+m)) m)):=by
 unfold rP;exact aB eh<|aB (alx ho hK hp h hL (λj hj=>h.f j hj (n+m))) Y
theorem U8(h:uY L n m p O G c)(eh:iZ ⟨⟨(n:Int),ob,rw,bd⟩,bq m c⟩=some (vq m (λi=>G i (n+m)))):
  mW ⟨⟨(n:Int),ob,rw,bd⟩,bq m c⟩=some (vq n (rZ n m G c m)):=by
 have hm:=h.hm;have hn:=h.hn;have bl:=rY m c;have bg:∀j,j<m->(bq m c)[j]? =some ((c j:Nat):Int):=λj hj=>sV hj;have eu:=sX (n:Int) (-1);rw[show(min (n:Int) 65536).toNat=n by omega]at eu;rw[show vq n (λi=>if(i:Int)=-1 then 1 else 0)=vq n (rZ n m G c 0)from dI (λi _=>by rw[if_neg (by omega)];rfl)]at eu;unfold mW;refine aB ((J3 _ _).trans eu)<|aB eh ?_;generalize bq m c=bs at*;refine bG (λk=>((k:Int),vq n (rZ n m G c k))) m (vq n (rZ n m G c m)) Y (λk hk=>?_) (aB (congrArg some (show(bs.length:Int)=(m:Int) by rw[bl]))<|aB (dF (by omega))<|bA Y Y) Y;have g1:(vq m (λi=>G i (n+m)))[k]? =some (qn (G k (n+m))):=ju hk;have g2:=bg k hk;have hl:=bZ n (rZ n m G c k);by_cases VS:c k<n
 ·have s:=uE (k:=n) (j:=c k) (h:=rZ n m G c k) (x:=G k (n+m)) VS;have s2:vq n (λi=>if i=c k then G k (n+m)else rZ n m G c k i)=vq n (rZ n m G c (k+1)):=dI (λi _=>by
   show _=if c k<n/\i=c k then _ else _;by_cases e:i=c k
   ·rw[if_pos e,if_pos ⟨VS,e⟩]
   rw[if_neg e,if_neg (λq=>e q.2)])
  rw[s2]at s;rw[<-s];clear s s2;generalize vq n (rZ n m G c k)=l at*;generalize qn (G k (n+m))=q at*;obtain⟨⟨_,_⟩,⟨_,_⟩⟩:=q;exact aB (congrArg some (show(bs.length:Int)=(m:Int) by rw[bl]))<|aB (dT (by omega))<|bN Y<|aB (bC g2)<|aB (dT (by omega))<|bW<|bN Y<|aB (bC g2)<|aB (bC g1)<|aB (cE (by omega))<|aB (fz (by omega))<|aB (congrArg some (bM (by omega))) Y
 have s2:vq n (rZ n m G c k)=vq n (rZ n m G c (k+1)):=dI (λi _=>by
  show _=if c k<n/\i=c k then _ else _;rw[if_neg (λq=>VS q.1)])
 rw[<-s2];exact aB (congrArg some (show(bs.length:Int)=(m:Int) by rw[bl]))<|aB (dT (by omega))<|bN Y<|aB (bC g2)<|aB (dF (by omega))<|bW<|bA Y<|aB (congrArg some (bM (by omega))) Y
theorem U9(h:uY L n m p O G c)(hL:L<=4000000000)(eh:iZ ⟨⟨(n:Int),ob,rw,bd⟩,bq m c⟩=some (vq m (λi=>G i (n+m)))):
  mX ⟨⟨(n:Int),ob,rw,bd⟩,bq m c⟩=some (decide (∀i,i<m->0<=G i (n+m))):=by
 have hm:=h.hm;have ll:=bZ m (λi=>G i (n+m));unfold mX;refine aB eh ?_;refine aB (sS (n:=m) (p:=λi=>0<=G i (n+m)) (e:=false) (λk hk=>?_) (aB (congrArg some (show((vq m (λi=>G i (n+m))).length:Int)=(m:Int) by rw[ll]))<|aB (dF (by omega))<|bA Y Y)) ?_
 ·have g1:(vq m (λi=>G i (n+m)))[k]? =some (qn (G k (n+m))):=ju hk;have sg:=((h.f k hk (n+m)).rep h.l1).Qo (by omega);generalize vq m (λi=>G i (n+m))=l at*;generalize qn (G k (n+m))=q at*;obtain⟨⟨_,_⟩,⟨_,_⟩⟩:=q;refine aB (congrArg some (show(l.length:Int)=(m:Int) by rw[ll]))<|aB (dT (by omega))<|bN Y<|aB (bC g1)<|aB sg ?_;by_cases q:G k (n+m)<0
  ·rw[if_neg (by grind)];exact aB (dT (EH.2 q))<|bN Y Y
  rw[if_pos (by grind)];exact aB (dF (λe=>q (EH.1 e)))<|bA Y<|aB (congrArg some (bM (by omega))) Y
 by_cases q:∀i,i<m->0<=G i (n+m)
 ·rw[if_pos q,decide_eq_true q]
 rw[if_neg q,decide_eq_false q]
theorem Zq(h:uY L n m p O G c)(hL:(m+1)*(L+L+1)<=1000000000)(ec:eL ⟨⟨(n:Int),ob,rw,bd⟩,bq m c⟩=some (mq (n+m) (λ_=>p+n) (oU n m p O G c))):
  oc ⟨⟨(n:Int),ob,rw,bd⟩,bq m c⟩=some (decide (∀k,k<n+m->0<=ou (oU n m p O G c k) (λ_=>0) (p+n))):=by
 have hX:m*(L+L+1)+(L+L+1)<=1000000000:=by rw[<-Nat.succ_mul];exact hL
 have hm:=h.hm;have hn:=h.hn;have hp4:=h.hp;have rl:=cK (n+m) (λ_=>p+n) (oU n m p O G c);have mg:∀i,i<n+m->(mq (n+m) (λ_=>p+n) (oU n m p O G c))[i]? =some (vq (p+n) (oU n m p O G c i)):=λi hi=>fD hi;have lx:∀k,k<n+m->qA (vq (p+n) (oU n m p O G c k)) []=some (ou (oU n m p O G c k) (λ_=>0) (p+n)):=λk hk=>by
  have e:=asj (J1 h (by omega) hk).2 (eP.nil (L:=1) (by decide)) (by omega) (by rw[bZ];omega) (by decide);rw[bZ,List.length_nil,Nat.max_zero]at e;exact e
 unfold oc;refine aB ec ?_;generalize mq (n+m) (λ_=>p+n) (oU n m p O G c)=l at*;refine aB (sS (n:=n+m) (p:=λk=>0<=ou (oU n m p O G c k) (λ_=>0) (p+n)) (e:=false) (λk hk=>?_) (aB (congrArg some (show(l.length:Int)=((n+m:Nat):Int) by rw[rl]))<|aB (dF (by omega))<|bA Y Y)) ?_
 ·refine aB (congrArg some (show(l.length:Int)=((n+m:Nat):Int) by rw[rl]))<|aB (dT (by omega))<|bN Y<|aB (bC (mg k hk))<|aB (lx k hk) ?_;by_cases q:0<=ou (oU n m p O G c k) (λ_=>0) (p+n)
  ·rw[if_pos q];exact aB (dF (by omega))<|bA Y<|aB (congrArg some (bM (by omega))) Y
  rw[if_neg q];exact aB (dT (by omega))<|bN Y Y
 by_cases q:∀k,k<n+m->0<=ou (oU n m p O G c k) (λ_=>0) (p+n)
 ·rw[if_pos q,decide_eq_true q]
 rw[if_neg q,decide_eq_false q]
end val
end
section
open Go.Fw
theorem Vp.congr{m r w:Nat}{A B:Nat->Nat->Rat}(h:Vp m r w A)(e:∀i l,i<r->l<w->A i l=B i l):Vp m r w B:=λz hz hn=>h z hz (λi hi=>by
 have q:=hn i hi;rw[c7 (k:=λl=>B i l*z l) (λl hl=>by rw[e i l hi hl])];exact q)
theorem Vc:eA []=some ([],0):=by
 have tu:mL []=some []:=by
  have e:=L9 (a:=0) (b:=0) (kd:=1) (c:=⟨⟨false,[]⟩,⟨false,[]⟩⟩) (rw:=[]) (rv:=[]) (F:=λ_ _=>0) (by decide) (by decide) (λi j hi=>by omega);have c:=xg [] (by decide);unfold mL;exact aB c<|aB Y<|aB e Y
 unfold eA;refine aB Y ?_;exact bG (λi=>((i:Int),[])) 0 (.inl []) Y (λi hi=>by omega) (aB (dF (by decide))<|bA Y Y) (aB tu Y)
section same
variable {n m p:Nat}{ob rw:List (List Qr)}{bd:List Qr}{O R G:Nat->Nat->Rat}{g:Nat->Rat}{c:Nat->Nat}
theorem sz6{m:Nat}(hm:m<=6):CH 6 m<=25941:=Nat.le_trans (F0 6 hm) (by decide)
theorem sz5{m:Nat}(hm:m<=5):CH 6 m<=6485:=Nat.le_trans (F0 6 hm) (by decide)
def T9(n m:Nat)(R:Nat->Nat->Rat)(c:Nat->Nat)(i k:Nat):Rat:=if k<m then eqs n m R i (c k)else 0
theorem ahN(n m:Nat)(R:Nat->Nat->Rat)(c:Nat->Nat):mq m (λ_=>m) (λi k=>eqs n m R i (c k))=mq m (λ_=>m) (T9 n m R c):=jh (λi hi=>⟨Y,λk hk=>(if_pos hk).symm⟩)
theorem ab0(rr:kg 6 rw R):kg 6 (mq m (λ_=>m) (T9 n m R c)) (T9 n m R c):=
 yx (λi _ k hk=>by unfold T9;rw[if_pos hk];exact Zo rr i (c k)) (λi _ k hk=>if_neg (by omega)) (λi hi k=>by
  unfold T9 eqs;split
  ·exact if_neg (by omega)
  rfl) (by decide)
theorem NW(uF:∀j,j<m->c j<n+m){i k:Nat}(hi:i<m)(hk:k<m):T9 n m R c i k=sW n m R g i (c k):=by
 unfold T9;rw[if_pos hk];exact T7 hi (uF k hk)
theorem ab1(rr:kg 6 rw R)(hm:rw.length=m)(m5:m<=5)(hn:n<=64)(uF:∀j,j<m->c j<n+m)(ind:Vp m m m (λi s=>sW n m R g i (c s))):
  ∃N:Nat->Nat->Rat,eA (mq m (λ_=>m) (T9 n m R c))=some (mq m (λ_=>m) N,0)/\(∀i k,i<m->k<m->cw (λl=>T9 n m R c i l*N l k) m=if i=k then 1 else 0)/\(∀i k,FQ 6485 (N i k))/\(∀i k,m<=i\/m<=k->N i k=0):=by
 by_cases q:1<=m
 ·obtain⟨_,e,N,rfl,h1,h2,h3⟩:=abW (ab0 (n:=n) (m:=m) (c:=c) rr) (cK _ _ _) (Ag q) q (by omega) (by have:=sz6 (show m+1<=6 by omega);omega) (ind.congr (λi l hi hl=>(NW uF hi hl).symm));exact⟨N,e,h1,λi k=>(h2 i k).mono (sz5 m5),h3⟩
 obtain rfl:m=0:=by omega
 exact⟨λ_ _=>0,Vc,λi k hi=>by omega,λ_ _=>mP (by decide),λ_ _ _=>Y⟩
theorem aly{ob':List (List Qr)}(rr:kg 6 rw R)(rb:eP 6 bd g)(hm:rw.length=m)(hbd:bd.length=m)(m5:m<=5)(hn:n<=64)(uF:∀j,j<m->c j<n+m)(hu:Uc m G c)(hs:∀z,EU n m (sW n m R g) z↔EU n m G z):
  LR ⟨⟨(n:Int),ob',rw,bd⟩,bq m c⟩=some true/\iJ ⟨⟨(n:Int),ob',rw,bd⟩,bq m c⟩=some (mq m (λ_=>n+m) G)/\iZ ⟨⟨(n:Int),ob',rw,bd⟩,bq m c⟩=some (vq m (λi=>G i (n+m))):=by
 have ind:=ahK uF hu hs;have mx:=abX (ob:=ob') (bd:=bd) (c:=c) rr (by decide) hm (by omega) (by omega) (n:=n);rw[ahN]at mx;obtain⟨N,eN,n1,n2,n3⟩:=ab1 rr hm m5 hn uF ind;have eq:=J4 (ob:=ob') (bd:=bd) rr (by decide) hm (by omega) (show n<=100 by omega);have er:=T8 (n:=n) (m:=m) rr;have rN:kg 6485 (mq m (λ_=>m) N) N:=yx (λi _ k _=>n2 i k) (λi _ k hk=>n3 i k (.inr hk)) (λi hi k=>n3 i k (.inl hi)) (by omega);have asn:Vp m m m (T9 n m R c):=ind.congr (λi l hi hl=>(NW uF hi hl).symm);have lN:∀i k,i<m->k<m->cw (λl=>N i l*T9 n m R c l k) m=if i=k then 1 else 0:=λi k hi hk=>linv asn n1 hi hk;have tr:∀i k,i<m->k<=n+m->sW n m R g i k=cw (λs=>T9 n m R c i s*G s k) m:=λi k hi hk=>by
  rw[FZ uF hu (λz=>(hs z).2) hi hk];exact c7 (λs hs'=>by rw[NW uF hi hs'])
 have hX:(m+1)*(6485+6+1)+1<=2000000000:=by omega
 have hX7:(m+2)*(6485+6+1)<=4000000000:=by
  obtain⟨K,hK⟩:∃K,K=6485+6+1:=⟨_,Y⟩;have:=Nat.mul_le_mul_right K (show m+2<=7 by omega);rw[<-hK];omega
 have ti:nh (mq m (λ_=>m) N) bd=some (vq m (λi=>G i (n+m))):=by
  have e:=ahM (L:=6485) (M:=6) (r:=m) (λi hi=>qe (λk _=>n2 i k) (λk hk=>n3 i k (.inr hk)) rN.l1) rb hbd (by omega) (by omega) hX7;rw[e];refine congrArg some (dI (λi hi=>?_));refine Qv (B:=T9 n m R c) (y:=λs=>G s (n+m)) lN (λi hi=>?_) hi;rw[<-tr i (n+m) hi (Nat.le_refl _)];unfold sW;rw[if_neg (by omega),if_neg (by omega),if_pos rfl]
 have mu:kN (mq m (λ_=>m) N) (mq m (λ_=>n+m) (eqs n m R))=some (mq m (λ_=>n+m) G):=by
  by_cases q:1<=m
  ·have cA:cV (mq m (λ_=>m) N)=some (m:Int):=by rw[xg _ (by rw[cK];omega),Ag q]
   have cB:cV (mq m (λ_=>n+m) (eqs n m R))=some ((n+m:Nat):Int):=by rw[xg _ (by rw[cK];omega),Ag q]
   have e:=alw rN er (cK _ _ _) cA cB (by omega) (by omega) (by omega) hX;rw[e];refine congrArg some (jh (λi hi=>⟨Y,λk hk=>?_⟩));refine Qv (B:=T9 n m R c) (y:=λs=>G s k) lN (λi hi=>?_) hi;rw[<-tr i k hi (Nat.le_of_lt hk)];exact T7 hi hk
  obtain rfl:m=0:=by omega
  have c0:=xg [] (by decide);have e:=L9 (a:=0) (b:=0) (kd:=2) (c:=⟨⟨false,[]⟩,⟨false,[]⟩⟩) (rw:=[]) (rv:=[]) (F:=λ_ _=>0) (by decide) (by decide) (λi j hi=>by omega);show kN [] []=some [];unfold kN;exact aB Y<|aB c0<|aB e Y
 refine⟨?_,?_,?_⟩
 ·unfold LR;exact aB mx<|aB eN Y
 ·unfold iJ;exact aB mx<|aB eN<|aB eq<|aB mu Y
 unfold iZ;exact aB mx<|aB eN<|aB ti Y
theorem aen{L r w:Nat}{F:Nat->Nat->Rat}(hf:∀i,i<r->∀k,k<w->FQ L (F i k))(h1:1<=L)(hL:L<=100000000000)(hr:r<=1000)(hw:w<=1000):sN (mq r (λ_=>w) F) (mq r (λ_=>w) F)=some true:=by
 have ml:=cK r (λ_=>w) F;have mg:∀i,i<r->(mq r (λ_=>w) F)[i]? =some (vq w (F i)):=λi hi=>fD hi;have si:∀i,i<r->jU (vq w (F i)) (vq w (F i))=some true:=λi hi=>(NR (hf i hi) h1).ris hL (by rw[bZ];omega);unfold sN;generalize mq r (λ_=>w) F=a at*;refine aB Y<|aB Y<|aB (dF (λq=>q Y))<|bA Y ?_;refine bG (λi=>(i:Int)) r (.inl ()) Y (λi hi=>?_) (aB (congrArg some (show(a.length:Int)=(r:Int) by rw[ml]))<|aB (dF (by omega))<|bA Y Y) Y;exact aB (congrArg some (show(a.length:Int)=(r:Int) by rw[ml]))<|aB (dT (by omega))<|bN Y<|aB (bC (mg i hi))<|aB (bC (mg i hi))<|aB (si i hi)<|aB Y<|bA Y<|aB (congrArg some (bM (by omega))) Y
theorem is7(ro:kg 6 ob O)(hp:ob.length=p)(hm:rw.length=m)(m5:m<=5)(h:uY 6485 n m p O G c)
  (eR:iJ ⟨⟨(n:Int),ob,rw,bd⟩,bq m c⟩=some (mq m (λ_=>n+m) G)) (eH:iZ ⟨⟨(n:Int),ob,rw,bd⟩,bq m c⟩=some (vq m (λi=>G i (n+m)))):
  k7 (HR n m p O G c) ⟨⟨(n:Int),ob,rw,bd⟩,bq m c⟩=some true:=by
 have hn:=h.hn;have hp4:=h.hp;obtain⟨K,hK⟩:∃K,K=6485:=⟨_,Y⟩;rw[<-hK]at h;have hX5:(m+1)*(K+K+1)<=6*(K+K+1):=Nat.mul_le_mul_right _ (by omega);have hX:m*(K+K+1)+(K+K+1)<=6*(K+K+1):=by rw[<-Nat.succ_mul];exact hX5
 have tB:=SA (n:=n) (m:=m) (p:=p) (O:=O) (F:=G) (b:=c) (by omega);have iB:=L8 (bq m c) (by rw[rY];omega);have tR:=alp h (by omega);have iR:=aen (r:=m) (w:=n+m) (F:=G) (λi hi k _=>h.f i hi k) h.l1 (by omega) (by omega) (by omega);have tH:=Sx h (by omega);have iH:=(NR (L:=K) (n:=m) (f:=λi=>G i (n+m)) (λi hi=>h.f i hi _) h.l1).ris (by omega) (by rw[bZ];omega);have tC:=ahG h (by omega);have eC:=Zp (bd:=bd) ro (by decide) hp hm h (by omega) eR;have iC:=aen (r:=n+m) (w:=p+n) (F:=oU n m p O G c) (L:=80000000) (λi hi k _=>((J1 h (by omega) hi).2.fq k).mono (by omega)) (by decide) (by decide) (by omega) (by omega);have tV:=NT h (by omega);have eV:=abZ ro (by decide) hp h (by omega) eH;have iV:=(BL h (g:=λj=>G j (n+m)) (λj hj=>h.f j hj _) (Nat.le_refl m)).ris (by omega) (by rw[bZ];omega);have tS:=L6 h (by omega);have eS:=U8 h eH;have ryS:eP K (vq n (rZ n m G c m)) (rZ n m G c m):=qe (λi _=>T4 h m (Nat.le_refl m) i) (λi hi=>Qu m i hi) (by omega);have iS:=ryS.ris (by omega) (by rw[bZ];omega);have tF:=L7 h (by omega);have eF:=U9 h (by omega) eH;have tO:=J2 h (by omega);have eO:=Zq h (by omega) eC;unfold k7
 exact bW<|aB (a:=false) (bA Y<|aB tB<|aB iB<|aB Y Y)<|aB (a:=false) (bA Y<|aB tR<|aB eR<|aB iR<|aB Y Y)<|aB (a:=false) (bA Y<|aB tH<|aB eH<|aB iH<|aB Y Y)<|aB (a:=false) (bA Y<|aB tC<|aB eC<|aB iC<|aB Y Y)<|bA Y<|bW<|aB tV<|aB eV<|aB iV<|aB (a:=true) (bN Y<|aB tS<|aB eS<|aB iS Y)<|aB (a:=true) (bN Y<|aB tF<|aB eF<|aB (congrArg some (beq_self_eq_true _)) Y)<|aB (a:=true) (bN Y<|aB tO<|aB eO<|aB (congrArg some (beq_self_eq_true _)) Y) Y
end same
end
section
open Go.Fw
theorem Qw:gP=some true:=by
 unfold gP;exact bW<|aB Y<|aB Y<|aB (a:=true) (bN Y<|aB Y<|aB Y<|aB Y<|aB Y<|aB Y<|aB Y<|aB Y<|aB Y<|aB Y<|aB Y<|aB Y<|aB Y<|aB Y<|aB Y<|aB Y<|aB Y<|aB Y<|aB Y<|aB Y<|aB Y<|aB Y Y)<|aB (a:=true) (bN Y<|aB Y Y)<|aB (a:=true) (bN Y<|aB Y Y)<|aB (a:=true) (bN Y<|aB Y Y) Y
theorem aeo{L r w:Nat}{F:Nat->Nat->Rat}(hf:∀i,i<r->∀k,k<w->FQ L (F i k))(h1:1<=L)(hL:L<=3000000000)(hr:r<=1000)(hw:w<=1000):ia (mq r (λ_=>w) F)=some (mq r (λ_=>w) F):=by
 have eC:mq r (λ_=>w) F=mq r (λ_=>w) (λi k=>if i<r/\k<w then F i k else 0):=jh (λi hi=>⟨Y,λk hk=>by rw[if_pos ⟨hi,hk⟩]⟩);have rA:kg L (mq r (λ_=>w) F) (λi k=>if i<r/\k<w then F i k else 0):=by
  rw[eC];exact yx (λi hi k hk=>by
   show FQ L (if i<r/\k<w then F i k else 0);rw[if_pos ⟨hi,hk⟩];exact hf i hi k hk) (λi hi k hk=>if_neg (by omega)) (λi hi k=>if_neg (by omega)) h1
 have e:=(ahw one_eq.2 rA (by omega) (by rw[cK];omega) (λv hv=>by
  unfold mq at hv;obtain⟨i,_,rfl⟩:=List.mem_map.1 hv;rw[bZ];show w<=1000000;omega)).1
 have e2:mq (mq r (λ_=>w) F).length (λi=>((mq r (λ_=>w) F).getD i []).length) (λi j=>1*(if i<r/\j<w then F i j else 0))=mq r (λ_=>w) F:=by
  rw[cK];refine jh (λi hi=>⟨by rw[TX hi,bZ],λk hk=>?_⟩);rw[TX hi,bZ]at hk;show 1*(if i<r/\k<w then F i k else 0)=F i k;rw[if_pos ⟨hi,hk⟩];grind
 rw[e2]at e;have o:=one_eq.1;unfold ia;generalize qn 1=q at*;obtain⟨⟨_,_⟩,⟨_,_⟩⟩:=q;exact aB o<|aB e Y
section tab
variable {L n m p:Nat}{ob rw:List (List Qr)}{bd:List Qr}{O F:Nat->Nat->Rat}{b:Nat->Nat}
theorem ahO(h:uY L n m p O F b)(hL:L<=3000000000):qC (HR n m p O F b)=some (HR n m p O F b):=by
 have hm:=h.hm;have hn:=h.hn;have hp:=h.hp;have cO:=aeo (r:=p) (w:=n) (F:=O) (λi hi k _=>h.o i hi k) h.l1 hL (by omega) (by omega);have cF:=aeo (r:=m) (w:=n+m+1) (F:=F) (λi hi k _=>h.f i hi k) h.l1 hL (by omega) (by omega);have tB:=SA (n:=n) (m:=m) (p:=p) (O:=O) (F:=F) (b:=b) (by omega);unfold qC;exact aB (kS n m p O F b)<|bA Y<|aB cO<|aB tB<|aB cF Y
theorem ahP(hm:rw.length=m)(hmm:m<=128)(hn:n<=64):jH ⟨(n:Int),ob,rw,bd⟩=some ((n:Int),ob,rw,bd,bq m (λj=>n+j)):=by
 unfold jH;refine bG (λi=>((i:Int),bq i (λj=>n+j))) m (bq m (λj=>n+j)) Y (λi hi=>?_) (aB (congrArg some (show(rw.length:Int)=(m:Int) by rw[hm]))<|aB (dF (by omega))<|bA Y Y) Y;have ap:mQ 8 (bq i (λj=>n+j)) [((n+i:Nat):Int)]=some (bq (i+1) (λj=>n+j)):=by rw[nq (by decide) (by rw[rY];omega),NS]
 exact aB (congrArg some (show(rw.length:Int)=(m:Int) by rw[hm]))<|aB (dT (by omega))<|bN Y<|aB (congrArg some (show IntKind.i64.wrap ((n:Int)+(i:Int))=((n+i:Nat):Int) by rw[cH (by omega) (by omega)];omega))<|aB ap<|aB (congrArg some (bM (by omega))) Y
theorem Zs(a:Int)(b c:List (List Qr))(d:List Qr)(e:List Int):vP a b c d e=iJ ⟨⟨a,b,c,d⟩,e⟩:=rfl
theorem ab2(h:uY L n m p O F b)(hL:L<=100000000)(hm':rw.length=m)(eR:iJ ⟨⟨(n:Int),ob,rw,bd⟩,bq m b⟩=some (mq m (λ_=>n+m) F))(r c:Int):
  (∃e,bY true n (mq p (λ_=>n) O) (bq m b) (mq m (λ_=>n+m+1) F) r c=some (e,mq p (λ_=>n) O,bq m b,mq m (λ_=>n+m+1) F)/\fP (n:Int) ob rw bd (bq m b) r c=some (e,bq m b))\/
  ∃r' c':Nat,r'<m/\c'<n+m/\F r' c'≠0/\bY true n (mq p (λ_=>n) O) (bq m b) (mq m (λ_=>n+m+1) F) r c=some (0,mq p (λ_=>n) O,bq m (λj=>if j=r' then c' else b j),mq m (λ_=>n+m+1) (jX F r' c'))/\fP (n:Int) ob rw bd (bq m b) r c=some (0,bq m (λj=>if j=r' then c' else b j)):=by
 have hm:=h.hm;have hn:=h.hn;have wd:gM (⟨true,(n:Int),mq p (λ_=>n) O,bq m b,mq m (λ_=>n+m+1) F⟩:Tb)=some ((n+m:Nat):Int):=FX hn hm;have ms:di (⟨true,(n:Int),mq p (λ_=>n) O,bq m b,mq m (λ_=>n+m+1) F⟩:Tb)=some false:=kS n m p O F b;have rl:=cK m (λ_=>n+m+1) F;have Oh:=rY m b;have hw:IntKind.i64.wrap ((n:Int)+(rw.length:Int))=((n+m:Nat):Int):=by rw[hm',cH (by omega) (by omega)];omega
 rw[<-Zs]at eR;by_cases h1:r<0
 ·refine .inl ⟨1,?_,?_⟩
  ·unfold bY;exact aB ms<|bA Y<|bW<|aB (dT h1)<|aB (a:=true) (bN Y Y)<|aB (a:=true) (bN Y Y)<|aB (a:=true) (bN Y Y)<|bN Y Y
  unfold fP;exact bW<|aB (dT h1)<|aB (a:=true) (bN Y Y)<|aB (a:=true) (bN Y Y)<|aB (a:=true) (bN Y Y)<|bN Y Y
 by_cases h2:(m:Int)<=r
 ·refine .inl ⟨1,?_,?_⟩
  ·unfold bY;exact aB ms<|bA Y<|bW<|aB (dF h1)<|aB (a:=true) (bA Y<|aB Y<|aB (dT (by omega)) Y)<|aB (a:=true) (bN Y Y)<|aB (a:=true) (bN Y Y)<|bN Y Y
  unfold fP;exact bW<|aB (dF h1)<|aB (a:=true) (bA Y<|aB Y<|aB (dT (by omega)) Y)<|aB (a:=true) (bN Y Y)<|aB (a:=true) (bN Y Y)<|bN Y Y
 by_cases h3:c<0
 ·refine .inl ⟨1,?_,?_⟩
  ·unfold bY;exact aB ms<|bA Y<|bW<|aB (dF h1)<|aB (a:=false) (bA Y<|aB Y<|aB (dF (by omega)) Y)<|aB (a:=true) (bA Y<|aB (dT h3) Y)<|aB (a:=true) (bN Y Y)<|bN Y Y
  unfold fP;exact bW<|aB (dF h1)<|aB (a:=false) (bA Y<|aB Y<|aB (dF (by omega)) Y)<|aB (a:=true) (bA Y<|aB (dT h3) Y)<|aB (a:=true) (bN Y Y)<|bN Y Y
 by_cases h4:((n+m:Nat):Int)<=c
 ·refine .inl ⟨1,?_,?_⟩
  ·unfold bY;exact aB ms<|bA Y<|bW<|aB (dF h1)<|aB (a:=false) (bA Y<|aB Y<|aB (dF (by omega)) Y)<|aB (a:=false) (bA Y<|aB (dF h3) Y)<|aB (a:=true) (bA Y<|aB wd<|aB (dT h4) Y)<|bN Y Y
  unfold fP;exact bW<|aB (dF h1)<|aB (a:=false) (bA Y<|aB Y<|aB (dF (by omega)) Y)<|aB (a:=false) (bA Y<|aB (dF h3) Y)<|aB (a:=true) (bA Y<|aB Y<|aB (congrArg some hw)<|aB (dT h4) Y)<|bN Y Y
 obtain⟨r,rfl⟩:∃k:Nat,r=(k:Int):=⟨r.toNat,by omega⟩;obtain⟨c,rfl⟩:∃k:Nat,c=(k:Int):=⟨c.toNat,by omega⟩;have hr:r<m:=by omega
 have hc:c<n+m:=by omega
 have g1:(mq m (λ_=>n+m+1) F)[r]? =some (vq (n+m+1) (F r)):=fD hr;have g2:(vq (n+m+1) (F r))[c]? =some (qn (F r c)):=ju (by omega);have k1:(mq m (λ_=>n+m) F)[r]? =some (vq (n+m) (F r)):=fD hr;have k2:(vq (n+m) (F r))[c]? =some (qn (F r c)):=ju hc;have sg:=((h.f r hr c).rep h.l1).sign (by omega);have rsg:=((h.f r hr c).rep h.l1).Qo (by omega);have QD:r<(mq m (λ_=>n+m+1) F).length:=by rw[cK];exact hr
 have bg:∀j,j<m->(bq m b)[j]? =some ((b j:Nat):Int):=λj hj=>sV hj;by_cases h5:∀j,j<m->b j≠c
 ·by_cases h6:F r c=0
  ·refine .inl ⟨7,?_,?_⟩
   ·unfold bY;generalize bq m b=B at*;generalize mq m (λ_=>n+m+1) F=rows at*;refine aB ms<|bA Y<|bW<|aB (dF (by omega))<|aB (a:=false) (bA Y<|aB Y<|aB (dF (by omega)) Y)<|aB (a:=false) (bA Y<|aB (dF (by omega)) Y)<|aB (a:=false) (bA Y<|aB wd<|aB (dF (by omega)) Y)<|bA Y<|aB Y ?_;refine bG (λk=>(k:Int)) m (.inl ()) Y (λk hk=>?_) ?_ ?_
    ·exact aB (dT (by omega))<|bN Y<|aB (cE (by omega))<|aB (bg k hk)<|aB (dF (by have:=h5 k hk;omega))<|bA Y<|aB (congrArg some (bM (by omega))) Y
    ·exact aB (dF (by omega))<|bA Y Y
    generalize qn (F r c)=q at*;obtain⟨⟨_,_⟩,⟨_,_⟩⟩:=q;exact aB (cE QD)<|aB g1<|aB (bC g2)<|aB sg<|aB (dT (nk.2 h6))<|bN Y Y
   unfold fP;generalize bq m b=B at*;generalize mq m (λ_=>n+m) F=rows at*;refine bW<|aB (dF (by omega))<|aB (a:=false) (bA Y<|aB Y<|aB (dF (by omega)) Y)<|aB (a:=false) (bA Y<|aB (dF (by omega)) Y)<|aB (a:=false) (bA Y<|aB Y<|aB (congrArg some hw)<|aB (dF (by omega)) Y)<|bA Y ?_;refine bG (λk=>(k:Int)) m (.inl ()) Y (λk hk=>?_) ?_ ?_
   ·exact aB Y<|aB (dT (by omega))<|bN Y<|aB (bC (bg k hk))<|aB (dF (by have:=h5 k hk;omega))<|bA Y<|aB (congrArg some (bM (by omega))) Y
   ·exact aB Y<|aB (dF (by omega))<|bA Y Y
   generalize qn (F r c)=q at*;obtain⟨⟨_,_⟩,⟨_,_⟩⟩:=q;exact aB eR<|aB (bC k1)<|aB (bC k2)<|aB rsg<|aB (dT (nk.2 h6))<|bN Y Y
  refine .inr ⟨r,c,hr,hc,h6,Sy h hL hr hc h5 h6,?_⟩;have ap:mQ 8 [] (bq m b)=some (bq m b):=Ys (by decide) (by simp only[List.length_nil];omega);have bs:(bq m b).set r (c:Int)=bq m (λj=>if j=r then c else b j):=Y4 hr;rw[<-bs];unfold fP;generalize bq m b=B at*;generalize mq m (λ_=>n+m) F=rows at*;refine bW<|aB (dF (by omega))<|aB (a:=false) (bA Y<|aB Y<|aB (dF (by omega)) Y)<|aB (a:=false) (bA Y<|aB (dF (by omega)) Y)<|aB (a:=false) (bA Y<|aB Y<|aB (congrArg some hw)<|aB (dF (by omega)) Y)<|bA Y ?_;refine bG (λk=>(k:Int)) m (.inl ()) Y (λk hk=>?_) ?_ ?_
  ·exact aB Y<|aB (dT (by omega))<|bN Y<|aB (bC (bg k hk))<|aB (dF (by have:=h5 k hk;omega))<|bA Y<|aB (congrArg some (bM (by omega))) Y
  ·exact aB Y<|aB (dF (by omega))<|bA Y Y
  have nz:pg (F r c) 0≠0:=λe=>h6 (nk.1 e);generalize qn (F r c)=q at*;obtain⟨⟨_,_⟩,⟨_,_⟩⟩:=q;exact aB eR<|aB (bC k1)<|aB (bC k2)<|aB rsg<|aB (dF nz)<|bA Y<|aB ap<|aB (cE (by omega))<|aB (fz (by omega)) Y
 refine .inl ⟨1,?_,?_⟩
 ·unfold bY;generalize bq m b=B at*;generalize mq m (λ_=>n+m+1) F=rows at*;refine aB ms<|bA Y<|bW<|aB (dF (by omega))<|aB (a:=false) (bA Y<|aB Y<|aB (dF (by omega)) Y)<|aB (a:=false) (bA Y<|aB (dF (by omega)) Y)<|aB (a:=false) (bA Y<|aB wd<|aB (dF (by omega)) Y)<|bA Y<|aB Y ?_;refine aB (sS (n:=m) (p:=λj=>b j≠c) (e:=(1,mq p (λ_=>n) O,B,rows)) (λk hk=>?_) (aB (dF (by omega))<|bA Y Y)) ?_
  ·refine aB (dT (by omega))<|bN Y<|aB (cE (by omega))<|aB (bg k hk)<|aB Y ?_;by_cases q:b k=c
   ·rw[if_neg (λe=>e q)];exact bN (decide_eq_true (show((b k:Nat):Int)=(c:Int) by omega)) Y
   rw[if_pos q];exact bA (decide_eq_false (show ¬((b k:Nat):Int)=(c:Int) by omega))<|aB (congrArg some (bM (by omega))) Y
  rw[if_neg h5]
 unfold fP;generalize bq m b=B at*;refine bW<|aB (dF (by omega))<|aB (a:=false) (bA Y<|aB Y<|aB (dF (by omega)) Y)<|aB (a:=false) (bA Y<|aB (dF (by omega)) Y)<|aB (a:=false) (bA Y<|aB Y<|aB (congrArg some hw)<|aB (dF (by omega)) Y)<|bA Y ?_;refine aB (sS (n:=m) (p:=λj=>b j≠c) (e:=((1:Int),B)) (λk hk=>?_) (aB Y<|aB (dF (by omega))<|bA Y Y)) ?_
 ·refine aB Y<|aB (dT (by omega))<|bN Y<|aB (bC (bg k hk)) ?_;by_cases q:b k=c
  ·rw[if_neg (λe=>e q)];exact aB (dT (by omega))<|bN Y Y
  rw[if_pos q];exact aB (dF (by omega))<|bA Y<|aB (congrArg some (bM (by omega))) Y
 rw[if_neg h5]
theorem Zt(h:uY L n m p O F b){c:Int}(hc:c<0\/((n+m:Nat):Int)<=c):dz (HR n m p O F b) c=some []:=by
 unfold dz;rcases hc with hc|hc
 ·exact bW<|aB (kS n m p O F b)<|aB (a:=true) (bA Y<|aB (dT hc) Y)<|aB (a:=true) (bN Y Y)<|bN Y Y
 exact bW<|aB (kS n m p O F b)<|aB (a:=false) (bA Y<|aB (dF (by omega)) Y)<|aB (a:=true) (bA Y<|aB (FX h.hn h.hm)<|aB (dT hc) Y)<|bN Y Y
end tab
end
section
open Go.Fw
theorem NX(q:Lr)(l:List Pv)(col:Int)(op:OkL q)(ol:l.length<=9223372036854775807/\∀v∈l,ase v)(_oc: -9223372036854775808<=col/\col<=9223372036854775807):jr q l col=some true:=by
 obtain⟨n,ob,rw,bd⟩:=q;obtain⟨on,oo,or_,ob_⟩:=op;replace oo:OkM ob:=oo;replace or_:OkM rw:=or_;replace ob_:OkV bd:=ob_;obtain⟨b1,e1,s1⟩:=Zf (n:=n) (ob:=ob) (rw:=rw) (bd:=bd);have v:=ahy (n:=n) (ob:=ob) (rw:=rw) (bd:=bd);have my:=alj (n:=n) (ob:=ob) (rw:=rw) (bd:=bd);have no:(gP.bind λx=>some x)=some true:=aB Qw Y;unfold jr;by_cases hv:K0 n ob rw bd
 ·have main:og ⟨n,ob,rw,bd⟩ l col=some true:=by
   rw[decide_eq_true hv]at v my;unfold og;refine bW<|aB e1<|Kc (λ_=>aB Y<|aB Y Y)<|J0 (λ_=>al7) (λhb=>?_);simp only[Bool.or_eq_false_iff,decide_eq_false_iff_not]at hb;obtain⟨E4,J6⟩:=hb;obtain⟨s6,s7⟩:=s1 E4;obtain⟨hr5,hn6⟩:=s7 hv;obtain⟨v1,v2,v3,v4,v5,v6,v7,v8⟩:=id hv;obtain⟨n,rfl⟩:∃k:Nat,n=(k:Int):=⟨n.toNat,by omega⟩;have ro:=ael oo s6.so;have rr:=ael or_ s6.sr;have hbd:bd.take (min bd.length 20)=bd:=by rw[show min bd.length 20=bd.length by omega,List.take_length]
   have sb:=s6.sb;rw[hbd]at sb;have rb:=ali ob_ sb;generalize Sv ob=O at ro;generalize Sv rw=R at rr;generalize NK bd=g at rb;have eN:=ale (n:=n) ro rr rb (by decide) (by decide) (by decide) hv;have k0:=T0 (n:=n) ro rr rb (by decide) hv;obtain⟨m,hm⟩:∃m,rw.length=m:=⟨_,Y⟩;obtain⟨p,hp⟩:∃p,ob.length=p:=⟨_,Y⟩;rw[hm,hp]at k0 eN;have m5:m<=5:=by omega
   have n6:n<=6:=by omega
   have bg:=ahP (ob:=ob) (bd:=bd) (n:=n) hm (by omega) (by omega);have every:∀(L:Nat) (F:Nat->Nat->Rat) (b:Nat->Nat),uY L n m p O F b->Uc m F b->(∀z,EU n m F z↔EU n m (sW n m R g) z)->uY 6485 n m p O F b/\iJ ⟨⟨(n:Int),ob,rw,bd⟩,bq m b⟩=some (mq m (λ_=>n+m) F)/\k7 (HR n m p O F b) ⟨⟨(n:Int),ob,rw,bd⟩,bq m b⟩=some true:=λL F b ht hu hz=>by
    have h1:=short ht hu k0 FY hz m5;obtain⟨_,i2,i3⟩:=aly (ob':=ob) rr rb hm (by omega) m5 (by omega) ht.hb hu (λz=>(hz z).symm);exact⟨h1,i2,is7 ro hp hm m5 h1 i2 i3⟩
   obtain⟨_,_,is0⟩:=every 6 _ _ k0 FY (λ_=>Iff.rfl);have cl:=ahO k0 (by decide);refine aB eN<|aB my<|aB Y<|bA Y<|aB bg<|bW<|aB (a:=false) (bA Y<|aB is0<|aB Y Y)<|bA Y<|aB cl ?_;refine iU (λs=>∃(k:Nat) (F:Nat->Nat->Rat) (b:Nat->Nat),s=((k:Int),bq m b,mq p (λ_=>n) O,bq m b,mq m (λ_=>n+m+1) F)/\k<=l.length/\uY 6485 n m p O F b/\Uc m F b/\∀z,EU n m F z↔EU n m (sW n m R g) z) (λe=>∃(F:Nat->Nat->Rat) (b:Nat->Nat),e=.inl (bq m b,mq p (λ_=>n) O,bq m b,mq m (λ_=>n+m+1) F)/\uY 6485 n m p O F b/\Uc m F b/\∀z,EU n m F z↔EU n m (sW n m R g) z) (λs=>l.length-s.1.toNat) ?_ ⟨0,_,_,Y,Nat.zero_le _,k0.mono (by omega),FY,λ_=>Iff.rfl⟩ ?_
   ·rintro _ ⟨k,F,b,rfl,hk,ht,hu,hz⟩;by_cases hlt:k<l.length
    ·left;have gk:=List.getElem?_eq_getElem hlt;generalize l[k]=w at gk;obtain⟨r,c⟩:=w;obtain⟨_,i2,is1⟩:=every _ F b ht hu hz;rcases ab2 ht (by omega) hm i2 r c with⟨e,tp,rp⟩|⟨r',c',hr,hc,h0,tp,rp⟩
     ·refine⟨(((k+1:Nat):Int),bq m b,mq p (λ_=>n) O,bq m b,mq m (λ_=>n+m+1) F),?_,⟨k+1,F,b,Y,hlt,ht,hu,hz⟩,by simp only[Int.toNat_natCast];omega⟩;exact aB Y<|aB (dT (by omega))<|bN Y<|bW<|aB (bC gk)<|aB (bC gk)<|aB tp<|aB (bC gk)<|aB (bC gk)<|aB rp<|aB (dF (λq=>q Y))<|aB (a:=false) (bA Y<|aB is1<|aB Y Y)<|bA Y<|aB (congrArg some (bM (by omega))) Y
     have t1:=NU ht hr hc h0;have u1:=Qq hr h0 hu;have z1:∀z,EU n m (jX F r' c') z↔EU n m (sW n m R g) z:=λz=>(T3 hr h0).trans (hz z);obtain⟨t2,_,is2⟩:=every _ _ _ t1 u1 z1;refine⟨(((k+1:Nat):Int),bq m (λj=>if j=r' then c' else b j),mq p (λ_=>n) O,bq m (λj=>if j=r' then c' else b j),mq m (λ_=>n+m+1) (jX F r' c')),?_,⟨k+1,_,_,Y,hlt,t2,u1,z1⟩,by simp only[Int.toNat_natCast];omega⟩;exact aB Y<|aB (dT (by omega))<|bN Y<|bW<|aB (bC gk)<|aB (bC gk)<|aB tp<|aB (bC gk)<|aB (bC gk)<|aB rp<|aB (dF (λq=>q Y))<|aB (a:=false) (bA Y<|aB is2<|aB Y Y)<|bA Y<|aB (congrArg some (bM (by omega))) Y
    right;exact⟨_,aB Y<|aB (dF (by omega))<|bA Y Y,F,b,Y,ht,hu,hz⟩
   rintro _ ⟨F,b,rfl,ht,hu,hz⟩;obtain⟨_,i2,_⟩:=every _ F b ht hu hz;obtain⟨K,hK⟩:∃K,K=6485:=⟨_,Y⟩;rw[<-hK]at ht;have hX5:(m+1)*(K+K+1)<=6*(K+K+1):=Nat.mul_le_mul_right _ (by omega);have hX:m*(K+K+1)+(K+K+1)<=6*(K+K+1):=by rw[<-Nat.succ_mul];exact hX5
   have rc:=Zp (bd:=bd) ro (by decide) hp hm ht (by omega) i2;have rl:=cK (n+m) (λ_=>p+n) (oU n m p O F b);by_cases hc:0<=col/\col<((n+m:Nat):Int)
   ·obtain⟨c,rfl⟩:∃c:Nat,col=(c:Int):=⟨col.toNat,by omega⟩;have hcn:c<n+m:=by omega
    obtain⟨tc,tr⟩:=J1 ht (by omega) hcn;have gc:(mq (n+m) (λ_=>p+n) (oU n m p O F b))[c]? =some (vq (p+n) (oU n m p O F b c)):=fD hcn;have si:=tr.ris (by omega) (by rw[bZ];have:=ht.hp;omega);generalize mq (n+m) (λ_=>p+n) (oU n m p O F b)=cs at*;exact aB rc<|aB tc<|bW<|aB (dF (by omega))<|aB (a:=false) (bA Y<|aB Y<|aB (dF (by omega)) Y)<|bA Y<|bW<|aB (bC gc)<|aB si<|aB (a:=true) (bN Y<|aB bg<|aB is0 Y)<|aB (a:=true) (bN Y al7) Y
   have tc:=Zt ht (c:=col) (by omega);generalize mq (n+m) (λ_=>p+n) (oU n m p O F b)=cs at*;refine aB rc<|aB tc<|bW<|aB Y<|aB (a:=true) ?_<|bN Y<|bW<|aB Y<|aB (dT Y)<|aB (a:=true) (bN Y<|aB bg<|aB is0 Y)<|aB (a:=true) (bN Y no)<|aB (a:=true) (bN Y al7) Y;by_cases q:col<0
   ·exact bN (decide_eq_true q) Y
   exact bA (decide_eq_false q)<|aB Y<|aB (dT (by omega)) Y
  rw[if_pos main]
 have main:uB ⟨n,ob,rw,bd⟩ l col=some true:=by
  rw[decide_eq_false hv]at v my;have nz:=alm v;unfold uB;refine bW<|aB e1<|Kc (λ_=>aB Y<|aB Y Y)<|J0 (λ_=>al7) (λhb=>?_);exact aB nz<|aB my<|aB Y<|bN Y<|bW<|aB Qw<|aB (a:=true) (bN Y al7) Y
 by_cases q:og ⟨n,ob,rw,bd⟩ l col=some true
 ·rw[if_pos q]
 rw[if_neg q,main]
end
section
open Go.Fw Go.RowKit Go.ChangeShapes Go.WideShapes Go.ChangeAt
set_option linter.unusedVariables false
set_option maxRecDepth 100000 in
theorem zk(H:Type)(enc:TypeId×Value->H)(W:World)(base:Nat)(args:Array Value)(ds gs:List (DataW H))(before:List MemPlace)
  (hval:∀(j:Nat) t v,Tryz.f4.params[j]? =some t->args[j]? =some v->Value.okWide ah W .any base t v)
  (hW:DataW.Whole enc ah Tryz.f4.params.toList Rows.tableauMatchesSpec.vars false W args.toList ds gs before):
  Calls ah 4 args W λe W'=>∃v,e=.returned v/\Rows.tableauMatchesSpec.post enc ah Tryz.f4 false true false false W args v W':=by
 have hW':=hW;obtain⟨p,q,hA0,hV,rfl,hfz,hnd⟩:=hW;have hA:DataW.TrodAll enc ah W 0 (λ_=>true) true Tryz.f4.params.toList args.toList ds p:=hA0;rw[Tryz.params4]at hA hval;obtain⟨v0,Zx,d0,ds0,p0,q0,hargs,rfl,rfl,h0,r0⟩:=trodAll_cons hA;obtain⟨v1,vs1,d1,ds1,p1,q1,rfl,rfl,rfl,h1,r1⟩:=trodAll_cons r0;obtain⟨v2,vs2,d2,ds2,p2,q2,rfl,rfl,rfl,h2,r2⟩:=trodAll_cons r1;obtain⟨rfl,rfl,rfl⟩:=trodAll_nil r2;obtain rfl:args=#[v0,v1,v2]:=by cases args;simp_all
 obtain⟨rfl,rfl⟩:=trodVars_none hV;have lt0:∀x∈p0,x.block<W.heap.size:=by obtain⟨m,hm⟩:=h0;exact DataW.trod_lt m _ _ _ hm
 obtain⟨x0,ok0,sz0,al0⟩:=aaf (P:=ah) (T:=25) (e:=Ol) (hval 0 25 v0 Y Y) h0;have lt1:∀x∈p1,x.block<W.heap.size:=by obtain⟨m,hm⟩:=h1;exact DataW.trod_lt m _ _ _ hm
 obtain⟨x1,ok1,sz1,al1⟩:=SS (P:=ah) (T:=26) (e:=(eS 2 V1)) (hval 1 26 v1 Y Y) h1;have lt2:∀x∈p2,x.block<W.heap.size:=by obtain⟨m,hm⟩:=h2;exact DataW.trod_lt m _ _ _ hm
 obtain⟨x2,ok2,sz2,al2⟩:=SS (P:=ah) (T:=3) (e:=bH) (hval 2 3 v2 Y Y) h2;clear hA0;refine(aag (yZ (NX x0 x1 x2 ok0 ok1 ok2)) (W:=W) (vs:=[v0,v1,v2]) ⟨al0,al1.1,al2.1,aq⟩).mono λe W' ⟨he,bel⟩=>?_;subst he;exact⟨_,rfl,_,_,_,[],_,[],hW',trodAll_mk1 (shut_bool Tryz.underlying4 _),(trodAll_cons_mk (Below.trod Io (by kernel_rfl) (of_decide_eq_true (by kernel_rfl)) h0 bel lt0) (trodAll_cons_mk (Below.trod Io (by kernel_rfl) (of_decide_eq_true (by kernel_rfl)) h1 bel lt1) (trodAll_cons_mk (Below.trod Io (by kernel_rfl) (of_decide_eq_true (by kernel_rfl)) h2 bel lt2) trodAll_mk0))),rfl,bel.frame _,λh=>by cases h⟩
set_option maxRecDepth 100000 in
theorem Ax(os:Os)(started:os.Started)(H:Type)(enc:TypeId×Value->H):
  ReturnsInHanded {} Tryz.checked os 4 .any (Rows.tableauMatchesSpec.pre6 enc ah Tryz.f4 Rows.tableauMatchesRow.domain false) (Rows.tableauMatchesSpec.post enc ah Tryz.f4 false true false false):=by
 refine returnsInHanded_of_change (C:=Tryz.checked) am8 started (by kernel_rfl) Tryz.func4
  (ChangeSpec.witness6 (enc:=enc) (C:=Tryz.checked) false ⟨#[],#[.agg #[.int .i64 0,.slice none 0 0,.slice none 0 0,.slice none 0 0],.slice none 0 0,.int .i64 0],[]⟩ 8 (by kernel_rfl) (by kernel_rfl) (by kernel_rfl) (by kernel_rfl)) ?_
 intro W base args ds gs before hval hW _ _;exact zk H enc W base args ds gs before hval hW
theorem tableauMatches_holds:Rows.TableauMatchesSaid:=
 OpenClaim.holds_of_wide 4 Tryz.f4 Y Y Y Y Y Y Y ⟨Y,Y,Y,Y,Y⟩ Y Y Y Y Y (by kernel_rfl) Tryz.func4 (by kernel_rfl)
  (of_decide_eq_true (by kernel_rfl)) (by unfold Func.isWrapper;first|(rw[if_pos (by decide+kernel)];kernel_rfl)|(rw[if_neg (by decide+kernel)];exact⟨Y,Y⟩))
  (λos started H enc _=>Ax os started H enc)
end
end Go.Proofs.YtningmnklfpfjaaGreat
