/- The law TableauAtMatches answers true for every input. -/
import Derived.Test.YtningmnklfpfjaaGreatPSA5
set_option linter.unusedVariables false
set_option linter.unusedSimpArgs false
set_option linter.unusedSectionVars false
namespace Go.Proofs.YtningmnklfpfjaaGreat
section
open Go.Fw
theorem ahn{L M w:Nat}{rows:List (List Qr)}{b:List Qr}{A:Nat->Nat->Rat}{y:Nat->Rat}(h:jk L rows A)(hr:rows.length=w)(hc:oZ rows=w)(h1:1<=w)(hw:w<=90)(hb:ek M b y)(Mb:b.length=w)(hcan:∀i,b.getD i (⟨⟨false,[]⟩,⟨false,[]⟩⟩:Qr)=qn (y i))(hL:BH (max L M) (w+1)<=100000000)(hL2:BH L (w+1)<=100000000)(ind:L0 w w w A):
  ∃x,lf rows b=some (vq w x,[],0)/\(∀i,i<w->cw (λl=>A i l*x l) w=y i)/\∀l,l<w->FQ (BH (max L M) w) (x l):=by
 have l1:=h.l1;have LL:L<=100000000:=Nat.le_trans (BI L (show 0<=w+1 by omega)) hL2;have rc:=vw rows (by omega);rw[hc]at rc;have ew:=aeb h hb (by omega) hr Mb hc (by omega) (by omega) hcan;obtain⟨_,e1,d,H,pv,rfl,inv⟩:=HI (Qv (w:=w) h hb hr Mb) (cM _ _ _) (vT h1) (by omega) (by omega) hL;have hd:=inv.hd;have hp:=λk (hk:k<w)=>inv.Zm (m:=w) (by omega) (Zo ind) hk;have dg:=inv.diag hd hp;have hdw:d=w:=by
  obtain⟨s,hs,e⟩:=hp (w-1) (by omega);rw[dg s hs]at e;omega
 subst hdw;have ein:=rin (pv:=pv) (d:=d) d (by omega);rw[decide_eq_false (λ⟨s,hs,e⟩=>by rw[dg s hs]at e;omega)]at ein;have sol:=Zp inv Y dg;obtain⟨_,f1,d2,H2,pv2,rfl,inv2⟩:=HI h hr hc (by omega) (by omega) hL2;have hd2:=inv2.hd;obtain⟨N,en,n1,_⟩:=aec (by omega) hc (by omega) l1 (Nat.le_trans (BI L (show d2<=d+1 by omega)) (by omega)) (by omega) f1 inv2;obtain rfl:=n1 (λk hk=>inv2.Zm (Nat.le_refl d) ind hk);have eu:=oX (d:Int) (-1);rw[show(min ((d:Nat):Int) 65536).toNat=d by omega,dG (k:=λ_=>0) (λi _=>if_neg (by omega)),<-EP]at eu;refine⟨λl=>H l d,?_,sol,λl hl=>inv.f l hl d⟩;unfold lf;refine aB rc<|aB ew<|aB e1<|aB ein<|bG Y<|aB eu ?_;refine bH (λt=>((t:Int),vq d (λl=>if l<t then H l d else 0))) d (vq d (λl=>H l d)) (by simp) (λt ht=>?_) ?_ (aB en Y)
 ·have g0:(bq d pv)[t]? =some ((pv t:Nat):Int):=o9 ht;have g1:(mq d (λ_=>d+1) H)[t]? =some (vq (d+1) (H t)):=fu ht;have g2:(vq (d+1) (H t))[d]? =some (qn (H t d)):=iM (by omega);rw[dg t ht]at g0;have s:=uE (k:=d) (j:=t) (h:=λl=>if l<t then H l d else 0) (x:=H t d) ht;have s2:vq d (λi=>if i=t then H t d else if i<t then H i d else 0)=vq d (λl=>if l<t+1 then H l d else 0):=dG (λi _=>by
   by_cases e:i=t
   ·rw[if_pos e,if_pos (by omega),e]
   rw[if_neg e];by_cases e2:i<t
   ·rw[if_pos e2,if_pos (by omega)]
   rw[if_neg e2,if_neg (by omega)])
  rw[s2]at s;have ln:=cM d (λ_=>d+1) H;have lv:=bY d (λl=>if l<t then H l d else 0);rw[<-s];generalize vq d (λl=>if l<t then H l d else 0)=X at*;generalize qn (H t d)=q at*;obtain⟨⟨_,_⟩,⟨_,_⟩⟩:=q;exact aB (congrArg some (show((mq d (λ_=>d+1) H).length:Int)=(d:Int) by rw[ln]))<|aB (dT (by omega))<|bO Y<|aB (bz g0)<|aB (bz g1)<|aB (bz g2)<|aB (b9 (by omega))<|aB (dS (by omega))<|aB (congrArg some (bM (by omega))) Y
 have ln:=cM d (λ_=>d+1) H;rw[dG (k:=λl=>H l d) (λi hi=>if_pos hi)];exact aB (congrArg some (show((mq d (λ_=>d+1) H).length:Int)=(d:Int) by rw[ln]))<|aB (dF (by omega))<|bG Y Y
end
section
open Go.Fw
theorem abM{L w:Nat}{rows:List (List Qr)}{A:Nat->Nat->Rat}(h:jk L rows A)(hr:rows.length=w)(hc:oZ rows=w)(h1:1<=w)(hw:w<=90)(hL:BH L (w+1)<=100000000)(ind:L0 w w w A):
  ∃res,dN rows=some res/\∃N:Nat->Nat->Rat,res=(mq w (λ_=>w) N,0)/\(∀i k,i<w->k<w->cw (λl=>A i l*N l k) w=if i=k then 1 else 0)/\(∀i k,FQ (BH L w) (N i k))/\(∀i k,w<=i\/w<=k->N i k=0):=by
 have l1:=h.l1;have LL:BH L w<=100000000:=Nat.le_trans (BI L (show w<=w+1 by omega)) hL;unfold dN;refine BG (congrArg some (show(rows.length:Int)=(w:Int) by rw[hr])) ?_;refine zk (λs=>∃(k:Nat) (X:Nat->Nat->Rat),s=((k:Int),mq k (λ_=>w) X)/\k<=w/\(∀j l,FQ (BH L w) (X j l))/\(∀j l,k<=j\/w<=l->X j l=0)/\∀j,j<k->∀i,i<w->cw (λl=>A i l*X j l) w=if i=j then 1 else 0) (λe=>∃(X:Nat->Nat->Rat),e=.inl (mq w (λ_=>w) X)/\(∀j l,FQ (BH L w) (X j l))/\(∀j l,w<=j\/w<=l->X j l=0)/\∀j,j<w->∀i,i<w->cw (λl=>A i l*X j l) w=if i=j then 1 else 0) (λs=>w-s.1.toNat) ?_ ⟨0,λ_ _=>0,Y,Nat.zero_le _,λ_ _=>nN (EO l1 w),λ_ _ _=>Y,λj hj=>by omega⟩ ?_
 ·rintro _ ⟨k,X,rfl,hk,hf,hz,hs⟩;by_cases hlt:k<w
  ·have eu:=oX (w:Int) (k:Int);rw[show(min ((w:Nat):Int) 65536).toNat=w by omega]at eu;have ru:=Qp w (k:Int) (λ_=>by omega);obtain⟨x,ex,sx,fx⟩:=ahn h hr hc h1 hw (ru.mono l1) (bY _ _) (λi=>by
    by_cases hi:i<w
    ·rw[List.getD_eq_getElem?_getD,iM hi];rfl
    rw[List.getD_eq_getElem?_getD,List.getElem?_eq_none (by rw[bY];omega),if_neg (by omega)];rfl) (by rw[Nat.max_self];exact hL) hL ind
   rw[Nat.max_self]at fx;have ap:nD 24 (mq k (λ_=>w) X) [vq w x]=some (mq (k+1) (λ_=>w) (λj l=>if j=k then(if l<w then x l else 0)else X j l)):=by
    rw[nQ (by decide) (by rw[cM];omega),tw];congr 2
    ·exact kS (λj hj=>⟨Y,λl _=>by rw[if_neg (by omega)]⟩)
    congr 1;exact dG (λl hl=>by rw[if_pos Y,if_pos hl])
   refine⟨_,aB (dT (by omega))<|bO Y<|aB eu<|aB ex<|bW<|aB Y<|aB (a:=false) (bG Y<|aB Y<|aB Y Y)<|bG Y<|aB ap<|aB (congrArg some (bM (by omega))) Y,.inl ⟨_,Y,⟨k+1,_,Y,hlt,λj l=>?_,λj l hjl=>?_,λj hj i hi=>?_⟩,by simp only[Int.toNat_natCast];omega⟩⟩
   ·show FQ (BH L w) (if j=k then(if l<w then x l else 0)else X j l);split
    ·split
     ·exact fx l (by assumption)
     exact nN (EO l1 w)
    exact hf j l
   ·show(if j=k then(if l<w then x l else 0)else X j l)=0;by_cases e:j=k
    ·rw[if_pos e,if_neg (by omega)]
    rw[if_neg e];exact hz j l (by omega)
   show cw (λl=>A i l*(if j=k then(if l<w then x l else 0)else X j l)) w=_;by_cases e:j=k
   ·rw[cY (k:=λl=>A i l*x l) (λl hl=>by rw[if_pos e,if_pos hl]),sx i hi,e];by_cases q:i=k
    ·rw[if_pos q,if_pos (by omega)]
    rw[if_neg q,if_neg (by omega)]
   rw[cY (k:=λl=>A i l*X j l) (λl hl=>by rw[if_neg e])];exact hs j (by omega) i hi
  obtain rfl:k=w:=by omega
  exact⟨_,aB (dF (by omega))<|bG Y Y,.inr ⟨_,Y,X,Y,hf,hz,hs⟩⟩
 rintro _ ⟨X,rfl,hf,hz,hs⟩;have rX:jk (BH L w) (mq w (λ_=>w) X) X:=BE (λj _ l _=>hf j l) (λj _ l hl=>hz j l (.inr hl)) (λj hj l=>hz j l (.inl hj)) (EO l1 w);have pl:∀i j:Nat,i<w->j<w->eL 1 (⟨⟨false,[]⟩,⟨false,[]⟩⟩:Qr) (mq w (λ_=>w) X) [] (i:Int) (j:Int)=some (qn (X j i)):=λi j _ _=>by
  have e1:=NW rX (by omega) j i;unfold eL;generalize qn (X j i)=q at*;exact aB (dT (by decide))<|bO Y<|aB e1 Y
 have e3:=LY (F:=λi j=>X j i) (by omega) (by omega) pl;have rc:=vw (mq w (λ_=>w) X) (by rw[cM];omega);rw[vT h1]at rc;have et:mW (mq w (λ_=>w) X)=some (mq w (λ_=>w) (λi j=>X j i)):=by
  unfold mW;exact aB rc<|aB (congrArg some (show((mq w (λ_=>w) X).length:Int)=(w:Int) by rw[cM]))<|aB e3 Y
 exact⟨_,aB et Y,λi j=>X j i,Y,λi k hi hk=>hs k hk i hi,λi k=>hf k i,λi k q=>hz k i (by omega)⟩
end
section
open Go.Fw
theorem Vg{L M w:Nat}{rows:List (List Qr)}{b:List Qr}{A:Nat->Nat->Rat}{y:Nat->Rat}(h:jk L rows A)(hr:rows.length=w)(hc:oZ rows=w)(h1:1<=w)(hw:w<=90)(hb:ek M b y)(Mb:b.length=w)(hcan:∀i,b.getD i (⟨⟨false,[]⟩,⟨false,[]⟩⟩:Qr)=qn (y i))(hL:BH (max L M) (w+1)<=100000000)(hL2:BH L (w+1)<=100000000)(Qw:¬L0 w w w A):
  ∃res,lf rows b=some res/\(res.2.2≠0\/0<res.2.1.length):=by
 have l1:=h.l1;have LL:L<=100000000:=Nat.le_trans (BI L (show 0<=w+1 by omega)) hL2;have rc:=vw rows (by omega);rw[hc]at rc;have ew:=aeb h hb (by omega) hr Mb hc (by omega) (by omega) hcan;obtain⟨_,e1,d,H,pv,rfl,inv⟩:=HI (Qv (w:=w) h hb hr Mb) (cM _ _ _) (vT h1) (by omega) (by omega) hL;have hd:=inv.hd;have ein:=rin (pv:=pv) (d:=d) w (by omega);obtain⟨_,f1,d2,H2,pv2,rfl,inv2⟩:=HI h hr hc (by omega) (by omega) hL2;have hd2:=inv2.hd;obtain⟨N,en,_,n2⟩:=aec (by omega) hc (by omega) l1 (Nat.le_trans (BI L (show d2<=w+1 by omega)) (by omega)) (by omega) f1 inv2;have hN:=n2 (λhp=>Qw (inv2.dep (Nat.le_refl w) hp));unfold lf;refine BG rc<|BG ew<|BG e1<|BG ein ?_;by_cases q:∃s,s<d/\pv s=w
 ·exact exT (decide_eq_true q) ⟨_,Y,.inl (by decide)⟩
 refine exF (decide_eq_false q) ?_;have eu:=oX (w:Int) (-1);rw[<-EP]at eu;refine BG eu ?_;refine zk (λs=>∃(t:Nat) (xs:List Qr),s=((t:Int),xs)/\xs.length=w) (λxs=>xs.length=w) (λs=>d-s.1.toNat) ?_ ⟨0,_,Y,by rw[bY];omega⟩ (λxs _=>⟨_,aB en Y,.inr hN⟩);rintro _ ⟨t,xs,rfl,hx⟩;have ln:=cM d (λ_=>w+1) H;by_cases ht:t<d
 ·have g0:(bq d pv)[t]? =some ((pv t:Nat):Int):=o9 ht;have g1:(mq d (λ_=>w+1) H)[t]? =some (vq (w+1) (H t)):=fu ht;have g2:(vq (w+1) (H t))[w]? =some (qn (H t w)):=iM (by omega);have hp:=inv.pl t ht;have hne:pv t≠w:=λe=>q ⟨t,ht,e⟩;generalize qn (H t w)=q1 at*;obtain⟨⟨_,_⟩,⟨_,_⟩⟩:=q1;exact⟨_,aB (congrArg some (show((mq d (λ_=>w+1) H).length:Int)=(d:Int) by rw[ln]))<|aB (dT (by omega))<|bO Y<|aB (bz g0)<|aB (bz g1)<|aB (bz g2)<|aB (b9 (by omega))<|aB (dS (by omega))<|aB (congrArg some (bM (by omega))) Y,.inl ⟨_,Y,⟨t+1,_,Y,by rw[List.length_set];exact hx⟩,by simp only[Int.toNat_natCast];omega⟩⟩
 exact⟨_,aB (congrArg some (show((mq d (λ_=>w+1) H).length:Int)=(d:Int) by rw[ln]))<|aB (dF (by omega))<|bG Y Y,.inr ⟨_,Y,hx⟩⟩
end
section
open Go.Fw
theorem abN{L w:Nat}{rows:List (List Qr)}{A:Nat->Nat->Rat}(h:jk L rows A)(hr:rows.length=w)(hc:oZ rows=w)(h1:1<=w)(hw:w<=90)(hL:BH L (w+1)<=100000000)(Qw:¬L0 w w w A):dN rows=some ([],8):=by
 have l1:=h.l1;have eu:=oX (w:Int) ((0:Nat):Int);rw[show(min ((w:Nat):Int) 65536).toNat=w by omega]at eu;have ru:=Qp w ((0:Nat):Int) (λ_=>by omega);obtain⟨⟨x,N,e⟩,ex,hx⟩:=Vg h hr hc h1 hw (ru.mono l1) (bY _ _) (λi=>by
  by_cases hi:i<w
  ·rw[List.getD_eq_getElem?_getD,iM hi];rfl
  rw[List.getD_eq_getElem?_getD,List.getElem?_eq_none (by rw[bY];omega),if_neg (by omega)];rfl) (by rw[Nat.max_self];exact hL) hL Qw
 replace hx:e≠0\/0<N.length:=hx;unfold dN;refine aB (congrArg some (show(rows.length:Int)=(w:Int) by rw[hr])) ?_;refine bH (λk=>((k:Int),([]:List (List Qr)))) 0 (.inr ([],8)) Y (λk hk=>by omega) ?_ Y;refine aB (dT (by omega))<|bO Y<|aB eu<|aB ex<|bW ?_;by_cases q:e=0
 ·have hn:0<N.length:=by
   rcases hx with w1|w1
   ·exact absurd q w1
   exact w1
  exact aB (dF (λw1=>w1 q))<|aB (a:=true) (bG Y<|aB Y<|aB (dT (by omega)) Y)<|bO Y Y
 exact aB (dT q)<|aB (a:=true) (bO Y Y)<|bO Y Y
end
section
open Go.Fw
theorem linv{m:Nat}{B N:Nat->Nat->Rat}(ind:L0 m m m B)(hN:∀i k,i<m->k<m->cw (λl=>B i l*N l k) m=if i=k then 1 else 0){i k:Nat}(hi:i<m)(hk:k<m):cw (λl=>N i l*B l k) m=if i=k then 1 else 0:=by
 have e:=ind (λl=>if l<m then cw (λt=>N l t*B t k) m-(if l=k then 1 else 0)else 0) (λl hl=>if_neg (by omega)) (λj hj=>?_) i hi
 ·show _=_;have e2:(if i<m then cw (λt=>N i t*B t k) m-(if i=k then 1 else 0)else 0:Rat)=0:=e;rw[if_pos hi]at e2;grind
 have q:cw (λl=>B j l*cw (λt=>N l t*B t k) m) m=B j k:=by
  rw[show(λl=>B j l*cw (λt=>N l t*B t k) m)=λl=>cw (λt=>B j l*(N l t*B t k)) m from funext λl=>(pI _ _ _).symm,zj];rw[cY (k:=λt=>(if j=t then 1 else 0)*B t k) (λt ht=>?_),gj hj (λt _ hne=>by rw[if_neg (λq=>hne q.symm)];grind),if_pos rfl]
  ·grind
  rw[<-hN j t hj ht,Rat.mul_comm,<-pI];exact cY (λl _=>by grind)
 have q2:cw (λl=>B j l*(if l=k then 1 else 0)) m=B j k:=by
  rw[gj hk (λt _ hne=>by rw[if_neg hne];grind),if_pos rfl];grind
 show cw (λl=>B j l*(if l<m then cw (λt=>N l t*B t k) m-(if l=k then 1 else 0)else 0)) m=0;rw[cY (k:=λl=>B j l*cw (λt=>N l t*B t k) m-B j l*(if l=k then 1 else 0)) (λl hl=>by rw[if_pos hl];grind),zg,q,q2];grind
theorem Qx{m:Nat}{B N:Nat->Nat->Rat}{x y:Nat->Rat}(hl:∀i k,i<m->k<m->cw (λl=>N i l*B l k) m=if i=k then 1 else 0)(hE:∀i,i<m->x i=cw (λs=>B i s*y s) m){i:Nat}(hi:i<m):cw (λt=>N i t*x t) m=y i:=by
 rw[cY (k:=λt=>cw (λs=>N i t*(B t s*y s)) m) (λt ht=>by rw[hE t ht,pI]),zj];rw[cY (k:=λs=>(if i=s then 1 else 0)*y s) (λs hs=>?_),gj hi (λt _ hne=>by rw[if_neg (λq=>hne q.symm)];grind),if_pos rfl]
 ·grind
 rw[<-hl i s hi hs,Rat.mul_comm,<-pI];exact cY (λl _=>by grind)
section basis
variable {n m:Nat}{E G H:Nat->Nat->Rat}{c d:Nat->Nat}
theorem Zq(nO:∀j,j<m->c j<n+m)(hu:Uc m G c)(hs:∀z,CF n m E z↔CF n m G z):L0 m m m (λi s=>E i (c s)):=by
 intro z hz hn l hl;have one:∀(h:Nat->Rat) (i:Nat),i<m->cw (λj=>G i (c j)*h j) m=h i:=λh i hi=>by
  rw[gj hi (λj hj hne=>by rw[hu i j hi hj,if_neg (λq=>hne q.symm)];grind),hu i i hi hi,if_pos rfl];grind
 have s0:CF n m G (λl=>cw (λj=>if c j=l then G j (n+m)else 0) m):=λi hi=>by rw[xY nO,one _ i hi]
 have e0:=(hs _).2 s0;have s1:CF n m E (λl=>cw (λj=>if c j=l then G j (n+m)+z j else 0) m):=λi hi=>by
  have e:=e0 i hi;rw[xY nO]at e;have e2:cw (λl=>E i (c l)*z l) m=0:=hn i hi;rw[xY nO,cY (k:=λj=>E i (c j)*G j (n+m)+E i (c j)*z j) (λj _=>by grind),EG,e,e2];grind
 have g:=(hs _).1 s1 l hl;rw[xY nO,one _ l hl]at g;grind
theorem aho(hd:∀j,j<m->d j<n+m)(hu:Uc m H d)(hs:∀z,CF n m E z↔CF n m H z){k:Nat}(hk:k<m)(hck:c k<n+m)(hdc:∀s,s<k->d s=c s)(h0:∀q,k<=q->q<m->H q (c k)=0):¬L0 m m m (λi s=>E i (c s)):=by
 intro ind;have e:=ind (λs=>if s=k then 1 else if s<k then-H s (c k)else 0) (λl hl=>by show(if l=k then(1:Rat)else _)=0;rw[if_neg (by omega),if_neg (by omega)]) (λi hi=>?_) k hk
 ·have e2:(if k=k then(1:Rat)else if k<k then-H k (c k)else 0)=0:=e;rw[if_pos rfl]at e2;exact absurd e2 (by decide)
 have t:=FO hd hu (λz=>(hs z).2) hi (Nat.le_of_lt hck);show cw (λs=>E i (c s)*(if s=k then 1 else if s<k then-H s (c k)else 0)) m=0;have q:cw (λs=>E i (c s)*(if s=k then 1 else 0)) m=E i (c k):=by
  rw[gj hk (λs _ hne=>by rw[if_neg hne];grind),if_pos rfl];grind
 rw[cY (k:=λs=>E i (c s)*(if s=k then 1 else 0)-E i (d s)*H s (c k)) (λs hs'=>?_),zg,q,t]
 ·grind
 by_cases e1:s=k
 ·subst e1;rw[if_pos Y,if_pos Y,h0 s (Nat.le_refl _) hs'];grind
 by_cases e2:s<k
 ·rw[if_neg e1,if_neg e1,if_pos e2,hdc s e2];grind
 rw[if_neg e1,if_neg e1,if_neg e2,h0 s (by omega) hs'];grind
theorem Qy{p:Nat}{O:Nat->Nat->Rat}(k0:vv (Vr 0) n m p O E (λj=>n+j))(u0:Uc m E (λj=>n+j))(nO:∀j,j<m->c j<n+m)(ind:L0 m m m (λi s=>E i (c s))):∀k,k<=m->∃H d,vv (Vr k) n m p O H d/\Uc m H d/\(∀z,CF n m E z↔CF n m H z)/\∀s,s<k->d s=c s
 |0,_=>⟨E,_,k0,u0,λ_=>Iff.rfl,λs hs=>by omega⟩
 |k+1,hk=>by
  obtain⟨H,d,h1,h2,h3,h4⟩:=Qy k0 u0 nO ind k (by omega);have hlt:k<m:=by omega
  have ex:∃q,k<=q/\q<m/\H q (c k)≠0:=Classical.byContradiction λno=>aho h1.hb h2 h3 hlt (nO k hlt) h4 (λq q1 q2=>Classical.byContradiction λw=>no ⟨q,q1,q2,w⟩) ind;obtain⟨q,q1,q2,q3⟩:=ex;have s1:=h1.sw hlt q2;have h0:(λr=>H (sp k q r)) k (c k)≠0:=by
   show H (sp k q k) (c k)≠0;unfold sp;rw[if_pos rfl];exact q3
  refine⟨_,_,JN s1 hlt (nO k hlt) h0,JO hlt h0 (Zj h2 hlt q2),λz=>((h3 z).trans (SA hlt q2).symm).trans (NV hlt h0).symm,λs hs=>?_⟩;show(if s=k then c k else d (sp k q s))=c s;by_cases e:s=k
  ·rw[if_pos e,e]
  rw[if_neg e];unfold sp;rw[if_neg e,if_neg (by omega)];exact h4 s (by omega)
end basis
end
section
open Go.Fw
theorem ahp{m:Nat}(hm:m<=1000):rI (m:Int)=some (mq m (λ_=>m) (λi k=>if k=i then 1 else 0)):=by
 unfold rI;refine bH (λi=>((i:Int),mq i (λ_=>m) (λi k=>if k=i then 1 else 0))) m (mq m (λ_=>m) (λi k=>if k=i then 1 else 0)) Y (λi hi=>?_) (aB (EN (by omega))<|aB (dF (by omega))<|bG Y Y) Y;have eu:=oX (m:Int) (i:Int);rw[show(min ((m:Nat):Int) 65536).toNat=m by omega]at eu;have ap:nD 24 (mq i (λ_=>m) (λi k=>if k=i then 1 else 0)) [vq m (λl=>if(l:Int)=(i:Int)then 1 else 0)]=some (mq (i+1) (λ_=>m) (λi k=>if k=i then 1 else 0)):=by
  rw[nQ (by decide) (by rw[cM];omega),tw];congr 2;congr 1;exact dG (λl _=>by
   by_cases e:l=i
   ·rw[if_pos e,if_pos (by omega)]
   rw[if_neg e,if_neg (by omega)])
 exact aB (EN (by omega))<|aB (dT (by omega))<|bO Y<|aB (EN (by omega))<|aB eu<|aB ap<|aB (congrArg some (bM (by omega))) Y
def eqs(n m:Nat)(R:Nat->Nat->Rat)(i k:Nat):Rat:=if i<m then(if k<n then R i k else if k=n+i then 1 else 0)else 0
theorem akQ{L:Nat}(h:1<=L):FQ L 1:=FQ.int (i:=1) (L:=L) (by unfold Fit;exact Nat.lt_of_lt_of_le (by decide:(1:Int).natAbs<4294967296^1) (Nat.pow_le_pow_right (by decide) h)) h
theorem Zs{L n m:Nat}{rw:List (List Qr)}{R:Nat->Nat->Rat}(h:jk L rw R)(i k:Nat):FQ L (eqs n m R i k):=by
 unfold eqs;split
 ·split
  ·exact(h.row i).fq k
  split
  ·exact akQ h.l1
  exact nN h.l1
 exact nN h.l1
theorem TZ{n m i k:Nat}{R:Nat->Nat->Rat}{g:Nat->Rat}(hi:i<m)(hk:k<n+m):eqs n m R i k=pL n m R g i k:=by
 unfold eqs pL;rw[if_pos hi];by_cases q:k<n
 ·rw[if_pos q,if_pos q]
 rw[if_neg q,if_neg q];by_cases q2:k=n+i
 ·rw[if_pos q2,if_pos q2]
 rw[if_neg q2,if_neg q2,if_neg (by omega)]
theorem T0{L n m:Nat}{rw:List (List Qr)}{R:Nat->Nat->Rat}(h:jk L rw R):jk L (mq m (λ_=>n+m) (eqs n m R)) (eqs n m R):=
 BE (λi _ k _=>Zs h i k) (λi hi k hk=>by unfold eqs;rw[if_pos hi,if_neg (by omega),if_neg (by omega)]) (λi hi k=>by unfold eqs;rw[if_neg (by omega)]) h.l1
theorem JP{L n m:Nat}{ob rw:List (List Qr)}{bd:List Qr}{R:Nat->Nat->Rat}(h:jk L rw R)(hL:L<=1000000000)(hm:rw.length=m)(hmm:m<=100)(hn:n<=100):
  iY ⟨(n:Int),ob,rw,bd⟩=some (mq m (λ_=>n+m) (eqs n m R)):=by
 have l1:=h.l1;have ft:=akN h hL (a:=m) (b:=n) (by omega) (by omega);have um:=ahp (m:=m) (by omega);have eC:mq m (λ_=>n) R=mq m (λ_=>n) (λi k=>if i<m/\k<n then R i k else 0):=kS (λi hi=>⟨Y,λk hk=>by rw[if_pos ⟨hi,hk⟩]⟩);have rA:jk L (mq m (λ_=>n) R) (λi k=>if i<m/\k<n then R i k else 0):=by
  rw[eC];exact BE (λi hi k hk=>by
   show FQ L (if i<m/\k<n then R i k else 0);rw[if_pos ⟨hi,hk⟩];exact(h.row i).fq k) (λi hi k hk=>if_neg (by omega)) (λi hi k=>if_neg (by omega)) l1
 have eU:mq m (λ_=>m) (λi k=>if k=i then 1 else 0)=mq m (λ_=>m) (λi k=>if i<m/\k=i then 1 else 0):=kS (λi hi=>⟨Y,λk hk=>by
  by_cases e:k=i
  ·rw[if_pos e,if_pos ⟨hi,e⟩]
  rw[if_neg e,if_neg (λq=>e q.2)]⟩)
 have rU:jk L (mq m (λ_=>m) (λi k=>if k=i then 1 else 0)) (λi k=>if i<m/\k=i then 1 else 0):=by
  rw[eU];refine BE (λi hi k hk=>?_) (λi hi k hk=>if_neg (by omega)) (λi hi k=>if_neg (by omega)) l1;show FQ L (if i<m/\k=i then 1 else 0);split
  ·exact akQ l1
  exact nN l1
 have lA:=cM m (λ_=>n) R;have lU:=cM m (λ_=>m) (λi k=>if k=i then 1 else 0);obtain⟨w,cA,cU,hw⟩:∃w:Nat,cS (mq m (λ_=>n) R)=some (w:Int)/\cS (mq m (λ_=>m) (λi k=>if k=i then 1 else 0))=some (m:Int)/\(m=0/\w=0\/1<=m/\w=n):=by
  rw[vw _ (by omega),vw _ (by omega)];by_cases q:1<=m
  ·exact⟨n,by rw[vT q],by rw[vT q],.inr ⟨q,Y⟩⟩
  obtain rfl:m=0:=by omega
  exact⟨0,Y,Y,.inl ⟨Y,Y⟩⟩
 generalize mq m (λ_=>n) R=a at*;generalize mq m (λ_=>m) (λi k=>if k=i then 1 else 0)=u at*;have pl:∀i j:Nat,i<m->j<w+m->eL 3 ⟨⟨false,[]⟩,⟨false,[]⟩⟩ a u (i:Int) (j:Int)=some (qn (eqs n m R i j)):=λi j hi hj=>by
  have hwn:w=n:=by omega
  subst hwn;unfold eL;refine aB (dF (by decide))<|bG Y<|aB (dF (by decide))<|bG Y<|aB (dT (by decide))<|bO Y<|aB cA ?_;by_cases q:j<w
  ·have e:=NW rA (by omega) i j;have e2:eqs w m R i j=if i<m/\j<w then R i j else 0:=by unfold eqs;rw[if_pos hi,if_pos q,if_pos ⟨hi,q⟩]
   rw[e2];generalize qn (if i<m/\j<w then R i j else 0)=z at*;exact aB (dT (by omega))<|bO Y<|aB e Y
  have e:=NW rU (by omega) i (j-w);have e2:eqs w m R i j=if i<m/\j-w=i then 1 else 0:=by
   unfold eqs;rw[if_pos hi,if_neg q];by_cases e3:j=w+i
   ·rw[if_pos e3,if_pos ⟨hi,by omega⟩]
   rw[if_neg e3,if_neg (by omega)]
  rw[e2];generalize qn (if i<m/\j-w=i then 1 else 0)=z at*;exact aB (dF (by omega))<|bG Y<|aB cA<|aB (congrArg some (show IntKind.i64.wrap ((j:Int)-(w:Int))=((j-w:Nat):Int) by rw[cG (by omega) (by omega)];omega))<|aB e Y
 have e3:=LY (F:=eqs n m R) (show m<=1024 by omega) (show w+m<=1024 by omega) pl;have e4:mq m (λ_=>w+m) (eqs n m R)=mq m (λ_=>n+m) (eqs n m R):=kS (λi hi=>⟨by omega,λ_ _=>Y⟩);rw[e4]at e3;have bs:oq a u=some (mq m (λ_=>n+m) (eqs n m R)):=by
  unfold oq;refine aB Y<|aB Y<|aB (congrArg some (show max (a.length:Int) (u.length:Int)=(m:Int) by rw[lA,lU];omega))<|aB cA<|aB cU<|aB (congrArg some (show IntKind.i64.wrap ((w:Int)+(m:Int))=((w+m:Nat):Int) by rw[cG (by omega) (by omega)];omega))<|aB e3 Y
 unfold iY;exact aB (congrArg some (show(rw.length:Int)=(m:Int) by rw[hm]))<|aB ft<|aB (congrArg some (show(rw.length:Int)=(m:Int) by rw[hm]))<|aB um<|aB bs Y
end
section
open Go.Fw
theorem T1{L n m:Nat}{ob rw:List (List Qr)}{bd:List Qr}{R:Nat->Nat->Rat}{c:Nat->Nat}(h:jk L rw R)(hL:L<=1000000000)(hm:rw.length=m)(hmm:m<=100)(hn:n<=100):
  lj ⟨⟨(n:Int),ob,rw,bd⟩,bq m c⟩=some (mq m (λ_=>m) (λi k=>eqs n m R i (c k))):=by
 have re:=JP (ob:=ob) (bd:=bd) h hL hm hmm hn;have rr:=T0 (n:=n) (m:=m) h;have rl:=cM m (λ_=>n+m) (eqs n m R);have bl:=mZ m c;have bg:∀j,j<m->(bq m c)[j]? =some ((c j:Nat):Int):=λj hj=>o9 hj;unfold lj;refine aB re ?_;have at4:∀i j:Nat,fD (mq m (λ_=>n+m) (eqs n m R)) (i:Int) ((c j:Nat):Int)=some (qn (eqs n m R i (c j))):=λi j=>NW rr (by omega) i (c j);generalize mq m (λ_=>n+m) (eqs n m R)=a at*;generalize bq m c=bs at*;obtain⟨B,hB⟩:∃B:Nat->Nat->Rat,B=λi k=>eqs n m R i (c k):=⟨_,Y⟩;have at5:∀i j:Nat,fD a (i:Int) ((c j:Nat):Int)=some (qn (B i j)):=λi j=>by rw[hB];exact at4 i j
 rw[<-hB];clear hB at4;refine bH (λi=>((i:Int),mq i (λ_=>m) B)) m (mq m (λ_=>m) B) Y (λi hi=>?_) (aB (congrArg some (show(a.length:Int)=(m:Int) by rw[rl]))<|aB (dF (by omega))<|bG Y Y) Y;refine aB (congrArg some (show(a.length:Int)=(m:Int) by rw[rl]))<|aB (dT (by omega))<|bO Y ?_;refine bH (λj=>((j:Int),vq j (B i))) m (vq m (B i)) Y (λj hj=>?_) (aB (congrArg some (show(bs.length:Int)=(m:Int) by rw[bl]))<|aB (dF (by omega))<|bG Y Y) ?_
 ·have e1:=at5 i j;have e2:nD 64 (vq j (B i)) [qn (B i j)]=some (vq (j+1) (B i)):=by rw[nQ (by decide) (by rw[bY];omega),mY]
  generalize qn (B i j)=q at*;exact aB (congrArg some (show(bs.length:Int)=(m:Int) by rw[bl]))<|aB (dT (by omega))<|bO Y<|aB (bz (bg j hj))<|aB e1<|aB e2<|aB (congrArg some (bM (by omega))) Y
 have e3:nD 24 (mq i (λ_=>m) B) [vq m (B i)]=some (mq (i+1) (λ_=>m) B):=by
  rw[nQ (by decide) (by rw[cM];omega),tw]
 exact aB e3<|aB (congrArg some (bM (by omega))) Y
section mul
variable {L M r m w:Nat}{a b:List (List Qr)}{A B:Nat->Nat->Rat}
theorem abO(ha:jk L a A)(hb:jk M b B)(ca:cS a=some (m:Int))(hm:m<=1000)(hL:(m+1)*(L+M+1)+1<=2000000000)(i k:Nat):eL 2 ⟨⟨false,[]⟩,⟨false,[]⟩⟩ a b (i:Int) (k:Int)=some (qn (cw (λl=>A i l*B l k) m)):=by
 have hs:∀n,FQ (n*(L+M+1)+1) (cw (λl=>A i l*B l k) n):=λn=>NM (λl _=>((ha.row i).fq l).mul ((hb.row l).fq k));have hmm:∀n:Nat,n<=m->n*(L+M+1)<=m*(L+M+1):=λn hn=>Nat.mul_le_mul_right _ hn;rw[Nat.succ_mul]at hL;have l1:=ha.l1;have l2:=hb.l1;unfold eL;refine aB (dF (by decide))<|bG Y<|aB (dT (by decide))<|bO Y ?_;refine bH (λj=>((j:Int),(qn (cw (λl=>A i l*B l k) j)).num.neg,(qn (cw (λl=>A i l*B l k) j)).num.w,(qn (cw (λl=>A i l*B l k) j)).den.neg,(qn (cw (λl=>A i l*B l k) j)).den.w)) m
  ((qn (cw (λl=>A i l*B l k) m)).num.neg,(qn (cw (λl=>A i l*B l k) m)).num.w,(qn (cw (λl=>A i l*B l k) m)).den.neg,(qn (cw (λl=>A i l*B l k) m)).den.w) Y (λj hj=>?_) ?_ Y
 ·have hmj:=hmm j (by omega);have a1:=NW ha (by omega) i j;have a2:=NW hb (by omega) j k;have r1:=((ha.row i).fq j).rep l1;have r2:=((hb.row j).fq k).rep l2;have e1:=r1.YW r2 (by omega);have e3:=((hs j).rep (by omega)).abz ((((ha.row i).fq j).mul ((hb.row j).fq k)).rep (by omega)) (by omega);simp only[cw];generalize hq0:qn (cw (λl=>A i l*B l k) j)=q0 at e3⊢;generalize hq3:qn (cw (λl=>A i l*B l k) j+A i j*B j k)=q3 at e3⊢;generalize qn (A i j)=q1 at*;generalize qn (B j k)=q2 at*;generalize qn (A i j*B j k)=q4 at*;obtain⟨⟨_,_⟩,⟨_,_⟩⟩:=q0;obtain⟨⟨_,_⟩,⟨_,_⟩⟩:=q1;obtain⟨⟨_,_⟩,⟨_,_⟩⟩:=q2;obtain⟨⟨_,_⟩,⟨_,_⟩⟩:=q3;obtain⟨⟨_,_⟩,⟨_,_⟩⟩:=q4;exact aB ca<|aB (dT (by omega))<|bO Y<|aB a1<|aB a2<|aB e1<|aB e3<|aB (congrArg some (bM (by omega))) Y
 exact aB ca<|aB (dF (by omega))<|bG Y Y
theorem akR(ha:jk L a A)(hb:jk M b B)(la:a.length=r)(ca:cS a=some (m:Int))(cb:cS b=some (w:Int))(hr:r<=1024)(hw:w<=1024)(hm:m<=1000)(hL:(m+1)*(L+M+1)+1<=2000000000):
  mH a b=some (mq r (λ_=>w) (λi k=>cw (λl=>A i l*B l k) m)):=by
 have e:=LY (F:=λi k=>cw (λl=>A i l*B l k) m) hr hw (λi k _ _=>abO ha hb ca hm hL i k);unfold mH;exact aB (congrArg some (show(a.length:Int)=(r:Int) by rw[la]))<|aB cb<|aB e Y
theorem ahq{g:Nat->Rat}{bd:List Qr}(ha:∀i,i<r->ek L (vq m (A i)) (A i))(hb:ek M bd g)(Mb:bd.length=m)(hr:r<=1000)(hm:m<=1000)(hL:(m+2)*(L+M+1)<=4000000000):
  ny (mq r (λ_=>m) A) bd=some (vq r (λi=>cw (λl=>A i l*g l) m)):=by
 have ml:=cM r (λ_=>m) A;have mg:∀i,i<r->(mq r (λ_=>m) A)[i]? =some (vq m (A i)):=λi hi=>fu hi;obtain⟨D,hD⟩:∃D:Nat->Rat,D=λi=>cw (λl=>A i l*g l) m:=⟨_,Y⟩;have dot:∀i,i<r->qJ (vq m (A i)) bd=some (qn (D i)):=λi hi=>by
  have e:=Zn (ha i hi) hb (by rw[bY];exact hL) (by rw[bY];omega);rw[bY,Mb,Nat.min_self]at e;rw[hD];exact e
 rw[<-hD];clear hD;unfold ny;generalize mq r (λ_=>m) A=a at*;refine bH (λi=>((i:Int),vq i D)) r (vq r D) Y (λi hi=>?_) (aB (congrArg some (show(a.length:Int)=(r:Int) by rw[ml]))<|aB (dF (by omega))<|bG Y Y) Y;have e1:=dot i hi;have e2:nD 64 (vq i D) [qn (D i)]=some (vq (i+1) D):=by rw[nQ (by decide) (by rw[bY];omega),mY]
 generalize qn (D i)=q at*;exact aB (congrArg some (show(a.length:Int)=(r:Int) by rw[ml]))<|aB (dT (by omega))<|bO Y<|aB (bz (mg i hi))<|aB e1<|aB e2<|aB (congrArg some (bM (by omega))) Y
end mul
end
section
open Go.Fw
section val
variable {K L n m p:Nat}{ob rw:List (List Qr)}{bd:List Qr}{O G:Nat->Nat->Rat}{c:Nat->Nat}
theorem rvalue(ho:jk K ob O)(hK:K<=1000000000)(hp:ob.length=p)(hp4:p<=1000)(hn:n<=1000)(k:Nat):jD ⟨(n:Int),ob,rw,bd⟩ (k:Int)=some (vq (p+n) (r8 n p O k)):=by
 have at4:∀i:Nat,fD ob (i:Int) (k:Int)=some (qn (O i k)):=λi=>NW ho (by omega) i k;obtain⟨V,hV⟩:∃V:Nat->Rat,V=λi=>if i<p then O i k else if i=p+k then-1 else 0:=⟨_,Y⟩;have v1:∀i,i<p->V i=O i k:=λi hi=>by rw[hV];exact if_pos hi
 have v2:V (p+k)=-1:=by rw[hV];show(if p+k<p then _ else if p+k=p+k then(-1:Rat)else 0)=-1;rw[if_neg (by omega),if_pos rfl]
 have v3:∀i,p<=i->i≠p+k->V i=0:=λi h1 h2=>by rw[hV];show(if i<p then _ else if i=p+k then(-1:Rat)else 0)=0;rw[if_neg (by omega),if_neg h2]
 unfold jD;refine bH (λi=>((i:Int),vq i V)) p (vq p V) Y (λi hi=>?_) (aB (congrArg some (show(ob.length:Int)=(p:Int) by rw[hp]))<|aB (dF (by omega))<|bG Y Y) ?_
 ·have e1:=at4 i;have e2:nD 64 (vq i V) [qn (O i k)]=some (vq (i+1) V):=by rw[nQ (by decide) (by rw[bY];omega),mY,v1 i hi]
  generalize qn (O i k)=q at*;obtain⟨⟨_,_⟩,⟨_,_⟩⟩:=q;exact aB (congrArg some (show(ob.length:Int)=(p:Int) by rw[hp]))<|aB (dT (by omega))<|bO Y<|aB e1<|aB e2<|aB (congrArg some (bM (by omega))) Y
 refine bH (λi=>((i:Int),vq (p+i) V)) n (vq (p+n) V) Y (λi hi=>?_) (aB (dF (by omega))<|bG Y Y) ?_
 ·refine aB (dT (by omega))<|bO Y ?_;by_cases e:i=k
  ·subst e;have e1:=EK (n:=-1) (by decide);have e2:nD 64 (vq (p+i) V) [qn (-1)]=some (vq (p+i+1) V):=by rw[nQ (by decide) (by rw[bY];omega),mY,v2]
   have hq:qn ((-1:Int):Rat)=qn (-1):=rfl;rw[hq]at e1;generalize qn (-1)=q at*;obtain⟨⟨_,_⟩,⟨_,_⟩⟩:=q;exact aB (dT (by omega))<|bW<|bO Y<|aB e1<|aB e2<|aB (congrArg some (bM (by omega))) Y
  have e2:nD 64 (vq (p+i) V) [⟨⟨false,[]⟩,⟨false,[]⟩⟩]=some (vq (p+i+1) V):=by
   rw[nQ (by decide) (by rw[bY];omega),mY,v3 (p+i) (by omega) (by omega)];rfl
  exact aB (dF (by omega))<|bW<|bG Y<|aB e2<|aB (congrArg some (bM (by omega))) Y
 by_cases e:k<n
 ·refine aB (dF (by omega))<|bG Y (congrArg some (dG (λi hi=>?_)));rw[hV];show(if i<p then O i k else if i=p+k then-1 else 0)=_;unfold r8;rw[if_pos e]
 have eu:=oX ((p+n:Nat):Int) (-1);rw[show(min ((p+n:Nat):Int) 65536).toNat=p+n by omega]at eu;refine aB (dT (by omega))<|bO Y<|aB (congrArg some (show((vq (p+n) V).length:Int)=((p+n:Nat):Int) by rw[bY]))<|aB eu (congrArg some (dG (λi hi=>?_)));unfold r8;rw[if_neg e,if_neg (by omega)]
theorem akS(ho:jk K ob O)(hK:K<=1000000000)(hp:ob.length=p)(h:vv L n m p O G c)(hL:(m+1)*(L+L+1)<=2000000000){g:Nat->Rat}(hg:∀j,j<m->FQ L (g j)):
  ql ⟨⟨(n:Int),ob,rw,bd⟩,bq m c⟩ (vq m g)=some (vq (p+n) (pK n p O c g m)):=by
 have hX:m*(L+L+1)+(L+L+1)<=2000000000:=by rw[<-Nat.succ_mul];exact hL
 have hm:=h.hm;have hn:=h.hn;have hp4:=h.hp;have h1:=h.l1;have bl:=mZ m c;have bg:∀j,j<m->(bq m c)[j]? =some ((c j:Nat):Int):=λj hj=>o9 hj;have eu:=oX ((p+n:Nat):Int) (-1);rw[show(min ((p+n:Nat):Int) 65536).toNat=p+n by omega]at eu;rw[show vq (p+n) (λi=>if(i:Int)=-1 then 1 else 0)=vq (p+n) (pK n p O c g 0)from dG (λi _=>by rw[if_neg (by omega)];rfl)]at eu;have val:∀k:Nat,jD ⟨(n:Int),ob,rw,bd⟩ (k:Int)=some (vq (p+n) (r8 n p O k)):=λk=>rvalue ho hK hp (by omega) (by omega) k;unfold ql;refine aB (congrArg some (show(ob.length:Int)=(p:Int) by rw[hp]))<|aB (congrArg some (show IntKind.i64.wrap ((p:Int)+(n:Int))=((p+n:Nat):Int) by rw[cG (by omega) (by omega)];omega))<|aB eu ?_;generalize bq m c=bs at*;refine bH (λk=>(vq (p+n) (pK n p O c g k),(k:Int))) m (vq (p+n) (pK n p O c g m)) Y (λk hk=>?_) (aB (congrArg some (show(bs.length:Int)=(m:Int) by rw[bl]))<|aB (dF (by omega))<|bG Y Y) Y;have a1:=BC (vq m g) k;rw[List.getD_eq_getElem?_getD,iM hk]at a1;replace a1:g9 (vq m g) (k:Int)=some (qn (g k)):=a1;have rg:=(hg k hk).rep h1;have va:=TS rg (HF h (c k)) (BF h hg (Nat.le_of_lt hk)) (by have:=Nat.mul_le_mul_right (L+L+1) (show k<=m by omega);omega) (by rw[bY];omega) (by rw[bY];omega)
 have e0:vq (max (vq (p+n) (r8 n p O (c k))).length (vq (p+n) (pK n p O c g k)).length) (λi=>g k*r8 n p O (c k) i+pK n p O c g k i)=vq (p+n) (pK n p O c g (k+1)):=by
  rw[bY,bY,Nat.max_self];refine dG (λi _=>?_);show _=cw _ k+_;unfold pK;grind
 rw[e0]at va;have vk:=val (c k);generalize vq (p+n) (pK n p O c g (k+1))=o2 at*;generalize vq (p+n) (pK n p O c g k)=o1 at*;generalize vq (p+n) (r8 n p O (c k))=o3 at*;generalize qn (g k)=q at*;obtain⟨⟨_,_⟩,⟨_,_⟩⟩:=q;exact aB (congrArg some (show(bs.length:Int)=(m:Int) by rw[bl]))<|aB (dT (by omega))<|bO Y<|aB a1<|aB (bz (bg k hk))<|aB vk<|aB va<|aB (congrArg some (bM (by omega))) Y
theorem ahr(ho:jk K ob O)(hK:K<=1000000000)(hp:ob.length=p)(hm:rw.length=m)(h:vv L n m p O G c)(hL:(m+1)*(L+L+1)<=1000000000)(er:mJ ⟨⟨(n:Int),ob,rw,bd⟩,bq m c⟩=some (mq m (λ_=>n+m) G)):
  fH ⟨⟨(n:Int),ob,rw,bd⟩,bq m c⟩=some (mq (n+m) (λ_=>p+n) (r9 n m p O G c)):=by
 have hX:m*(L+L+1)+(L+L+1)<=1000000000:=by rw[<-Nat.succ_mul];exact hL
 have hm1:=h.hm;have hn:=h.hn;have hp4:=h.hp;have h1:=h.l1;have rl:=cM m (λ_=>n+m) G;have mg:∀i,i<m->(mq m (λ_=>n+m) G)[i]? =some (vq (n+m) (G i)):=λi hi=>fu hi;have sm:∀k,k<n+m->ql ⟨⟨(n:Int),ob,rw,bd⟩,bq m c⟩ (vq m (λi=>G i k))=some (vq (p+n) (pK n p O c (λi=>G i k) m)):=λk _=>akS ho hK hp h (by omega) (λj hj=>h.f j hj k);have val:∀k:Nat,jD ⟨(n:Int),ob,rw,bd⟩ (k:Int)=some (vq (p+n) (r8 n p O k)):=λk=>rvalue ho hK hp (by omega) (by omega) k;have sub:∀k:Nat,qH (vq (p+n) (pK n p O c (λi=>G i k) m)) (vq (p+n) (r8 n p O k))=some (vq (p+n) (r9 n m p O G c k)):=λk=>by
  have s:=YY (BF h (g:=λj=>G j k) (λj hj=>h.f j hj k) (Nat.le_refl m)) (HF h k) (by omega) (by rw[bY];omega) (by rw[bY];omega);rw[bY,bY,Nat.max_self]at s;exact s
 unfold fH;refine aB er ?_;generalize mq m (λ_=>n+m) G=rows at*;generalize hbs:bq m c=bs at*;obtain⟨D,hD⟩:∃D:Nat->Nat->Rat,D=r9 n m p O G c:=⟨_,Y⟩;rw[<-hD]at sub⊢;have hw:IntKind.i64.wrap ((n:Int)+(rw.length:Int))=((n+m:Nat):Int):=by rw[hm,cG (by omega) (by omega)];omega
 refine bH (λk=>((k:Int),mq k (λ_=>p+n) D)) (n+m) (mq (n+m) (λ_=>p+n) D) Y (λk hk=>?_) (aB Y<|aB (congrArg some hw)<|aB (dF (by omega))<|bG Y Y) Y;refine aB Y<|aB (congrArg some hw)<|aB (dT (by omega))<|bO Y ?_;refine bH (λi=>((i:Int),vq i (λi=>G i k))) m (vq m (λi=>G i k)) Y (λi hi=>?_) (aB (congrArg some (show(rows.length:Int)=(m:Int) by rw[rl]))<|aB (dF (by omega))<|bG Y Y) ?_
 ·have g2:(vq (n+m) (G i))[k]? =some (qn (G i k)):=iM hk;have e2:nD 64 (vq i (λi=>G i k)) [qn (G i k)]=some (vq (i+1) (λi=>G i k)):=by rw[nQ (by decide) (by rw[bY];omega),mY]
  generalize qn (G i k)=q at*;obtain⟨⟨_,_⟩,⟨_,_⟩⟩:=q;exact aB (congrArg some (show(rows.length:Int)=(m:Int) by rw[rl]))<|aB (dT (by omega))<|bO Y<|aB (bz (mg i hi))<|aB (bz g2)<|aB e2<|aB (congrArg some (bM (by omega))) Y
 have e3:nD 24 (mq k (λ_=>p+n) D) [vq (p+n) (D k)]=some (mq (k+1) (λ_=>p+n) D):=by
  rw[nQ (by decide) (by rw[cM];omega),tw]
 exact aB (sm k hk)<|aB (val k)<|aB (sub k)<|aB e3<|aB (congrArg some (bM (by omega))) Y
theorem abP(ho:jk K ob O)(hK:K<=1000000000)(hp:ob.length=p)(h:vv L n m p O G c)(hL:(m+1)*(L+L+1)<=2000000000)(eh:jc ⟨⟨(n:Int),ob,rw,bd⟩,bq m c⟩=some (vq m (λi=>G i (n+m)))):
  rM ⟨⟨(n:Int),ob,rw,bd⟩,bq m c⟩=some (vq (p+n) (pK n p O c (λj=>G j (n+m)) m)):=by
 unfold rM;exact aB eh<|aB (akS ho hK hp h hL (λj hj=>h.f j hj (n+m))) Y
theorem Vh(h:vv L n m p O G c)(eh:jc ⟨⟨(n:Int),ob,rw,bd⟩,bq m c⟩=some (vq m (λi=>G i (n+m)))):
  nf ⟨⟨(n:Int),ob,rw,bd⟩,bq m c⟩=some (vq n (rT n m G c m)):=by
 have hm:=h.hm;have hn:=h.hn;have bl:=mZ m c;have bg:∀j,j<m->(bq m c)[j]? =some ((c j:Nat):Int):=λj hj=>o9 hj;have eu:=oX (n:Int) (-1);rw[show(min (n:Int) 65536).toNat=n by omega]at eu;rw[show vq n (λi=>if(i:Int)=-1 then 1 else 0)=vq n (rT n m G c 0)from dG (λi _=>by rw[if_neg (by omega)];rfl)]at eu;unfold nf;refine aB ((EP _ _).trans eu)<|aB eh ?_;generalize bq m c=bs at*;refine bH (λk=>((k:Int),vq n (rT n m G c k))) m (vq n (rT n m G c m)) Y (λk hk=>?_) (aB (congrArg some (show(bs.length:Int)=(m:Int) by rw[bl]))<|aB (dF (by omega))<|bG Y Y) Y;have g1:(vq m (λi=>G i (n+m)))[k]? =some (qn (G k (n+m))):=iM hk;have g2:=bg k hk;have hl:=bY n (rT n m G c k);by_cases VU:c k<n
 ·have s:=uE (k:=n) (j:=c k) (h:=rT n m G c k) (x:=G k (n+m)) VU;have s2:vq n (λi=>if i=c k then G k (n+m)else rT n m G c k i)=vq n (rT n m G c (k+1)):=dG (λi _=>by
   show _=if c k<n/\i=c k then _ else _;by_cases e:i=c k
   ·rw[if_pos e,if_pos ⟨VU,e⟩]
   rw[if_neg e,if_neg (λq=>e q.2)])
  rw[s2]at s;rw[<-s];clear s s2;generalize vq n (rT n m G c k)=l at*;generalize qn (G k (n+m))=q at*;obtain⟨⟨_,_⟩,⟨_,_⟩⟩:=q;exact aB (congrArg some (show(bs.length:Int)=(m:Int) by rw[bl]))<|aB (dT (by omega))<|bO Y<|aB (bz g2)<|aB (dT (by omega))<|bW<|bO Y<|aB (bz g2)<|aB (bz g1)<|aB (b9 (by omega))<|aB (dS (by omega))<|aB (congrArg some (bM (by omega))) Y
 have s2:vq n (rT n m G c k)=vq n (rT n m G c (k+1)):=dG (λi _=>by
  show _=if c k<n/\i=c k then _ else _;rw[if_neg (λq=>VU q.1)])
 rw[<-s2];exact aB (congrArg some (show(bs.length:Int)=(m:Int) by rw[bl]))<|aB (dT (by omega))<|bO Y<|aB (bz g2)<|aB (dF (by omega))<|bW<|bG Y<|aB (congrArg some (bM (by omega))) Y
theorem Vi(h:vv L n m p O G c)(hL:L<=4000000000)(eh:jc ⟨⟨(n:Int),ob,rw,bd⟩,bq m c⟩=some (vq m (λi=>G i (n+m)))):
  nh ⟨⟨(n:Int),ob,rw,bd⟩,bq m c⟩=some (decide (∀i,i<m->0<=G i (n+m))):=by
 have hm:=h.hm;have ll:=bY m (λi=>G i (n+m));unfold nh;refine aB eh ?_;refine aB (zh (n:=m) (p:=λi=>0<=G i (n+m)) (e:=false) (λk hk=>?_) (aB (congrArg some (show((vq m (λi=>G i (n+m))).length:Int)=(m:Int) by rw[ll]))<|aB (dF (by omega))<|bG Y Y)) ?_
 ·have g1:(vq m (λi=>G i (n+m)))[k]? =some (qn (G k (n+m))):=iM hk;have sg:=((h.f k hk (n+m)).rep h.l1).TP (by omega);generalize vq m (λi=>G i (n+m))=l at*;generalize qn (G k (n+m))=q at*;obtain⟨⟨_,_⟩,⟨_,_⟩⟩:=q;refine aB (congrArg some (show(l.length:Int)=(m:Int) by rw[ll]))<|aB (dT (by omega))<|bO Y<|aB (bz g1)<|aB sg ?_;by_cases q:G k (n+m)<0
  ·rw[if_neg (by grind)];exact aB (dT (EF.2 q))<|bO Y Y
  rw[if_pos (by grind)];exact aB (dF (λe=>q (EF.1 e)))<|bG Y<|aB (congrArg some (bM (by omega))) Y
 by_cases q:∀i,i<m->0<=G i (n+m)
 ·rw[if_pos q,decide_eq_true q]
 rw[if_neg q,decide_eq_false q]
theorem Zt(h:vv L n m p O G c)(hL:(m+1)*(L+L+1)<=1000000000)(ec:fH ⟨⟨(n:Int),ob,rw,bd⟩,bq m c⟩=some (mq (n+m) (λ_=>p+n) (r9 n m p O G c))):
  ot ⟨⟨(n:Int),ob,rw,bd⟩,bq m c⟩=some (decide (∀k,k<n+m->0<=oC (r9 n m p O G c k) (λ_=>0) (p+n))):=by
 have hX:m*(L+L+1)+(L+L+1)<=1000000000:=by rw[<-Nat.succ_mul];exact hL
 have hm:=h.hm;have hn:=h.hn;have hp4:=h.hp;have rl:=cM (n+m) (λ_=>p+n) (r9 n m p O G c);have mg:∀i,i<n+m->(mq (n+m) (λ_=>p+n) (r9 n m p O G c))[i]? =some (vq (p+n) (r9 n m p O G c i)):=λi hi=>fu hi;have lx:∀k,k<n+m->qK (vq (p+n) (r9 n m p O G c k)) []=some (oC (r9 n m p O G c k) (λ_=>0) (p+n)):=λk hk=>by
  have e:=arh (LU h (by omega) hk).2 (ek.nil (L:=1) (by decide)) (by omega) (by rw[bY];omega) (by decide);rw[bY,List.length_nil,Nat.max_zero]at e;exact e
 unfold ot;refine aB ec ?_;generalize mq (n+m) (λ_=>p+n) (r9 n m p O G c)=l at*;refine aB (zh (n:=n+m) (p:=λk=>0<=oC (r9 n m p O G c k) (λ_=>0) (p+n)) (e:=false) (λk hk=>?_) (aB (congrArg some (show(l.length:Int)=((n+m:Nat):Int) by rw[rl]))<|aB (dF (by omega))<|bG Y Y)) ?_
 ·refine aB (congrArg some (show(l.length:Int)=((n+m:Nat):Int) by rw[rl]))<|aB (dT (by omega))<|bO Y<|aB (bz (mg k hk))<|aB (lx k hk) ?_;by_cases q:0<=oC (r9 n m p O G c k) (λ_=>0) (p+n)
  ·rw[if_pos q];exact aB (dF (by omega))<|bG Y<|aB (congrArg some (bM (by omega))) Y
  rw[if_neg q];exact aB (dT (by omega))<|bO Y Y
 by_cases q:∀k,k<n+m->0<=oC (r9 n m p O G c k) (λ_=>0) (p+n)
 ·rw[if_pos q,decide_eq_true q]
 rw[if_neg q,decide_eq_false q]
end val
end
section
open Go.Fw
theorem L0.congr{m r w:Nat}{A B:Nat->Nat->Rat}(h:L0 m r w A)(e:∀i l,i<r->l<w->A i l=B i l):L0 m r w B:=λz hz hn=>h z hz (λi hi=>by
 have q:=hn i hi;rw[cY (k:=λl=>B i l*z l) (λl hl=>by rw[e i l hi hl])];exact q)
theorem Vj:dN []=some ([],0):=by
 have tu:mW []=some []:=by
  have e:=LY (a:=0) (b:=0) (kd:=1) (c:=⟨⟨false,[]⟩,⟨false,[]⟩⟩) (rw:=[]) (rv:=[]) (F:=λ_ _=>0) (by decide) (by decide) (λi j hi=>by omega);have c:=vw [] (by decide);unfold mW;exact aB c<|aB Y<|aB e Y
 unfold dN;refine aB Y ?_;exact bH (λi=>((i:Int),[])) 0 (.inl []) Y (λi hi=>by omega) (aB (dF (by decide))<|bG Y Y) (aB tu Y)
section same
variable {n m p:Nat}{ob rw:List (List Qr)}{bd:List Qr}{O R G:Nat->Nat->Rat}{g:Nat->Rat}{c:Nat->Nat}
theorem sz6{m:Nat}(hm:m<=6):BH 6 m<=25941:=Nat.le_trans (BI 6 hm) (by decide)
theorem sz5{m:Nat}(hm:m<=5):BH 6 m<=6485:=Nat.le_trans (BI 6 hm) (by decide)
def T2(n m:Nat)(R:Nat->Nat->Rat)(c:Nat->Nat)(i k:Nat):Rat:=if k<m then eqs n m R i (c k)else 0
theorem Zu(n m:Nat)(R:Nat->Nat->Rat)(c:Nat->Nat):mq m (λ_=>m) (λi k=>eqs n m R i (c k))=mq m (λ_=>m) (T2 n m R c):=kS (λi hi=>⟨Y,λk hk=>(if_pos hk).symm⟩)
theorem T3(rr:jk 6 rw R):jk 6 (mq m (λ_=>m) (T2 n m R c)) (T2 n m R c):=
 BE (λi _ k hk=>by unfold T2;rw[if_pos hk];exact Zs rr i (c k)) (λi _ k hk=>if_neg (by omega)) (λi hi k=>by
  unfold T2 eqs;split
  ·exact if_neg (by omega)
  rfl) (by decide)
theorem HJ(nO:∀j,j<m->c j<n+m){i k:Nat}(hi:i<m)(hk:k<m):T2 n m R c i k=pL n m R g i (c k):=by
 unfold T2;rw[if_pos hk];exact TZ hi (nO k hk)
theorem abQ(rr:jk 6 rw R)(hm:rw.length=m)(m5:m<=5)(hn:n<=64)(nO:∀j,j<m->c j<n+m)(ind:L0 m m m (λi s=>pL n m R g i (c s))):
  ∃N:Nat->Nat->Rat,dN (mq m (λ_=>m) (T2 n m R c))=some (mq m (λ_=>m) N,0)/\(∀i k,i<m->k<m->cw (λl=>T2 n m R c i l*N l k) m=if i=k then 1 else 0)/\(∀i k,FQ 6485 (N i k))/\(∀i k,m<=i\/m<=k->N i k=0):=by
 by_cases q:1<=m
 ·obtain⟨_,e,N,rfl,h1,h2,h3⟩:=abM (T3 (n:=n) (m:=m) (c:=c) rr) (cM _ _ _) (vT q) q (by omega) (by have:=sz6 (show m+1<=6 by omega);omega) (ind.congr (λi l hi hl=>(HJ nO hi hl).symm));exact⟨N,e,h1,λi k=>(h2 i k).mono (sz5 m5),h3⟩
 obtain rfl:m=0:=by omega
 exact⟨λ_ _=>0,Vj,λi k hi=>by omega,λ_ _=>nN (by decide),λ_ _ _=>Y⟩
theorem akT{ob':List (List Qr)}(rr:jk 6 rw R)(rb:ek 6 bd g)(hm:rw.length=m)(hbd:bd.length=m)(m5:m<=5)(hn:n<=64)(nO:∀j,j<m->c j<n+m)(hu:Uc m G c)(hs:∀z,CF n m (pL n m R g) z↔CF n m G z):
  oT ⟨⟨(n:Int),ob',rw,bd⟩,bq m c⟩=some true/\mJ ⟨⟨(n:Int),ob',rw,bd⟩,bq m c⟩=some (mq m (λ_=>n+m) G)/\jc ⟨⟨(n:Int),ob',rw,bd⟩,bq m c⟩=some (vq m (λi=>G i (n+m))):=by
 have ind:=Zq nO hu hs;have mx:=T1 (ob:=ob') (bd:=bd) (c:=c) rr (by decide) hm (by omega) (by omega) (n:=n);rw[Zu]at mx;obtain⟨N,eN,n1,n2,n3⟩:=abQ rr hm m5 hn nO ind;have eq:=JP (ob:=ob') (bd:=bd) rr (by decide) hm (by omega) (show n<=100 by omega);have er:=T0 (n:=n) (m:=m) rr;have rN:jk 6485 (mq m (λ_=>m) N) N:=BE (λi _ k _=>n2 i k) (λi _ k hk=>n3 i k (.inr hk)) (λi hi k=>n3 i k (.inl hi)) (by omega);have arj:L0 m m m (T2 n m R c):=ind.congr (λi l hi hl=>(HJ nO hi hl).symm);have lN:∀i k,i<m->k<m->cw (λl=>N i l*T2 n m R c l k) m=if i=k then 1 else 0:=λi k hi hk=>linv arj n1 hi hk;have tr:∀i k,i<m->k<=n+m->pL n m R g i k=cw (λs=>T2 n m R c i s*G s k) m:=λi k hi hk=>by
  rw[FO nO hu (λz=>(hs z).2) hi hk];exact cY (λs hs'=>by rw[HJ nO hi hs'])
 have hX:(m+1)*(6485+6+1)+1<=2000000000:=by omega
 have hX7:(m+2)*(6485+6+1)<=4000000000:=by
  obtain⟨K,hK⟩:∃K,K=6485+6+1:=⟨_,Y⟩;have:=Nat.mul_le_mul_right K (show m+2<=7 by omega);rw[<-hK];omega
 have ti:ny (mq m (λ_=>m) N) bd=some (vq m (λi=>G i (n+m))):=by
  have e:=ahq (L:=6485) (M:=6) (r:=m) (λi hi=>qo (λk _=>n2 i k) (λk hk=>n3 i k (.inr hk)) rN.l1) rb hbd (by omega) (by omega) hX7;rw[e];refine congrArg some (dG (λi hi=>?_));refine Qx (B:=T2 n m R c) (y:=λs=>G s (n+m)) lN (λi hi=>?_) hi;rw[<-tr i (n+m) hi (Nat.le_refl _)];unfold pL;rw[if_neg (by omega),if_neg (by omega),if_pos rfl]
 have mu:mH (mq m (λ_=>m) N) (mq m (λ_=>n+m) (eqs n m R))=some (mq m (λ_=>n+m) G):=by
  by_cases q:1<=m
  ·have cA:cS (mq m (λ_=>m) N)=some (m:Int):=by rw[vw _ (by rw[cM];omega),vT q]
   have cB:cS (mq m (λ_=>n+m) (eqs n m R))=some ((n+m:Nat):Int):=by rw[vw _ (by rw[cM];omega),vT q]
   have e:=akR rN er (cM _ _ _) cA cB (by omega) (by omega) (by omega) hX;rw[e];refine congrArg some (kS (λi hi=>⟨Y,λk hk=>?_⟩));refine Qx (B:=T2 n m R c) (y:=λs=>G s k) lN (λi hi=>?_) hi;rw[<-tr i k hi (Nat.le_of_lt hk)];exact TZ hi hk
  obtain rfl:m=0:=by omega
  have c0:=vw [] (by decide);have e:=LY (a:=0) (b:=0) (kd:=2) (c:=⟨⟨false,[]⟩,⟨false,[]⟩⟩) (rw:=[]) (rv:=[]) (F:=λ_ _=>0) (by decide) (by decide) (λi j hi=>by omega);show mH [] []=some [];unfold mH;exact aB Y<|aB c0<|aB e Y
 refine⟨?_,?_,?_⟩
 ·unfold oT;exact aB mx<|aB eN Y
 ·unfold mJ;exact aB mx<|aB eN<|aB eq<|aB mu Y
 unfold jc;exact aB mx<|aB eN<|aB ti Y
theorem ark(ob':List (List Qr))(rr:jk 6 rw R)(hm:rw.length=m)(m5:m<=5)(hn:n<=64)(nO:∀j,j<m->c j<n+m)(Qw:¬L0 m m m (λi s=>pL n m R g i (c s))):
  oT ⟨⟨(n:Int),ob',rw,bd⟩,bq m c⟩=some false:=by
 have mx:=T1 (ob:=ob') (bd:=bd) (c:=c) rr (by decide) hm (by omega) (by omega) (n:=n);rw[Zu]at mx;have q:1<=m:=by
  refine Classical.byContradiction (λw=>Qw (λz hz hn l hl=>?_));omega
 have e:=abN (T3 (n:=n) (m:=m) (c:=c) rr) (cM _ _ _) (vT q) q (by omega) (by have:=sz6 (show m+1<=6 by omega);omega) (λi=>Qw (i.congr (λi l hi hl=>HJ nO hi hl)));unfold oT;exact aB mx<|aB e Y
theorem aed{L r w:Nat}{F:Nat->Nat->Rat}(hf:∀i,i<r->∀k,k<w->FQ L (F i k))(h1:1<=L)(hL:L<=100000000000)(hr:r<=1000)(hw:w<=1000):sO (mq r (λ_=>w) F) (mq r (λ_=>w) F)=some true:=by
 have ml:=cM r (λ_=>w) F;have mg:∀i,i<r->(mq r (λ_=>w) F)[i]? =some (vq w (F i)):=λi hi=>fu hi;have si:∀i,i<r->k8 (vq w (F i)) (vq w (F i))=some true:=λi hi=>(NS (hf i hi) h1).ris hL (by rw[bY];omega);unfold sO;generalize mq r (λ_=>w) F=a at*;refine aB Y<|aB Y<|aB (dF (λq=>q Y))<|bG Y ?_;refine bH (λi=>(i:Int)) r (.inl ()) Y (λi hi=>?_) (aB (congrArg some (show(a.length:Int)=(r:Int) by rw[ml]))<|aB (dF (by omega))<|bG Y Y) Y;exact aB (congrArg some (show(a.length:Int)=(r:Int) by rw[ml]))<|aB (dT (by omega))<|bO Y<|aB (bz (mg i hi))<|aB (bz (mg i hi))<|aB (si i hi)<|aB Y<|bG Y<|aB (congrArg some (bM (by omega))) Y
theorem is7(ro:jk 6 ob O)(hp:ob.length=p)(hm:rw.length=m)(m5:m<=5)(h:vv 6485 n m p O G c)
  (eR:mJ ⟨⟨(n:Int),ob,rw,bd⟩,bq m c⟩=some (mq m (λ_=>n+m) G)) (eH:jc ⟨⟨(n:Int),ob,rw,bd⟩,bq m c⟩=some (vq m (λi=>G i (n+m)))):
  w7 (LR n m p O G c) ⟨⟨(n:Int),ob,rw,bd⟩,bq m c⟩=some true:=by
 have hn:=h.hn;have hp4:=h.hp;obtain⟨K,hK⟩:∃K,K=6485:=⟨_,Y⟩;rw[<-hK]at h;have hX5:(m+1)*(K+K+1)<=6*(K+K+1):=Nat.mul_le_mul_right _ (by omega);have hX:m*(K+K+1)+(K+K+1)<=6*(K+K+1):=by rw[<-Nat.succ_mul];exact hX5
 have tB:=Zc (n:=n) (m:=m) (p:=p) (O:=O) (F:=G) (b:=c) (by omega);have iB:=LX (bq m c) (by rw[mZ];omega);have tR:=akM h (by omega);have iR:=aed (r:=m) (w:=n+m) (F:=G) (λi hi k _=>h.f i hi k) h.l1 (by omega) (by omega) (by omega);have tH:=Sx h (by omega);have iH:=(NS (L:=K) (n:=m) (f:=λi=>G i (n+m)) (λi hi=>h.f i hi _) h.l1).ris (by omega) (by rw[bY];omega);have tC:=ahk h (by omega);have eC:=ahr (bd:=bd) ro (by decide) hp hm h (by omega) eR;have iC:=aed (r:=n+m) (w:=p+n) (F:=r9 n m p O G c) (L:=80000000) (λi hi k _=>((LU h (by omega) hi).2.fq k).mono (by omega)) (by decide) (by decide) (by omega) (by omega);have tV:=NU h (by omega);have eV:=abP ro (by decide) hp h (by omega) eH;have iV:=(BF h (g:=λj=>G j (n+m)) (λj hj=>h.f j hj _) (Nat.le_refl m)).ris (by omega) (by rw[bY];omega);have tS:=LV h (by omega);have eS:=Vh h eH;have ryS:ek K (vq n (rT n m G c m)) (rT n m G c m):=qo (λi _=>TW h m (Nat.le_refl m) i) (λi hi=>Qu m i hi) (by omega);have iS:=ryS.ris (by omega) (by rw[bY];omega);have tF:=LW h (by omega);have eF:=Vi h (by omega) eH;have tO:=JM h (by omega);have eO:=Zt h (by omega) eC;unfold w7
 exact bW<|aB (a:=false) (bG Y<|aB tB<|aB iB<|aB Y Y)<|aB (a:=false) (bG Y<|aB tR<|aB eR<|aB iR<|aB Y Y)<|aB (a:=false) (bG Y<|aB tH<|aB eH<|aB iH<|aB Y Y)<|aB (a:=false) (bG Y<|aB tC<|aB eC<|aB iC<|aB Y Y)<|bG Y<|bW<|aB tV<|aB eV<|aB iV<|aB (a:=true) (bO Y<|aB tS<|aB eS<|aB iS Y)<|aB (a:=true) (bO Y<|aB tF<|aB eF<|aB (congrArg some (beq_self_eq_true _)) Y)<|aB (a:=true) (bO Y<|aB tO<|aB eO<|aB (congrArg some (beq_self_eq_true _)) Y) Y
end same
end
section
open Go.Fw
theorem Qz{P:Nat->Prop}{k:Nat}(h:∃t,t<k/\P t):∃t,t<k/\P t/\∀s,s<t->¬P s:=by
 obtain⟨t,ht,hp⟩:=h
 induction t using Nat.strongRecOn with
 |_ t ih=>
  by_cases q:∃s,s<t/\P s
  ·obtain⟨s,hs,ps⟩:=q;exact ih s hs (by omega) ps
  exact⟨t,ht,hp,λs hs ps=>q ⟨s,hs,ps⟩⟩
def Pre(w:Nat)(l:List Int)(k:Nat):Prop:=∀i x,i<k->l[i]? =some x->0<=x/\x<(w:Int)/\∀j,j<i->l[j]? ≠some x
noncomputable instance(w:Nat)(l:List Int)(k:Nat):Decidable (Pre w l k):=Classical.propDecidable _
theorem Pre.step{w k:Nat}{l:List Int}{x:Int}(h:Pre w l k)(hx:l[k]? =some x)(h0:0<=x)(h1:x<(w:Int))(hd:∀j,j<k->l[j]? ≠some x):Pre w l (k+1):=λi y hi hy=>by
 by_cases e:i=k
 ·subst e;rw[hx]at hy;obtain rfl:=Option.some.inj hy;exact⟨h0,h1,hd⟩
 exact h i y (by omega) hy
theorem QA{n m:Nat}{ob rw:List (List Qr)}{bd:List Qr}{l:List Int}(hn:n<=64)(hm:rw.length=m)(hmm:m<=128)(hl:l.length<=1000):
  jb ⟨(n:Int),ob,rw,bd⟩ l=some (decide (Pre (n+m) l l.length/\l.length=m)):=by
 have hw:IntKind.i64.wrap ((n:Int)+(rw.length:Int))=((n+m:Nat):Int):=by rw[hm,cG (by omega) (by omega)];omega
 unfold jb;refine fM (λy=>∃k:Nat,y=(k:Int)/\k<=l.length/\Pre (n+m) l k) (λe=>(e=.inl ()/\Pre (n+m) l l.length)\/(e=.inr false/\¬Pre (n+m) l l.length)) (λy=>l.length-y.toNat) ?_ ⟨0,Y,Nat.zero_le _,λi x hi=>by omega⟩ ?_
 ·rintro _ ⟨k,rfl,hk,pk⟩;by_cases hlt:k<l.length
  ·obtain⟨x,hx⟩:∃x,l[k]? =some x:=⟨l[k],List.getElem?_eq_getElem hlt⟩;by_cases h0:x<0
   ·right;exact⟨.inr false,aB Y<|aB (dT (by omega))<|bO Y<|bW<|aB (bz hx)<|aB (dT h0)<|aB (a:=true) (bO Y Y)<|bO Y Y,.inr ⟨Y,λp=>by have:=(p k x hlt hx).1;omega⟩⟩
   by_cases h1:x<((n+m:Nat):Int)
   ·by_cases hd:∃t,t<k/\l[t]? =some x
    ·right;obtain⟨t,ht,e1,e2⟩:=Qz hd;refine⟨.inr false,?_,.inr ⟨Y,λp=>(p k x hlt hx).2.2 t ht e1⟩⟩;refine aB Y<|aB (dT (by omega))<|bO Y<|bW<|aB (bz hx)<|aB (dF h0)<|aB (a:=false) (bG Y<|aB (bz hx)<|aB Y<|aB (congrArg some hw)<|aB (dF (by omega)) Y)<|bG Y ?_;refine bH (λj=>(j:Int)) t (.inr (.inr (.inr false))) Y (λj hj=>?_) (aB (dT (by omega))<|bO Y<|aB (bz hx)<|aB (bz e1)<|aB (dT Y)<|bO Y Y) Y;obtain⟨y,hy⟩:∃y,l[j]? =some y:=⟨l[j]'(by omega),List.getElem?_eq_getElem (by omega)⟩;exact aB (dT (by omega))<|bO Y<|aB (bz hx)<|aB (bz hy)<|aB (dF (λq=>e2 j hj (by rw[hy,q])))<|bG Y<|aB (congrArg some (bM (by omega))) Y
    left;refine⟨((k+1:Nat):Int),?_,⟨k+1,Y,hlt,pk.step hx (by omega) h1 (λj hj q=>hd ⟨j,hj,q⟩)⟩,by simp only[Int.toNat_natCast];omega⟩;refine aB Y<|aB (dT (by omega))<|bO Y<|bW<|aB (bz hx)<|aB (dF h0)<|aB (a:=false) (bG Y<|aB (bz hx)<|aB Y<|aB (congrArg some hw)<|aB (dF (by omega)) Y)<|bG Y ?_;refine bH (λj=>(j:Int)) k (.inl ()) Y (λj hj=>?_) (aB (dF (by omega))<|bG Y Y) (aB (congrArg some (bM (by omega))) Y);obtain⟨y,hy⟩:∃y,l[j]? =some y:=⟨l[j]'(by omega),List.getElem?_eq_getElem (by omega)⟩;exact aB (dT (by omega))<|bO Y<|aB (bz hx)<|aB (bz hy)<|aB (dF (λq=>hd ⟨j,hj,by rw[hy,q]⟩))<|bG Y<|aB (congrArg some (bM (by omega))) Y
   right;exact⟨.inr false,aB Y<|aB (dT (by omega))<|bO Y<|bW<|aB (bz hx)<|aB (dF h0)<|aB (a:=true) (bG Y<|aB (bz hx)<|aB Y<|aB (congrArg some hw)<|aB (dT (by omega)) Y)<|bO Y Y,.inr ⟨Y,λp=>h1 (p k x hlt hx).2.1⟩⟩
  right;obtain rfl:k=l.length:=by omega
  exact⟨.inl (),aB Y<|aB (dF (by omega))<|bG Y Y,.inl ⟨Y,pk⟩⟩
 rintro _ (⟨rfl,p⟩|⟨rfl,p⟩)
 ·refine aB Y<|aB (congrArg some (show(rw.length:Int)=(m:Int) by rw[hm]))<|aB (congrArg some (decide_eq_decide.2 ?_)) Y;exact⟨λq=>⟨p,by omega⟩,λq=>by omega⟩
 rw[decide_eq_false (λq=>p q.1)]
theorem SC{n:Int}{ob rw:List (List Qr)}{bd:List Qr}{l:List Int}(hl:l.length<=1000)(h:¬(Gs n ob rw bd/\Pre (n.toNat+rw.length) l l.length/\l.length=rw.length)):
  mh ⟨n,ob,rw,bd⟩ l=some ():=by
 have v:=Y4 (n:=n) (ob:=ob) (rw:=rw) (bd:=bd);unfold mh;by_cases hv:Gs n ob rw bd
 ·rw[decide_eq_true hv]at v;obtain⟨v1,v2,v3,v4,v5,v6,v7,v8⟩:=id hv;by_cases e:l.length=rw.length
  ·have np:¬Pre (n.toNat+rw.length) l l.length:=λp=>h ⟨hv,p,e⟩;obtain⟨n,rfl⟩:∃k:Nat,n=(k:Int):=⟨n.toNat,by omega⟩;obtain⟨m,hm⟩:∃m,rw.length=m:=⟨_,Y⟩;rw[Int.toNat_natCast,hm]at np;rw[hm]at e;have hw:IntKind.i64.wrap ((n:Int)+(rw.length:Int))=((n+m:Nat):Int):=by rw[hm,cG (by omega) (by omega)];omega
   refine bW<|aB v<|aB Y<|aB (a:=false) (bG Y<|aB Y<|aB Y<|aB (dF (by omega)) Y)<|bG Y<|aB Y<|aB (congrArg some hw)<|aB (sV (by decide) (by omega))<|aB Y ?_;refine fM (λs=>∃(k:Nat) (u:List Bool),s=((k:Int),u)/\k<=l.length/\u.length=n+m/\Pre (n+m) l k/\∀t:Nat,u[t]? =some false->∀j,j<k->l[j]? ≠some (t:Int)) (λe=>e=.inr ()) (λs=>l.length-s.1.toNat) ?_ ⟨0,_,rfl,Nat.zero_le _,by simp,λi x hi=>by omega,λt _ j hj=>by omega⟩ (by rintro _ rfl;rfl);rintro _ ⟨k,u,rfl,hk,hul,pk,hut⟩;by_cases hlt:k<l.length
   ·obtain⟨x,hx⟩:∃x,l[k]? =some x:=⟨l[k],List.getElem?_eq_getElem hlt⟩;by_cases h0:x<0
    ·right;exact⟨.inr (),aB (dT (by omega))<|bO Y<|aB (bz hx)<|bW<|aB (dT h0)<|aB (a:=true) (bO Y Y)<|aB (a:=true) (bO Y Y)<|bO Y Y,Y⟩
    by_cases h1:x<((n+m:Nat):Int)
    ·obtain⟨t,rfl⟩:∃t:Nat,x=(t:Int):=⟨x.toNat,by omega⟩;obtain⟨w,hw⟩:∃w,u[t]? =some w:=⟨u[t]'(by omega),List.getElem?_eq_getElem (by omega)⟩;cases w
     ·left;refine⟨(((k+1:Nat):Int),u.set t true),?_,⟨k+1,_,Y,hlt,by rw[List.length_set];exact hul,pk.step hx (by omega) h1 (hut t hw),λs hs j hj q=>?_⟩,by simp only[Int.toNat_natCast];omega⟩
      ·exact aB (dT (by omega))<|bO Y<|aB (bz hx)<|bW<|aB (dF (by omega))<|aB (a:=false) (bG Y<|aB Y<|aB (dF (by omega)) Y)<|aB (a:=false) (bG Y<|aB (b9 (by omega))<|aB hw Y)<|bG Y<|aB (b9 (by omega))<|aB (dS (by omega))<|aB (congrArg some (bM (by omega))) Y
      rw[List.getElem?_set]at hs;by_cases e:t=s
      ·subst e;rw[if_pos Y,if_pos (by omega)]at hs;cases hs
      rw[if_neg e]at hs;by_cases e2:j=k
      ·subst e2;rw[hx]at q;have:=Option.some.inj q;omega
      exact hut s hs j (by omega) q
     right;exact⟨.inr (),aB (dT (by omega))<|bO Y<|aB (bz hx)<|bW<|aB (dF (by omega))<|aB (a:=false) (bG Y<|aB Y<|aB (dF (by omega)) Y)<|aB (a:=true) (bG Y<|aB (b9 (by omega))<|aB hw Y)<|bO Y Y,Y⟩
    right;exact⟨.inr (),aB (dT (by omega))<|bO Y<|aB (bz hx)<|bW<|aB (dF h0)<|aB (a:=true) (bG Y<|aB Y<|aB (dT (by omega)) Y)<|aB (a:=true) (bO Y Y)<|bO Y Y,Y⟩
   obtain rfl:k=l.length:=by omega
   exact absurd pk np
  exact bW<|aB v<|aB Y<|aB (a:=true) (bG Y<|aB Y<|aB Y<|aB (dT (by omega)) Y)<|bO Y Y
 rw[decide_eq_false hv]at v;exact bW<|aB v<|aB Y<|aB (a:=true) (bO Y Y)<|bO Y Y
end
section
open Go.Fw
section none_
variable {n:Nat}{ob rw:List (List Qr)}{bd:List Qr}{O R:Nat->Nat->Rat}{g:Nat->Rat}{c:Nat->Nat}
theorem SD{m p:Nat}(hm:rw.length=m)(hp:ob.length=p)(ro:jk 6 ob O)(rr:jk 6 rw R)(rb:ek 6 bd g)(hv:Gs (n:Int) ob rw bd)(hm5:m<=5)(nO:∀i,i<m->c i<n+m)(hinj:∀i j,i<m->j<m->c i=c j->i=j)
  (Qw:¬L0 m m m (λi s=>pL n m R g i (c s))):mm ⟨(n:Int),ob,rw,bd⟩ (bq m c)=some ():=by
 have v:=JK (n:=(n:Int)) (ob:=ob) (rw:=rw) (bd:=bd) (by obtain⟨_,_,_,h,_⟩:=hv;omega) (by omega);rw[decide_eq_true hv]at v;have eN:=ahe (n:=n) ro rr rb (by decide) (by decide) (by decide) hv;have k0:=HH (n:=n) ro rr rb (by decide) hv;have hn:=k0.hn;rw[hm,hp]at k0 eN;have u0:Uc m (pL n m R g) (λj=>n+j):=FN;generalize pL n m R g=F0 at*;have bl:=mZ m c;have bg:∀j,j<m->(bq m c)[j]? =some ((c j:Nat):Int):=λj hj=>o9 hj;unfold mm;refine bW<|aB v<|aB Y<|aB (a:=false) (bG Y<|aB Y<|aB Y<|aB (dF (by omega)) Y)<|bG Y<|aB Y<|aB (congrArg some (show IntKind.i64.wrap ((n:Int)+(rw.length:Int))=((n+m:Nat):Int) by rw[cG (by omega) (by omega)];omega))<|aB (sV (by decide) (by omega))<|aB (congrArg some (show((bq m c).length:Int)=(m:Int) by rw[bl])) ?_;refine fM (λs=>∃(k:Nat) (u:List Bool),s=((k:Int),u)/\k<=m/\u.length=n+m/\∀l,u[l]? =some true->∃s,s<k/\c s=l) (λe=>e=.inl ()) (λs=>m-s.1.toNat) ?_ ⟨0,_,Y,Nat.zero_le _,by simp,λl hl=>by
  rw[List.getElem?_replicate]at hl;split at hl
  ·cases hl
  cases hl⟩ ?_
 ·rintro _ ⟨k,u,rfl,hk,hul,hut⟩;by_cases hlt:k<m
  ·left;have hck:=nO k hlt;obtain⟨w,hw⟩:∃w,u[c k]? =some w:=⟨u[c k]'(by omega),List.getElem?_eq_getElem (by omega)⟩;have hw2:w=false:=by
    cases w
    ·rfl
    obtain⟨s,hs,es⟩:=hut _ hw;have:=hinj s k (by omega) hlt es;omega
   subst hw2;refine⟨(((k+1:Nat):Int),u.set (c k) true),?_,⟨k+1,_,Y,hlt,by rw[List.length_set];exact hul,λl hl=>?_⟩,by simp only[Int.toNat_natCast];omega⟩
   ·exact aB (dT (by omega))<|bO Y<|aB (bz (bg k hlt))<|bW<|aB (dF (by omega))<|aB (a:=false) (bG Y<|aB Y<|aB (dF (by omega)) Y)<|aB (a:=false) (bG Y<|aB (b9 (by omega))<|aB hw Y)<|bG Y<|aB (b9 (by omega))<|aB (dS (by omega))<|aB (congrArg some (bM (by omega))) Y
   rw[List.getElem?_set]at hl;by_cases e:c k=l
   ·exact⟨k,by omega,e⟩
   rw[if_neg e]at hl;obtain⟨s,hs,es⟩:=hut l hl;exact⟨s,by omega,es⟩
  right;exact⟨_,aB (dF (by omega))<|bG Y Y,Y⟩
 rintro _ rfl;refine aB eN<|aB (congrArg some (show((bq m c).length:Int)=(m:Int) by rw[bl])) ?_;refine fM (λs=>∃(k:Nat) (H:Nat->Nat->Rat) (d:Nat->Nat),s=((k:Int),mq p (λ_=>n) O,bq m (λj=>n+j),mq m (λ_=>n+m+1) H)/\k<=m/\vv (Vr k) n m p O H d/\Uc m H d/\(∀z,CF n m F0 z↔CF n m H z)/\∀s,s<k->d s=c s) (λe=>e=.inr ()) (λs=>m-s.1.toNat) ?_ ⟨0,F0,λj=>n+j,rfl,Nat.zero_le _,(show vv (Vr 0) n m p O F0 (λj=>n+j)from k0),u0,λ_=>Iff.rfl,λs hs=>by omega⟩ (by rintro _ rfl;rfl);rintro _ ⟨k,H,d,rfl,hk,ht,hd,hs,hdc⟩;by_cases hlt:k<m
 ·have szk:Vr k<=100000000:=ad8 k (by omega);have hck:=nO k hlt;have QD:=cM m (λ_=>n+m+1) H;have g1:∀t,t<m->(mq m (λ_=>n+m+1) H)[t]? =some (vq (n+m+1) (H t)):=λt h=>fu h;have g2:∀t,t<m->(vq (n+m+1) (H t))[c k]? =some (qn (H t (c k))):=λt h=>iM (by omega);have sg:∀t,t<m->fg (qn (H t (c k)))=some (oV (H t (c k)) 0):=λt h=>((ht.f t h (c k)).rep ht.l1).sign (by omega);by_cases ex:∃q,k<=q/\q<m/\H q (c k)≠0
  ·left;obtain⟨t,ht1,ht2,ht3⟩:=Qz (P:=λt=>H (k+t) (c k)≠0) (k:=m-k) (by obtain⟨q,h1,h2,h3⟩:=ex;exact⟨q-k,by omega,by rw[show k+(q-k)=q by omega];exact h3⟩);obtain⟨q,hq⟩:∃q,q=k+t:=⟨_,Y⟩;have Vf:q<m:=by omega
   have hq0:H q (c k)≠0:=by rw[hq];exact ht2
   have hz0:∀s,s<q-k->H (k+s) (c k)=0:=λs h=>Classical.byContradiction (λw=>ht3 s (by omega) w);have s1:=ht.sw hlt Vf;have h0:(λr=>H (sp k q r)) k (c k)≠0:=by
    show H (sp k q k) (c k)≠0;unfold sp;rw[if_pos rfl];exact hq0
   have sv:=Sy s1 szk hlt (show c k<n+m+1 by omega) h0 (o0:=true) (o1:=(n:Int)) (o2:=mq p (λ_=>n) O) (o3:=bq m (λj=>n+j));rw[<-Zi hlt Vf]at sv;have gq:=g1 q Vf;have gk:=g1 k hlt;refine⟨(((k+1:Nat):Int),mq p (λ_=>n) O,bq m (λj=>n+j),mq m (λ_=>n+m+1) (jM (λr=>H (sp k q r)) k (c k))),?_,⟨k+1,_,_,Y,hlt,JN s1 hlt hck h0,JO hlt h0 (Zj hd hlt Vf),λz=>((hs z).trans (SA hlt Vf).symm).trans (NV hlt h0).symm,λs hs'=>?_⟩,by simp only[Int.toNat_natCast];omega⟩
   ·generalize mq m (λ_=>n+m+1) (jM (λr=>H (sp k q r)) k (c k))=akL at*;generalize mq m (λ_=>n+m+1) H=rows at*;refine aB (dT (by omega))<|bO Y<|aB (bz (bg k hlt)) ?_;refine bH (λs=>((k+s:Nat):Int)) (q-k) ((q:Nat):Int) Y (λs hs'=>?_) ?_ ?_
    ·have e:=g2 (k+s) (by omega);have e2:=sg (k+s) (by omega);have e3:=hz0 s hs';rw[e3,FK]at e2;rw[e3]at e;generalize qn 0=w at*;obtain⟨⟨_,_⟩,⟨_,_⟩⟩:=w;exact bW<|aB Y<|aB (dT (by omega))<|aB (a:=true) (bO Y<|aB (b9 (by omega))<|aB (g1 (k+s) (by omega))<|aB (bz e)<|aB e2 Y)<|bO Y<|aB (congrArg some (bM (by omega))) Y
    ·rw[show k+(q-k)=q by omega];have e:=g2 q Vf;have e2:=sg q Vf;have e3:oV (H q (c k)) 0≠0:=λw=>hq0 (oW.1 w);generalize qn (H q (c k))=w at*;obtain⟨⟨_,_⟩,⟨_,_⟩⟩:=w;exact bW<|aB Y<|aB (dT (by omega))<|aB (a:=false) (bO Y<|aB (b9 (by omega))<|aB gq<|aB (bz e)<|aB e2<|aB (dF e3) Y)<|bG Y Y
    exact aB Y<|aB (dF (by omega))<|bG Y<|aB (b9 (by omega))<|aB gq<|aB (b9 (by omega))<|aB gk<|aB (b9 (by omega))<|aB (dS (by omega))<|aB (b9 (by rw[List.length_set];omega))<|aB (dS (by rw[List.length_set];omega))<|aB sv<|aB (congrArg some (bM (by omega))) Y
   show(if s=k then c k else d (sp k q s))=c s;by_cases e:s=k
   ·rw[if_pos e,e]
   rw[if_neg e];unfold sp;rw[if_neg e,if_neg (by omega)];exact hdc s (by omega)
  right;have hz0:∀s,s<m-k->H (k+s) (c k)=0:=λs h=>Classical.byContradiction (λw=>ex ⟨k+s,by omega,by omega,w⟩);refine⟨.inr (),?_,Y⟩;generalize mq m (λ_=>n+m+1) H=rows at*;refine aB (dT (by omega))<|bO Y<|aB (bz (bg k hlt)) ?_;refine bH (λs=>((k+s:Nat):Int)) (m-k) ((m:Nat):Int) Y (λs hs'=>?_) ?_ (aB Y<|aB (dT (by omega))<|bO Y Y)
  ·have e:=g2 (k+s) (by omega);have e2:=sg (k+s) (by omega);have e3:=hz0 s hs';rw[e3,FK]at e2;rw[e3]at e;generalize qn 0=w at*;obtain⟨⟨_,_⟩,⟨_,_⟩⟩:=w;exact bW<|aB Y<|aB (dT (by omega))<|aB (a:=true) (bO Y<|aB (b9 (by omega))<|aB (g1 (k+s) (by omega))<|aB (bz e)<|aB e2 Y)<|bO Y<|aB (congrArg some (bM (by omega))) Y
  rw[show k+(m-k)=m by omega];exact bW<|aB Y<|aB (dF (by omega))<|aB (a:=false) (bG Y Y)<|bG Y Y
 obtain rfl:k=m:=by omega
 exact absurd (Zq nO (λi j hi hj=>by rw[<-hdc j hj];exact hd i j hi hj) hs) Qw
end none_
end
section
open Go.Fw
theorem JQ(q:Lr)(l:List Int)(op:OkL q)(_ol:OkI l):iw q l=some true:=by
 obtain⟨n,ob,rw,bd⟩:=q;obtain⟨on,oo,or_,ob_⟩:=op;replace oo:OkM ob:=oo;replace or_:OkM rw:=or_;replace ob_:OkV bd:=ob_;obtain⟨b1,e1,s1⟩:=Zh (n:=n) (ob:=ob) (rw:=rw) (bd:=bd);have v:=Y4 (n:=n) (ob:=ob) (rw:=rw) (bd:=bd);have my:=akK (n:=n) (ob:=ob) (rw:=rw) (bd:=bd);unfold iw;by_cases hc:b1=true\/8<l.length
 ·have:jE ⟨n,ob,rw,bd⟩ l=some true:=by
   unfold jE;refine bW<|aB e1<|aB (a:=true) ?_<|bO Y al7;cases b1
   ·exact bG Y<|aB Y<|aB (dT (by have:=hc.resolve_left (by decide);omega)) Y
   exact bO Y Y
  rw[if_pos this]
 have E4:b1=false:=by
  cases b1
  ·rfl
  exact absurd (.inl Y) hc
 have Kl:l.length<=8:=by omega
 subst E4;have ap:nD 8 [] l=some l:=Yu (by decide) (by simp only[List.length_nil];omega);obtain⟨s6,s7⟩:=s1 Y;by_cases hA:Gs n ob rw bd/\Pre (n.toNat+rw.length) l l.length/\l.length=rw.length
 ·obtain⟨hv,pr,hlen⟩:=hA;rw[decide_eq_true hv]at my;obtain⟨hr5,hn6⟩:=s7 hv;obtain⟨v1,v2,v3,v4,v5,v6,v7,v8⟩:=id hv;obtain⟨n,rfl⟩:∃k:Nat,n=(k:Int):=⟨n.toNat,by omega⟩;rw[Int.toNat_natCast]at pr;have ro:=ad7 oo s6.so;have rr:=ad7 or_ s6.sr;have hbd:bd.take (min bd.length 20)=bd:=by rw[show min bd.length 20=bd.length by omega,List.take_length]
  have sb:=s6.sb;rw[hbd]at sb;have rb:=akJ ob_ sb;generalize Sv ob=O at ro;generalize Sv rw=R at rr;generalize NL bd=g at rb;have k0:=HH (n:=n) ro rr rb (by decide) hv;obtain⟨m,hm⟩:∃m,rw.length=m:=⟨_,Y⟩;obtain⟨p,hp⟩:∃p,ob.length=p:=⟨_,Y⟩;have co:=QA (n:=n) (ob:=ob) (bd:=bd) (l:=l) (by omega) hm (by omega) (by omega);rw[hm]at pr hlen;rw[decide_eq_true ⟨pr,hlen⟩]at co;rw[hm,hp]at k0;have m5:m<=5:=by omega
  have n6:n<=6:=by omega
  obtain⟨c,hcd⟩:∃c:Nat->Nat,c=λi=>(l.getD i 0).toNat:=⟨_,Y⟩;have lc:∀i,i<m->l[i]? =some ((c i:Nat):Int):=λi hi=>by
   have g:l[i]? =some (l.getD i 0):=by rw[List.getD_eq_getElem?_getD,List.getElem?_eq_getElem (show i<l.length by omega)];rfl
   have:=(pr i _ (by omega) g).1;rw[g,hcd];show some (l.getD i 0)=some (((l.getD i 0).toNat:Nat):Int);rw[Int.toNat_of_nonneg this]
  have nO:∀i,i<m->c i<n+m:=λi hi=>by
   have:=(pr i _ (by omega) (lc i hi)).2.1;omega
  have hinj:∀i j,i<m->j<m->c i=c j->i=j:=λi j hi hj e=>by
   by_cases q:i=j
   ·exact q
   exfalso;by_cases q2:j<i
   ·exact(pr i _ (by omega) (lc i hi)).2.2 j q2 (by rw[lc j hj,e])
   exact(pr j _ (by omega) (lc j hj)).2.2 i (by omega) (by rw[lc i hi,e])
  have hlq:l=bq m c:=by
   apply List.ext_getElem?;intro i;by_cases hi:i<m
   ·rw[lc i hi,o9 hi]
   rw[List.getElem?_eq_none (by omega),List.getElem?_eq_none (by rw[mZ];omega)]
  clear hcd;rw[hlq]at co ap Kl⊢;by_cases ind:L0 m m m (λi s=>pL n m R g i (c s))
  ·obtain⟨H,d,h1,h2,h3,h4⟩:=Qy (c:=c) k0 FN nO ind m (Nat.le_refl _);obtain⟨G,f1,g1,u1,w1⟩:=Ve (F:=H) (b:=d) (c:=c) hm hp ro rr rb hv m5 nO hinj h2 (λz=>(h3 z).symm) (λi hi=>⟨i,hi,h4 i hi⟩);have hsG:∀z,CF n m (pL n m R g) z↔CF n m G z:=λz=>(h3 z).trans (w1 z);obtain⟨i1,i2,i3⟩:=akT (ob':=ob) rr rb hm (by omega) m5 (by omega) nO u1 hsG;have i4:=is7 ro hp hm m5 g1 i2 i3;have:jE ⟨(n:Int),ob,rw,bd⟩ (bq m c)=some true:=by
    unfold jE;exact bW<|aB e1<|aB (a:=false) (bG Y<|aB Y<|aB (dF (by omega)) Y)<|bG Y<|aB ap<|aB f1<|bW<|aB my<|aB Y<|aB (a:=false) (bG Y<|aB co<|aB Y Y)<|bG Y<|aB i1<|aB Y<|bG Y<|bW<|aB (a:=true) (bO Y<|aB i4 Y)<|aB (a:=true) (bO Y al7) Y
   rw[if_pos this]
  have f1:=SD (c:=c) hm hp ro rr rb hv m5 nO hinj ind;have i1:=ark (bd:=bd) ob rr hm m5 (by omega) nO ind;have:uB ⟨(n:Int),ob,rw,bd⟩ (bq m c)=some true:=by
   unfold uB;exact bW<|aB e1<|aB (a:=false) (bG Y<|aB Y<|aB (dF (by omega)) Y)<|bG Y<|aB ap<|aB f1<|bW<|aB my<|aB Y<|aB (a:=false) (bG Y<|aB co<|aB Y Y)<|bG Y<|aB i1<|aB Y<|bO Y al7
  by_cases q:jE ⟨(n:Int),ob,rw,bd⟩ (bq m c)=some true
  ·rw[if_pos q]
  rw[if_neg q,this];by_cases q2:ou ⟨(n:Int),ob,rw,bd⟩ (bq m c)=some true
  ·rw[if_pos q2]
  rw[if_neg q2]
 have f1:=SC (n:=n) (ob:=ob) (rw:=rw) (bd:=bd) (l:=l) (by omega) hA;have:ou ⟨n,ob,rw,bd⟩ l=some true:=by
  unfold ou;refine bW<|aB e1<|aB (a:=false) (bG Y<|aB Y<|aB (dF (by omega)) Y)<|bG Y<|aB ap<|aB f1<|bW<|aB my<|aB Y<|aB (a:=true) ?_<|bO Y al7;by_cases hv:Gs n ob rw bd
  ·obtain⟨v1,v2,v3,v4,v5,v6,v7,v8⟩:=id hv;obtain⟨n,rfl⟩:∃k:Nat,n=(k:Int):=⟨n.toNat,by omega⟩;have co:=QA (n:=n) (m:=rw.length) (ob:=ob) (bd:=bd) (l:=l) (by omega) Y (by omega) (by omega);rw[decide_eq_false (λq=>hA ⟨hv,q.1,q.2⟩)]at co;rw[decide_eq_true hv];exact bG Y<|aB co<|aB Y Y
  rw[decide_eq_false hv];exact bO Y Y
 by_cases q:jE ⟨n,ob,rw,bd⟩ l=some true
 ·rw[if_pos q]
 rw[if_neg q,if_pos this]
end
section
open Go.Fw Go.RowKit Go.ChangeShapes Go.WideShapes Go.ChangeAt
set_option linter.unusedVariables false
set_option maxRecDepth 100000 in
theorem xw(H:Type)(enc:TypeId×Value->H)(W:World)(base:Nat)(args:Array Value)(ds gs:List (DataW H))(before:List MemPlace)
  (hval:∀(j:Nat) t v,Tryz.f5.params[j]? =some t->args[j]? =some v->Value.okWide ah W .any base t v)
  (hW:DataW.Whole enc ah Tryz.f5.params.toList Rows.tableauAtMatchesSpec.vars false W args.toList ds gs before):
  Calls ah 5 args W λe W'=>∃v,e=.returned v/\Rows.tableauAtMatchesSpec.post enc ah Tryz.f5 false true false false W args v W':=by
 have hW':=hW;obtain⟨p,q,hA0,hV,rfl,hfz,hnd⟩:=hW;have hA:DataW.TrodAll enc ah W 0 (λ_=>true) true Tryz.f5.params.toList args.toList ds p:=hA0;rw[Tryz.params5]at hA hval;obtain⟨v0,Zw,d0,ds0,p0,q0,hargs,rfl,rfl,h0,r0⟩:=trodAll_cons hA;obtain⟨v1,vs1,d1,ds1,p1,q1,rfl,rfl,rfl,h1,r1⟩:=trodAll_cons r0;obtain⟨rfl,rfl,rfl⟩:=trodAll_nil r1;obtain rfl:args=#[v0,v1]:=by cases args;simp_all
 obtain⟨rfl,rfl⟩:=trodVars_none hV;have lt0:∀x∈p0,x.block<W.heap.size:=by obtain⟨m,hm⟩:=h0;exact DataW.trod_lt m _ _ _ hm
 obtain⟨x0,ok0,sz0,al0⟩:=aae (P:=ah) (T:=25) (e:=KX) (hval 0 25 v0 Y Y) h0;have lt1:∀x∈p1,x.block<W.heap.size:=by obtain⟨m,hm⟩:=h1;exact DataW.trod_lt m _ _ _ hm
 obtain⟨x1,ok1,sz1,al1⟩:=aad (P:=ah) (T:=45) (e:=(eS 1 bD)) (hval 1 45 v1 Y Y) h1;clear hA0;refine(aaf (xu (JQ x0 x1 ok0 ok1)) (W:=W) (vs:=[v0,v1]) ⟨al0,al1.1,aq⟩).mono λe W' ⟨he,bel⟩=>?_;subst he;exact⟨_,rfl,_,_,_,[],_,[],hW',trodAll_mk1 (shut_bool Tryz.underlying4 _),(trodAll_cons_mk (Below.trod Oy (by kernel_rfl) (of_decide_eq_true (by kernel_rfl)) h0 bel lt0) (trodAll_cons_mk (Below.trod Oy (by kernel_rfl) (of_decide_eq_true (by kernel_rfl)) h1 bel lt1) trodAll_mk0)),rfl,bel.frame _,λh=>by cases h⟩
set_option maxRecDepth 100000 in
theorem zm(os:Os)(started:os.Started)(H:Type)(enc:TypeId×Value->H):
  ReturnsInHanded {} Tryz.checked os 5 .any (Rows.tableauAtMatchesSpec.pre6 enc ah Tryz.f5 Rows.tableauAtMatchesRow.domain false) (Rows.tableauAtMatchesSpec.post enc ah Tryz.f5 false true false false):=by
 refine returnsInHanded_of_change (C:=Tryz.checked) amu started (by kernel_rfl) Tryz.func5
  (ChangeSpec.witness6 (enc:=enc) (C:=Tryz.checked) false ⟨#[],#[.agg #[.int .i64 0,.slice none 0 0,.slice none 0 0,.slice none 0 0],.slice none 0 0],[]⟩ 8 (by kernel_rfl) (by kernel_rfl) (by kernel_rfl) (by kernel_rfl)) ?_
 intro W base args ds gs before hval hW _ _;exact xw H enc W base args ds gs before hval hW
theorem tableauAtMatches_holds:Rows.TableauAtMatchesSaid:=
 OpenClaim.holds_of_wide 5 Tryz.f5 Y Y Y Y Y Y Y ⟨Y,Y,Y,Y,Y⟩ Y Y Y Y Y (by kernel_rfl) Tryz.func5 (by kernel_rfl)
  (of_decide_eq_true (by kernel_rfl)) (by unfold Func.isWrapper;first|(rw[if_pos (by decide+kernel)];kernel_rfl)|(rw[if_neg (by decide+kernel)];exact⟨Y,Y⟩))
  (λos started H enc _=>zm os started H enc)
end
end Go.Proofs.YtningmnklfpfjaaGreat
