/- The law TableauAtMatches answers true for every input, up to the size that the statement names. -/
import Derived.Test.YtningmnklfpfjaaGreatPTM5
set_option linter.unusedVariables false
set_option linter.unusedSimpArgs false
namespace Go.Proofs.YtningmnklfpfjaaGreat
section
open Go.Fw
theorem aeg{α:Type}{l:List α}{x:α}(h:l.length≤1000):nC 24 l [x]=some (l++[x]):=nP (by decide) (by omega)
section tab
variable {L n m p:Nat}{O F:Nat→Nat→Rat}{b:Nat→Nat}
theorem akT(h:vv L n m p O F b)(hL:L≤4000000000):sL (LU n m p O F b)=some (mq m (λ_=>n+m) F):=by
 have hm:=h.hm
 have hn:=h.hn
 unfold sL
 refine aA (pJ n m p O F b)<|bG Y<|aA (congrArg some (show((mq m (λ_=>n+m+1) F).length:Int)=(m:Int) by rw[cM])) ?_
 refine bH (λk=>((k:Int),mq k (λ_=>n+m) F)) m (mq m (λ_=>n+m) F) Y (λk hk=>?_) ?_ Y
 ·have g1:(mq m (λ_=>n+m+1) F)[k]? =some (vq (n+m+1) (F k)):=fu hk
  have rs:=TU (ahi h hk) (by omega) (by rw[bY];omega) ((n+m:Nat):Int)
  rw[show(min (((n+m:Nat):Int)) 65536).toNat=n+m by omega]at rs
  have ap:=aeg (l:=mq k (λ_=>n+m) F) (x:=vq (n+m) (F k)) (by rw[cM];omega)
  rw[←tq]at ap
  refine aA (dT (by omega))<|bO Y<|aA (bz g1)<|aA (NV hn hm)<|aA rs<|aA ap<|aA (congrArg some (bM (by omega))) Y
 ·exact aA (dF (by omega))<|bG Y Y
theorem ahq(h:vv L n m p O F b)(hL:(m+1)*(L+L+1)≤2000000000):gZ (LU n m p O F b)=some (mq (n+m) (λ_=>p+n) (r8 n m p O F b)):=by
 have hm:=h.hm
 have hn:=h.hn
 unfold gZ
 refine aA (pJ n m p O F b)<|bG Y ?_
 have hw:(IntKind.i64.wrap (Tb.vars (LU n m p O F b)+((Tb.rows (LU n m p O F b)).length:Int))).toNat=n+m:=by
  show(IntKind.i64.wrap ((n:Int)+((mq m (λ_=>n+m+1) F).length:Int))).toNat=_
  rw[cM,cG (by omega) (by omega)];omega
 refine aA (a:=mq (n+m) (λ_=>p+n) (r8 n m p O F b)) ?_ Y
 refine Eq.trans (congrArg (λk=>uM _ k []) hw) ?_
 refine Fe (λk=>mq k (λ_=>p+n) (r8 n m p O F b)) (n+m) (λk hk=>?_)
 have ap:=aeg (l:=mq k (λ_=>p+n) (r8 n m p O F b)) (x:=vq (p+n) (r8 n m p O F b k)) (by rw[cM];omega)
 rw[←tq]at ap
 exact aA Y<|aA (LW h hL hk).1<|aA ap Y
end tab
end
section
open Go.Fw
theorem BK{α β:Type}{x:Option α}{a:α}{f:α→Option β}{Q:β→Prop}(h:x=some a)(hf:∃r,f a=some r∧Q r):∃r,x.bind f=some r∧Q r:=by rw[h];exact hf
theorem exT{β:Type}{b:Bool}{x y:Option β}{Q:β→Prop}(hb:b=true)(h:∃r,x=some r∧Q r):∃r,(bif b then x else y)=some r∧Q r:=by rw[hb];exact h
theorem zm{S E R:Type}{body:S→Option (S⊕E)}{s:S}{f:E→Option R}{Q:R→Prop}(I:S→Prop)(Post:E→Prop)(μ:S→Nat)
  (step:∀s,I s→∃r,body s=some r∧((∃s',r=.inl s'∧I s'∧μ s'<μ s)∨(∃e,r=.inr e∧Post e))) (h:I s) (hf:∀e,Post e→∃r,f e=some r∧Q r):∃r,(bX body s).bind f=some r∧Q r:=
 mW I Post μ (λs hs=>by
  obtain⟨r,hr,h1⟩:=step s hs
  rcases h1 with⟨s',rfl,h2⟩|⟨e,rfl,h2⟩
  ·exact .inl ⟨s',hr,h2⟩
  ·exact .inr ⟨e,hr,h2⟩) h hf
section tab
variable {L n m p:Nat}{O F G:Nat→Nat→Rat}{b c:Nat→Nat}
end tab
end
section
open Go.Fw
section ark
variable {L K M n:Nat}{rw rv:List (List Qr)}{F G:Nat→Nat→Rat}
theorem NZ(h:jk L rw F)(hL:L≤10000000000)(i j:Nat):fD rw (i:Int) (j:Int)=some (qn (F i j)):=by
 unfold fD
 rw[xY]
 by_cases hi:i<rw.length
 ·have g1:=jF (l:=rw) (d:=[]) hi
  have e1:=BF (rw.getD i []) j
  have e2:=((h.row i).gd j).YY hL
  generalize (rw.getD i []).getD j (⟨⟨false,[]⟩,⟨false,[]⟩⟩:Qr)=q at*
  generalize qn (F i j)=q2 at*
  exact aA (dF (by omega))<|aA (a:=false) (bG Y<|aA Y<|aA (dF (by omega)) Y)<|bG Y<|aA (bz g1)<|aA e1<|aA e2 Y
 ·rw[h.z i (by omega) j]
  exact aA (dF (by omega))<|aA (a:=true) (bG Y<|aA Y<|aA (dT (by omega)) Y)<|bO Y Y
theorem L0{a b kd:Nat}{c:Qr}{F:Nat→Nat→Rat}(ha:a≤1024)(hb:b≤1024)(pl:∀i j:Nat,i<a→j<b→eL kd c rw rv (i:Int) (j:Int)=some (qn (F i j))):kJ (a:Int) (b:Int) kd c rw rv=some (mq a (λ_=>b) F):=by
 unfold kJ
 obtain⟨⟨c1,c2⟩,⟨c3,c4⟩⟩:=c
 refine bH (λi=>((i:Int),mq i (λ_=>b) F)) a (mq a (λ_=>b) F) Y (λi hi=>?_) ?_ Y
 ·refine aA (dT (by omega))<|bO Y ?_
  refine bH (λj=>((j:Int),vq j (F i))) b (vq b (F i)) Y (λj hj=>?_) ?_ ?_
  ·have e1:=pl i j hi hj
   have e2:nC 64 (vq j (F i)) [qn (F i j)]=some (vq (j+1) (F i)):=by rw[nP (by decide) (by rw[bY];omega),mX]
   generalize qn (F i j)=q at*
   exact aA (dT (by omega))<|bO Y<|aA e1<|aA e2<|aA (congrArg some (bM (by omega))) Y
  ·exact aA (dF (by omega))<|bG Y Y
  ·have e3:nC 24 (mq i (λ_=>b) F) [vq b (F i)]=some (mq (i+1) (λ_=>b) F):=by
    rw[nP (by decide) (by rw[cM];omega),tq]
   exact aA e3<|aA (congrArg some (bM (by omega))) Y
 ·exact aA (dF (by omega))<|bG Y Y
theorem abP(x:List (List Qr))(a b:Int):vT x a b=qL x a b:=rfl
theorem ES{a:Nat}(h:a≤1024):jC (a:Int)=some (a:Int):=by
 unfold jC
 exact aA Y<|aA (congrArg some (show min (max (a:Int) 0) 1024=(a:Int) by omega)) Y
theorem akU(h:jk L rw F)(hL:L≤1000000000){a b:Nat}(ha:a≤1024)(hb:b≤1024):qL rw (a:Int) (b:Int)=some (mq a (λ_=>b) F):=by
 have e1:=EP (n:=1) (by decide)
 have ZV:=h.l1
 have r1:kQ 2 (qn ((1:Int):Rat)) ((1:Int):Rat):=(kR (by decide)).2
 have hone:∀x:Rat,(((1:Int):Rat))*x=x:=λx=>by
  have:(((1:Int):Rat))=1:=by decide
  rw[this];grind
 have pl:∀i j:Nat,i<a→j<b→eL 0 (qn ((1:Int):Rat)) rw [] (i:Int) (j:Int)=some (qn (F i j)):=λi j _ _=>by
  have e1:=NZ h (by omega) i j
  have e2:=r1.YZ (((h.row i).fq j).rep ZV) (by omega)
  rw[hone]at e2
  unfold eL
  generalize qn ((1:Int):Rat)=c at*
  generalize qn (F i j)=q at*
  exact aA (dF (by decide))<|bG Y<|aA (dF (by decide))<|bG Y<|aA (dF (by decide))<|bG Y<|aA e1<|aA e2 Y
 have e3:=L0 (F:=F) ha hb pl
 unfold qL
 generalize qn ((1:Int):Rat)=c at*
 obtain⟨⟨_,_⟩,⟨_,_⟩⟩:=c
 exact aA (ES ha)<|aA (ES hb)<|aA e1<|aA e3 Y
end ark
def BL(L:Nat):Nat→Nat
 |0=>L
 |d+1=>4*BL L d+1
theorem Zn(L:Nat):∀d,BL L d≤BL L (d+1):=λd=>by show _≤4*BL L d+1;omega
theorem BM(L:Nat){d e:Nat}(h:d≤e):BL L d≤BL L e:=by
 induction e with
 |zero=>rw[show d=0 by omega];exact Nat.le_refl _
 |succ e ih=>
  by_cases q:d=e+1
  ·rw[q];exact Nat.le_refl _
  ·exact Nat.le_trans (ih (by omega)) (Zn L e)
theorem ET{L:Nat}(h:1≤L):∀d,1≤BL L d
 |0=>h
 |d+1=>by show 1≤4*BL L d+1;omega
def Nul(r w:Nat)(A:Nat→Nat→Rat)(z:Nat→Rat):Prop:=∀i,i<r→cw (λl=>A i l*z l) w=0
theorem abQ{r w d k:Nat}{F:Nat→Nat→Rat}{z:Nat→Rat}(hd:d<r)(h0:F d k≠0):Nul r w (jM F d k) z↔Nul r w F z:=by
 have hi:F d k*(F d k)⁻¹=1:=Rat.mul_inv_cancel _ h0
 constructor
 ·intro h
  have e:=h d hd
  rw[Cc]at e
  have er:cw (λl=>F d l*z l) w=0:=by
   have:=congrArg (λx=>F d k*x) e
   simp only[←Rat.mul_assoc,hi,Rat.one_mul]at this
   rw[this];grind
  intro i hi'
  by_cases q:i=d
  ·rw[q];exact er
  ·have e2:=h i hi'
   rw[Cd q,er]at e2
   grind
 ·intro h i hi'
  by_cases q:i=d
  ·rw[q,Cc,h _ hd];grind
  ·rw[Cd q,h i hi',h d hd];grind
theorem ahs{r w i q:Nat}{F:Nat→Nat→Rat}{z:Nat→Rat}(hi:i<r)(hq:q<r):Nul r w (λs=>F (sp i q s)) z↔Nul r w F z:=
 ⟨λh s hs=>by have:=h (sp i q s) (xo hi hq hs);simp only[T0]at this;exact this,λh s hs=>h _ (xo hi hq hs)⟩
structure BN (L r w:Nat) (A:Nat→Nat→Rat) (d k:Nat) (H:Nat→Nat→Rat) (pv:Nat→Nat):Prop where
 hd:d≤r
 f:∀i,i<r→∀l,FQ (BL L d) (H i l)
 z:∀i,i<r→∀l,w≤l→H i l=0
 pl:∀s,s<d→pv s<k
 pu:∀s,s<d→∀q,q<r→H q (pv s)=if q=s then 1 else 0
 el:∀s,s<d→∀l,l<pv s→H s l=0
 ez:∀q,d≤q→q<r→∀l,l<k→H q l=0
 ho:∀z,Nul r w H z↔Nul r w A z
 mo:∀s t,s<t→t<d→pv s<pv t
theorem BN.skip{L r w d k:Nat}{A H:Nat→Nat→Rat}{pv:Nat→Nat}(h:BN L r w A d k H pv)(h0:∀q,d≤q→q<r→H q k=0):BN L r w A d (k+1) H pv:=
 ⟨h.hd,h.f,h.z,λs hs=>by have:=h.pl s hs;omega,h.pu,h.el,λq hq TI l hl=>by
  by_cases e:l=k
  ·rw[e];exact h0 q hq TI
  ·exact h.ez q hq TI l (by omega),h.ho,h.mo⟩
theorem BN.step{L r w d k q:Nat}{A H:Nat→Nat→Rat}{pv:Nat→Nat}(h:BN L r w A d k H pv)(hq:d≤q)(TI:q<r)(h0:H q k≠0):BN L r w A (d+1) (k+1) (jM (λs=>H (sp d q s)) d k) (λs=>if s=d then k else pv s):=by
 have uF:d<r:=by omega
 have s0:sp d q d=q:=by unfold sp;rw[if_pos rfl]
 have s1:∀s,s<d→sp d q s=s:=λs hs=>by unfold sp;rw[if_neg (by omega),if_neg (by omega)]
 have s2:∀s,d≤s→d≤sp d q s:=λs hs=>by unfold sp;split<;>(try split)<;>omega
 have hk:(λs=>H (sp d q s)) d k≠0:=by show H (sp d q d) k≠0;rw[s0];exact h0
 have fq:∀i,i<r→∀l,FQ (BL L d) (H (sp d q i) l):=λi hi l=>h.f _ (xo uF TI hi) l
 have hi:H q k*(H q k)⁻¹=1:=Rat.mul_inv_cancel _ h0
 have pd:∀i l,jM (λs=>H (sp d q s)) d k i l=if i=d then H q l/H q k else H (sp d q i) l-H (sp d q i) k*(H q l/H q k):=λi l=>by
  show(if i=d then H (sp d q d) l/H (sp d q d) k else H (sp d q i) l-H (sp d q i) k*(H (sp d q d) l/H (sp d q d) k))=_
  rw[s0]
 have keep:∀l,H q l=0→∀i,jM (λs=>H (sp d q s)) d k i l=H (sp d q i) l:=λl hl i=>by
  rw[pd,hl]
  have e:(0:Rat)/H q k=0:=by rw[Rat.div_def,Rat.zero_mul]
  rw[e]
  split
  ·rename_i w;rw[w,s0,hl]
  ·grind
 have zq:∀l,l<k→H q l=0:=λl hl=>h.ez q hq TI l hl
 refine⟨by omega,λi hi l=>?_,λi hi l hl=>?_,λs hs=>?_,λs hs i hi'=>?_,λs hs l hl=>?_,λi hi2 hir l hl=>?_,λz=>(abQ uF hk).trans ((ahs uF TI).trans (h.ho z)),λs t hst ht=>by
  show(if s=d then k else pv s)<(if t=d then k else pv t)
  rw[if_neg (by omega)]
  by_cases e:t=d
  ·rw[if_pos e];exact h.pl s (by omega)
  ·rw[if_neg e];exact h.mo s t hst (by omega)⟩
 ·have e:=(fq d uF l).div (fq d uF k) hk
  show FQ (4*BL L d+1) _
  unfold jM
  split
  ·exact e.mono (by omega)
  ·exact((fq i hi l).sub ((fq i hi k).mul e)).mono (by omega)
 ·rw[keep l (h.z q TI l hl)];exact h.z _ (xo uF TI hi) l hl
 ·show(if s=d then k else pv s)<k+1
  split
  ·omega
  ·have:=h.pl s (by omega);omega
 ·show jM (λs=>H (sp d q s)) d k i (if s=d then k else pv s)=_
  by_cases e:s=d
  ·rw[if_pos e,e]
   rw[pd,Rat.div_def,hi]
   by_cases w:i=d
   ·rw[if_pos w,if_pos w]
   ·rw[if_neg w,if_neg w];grind
  ·rw[if_neg e]
   have hs':s<d:=by omega
   rw[keep (pv s) (zq _ (h.pl s hs')),h.pu s hs' _ (xo uF TI hi')]
   by_cases w:i=s
   ·rw[if_pos w,if_pos (by rw[w];exact s1 s hs')]
   ·rw[if_neg w,if_neg (λw2=>w (by
     by_cases v:i<d
     ·rw[s1 i v]at w2;exact w2
     ·have:=s2 i (by omega);omega))]
 ·replace hl:l<(if s=d then k else pv s):=hl
  by_cases e:s=d
  ·rw[if_pos e]at hl
   rw[keep l (zq l hl),e,s0];exact zq l hl
  ·rw[if_neg e]at hl
   have hs':s<d:=by omega
   have:=h.pl s hs'
   rw[keep l (zq l (by omega)),s1 s hs'];exact h.el s hs' l hl
 ·by_cases e:l=k
  ·rw[e]
   rw[pd,if_neg (by omega),Rat.div_def,hi];grind
  ·rw[keep l (zq l (by omega))];exact h.ez _ (s2 i (by omega)) (xo uF TI hir) l (by omega)
end
section
open Go.Fw
theorem SE{S E R:Type}{body:S→Option (S⊕E)}{s:S}{f:E→Option R}{Q:R→Prop}(st:Nat→S)(n:Nat)(e:E)(h0:s=st 0)(hs:∀k,k<n→body (st k)=some (.inl (st (k+1))))(he:body (st n)=some (.inr e))(hf:∃r,f e=some r∧Q r):∃r,(bX body s).bind f=some r∧Q r:=by
 obtain⟨r,h1,h2⟩:=hf
 exact⟨r,bH st n e h0 hs he h1,h2⟩
theorem exF{β:Type}{b:Bool}{x y:Option β}{Q:β→Prop}(hb:b=false)(h:∃r,y=some r∧Q r):∃r,(bif b then x else y)=some r∧Q r:=by rw[hb];exact h
theorem L2{m w i:Nat}{F:Nat→Nat→Rat}{f:Nat→Rat}(hi:i<m):(mq m (λ_=>w) F).set i (vq w f)=mq m (λ_=>w) (λj=>if j=i then f else F j):=by
 apply List.ext_getElem?
 intro j
 rw[List.getElem?_set,cM]
 by_cases hj:j<m
 ·rw[fu hj,fu hj]
  by_cases e:i=j
  ·rw[if_pos e,if_pos hi,if_pos e.symm]
  ·rw[if_neg e,if_neg (λq=>e q.symm)]
 ·rw[List.getElem?_eq_none (l:=mq m _ _) (by rw[cM];omega),List.getElem?_eq_none (l:=mq m _ _) (by rw[cM];omega),if_neg (by omega)]
theorem rby{K L:Nat}{a b:Qr}{x y:Rat}(ha:kQ K a x)(hb:kQ L b y)(h:K+L≤4000000000)(h0:y≠0):w8 a b=some (qn (x/y)):=by
 have e:=ha.arc hb h h0
 unfold w8
 obtain⟨⟨_,_⟩,⟨_,_⟩⟩:=a
 obtain⟨⟨_,_⟩,⟨_,_⟩⟩:=b
 generalize qn (x/y)=q at*
 obtain⟨⟨_,_⟩,⟨_,_⟩⟩:=q
 exact aA e Y
theorem HL{L r w:Nat}{rows:List (List Qr)}{A:Nat→Nat→Rat}(h:jk L rows A)(hr:rows.length=r)(hc:oZ rows=w)(hr8:r≤100)(hw:w≤100)(hL:BL L (r+1)≤100000000):
  ∃res,jW rows=some res∧∃d H pv,res=(mq d (λ_=>w) H,bq d pv)∧BN L r w A d w H pv:=by
 have L1:=h.l1
 have sz:∀d,d≤r→BL L d≤100000000:=λd hd=>Nat.le_trans (BM L (show d≤r+1 by omega)) hL
 have LL:L≤100000000:=sz 0 (by omega)
 have ft:=akU h (by omega) (a:=r) (b:=w) (by omega) (by omega)
 rw[←abP]at ft
 have az:∀i,i<r→∀l,w≤l→A i l=0:=λi hi l hl=>(h.row i).z l (by
  have:=xn.1 (Nat.le_of_eq hc) (rows.getD i []) (List.mem_of_getElem? (jF (d:=[]) (by omega)))
  omega)
 have rc:=vw rows (by omega)
 rw[hc]at rc
 unfold jW
 refine BK rc<|BK (congrArg some (show(rows.length:Int)=(r:Int) by rw[hr]))<|BK ft ?_
 refine zm (λs=>∃(d k:Nat) (H:Nat→Nat→Rat) (pv:Nat→Nat),s=((d:Int),(k:Int),mq r (λ_=>w) H,bq d pv)∧k≤w∧BN L r w A d k H pv) (λe=>∃(d:Nat) (H:Nat→Nat→Rat) (pv:Nat→Nat),e=((d:Int),mq r (λ_=>w) H,bq d pv)∧BN L r w A d w H pv) (λs=>w-s.2.1.toNat) ?_ ⟨0,0,A,λ_=>0,Y,Nat.zero_le _,Nat.zero_le _,λi _ l=>(h.row i).fq l,az,λs hs=>by omega,λs hs=>by omega,λs hs=>by omega,λ_ _ _ l hl=>by omega,λ_=>Iff.rfl,λs t _ ht=>by omega⟩ ?_
 ·rintro _ ⟨d,k,H,pv,rfl,hk,inv⟩
  by_cases hlt:k<w
  ·have QF:=cM r (λ_=>w) H
   refine BK (dT (by omega))<|exT Y ?_
   refine zm (λy=>∃t:Nat,y=(t:Int)∧d≤t∧t≤r∧∀q,d≤q→q<t→H q k=0) (λy=>∃t:Nat,y=(t:Int)∧d≤t∧t≤r∧(∀q,d≤q→q<t→H q k=0)∧(t<r→H t k≠0)) (λy=>r-y.toNat) ?_ ⟨d,Y,Nat.le_refl _,inv.hd,λq h1 h2=>by omega⟩ ?_
   ·rintro _ ⟨t,rfl,h1,h2,h3⟩
    by_cases ht:t<r
    ·have g1:(mq r (λ_=>w) H)[t]? =some (vq w (H t)):=fu ht
     have g2:(vq w (H t))[k]? =some (qn (H t k)):=iM hlt
     have sg:=((inv.f t ht k).rep (ET L1 d)).TT (by have:=sz d inv.hd;omega)
     have zz:oV (H t k) 0=0↔H t k=0:=oW
     generalize mq r (λ_=>w) H=R at*
     generalize qn (H t k)=q at*
     obtain⟨⟨_,_⟩,⟨_,_⟩⟩:=q
     by_cases e:H t k=0
     ·exact⟨_,bW<|aA Y<|aA (dT (by omega))<|aA (a:=true) (bO Y<|aA (b9 (by omega))<|aA g1<|aA (bz g2)<|aA sg<|aA (dT (zz.2 e)) Y)<|bO Y<|aA (congrArg some (bM (by omega))) Y,.inl ⟨_,Y,⟨t+1,Y,by omega,by omega,λq q1 q2=>by
       by_cases w2:q=t
       ·rw[w2];exact e
       ·exact h3 q q1 (by omega)⟩,by simp only[Int.toNat_natCast];omega⟩⟩
     ·exact⟨_,bW<|aA Y<|aA (dT (by omega))<|aA (a:=false) (bO Y<|aA (b9 (by omega))<|aA g1<|aA (bz g2)<|aA sg<|aA (dF (λw=>e (zz.1 w))) Y)<|bG Y Y,.inr ⟨_,Y,t,Y,h1,h2,h3,λ_=>e⟩⟩
    ·exact⟨_,bW<|aA Y<|aA (dF (by omega))<|aA (a:=false) (bG Y Y)<|bG Y Y,.inr ⟨_,Y,t,Y,h1,h2,h3,λw=>by omega⟩⟩
   ·rintro _ ⟨t,rfl,h1,h2,h3,h4⟩
    by_cases ht:t<r
    ·have h0:=h4 ht
     have uF:d<r:=by omega
     have st:=inv.step h1 ht h0
     have s0:sp d t d=t:=by unfold sp;rw[if_pos rfl]
     have szd:=sz d inv.hd
     have g1:(mq r (λ_=>w) H)[t]? =some (vq w (H t)):=fu ht
     have g2:(mq r (λ_=>w) H)[d]? =some (vq w (H d)):=fu uF
     have esw:=Zl (w:=w) (F:=H) uF ht
     obtain⟨F,hF⟩:∃F:Nat→Nat→Rat,F=λs=>H (sp d t s):=⟨_,Y⟩
     rw[←hF]at st esw
     have fF:∀i,i<r→∀l,FQ (BL L d) (F i l):=λi hi l=>by rw[hF];exact inv.f _ (xo uF ht hi) l
     have zF:∀i,i<r→∀l,w≤l→F i l=0:=λi hi l hl=>by rw[hF];exact inv.z _ (xo uF ht hi) l hl
     have n0:F d k≠0:=by rw[hF];show H (sp d t d) k≠0;rw[s0];exact h0
     have akV:∀i,i<r→ek (BL L d) (vq w (F i)) (F i):=λi hi=>qo (λl _=>fF i hi l) (zF i hi) (ET L1 d)
     have one:=EP (n:=1) (by decide)
     have r1:kQ 2 (qn ((1:Int):Rat)) ((1:Int):Rat):=(kR (by decide)).2
     have rx:=(fF d uF k).rep (ET L1 d)
     have eby:=rby r1 rx (by omega) n0
     have rinv:kQ (BL L d+BL L d+2) (qn (((1:Int):Rat)/F d k)) (((1:Int):Rat)/F d k):=((((kR (n:=1) (by decide)).2.fq).div (fF d uF k) n0).mono (by have:=ET L1 d;omega)).rep (by omega)
     have esc:=Sw rinv (akV d uF) (by omega) (by rw[bY];omega)
     have o1:∀x:Rat,(((1:Int):Rat))/F d k*x=x/F d k:=λx=>by
      have:(((1:Int):Rat))=1:=by decide
      rw[this,Rat.div_def,Rat.div_def];grind
     have e6:vq w (λl=>((1:Int):Rat)/F d k*F d l)=vq w (jM F d k d):=dG (λl _=>by unfold jM;rw[if_pos rfl];exact o1 _)
     rw[bY,e6]at esc
     have gd:(mq r (λ_=>w) F)[d]? =some (vq w (F d)):=fu uF
     have gx:(vq w (F d))[k]? =some (qn (F d k)):=iM hlt
     have arn:=L2 (w:=w) (F:=F) (f:=jM F d k d) uF
     have fl:=cM r (λ_=>w) F
     have apk:nC 8 (bq d pv) [(k:Int)]=some (bq (d+1) (λs=>if s=d then k else pv s)):=by
      rw[nP (by decide) (by rw[mY];omega),TW,if_pos rfl]
      congr 2
      unfold bq
      exact List.map_congr_left (λs hs=>by
       have:=List.mem_range.1 hs
       show((pv s:Nat):Int)=((if s=d then k else pv s:Nat):Int)
       rw[if_neg (by omega)])
     generalize qn ((1:Int):Rat)=q1 at*
     generalize qn (((1:Int):Rat)/F d k)=q2 at*
     obtain⟨⟨_,_⟩,⟨_,_⟩⟩:=q1
     obtain⟨⟨_,_⟩,⟨_,_⟩⟩:=q2
     generalize hq3:qn (F d k)=q3 at*
     obtain⟨⟨_,_⟩,⟨_,_⟩⟩:=q3
     refine BK Y<|BK (dF (by omega))<|exF Y<|BK (b9 (by omega))<|BK g1<|BK (b9 (by omega))<|BK g2<|BK (b9 (by omega))<|BK (dS (by omega))<|BK (b9 (by rw[List.length_set];omega))<|BK (dS (by rw[List.length_set];omega)) ?_
     rw[esw]
     refine BK one<|BK (b9 (by omega))<|BK gd<|BK (bz gx)<|BK eby<|BK (b9 (by omega))<|BK gd<|BK esc<|BK (b9 (by omega))<|BK (dS (by omega)) ?_
     rw[arn]
     refine SE (λi=>((i:Int),mq r (λ_=>w) (λj=>if j=d∨j<i then jM F d k j else F j))) r (mq r (λ_=>w) (jM F d k)) ?_ (λi hi=>?_) ?_ ?_
     ·congr 1
      refine kS (λj _=>⟨Y,λl _=>?_⟩)
      by_cases e:j=d
      ·rw[if_pos e,if_pos (.inl e),e]
      ·rw[if_neg e,if_neg (by omega)]
     ·have ln:=cM r (λ_=>w) (λj=>if j=d∨j<i then jM F d k j else F j)
      by_cases e:i=d
      ·have same:mq r (λ_=>w) (λj=>if j=d∨j<i then jM F d k j else F j)=mq r (λ_=>w) (λj=>if j=d∨j<i+1 then jM F d k j else F j):=kS (λj _=>⟨Y,λl _=>by
        by_cases c:j=d∨j<i
        ·rw[if_pos c,if_pos (by omega)]
        ·rw[if_neg c,if_neg (by omega)]⟩)
       rw[←same]
       exact aA (congrArg some (show((mq r (λ_=>w) (λj=>if j=d∨j<i then jM F d k j else F j)).length:Int)=(r:Int) by rw[ln]))<|aA (dT (by omega))<|bO Y<|aA (dF (by omega))<|bW<|bG Y<|aA (congrArg some (bM (by omega))) Y
      ·have gi:(mq r (λ_=>w) (λj=>if j=d∨j<i then jM F d k j else F j))[i]? =some (vq w (F i)):=by rw[fu hi,if_neg (by omega)]
       have gd2:(mq r (λ_=>w) (λj=>if j=d∨j<i then jM F d k j else F j))[d]? =some (vq w (jM F d k d)):=by rw[fu uF,if_pos (.inl Y)]
       have gk:(vq w (F i))[k]? =some (qn (F i k)):=iM hlt
       have ri:=(fF i hi k).rep (ET L1 d)
       have ng:=ri.ahd (by omega)
       have rn:kQ (BL L d) (qn (-F i k)) (-F i k):=(ri.neg (by omega)).2
       have rpd:ek (4*BL L d+1) (vq w (jM F d k d)) (jM F d k d):=qo (λl _=>st.f d uF l) (st.z d uF) (by omega)
       have cb:=TV rn rpd (akV i hi) (by omega) (by rw[bY];omega) (by rw[bY];omega)
       have e7:vq w (λl=>-F i k*jM F d k d l+F i l)=vq w (jM F d k i):=dG (λl _=>by unfold jM;rw[if_pos Y,if_neg e];grind)
       rw[bY,bY,Nat.max_self,e7]at cb
       have es:=L2 (w:=w) (F:=λj=>if j=d∨j<i then jM F d k j else F j) (f:=jM F d k i) hi
       have es2:mq r (λ_=>w) (λj=>if j=i then jM F d k i else(λj=>if j=d∨j<i then jM F d k j else F j) j)=mq r (λ_=>w) (λj=>if j=d∨j<i+1 then jM F d k j else F j):=kS (λj _=>⟨Y,λl _=>by
        show(if j=i then jM F d k i else if j=d∨j<i then jM F d k j else F j) l=(if j=d∨j<i+1 then jM F d k j else F j) l
        by_cases c:j=i
        ·rw[if_pos c,if_pos (by omega),c]
        ·rw[if_neg c]
         by_cases c2:j=d∨j<i
         ·rw[if_pos c2,if_pos (by omega)]
         ·rw[if_neg c2,if_neg (by omega)]⟩)
       rw[es2]at es
       rw[←es]
       generalize mq r (λ_=>w) (λj=>if j=d∨j<i then jM F d k j else F j)=W at*
       generalize qn (F i k)=q4 at*
       generalize qn (-F i k)=q5 at*
       obtain⟨⟨_,_⟩,⟨_,_⟩⟩:=q4
       obtain⟨⟨_,_⟩,⟨_,_⟩⟩:=q5
       exact aA Y<|aA (dT (by omega))<|bO Y<|aA (dT (by omega))<|bW<|bO Y<|aA (b9 (by omega))<|aA gi<|aA (bz gk)<|aA ng<|aA (b9 (by omega))<|aA gd2<|aA (b9 (by omega))<|aA gi<|aA cb<|aA (b9 (by omega))<|aA (dS (by omega))<|aA (congrArg some (bM (by omega))) Y
     ·have ln:=cM r (λ_=>w) (λj=>if j=d∨j<r then jM F d k j else F j)
      have all:mq r (λ_=>w) (λj=>if j=d∨j<r then jM F d k j else F j)=mq r (λ_=>w) (jM F d k):=kS (λj hj=>⟨Y,λl _=>by rw[if_pos (.inr hj)]⟩)
      rw[←all]
      exact aA (congrArg some (show((mq r (λ_=>w) (λj=>if j=d∨j<r then jM F d k j else F j)).length:Int)=(r:Int) by rw[ln]))<|aA (dF (by omega))<|bG Y Y
     ·exact⟨_,aA apk<|aA (congrArg some (bM (by omega)))<|aA (congrArg some (bM (by omega))) Y,.inl ⟨_,Y,⟨d+1,k+1,_,_,Y,by omega,st⟩,by simp only[Int.toNat_natCast];omega⟩⟩
    ·obtain rfl:t=r:=by omega
     exact⟨_,aA (congrArg some (show((mq t (λ_=>w) H).length:Int)=(t:Int) by rw[QF]))<|aA (dT Y)<|bO Y<|aA (congrArg some (bM (by omega))) Y,.inl ⟨_,Y,⟨d,k+1,H,pv,Y,by omega,inv.skip h3⟩,by simp only[Int.toNat_natCast];omega⟩⟩
  ·obtain rfl:k=w:=by omega
   exact⟨_,aA (dF (by omega))<|bG Y Y,.inr ⟨_,Y,d,H,pv,Y,inv⟩⟩
 ·rintro _ ⟨d,H,pv,rfl,inv⟩
  refine⟨_,aA (y4 (by rw[cM];exact inv.hd)) Y,d,H,pv,?_,inv⟩
  rw[show(mq r (λ_=>w) H).take d=mq d (λ_=>w) H by unfold mq;rw[←List.map_take,List.take_range,Nat.min_eq_left inv.hd]]
end
section
open Go.Fw
theorem rin{d:Nat}{pv:Nat→Nat}(k:Nat)(hd:d≤1000000):sO (bq d pv) (k:Int)=some (decide (∃s,s<d∧pv s=k)):=by
 unfold sO
 have ln:=mY d pv
 refine aA (a:=if ∀s,s<d→pv s≠k then .inl ()else .inr true) (zj (n:=d) (p:=λs=>pv s≠k) (e:=true) (λs hs=>?_) (aA (congrArg some (show((bq d pv).length:Int)=(d:Int) by rw[ln]))<|aA (dF (by omega))<|bG Y Y)) ?_
 ·have g:(bq d pv)[s]? =some ((pv s:Nat):Int):=o9 hs
  generalize bq d pv=B at*
  refine aA Y<|aA (dT (by omega))<|bO Y<|aA (bz g)<|aA Y ?_
  by_cases q:pv s=k
  ·rw[if_neg (λe=>e q)]
   exact bO (decide_eq_true (by omega)) Y
  ·rw[if_pos q]
   exact bG (decide_eq_false (by omega))<|aA (congrArg some (bM (by omega))) Y
 ·by_cases q:∀s,s<d→pv s≠k
  ·rw[if_pos q]
   exact congrArg some (decide_eq_false (λ⟨s,h1,h2⟩=>q s h1 h2)).symm
  ·rw[if_neg q]
   have:∃s,s<d∧pv s=k:=Classical.byContradiction (λw=>q (λs h1 h2=>w ⟨s,h1,h2⟩))
   exact congrArg some (decide_eq_true this).symm
def wide(w:Nat)(A:Nat→Nat→Rat)(y:Nat→Rat)(i l:Nat):Rat:=if l<w then A i l else if l=w then y i else 0
theorem aeh{L M r w:Nat}{rows:List (List Qr)}{b:List Qr}{A:Nat→Nat→Rat}{y:Nat→Rat}(h:jk L rows A)(hb:ek M b y)(hL:L≤1000000000)(hr:rows.length=r)(Md:b.length=r)(hc:oZ rows=w)(hr8:r≤1000)(hw:w≤1000)(hcan:∀i,b.getD i (⟨⟨false,[]⟩,⟨false,[]⟩⟩:Qr)=qn (y i)):
  rK rows b=some (mq r (λ_=>w+1) (wide w A y)):=by
 have rc:=vw rows (by omega)
 rw[hc]at rc
 unfold rK
 refine aA rc ?_
 refine bH (λi=>((i:Int),mq i (λ_=>w+1) (wide w A y))) r (mq r (λ_=>w+1) (wide w A y)) Y (λi hi=>?_) ?_ Y
 ·refine bW<|aA (congrArg some (show(rows.length:Int)=(r:Int) by rw[hr]))<|aA (dT (by omega))<|aA (a:=true) (bO Y Y)<|bO Y ?_
  refine bH (λj=>((j:Int),vq j (wide w A y i))) w (vq w (wide w A y i)) Y (λj hj=>?_) (aA (dF (by omega))<|bG Y Y) ?_
  ·have e1:=NZ h (by omega) i j
   have e0:wide w A y i j=A i j:=if_pos hj
   have e2:nC 64 (vq j (wide w A y i)) [qn (A i j)]=some (vq (j+1) (wide w A y i)):=by rw[nP (by decide) (by rw[bY];omega),mX,e0]
   generalize qn (A i j)=q at*
   exact aA (dT (by omega))<|bO Y<|aA e1<|aA e2<|aA (congrArg some (bM (by omega))) Y
  ·have e1:=BF b i
   rw[hcan i]at e1
   have e0:wide w A y i w=y i:=by unfold wide;rw[if_neg (by omega),if_pos rfl]
   have e2:nC 64 (vq w (wide w A y i)) [qn (y i)]=some (vq (w+1) (wide w A y i)):=by rw[nP (by decide) (by rw[bY];omega),mX,e0]
   have e3:nC 24 (mq i (λ_=>w+1) (wide w A y)) [vq (w+1) (wide w A y i)]=some (mq (i+1) (λ_=>w+1) (wide w A y)):=by rw[nP (by decide) (by rw[cM];omega),tq]
   generalize qn (y i)=q at*
   exact aA e1<|aA e2<|aA e3<|aA (congrArg some (bM (by omega))) Y
 ·exact bW<|aA (congrArg some (show(rows.length:Int)=(r:Int) by rw[hr]))<|aA (dF (by omega))<|aA (a:=false) (bG Y<|aA (congrArg some (show(b.length:Int)=(r:Int) by rw[Md]))<|aA (dF (by omega)) Y)<|bG Y Y
end
section
open Go.Fw
theorem Zo{d w:Nat}{pv:Nat→Nat}(hb:∀j,j<d→pv j<w)(f h:Nat→Rat):cw (λl=>f l*cw (λj=>if pv j=l then h j else 0) d) w=cw (λj=>f (pv j)*h j) d:=by
 rw[show(λl=>f l*cw (λj=>if pv j=l then h j else 0) d)=λl=>cw (λj=>f l*(if pv j=l then h j else 0)) d from funext λl=>(pI _ _ _).symm,zk]
 refine cY (λj hj=>?_)
 rw[gj (hb j hj) (λi _ hne=>by rw[if_neg (λq=>hne q.symm)];grind),if_pos rfl]
def L3(m r w:Nat)(A:Nat→Nat→Rat):Prop:=∀z:Nat→Rat,(∀l,m≤l→z l=0)→Nul r w A z→∀l,l<m→z l=0
section inv
variable {L r w d m:Nat}{A H:Nat→Nat→Rat}{pv:Nat→Nat}
theorem BN.Zp(inv:BN L r w A d w H pv)(hm:m≤w)(ind:L3 m r w A){k:Nat}(hk:k<m):∃s,s<d∧pv s=k:=by
 refine Classical.byContradiction (λno=>?_)
 have np:∀s,s<d→pv s≠k:=λs h1 h2=>no ⟨s,h1,h2⟩
 have hz:∀s,s<d→k<pv s→H s k=0:=λs hs h=>inv.el s hs k h
 have z0:=ind (λl=>(if l=k then 1 else 0)-cw (λs=>if pv s=l then H s k else 0) d) (λl hl=>by
  show(if l=k then(1:Rat)else 0)-_=0
  rw[if_neg (by omega),cY (k:=λ_=>0) (λs hs=>?_),qM]
  ·grind
  ·by_cases e:pv s=l
   ·rw[if_pos e];exact hz s hs (by omega)
   ·rw[if_neg e]) ((inv.ho _).1 (λi hi=>?_)) k hk
 ·replace z0:(if k=k then(1:Rat)else 0)-cw (λs=>if pv s=k then H s k else 0) d=0:=z0
  rw[if_pos Y,cY (k:=λ_=>0) (λs hs=>if_neg (np s hs)),qM]at z0
  exact absurd (show(1:Rat)=0 by grind) (by decide)
 ·have hkw:k<w:=by omega
  have e1:H i k=cw (λl=>H i l*(if l=k then 1 else 0)) w:=by
   rw[gj hkw (λl _ hne=>by rw[if_neg hne];grind),if_pos rfl];grind
  rw[cY (h:=λl=>H i l*((if l=k then 1 else 0)-cw (λs=>if pv s=l then H s k else 0) d)) (k:=λl=>H i l*(if l=k then 1 else 0)-H i l*cw (λs=>if pv s=l then H s k else 0) d) (λl _=>by grind),zh,←e1,Zo inv.pl (λl=>H i l) (λs=>H s k)]
  by_cases e:i<d
  ·rw[gj e (λs hs hne=>by rw[inv.pu s hs i hi,if_neg (λq=>hne q.symm)];grind),inv.pu i e i hi,if_pos rfl];grind
  ·rw[inv.ez i (by omega) hi k hkw,cY (k:=λ_=>0) (λs hs=>by rw[inv.pu s hs i hi,if_neg (by omega)];grind),qM];grind
theorem BN.dep(inv:BN L r w A d w H pv)(hm:m≤w)(hp:∀k,k<m→∃s,s<d∧pv s=k):L3 m r w A:=λz hz hn l hl=>by
 obtain⟨s,hs,rfl⟩:=hp l hl
 have e:=(inv.ho z).2 hn s (by have:=inv.hd;omega)
 rw[gj (k:=pv s) (by omega) (λi hi hne=>?_),inv.pu s hs s (by have:=inv.hd;omega),if_pos rfl]at e
 ·grind
 ·by_cases q:i<m
  ·obtain⟨t,ht,rfl⟩:=hp i q
   rw[inv.pu t ht s (by have:=inv.hd;omega),if_neg (λw=>hne (by rw[w]))];grind
  ·rw[hz i (by omega)];grind
end inv
end
section
open Go.Fw
theorem T1(j:Nat)(n:Int):((bif decide ((j:Int)<n)then(some (decide ((j:Int)<65536))).bind λc9=>some c9 else some false):Option Bool)=some (decide (j<(min n 65536).toNat)):=by
 by_cases h:(j:Int)<n
 ·rw[decide_eq_true h,gV,cc]
  by_cases h':(j:Int)<65536
  ·rw[decide_eq_true h',decide_eq_true (by omega)]
  ·rw[decide_eq_false h',decide_eq_false (by omega)]
 ·rw[decide_eq_false h,iy,decide_eq_false (by omega)]
section ops
variable {K L M:Nat}{c:Qr}{a b:List Qr}{k:Rat}{f g:Nat→Rat}
theorem Zq(ha:ek L a f)(hb:ek M b g)(h:(a.length+2)*(L+M+1)≤4000000000)(la:a.length≤1000000):qJ a b=some (qn (cw (λi=>f i*g i) (min a.length b.length))):=by
 have hs:∀n,FQ (n*(L+M+1)+1) (cw (λi=>f i*g i) n):=λn=>NO (λi _=>(ha.fq i).mul (hb.fq i))
 rw[←YV (h:=λi=>f i*g i) (n:=min a.length b.length) (m:=a.length) (by omega) (λi h1 h2=>by show f i*g i=0;rw[hb.z i (by omega)];grind)]
 have hm:∀n:Nat,n≤a.length→n*(L+M+1)≤a.length*(L+M+1):=λn hn=>Nat.mul_le_mul_right _ hn
 rw[Nat.add_mul]at h
 unfold qJ
 refine bH (λj=>((j:Int),(qn (cw (λi=>f i*g i) j)).num.neg,(qn (cw (λi=>f i*g i) j)).num.w,(qn (cw (λi=>f i*g i) j)).den.neg,(qn (cw (λi=>f i*g i) j)).den.w)) a.length
  ((qn (cw (λi=>f i*g i) a.length)).num.neg,(qn (cw (λi=>f i*g i) a.length)).num.w,(qn (cw (λi=>f i*g i) a.length)).den.neg,(qn (cw (λi=>f i*g i) a.length)).den.w) Y (λj hj=>?_) ?_ Y
 ·have hmj:=hm j (by omega)
  obtain⟨q1,hq1,rq1⟩:=ha.get hj
  have a2:=BF b j
  have e1:=rq1.YZ (hb.gd j) (by omega)
  have e3:=((hs j).rep (by omega)).abC (rq1.mul (hb.gd j) (by omega)).2 (by omega)
  simp only[cw]
  generalize hq0:qn (cw (λi=>f i*g i) j)=q0 at e3⊢
  generalize hq3:qn (cw (λi=>f i*g i) j+f j*g j)=q3 at e3⊢
  generalize b.getD j (⟨⟨false,[]⟩,⟨false,[]⟩⟩:Qr)=q2 at e1 a2
  generalize qn (f j*g j)=q4 at e1 e3
  obtain⟨⟨_,_⟩,⟨_,_⟩⟩:=q0
  obtain⟨⟨_,_⟩,⟨_,_⟩⟩:=q1
  obtain⟨⟨_,_⟩,⟨_,_⟩⟩:=q2
  obtain⟨⟨_,_⟩,⟨_,_⟩⟩:=q3
  obtain⟨⟨_,_⟩,⟨_,_⟩⟩:=q4
  refine aA Y<|aA Y<|bO (decide_eq_true (by omega))<|aA (bz hq1)<|aA a2<|aA e1<|aA e3<|aA Y ?_
  rw[bM (by omega)]
 ·exact aA Y<|aA Y<|bG (decide_eq_false (by omega)) Y
theorem arp(ha:ek L a f)(hb:ek M b g)(h:L+M≤4000000000)(la:a.length≤1000000)(lb:b.length≤1000000):qK a b=some (oC f g (max a.length b.length)):=by
 unfold qK
 refine fM (λs=>∃j:Nat,s=(j:Int)∧j≤max a.length b.length∧oC f g j=0) (λe=>(match e with|.inr v=>v|.inl _=>0)=oC f g (max a.length b.length)) (λs=>max a.length b.length-s.toNat) ?_ ⟨0,rfl,by omega,rfl⟩ ?_
 ·rintro s ⟨j,rfl,hj,h0⟩
  by_cases hjn:j<max a.length b.length
  ·have a1:=BF a j
   have a2:=BF b j
   have e1:=(ha.gd j).arb (hb.gd j) h
   generalize a.getD j (⟨⟨false,[]⟩,⟨false,[]⟩⟩:Qr)=q1 at e1 a1
   generalize b.getD j (⟨⟨false,[]⟩,⟨false,[]⟩⟩:Qr)=q2 at e1 a2
   obtain⟨⟨_,_⟩,⟨_,_⟩⟩:=q1
   obtain⟨⟨_,_⟩,⟨_,_⟩⟩:=q2
   by_cases hc:oV (f j) (g j)=0
   ·refine .inl ⟨((j+1:Nat):Int),?_,⟨j+1,Y,by omega,by rw[oC,if_neg (by simpa using h0),hc]⟩,by simp only[Int.toNat_natCast];omega⟩
    rw[xY]
    refine aA Y<|aA Y<|aA (JO a b j) ?_
    refine bO (decide_eq_true hjn)<|aA a1<|aA a2<|aA e1<|aA Y<|bG (decide_eq_false (by simpa using hc))<|aA Y ?_
    rw[bM (by omega)]
   ·refine .inr ⟨.inr (oV (f j) (g j)),?_,(Vc h0 hjn hc).symm⟩
    rw[xY]
    refine aA Y<|aA Y<|aA (JO a b j) ?_
    exact bO (decide_eq_true hjn)<|aA a1<|aA a2<|aA e1<|aA Y<|bO (decide_eq_true hc) Y
  ·obtain rfl:j=max a.length b.length:=by omega
   refine .inr ⟨.inl (),?_,h0.symm⟩
   rw[xY]
   refine aA Y<|aA Y<|aA (JO a b _) ?_
   exact bG (decide_eq_false hjn) Y
 ·intro e he
  rw[←he]
  cases e<;>rfl
theorem oX(n k:Int):jt n k=some (vq (min n 65536).toNat λi=>if(i:Int)=k then 1 else 0):=by
 unfold jt
 refine bH (λj=>((j:Int),vq j (λi=>if(i:Int)=k then 1 else 0))) (min n 65536).toNat (vq (min n 65536).toNat (λi=>if(i:Int)=k then 1 else 0)) Y (λj hj=>?_) ?_ Y
 ·show cE _ _=_
  rw[xY]
  refine aA Y<|aA (T1 j n) ?_
  refine bO (decide_eq_true hj)<|aA Y ?_
  rw[xY,mX]
  by_cases hc:(j:Int)=k
  ·refine bO (decide_eq_true hc) ?_
   have e1:=EP (n:=1) (by decide)
   rw[if_pos hc]
   have hq:qn ((1:Int):Rat)=qn 1:=rfl
   rw[hq]at e1
   generalize qn 1=q3 at e1⊢
   obtain⟨⟨_,_⟩,⟨_,_⟩⟩:=q3
   refine aA e1<|aA (nP (by omega) (by rw[bY];omega))<|aA Y ?_
   rw[bM (by omega)]
  ·refine bG (decide_eq_false hc) ?_
   rw[if_neg hc,TL]
   refine aA (nP (by omega) (by rw[bY];omega))<|aA Y ?_
   rw[bM (by omega)];rfl
 ·show cE _ _=_
  rw[xY]
  refine aA Y<|aA (T1 _ n) ?_
  exact bG (decide_eq_false (by omega)) Y
end ops
end
section
open Go.Fw
theorem EU(n k:Int):ny n k=jt n k:=rfl
theorem aei{L r w d:Nat}{rows:List (List Qr)}{A H:Nat→Nat→Rat}{pv:Nat→Nat}(hlen:rows.length≤1000)(hc:oZ rows=w)(hw:w≤1000)(h1:1≤L)(hS:BL L d≤1000000000)(hd6:d≤1000000)
  (arq:jW rows=some (mq d (λ_=>w) H,bq d pv)) (inv:BN L r w A d w H pv):
  ∃N,rJ rows=some N∧((∀k,k<w→∃s,s<d∧pv s=k)→N=[])∧((¬∀k,k<w→∃s,s<d∧pv s=k)→0<N.length):=by
 have rc:=vw rows (by omega)
 rw[hc]at rc
 have uF:=inv.hd
 ·unfold rJ
  refine BK arq<|BK rc ?_
  refine zm (λs=>∃(k:Nat) (N:List (List Qr)),s=((k:Int),N)∧k≤w∧N.length≤k∧((∀j,j<k→∃s,s<d∧pv s=j)→N=[])∧((¬∀j,j<k→∃s,s<d∧pv s=j)→0<N.length)) (λN=>((∀j,j<w→∃s,s<d∧pv s=j)→N=[])∧((¬∀j,j<w→∃s,s<d∧pv s=j)→0<N.length)) (λs=>w-s.1.toNat) ?_ ⟨0,[],Y,Nat.zero_le _,Nat.le_refl _,λ_=>Y,λq=>absurd (λj hj=>by omega) q⟩ (λe he=>⟨e,Y,he⟩)
  rintro _ ⟨k,N,rfl,hk,hN,n1,n2⟩
  by_cases hlt:k<w
  ·have ein:=rin (pv:=pv) k hd6
   refine BK (dT (by omega))<|exT Y<|BK ein ?_
   by_cases q:∃s,s<d∧pv s=k
   ·refine exT (decide_eq_true q) ⟨_,aA (congrArg some (bM (by omega))) Y,.inl ⟨_,Y,⟨k+1,N,Y,hlt,by omega,λhh=>n1 (λj hj=>hh j (by omega)),λhh=>n2 (λh2=>hh (λj hj=>by
     by_cases e:j=k
     ·rw[e];exact q
     ·exact h2 j (by omega)))⟩,by simp only[Int.toNat_natCast];omega⟩⟩
   ·refine exF (decide_eq_false q) ?_
    have eu:=oX (w:Int) (k:Int)
    rw[←EU]at eu
    refine BK eu ?_
    refine zm (λs=>∃(t:Nat) (xs:List Qr),s=((t:Int),xs)∧xs.length=w) (λxs=>xs.length=w) (λs=>d-s.1.toNat) ?_ ⟨0,_,Y,by rw[bY];omega⟩ ?_
    ·rintro _ ⟨t,xs,rfl,hx⟩
     by_cases ht:t<d
     ·have g0:(bq d pv)[t]? =some ((pv t:Nat):Int):=o9 ht
      have g1:(mq d (λ_=>w) H)[t]? =some (vq w (H t)):=fu ht
      have g2:(vq w (H t))[k]? =some (qn (H t k)):=iM hlt
      have ng:=((inv.f t (by omega) k).rep (ET h1 d)).ahd (by omega)
      have hp:=inv.pl t ht
      have ln:=cM d (λ_=>w) H
      generalize qn (H t k)=q1 at*
      generalize qn (-H t k)=q2 at*
      obtain⟨⟨_,_⟩,⟨_,_⟩⟩:=q1
      obtain⟨⟨_,_⟩,⟨_,_⟩⟩:=q2
      exact⟨_,aA (congrArg some (show((mq d (λ_=>w) H).length:Int)=(d:Int) by rw[ln]))<|aA (dT (by omega))<|bO Y<|aA (bz g0)<|aA (bz g1)<|aA (bz g2)<|aA ng<|aA (b9 (by omega))<|aA (dS (by omega))<|aA (congrArg some (bM (by omega))) Y,.inl ⟨_,Y,⟨t+1,_,Y,by rw[List.length_set];exact hx⟩,by simp only[Int.toNat_natCast];omega⟩⟩
     ·have ln:=cM d (λ_=>w) H
      exact⟨_,aA (congrArg some (show((mq d (λ_=>w) H).length:Int)=(d:Int) by rw[ln]))<|aA (dF (by omega))<|bG Y Y,.inr ⟨_,Y,hx⟩⟩
    ·intro xs hx
     exact⟨_,aA (nP (by decide) (by omega))<|aA (congrArg some (bM (by omega))) Y,.inl ⟨_,Y,⟨k+1,_,Y,hlt,by rw[List.length_append];simp;omega,λhh=>absurd (hh k (by omega)) q,λ_=>by rw[List.length_append];simp⟩,by simp only[Int.toNat_natCast];omega⟩⟩
  ·obtain rfl:k=w:=by omega
   exact⟨_,aA (dF (by omega))<|bG Y Y,.inr ⟨_,Y,n1,n2⟩⟩
end
section
open Go.Fw
theorem vU{r w:Nat}{F:Nat→Nat→Rat}(hr:1≤r):oZ (mq r (λ_=>w) F)=w:=by
 refine Nat.le_antisymm (xn.2 (λv hv=>?_)) ?_
 ·obtain⟨i,hi,rfl⟩:=List.getElem_of_mem hv
  have:=fu (n:=r) (i:=i) (ln:=λ_=>w) (F:=F) (by rwa[cM]at hi)
  rw[List.getElem?_eq_getElem hi]at this
  rw[Option.some.inj this,bY];exact Nat.le_refl _
 ·have:=xn.1 (Nat.le_refl (oZ (mq r (λ_=>w) F))) (vq w (F 0)) (List.mem_of_getElem? (fu (i:=0) (by omega)))
  rwa[bY]at this
theorem Qx{L M r w:Nat}{rows:List (List Qr)}{b:List Qr}{A:Nat→Nat→Rat}{y:Nat→Rat}(h:jk L rows A)(hb:ek M b y)(hr:rows.length=r)(Md:b.length=r):jk (max L M) (mq r (λ_=>w+1) (wide w A y)) (wide w A y):=by
 have l1:=h.l1
 refine BH (λi hi k hk=>?_) (λi hi k hk=>?_) (λi hi k=>?_) (by omega)
 ·show FQ (max L M) (if k<w then A i k else if k=w then y i else 0)
  split
  ·exact((h.row i).fq k).mono (by omega)
  ·split
   ·exact(hb.fq i).mono (by omega)
   ·exact nM (by omega)
 ·show(if k<w then A i k else if k=w then y i else 0)=0
  rw[if_neg (by omega),if_neg (by omega)]
 ·show(if k<w then A i k else if k=w then y i else 0)=0
  rw[h.z i (by omega) k,hb.z i (by omega)]
  split
  ·rfl
  ·split<;>rfl
theorem BN.diag{L r w d m:Nat}{A H:Nat→Nat→Rat}{pv:Nat→Nat}(inv:BN L r w A d w H pv)(hd:d≤m)(hp:∀k,k<m→∃s,s<d∧pv s=k):∀s,s<d→pv s=s:=by
 have ge:∀s,s<d→s≤pv s:=λs=>by
  induction s with
  |zero=>intro _;exact Nat.zero_le _
  |succ s ih=>intro hs;have:=ih (by omega);have:=inv.mo s (s+1) (by omega) hs;omega
 intro s
 induction s using Nat.strongRecOn with
 |_ s ih=>
  intro hs
  have g:=ge s hs
  by_cases e:pv s=s
  ·exact e
  ·obtain⟨t,ht,et⟩:=hp s (by omega)
   rcases Nat.lt_trichotomy t s with q|q|q
   ·have:=ih t q ht;omega
   ·rw[q]at et;exact et
   ·have:=inv.mo s t q ht;omega
end
section
open Go.Fw
theorem Zs{w:Nat}{A:Nat→Nat→Rat}{y:Nat→Rat}(ind:L3 w w w A):L3 w w (w+1) (wide w A y):=λz hz hn=>ind z hz (λi hi=>by
 have e:=hn i hi
 show cw (λl=>A i l*z l) w=0
 have e2:cw (λl=>wide w A y i l*z l) (w+1)=cw (λl=>wide w A y i l*z l) w+wide w A y i w*z w:=rfl
 rw[e2,hz w (Nat.le_refl w),cY (h:=λl=>wide w A y i l*z l) (k:=λl=>A i l*z l) (λl hl=>by unfold wide;rw[if_pos hl])]at e
 grind)
theorem Zt{L w d:Nat}{A H:Nat→Nat→Rat}{y:Nat→Rat}{pv:Nat→Nat}(inv:BN L w (w+1) (wide w A y) d (w+1) H pv)(hd:d=w)(hpv:∀s,s<w→pv s=s):∀i,i<w→cw (λl=>A i l*H l w) w=y i:=by
 subst hd
 have e:=(inv.ho (λl=>if l<d then H l d else if l=d then-1 else 0)).1 (λi hi=>by
  have s1:cw (λl=>H i l*(if l<d then H l d else if l=d then-1 else 0)) (d+1)=cw (λl=>H i l*(if l<d then H l d else if l=d then-1 else 0)) d+H i d*(if d<d then H d d else if d=d then-1 else 0):=rfl
  rw[s1,if_neg (Nat.lt_irrefl d),if_pos Y,gj hi (λl hl hne=>by
   have:=inv.pu l hl i hi
   rw[hpv l hl,if_neg (λq=>hne q.symm)]at this
   rw[this];grind)]
  have:=inv.pu i hi i hi
  rw[hpv i hi,if_pos rfl]at this
  rw[this,if_pos hi];grind)
 intro i hi
 have e:=e i hi
 have s1:cw (λl=>wide d A y i l*(if l<d then H l d else if l=d then-1 else 0)) (d+1)=cw (λl=>wide d A y i l*(if l<d then H l d else if l=d then-1 else 0)) d+wide d A y i d*(if d<d then H d d else if d=d then-1 else 0):=rfl
 rw[s1,if_neg (Nat.lt_irrefl d),if_pos Y,show wide d A y i d=y i by unfold wide;rw[if_neg (Nat.lt_irrefl d),if_pos rfl],cY (k:=λl=>A i l*H l d) (λl hl=>by unfold wide;rw[if_pos hl,if_pos hl])]at e
 grind
end
section
open Go.Fw
theorem aht{L M w:Nat}{rows:List (List Qr)}{b:List Qr}{A:Nat→Nat→Rat}{y:Nat→Rat}(h:jk L rows A)(hr:rows.length=w)(hc:oZ rows=w)(h1:1≤w)(hw:w≤90)(hb:ek M b y)(Md:b.length=w)(hcan:∀i,b.getD i (⟨⟨false,[]⟩,⟨false,[]⟩⟩:Qr)=qn (y i))(hL:BL (max L M) (w+1)≤100000000)(hL2:BL L (w+1)≤100000000)(ind:L3 w w w A):
  ∃x,k8 rows b=some (vq w x,[],0)∧(∀i,i<w→cw (λl=>A i l*x l) w=y i)∧∀l,l<w→FQ (BL (max L M) w) (x l):=by
 have l1:=h.l1
 have LL:L≤100000000:=Nat.le_trans (BM L (show 0≤w+1 by omega)) hL2
 have rc:=vw rows (by omega)
 rw[hc]at rc
 have ew:=aeh h hb (by omega) hr Md hc (by omega) (by omega) hcan
 obtain⟨_,e1,d,H,pv,rfl,inv⟩:=HL (Qx (w:=w) h hb hr Md) (cM _ _ _) (vU h1) (by omega) (by omega) hL
 have hd:=inv.hd
 have hp:=λk (hk:k<w)=>inv.Zp (m:=w) (by omega) (Zs ind) hk
 have dg:=inv.diag hd hp
 have hdw:d=w:=by
  obtain⟨s,hs,e⟩:=hp (w-1) (by omega)
  rw[dg s hs]at e;omega
 subst hdw
 have ein:=rin (pv:=pv) (d:=d) d (by omega)
 rw[decide_eq_false (λ⟨s,hs,e⟩=>by rw[dg s hs]at e;omega)]at ein
 have sol:=Zt inv Y dg
 obtain⟨_,f1,d2,H2,pv2,rfl,inv2⟩:=HL h hr hc (by omega) (by omega) hL2
 have hd2:=inv2.hd
 obtain⟨N,en,n1,_⟩:=aei (by omega) hc (by omega) l1 (Nat.le_trans (BM L (show d2≤d+1 by omega)) (by omega)) (by omega) f1 inv2
 obtain rfl:=n1 (λk hk=>inv2.Zp (Nat.le_refl d) ind hk)
 have eu:=oX (d:Int) (-1)
 rw[show(min ((d:Nat):Int) 65536).toNat=d by omega,dG (k:=λ_=>0) (λi _=>if_neg (by omega)),←EU]at eu
 refine⟨λl=>H l d,?_,sol,λl hl=>inv.f l hl d⟩
 unfold k8
 refine aA rc<|aA ew<|aA e1<|aA ein<|bG Y<|aA eu ?_
 refine bH (λt=>((t:Int),vq d (λl=>if l<t then H l d else 0))) d (vq d (λl=>H l d)) (by simp) (λt ht=>?_) ?_ (aA en Y)
 ·have g0:(bq d pv)[t]? =some ((pv t:Nat):Int):=o9 ht
  have g1:(mq d (λ_=>d+1) H)[t]? =some (vq (d+1) (H t)):=fu ht
  have g2:(vq (d+1) (H t))[d]? =some (qn (H t d)):=iM (by omega)
  rw[dg t ht]at g0
  have s:=uD (k:=d) (j:=t) (h:=λl=>if l<t then H l d else 0) (x:=H t d) ht
  have s2:vq d (λi=>if i=t then H t d else if i<t then H i d else 0)=vq d (λl=>if l<t+1 then H l d else 0):=dG (λi _=>by
   by_cases e:i=t
   ·rw[if_pos e,if_pos (by omega),e]
   ·rw[if_neg e]
    by_cases e2:i<t
    ·rw[if_pos e2,if_pos (by omega)]
    ·rw[if_neg e2,if_neg (by omega)])
  rw[s2]at s
  have ln:=cM d (λ_=>d+1) H
  have lv:=bY d (λl=>if l<t then H l d else 0)
  rw[←s]
  generalize vq d (λl=>if l<t then H l d else 0)=X at*
  generalize qn (H t d)=q at*
  obtain⟨⟨_,_⟩,⟨_,_⟩⟩:=q
  exact aA (congrArg some (show((mq d (λ_=>d+1) H).length:Int)=(d:Int) by rw[ln]))<|aA (dT (by omega))<|bO Y<|aA (bz g0)<|aA (bz g1)<|aA (bz g2)<|aA (b9 (by omega))<|aA (dS (by omega))<|aA (congrArg some (bM (by omega))) Y
 ·have ln:=cM d (λ_=>d+1) H
  rw[dG (k:=λl=>H l d) (λi hi=>if_pos hi)]
  exact aA (congrArg some (show((mq d (λ_=>d+1) H).length:Int)=(d:Int) by rw[ln]))<|aA (dF (by omega))<|bG Y Y
end
section
open Go.Fw
theorem abR{L w:Nat}{rows:List (List Qr)}{A:Nat→Nat→Rat}(h:jk L rows A)(hr:rows.length=w)(hc:oZ rows=w)(h1:1≤w)(hw:w≤90)(hL:BL L (w+1)≤100000000)(ind:L3 w w w A):
  ∃res,dN rows=some res∧∃N:Nat→Nat→Rat,res=(mq w (λ_=>w) N,0)∧(∀i k,i<w→k<w→cw (λl=>A i l*N l k) w=if i=k then 1 else 0)∧(∀i k,FQ (BL L w) (N i k))∧(∀i k,w≤i∨w≤k→N i k=0):=by
 have l1:=h.l1
 have LL:BL L w≤100000000:=Nat.le_trans (BM L (show w≤w+1 by omega)) hL
 unfold dN
 refine BK (congrArg some (show(rows.length:Int)=(w:Int) by rw[hr])) ?_
 refine zm (λs=>∃(k:Nat) (X:Nat→Nat→Rat),s=((k:Int),mq k (λ_=>w) X)∧k≤w∧(∀j l,FQ (BL L w) (X j l))∧(∀j l,k≤j∨w≤l→X j l=0)∧∀j,j<k→∀i,i<w→cw (λl=>A i l*X j l) w=if i=j then 1 else 0) (λe=>∃(X:Nat→Nat→Rat),e=.inl (mq w (λ_=>w) X)∧(∀j l,FQ (BL L w) (X j l))∧(∀j l,w≤j∨w≤l→X j l=0)∧∀j,j<w→∀i,i<w→cw (λl=>A i l*X j l) w=if i=j then 1 else 0) (λs=>w-s.1.toNat) ?_ ⟨0,λ_ _=>0,Y,Nat.zero_le _,λ_ _=>nM (ET l1 w),λ_ _ _=>Y,λj hj=>by omega⟩ ?_
 ·rintro _ ⟨k,X,rfl,hk,hf,hz,hs⟩
  by_cases hlt:k<w
  ·have eu:=oX (w:Int) (k:Int)
   rw[show(min ((w:Nat):Int) 65536).toNat=w by omega]at eu
   have ru:=Qt w (k:Int) (λ_=>by omega)
   obtain⟨x,ex,sx,fx⟩:=aht h hr hc h1 hw (ru.mono l1) (bY _ _) (λi=>by
    by_cases hi:i<w
    ·rw[List.getD_eq_getElem?_getD,iM hi];rfl
    ·rw[List.getD_eq_getElem?_getD,List.getElem?_eq_none (by rw[bY];omega),if_neg (by omega)];rfl) (by rw[Nat.max_self];exact hL) hL ind
   rw[Nat.max_self]at fx
   have ap:nC 24 (mq k (λ_=>w) X) [vq w x]=some (mq (k+1) (λ_=>w) (λj l=>if j=k then(if l<w then x l else 0)else X j l)):=by
    rw[nP (by decide) (by rw[cM];omega),tq]
    congr 2
    ·exact kS (λj hj=>⟨Y,λl _=>by rw[if_neg (by omega)]⟩)
    ·congr 1
     exact dG (λl hl=>by rw[if_pos Y,if_pos hl])
   refine⟨_,aA (dT (by omega))<|bO Y<|aA eu<|aA ex<|bW<|aA Y<|aA (a:=false) (bG Y<|aA Y<|aA Y Y)<|bG Y<|aA ap<|aA (congrArg some (bM (by omega))) Y,.inl ⟨_,Y,⟨k+1,_,Y,hlt,λj l=>?_,λj l hjl=>?_,λj hj i hi=>?_⟩,by simp only[Int.toNat_natCast];omega⟩⟩
   ·show FQ (BL L w) (if j=k then(if l<w then x l else 0)else X j l)
    split
    ·split
     ·exact fx l (by assumption)
     ·exact nM (ET l1 w)
    ·exact hf j l
   ·show(if j=k then(if l<w then x l else 0)else X j l)=0
    by_cases e:j=k
    ·rw[if_pos e,if_neg (by omega)]
    ·rw[if_neg e];exact hz j l (by omega)
   ·show cw (λl=>A i l*(if j=k then(if l<w then x l else 0)else X j l)) w=_
    by_cases e:j=k
    ·rw[cY (k:=λl=>A i l*x l) (λl hl=>by rw[if_pos e,if_pos hl]),sx i hi,e]
     by_cases q:i=k
     ·rw[if_pos q,if_pos (by omega)]
     ·rw[if_neg q,if_neg (by omega)]
    ·rw[cY (k:=λl=>A i l*X j l) (λl hl=>by rw[if_neg e])]
     exact hs j (by omega) i hi
  ·obtain rfl:k=w:=by omega
   exact⟨_,aA (dF (by omega))<|bG Y Y,.inr ⟨_,Y,X,Y,hf,hz,hs⟩⟩
 ·rintro _ ⟨X,rfl,hf,hz,hs⟩
  have rX:jk (BL L w) (mq w (λ_=>w) X) X:=BH (λj _ l _=>hf j l) (λj _ l hl=>hz j l (.inr hl)) (λj hj l=>hz j l (.inl hj)) (ET l1 w)
  have pl:∀i j:Nat,i<w→j<w→eL 1 (⟨⟨false,[]⟩,⟨false,[]⟩⟩:Qr) (mq w (λ_=>w) X) [] (i:Int) (j:Int)=some (qn (X j i)):=λi j _ _=>by
   have e1:=NZ rX (by omega) j i
   unfold eL
   generalize qn (X j i)=q at*
   exact aA (dT (by decide))<|bO Y<|aA e1 Y
  have e3:=L0 (F:=λi j=>X j i) (by omega) (by omega) pl
  have rc:=vw (mq w (λ_=>w) X) (by rw[cM];omega)
  rw[vU h1]at rc
  have et:mU (mq w (λ_=>w) X)=some (mq w (λ_=>w) (λi j=>X j i)):=by
   unfold mU
   exact aA rc<|aA (congrArg some (show((mq w (λ_=>w) X).length:Int)=(w:Int) by rw[cM]))<|aA e3 Y
  exact⟨_,aA et Y,λi j=>X j i,Y,λi k hi hk=>hs k hk i hi,λi k=>hf k i,λi k q=>hz k i (by omega)⟩
end
section
open Go.Fw
theorem Vj{L M w:Nat}{rows:List (List Qr)}{b:List Qr}{A:Nat→Nat→Rat}{y:Nat→Rat}(h:jk L rows A)(hr:rows.length=w)(hc:oZ rows=w)(h1:1≤w)(hw:w≤90)(hb:ek M b y)(Md:b.length=w)(hcan:∀i,b.getD i (⟨⟨false,[]⟩,⟨false,[]⟩⟩:Qr)=qn (y i))(hL:BL (max L M) (w+1)≤100000000)(hL2:BL L (w+1)≤100000000)(Qy:¬L3 w w w A):
  ∃res,k8 rows b=some res∧(res.2.2≠0∨0<res.2.1.length):=by
 have l1:=h.l1
 have LL:L≤100000000:=Nat.le_trans (BM L (show 0≤w+1 by omega)) hL2
 have rc:=vw rows (by omega)
 rw[hc]at rc
 have ew:=aeh h hb (by omega) hr Md hc (by omega) (by omega) hcan
 obtain⟨_,e1,d,H,pv,rfl,inv⟩:=HL (Qx (w:=w) h hb hr Md) (cM _ _ _) (vU h1) (by omega) (by omega) hL
 have hd:=inv.hd
 have ein:=rin (pv:=pv) (d:=d) w (by omega)
 obtain⟨_,f1,d2,H2,pv2,rfl,inv2⟩:=HL h hr hc (by omega) (by omega) hL2
 have hd2:=inv2.hd
 obtain⟨N,en,_,n2⟩:=aei (by omega) hc (by omega) l1 (Nat.le_trans (BM L (show d2≤w+1 by omega)) (by omega)) (by omega) f1 inv2
 have hN:=n2 (λhp=>Qy (inv2.dep (Nat.le_refl w) hp))
 unfold k8
 refine BK rc<|BK ew<|BK e1<|BK ein ?_
 by_cases q:∃s,s<d∧pv s=w
 ·exact exT (decide_eq_true q) ⟨_,Y,.inl (by decide)⟩
 ·refine exF (decide_eq_false q) ?_
  have eu:=oX (w:Int) (-1)
  rw[←EU]at eu
  refine BK eu ?_
  refine zm (λs=>∃(t:Nat) (xs:List Qr),s=((t:Int),xs)∧xs.length=w) (λxs=>xs.length=w) (λs=>d-s.1.toNat) ?_ ⟨0,_,Y,by rw[bY];omega⟩ (λxs _=>⟨_,aA en Y,.inr hN⟩)
  rintro _ ⟨t,xs,rfl,hx⟩
  have ln:=cM d (λ_=>w+1) H
  by_cases ht:t<d
  ·have g0:(bq d pv)[t]? =some ((pv t:Nat):Int):=o9 ht
   have g1:(mq d (λ_=>w+1) H)[t]? =some (vq (w+1) (H t)):=fu ht
   have g2:(vq (w+1) (H t))[w]? =some (qn (H t w)):=iM (by omega)
   have hp:=inv.pl t ht
   have hne:pv t≠w:=λe=>q ⟨t,ht,e⟩
   generalize qn (H t w)=q1 at*
   obtain⟨⟨_,_⟩,⟨_,_⟩⟩:=q1
   exact⟨_,aA (congrArg some (show((mq d (λ_=>w+1) H).length:Int)=(d:Int) by rw[ln]))<|aA (dT (by omega))<|bO Y<|aA (bz g0)<|aA (bz g1)<|aA (bz g2)<|aA (b9 (by omega))<|aA (dS (by omega))<|aA (congrArg some (bM (by omega))) Y,.inl ⟨_,Y,⟨t+1,_,Y,by rw[List.length_set];exact hx⟩,by simp only[Int.toNat_natCast];omega⟩⟩
  ·exact⟨_,aA (congrArg some (show((mq d (λ_=>w+1) H).length:Int)=(d:Int) by rw[ln]))<|aA (dF (by omega))<|bG Y Y,.inr ⟨_,Y,hx⟩⟩
end
section
open Go.Fw
theorem abS{L w:Nat}{rows:List (List Qr)}{A:Nat→Nat→Rat}(h:jk L rows A)(hr:rows.length=w)(hc:oZ rows=w)(h1:1≤w)(hw:w≤90)(hL:BL L (w+1)≤100000000)(Qy:¬L3 w w w A):dN rows=some ([],8):=by
 have l1:=h.l1
 have eu:=oX (w:Int) ((0:Nat):Int)
 rw[show(min ((w:Nat):Int) 65536).toNat=w by omega]at eu
 have ru:=Qt w ((0:Nat):Int) (λ_=>by omega)
 obtain⟨⟨x,N,e⟩,ex,hx⟩:=Vj h hr hc h1 hw (ru.mono l1) (bY _ _) (λi=>by
  by_cases hi:i<w
  ·rw[List.getD_eq_getElem?_getD,iM hi];rfl
  ·rw[List.getD_eq_getElem?_getD,List.getElem?_eq_none (by rw[bY];omega),if_neg (by omega)];rfl) (by rw[Nat.max_self];exact hL) hL Qy
 replace hx:e≠0∨0<N.length:=hx
 unfold dN
 refine aA (congrArg some (show(rows.length:Int)=(w:Int) by rw[hr])) ?_
 refine bH (λk=>((k:Int),([]:List (List Qr)))) 0 (.inr ([],8)) Y (λk hk=>by omega) ?_ Y
 refine aA (dT (by omega))<|bO Y<|aA eu<|aA ex<|bW ?_
 by_cases q:e=0
 ·have hn:0<N.length:=by
   rcases hx with w1|w1
   ·exact absurd q w1
   ·exact w1
  exact aA (dF (λw1=>w1 q))<|aA (a:=true) (bG Y<|aA Y<|aA (dT (by omega)) Y)<|bO Y Y
 ·exact aA (dT q)<|aA (a:=true) (bO Y Y)<|bO Y Y
end
section
open Go.Fw
theorem linv{m:Nat}{B N:Nat→Nat→Rat}(ind:L3 m m m B)(hN:∀i k,i<m→k<m→cw (λl=>B i l*N l k) m=if i=k then 1 else 0){i k:Nat}(hi:i<m)(hk:k<m):cw (λl=>N i l*B l k) m=if i=k then 1 else 0:=by
 have e:=ind (λl=>if l<m then cw (λt=>N l t*B t k) m-(if l=k then 1 else 0)else 0) (λl hl=>if_neg (by omega)) (λj hj=>?_) i hi
 ·show _=_
  have e2:(if i<m then cw (λt=>N i t*B t k) m-(if i=k then 1 else 0)else 0:Rat)=0:=e
  rw[if_pos hi]at e2;grind
 ·have q:cw (λl=>B j l*cw (λt=>N l t*B t k) m) m=B j k:=by
   rw[show(λl=>B j l*cw (λt=>N l t*B t k) m)=λl=>cw (λt=>B j l*(N l t*B t k)) m from funext λl=>(pI _ _ _).symm,zk]
   rw[cY (k:=λt=>(if j=t then 1 else 0)*B t k) (λt ht=>?_),gj hj (λt _ hne=>by rw[if_neg (λq=>hne q.symm)];grind),if_pos rfl]
   ·grind
   ·rw[←hN j t hj ht,Rat.mul_comm,←pI]
    exact cY (λl _=>by grind)
  have q2:cw (λl=>B j l*(if l=k then 1 else 0)) m=B j k:=by
   rw[gj hk (λt _ hne=>by rw[if_neg hne];grind),if_pos rfl];grind
  show cw (λl=>B j l*(if l<m then cw (λt=>N l t*B t k) m-(if l=k then 1 else 0)else 0)) m=0
  rw[cY (k:=λl=>B j l*cw (λt=>N l t*B t k) m-B j l*(if l=k then 1 else 0)) (λl hl=>by rw[if_pos hl];grind),zh,q,q2];grind
theorem Qz{m:Nat}{B N:Nat→Nat→Rat}{x y:Nat→Rat}(hl:∀i k,i<m→k<m→cw (λl=>N i l*B l k) m=if i=k then 1 else 0)(hE:∀i,i<m→x i=cw (λs=>B i s*y s) m){i:Nat}(hi:i<m):cw (λt=>N i t*x t) m=y i:=by
 rw[cY (k:=λt=>cw (λs=>N i t*(B t s*y s)) m) (λt ht=>by rw[hE t ht,pI]),zk]
 rw[cY (k:=λs=>(if i=s then 1 else 0)*y s) (λs hs=>?_),gj hi (λt _ hne=>by rw[if_neg (λq=>hne q.symm)];grind),if_pos rfl]
 ·grind
 ·rw[←hl i s hi hs,Rat.mul_comm,←pI]
  exact cY (λl _=>by grind)
section basis
variable {n m:Nat}{E G H:Nat→Nat→Rat}{c d:Nat→Nat}
theorem Zu(nN:∀j,j<m→c j<n+m)(hu:Uc m G c)(hs:∀z,CJ n m E z↔CJ n m G z):L3 m m m (λi s=>E i (c s)):=by
 intro z hz hn l hl
 have one:∀(h:Nat→Rat) (i:Nat),i<m→cw (λj=>G i (c j)*h j) m=h i:=λh i hi=>by
  rw[gj hi (λj hj hne=>by rw[hu i j hi hj,if_neg (λq=>hne q.symm)];grind),hu i i hi hi,if_pos rfl];grind
 have s0:CJ n m G (λl=>cw (λj=>if c j=l then G j (n+m)else 0) m):=λi hi=>by rw[xZ nN,one _ i hi]
 have e0:=(hs _).2 s0
 have s1:CJ n m E (λl=>cw (λj=>if c j=l then G j (n+m)+z j else 0) m):=λi hi=>by
  have e:=e0 i hi
  rw[xZ nN]at e
  have e2:cw (λl=>E i (c l)*z l) m=0:=hn i hi
  rw[xZ nN,cY (k:=λj=>E i (c j)*G j (n+m)+E i (c j)*z j) (λj _=>by grind),EK,e,e2];grind
 have g:=(hs _).1 s1 l hl
 rw[xZ nN,one _ l hl]at g
 grind
theorem ahu(hd:∀j,j<m→d j<n+m)(hu:Uc m H d)(hs:∀z,CJ n m E z↔CJ n m H z){k:Nat}(hk:k<m)(hck:c k<n+m)(hdc:∀s,s<k→d s=c s)(h0:∀q,k≤q→q<m→H q (c k)=0):¬L3 m m m (λi s=>E i (c s)):=by
 intro ind
 have e:=ind (λs=>if s=k then 1 else if s<k then-H s (c k)else 0) (λl hl=>by show(if l=k then(1:Rat)else _)=0;rw[if_neg (by omega),if_neg (by omega)]) (λi hi=>?_) k hk
 ·have e2:(if k=k then(1:Rat)else if k<k then-H k (c k)else 0)=0:=e
  rw[if_pos rfl]at e2
  exact absurd e2 (by decide)
 ·have t:=FV hd hu (λz=>(hs z).2) hi (Nat.le_of_lt hck)
  show cw (λs=>E i (c s)*(if s=k then 1 else if s<k then-H s (c k)else 0)) m=0
  have q:cw (λs=>E i (c s)*(if s=k then 1 else 0)) m=E i (c k):=by
   rw[gj hk (λs _ hne=>by rw[if_neg hne];grind),if_pos rfl];grind
  rw[cY (k:=λs=>E i (c s)*(if s=k then 1 else 0)-E i (d s)*H s (c k)) (λs hs'=>?_),zh,q,t]
  ·grind
  ·by_cases e1:s=k
   ·subst e1
    rw[if_pos Y,if_pos Y,h0 s (Nat.le_refl _) hs'];grind
   ·by_cases e2:s<k
    ·rw[if_neg e1,if_neg e1,if_pos e2,hdc s e2];grind
    ·rw[if_neg e1,if_neg e1,if_neg e2,h0 s (by omega) hs'];grind
theorem QA{p:Nat}{O:Nat→Nat→Rat}(k0:vv (Vu 0) n m p O E (λj=>n+j))(u0:Uc m E (λj=>n+j))(nN:∀j,j<m→c j<n+m)(ind:L3 m m m (λi s=>E i (c s))):∀k,k≤m→∃H d,vv (Vu k) n m p O H d∧Uc m H d∧(∀z,CJ n m E z↔CJ n m H z)∧∀s,s<k→d s=c s
 |0,_=>⟨E,_,k0,u0,λ_=>Iff.rfl,λs hs=>by omega⟩
 |k+1,hk=>by
  obtain⟨H,d,h1,h2,h3,h4⟩:=QA k0 u0 nN ind k (by omega)
  have hlt:k<m:=by omega
  have ex:∃q,k≤q∧q<m∧H q (c k)≠0:=Classical.byContradiction λno=>ahu h1.hb h2 h3 hlt (nN k hlt) h4 (λq q1 q2=>Classical.byContradiction λw=>no ⟨q,q1,q2,w⟩) ind
  obtain⟨q,q1,q2,q3⟩:=ex
  have s1:=h1.sw hlt q2
  have h0:(λr=>H (sp k q r)) k (c k)≠0:=by
   show H (sp k q k) (c k)≠0
   unfold sp;rw[if_pos rfl];exact q3
  refine⟨_,_,JQ s1 hlt (nN k hlt) h0,JR hlt h0 (Zm h2 hlt q2),λz=>((h3 z).trans (SD hlt q2).symm).trans (NX hlt h0).symm,λs hs=>?_⟩
  show(if s=k then c k else d (sp k q s))=c s
  by_cases e:s=k
  ·rw[if_pos e,e]
  ·rw[if_neg e]
   unfold sp
   rw[if_neg e,if_neg (by omega)]
   exact h4 s (by omega)
end basis
end
section
open Go.Fw
theorem ahv{m:Nat}(hm:m≤1000):rH (m:Int)=some (mq m (λ_=>m) (λi k=>if k=i then 1 else 0)):=by
 unfold rH
 refine bH (λi=>((i:Int),mq i (λ_=>m) (λi k=>if k=i then 1 else 0))) m (mq m (λ_=>m) (λi k=>if k=i then 1 else 0)) Y (λi hi=>?_) (aA (ES (by omega))<|aA (dF (by omega))<|bG Y Y) Y
 have eu:=oX (m:Int) (i:Int)
 rw[show(min ((m:Nat):Int) 65536).toNat=m by omega]at eu
 have ap:nC 24 (mq i (λ_=>m) (λi k=>if k=i then 1 else 0)) [vq m (λl=>if(l:Int)=(i:Int)then 1 else 0)]=some (mq (i+1) (λ_=>m) (λi k=>if k=i then 1 else 0)):=by
  rw[nP (by decide) (by rw[cM];omega),tq]
  congr 2
  congr 1
  exact dG (λl _=>by
   by_cases e:l=i
   ·rw[if_pos e,if_pos (by omega)]
   ·rw[if_neg e,if_neg (by omega)])
 exact aA (ES (by omega))<|aA (dT (by omega))<|bO Y<|aA (ES (by omega))<|aA eu<|aA ap<|aA (congrArg some (bM (by omega))) Y
def eqs(n m:Nat)(R:Nat→Nat→Rat)(i k:Nat):Rat:=if i<m then(if k<n then R i k else if k=n+i then 1 else 0)else 0
theorem akX{L:Nat}(h:1≤L):FQ L 1:=FQ.int (i:=1) (L:=L) (by unfold Fit;exact Nat.lt_of_lt_of_le (by decide:(1:Int).natAbs<4294967296^1) (Nat.pow_le_pow_right (by decide) h)) h
theorem Zv{L n m:Nat}{rw:List (List Qr)}{R:Nat→Nat→Rat}(h:jk L rw R)(i k:Nat):FQ L (eqs n m R i k):=by
 unfold eqs
 split
 ·split
  ·exact(h.row i).fq k
  ·split
   ·exact akX h.l1
   ·exact nM h.l1
 ·exact nM h.l1
theorem T2{n m i k:Nat}{R:Nat→Nat→Rat}{g:Nat→Rat}(hi:i<m)(hk:k<n+m):eqs n m R i k=pL n m R g i k:=by
 unfold eqs pL
 rw[if_pos hi]
 by_cases q:k<n
 ·rw[if_pos q,if_pos q]
 ·rw[if_neg q,if_neg q]
  by_cases q2:k=n+i
  ·rw[if_pos q2,if_pos q2]
  ·rw[if_neg q2,if_neg q2,if_neg (by omega)]
theorem T3{L n m:Nat}{rw:List (List Qr)}{R:Nat→Nat→Rat}(h:jk L rw R):jk L (mq m (λ_=>n+m) (eqs n m R)) (eqs n m R):=
 BH (λi _ k _=>Zv h i k) (λi hi k hk=>by unfold eqs;rw[if_pos hi,if_neg (by omega),if_neg (by omega)]) (λi hi k=>by unfold eqs;rw[if_neg (by omega)]) h.l1
theorem JS{L n m:Nat}{ob rw:List (List Qr)}{bd:List Qr}{R:Nat→Nat→Rat}(h:jk L rw R)(hL:L≤1000000000)(hm:rw.length=m)(hmm:m≤100)(hn:n≤100):
  iY ⟨(n:Int),ob,rw,bd⟩=some (mq m (λ_=>n+m) (eqs n m R)):=by
 have l1:=h.l1
 have ft:=akU h hL (a:=m) (b:=n) (by omega) (by omega)
 have um:=ahv (m:=m) (by omega)
 have eC:mq m (λ_=>n) R=mq m (λ_=>n) (λi k=>if i<m∧k<n then R i k else 0):=kS (λi hi=>⟨Y,λk hk=>by rw[if_pos ⟨hi,hk⟩]⟩)
 have rA:jk L (mq m (λ_=>n) R) (λi k=>if i<m∧k<n then R i k else 0):=by
  rw[eC]
  exact BH (λi hi k hk=>by
   show FQ L (if i<m∧k<n then R i k else 0)
   rw[if_pos ⟨hi,hk⟩];exact(h.row i).fq k) (λi hi k hk=>if_neg (by omega)) (λi hi k=>if_neg (by omega)) l1
 have eU:mq m (λ_=>m) (λi k=>if k=i then 1 else 0)=mq m (λ_=>m) (λi k=>if i<m∧k=i then 1 else 0):=kS (λi hi=>⟨Y,λk hk=>by
  by_cases e:k=i
  ·rw[if_pos e,if_pos ⟨hi,e⟩]
  ·rw[if_neg e,if_neg (λq=>e q.2)]⟩)
 have rU:jk L (mq m (λ_=>m) (λi k=>if k=i then 1 else 0)) (λi k=>if i<m∧k=i then 1 else 0):=by
  rw[eU]
  refine BH (λi hi k hk=>?_) (λi hi k hk=>if_neg (by omega)) (λi hi k=>if_neg (by omega)) l1
  show FQ L (if i<m∧k=i then 1 else 0)
  split
  ·exact akX l1
  ·exact nM l1
 have lA:=cM m (λ_=>n) R
 have lU:=cM m (λ_=>m) (λi k=>if k=i then 1 else 0)
 obtain⟨w,cA,cU,hw⟩:∃w:Nat,cS (mq m (λ_=>n) R)=some (w:Int)∧cS (mq m (λ_=>m) (λi k=>if k=i then 1 else 0))=some (m:Int)∧(m=0∧w=0∨1≤m∧w=n):=by
  rw[vw _ (by omega),vw _ (by omega)]
  by_cases q:1≤m
  ·exact⟨n,by rw[vU q],by rw[vU q],.inr ⟨q,Y⟩⟩
  ·obtain rfl:m=0:=by omega
   exact⟨0,Y,Y,.inl ⟨Y,Y⟩⟩
 generalize mq m (λ_=>n) R=a at*
 generalize mq m (λ_=>m) (λi k=>if k=i then 1 else 0)=u at*
 have pl:∀i j:Nat,i<m→j<w+m→eL 3 ⟨⟨false,[]⟩,⟨false,[]⟩⟩ a u (i:Int) (j:Int)=some (qn (eqs n m R i j)):=λi j hi hj=>by
  have hwn:w=n:=by omega
  subst hwn
  unfold eL
  refine aA (dF (by decide))<|bG Y<|aA (dF (by decide))<|bG Y<|aA (dT (by decide))<|bO Y<|aA cA ?_
  by_cases q:j<w
  ·have e:=NZ rA (by omega) i j
   have e2:eqs w m R i j=if i<m∧j<w then R i j else 0:=by unfold eqs;rw[if_pos hi,if_pos q,if_pos ⟨hi,q⟩]
   rw[e2]
   generalize qn (if i<m∧j<w then R i j else 0)=z at*
   exact aA (dT (by omega))<|bO Y<|aA e Y
  ·have e:=NZ rU (by omega) i (j-w)
   have e2:eqs w m R i j=if i<m∧j-w=i then 1 else 0:=by
    unfold eqs
    rw[if_pos hi,if_neg q]
    by_cases e3:j=w+i
    ·rw[if_pos e3,if_pos ⟨hi,by omega⟩]
    ·rw[if_neg e3,if_neg (by omega)]
   rw[e2]
   generalize qn (if i<m∧j-w=i then 1 else 0)=z at*
   exact aA (dF (by omega))<|bG Y<|aA cA<|aA (congrArg some (show IntKind.i64.wrap ((j:Int)-(w:Int))=((j-w:Nat):Int) by rw[cG (by omega) (by omega)];omega))<|aA e Y
 have e3:=L0 (F:=eqs n m R) (show m≤1024 by omega) (show w+m≤1024 by omega) pl
 have e4:mq m (λ_=>w+m) (eqs n m R)=mq m (λ_=>n+m) (eqs n m R):=kS (λi hi=>⟨by omega,λ_ _=>Y⟩)
 rw[e4]at e3
 have bs:oq a u=some (mq m (λ_=>n+m) (eqs n m R)):=by
  unfold oq
  refine aA Y<|aA Y<|aA (congrArg some (show max (a.length:Int) (u.length:Int)=(m:Int) by rw[lA,lU];omega))<|aA cA<|aA cU<|aA (congrArg some (show IntKind.i64.wrap ((w:Int)+(m:Int))=((w+m:Nat):Int) by rw[cG (by omega) (by omega)];omega))<|aA e3 Y
 unfold iY
 exact aA (congrArg some (show(rw.length:Int)=(m:Int) by rw[hm]))<|aA ft<|aA (congrArg some (show(rw.length:Int)=(m:Int) by rw[hm]))<|aA um<|aA bs Y
end
section
open Go.Fw
theorem T4{L n m:Nat}{ob rw:List (List Qr)}{bd:List Qr}{R:Nat→Nat→Rat}{c:Nat→Nat}(h:jk L rw R)(hL:L≤1000000000)(hm:rw.length=m)(hmm:m≤100)(hn:n≤100):
  lf ⟨⟨(n:Int),ob,rw,bd⟩,bq m c⟩=some (mq m (λ_=>m) (λi k=>eqs n m R i (c k))):=by
 have re:=JS (ob:=ob) (bd:=bd) h hL hm hmm hn
 have rr:=T3 (n:=n) (m:=m) h
 have rl:=cM m (λ_=>n+m) (eqs n m R)
 have bl:=mY m c
 have bg:∀j,j<m→(bq m c)[j]? =some ((c j:Nat):Int):=λj hj=>o9 hj
 unfold lf
 refine aA re ?_
 have at4:∀i j:Nat,fD (mq m (λ_=>n+m) (eqs n m R)) (i:Int) ((c j:Nat):Int)=some (qn (eqs n m R i (c j))):=λi j=>NZ rr (by omega) i (c j)
 generalize mq m (λ_=>n+m) (eqs n m R)=a at*
 generalize bq m c=bs at*
 obtain⟨B,hB⟩:∃B:Nat→Nat→Rat,B=λi k=>eqs n m R i (c k):=⟨_,Y⟩
 have at5:∀i j:Nat,fD a (i:Int) ((c j:Nat):Int)=some (qn (B i j)):=λi j=>by rw[hB];exact at4 i j
 rw[←hB]
 clear hB at4
 refine bH (λi=>((i:Int),mq i (λ_=>m) B)) m (mq m (λ_=>m) B) Y (λi hi=>?_) (aA (congrArg some (show(a.length:Int)=(m:Int) by rw[rl]))<|aA (dF (by omega))<|bG Y Y) Y
 refine aA (congrArg some (show(a.length:Int)=(m:Int) by rw[rl]))<|aA (dT (by omega))<|bO Y ?_
 refine bH (λj=>((j:Int),vq j (B i))) m (vq m (B i)) Y (λj hj=>?_) (aA (congrArg some (show(bs.length:Int)=(m:Int) by rw[bl]))<|aA (dF (by omega))<|bG Y Y) ?_
 ·have e1:=at5 i j
  have e2:nC 64 (vq j (B i)) [qn (B i j)]=some (vq (j+1) (B i)):=by rw[nP (by decide) (by rw[bY];omega),mX]
  generalize qn (B i j)=q at*
  exact aA (congrArg some (show(bs.length:Int)=(m:Int) by rw[bl]))<|aA (dT (by omega))<|bO Y<|aA (bz (bg j hj))<|aA e1<|aA e2<|aA (congrArg some (bM (by omega))) Y
 ·have e3:nC 24 (mq i (λ_=>m) B) [vq m (B i)]=some (mq (i+1) (λ_=>m) B):=by
   rw[nP (by decide) (by rw[cM];omega),tq]
  exact aA e3<|aA (congrArg some (bM (by omega))) Y
section mul
variable {L M r m w:Nat}{a b:List (List Qr)}{A B:Nat→Nat→Rat}
theorem abT(ha:jk L a A)(hb:jk M b B)(ca:cS a=some (m:Int))(hm:m≤1000)(hL:(m+1)*(L+M+1)+1≤2000000000)(i k:Nat):eL 2 ⟨⟨false,[]⟩,⟨false,[]⟩⟩ a b (i:Int) (k:Int)=some (qn (cw (λl=>A i l*B l k) m)):=by
 have hs:∀n,FQ (n*(L+M+1)+1) (cw (λl=>A i l*B l k) n):=λn=>NO (λl _=>((ha.row i).fq l).mul ((hb.row l).fq k))
 have hmm:∀n:Nat,n≤m→n*(L+M+1)≤m*(L+M+1):=λn hn=>Nat.mul_le_mul_right _ hn
 rw[Nat.succ_mul]at hL
 have l1:=ha.l1
 have l2:=hb.l1
 unfold eL
 refine aA (dF (by decide))<|bG Y<|aA (dT (by decide))<|bO Y ?_
 refine bH (λj=>((j:Int),(qn (cw (λl=>A i l*B l k) j)).num.neg,(qn (cw (λl=>A i l*B l k) j)).num.w,(qn (cw (λl=>A i l*B l k) j)).den.neg,(qn (cw (λl=>A i l*B l k) j)).den.w)) m
  ((qn (cw (λl=>A i l*B l k) m)).num.neg,(qn (cw (λl=>A i l*B l k) m)).num.w,(qn (cw (λl=>A i l*B l k) m)).den.neg,(qn (cw (λl=>A i l*B l k) m)).den.w) Y (λj hj=>?_) ?_ Y
 ·have hmj:=hmm j (by omega)
  have a1:=NZ ha (by omega) i j
  have a2:=NZ hb (by omega) j k
  have r1:=((ha.row i).fq j).rep l1
  have r2:=((hb.row j).fq k).rep l2
  have e1:=r1.YZ r2 (by omega)
  have e3:=((hs j).rep (by omega)).abC ((((ha.row i).fq j).mul ((hb.row j).fq k)).rep (by omega)) (by omega)
  simp only[cw]
  generalize hq0:qn (cw (λl=>A i l*B l k) j)=q0 at e3⊢
  generalize hq3:qn (cw (λl=>A i l*B l k) j+A i j*B j k)=q3 at e3⊢
  generalize qn (A i j)=q1 at*
  generalize qn (B j k)=q2 at*
  generalize qn (A i j*B j k)=q4 at*
  obtain⟨⟨_,_⟩,⟨_,_⟩⟩:=q0
  obtain⟨⟨_,_⟩,⟨_,_⟩⟩:=q1
  obtain⟨⟨_,_⟩,⟨_,_⟩⟩:=q2
  obtain⟨⟨_,_⟩,⟨_,_⟩⟩:=q3
  obtain⟨⟨_,_⟩,⟨_,_⟩⟩:=q4
  exact aA ca<|aA (dT (by omega))<|bO Y<|aA a1<|aA a2<|aA e1<|aA e3<|aA (congrArg some (bM (by omega))) Y
 ·exact aA ca<|aA (dF (by omega))<|bG Y Y
theorem akY(ha:jk L a A)(hb:jk M b B)(la:a.length=r)(ca:cS a=some (m:Int))(cb:cS b=some (w:Int))(hr:r≤1024)(hw:w≤1024)(hm:m≤1000)(hL:(m+1)*(L+M+1)+1≤2000000000):
  mG a b=some (mq r (λ_=>w) (λi k=>cw (λl=>A i l*B l k) m)):=by
 have e:=L0 (F:=λi k=>cw (λl=>A i l*B l k) m) hr hw (λi k _ _=>abT ha hb ca hm hL i k)
 unfold mG
 exact aA (congrArg some (show(a.length:Int)=(r:Int) by rw[la]))<|aA cb<|aA e Y
theorem ahw{g:Nat→Rat}{bd:List Qr}(ha:∀i,i<r→ek L (vq m (A i)) (A i))(hb:ek M bd g)(Md:bd.length=m)(hr:r≤1000)(hm:m≤1000)(hL:(m+2)*(L+M+1)≤4000000000):
  nx (mq r (λ_=>m) A) bd=some (vq r (λi=>cw (λl=>A i l*g l) m)):=by
 have ml:=cM r (λ_=>m) A
 have mg:∀i,i<r→(mq r (λ_=>m) A)[i]? =some (vq m (A i)):=λi hi=>fu hi
 obtain⟨D,hD⟩:∃D:Nat→Rat,D=λi=>cw (λl=>A i l*g l) m:=⟨_,Y⟩
 have dot:∀i,i<r→qJ (vq m (A i)) bd=some (qn (D i)):=λi hi=>by
  have e:=Zq (ha i hi) hb (by rw[bY];exact hL) (by rw[bY];omega)
  rw[bY,Md,Nat.min_self]at e
  rw[hD];exact e
 rw[←hD]
 clear hD
 unfold nx
 generalize mq r (λ_=>m) A=a at*
 refine bH (λi=>((i:Int),vq i D)) r (vq r D) Y (λi hi=>?_) (aA (congrArg some (show(a.length:Int)=(r:Int) by rw[ml]))<|aA (dF (by omega))<|bG Y Y) Y
 have e1:=dot i hi
 have e2:nC 64 (vq i D) [qn (D i)]=some (vq (i+1) D):=by rw[nP (by decide) (by rw[bY];omega),mX]
 generalize qn (D i)=q at*
 exact aA (congrArg some (show(a.length:Int)=(r:Int) by rw[ml]))<|aA (dT (by omega))<|bO Y<|aA (bz (mg i hi))<|aA e1<|aA e2<|aA (congrArg some (bM (by omega))) Y
end mul
end
section
open Go.Fw
section val
variable {K L n m p:Nat}{ob rw:List (List Qr)}{bd:List Qr}{O G:Nat→Nat→Rat}{c:Nat→Nat}
theorem rvalue(ho:jk K ob O)(hK:K≤1000000000)(hp:ob.length=p)(hp4:p≤1000)(hn:n≤1000)(k:Nat):jD ⟨(n:Int),ob,rw,bd⟩ (k:Int)=some (vq (p+n) (r7 n p O k)):=by
 have at4:∀i:Nat,fD ob (i:Int) (k:Int)=some (qn (O i k)):=λi=>NZ ho (by omega) i k
 obtain⟨V,hV⟩:∃V:Nat→Rat,V=λi=>if i<p then O i k else if i=p+k then-1 else 0:=⟨_,Y⟩
 have v1:∀i,i<p→V i=O i k:=λi hi=>by rw[hV];exact if_pos hi
 have v2:V (p+k)=-1:=by rw[hV];show(if p+k<p then _ else if p+k=p+k then(-1:Rat)else 0)=-1;rw[if_neg (by omega),if_pos rfl]
 have v3:∀i,p≤i→i≠p+k→V i=0:=λi h1 h2=>by rw[hV];show(if i<p then _ else if i=p+k then(-1:Rat)else 0)=0;rw[if_neg (by omega),if_neg h2]
 unfold jD
 refine bH (λi=>((i:Int),vq i V)) p (vq p V) Y (λi hi=>?_) (aA (congrArg some (show(ob.length:Int)=(p:Int) by rw[hp]))<|aA (dF (by omega))<|bG Y Y) ?_
 ·have e1:=at4 i
  have e2:nC 64 (vq i V) [qn (O i k)]=some (vq (i+1) V):=by rw[nP (by decide) (by rw[bY];omega),mX,v1 i hi]
  generalize qn (O i k)=q at*
  obtain⟨⟨_,_⟩,⟨_,_⟩⟩:=q
  exact aA (congrArg some (show(ob.length:Int)=(p:Int) by rw[hp]))<|aA (dT (by omega))<|bO Y<|aA e1<|aA e2<|aA (congrArg some (bM (by omega))) Y
 refine bH (λi=>((i:Int),vq (p+i) V)) n (vq (p+n) V) Y (λi hi=>?_) (aA (dF (by omega))<|bG Y Y) ?_
 ·refine aA (dT (by omega))<|bO Y ?_
  by_cases e:i=k
  ·subst e
   have e1:=EP (n:=-1) (by decide)
   have e2:nC 64 (vq (p+i) V) [qn (-1)]=some (vq (p+i+1) V):=by rw[nP (by decide) (by rw[bY];omega),mX,v2]
   have hq:qn ((-1:Int):Rat)=qn (-1):=rfl
   rw[hq]at e1
   generalize qn (-1)=q at*
   obtain⟨⟨_,_⟩,⟨_,_⟩⟩:=q
   exact aA (dT (by omega))<|bW<|bO Y<|aA e1<|aA e2<|aA (congrArg some (bM (by omega))) Y
  ·have e2:nC 64 (vq (p+i) V) [⟨⟨false,[]⟩,⟨false,[]⟩⟩]=some (vq (p+i+1) V):=by
    rw[nP (by decide) (by rw[bY];omega),mX,v3 (p+i) (by omega) (by omega)];rfl
   exact aA (dF (by omega))<|bW<|bG Y<|aA e2<|aA (congrArg some (bM (by omega))) Y
 ·by_cases e:k<n
  ·refine aA (dF (by omega))<|bG Y (congrArg some (dG (λi hi=>?_)))
   rw[hV]
   show(if i<p then O i k else if i=p+k then-1 else 0)=_
   unfold r7
   rw[if_pos e]
  ·have eu:=oX ((p+n:Nat):Int) (-1)
   rw[show(min ((p+n:Nat):Int) 65536).toNat=p+n by omega]at eu
   refine aA (dT (by omega))<|bO Y<|aA (congrArg some (show((vq (p+n) V).length:Int)=((p+n:Nat):Int) by rw[bY]))<|aA eu (congrArg some (dG (λi hi=>?_)))
   unfold r7
   rw[if_neg e,if_neg (by omega)]
theorem akZ(ho:jk K ob O)(hK:K≤1000000000)(hp:ob.length=p)(h:vv L n m p O G c)(hL:(m+1)*(L+L+1)≤2000000000){g:Nat→Rat}(hg:∀j,j<m→FQ L (g j)):
  ql ⟨⟨(n:Int),ob,rw,bd⟩,bq m c⟩ (vq m g)=some (vq (p+n) (pK n p O c g m)):=by
 have hX:m*(L+L+1)+(L+L+1)≤2000000000:=by rw[←Nat.succ_mul];exact hL
 have hm:=h.hm
 have hn:=h.hn
 have hp4:=h.hp
 have h1:=h.l1
 have bl:=mY m c
 have bg:∀j,j<m→(bq m c)[j]? =some ((c j:Nat):Int):=λj hj=>o9 hj
 have eu:=oX ((p+n:Nat):Int) (-1)
 rw[show(min ((p+n:Nat):Int) 65536).toNat=p+n by omega]at eu
 rw[show vq (p+n) (λi=>if(i:Int)=-1 then 1 else 0)=vq (p+n) (pK n p O c g 0)from dG (λi _=>by rw[if_neg (by omega)];rfl)]at eu
 have val:∀k:Nat,jD ⟨(n:Int),ob,rw,bd⟩ (k:Int)=some (vq (p+n) (r7 n p O k)):=λk=>rvalue ho hK hp (by omega) (by omega) k
 unfold ql
 refine aA (congrArg some (show(ob.length:Int)=(p:Int) by rw[hp]))<|aA (congrArg some (show IntKind.i64.wrap ((p:Int)+(n:Int))=((p+n:Nat):Int) by rw[cG (by omega) (by omega)];omega))<|aA eu ?_
 generalize bq m c=bs at*
 refine bH (λk=>(vq (p+n) (pK n p O c g k),(k:Int))) m (vq (p+n) (pK n p O c g m)) Y (λk hk=>?_) (aA (congrArg some (show(bs.length:Int)=(m:Int) by rw[bl]))<|aA (dF (by omega))<|bG Y Y) Y
 have a1:=BF (vq m g) k
 rw[List.getD_eq_getElem?_getD,iM hk]at a1
 replace a1:g9 (vq m g) (k:Int)=some (qn (g k)):=a1
 have rg:=(hg k hk).rep h1
 have va:=TV rg (HI h (c k)) (BJ h hg (Nat.le_of_lt hk)) (by have:=Nat.mul_le_mul_right (L+L+1) (show k≤m by omega);omega) (by rw[bY];omega) (by rw[bY];omega)
 have e0:vq (max (vq (p+n) (r7 n p O (c k))).length (vq (p+n) (pK n p O c g k)).length) (λi=>g k*r7 n p O (c k) i+pK n p O c g k i)=vq (p+n) (pK n p O c g (k+1)):=by
  rw[bY,bY,Nat.max_self]
  refine dG (λi _=>?_)
  show _=cw _ k+_
  unfold pK;grind
 rw[e0]at va
 have vk:=val (c k)
 generalize vq (p+n) (pK n p O c g (k+1))=o2 at*
 generalize vq (p+n) (pK n p O c g k)=o1 at*
 generalize vq (p+n) (r7 n p O (c k))=o3 at*
 generalize qn (g k)=q at*
 obtain⟨⟨_,_⟩,⟨_,_⟩⟩:=q
 exact aA (congrArg some (show(bs.length:Int)=(m:Int) by rw[bl]))<|aA (dT (by omega))<|bO Y<|aA a1<|aA (bz (bg k hk))<|aA vk<|aA va<|aA (congrArg some (bM (by omega))) Y
theorem ahx(ho:jk K ob O)(hK:K≤1000000000)(hp:ob.length=p)(hm:rw.length=m)(h:vv L n m p O G c)(hL:(m+1)*(L+L+1)≤1000000000)(er:mI ⟨⟨(n:Int),ob,rw,bd⟩,bq m c⟩=some (mq m (λ_=>n+m) G)):
  fH ⟨⟨(n:Int),ob,rw,bd⟩,bq m c⟩=some (mq (n+m) (λ_=>p+n) (r8 n m p O G c)):=by
 have hX:m*(L+L+1)+(L+L+1)≤1000000000:=by rw[←Nat.succ_mul];exact hL
 have hm1:=h.hm
 have hn:=h.hn
 have hp4:=h.hp
 have h1:=h.l1
 have rl:=cM m (λ_=>n+m) G
 have mg:∀i,i<m→(mq m (λ_=>n+m) G)[i]? =some (vq (n+m) (G i)):=λi hi=>fu hi
 have sm:∀k,k<n+m→ql ⟨⟨(n:Int),ob,rw,bd⟩,bq m c⟩ (vq m (λi=>G i k))=some (vq (p+n) (pK n p O c (λi=>G i k) m)):=λk _=>akZ ho hK hp h (by omega) (λj hj=>h.f j hj k)
 have val:∀k:Nat,jD ⟨(n:Int),ob,rw,bd⟩ (k:Int)=some (vq (p+n) (r7 n p O k)):=λk=>rvalue ho hK hp (by omega) (by omega) k
 have sub:∀k:Nat,qH (vq (p+n) (pK n p O c (λi=>G i k) m)) (vq (p+n) (r7 n p O k))=some (vq (p+n) (r8 n m p O G c k)):=λk=>by
  have s:=Y1 (BJ h (g:=λj=>G j k) (λj hj=>h.f j hj k) (Nat.le_refl m)) (HI h k) (by omega) (by rw[bY];omega) (by rw[bY];omega)
  rw[bY,bY,Nat.max_self]at s
  exact s
 unfold fH
 refine aA er ?_
 generalize mq m (λ_=>n+m) G=rows at*
 generalize hbs:bq m c=bs at*
 obtain⟨D,hD⟩:∃D:Nat→Nat→Rat,D=r8 n m p O G c:=⟨_,Y⟩
 rw[←hD]at sub⊢
 have hw:IntKind.i64.wrap ((n:Int)+(rw.length:Int))=((n+m:Nat):Int):=by rw[hm,cG (by omega) (by omega)];omega
 refine bH (λk=>((k:Int),mq k (λ_=>p+n) D)) (n+m) (mq (n+m) (λ_=>p+n) D) Y (λk hk=>?_) (aA Y<|aA (congrArg some hw)<|aA (dF (by omega))<|bG Y Y) Y
 refine aA Y<|aA (congrArg some hw)<|aA (dT (by omega))<|bO Y ?_
 refine bH (λi=>((i:Int),vq i (λi=>G i k))) m (vq m (λi=>G i k)) Y (λi hi=>?_) (aA (congrArg some (show(rows.length:Int)=(m:Int) by rw[rl]))<|aA (dF (by omega))<|bG Y Y) ?_
 ·have g2:(vq (n+m) (G i))[k]? =some (qn (G i k)):=iM hk
  have e2:nC 64 (vq i (λi=>G i k)) [qn (G i k)]=some (vq (i+1) (λi=>G i k)):=by rw[nP (by decide) (by rw[bY];omega),mX]
  generalize qn (G i k)=q at*
  obtain⟨⟨_,_⟩,⟨_,_⟩⟩:=q
  exact aA (congrArg some (show(rows.length:Int)=(m:Int) by rw[rl]))<|aA (dT (by omega))<|bO Y<|aA (bz (mg i hi))<|aA (bz g2)<|aA e2<|aA (congrArg some (bM (by omega))) Y
 ·have e3:nC 24 (mq k (λ_=>p+n) D) [vq (p+n) (D k)]=some (mq (k+1) (λ_=>p+n) D):=by
   rw[nP (by decide) (by rw[cM];omega),tq]
  exact aA (sm k hk)<|aA (val k)<|aA (sub k)<|aA e3<|aA (congrArg some (bM (by omega))) Y
theorem abU(ho:jk K ob O)(hK:K≤1000000000)(hp:ob.length=p)(h:vv L n m p O G c)(hL:(m+1)*(L+L+1)≤2000000000)(eh:jc ⟨⟨(n:Int),ob,rw,bd⟩,bq m c⟩=some (vq m (λi=>G i (n+m)))):
  rL ⟨⟨(n:Int),ob,rw,bd⟩,bq m c⟩=some (vq (p+n) (pK n p O c (λj=>G j (n+m)) m)):=by
 unfold rL
 exact aA eh<|aA (akZ ho hK hp h hL (λj hj=>h.f j hj (n+m))) Y
theorem Vk(h:vv L n m p O G c)(eh:jc ⟨⟨(n:Int),ob,rw,bd⟩,bq m c⟩=some (vq m (λi=>G i (n+m)))):
  nc ⟨⟨(n:Int),ob,rw,bd⟩,bq m c⟩=some (vq n (rS n m G c m)):=by
 have hm:=h.hm
 have hn:=h.hn
 have bl:=mY m c
 have bg:∀j,j<m→(bq m c)[j]? =some ((c j:Nat):Int):=λj hj=>o9 hj
 have eu:=oX (n:Int) (-1)
 rw[show(min (n:Int) 65536).toNat=n by omega]at eu
 rw[show vq n (λi=>if(i:Int)=-1 then 1 else 0)=vq n (rS n m G c 0)from dG (λi _=>by rw[if_neg (by omega)];rfl)]at eu
 unfold nc
 refine aA ((EU _ _).trans eu)<|aA eh ?_
 generalize bq m c=bs at*
 refine bH (λk=>((k:Int),vq n (rS n m G c k))) m (vq n (rS n m G c m)) Y (λk hk=>?_) (aA (congrArg some (show(bs.length:Int)=(m:Int) by rw[bl]))<|aA (dF (by omega))<|bG Y Y) Y
 have g1:(vq m (λi=>G i (n+m)))[k]? =some (qn (G k (n+m))):=iM hk
 have g2:=bg k hk
 have hl:=bY n (rS n m G c k)
 by_cases VX:c k<n
 ·have s:=uD (k:=n) (j:=c k) (h:=rS n m G c k) (x:=G k (n+m)) VX
  have s2:vq n (λi=>if i=c k then G k (n+m)else rS n m G c k i)=vq n (rS n m G c (k+1)):=dG (λi _=>by
   show _=if c k<n∧i=c k then _ else _
   by_cases e:i=c k
   ·rw[if_pos e,if_pos ⟨VX,e⟩]
   ·rw[if_neg e,if_neg (λq=>e q.2)])
  rw[s2]at s
  rw[←s]
  clear s s2
  generalize vq n (rS n m G c k)=l at*
  generalize qn (G k (n+m))=q at*
  obtain⟨⟨_,_⟩,⟨_,_⟩⟩:=q
  exact aA (congrArg some (show(bs.length:Int)=(m:Int) by rw[bl]))<|aA (dT (by omega))<|bO Y<|aA (bz g2)<|aA (dT (by omega))<|bW<|bO Y<|aA (bz g2)<|aA (bz g1)<|aA (b9 (by omega))<|aA (dS (by omega))<|aA (congrArg some (bM (by omega))) Y
 ·have s2:vq n (rS n m G c k)=vq n (rS n m G c (k+1)):=dG (λi _=>by
   show _=if c k<n∧i=c k then _ else _
   rw[if_neg (λq=>VX q.1)])
  rw[←s2]
  exact aA (congrArg some (show(bs.length:Int)=(m:Int) by rw[bl]))<|aA (dT (by omega))<|bO Y<|aA (bz g2)<|aA (dF (by omega))<|bW<|bG Y<|aA (congrArg some (bM (by omega))) Y
theorem Vl(h:vv L n m p O G c)(hL:L≤4000000000)(eh:jc ⟨⟨(n:Int),ob,rw,bd⟩,bq m c⟩=some (vq m (λi=>G i (n+m)))):
  nf ⟨⟨(n:Int),ob,rw,bd⟩,bq m c⟩=some (decide (∀i,i<m→0≤G i (n+m))):=by
 have hm:=h.hm
 have ll:=bY m (λi=>G i (n+m))
 unfold nf
 refine aA eh ?_
 refine aA (zj (n:=m) (p:=λi=>0≤G i (n+m)) (e:=false) (λk hk=>?_) (aA (congrArg some (show((vq m (λi=>G i (n+m))).length:Int)=(m:Int) by rw[ll]))<|aA (dF (by omega))<|bG Y Y)) ?_
 ·have g1:(vq m (λi=>G i (n+m)))[k]? =some (qn (G k (n+m))):=iM hk
  have sg:=((h.f k hk (n+m)).rep h.l1).TT (by omega)
  generalize vq m (λi=>G i (n+m))=l at*
  generalize qn (G k (n+m))=q at*
  obtain⟨⟨_,_⟩,⟨_,_⟩⟩:=q
  refine aA (congrArg some (show(l.length:Int)=(m:Int) by rw[ll]))<|aA (dT (by omega))<|bO Y<|aA (bz g1)<|aA sg ?_
  by_cases q:G k (n+m)<0
  ·rw[if_neg (by grind)]
   exact aA (dT (EJ.2 q))<|bO Y Y
  ·rw[if_pos (by grind)]
   exact aA (dF (λe=>q (EJ.1 e)))<|bG Y<|aA (congrArg some (bM (by omega))) Y
 ·by_cases q:∀i,i<m→0≤G i (n+m)
  ·rw[if_pos q,decide_eq_true q]
  ·rw[if_neg q,decide_eq_false q]
theorem Zw(h:vv L n m p O G c)(hL:(m+1)*(L+L+1)≤1000000000)(ec:fH ⟨⟨(n:Int),ob,rw,bd⟩,bq m c⟩=some (mq (n+m) (λ_=>p+n) (r8 n m p O G c))):
  ot ⟨⟨(n:Int),ob,rw,bd⟩,bq m c⟩=some (decide (∀k,k<n+m→0≤oC (r8 n m p O G c k) (λ_=>0) (p+n))):=by
 have hX:m*(L+L+1)+(L+L+1)≤1000000000:=by rw[←Nat.succ_mul];exact hL
 have hm:=h.hm
 have hn:=h.hn
 have hp4:=h.hp
 have rl:=cM (n+m) (λ_=>p+n) (r8 n m p O G c)
 have mg:∀i,i<n+m→(mq (n+m) (λ_=>p+n) (r8 n m p O G c))[i]? =some (vq (p+n) (r8 n m p O G c i)):=λi hi=>fu hi
 have lx:∀k,k<n+m→qK (vq (p+n) (r8 n m p O G c k)) []=some (oC (r8 n m p O G c k) (λ_=>0) (p+n)):=λk hk=>by
  have e:=arp (LW h (by omega) hk).2 (ek.nil (L:=1) (by decide)) (by omega) (by rw[bY];omega) (by decide)
  rw[bY,List.length_nil,Nat.max_zero]at e
  exact e
 unfold ot
 refine aA ec ?_
 generalize mq (n+m) (λ_=>p+n) (r8 n m p O G c)=l at*
 refine aA (zj (n:=n+m) (p:=λk=>0≤oC (r8 n m p O G c k) (λ_=>0) (p+n)) (e:=false) (λk hk=>?_) (aA (congrArg some (show(l.length:Int)=((n+m:Nat):Int) by rw[rl]))<|aA (dF (by omega))<|bG Y Y)) ?_
 ·refine aA (congrArg some (show(l.length:Int)=((n+m:Nat):Int) by rw[rl]))<|aA (dT (by omega))<|bO Y<|aA (bz (mg k hk))<|aA (lx k hk) ?_
  by_cases q:0≤oC (r8 n m p O G c k) (λ_=>0) (p+n)
  ·rw[if_pos q]
   exact aA (dF (by omega))<|bG Y<|aA (congrArg some (bM (by omega))) Y
  ·rw[if_neg q]
   exact aA (dT (by omega))<|bO Y Y
 ·by_cases q:∀k,k<n+m→0≤oC (r8 n m p O G c k) (λ_=>0) (p+n)
  ·rw[if_pos q,decide_eq_true q]
  ·rw[if_neg q,decide_eq_false q]
end val
end
section
open Go.Fw
theorem L3.congr{m r w:Nat}{A B:Nat→Nat→Rat}(h:L3 m r w A)(e:∀i l,i<r→l<w→A i l=B i l):L3 m r w B:=λz hz hn=>h z hz (λi hi=>by
 have q:=hn i hi
 rw[cY (k:=λl=>B i l*z l) (λl hl=>by rw[e i l hi hl])]
 exact q)
theorem Vm:dN []=some ([],0):=by
 have tu:mU []=some []:=by
  have e:=L0 (a:=0) (b:=0) (kd:=1) (c:=⟨⟨false,[]⟩,⟨false,[]⟩⟩) (rw:=[]) (rv:=[]) (F:=λ_ _=>0) (by decide) (by decide) (λi j hi=>by omega)
  have c:=vw [] (by decide)
  unfold mU
  exact aA c<|aA Y<|aA e Y
 unfold dN
 refine aA Y ?_
 exact bH (λi=>((i:Int),[])) 0 (.inl []) Y (λi hi=>by omega) (aA (dF (by decide))<|bG Y Y) (aA tu Y)
section same
variable {n m p:Nat}{ob rw:List (List Qr)}{bd:List Qr}{O R G:Nat→Nat→Rat}{g:Nat→Rat}{c:Nat→Nat}
theorem sz6{m:Nat}(hm:m≤6):BL 6 m≤25941:=Nat.le_trans (BM 6 hm) (by decide)
theorem sz5{m:Nat}(hm:m≤5):BL 6 m≤6485:=Nat.le_trans (BM 6 hm) (by decide)
def T5(n m:Nat)(R:Nat→Nat→Rat)(c:Nat→Nat)(i k:Nat):Rat:=if k<m then eqs n m R i (c k)else 0
theorem Zx(n m:Nat)(R:Nat→Nat→Rat)(c:Nat→Nat):mq m (λ_=>m) (λi k=>eqs n m R i (c k))=mq m (λ_=>m) (T5 n m R c):=kS (λi hi=>⟨Y,λk hk=>(if_pos hk).symm⟩)
theorem T6(rr:jk 6 rw R):jk 6 (mq m (λ_=>m) (T5 n m R c)) (T5 n m R c):=
 BH (λi _ k hk=>by unfold T5;rw[if_pos hk];exact Zv rr i (c k)) (λi _ k hk=>if_neg (by omega)) (λi hi k=>by
  unfold T5 eqs
  split
  ·exact if_neg (by omega)
  ·rfl) (by decide)
theorem HM(nN:∀j,j<m→c j<n+m){i k:Nat}(hi:i<m)(hk:k<m):T5 n m R c i k=pL n m R g i (c k):=by
 unfold T5
 rw[if_pos hk]
 exact T2 hi (nN k hk)
theorem abV(rr:jk 6 rw R)(hm:rw.length=m)(m5:m≤5)(hn:n≤64)(nN:∀j,j<m→c j<n+m)(ind:L3 m m m (λi s=>pL n m R g i (c s))):
  ∃N:Nat→Nat→Rat,dN (mq m (λ_=>m) (T5 n m R c))=some (mq m (λ_=>m) N,0)∧(∀i k,i<m→k<m→cw (λl=>T5 n m R c i l*N l k) m=if i=k then 1 else 0)∧(∀i k,FQ 6485 (N i k))∧(∀i k,m≤i∨m≤k→N i k=0):=by
 by_cases q:1≤m
 ·obtain⟨_,e,N,rfl,h1,h2,h3⟩:=abR (T6 (n:=n) (m:=m) (c:=c) rr) (cM _ _ _) (vU q) q (by omega) (by have:=sz6 (show m+1≤6 by omega);omega) (ind.congr (λi l hi hl=>(HM nN hi hl).symm))
  exact⟨N,e,h1,λi k=>(h2 i k).mono (sz5 m5),h3⟩
 ·obtain rfl:m=0:=by omega
  exact⟨λ_ _=>0,Vm,λi k hi=>by omega,λ_ _=>nM (by decide),λ_ _ _=>Y⟩
theorem ak0{ob':List (List Qr)}(rr:jk 6 rw R)(rb:ek 6 bd g)(hm:rw.length=m)(hbd:bd.length=m)(m5:m≤5)(hn:n≤64)(nN:∀j,j<m→c j<n+m)(hu:Uc m G c)(hs:∀z,CJ n m (pL n m R g) z↔CJ n m G z):
  oT ⟨⟨(n:Int),ob',rw,bd⟩,bq m c⟩=some true∧mI ⟨⟨(n:Int),ob',rw,bd⟩,bq m c⟩=some (mq m (λ_=>n+m) G)∧jc ⟨⟨(n:Int),ob',rw,bd⟩,bq m c⟩=some (vq m (λi=>G i (n+m))):=by
 have ind:=Zu nN hu hs
 have mx:=T4 (ob:=ob') (bd:=bd) (c:=c) rr (by decide) hm (by omega) (by omega) (n:=n)
 rw[Zx]at mx
 obtain⟨N,eN,n1,n2,n3⟩:=abV rr hm m5 hn nN ind
 have eq:=JS (ob:=ob') (bd:=bd) rr (by decide) hm (by omega) (show n≤100 by omega)
 have er:=T3 (n:=n) (m:=m) rr
 have rN:jk 6485 (mq m (λ_=>m) N) N:=BH (λi _ k _=>n2 i k) (λi _ k hk=>n3 i k (.inr hk)) (λi hi k=>n3 i k (.inl hi)) (by omega)
 have ars:L3 m m m (T5 n m R c):=ind.congr (λi l hi hl=>(HM nN hi hl).symm)
 have lN:∀i k,i<m→k<m→cw (λl=>N i l*T5 n m R c l k) m=if i=k then 1 else 0:=λi k hi hk=>linv ars n1 hi hk
 have tr:∀i k,i<m→k≤n+m→pL n m R g i k=cw (λs=>T5 n m R c i s*G s k) m:=λi k hi hk=>by
  rw[FV nN hu (λz=>(hs z).2) hi hk]
  exact cY (λs hs'=>by rw[HM nN hi hs'])
 have hX:(m+1)*(6485+6+1)+1≤2000000000:=by omega
 have hX7:(m+2)*(6485+6+1)≤4000000000:=by
  obtain⟨K,hK⟩:∃K,K=6485+6+1:=⟨_,Y⟩
  have:=Nat.mul_le_mul_right K (show m+2≤7 by omega)
  rw[←hK]
  omega
 have ti:nx (mq m (λ_=>m) N) bd=some (vq m (λi=>G i (n+m))):=by
  have e:=ahw (L:=6485) (M:=6) (r:=m) (λi hi=>qo (λk _=>n2 i k) (λk hk=>n3 i k (.inr hk)) rN.l1) rb hbd (by omega) (by omega) hX7
  rw[e]
  refine congrArg some (dG (λi hi=>?_))
  refine Qz (B:=T5 n m R c) (y:=λs=>G s (n+m)) lN (λi hi=>?_) hi
  rw[←tr i (n+m) hi (Nat.le_refl _)]
  unfold pL
  rw[if_neg (by omega),if_neg (by omega),if_pos rfl]
 have mu:mG (mq m (λ_=>m) N) (mq m (λ_=>n+m) (eqs n m R))=some (mq m (λ_=>n+m) G):=by
  by_cases q:1≤m
  ·have cA:cS (mq m (λ_=>m) N)=some (m:Int):=by rw[vw _ (by rw[cM];omega),vU q]
   have cB:cS (mq m (λ_=>n+m) (eqs n m R))=some ((n+m:Nat):Int):=by rw[vw _ (by rw[cM];omega),vU q]
   have e:=akY rN er (cM _ _ _) cA cB (by omega) (by omega) (by omega) hX
   rw[e]
   refine congrArg some (kS (λi hi=>⟨Y,λk hk=>?_⟩))
   refine Qz (B:=T5 n m R c) (y:=λs=>G s k) lN (λi hi=>?_) hi
   rw[←tr i k hi (Nat.le_of_lt hk)]
   exact T2 hi hk
  ·obtain rfl:m=0:=by omega
   have c0:=vw [] (by decide)
   have e:=L0 (a:=0) (b:=0) (kd:=2) (c:=⟨⟨false,[]⟩,⟨false,[]⟩⟩) (rw:=[]) (rv:=[]) (F:=λ_ _=>0) (by decide) (by decide) (λi j hi=>by omega)
   show mG [] []=some []
   unfold mG
   exact aA Y<|aA c0<|aA e Y
 refine⟨?_,?_,?_⟩
 ·unfold oT
  exact aA mx<|aA eN Y
 ·unfold mI
  exact aA mx<|aA eN<|aA eq<|aA mu Y
 ·unfold jc
  exact aA mx<|aA eN<|aA ti Y
theorem art(ob':List (List Qr))(rr:jk 6 rw R)(hm:rw.length=m)(m5:m≤5)(hn:n≤64)(nN:∀j,j<m→c j<n+m)(Qy:¬L3 m m m (λi s=>pL n m R g i (c s))):
  oT ⟨⟨(n:Int),ob',rw,bd⟩,bq m c⟩=some false:=by
 have mx:=T4 (ob:=ob') (bd:=bd) (c:=c) rr (by decide) hm (by omega) (by omega) (n:=n)
 rw[Zx]at mx
 have q:1≤m:=by
  refine Classical.byContradiction (λw=>Qy (λz hz hn l hl=>?_))
  omega
 have e:=abS (T6 (n:=n) (m:=m) (c:=c) rr) (cM _ _ _) (vU q) q (by omega) (by have:=sz6 (show m+1≤6 by omega);omega) (λi=>Qy (i.congr (λi l hi hl=>HM nN hi hl)))
 unfold oT
 exact aA mx<|aA e Y
theorem aej{L r w:Nat}{F:Nat→Nat→Rat}(hf:∀i,i<r→∀k,k<w→FQ L (F i k))(h1:1≤L)(hL:L≤100000000000)(hr:r≤1000)(hw:w≤1000):sN (mq r (λ_=>w) F) (mq r (λ_=>w) F)=some true:=by
 have ml:=cM r (λ_=>w) F
 have mg:∀i,i<r→(mq r (λ_=>w) F)[i]? =some (vq w (F i)):=λi hi=>fu hi
 have si:∀i,i<r→k7 (vq w (F i)) (vq w (F i))=some true:=λi hi=>(NU (hf i hi) h1).ris hL (by rw[bY];omega)
 unfold sN
 generalize mq r (λ_=>w) F=a at*
 refine aA Y<|aA Y<|aA (dF (λq=>q Y))<|bG Y ?_
 refine bH (λi=>(i:Int)) r (.inl ()) Y (λi hi=>?_) (aA (congrArg some (show(a.length:Int)=(r:Int) by rw[ml]))<|aA (dF (by omega))<|bG Y Y) Y
 exact aA (congrArg some (show(a.length:Int)=(r:Int) by rw[ml]))<|aA (dT (by omega))<|bO Y<|aA (bz (mg i hi))<|aA (bz (mg i hi))<|aA (si i hi)<|aA Y<|bG Y<|aA (congrArg some (bM (by omega))) Y
theorem is7(ro:jk 6 ob O)(hp:ob.length=p)(hm:rw.length=m)(m5:m≤5)(h:vv 6485 n m p O G c)
  (eR:mI ⟨⟨(n:Int),ob,rw,bd⟩,bq m c⟩=some (mq m (λ_=>n+m) G)) (eH:jc ⟨⟨(n:Int),ob,rw,bd⟩,bq m c⟩=some (vq m (λi=>G i (n+m)))):
  w9 (LU n m p O G c) ⟨⟨(n:Int),ob,rw,bd⟩,bq m c⟩=some true:=by
 have hn:=h.hn
 have hp4:=h.hp
 obtain⟨K,hK⟩:∃K,K=6485:=⟨_,Y⟩
 rw[←hK]at h
 have hX5:(m+1)*(K+K+1)≤6*(K+K+1):=Nat.mul_le_mul_right _ (by omega)
 have hX:m*(K+K+1)+(K+K+1)≤6*(K+K+1):=by rw[←Nat.succ_mul];exact hX5
 have tB:=Ze (n:=n) (m:=m) (p:=p) (O:=O) (F:=G) (b:=c) (by omega)
 have iB:=LZ (bq m c) (by rw[mY];omega)
 have tR:=akT h (by omega)
 have iR:=aej (r:=m) (w:=n+m) (F:=G) (λi hi k _=>h.f i hi k) h.l1 (by omega) (by omega) (by omega)
 have tH:=SB h (by omega)
 have iH:=(NU (L:=K) (n:=m) (f:=λi=>G i (n+m)) (λi hi=>h.f i hi _) h.l1).ris (by omega) (by rw[bY];omega)
 have tC:=ahq h (by omega)
 have eC:=ahx (bd:=bd) ro (by decide) hp hm h (by omega) eR
 have iC:=aej (r:=n+m) (w:=p+n) (F:=r8 n m p O G c) (L:=80000000) (λi hi k _=>((LW h (by omega) hi).2.fq k).mono (by omega)) (by decide) (by decide) (by omega) (by omega)
 have tV:=NW h (by omega)
 have eV:=abU ro (by decide) hp h (by omega) eH
 have iV:=(BJ h (g:=λj=>G j (n+m)) (λj hj=>h.f j hj _) (Nat.le_refl m)).ris (by omega) (by rw[bY];omega)
 have tS:=LX h (by omega)
 have eS:=Vk h eH
 have ryS:ek K (vq n (rS n m G c m)) (rS n m G c m):=qo (λi _=>TZ h m (Nat.le_refl m) i) (λi hi=>Qw m i hi) (by omega)
 have iS:=ryS.ris (by omega) (by rw[bY];omega)
 have tF:=LY h (by omega)
 have eF:=Vl h (by omega) eH
 have tO:=JP h (by omega)
 have eO:=Zw h (by omega) eC
 unfold w9
 exact bW<|aA (a:=false) (bG Y<|aA tB<|aA iB<|aA Y Y)<|aA (a:=false) (bG Y<|aA tR<|aA eR<|aA iR<|aA Y Y)<|aA (a:=false) (bG Y<|aA tH<|aA eH<|aA iH<|aA Y Y)<|aA (a:=false) (bG Y<|aA tC<|aA eC<|aA iC<|aA Y Y)<|bG Y<|bW<|aA tV<|aA eV<|aA iV<|aA (a:=true) (bO Y<|aA tS<|aA eS<|aA iS Y)<|aA (a:=true) (bO Y<|aA tF<|aA eF<|aA (congrArg some (beq_self_eq_true _)) Y)<|aA (a:=true) (bO Y<|aA tO<|aA eO<|aA (congrArg some (beq_self_eq_true _)) Y) Y
end same
end
section
open Go.Fw
theorem QB{P:Nat→Prop}{k:Nat}(h:∃t,t<k∧P t):∃t,t<k∧P t∧∀s,s<t→¬P s:=by
 obtain⟨t,ht,hp⟩:=h
 induction t using Nat.strongRecOn with
 |_ t ih=>
  by_cases q:∃s,s<t∧P s
  ·obtain⟨s,hs,ps⟩:=q
   exact ih s hs (by omega) ps
  ·exact⟨t,ht,hp,λs hs ps=>q ⟨s,hs,ps⟩⟩
def Pre(w:Nat)(l:List Int)(k:Nat):Prop:=∀i x,i<k→l[i]? =some x→0≤x∧x<(w:Int)∧∀j,j<i→l[j]? ≠some x
noncomputable instance(w:Nat)(l:List Int)(k:Nat):Decidable (Pre w l k):=Classical.propDecidable _
theorem Pre.step{w k:Nat}{l:List Int}{x:Int}(h:Pre w l k)(hx:l[k]? =some x)(h0:0≤x)(h1:x<(w:Int))(hd:∀j,j<k→l[j]? ≠some x):Pre w l (k+1):=λi y hi hy=>by
 by_cases e:i=k
 ·subst e
  rw[hx]at hy
  obtain rfl:=Option.some.inj hy
  exact⟨h0,h1,hd⟩
 ·exact h i y (by omega) hy
theorem QC{n m:Nat}{ob rw:List (List Qr)}{bd:List Qr}{l:List Int}(hn:n≤64)(hm:rw.length=m)(hmm:m≤128)(hl:l.length≤1000):
  jb ⟨(n:Int),ob,rw,bd⟩ l=some (decide (Pre (n+m) l l.length∧l.length=m)):=by
 have hw:IntKind.i64.wrap ((n:Int)+(rw.length:Int))=((n+m:Nat):Int):=by rw[hm,cG (by omega) (by omega)];omega
 unfold jb
 refine fM (λy=>∃k:Nat,y=(k:Int)∧k≤l.length∧Pre (n+m) l k) (λe=>(e=.inl ()∧Pre (n+m) l l.length)∨(e=.inr false∧¬Pre (n+m) l l.length)) (λy=>l.length-y.toNat) ?_ ⟨0,Y,Nat.zero_le _,λi x hi=>by omega⟩ ?_
 ·rintro _ ⟨k,rfl,hk,pk⟩
  by_cases hlt:k<l.length
  ·obtain⟨x,hx⟩:∃x,l[k]? =some x:=⟨l[k],List.getElem?_eq_getElem hlt⟩
   by_cases h0:x<0
   ·right
    exact⟨.inr false,aA Y<|aA (dT (by omega))<|bO Y<|bW<|aA (bz hx)<|aA (dT h0)<|aA (a:=true) (bO Y Y)<|bO Y Y,.inr ⟨Y,λp=>by have:=(p k x hlt hx).1;omega⟩⟩
   by_cases h1:x<((n+m:Nat):Int)
   ·by_cases hd:∃t,t<k∧l[t]? =some x
    ·right
     obtain⟨t,ht,e1,e2⟩:=QB hd
     refine⟨.inr false,?_,.inr ⟨Y,λp=>(p k x hlt hx).2.2 t ht e1⟩⟩
     refine aA Y<|aA (dT (by omega))<|bO Y<|bW<|aA (bz hx)<|aA (dF h0)<|aA (a:=false) (bG Y<|aA (bz hx)<|aA Y<|aA (congrArg some hw)<|aA (dF (by omega)) Y)<|bG Y ?_
     refine bH (λj=>(j:Int)) t (.inr (.inr (.inr false))) Y (λj hj=>?_) (aA (dT (by omega))<|bO Y<|aA (bz hx)<|aA (bz e1)<|aA (dT Y)<|bO Y Y) Y
     obtain⟨y,hy⟩:∃y,l[j]? =some y:=⟨l[j]'(by omega),List.getElem?_eq_getElem (by omega)⟩
     exact aA (dT (by omega))<|bO Y<|aA (bz hx)<|aA (bz hy)<|aA (dF (λq=>e2 j hj (by rw[hy,q])))<|bG Y<|aA (congrArg some (bM (by omega))) Y
    ·left
     refine⟨((k+1:Nat):Int),?_,⟨k+1,Y,hlt,pk.step hx (by omega) h1 (λj hj q=>hd ⟨j,hj,q⟩)⟩,by simp only[Int.toNat_natCast];omega⟩
     refine aA Y<|aA (dT (by omega))<|bO Y<|bW<|aA (bz hx)<|aA (dF h0)<|aA (a:=false) (bG Y<|aA (bz hx)<|aA Y<|aA (congrArg some hw)<|aA (dF (by omega)) Y)<|bG Y ?_
     refine bH (λj=>(j:Int)) k (.inl ()) Y (λj hj=>?_) (aA (dF (by omega))<|bG Y Y) (aA (congrArg some (bM (by omega))) Y)
     obtain⟨y,hy⟩:∃y,l[j]? =some y:=⟨l[j]'(by omega),List.getElem?_eq_getElem (by omega)⟩
     exact aA (dT (by omega))<|bO Y<|aA (bz hx)<|aA (bz hy)<|aA (dF (λq=>hd ⟨j,hj,by rw[hy,q]⟩))<|bG Y<|aA (congrArg some (bM (by omega))) Y
   ·right
    exact⟨.inr false,aA Y<|aA (dT (by omega))<|bO Y<|bW<|aA (bz hx)<|aA (dF h0)<|aA (a:=true) (bG Y<|aA (bz hx)<|aA Y<|aA (congrArg some hw)<|aA (dT (by omega)) Y)<|bO Y Y,.inr ⟨Y,λp=>h1 (p k x hlt hx).2.1⟩⟩
  ·right
   obtain rfl:k=l.length:=by omega
   exact⟨.inl (),aA Y<|aA (dF (by omega))<|bG Y Y,.inl ⟨Y,pk⟩⟩
 ·rintro _ (⟨rfl,p⟩|⟨rfl,p⟩)
  ·refine aA Y<|aA (congrArg some (show(rw.length:Int)=(m:Int) by rw[hm]))<|aA (congrArg some (decide_eq_decide.2 ?_)) Y
   exact⟨λq=>⟨p,by omega⟩,λq=>by omega⟩
  ·rw[decide_eq_false (λq=>p q.1)]
theorem SF{n:Int}{ob rw:List (List Qr)}{bd:List Qr}{l:List Int}(h1:ob.length≤9223372036854775806)(h2:rw.length≤9223372036854775806)(hl:l.length≤1000)(h:¬(J6 n ob rw bd∧Pre (n.toNat+rw.length) l l.length∧l.length=rw.length)):
  me ⟨n,ob,rw,bd⟩ l=some ():=by
 have v:=BI (n:=n) (ob:=ob) (rw:=rw) (bd:=bd) h1 h2
 unfold me
 by_cases hv:J6 n ob rw bd
 ·rw[decide_eq_true hv]at v
  obtain⟨v1,v2,v3,v4,v5,v6,v7,v8⟩:=id hv
  by_cases e:l.length=rw.length
  ·have np:¬Pre (n.toNat+rw.length) l l.length:=λp=>h ⟨hv,p,e⟩
   obtain⟨n,rfl⟩:∃k:Nat,n=(k:Int):=⟨n.toNat,by omega⟩
   obtain⟨m,hm⟩:∃m,rw.length=m:=⟨_,Y⟩
   rw[Int.toNat_natCast,hm]at np
   rw[hm]at e
   have hw:IntKind.i64.wrap ((n:Int)+(rw.length:Int))=((n+m:Nat):Int):=by rw[hm,cG (by omega) (by omega)];omega
   refine bW<|aA v<|aA Y<|aA (a:=false) (bG Y<|aA Y<|aA Y<|aA (dF (by omega)) Y)<|bG Y<|aA Y<|aA (congrArg some hw)<|aA (sS (by decide) (by omega))<|aA Y ?_
   refine fM (λs=>∃(k:Nat) (u:List Bool),s=((k:Int),u)∧k≤l.length∧u.length=n+m∧Pre (n+m) l k∧∀t:Nat,u[t]? =some false→∀j,j<k→l[j]? ≠some (t:Int)) (λe=>e=.inr ()) (λs=>l.length-s.1.toNat) ?_ ⟨0,_,rfl,Nat.zero_le _,by simp,λi x hi=>by omega,λt _ j hj=>by omega⟩ (by rintro _ rfl;rfl)
   rintro _ ⟨k,u,rfl,hk,hul,pk,hut⟩
   by_cases hlt:k<l.length
   ·obtain⟨x,hx⟩:∃x,l[k]? =some x:=⟨l[k],List.getElem?_eq_getElem hlt⟩
    by_cases h0:x<0
    ·right
     exact⟨.inr (),aA (dT (by omega))<|bO Y<|aA (bz hx)<|bW<|aA (dT h0)<|aA (a:=true) (bO Y Y)<|aA (a:=true) (bO Y Y)<|bO Y Y,Y⟩
    by_cases h1:x<((n+m:Nat):Int)
    ·obtain⟨t,rfl⟩:∃t:Nat,x=(t:Int):=⟨x.toNat,by omega⟩
     obtain⟨w,hw⟩:∃w,u[t]? =some w:=⟨u[t]'(by omega),List.getElem?_eq_getElem (by omega)⟩
     cases w
     ·left
      refine⟨(((k+1:Nat):Int),u.set t true),?_,⟨k+1,_,Y,hlt,by rw[List.length_set];exact hul,pk.step hx (by omega) h1 (hut t hw),λs hs j hj q=>?_⟩,by simp only[Int.toNat_natCast];omega⟩
      ·exact aA (dT (by omega))<|bO Y<|aA (bz hx)<|bW<|aA (dF (by omega))<|aA (a:=false) (bG Y<|aA Y<|aA (dF (by omega)) Y)<|aA (a:=false) (bG Y<|aA (b9 (by omega))<|aA hw Y)<|bG Y<|aA (b9 (by omega))<|aA (dS (by omega))<|aA (congrArg some (bM (by omega))) Y
      ·rw[List.getElem?_set]at hs
       by_cases e:t=s
       ·subst e
        rw[if_pos Y,if_pos (by omega)]at hs
        cases hs
       ·rw[if_neg e]at hs
        by_cases e2:j=k
        ·subst e2
         rw[hx]at q
         have:=Option.some.inj q
         omega
        ·exact hut s hs j (by omega) q
     ·right
      exact⟨.inr (),aA (dT (by omega))<|bO Y<|aA (bz hx)<|bW<|aA (dF (by omega))<|aA (a:=false) (bG Y<|aA Y<|aA (dF (by omega)) Y)<|aA (a:=true) (bG Y<|aA (b9 (by omega))<|aA hw Y)<|bO Y Y,Y⟩
    ·right
     exact⟨.inr (),aA (dT (by omega))<|bO Y<|aA (bz hx)<|bW<|aA (dF h0)<|aA (a:=true) (bG Y<|aA Y<|aA (dT (by omega)) Y)<|aA (a:=true) (bO Y Y)<|bO Y Y,Y⟩
   ·obtain rfl:k=l.length:=by omega
    exact absurd pk np
  ·exact bW<|aA v<|aA Y<|aA (a:=true) (bG Y<|aA Y<|aA Y<|aA (dT (by omega)) Y)<|bO Y Y
 ·rw[decide_eq_false hv]at v
  exact bW<|aA v<|aA Y<|aA (a:=true) (bO Y Y)<|bO Y Y
end
section
open Go.Fw
section none_
variable {n:Nat}{ob rw:List (List Qr)}{bd:List Qr}{O R:Nat→Nat→Rat}{g:Nat→Rat}{c:Nat→Nat}
theorem SG{m p:Nat}(hm:rw.length=m)(hp:ob.length=p)(ro:jk 6 ob O)(rr:jk 6 rw R)(rb:ek 6 bd g)(hv:J6 (n:Int) ob rw bd)(hm5:m≤5)(nN:∀i,i<m→c i<n+m)(hinj:∀i j,i<m→j<m→c i=c j→i=j)
  (Qy:¬L3 m m m (λi s=>pL n m R g i (c s))):mh ⟨(n:Int),ob,rw,bd⟩ (bq m c)=some ():=by
 have v:=BI (n:=(n:Int)) (ob:=ob) (rw:=rw) (bd:=bd) (by obtain⟨_,_,_,h,_⟩:=hv;omega) (by omega)
 rw[decide_eq_true hv]at v
 have eN:=ahk (n:=n) ro rr rb (by decide) (by decide) (by decide) hv
 have k0:=HK (n:=n) ro rr rb (by decide) hv
 have hn:=k0.hn
 rw[hm,hp]at k0 eN
 have u0:Uc m (pL n m R g) (λj=>n+j):=FU
 generalize pL n m R g=F0 at*
 have bl:=mY m c
 have bg:∀j,j<m→(bq m c)[j]? =some ((c j:Nat):Int):=λj hj=>o9 hj
 unfold mh
 refine bW<|aA v<|aA Y<|aA (a:=false) (bG Y<|aA Y<|aA Y<|aA (dF (by omega)) Y)<|bG Y<|aA Y<|aA (congrArg some (show IntKind.i64.wrap ((n:Int)+(rw.length:Int))=((n+m:Nat):Int) by rw[cG (by omega) (by omega)];omega))<|aA (sS (by decide) (by omega))<|aA (congrArg some (show((bq m c).length:Int)=(m:Int) by rw[bl])) ?_
 refine fM (λs=>∃(k:Nat) (u:List Bool),s=((k:Int),u)∧k≤m∧u.length=n+m∧∀l,u[l]? =some true→∃s,s<k∧c s=l) (λe=>e=.inl ()) (λs=>m-s.1.toNat) ?_ ⟨0,_,Y,Nat.zero_le _,by simp,λl hl=>by
  rw[List.getElem?_replicate]at hl
  split at hl
  ·cases hl
  ·cases hl⟩ ?_
 ·rintro _ ⟨k,u,rfl,hk,hul,hut⟩
  by_cases hlt:k<m
  ·left
   have hck:=nN k hlt
   obtain⟨w,hw⟩:∃w,u[c k]? =some w:=⟨u[c k]'(by omega),List.getElem?_eq_getElem (by omega)⟩
   have hw2:w=false:=by
    cases w
    ·rfl
    ·obtain⟨s,hs,es⟩:=hut _ hw
     have:=hinj s k (by omega) hlt es
     omega
   subst hw2
   refine⟨(((k+1:Nat):Int),u.set (c k) true),?_,⟨k+1,_,Y,hlt,by rw[List.length_set];exact hul,λl hl=>?_⟩,by simp only[Int.toNat_natCast];omega⟩
   ·exact aA (dT (by omega))<|bO Y<|aA (bz (bg k hlt))<|bW<|aA (dF (by omega))<|aA (a:=false) (bG Y<|aA Y<|aA (dF (by omega)) Y)<|aA (a:=false) (bG Y<|aA (b9 (by omega))<|aA hw Y)<|bG Y<|aA (b9 (by omega))<|aA (dS (by omega))<|aA (congrArg some (bM (by omega))) Y
   ·rw[List.getElem?_set]at hl
    by_cases e:c k=l
    ·exact⟨k,by omega,e⟩
    ·rw[if_neg e]at hl
     obtain⟨s,hs,es⟩:=hut l hl
     exact⟨s,by omega,es⟩
  ·right
   exact⟨_,aA (dF (by omega))<|bG Y Y,Y⟩
 rintro _ rfl
 refine aA eN<|aA (congrArg some (show((bq m c).length:Int)=(m:Int) by rw[bl])) ?_
 refine fM (λs=>∃(k:Nat) (H:Nat→Nat→Rat) (d:Nat→Nat),s=((k:Int),mq p (λ_=>n) O,bq m (λj=>n+j),mq m (λ_=>n+m+1) H)∧k≤m∧vv (Vu k) n m p O H d∧Uc m H d∧(∀z,CJ n m F0 z↔CJ n m H z)∧∀s,s<k→d s=c s) (λe=>e=.inr ()) (λs=>m-s.1.toNat) ?_ ⟨0,F0,λj=>n+j,rfl,Nat.zero_le _,(show vv (Vu 0) n m p O F0 (λj=>n+j)from k0),u0,λ_=>Iff.rfl,λs hs=>by omega⟩ (by rintro _ rfl;rfl)
 rintro _ ⟨k,H,d,rfl,hk,ht,hd,hs,hdc⟩
 by_cases hlt:k<m
 ·have szk:Vu k≤100000000:=aee k (by omega)
  have hck:=nN k hlt
  have QF:=cM m (λ_=>n+m+1) H
  have g1:∀t,t<m→(mq m (λ_=>n+m+1) H)[t]? =some (vq (n+m+1) (H t)):=λt h=>fu h
  have g2:∀t,t<m→(vq (n+m+1) (H t))[c k]? =some (qn (H t (c k))):=λt h=>iM (by omega)
  have sg:∀t,t<m→fg (qn (H t (c k)))=some (oV (H t (c k)) 0):=λt h=>((ht.f t h (c k)).rep ht.l1).sign (by omega)
  by_cases ex:∃q,k≤q∧q<m∧H q (c k)≠0
  ·left
   obtain⟨t,ht1,ht2,ht3⟩:=QB (P:=λt=>H (k+t) (c k)≠0) (k:=m-k) (by obtain⟨q,h1,h2,h3⟩:=ex;exact⟨q-k,by omega,by rw[show k+(q-k)=q by omega];exact h3⟩)
   obtain⟨q,hq⟩:∃q,q=k+t:=⟨_,Y⟩
   have Vi:q<m:=by omega
   have hq0:H q (c k)≠0:=by rw[hq];exact ht2
   have hz0:∀s,s<q-k→H (k+s) (c k)=0:=λs h=>Classical.byContradiction (λw=>ht3 s (by omega) w)
   have s1:=ht.sw hlt Vi
   have h0:(λr=>H (sp k q r)) k (c k)≠0:=by
    show H (sp k q k) (c k)≠0
    unfold sp;rw[if_pos rfl];exact hq0
   have sv:=SC s1 szk hlt (show c k<n+m+1 by omega) h0 (o0:=true) (o1:=(n:Int)) (o2:=mq p (λ_=>n) O) (o3:=bq m (λj=>n+j))
   rw[←Zl hlt Vi]at sv
   have gq:=g1 q Vi
   have gk:=g1 k hlt
   refine⟨(((k+1:Nat):Int),mq p (λ_=>n) O,bq m (λj=>n+j),mq m (λ_=>n+m+1) (jM (λr=>H (sp k q r)) k (c k))),?_,⟨k+1,_,_,Y,hlt,JQ s1 hlt hck h0,JR hlt h0 (Zm hd hlt Vi),λz=>((hs z).trans (SD hlt Vi).symm).trans (NX hlt h0).symm,λs hs'=>?_⟩,by simp only[Int.toNat_natCast];omega⟩
   ·generalize mq m (λ_=>n+m+1) (jM (λr=>H (sp k q r)) k (c k))=akS at*
    generalize mq m (λ_=>n+m+1) H=rows at*
    refine aA (dT (by omega))<|bO Y<|aA (bz (bg k hlt)) ?_
    refine bH (λs=>((k+s:Nat):Int)) (q-k) ((q:Nat):Int) Y (λs hs'=>?_) ?_ ?_
    ·have e:=g2 (k+s) (by omega)
     have e2:=sg (k+s) (by omega)
     have e3:=hz0 s hs'
     rw[e3,FO]at e2
     rw[e3]at e
     generalize qn 0=w at*
     obtain⟨⟨_,_⟩,⟨_,_⟩⟩:=w
     exact bW<|aA Y<|aA (dT (by omega))<|aA (a:=true) (bO Y<|aA (b9 (by omega))<|aA (g1 (k+s) (by omega))<|aA (bz e)<|aA e2 Y)<|bO Y<|aA (congrArg some (bM (by omega))) Y
    ·rw[show k+(q-k)=q by omega]
     have e:=g2 q Vi
     have e2:=sg q Vi
     have e3:oV (H q (c k)) 0≠0:=λw=>hq0 (oW.1 w)
     generalize qn (H q (c k))=w at*
     obtain⟨⟨_,_⟩,⟨_,_⟩⟩:=w
     exact bW<|aA Y<|aA (dT (by omega))<|aA (a:=false) (bO Y<|aA (b9 (by omega))<|aA gq<|aA (bz e)<|aA e2<|aA (dF e3) Y)<|bG Y Y
    ·exact aA Y<|aA (dF (by omega))<|bG Y<|aA (b9 (by omega))<|aA gq<|aA (b9 (by omega))<|aA gk<|aA (b9 (by omega))<|aA (dS (by omega))<|aA (b9 (by rw[List.length_set];omega))<|aA (dS (by rw[List.length_set];omega))<|aA sv<|aA (congrArg some (bM (by omega))) Y
   ·show(if s=k then c k else d (sp k q s))=c s
    by_cases e:s=k
    ·rw[if_pos e,e]
    ·rw[if_neg e]
     unfold sp
     rw[if_neg e,if_neg (by omega)]
     exact hdc s (by omega)
  ·right
   have hz0:∀s,s<m-k→H (k+s) (c k)=0:=λs h=>Classical.byContradiction (λw=>ex ⟨k+s,by omega,by omega,w⟩)
   refine⟨.inr (),?_,Y⟩
   generalize mq m (λ_=>n+m+1) H=rows at*
   refine aA (dT (by omega))<|bO Y<|aA (bz (bg k hlt)) ?_
   refine bH (λs=>((k+s:Nat):Int)) (m-k) ((m:Nat):Int) Y (λs hs'=>?_) ?_ (aA Y<|aA (dT (by omega))<|bO Y Y)
   ·have e:=g2 (k+s) (by omega)
    have e2:=sg (k+s) (by omega)
    have e3:=hz0 s hs'
    rw[e3,FO]at e2
    rw[e3]at e
    generalize qn 0=w at*
    obtain⟨⟨_,_⟩,⟨_,_⟩⟩:=w
    exact bW<|aA Y<|aA (dT (by omega))<|aA (a:=true) (bO Y<|aA (b9 (by omega))<|aA (g1 (k+s) (by omega))<|aA (bz e)<|aA e2 Y)<|bO Y<|aA (congrArg some (bM (by omega))) Y
   ·rw[show k+(m-k)=m by omega]
    exact bW<|aA Y<|aA (dF (by omega))<|aA (a:=false) (bG Y Y)<|bG Y Y
 ·obtain rfl:k=m:=by omega
  exact absurd (Zu nN (λi j hi hj=>by rw[←hdc j hj];exact hd i j hi hj) hs) Qy
end none_
end
section
open Go.Fw
theorem JU(q:Lr)(l:List Int)(op:OkL q)(_ol:OkI l)(hs:szL q+szI l≤1048576):iw q l=some true:=by
 obtain⟨n,ob,rw,bd⟩:=q
 obtain⟨on,oo,or_,ob_⟩:=op
 replace oo:OkM ob:=oo
 replace or_:OkM rw:=or_
 replace ob_:OkV bd:=ob_
 have z1:=TY ob
 have z2:=TY rw
 have z3:=abO bd
 replace hs:1+szM ob+szM rw+szV bd+1+szI l≤1048576:=hs
 obtain⟨b1,e1,s1⟩:=Zk (n:=n) (ob:=ob) (rw:=rw) (bd:=bd) (by omega) (by omega) (by omega)
 have v:=BI (n:=n) (ob:=ob) (rw:=rw) (bd:=bd) (by omega) (by omega)
 have my:=Zj (n:=n) (ob:=ob) (rw:=rw) (bd:=bd) (by omega) (by omega)
 unfold iw
 by_cases hc:b1=true∨8<l.length
 ·have:jE ⟨n,ob,rw,bd⟩ l=some true:=by
   unfold jE
   refine bW<|aA e1<|aA (a:=true) ?_<|bO Y al7
   cases b1
   ·exact bG Y<|aA Y<|aA (dT (by have:=hc.resolve_left (by decide);omega)) Y
   ·exact bO Y Y
  rw[if_pos this]
 have E8:b1=false:=by
  cases b1
  ·rfl
  ·exact absurd (.inl Y) hc
 have Ko:l.length≤8:=by omega
 subst E8
 have ap:nC 8 [] l=some l:=Yx (by decide) (by simp only[List.length_nil];omega)
 obtain⟨s6,s7⟩:=s1 Y
 by_cases hA:J6 n ob rw bd∧Pre (n.toNat+rw.length) l l.length∧l.length=rw.length
 ·obtain⟨hv,pr,hlen⟩:=hA
  rw[decide_eq_true hv]at my
  obtain⟨hr5,hn6⟩:=s7 hv
  obtain⟨v1,v2,v3,v4,v5,v6,v7,v8⟩:=id hv
  obtain⟨n,rfl⟩:∃k:Nat,n=(k:Int):=⟨n.toNat,by omega⟩
  rw[Int.toNat_natCast]at pr
  have ro:=aed oo s6.so
  have rr:=aed or_ s6.sr
  have hbd:bd.take (min bd.length 20)=bd:=by rw[show min bd.length 20=bd.length by omega,List.take_length]
  have sb:=s6.sb
  rw[hbd]at sb
  have rb:=akR ob_ sb
  generalize Sy ob=O at ro
  generalize Sy rw=R at rr
  generalize NN bd=g at rb
  have k0:=HK (n:=n) ro rr rb (by decide) hv
  obtain⟨m,hm⟩:∃m,rw.length=m:=⟨_,Y⟩
  obtain⟨p,hp⟩:∃p,ob.length=p:=⟨_,Y⟩
  have co:=QC (n:=n) (ob:=ob) (bd:=bd) (l:=l) (by omega) hm (by omega) (by omega)
  rw[hm]at pr hlen
  rw[decide_eq_true ⟨pr,hlen⟩]at co
  rw[hm,hp]at k0
  have m5:m≤5:=by omega
  have n6:n≤6:=by omega
  obtain⟨c,hcd⟩:∃c:Nat→Nat,c=λi=>(l.getD i 0).toNat:=⟨_,Y⟩
  have lc:∀i,i<m→l[i]? =some ((c i:Nat):Int):=λi hi=>by
   have g:l[i]? =some (l.getD i 0):=by rw[List.getD_eq_getElem?_getD,List.getElem?_eq_getElem (show i<l.length by omega)];rfl
   have:=(pr i _ (by omega) g).1
   rw[g,hcd]
   show some (l.getD i 0)=some (((l.getD i 0).toNat:Nat):Int)
   rw[Int.toNat_of_nonneg this]
  have nN:∀i,i<m→c i<n+m:=λi hi=>by
   have:=(pr i _ (by omega) (lc i hi)).2.1
   omega
  have hinj:∀i j,i<m→j<m→c i=c j→i=j:=λi j hi hj e=>by
   by_cases q:i=j
   ·exact q
   ·exfalso
    by_cases q2:j<i
    ·exact(pr i _ (by omega) (lc i hi)).2.2 j q2 (by rw[lc j hj,e])
    ·exact(pr j _ (by omega) (lc j hj)).2.2 i (by omega) (by rw[lc i hi,e])
  have hlq:l=bq m c:=by
   apply List.ext_getElem?
   intro i
   by_cases hi:i<m
   ·rw[lc i hi,o9 hi]
   ·rw[List.getElem?_eq_none (by omega),List.getElem?_eq_none (by rw[mY];omega)]
  clear hcd
  rw[hlq]at co ap Ko⊢
  by_cases ind:L3 m m m (λi s=>pL n m R g i (c s))
  ·obtain⟨H,d,h1,h2,h3,h4⟩:=QA (c:=c) k0 FU nN ind m (Nat.le_refl _)
   obtain⟨G,f1,g1,u1,w1⟩:=Vh (F:=H) (b:=d) (c:=c) hm hp ro rr rb hv m5 nN hinj h2 (λz=>(h3 z).symm) (λi hi=>⟨i,hi,h4 i hi⟩)
   have hsG:∀z,CJ n m (pL n m R g) z↔CJ n m G z:=λz=>(h3 z).trans (w1 z)
   obtain⟨i1,i2,i3⟩:=ak0 (ob':=ob) rr rb hm (by omega) m5 (by omega) nN u1 hsG
   have i4:=is7 ro hp hm m5 g1 i2 i3
   have:jE ⟨(n:Int),ob,rw,bd⟩ (bq m c)=some true:=by
    unfold jE
    exact bW<|aA e1<|aA (a:=false) (bG Y<|aA Y<|aA (dF (by omega)) Y)<|bG Y<|aA ap<|aA f1<|bW<|aA my<|aA Y<|aA (a:=false) (bG Y<|aA co<|aA Y Y)<|bG Y<|aA i1<|aA Y<|bG Y<|bW<|aA (a:=true) (bO Y<|aA i4 Y)<|aA (a:=true) (bO Y al7) Y
   rw[if_pos this]
  ·have f1:=SG (c:=c) hm hp ro rr rb hv m5 nN hinj ind
   have i1:=art (bd:=bd) ob rr hm m5 (by omega) nN ind
   have:uA ⟨(n:Int),ob,rw,bd⟩ (bq m c)=some true:=by
    unfold uA
    exact bW<|aA e1<|aA (a:=false) (bG Y<|aA Y<|aA (dF (by omega)) Y)<|bG Y<|aA ap<|aA f1<|bW<|aA my<|aA Y<|aA (a:=false) (bG Y<|aA co<|aA Y Y)<|bG Y<|aA i1<|aA Y<|bO Y al7
   by_cases q:jE ⟨(n:Int),ob,rw,bd⟩ (bq m c)=some true
   ·rw[if_pos q]
   ·rw[if_neg q,this]
    by_cases q2:ou ⟨(n:Int),ob,rw,bd⟩ (bq m c)=some true
    ·rw[if_pos q2]
    ·rw[if_neg q2]
 ·have f1:=SF (n:=n) (ob:=ob) (rw:=rw) (bd:=bd) (l:=l) (by omega) (by omega) (by omega) hA
  have:ou ⟨n,ob,rw,bd⟩ l=some true:=by
   unfold ou
   refine bW<|aA e1<|aA (a:=false) (bG Y<|aA Y<|aA (dF (by omega)) Y)<|bG Y<|aA ap<|aA f1<|bW<|aA my<|aA Y<|aA (a:=true) ?_<|bO Y al7
   by_cases hv:J6 n ob rw bd
   ·obtain⟨v1,v2,v3,v4,v5,v6,v7,v8⟩:=id hv
    obtain⟨n,rfl⟩:∃k:Nat,n=(k:Int):=⟨n.toNat,by omega⟩
    have co:=QC (n:=n) (m:=rw.length) (ob:=ob) (bd:=bd) (l:=l) (by omega) Y (by omega) (by omega)
    rw[decide_eq_false (λq=>hA ⟨hv,q.1,q.2⟩)]at co
    rw[decide_eq_true hv]
    exact bG Y<|aA co<|aA Y Y
   ·rw[decide_eq_false hv]
    exact bO Y Y
  by_cases q:jE ⟨n,ob,rw,bd⟩ l=some true
  ·rw[if_pos q]
  ·rw[if_neg q,if_pos this]
end
section
open Go.Fw Go.RowKit Go.ChangeShapes Go.WideShapes Go.ChangeAt
set_option linter.unusedVariables false
set_option maxRecDepth 100000 in
theorem uE(H:Type)(enc:TypeId×Value→H)(W:World)(base:Nat)(args:Array Value)(ds gs:List (DataW H))(before:List MemPlace)
  (hval:∀(j:Nat) t v,Tryz.f5.params[j]? =some t→args[j]? =some v→Value.okWide af W .any base t v)
  (hW:DataW.Whole enc af Tryz.f5.params.toList Rows.tableauAtMatchesSpec.vars false W args.toList ds gs before) (hk:Rows.uptoSmall H (ds++gs)=true):
  Calls af 5 args W λe W'=>∃v,e=.returned v∧Rows.tableauAtMatchesSpec.post enc af Tryz.f5 false true false false W args v W':=by
 have hW':=hW
 obtain⟨p,q,hA0,hV,rfl,hfz,hnd⟩:=hW
 have hA:DataW.TrodAll enc af W 0 (λ_=>true) true Tryz.f5.params.toList args.toList ds p:=hA0
 rw[Tryz.params5]at hA hval
 obtain⟨v0,Zz,d0,ds0,p0,q0,hargs,rfl,rfl,h0,r0⟩:=trodAll_cons hA
 obtain⟨v1,vs1,d1,ds1,p1,q1,rfl,rfl,rfl,h1,r1⟩:=trodAll_cons r0
 obtain⟨rfl,rfl,rfl⟩:=trodAll_nil r1
 obtain rfl:args=#[v0,v1]:=by cases args;simp_all
 obtain⟨rfl,rfl⟩:=trodVars_none hV
 have lt0:∀x∈p0,x.block<W.heap.size:=by obtain⟨m,hm⟩:=h0;exact DataW.trod_lt m _ _ _ hm
 obtain⟨x0,ok0,sz0,al0⟩:=aah (P:=af) (T:=25) (e:=K0) (hval 0 25 v0 Y Y) h0
 have lt1:∀x∈p1,x.block<W.heap.size:=by obtain⟨m,hm⟩:=h1;exact DataW.trod_lt m _ _ _ hm
 obtain⟨x1,ok1,sz1,al1⟩:=aag (P:=af) (T:=45) (e:=(eS 1 bD)) (hval 1 45 v1 Y Y) h1
 have hsz:Rows.uptoBulk d0+Rows.uptoBulk d1≤1048576:=by
  have:=of_decide_eq_true hk;simp only[List.cons_append,List.nil_append,List.append_nil,Rows.uptoBulkAll]at this;omega
 clear hA0
 refine(aai (xx (JU x0 x1 ok0 ok1 (Nat.le_trans (Nat.add_le_add sz0 sz1) hsz))) (W:=W) (vs:=[v0,v1]) ⟨al0,al1.1,ak⟩).mono λe W' ⟨he,bel⟩=>?_
 subst he
 exact⟨_,rfl,_,_,_,[],_,[],hW',trodAll_mk1 (shut_bool Tryz.underlying4 _),(trodAll_cons_mk (Below.trod OB (by kernel_rfl) (of_decide_eq_true (by kernel_rfl)) h0 bel lt0) (trodAll_cons_mk (Below.trod OB (by kernel_rfl) (of_decide_eq_true (by kernel_rfl)) h1 bel lt1) trodAll_mk0)),rfl,bel.frame _,λh=>by cases h⟩
set_option maxRecDepth 100000 in
theorem vV(os:Os)(started:os.Started)(H:Type)(enc:TypeId×Value→H)(F:Stop.Interp):
  ReturnsInHanded {} Tryz.checked os 5 .any ((Rows.OpenSpec.upto Rows.tableauAtMatchesSpec).pre6 enc af Tryz.f5 Rows.tableauAtMatchesUptoRow.domain false) (((Rows.OpenSpec.upto Rows.tableauAtMatchesSpec).at F).post enc af Tryz.f5 false true false false):=by
 refine returnsInHanded_of_cond (C:=Tryz.checked) (s:=Rows.OpenSpec.upto Rows.tableauAtMatchesSpec) (k:=Rows.uptoSmall) Y amB started (by kernel_rfl) Tryz.func5
  (OpenSpec.witness (enc:=enc) (C:=Tryz.checked) (s:=Rows.OpenSpec.upto Rows.tableauAtMatchesSpec) (k:=Rows.uptoSmall) Y false ⟨#[],#[.agg #[.int .i64 0,.slice none 0 0,.slice none 0 0,.slice none 0 0],.slice none 0 0],[]⟩ 8 (by kernel_rfl) (by kernel_rfl) (by kernel_rfl)
   (x:=([.agg [.lit (.int .i64 0),.nil,.nil,.nil],.nil],[],[])) (by kernel_rfl) Y (by kernel_rfl)) ?_
 intro W base args ds gs before hval hW _ hk _
 exact uE H enc W base args ds gs before hval hW hk
theorem tableauAtMatchesUpto_holds:Rows.TableauAtMatchesUptoSaid:=
 OpenClaim.holds_of_cond 5 Tryz.f5 Y Y Y Y Y Y Y ⟨Y,Y,Y,Y,Y⟩ Y Y Y Y Y (by kernel_rfl) Tryz.func5 (by kernel_rfl)
  (of_decide_eq_true (by kernel_rfl)) (by unfold Func.isWrapper;first|(rw[if_pos (by decide+kernel)];kernel_rfl)|(rw[if_neg (by decide+kernel)];exact⟨Y,Y⟩))
  (λos started H enc _ F=>vV os started H enc F)
end
end Go.Proofs.YtningmnklfpfjaaGreat
