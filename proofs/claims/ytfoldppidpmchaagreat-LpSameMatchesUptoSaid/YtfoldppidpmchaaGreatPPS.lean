/- The law LpSameMatches answers true for every input, up to the size that the statement names. -/
import Derived.Test.YtfoldppidpmchaaGreatPPS4
set_option linter.unusedVariables false
set_option linter.unusedSimpArgs false
namespace Go.Proofs.YtfoldppidpmchaaGreat
section
open Go.Fw
theorem Df{α:Type}{b:Bool}{x y r:α}(ht:b=true→x=r)(hf:b=false→y=r):(bif b then x else y)=r:=by
 cases b
 ·rw[fM];exact hf Y
 ·rw[eY];exact ht Y
theorem yJ{E:Type}{body:Int→Option (Int⊕(Unit⊕E))}{n:Nat}{p:Nat→Prop}[DecidablePred p]{e:E}(h:∀k:Nat,k<n→body (k:Int)=some (if p k then .inl ((k+1:Nat):Int)else .inr (.inr e)))(hn:body (n:Int)=some (.inr (.inl ()))):
  b9 body 0=some (if ∀k,k<n→p k then .inl ()else .inr e):=by
 obtain⟨r,h1,h2⟩:=xZ (body:=body) (s:=0) (λs=>∃k:Nat,s=(k:Int)∧k≤n∧∀i,i<k→p i) (λr=>(r=.inl ()∧∀k,k<n→p k)∨(r=.inr e∧¬∀k,k<n→p k)) (λs=>n-s.toNat) (by
  rintro _ ⟨k,rfl,hk,hp⟩
  by_cases hlt:k<n
  ·by_cases hpk:p k
   ·refine .inl ⟨_,by rw[h k hlt,if_pos hpk],⟨k+1,Y,hlt,λi hi=>?_⟩,by simp only[Int.toNat_natCast];omega⟩
    rcases Nat.lt_or_ge i k with q|q
    ·exact hp i q
    ·obtain rfl:i=k:=by omega
     exact hpk
   ·exact .inr ⟨_,by rw[h k hlt,if_neg hpk],.inr ⟨Y,λq=>hpk (q k hlt)⟩⟩
  ·obtain rfl:k=n:=by omega
   exact .inr ⟨_,hn,.inl ⟨Y,hp⟩⟩) ⟨0,Y,by omega,λi hi=>by omega⟩
 rw[h1]
 rcases h2 with⟨rfl,h2⟩|⟨rfl,h2⟩
 ·rw[if_pos h2]
 ·rw[if_neg h2]
def Qt(n:Nat)(f:Nat→Rat)(i:Nat):Rat:=if i<n then f i else 0
theorem Ka{n i:Nat}{f:Nat→Rat}(h:i<n):Qt n f i=f i:=if_pos h
theorem Qu{n i:Nat}{f:Nat→Rat}(h:n≤i):Qt n f i=0:=if_neg (by omega)
theorem Vc(n:Nat)(f:Nat→Rat):vq n f=vq n (Qt n f):=xL (λi hi=>(Ka hi).symm)
theorem Qv{L n:Nat}{f:Nat→Rat}(h:∀i,i<n→FQ L (f i))(h1:1≤L):dI L (vq n f) (Qt n f):=by
 rw[Vc]
 exact tW (λi hi=>by rw[Ka hi];exact h i hi) (λi hi=>Qu hi) h1
def BX(n:Int)(ob rw:List (List Qr))(bd:List Qr):Prop:=0≤n∧n≤64∧1≤ob.length∧ob.length≤4∧rw.length≤128∧bd.length=rw.length∧(nB ob:Int)≤n∧(nB rw:Int)≤n
instance(n:Int)(ob rw:List (List Qr))(bd:List Qr):Decidable (BX n ob rw bd):=by unfold BX;exact inferInstance
theorem tX{n:Int}{ob rw:List (List Qr)}{bd:List Qr}(h1:ob.length≤9223372036854775806)(h2:rw.length≤9223372036854775806):iI ⟨n,ob,rw,bd⟩=some (decide (BX n ob rw bd)):=by
 unfold iI gH
 refine az (az Y<|az Y<|az Y Y)<|cL<|az Y<|BR (λ_=>az Y Y)<|BR (λ_=>az Y Y)<|BR (λ_=>az Y Y)<|Df (λh=>?_) (λh=>cL<|az Y<|BR (λ_=>az Y Y)<|Df (λh'=>?_) (λh'=>cL<|az (SC ob h1)<|az Y<|N8 (λ_=>az (SC rw h2)<|az Y Y) ?_))
 ·congr 1;symm;rw[decide_eq_false_iff_not]
  simp only[Bool.or_eq_true,decide_eq_true_eq]at h
  unfold BX;omega
 ·congr 1;symm;rw[decide_eq_false_iff_not]
  simp only[Bool.or_eq_true,decide_eq_true_eq]at h'
  unfold BX;omega
 ·congr 1
  simp only[Bool.or_eq_false_iff,decide_eq_false_iff_not]at h h'
  rw[←Bool.decide_and,decide_eq_decide]
  unfold BX;omega
def Qw(n:Int)(ob rw:List (List Qr))(bd x:List Qr)(F:Nat→Nat→Rat)(g f:Nat→Rat)(N:Nat):Prop:=BX n ob rw bd∧(x.length:Int)≤n∧(∀i,i<x.length→0≤f i)∧∀i,i<rw.length→eN (λj=>F i j*f j) N≤g i
instance(n:Int)(ob rw:List (List Qr))(bd x:List Qr)(F:Nat→Nat→Rat)(g f:Nat→Rat)(N:Nat):Decidable (Qw n ob rw bd x F g f N):=by unfold Qw;exact inferInstance
section lps
variable {K L M N:Nat}{n:Int}{ob rw:List (List Qr)}{bd x y:List Qr}{O F:Nat→Nat→Rat}{g f:Nat→Rat}
theorem Kb(hr:gb L rw F)(hb:dI K bd g)(hx:dI M x f)(hN:∀v∈rw,min v.length x.length≤N)(hL:(N+2)*(L+M+1)≤2000000000)(hK:K≤1000000000)(h1:ob.length≤9223372036854775806)(h2:rw.length≤9223372036854775806)(h3:x.length≤1000000):
  iU ⟨n,ob,rw,bd⟩ x=some (decide (Qw n ob rw bd x F g f N)):=by
 have row:∀i,i<rw.length→∃q,iT (rw.getD i []) x=some q∧hG (N*(L+M+1)+1) q (eN (λj=>F i j*f j) N):=λi hi=>by
  have hm:=hN _ (List.mem_of_getElem? (cD (d:=[]) hi))
  have h1:=U5 (hr.row i) hx (Nat.le_trans (Nat.mul_le_mul_right _ (show min (rw.getD i []).length x.length+2≤N+2 by omega)) (by omega))
  rw[EU (hr.row i) hx hm]at h1
  exact⟨_,h1.1,h1.2.mono (Nat.add_le_add_right (Nat.mul_le_mul_right _ hm) 1)⟩
 have hsz:N*(L+M+1)+1+K≤4000000000:=by rw[Nat.add_mul]at hL;omega
 unfold iU
 refine cL<|az (tX h1 h2)<|az Y<|BR (λ_=>az Y<|az Y Y)<|Df (λh=>?_) (λh=>az Y ?_)
 ·congr 1;symm;rw[decide_eq_false_iff_not]
  simp only[Bool.or_eq_true,Bool.not_eq_true',decide_eq_true_eq,decide_eq_false_iff_not]at h
  unfold Qw
  rintro⟨q1,q2,_⟩
  rcases h with h|h
  ·exact h q1
  ·omega
 simp only[Bool.or_eq_false_iff,Bool.not_eq_false',decide_eq_true_eq,decide_eq_false_iff_not]at h
 refine az (yJ (p:=λi=>0≤f i) (e:=false) (n:=x.length) (λi hi=>?_) (az (dF (by omega))<|cn Y Y)) ?_
 ·obtain⟨q,e1,r1⟩:=hx.get hi
  have e2:=r1.sign (by have:=Nat.mul_le_mul_right (L+M+1) (show 1≤N+2 by omega);omega)
  refine az (dT (by omega))<|cj Y<|az (bN e1)<|az e2<|az Y ?_
  by_cases hp:0≤f i
  ·rw[if_pos hp]
   exact cn (decide_eq_false (λq=>Rat.not_lt.2 hp (Hj.1 q)))<|az (congrArg some (b8 (by omega))) Y
  ·rw[if_neg hp]
   exact cj (decide_eq_true (Hj.2 (Rat.not_le.1 hp))) Y
 by_cases hp:∀i,i<x.length→0≤f i
 ·rw[if_pos hp]
  show(nF _ _ ()).bind _=_
  refine az (BU (p:=λi=>eN (λj=>F i j*f j) N≤g i) (e:=false) (λi hi=>?_)) ?_
  ·obtain⟨q,e1,r1⟩:=row i hi
   have rb:=hb.gd i
   have e2:=r1.cmp rb hsz
   generalize hbq:bd.getD i (⟨⟨false,[]⟩,⟨false,[]⟩⟩:Qr)=bq at e2
   refine az Y<|az (a:=bq) (by first|rfl|exact congrArg some hbq)<|az e1<|az e2<|az Y ?_
   by_cases hs:eN (λj=>F i j*f j) N≤g i
   ·rw[if_pos hs]
    refine cn (decide_eq_false (λq=>?_)) Y
    exact Rat.not_lt.2 hs (NX.1 (by omega))
   ·rw[if_neg hs]
    exact cj (decide_eq_true (Qb (Rat.not_le.1 hs))) Y
  ·by_cases hq:∀i,i<rw.length→eN (λj=>F i j*f j) N≤g i
   ·rw[if_pos hq,decide_eq_true (show Qw n ob rw bd x F g f N from⟨h.1,by omega,hp,hq⟩)]
   ·rw[if_neg hq,decide_eq_false (show ¬Qw n ob rw bd x F g f N from λq=>hq q.2.2.2)]
 ·rw[if_neg hp,decide_eq_false (show ¬Qw n ob rw bd x F g f N from λq=>hp q.2.2.1)]
theorem eval_eq(ho:gb L ob O)(hx:dI M x f)(hN:∀v∈ob,min v.length x.length≤N)(hL:(N+2)*(L+M+1)≤4000000000)(hn:ob.length≤1000000):
  jT ⟨n,ob,rw,bd⟩ x=some (vq ob.length (λi=>eN (λj=>O i j*f j) N))∧dI (N*(L+M+1)+1) (vq ob.length (λi=>eN (λj=>O i j*f j) N)) (λi=>eN (λj=>O i j*f j) N):=by
 obtain⟨h1,h2⟩:=ae2 ho hx hN hL hn
 exact⟨az h1 Y,h2⟩
theorem Ob(hr:gb L rw F)(hb:dI K bd g)(hx:dI M x f)(hN:∀v∈rw,min v.length x.length≤N)(hL:(N+2)*(L+M+1)≤2000000000)(hK:K≤1000000000)(h2:rw.length≤1000000):
  oM ⟨n,ob,rw,bd⟩ x=some (vq rw.length (λi=>g i-eN (λj=>F i j*f j) N))∧∀i,i<rw.length→FQ (K+(N*(L+M+1)+1)+1) (g i-eN (λj=>F i j*f j) N):=by
 have row:∀i,i<rw.length→∃q,iT (rw.getD i []) x=some q∧hG (N*(L+M+1)+1) q (eN (λj=>F i j*f j) N):=λi hi=>by
  have hm:=hN _ (List.mem_of_getElem? (cD (d:=[]) hi))
  have h1:=U5 (hr.row i) hx (Nat.le_trans (Nat.mul_le_mul_right _ (show min (rw.getD i []).length x.length+2≤N+2 by omega)) (by omega))
  rw[EU (hr.row i) hx hm]at h1
  exact⟨_,h1.1,h1.2.mono (Nat.add_le_add_right (Nat.mul_le_mul_right _ hm) 1)⟩
 have hsz:K+(N*(L+M+1)+1)≤4000000000:=by rw[Nat.add_mul]at hL;omega
 refine⟨?_,λi hi=>?_⟩
 ·unfold oM
  refine rG (λj=>vq j (λi=>g i-eN (λj=>F i j*f j) N)) Y (λi hi=>?_) Y
  obtain⟨q,e1,r1⟩:=row i hi
  have rb:=hb.gd i
  have e2:=(rb.sub r1 hsz).1
  generalize hbq:bd.getD i (⟨⟨false,[]⟩,⟨false,[]⟩⟩:Qr)=bq at e2
  have e3:rM 64 (vq i (λi=>g i-eN (λj=>F i j*f j) N)) [qn (g i-eN (λj=>F i j*f j) N)]=some (vq (i+1) (λi=>g i-eN (λj=>F i j*f j) N)):=by rw[vU (by decide) (by rw[gB];have:i<rw.length:=hi;omega),Am]
  generalize qn (g i-eN (λj=>F i j*f j) N)=q2 at e2 e3
  exact az Y<|az (a:=bq) (by first|rfl|exact congrArg some hbq)<|az e1<|az e2<|az e3 Y
 ·obtain⟨q,e1,r1⟩:=row i hi
  exact((hb.gd i).sub r1 hsz).2.fq
def SD(n:Int)(rw:List (List Qr))(bd:List Qr)(O F:Nat→Nat→Rat)(g:Nat→Rat):Lr:=
 ⟨(rw.length:Int),[vq bd.length (λi=>-g i)],mq n.toNat (λ_=>rw.length) (λk i=>-F i k),vq n.toNat (λk=>-O 0 k)⟩
theorem Qx(ho:gb M ob O)(hr:gb L rw F)(hb:dI K bd g)(hM:M≤4000000000)(hL:L≤4000000000)(hK:K≤3000000000)(hv:BX n ob rw bd)(h64:rw.length≤64):qE ⟨n,ob,rw,bd⟩=some (SD n rw bd O F g,0):=by
 have rU:=hv
 unfold BX at rU
 obtain⟨m,rfl⟩:∃m:Nat,n=(m:Int):=⟨n.toNat,by omega⟩
 have hneg:∀i,(((-1:Int):Rat))*g i=-g i:=λi=>by
  have:(((-1:Int):Rat))=-1:=by decide
  rw[this];grind
 obtain⟨c,e1,r1⟩:=int' (n:=-1) (by decide)
 have e2:=(EM r1 hb (by omega) (by omega)).1
 rw[xL (k:=λi=>-g i) (λi _=>hneg i)]at e2
 unfold qE
 refine cL<|az (tX (by omega) (by omega))<|az Y<|BR (λ_=>az Y<|az Y Y)<|BR (λ_=>az Y Y)<|cn ?_<|az Y<|az e1<|az e2 ?_
 ·simp only[Bool.or_eq_false_iff,Bool.not_eq_false',decide_eq_true_eq,decide_eq_false_iff_not]
  exact⟨⟨hv,by omega⟩,by omega⟩
 refine bJ (λk=>((k:Int),mq k (λ_=>rw.length) (λk i=>-F i k),vq k (λk=>-O 0 k))) m (mq m (λ_=>rw.length) (λk i=>-F i k),vq m (λk=>-O 0 k)) Y (λk hk=>?_) (az (dF (by omega))<|cn Y Y) Y
 refine az (dT (by omega))<|cj Y<|az (Yt _ (by omega))<|az Y ?_
 have agr:∀q x,hG M q x→∃p,jw q=some p∧p=qn (-x):=λq x h=>⟨_,(h.neg (by omega)).1,Y⟩
 refine bJ (λj=>((j:Int),jW (λi=>qn (-F i k)) rw.length j ⟨⟨false,[]⟩,⟨false,[]⟩⟩)) rw.length (vq rw.length (λi=>-F i k)) (by rw[rL];rfl) (λj hj=>?_) ?_ ?_
 ·have e3:=N9 hr (by omega) j k
  have e4:=(((hr.row j).fq k).rep hr.l1).neg (by omega)
  have e4:=e4.1
  have hl:(jW (λi=>qn (-F i k)) rw.length j ⟨⟨false,[]⟩,⟨false,[]⟩⟩).length=rw.length:=uC (by omega)
  have hst:∀q,qn (-F j k)=q→(jW (λi=>qn (-F i k)) rw.length j ⟨⟨false,[]⟩,⟨false,[]⟩⟩).set j q=jW (λi=>qn (-F i k)) rw.length (j+1) ⟨⟨false,[]⟩,⟨false,[]⟩⟩:=by rintro q rfl;exact uE hj
  generalize qn (F j k)=q at e3 e4
  generalize hq:qn (-F j k)=q2 at e4
  have hst:=hst q2 hq
  refine az (dT (by rw[List.length_replicate];omega))<|cj Y<|az e3<|az e4<|az (gk (show j<_ by rw[hl];exact hj))<|az (jD (show j<_ by rw[hl];exact hj))<|az (congrArg some (b8 (by omega))) ?_
  rw[←hst]
 ·refine az (dF (by rw[List.length_replicate];omega))<|cn Y ?_
  rw[uD];rfl
 ·have e3:=N9 ho (by omega) 0 k
  have e4:=((((ho.row 0).fq k).rep ho.l1).neg (by omega)).1
  have e5:rM 24 (mq k (λ_=>rw.length) (λk i=>-F i k)) [vq rw.length (λi=>-F i k)]=some (mq (k+1) (λ_=>rw.length) (λk i=>-F i k)):=by
   rw[vU (by decide) (by rw[kp];omega)]
   unfold mq;rw[List.range_succ,List.map_append];rfl
  have e6:rM 64 (vq k (λk=>-O 0 k)) [qn (-O 0 k)]=some (vq (k+1) (λk=>-O 0 k)):=by rw[vU (by decide) (by rw[gB];omega),Am]
  generalize qn (O 0 k)=q at e3 e4
  generalize qn (-O 0 k)=q2 at e4 e6
  exact az e5<|az e3<|az e4<|az e6<|az (congrArg some (b8 (by omega))) Y
theorem La(h1:ob.length≤9223372036854775806)(h2:rw.length≤9223372036854775806){k:Int}(h:¬(BX n ob rw bd∧0≤k∧k<ob.length)):eV ⟨n,ob,rw,bd⟩ k=some (⟨0,[],[],[]⟩,1):=by
 unfold eV
 refine cL<|az (tX h1 h2)<|az Y<|BR (λ_=>az Y Y)<|BR (λ_=>az Y<|az Y Y)<|cj ?_ Y
 simp only[Bool.or_eq_true,Bool.not_eq_true',decide_eq_true_eq,decide_eq_false_iff_not]
 by_cases hv:BX n ob rw bd
 ·have:¬(0≤k∧k<ob.length):=λq=>h ⟨hv,q⟩
  omega
 ·exact .inl (.inl hv)
end lps
theorem Od{L M K L' M' K':Nat}{n n':Int}{ob zY rw rw':List (List Qr)}{bd BV:List Qr}{O O' F F':Nat→Nat→Rat}{g g':Nat→Rat}(ho:gb M ob O)(hr:gb L rw F)(hb:dI K bd g)(ho':gb M' zY O')(hr':gb L' rw' F')(hb':dI K' BV g')
  (s1:M+M'≤4000000000) (s2:L+L'≤4000000000) (s3:K+K'≤4000000000) (h0:n=n') (h1:ob.length=zY.length) (h2:rw.length=rw'.length) (h3:bd.length=BV.length) (e1:∀i j,O i j=O' i j) (e2:∀i j,F i j=F' i j) (e3:∀i,g i=g' i):fY ⟨n,ob,rw,bd⟩ ⟨n',zY,rw',BV⟩=some true:=by
 unfold fY gH
 refine az (az Y<|az Y<|az Y Y)<|az (az Y<|az Y<|az Y Y)<|az Y<|cn ?_<|cL<|az (J8 ho ho' s1 e1)<|yI (az (J8 hr hr' s2 e2) Y)<|yI (az (aeO hb hb' s3 e3) Y) Y
 simp[h0,h1,h2,h3]
end
section
open Go.Fw
theorem Qy{α:Type}{l:List α}{i:Nat}{a:α}(h:l[i]? =some a):a∈l:=List.mem_of_getElem? h
theorem Oe{l:List (List Qr)}{i:Nat}{P:List Qr→Prop}(hi:i<l.length)(ht:∀v∈l.take i,P v)(hp:P l[i]):∀v∈l.take (i+1),P v:=by
 rw[List.take_add_one,List.getElem?_eq_getElem hi]
 intro u hu
 rcases List.mem_append.1 hu with h|h
 ·exact ht u h
 ·simp at h;rw[h];exact hp
abbrev Y8(v:List Qr):Prop:=v.length≤20∧∀q∈v,q.num.w.length≤6∧q.den.w.length≤6
abbrev Y9(v:List Qr):Prop:=v.length≤8∧∀q∈v,q.num.w.length≤6∧q.den.w.length≤6
theorem Hs(l:List (List Qr))(hl:l.length≤9223372036854775807):∃b,jL l=some b∧(b=false→∀v∈l,Y8 v):=by
 unfold jL
 refine lO (λy=>∃i:Nat,y=(i:Int)∧i≤l.length∧∀v∈l.take i,Y8 v) (λe=>(∃c,e=.inl c∧∀v∈l,Y8 v)∨e=.inr true) (λy=>l.length-y.toNat) ?_ ⟨0,Y,by omega,by simp⟩ ?_
 ·rintro _ ⟨i,rfl,hi,ht⟩
  by_cases hlt:i<l.length
  ·have g:=List.getElem?_eq_getElem hlt
   by_cases h1:20<l[i].length
   ·exact .inr ⟨.inr true,az Y<|az (dT (by omega))<|cj Y<|cL<|az (bN g)<|az Y<|az (dT (by omega))<|az (a:=true) (cj Y Y) Y,.inr Y⟩
   ·obtain⟨b,hb,hs⟩:=N6 l[i] (by omega)
    cases b
    ·refine .inl ⟨((i+1:Nat):Int),?_,⟨i+1,Y,hlt,Oe hlt ht ⟨by omega,hs Y⟩⟩,by simp only[Int.toNat_natCast];omega⟩
     exact az Y<|az (dT (by omega))<|cj Y<|cL<|az (bN g)<|az Y<|az (dF (by omega))<|az (a:=false) (cn Y<|az (bN g)<|az hb Y)<|cn Y<|az (congrArg some (b8 (by omega))) Y
    ·exact .inr ⟨.inr true,az Y<|az (dT (by omega))<|cj Y<|cL<|az (bN g)<|az Y<|az (dF (by omega))<|az (a:=true) (cn Y<|az (bN g)<|az hb Y) Y,.inr Y⟩
  ·refine .inr ⟨.inl (),?_,.inl ⟨(),Y,?_⟩⟩
   ·exact az Y<|az (dF (by omega))<|cn Y Y
   ·rw[List.take_of_length_le (by omega)]at ht;exact ht
 ·rintro e (⟨c,rfl,he⟩|rfl)
  ·exact⟨false,Y,λ_=>he⟩
  ·exact⟨true,rfl,λh=>by cases h⟩
theorem Of(m:List (List Qr))(h:m.length≤9223372036854775806):lH m=some (nB m:Int):=by
 unfold lH
 refine bJ (λj=>(((m.take j).foldl (λn v=>max n v.length) 0:Nat),(j:Int))) m.length ((nB m:Nat):Int) (by simp) (λj hj=>?_) ?_ Y
 ·refine az Y<|az (dT (by omega))<|cj Y<|az (bN (List.getElem?_eq_getElem hj))<|az Y<|az Y<|az (congrArg some (b8 (by omega))) ?_
  rw[List.take_add_one,List.getElem?_eq_getElem hj,List.foldl_append]
  simp only[Option.toList_some,List.foldl_cons,List.foldl_nil]
  congr 3
  omega
 ·refine az Y<|az (dF (by omega))<|cn Y ?_
  rw[List.take_length];rfl
theorem Ht(m:List (List Qr)):∃b,jM [m]=some b∧(b=false→m.length≤8∧∀v∈m,Y9 v):=by
 unfold jM
 have hg:cQ [m] (0:Int)=some m:=rfl
 by_cases h8:8<m.length
 ·refine⟨true,?_,λh=>by cases h⟩
  refine bJ (λj=>(j:Int)) 0 (.inr true) Y (λj hj=>by omega) ?_ Y
  exact az Y<|az (dT (by simp))<|cj Y<|cL<|az hg<|az Y<|az (dT (by omega))<|az (a:=true) (cj Y Y)<|az (a:=true) (cj Y Y) Y
 by_cases hc:8<nB m
 ·refine⟨true,?_,λh=>by cases h⟩
  refine bJ (λj=>(j:Int)) 0 (.inr true) Y (λj hj=>by omega) ?_ Y
  exact az Y<|az (dT (by simp))<|cj Y<|cL<|az hg<|az Y<|az (dF (by omega))<|az (a:=true) (cn Y<|az hg<|az (Of m (by omega))<|az (dT (by omega)) Y)<|az (a:=true) (cj Y Y) Y
 obtain⟨b,hb,hs⟩:=Hs m (by omega)
 cases b
 ·refine⟨false,?_,λ_=>⟨by omega,λv hv=>⟨?_,(hs Y v hv).2⟩⟩⟩
  ·refine bJ (λj=>(j:Int)) 1 (.inl ()) Y (λj hj=>?_) (az Y<|az (dF (by simp))<|cn Y Y) Y
   obtain rfl:j=0:=by omega
   exact az Y<|az (dT (by simp))<|cj Y<|cL<|az hg<|az Y<|az (dF (by omega))<|az (a:=false) (cn Y<|az hg<|az (Of m (by omega))<|az (dF (by omega)) Y)<|az (a:=false) (cn Y<|az hg<|az hb Y)<|cn Y<|az (congrArg some (b8 (by omega))) Y
  ·have:=nC.1 (Nat.le_refl (nB m)) v hv;omega
 ·refine⟨true,?_,λh=>by cases h⟩
  refine bJ (λj=>(j:Int)) 0 (.inr true) Y (λj hj=>by omega) ?_ Y
  exact az Y<|az (dT (by simp))<|cj Y<|cL<|az hg<|az Y<|az (dF (by omega))<|az (a:=false) (cn Y<|az hg<|az (Of m (by omega))<|az (dF (by omega)) Y)<|az (a:=true) (cn Y<|az hg<|az hb Y)<|cj Y Y
theorem Qz(m:List (List Qr))(h:m.length≤1000):lK m=some (decide (∀i,i<m.length→(m.getD i []).length=0)):=by
 unfold lK
 refine az (yJ (p:=λi=>(m.getD i []).length=0) (e:=false) (n:=m.length) (λi hi=>?_) (az Y<|az (dF (by omega))<|cn Y Y)) ?_
 ·refine az Y<|az (dT (by omega))<|cj Y<|az (bN (cD (d:=[]) hi))<|az Y<|az Y ?_
  by_cases hz:(m.getD i []).length=0
  ·rw[if_pos hz];exact cn (decide_eq_false (by omega))<|az (congrArg some (b8 (by omega))) Y
  ·rw[if_neg hz];exact cj (decide_eq_true (by omega)) Y
 ·by_cases hp:∀i,i<m.length→(m.getD i []).length=0
  ·rw[if_pos hp,decide_eq_true hp]
  ·rw[if_neg hp,decide_eq_false hp]
structure Sm6 (ob rw:List (List Qr)) (bd:List Qr):Prop where
 lo:ob.length≤6
 lr:rw.length≤140
 lb:bd.length≤140
 so:∀v∈ob,Y9 v
 sr:∀v∈rw,Y9 v
 sb:Y8 (bd.take (min bd.length 20))
theorem Hu{n:Int}{ob rw:List (List Qr)}{bd:List Qr}(h1:ob.length≤9223372036854775806)(h2:rw.length≤9223372036854775806)(h3:bd.length≤9223372036854775806):∃b,gL ⟨n,ob,rw,bd⟩=some b∧(b=false→Sm6 ob rw bd):=by
 unfold gL
 obtain⟨b1,e1,s1⟩:=Ht rw
 obtain⟨b2,e2,s2⟩:=Ht ob
 have Yu:nv bd=some (bd.take (min bd.length 20)):=by
  unfold nv
  have hm:min (bd.length:Int) 20=((min bd.length 20:Nat):Int):=by omega
  refine az Y<|az (congrArg some hm)<|az (om (by omega)) Y
 obtain⟨b3,e3,s3⟩:=Hs [bd.take (min bd.length 20)] (by simp)
 by_cases c1:6<ob.length
 ·exact⟨true,cL<|az rfl<|az (dT (by omega))<|az (a:=true) (cj rfl rfl)<|az (a:=true) (cj rfl rfl)<|az (a:=true) (cj rfl rfl)<|az (a:=true) (cj rfl rfl)<|az (a:=true) (cj rfl rfl)<|az (a:=true) (cj rfl rfl) rfl,λh=>by cases h⟩
 by_cases c2:140<rw.length
 ·exact⟨true,cL<|az rfl<|az (dF (by omega))<|az (a:=true) (cn rfl<|az rfl<|az (dT (by omega)) rfl)<|az (a:=true) (cj rfl rfl)<|az (a:=true) (cj rfl rfl)<|az (a:=true) (cj rfl rfl)<|az (a:=true) (cj rfl rfl)<|az (a:=true) (cj rfl rfl) rfl,λh=>by cases h⟩
 by_cases c3:140<bd.length
 ·exact⟨true,cL<|az rfl<|az (dF (by omega))<|az (a:=false) (cn rfl<|az rfl<|az (dF (by omega)) rfl)<|az (a:=true) (cn rfl<|az rfl<|az (dT (by omega)) rfl)<|az (a:=true) (cj rfl rfl)<|az (a:=true) (cj rfl rfl)<|az (a:=true) (cj rfl rfl)<|az (a:=true) (cj rfl rfl) rfl,λh=>by cases h⟩
 have eb:=Qz rw (by omega)
 by_cases c4:8<rw.length
 ·by_cases c5:∀i,i<rw.length→(rw.getD i []).length=0
  ·rw[decide_eq_true c5]at eb
   refine⟨_,cL<|az Y<|az (dF (by omega))<|az (a:=false) (cn Y<|az Y<|az (dF (by omega)) Y)<|az (a:=false) (cn Y<|az Y<|az (dF (by omega)) Y)<|az (a:=false) (cn Y<|az Y<|az (dT (by omega))<|az (a:=false) (cj Y<|az eb<|az Y Y) Y)<|az (a:=false) (cn Y<|az Y<|az (dF (by omega))<|az (a:=false) (cn Y Y) Y)<|BR (λ_=>az e2 Y)<|BR (λ_=>az Yu<|az e3 Y) Y,λh=>?_⟩
   simp only[Bool.false_or,Bool.or_eq_false_iff]at h
   refine⟨by omega,by omega,by omega,(s2 h.1).2,λv hv=>?_,s3 h.2 _ (by simp)⟩
   obtain⟨i,hi,rfl⟩:=List.getElem_of_mem hv
   have:=c5 i hi
   rw[List.getD_eq_getElem?_getD,List.getElem?_eq_getElem hi]at this
   have h0:rw[i]=[]:=List.eq_nil_of_length_eq_zero this
   rw[h0];exact⟨by decide,by simp⟩
  ·rw[decide_eq_false c5]at eb
   exact⟨true,cL<|az rfl<|az (dF (by omega))<|az (a:=false) (cn rfl<|az rfl<|az (dF (by omega)) rfl)<|az (a:=false) (cn rfl<|az rfl<|az (dF (by omega)) rfl)<|az (a:=true) (cn rfl<|az rfl<|az (dT (by omega))<|az (a:=true) (cj rfl<|az eb<|az rfl rfl) rfl)<|az (a:=true) (cj rfl rfl)<|az (a:=true) (cj rfl rfl)<|az (a:=true) (cj rfl rfl) rfl,λh=>by cases h⟩
 ·refine⟨_,cL<|az Y<|az (dF (by omega))<|az (a:=false) (cn Y<|az Y<|az (dF (by omega)) Y)<|az (a:=false) (cn Y<|az Y<|az (dF (by omega)) Y)<|az (a:=false) (cn Y<|az Y<|az (dF (by omega))<|az (a:=false) (cn Y Y) Y)<|BR (c:=b1) (λ_=>az Y<|az (dT (by omega))<|az (a:=b1) (cj Y<|az e1 Y) Y)<|BR (λ_=>az e2 Y)<|BR (λ_=>az Yu<|az e3 Y) Y,λh=>?_⟩
  simp only[Bool.false_or,Bool.or_eq_false_iff]at h
  exact⟨by omega,by omega,by omega,(s2 h.1.2).2,(s1 h.1.1).2,s3 h.2 _ (by simp)⟩
end
section
open Go.Fw
theorem FQ.neg'{L:Nat}{x:Rat}(h:FQ L x)(h1:1≤L)(hL:L≤10000000000):FQ L (-x):=((h.rep h1).neg hL).2.fq
theorem Dg{L:Nat}{m:List (List Qr)}{F:Nat→Nat→Rat}(h:gb L m F){n:Nat}(hn:nB m≤n)(i:Nat){k:Nat}(hk:n≤k):F i k=0:=by
 refine(h.row i).z k ?_
 by_cases hi:i<m.length
 ·have:=nC.1 hn _ (Qy (cD (d:=[]) hi));omega
 ·rw[dA (by omega)];exact Nat.zero_le _
theorem Kc: -(0:Rat)=0:=by decide
section ae4
variable {K L M:Nat}{n:Int}{ob rw:List (List Qr)}{bd:List Qr}{O F:Nat→Nat→Rat}{g:Nat→Rat}
theorem Vd(hb:dI K bd g)(hK:K≤10000000000):gb K [vq bd.length (λi=>-g i)] (λi j=>if i=0 then-g j else 0):=
 Hr (tW (λi _=>(hb.fq i).neg' hb.l1 hK) (λi hi=>by rw[hb.z i hi];exact Kc) hb.l1)
theorem Ve(hr:gb L rw F)(hL:L≤10000000000)(hv:BX n ob rw bd):gb L (mq n.toNat (λ_=>rw.length) (λk i=>-F i k)) (λk i=>-F i k):=by
 unfold BX at hv
 refine BT (λk _ i _=>((hr.row i).fq k).neg' hr.l1 hL) (λk _ i hi=>by rw[hr.z i hi k];exact Kc) (λk hk i=>?_) hr.l1
 rw[Dg hr (n:=n.toNat) (by omega) i hk];exact Kc
theorem Vf(ho:gb M ob O)(hM:M≤10000000000)(hv:BX n ob rw bd):dI M (vq n.toNat (λk=>-O 0 k)) (λk=>-O 0 k):=by
 unfold BX at hv
 refine tW (λk _=>((ho.row 0).fq k).neg' ho.l1 hM) (λk hk=>?_) ho.l1
 rw[Dg ho (n:=n.toNat) (by omega) 0 hk];exact Kc
theorem Vg(hv:BX n ob rw bd)(h64:rw.length≤64):BX (rw.length:Int) [vq bd.length (λi=>-g i)] (mq n.toNat (λ_=>rw.length) (λk i=>-F i k)) (vq n.toNat (λk=>-O 0 k)):=by
 unfold BX at hv⊢
 refine⟨by omega,by omega,by simp,by simp,by rw[kp];omega,by rw[gB,kp],?_,?_⟩
 ·have:nB [vq bd.length (λi=>-g i)]≤rw.length:=nC.2 (λv h=>by rw[List.mem_singleton.1 h,gB];omega)
  omega
 ·have:nB (mq n.toNat (λ_=>rw.length) (λk i=>-F i k))≤rw.length:=nC.2 (λv h=>by
   obtain⟨i,hi,rfl⟩:=List.mem_map.1 h
   rw[gB];exact Nat.le_refl _)
  omega
end ae4
theorem yK{L:Nat}{v:List Qr}{f:Nat→Rat}{q:Qr}{x:Rat}(h:dI L v f)(hq:hG L q x):dI L (q::v) (λi=>match i with|0=>x|i+1=>f i):=by
 refine⟨λi hi=>?_,λi hi=>?_,h.l1⟩
 ·match i,hi with
  |0,_=>exact hq
  |i+1,hi=>exact h.e i (by simpa using hi)
 ·match i,hi with
  |0,hi=>simp at hi
  |i+1,hi=>exact h.z i (by simpa using hi)
theorem QA{n d:Int}(hn:dD n)(hd:dD d)(h0:d≠0):hG 2 (qn (Rat.divInt n d)) (Rat.divInt n d):=(Hl h0 (ou hn) (ou hd) (by decide)).fq.rep (by decide)
theorem Vh:eM=some true:=by
 obtain⟨eo,ro⟩:=J9 (l:=[[3,5]]) (by decide) (by decide)
 obtain⟨er,rr⟩:=J9 (l:=[[1,0],[0,2],[3,2]]) (by decide) (by decide)
 obtain⟨eb,rb⟩:=zy (l:=[4,12,18]) (by decide) (by decide)
 obtain⟨eo',Yv⟩:=J9 (l:=[[-4,-12,-18]]) (by decide) (by decide)
 obtain⟨er',Yw⟩:=J9 (l:=[[-1,0,-3],[0,-2,-2]]) (by decide) (by decide)
 obtain⟨eb',rb'⟩:=zy (l:=[-3,-5]) (by decide) (by decide)
 obtain⟨ex,rx⟩:=zy (l:=[2,6]) (by decide) (by decide)
 obtain⟨WI,r36⟩:=zy (l:=[36]) (by decide) (by decide)
 obtain⟨ae5,ae6⟩:=zy (l:=[-36]) (by decide) (by decide)
 obtain⟨es,rs⟩:=zy (l:=[2,0,0]) (by decide) (by decide)
 have e32:=U7 (n:=3) (d:=2) (by decide) (by decide) (by decide)
 have e1:=J5 (n:=1) (by decide)
 have r32:hG 2 (qn (Rat.divInt 3 2)) (Rat.divInt 3 2):=QA (by decide) (by decide) (by decide)
 have r1:hG 2 (qn ((1:Int):Rat)) ((1:Int):Rat):=(oc (by decide)).2
 have ry:=yK (yK (yK (dI.nil (L:=2) (by decide)) r1) r32) (BO (L:=2) (by decide))
 generalize hmo:mq [[(3:Int),5]].length _ _=mo at eo ro
 generalize hmr:mq [[(1:Int),0],[0,2],[3,2]].length _ _=mr at er rr
 generalize hvb:vq [(4:Int),12,18].length _=vb at eb rb
 have lo:mo.length=1:=by rw[←hmo,kp];rfl
 have lr:mr.length=3:=by rw[←hmr,kp];rfl
 have lb:vb.length=3:=by rw[←hvb,gB];rfl
 have wo:∀v∈mo,v.length≤2:=by rw[←hmo];decide+kernel
 have wr:∀v∈mr,v.length≤2:=by rw[←hmr];decide+kernel
 have co:nB mo≤2:=nC.2 wo
 have cr:nB mr≤2:=nC.2 wr
 have hv:BX 2 mo mr vb:=⟨by decide,by decide,by omega,by omega,by omega,by omega,by omega,by omega⟩
 have ed:=Qx (n:=2) ro rr rb (by decide) (by decide) (by decide) hv (by omega)
 have do_:=Vd rb (by decide)
 have dr:=Ve rr (by decide) hv
 have db:=Vf ro (by decide) hv
 have dv:=Vg (O:=λi j=>((([[3,5]]:List (List Int)).getD i []).getD j 0:Rat)) (F:=λi j=>((([[1,0],[0,2],[3,2]]:List (List Int)).getD i []).getD j 0:Rat)) (g:=λi=>(([4,12,18]:List Int).getD i 0:Rat)) hv (by omega)
 unfold SD at ed
 have ev:=tX (n:=2) (ob:=mo) (rw:=mr) (bd:=vb) (by omega) (by omega)
 rw[decide_eq_true hv]at ev
 have lx:(vq [(2:Int),6].length (λi=>(([2,6]:List Int).getD i 0:Rat))).length=2:=gB _ _
 generalize vq [(2:Int),6].length _=vx at ex rx lx
 have ef:=Kb (n:=2) (ob:=mo) (N:=2) rr rb rx (λv hv=>by have:=wr v hv;omega) (by decide) (by decide) (by omega) (by omega) (by omega)
 rw[decide_eq_true (show Qw 2 mo mr vb vx _ _ _ 2 from⟨hv,by omega,by rw[lx];decide+kernel,by rw[lr];decide+kernel⟩)]at ef
 obtain⟨ee,re⟩:=eval_eq (n:=2) (rw:=mr) (bd:=vb) (N:=2) ro rx (λv hv=>by have:=wo v hv;omega) (by decide) (by omega)
 rw[lo]at ee re
 have c1:=VM re r36 (by decide)
 rw[gB,gB,decide_eq_true (by decide+kernel)]at c1
 obtain⟨esl,fsl⟩:=Ob (n:=2) (ob:=mo) (N:=2) rr rb rx (λv hv=>by have:=wr v hv;omega) (by decide) (by decide) (by omega)
 rw[lr]at esl fsl
 have nD:=Qv fsl (by decide)
 have c2:=VM nD rs (by decide)
 rw[gB,gB,decide_eq_true (by decide+kernel)]at c2
 rw[lb,lr]at ed
 rw[lb]at do_
 rw[lr]at dr
 rw[lb,lr]at dv
 have c3:=Od (n:=3) (n':=3) do_ dr db Yv Yw rb' (by decide) (by decide) (by decide) Y (by rw[kp];rfl) (by rw[kp,kp];rfl) (by rw[gB,gB];rfl) (λi j=>?_) (λi j=>?_) (λi=>?_)
 ·have ly:([qz,qn (Rat.divInt 3 2),qn ((1:Int):Rat)]:List Qr).length=3:=rfl
  have eg:=Kb (n:=3) (N:=3) dr db ry (ob:=[vq 3 (λi=>-(([4,12,18]:List Int).getD i 0:Rat))]) (λv hv=>by rw[ly];omega) (by decide) (by decide) (by simp) (by rw[kp];decide) (by rw[ly];decide)
  rw[decide_eq_true (show Qw 3 _ _ _ _ _ _ _ 3 from⟨dv,by rw[ly];decide,by rw[ly];decide+kernel,by rw[kp];decide+kernel⟩)]at eg
  obtain⟨eh,rh⟩:=eval_eq (n:=3) (rw:=mq 2 (λ_=>3) (λk i=>-((([[1,0],[0,2],[3,2]]:List (List Int)).getD i []).getD k 0:Rat))) (bd:=vq 2 (λk=>-((([[3,5]]:List (List Int)).getD 0 []).getD k 0:Rat))) (N:=3) do_ ry (λv hv=>by rw[ly];omega) (by decide) (by simp)
  have c4:=VM rh ae6 (by decide)
  rw[gB,gB,decide_eq_true (by decide+kernel)]at c4
  unfold eM mL
  generalize qn (Rat.divInt 3 2)=q32 at*
  generalize qn ((1:Int):Rat)=q1 at*
  refine az (az eo<|az er<|az eb Y)<|az ed<|az eo'<|az er'<|az eb'<|az ex<|az e32<|az e1<|cL ?_
  exact az ev<|yI (az ef Y)<|yI (az ee<|az WI<|az c1 Y)<|yI (az esl<|az es<|az c2 Y)<|yI (az (dT Y) Y)<|yI (az c3 Y)<|yI (az eg Y)<|yI (az eh<|az ae5<|az c4 Y) Y
 ·match i with
  |0=>
   match j with
   |0=>decide+kernel
   |1=>decide+kernel
   |2=>decide+kernel
   |j+3=>simp only[List.getD_cons_succ,List.getD_cons_zero,List.getD_nil,if_true];decide
  |i+1=>simp only[List.getD_cons_succ,List.getD_nil];rw[if_neg (by omega)];rfl
 ·match j with
  |0=>
   match i with
   |0=>decide+kernel
   |1=>decide+kernel
   |i+2=>simp only[List.getD_cons_succ,List.getD_cons_zero,List.getD_nil];decide
  |1=>
   match i with
   |0=>decide+kernel
   |1=>decide+kernel
   |i+2=>simp only[List.getD_cons_succ,List.getD_cons_zero,List.getD_nil];decide
  |2=>
   match i with
   |0=>decide+kernel
   |1=>decide+kernel
   |i+2=>simp only[List.getD_cons_succ,List.getD_cons_zero,List.getD_nil];decide
  |j+3=>
   match i with
   |0=>simp only[List.getD_cons_succ,List.getD_cons_zero,List.getD_nil];decide
   |1=>simp only[List.getD_cons_succ,List.getD_cons_zero,List.getD_nil];decide
   |i+2=>simp only[List.getD_cons_succ,List.getD_cons_zero,List.getD_nil];decide
 ·match i with
  |0=>decide+kernel
  |1=>decide+kernel
  |i+2=>simp only[List.getD_cons_succ,List.getD_cons_zero,List.getD_nil];decide
end
section
open Go.Fw
abbrev Vi(m:List (List Qr)):Prop:=m.length≤9223372036854775807∧∀v∈m,Ys v
abbrev OkL(p:Lr):Prop:=dD p.vars∧Vi p.vr∧Vi p.rows∧Ys p.bounds
abbrev szL(p:Lr):Nat:=1+U8 p.vr+U8 p.rows+SA p.bounds+1
theorem EV{α:Type}(f:α→Nat)(h:∀x,1≤f x):∀l:List α,l.length≤(l.map f).sum
 |[]=>Nat.le_refl _
 |x::l=>by rw[List.map_cons,List.sum_cons,List.length_cons];have:=EV f h l;have:=h x;omega
theorem Ap(m:List (List Qr)):m.length≤U8 m:=by have:=EV (λx=>SA x) (λx=>by show 1≤_+1;omega) m;show _≤_+1;omega
theorem Ke(v:List Qr):v.length≤SA v:=by have:=EV (λx=>Sy x) (λx=>by show 1≤_+1;omega) v;show _≤_+1;omega
theorem Kf{m:List (List Qr)}(h:Vi m)(s:∀v∈m,Y9 v):gb 6 m (ET m):=
 Qq (λv hv=>JY (λq hq=>N7 ((h.2 v hv).2 q hq) ((s v hv).2 q hq).1 ((s v hv).2 q hq).2 (by decide)) (by decide)) (by decide)
theorem al6:(eM.bind λx=>some x)=some true:=az Vh Y
section made
variable {K L M:Nat}{n:Int}{ob rw:List (List Qr)}{bd x:List Qr}{O F:Nat→Nat→Rat}{g f:Nat→Rat}
end made
end
section
open Go.Fw
section ext
variable {K L M N:Nat}{n:Int}{ob rw:List (List Qr)}{bd x:List Qr}{O F:Nat→Nat→Rat}{g f:Nat→Rat}
end ext
theorem Cb(b:Bool):(some (!(b==b)):Option Bool)=some false:=by cases b<;>rfl
end
section
open Go.Fw
theorem Kg(j:Nat)(n:Int):((bif decide ((j:Int)<n)then(some (decide ((j:Int)<65536))).bind λcP=>some cP else some false):Option Bool)=some (decide (j<(min n 65536).toNat)):=by
 by_cases h:(j:Int)<n
 ·rw[decide_eq_true h,eY,bH]
  by_cases h':(j:Int)<65536
  ·rw[decide_eq_true h',decide_eq_true (by omega)]
  ·rw[decide_eq_false h',decide_eq_false (by omega)]
 ·rw[decide_eq_false h,fM,decide_eq_false (by omega)]
section ops
variable {K L M:Nat}{c:Qr}{a b:List Qr}{k:Rat}{f g:Nat→Rat}
theorem Yx(ha:dI L a f)(hb:dI M b g)(h:L+M≤4000000000)(la:a.length≤1000000)(lb:b.length≤1000000):kJ a b=some (oe f g (max a.length b.length)):=by
 unfold kJ
 refine fR (λs=>∃j:Nat,s=(j:Int)∧j≤max a.length b.length∧oe f g j=0) (λe=>(match e with|.inr v=>v|.inl _=>0)=oe f g (max a.length b.length)) (λs=>max a.length b.length-s.toNat) ?_ ⟨0,rfl,by omega,rfl⟩ ?_
 ·rintro s ⟨j,rfl,hj,h0⟩
  by_cases Za:j<max a.length b.length
  ·have a1:=I2 a j
   have a2:=I2 b j
   have e1:=(ha.gd j).aeY (hb.gd j) h
   generalize a.getD j (⟨⟨false,[]⟩,⟨false,[]⟩⟩:Qr)=q1 at e1 a1
   generalize b.getD j (⟨⟨false,[]⟩,⟨false,[]⟩⟩:Qr)=q2 at e1 a2
   obtain⟨⟨_,_⟩,⟨_,_⟩⟩:=q1
   obtain⟨⟨_,_⟩,⟨_,_⟩⟩:=q2
   by_cases hc:lS (f j) (g j)=0
   ·refine .inl ⟨((j+1:Nat):Int),?_,⟨j+1,Y,by omega,by rw[oe,if_neg (by simpa using h0),hc]⟩,by simp only[Int.toNat_natCast];omega⟩
    rw[uB]
    refine az Y<|az Y<|az (I3 a b j) ?_
    refine cj (decide_eq_true Za)<|az a1<|az a2<|az e1<|az Y<|cn (decide_eq_false (by simpa using hc))<|az Y ?_
    rw[b8 (by omega)]
   ·refine .inr ⟨.inr (lS (f j) (g j)),?_,(K1 h0 Za hc).symm⟩
    rw[uB]
    refine az Y<|az Y<|az (I3 a b j) ?_
    exact cj (decide_eq_true Za)<|az a1<|az a2<|az e1<|az Y<|cj (decide_eq_true hc) Y
  ·obtain rfl:j=max a.length b.length:=by omega
   refine .inr ⟨.inl (),?_,h0.symm⟩
   rw[uB]
   refine az Y<|az Y<|az (I3 a b _) ?_
   exact cn (decide_eq_false Za) Y
 ·intro e he
  rw[←he]
  cases e<;>rfl
theorem Og(ha:dI L a f)(h:L≤10000000000)(n:Int):eX a n=some (vq (min n 65536).toNat f):=by
 unfold eX
 refine bJ (λj=>((j:Int),vq j f)) (min n 65536).toNat (vq (min n 65536).toNat f) Y (λj hj=>?_) ?_ Y
 ·show cm _ _=_
  rw[uB]
  refine az Y<|az (Kg j n) ?_
  have a1:=I2 a j
  have e1:=(ha.gd j).N4 h
  generalize a.getD j (⟨⟨false,[]⟩,⟨false,[]⟩⟩:Qr)=q1 at e1 a1
  rw[Am]
  generalize qn (f j)=q3 at e1⊢
  obtain⟨⟨_,_⟩,⟨_,_⟩⟩:=q1
  obtain⟨⟨_,_⟩,⟨_,_⟩⟩:=q3
  refine cj (decide_eq_true hj)<|az a1<|az e1<|az (vU (by omega) (by rw[gB];omega))<|az Y ?_
  rw[b8 (by omega)]
 ·show cm _ _=_
  rw[uB]
  refine az Y<|az (Kg _ n) ?_
  exact cn (decide_eq_false (by omega)) Y
end ops
end
section
open Go.Fw
theorem Dh{L:Nat}{v:List Qr}{f:Nat→Rat}(h:dI L v f)(hL:L≤10000000000)(hn:v.length≤1000):eX v (v.length:Int)=some (vq v.length f):=by
 rw[Og h hL]
 rw[show(min (v.length:Int) 65536).toNat=v.length by omega]
section refs
variable {K L M:Nat}{n:Int}{ob rw:List (List Qr)}{bd:List Qr}{O F:Nat→Nat→Rat}{g:Nat→Rat}
theorem Hv(hr:gb L rw F)(hL:L≤10000000000)(l2:rw.length≤1000)(w2:∀v∈rw,v.length≤1000):∀i,i<rw.length→rw[i]? =some (rw.getD i [])∧eX (rw.getD i []) ((rw.getD i []).length:Int)=some (vq (rw.getD i []).length (F i)):=λi hi=>
 ⟨cD hi,Dh (hr.row i) hL (w2 _ (List.mem_of_getElem? (cD (d:=[]) hi)))⟩
theorem QB(ho:gb M ob O)(hr:gb L rw F)(hb:dI K bd g)(hM:M≤3000000000)(hL:L≤3000000000)(hK:K≤3000000000)(l1:ob.length≤1000)(l2:rw.length≤1000)(l3:bd.length≤1000)(w1:∀v∈ob,v.length≤1000)(w2:∀v∈rw,v.length≤1000):
  kL ⟨n,ob,rw,bd⟩=some ⟨n,mq ob.length (λi=>(ob.getD i []).length) O,mq rw.length (λi=>(rw.getD i []).length) F,vq bd.length g⟩∧xx ⟨n,ob,rw,bd⟩=some (n,mq ob.length (λi=>(ob.getD i []).length) O,mq rw.length (λi=>(rw.getD i []).length) F,vq bd.length g):=by
 have f1:=Hv ho (by omega) l1 w1
 have f2:=Hv hr (by omega) l2 w2
 have f3:=Dh hb (by omega) (by omega)
 have f3':xw bd (bd.length:Int)=some (vq bd.length g):=by rw[←f3];rfl
 have ap:∀{k:Nat} {ln:Nat→Nat} {G:Nat→Nat→Rat},k≤1000→rM 24 (mq k ln G) [vq (ln k) (G k)]=some (mq (k+1) ln G):=λhk=>by
  rw[vU (by decide) (by rw[kp];omega)]
  unfold mq;rw[List.range_succ,List.map_append];rfl
 constructor
 ·unfold kL
  refine bJ (λj=>((j:Int),mq j (λi=>(ob.getD i []).length) O)) ob.length (mq ob.length (λi=>(ob.getD i []).length) O) Y (λj hj=>?_) (az Y<|az (dF (by omega))<|cn Y Y)<|bJ (λj=>((j:Int),mq j (λi=>(rw.getD i []).length) F)) rw.length (mq rw.length (λi=>(rw.getD i []).length) F) Y (λj hj=>?_) (az Y<|az (dF (by omega))<|cn Y Y)<|az Y<|az f3 Y
  ·obtain⟨g1,g2⟩:=f1 j hj
   exact az Y<|az (dT (by omega))<|cj Y<|az (bN g1)<|az (bN g1)<|az Y<|az g2<|az (ap (by omega))<|az (congrArg some (b8 (by omega))) Y
  ·obtain⟨g1,g2⟩:=f2 j hj
   exact az Y<|az (dT (by omega))<|cj Y<|az (bN g1)<|az (bN g1)<|az Y<|az g2<|az (ap (by omega))<|az (congrArg some (b8 (by omega))) Y
 ·unfold xx
  refine bJ (λj=>((j:Int),mq j (λi=>(ob.getD i []).length) O)) ob.length (mq ob.length (λi=>(ob.getD i []).length) O) Y (λj hj=>?_) (az Y<|az (dF (by omega))<|cn Y Y)<|bJ (λj=>((j:Int),mq j (λi=>(rw.getD i []).length) F)) rw.length (mq rw.length (λi=>(rw.getD i []).length) F) Y (λj hj=>?_) (az Y<|az (dF (by omega))<|cn Y Y)<|az Y<|az f3' Y
  ·obtain⟨g1,g2⟩:=f1 j hj
   exact az Y<|az (dT (by omega))<|cj Y<|az (bN g1)<|az (bN g1)<|az Y<|az g2<|az (ap (by omega))<|az (congrArg some (b8 (by omega))) Y
  ·obtain⟨g1,g2⟩:=f2 j hj
   exact az Y<|az (dT (by omega))<|cj Y<|az (bN g1)<|az (bN g1)<|az Y<|az g2<|az (ap (by omega))<|az (congrArg some (b8 (by omega))) Y
end refs
end
section
open Go.Fw
def Vj(a b:List (List Qr))(F G:Nat→Nat→Rat):Prop:=∀i,i<max a.length b.length→∀j,j<max (a.getD i []).length (b.getD i []).length→F i j=G i j
instance(a b:List (List Qr))(F G:Nat→Nat→Rat):Decidable (Vj a b F G):=by unfold Vj;exact inferInstance
def Vk(n n':Int)(ob zY rw rw':List (List Qr))(bd BV:List Qr)(O O' F F':Nat→Nat→Rat)(g g':Nat→Rat):Prop:=(n=n'∧ob.length=zY.length∧rw.length=rw'.length∧bd.length=BV.length)∧(Vj ob zY O O'∧Vj rw rw' F F')∧∀i,i<max bd.length BV.length→g i=g' i
instance(n n':Int)(ob zY rw rw':List (List Qr))(bd BV:List Qr)(O O' F F':Nat→Nat→Rat)(g g':Nat→Rat):Decidable (Vk n n' ob zY rw rw' bd BV O O' F F' g g'):=by unfold Vk;exact inferInstance
section same
variable {L M K L' M' K':Nat}{n n':Int}{ob zY rw rw' a b:List (List Qr)}{bd BV:List Qr}{O O' F F' G:Nat→Nat→Rat}{g g':Nat→Rat}
theorem Yy(m:List (List Qr))(j:Nat):kK m (j:Int)=some (m.getD j []):=by
 unfold kK
 by_cases hj:j<m.length
 ·exact az Y<|az (dT (by omega))<|cj Y<|az (bN (cD (d:=[]) hj)) Y
 ·rw[dA (by omega)]
  exact az Y<|az (dF (by omega))<|cn Y Y
theorem wide(h:∀v∈a,v.length≤1000000)(i:Nat):(a.getD i []).length≤1000000:=by
 by_cases hi:i<a.length
 ·exact h _ (List.mem_of_getElem? (cD (d:=[]) hi))
 ·rw[dA (by omega)];simp
theorem Oh(ha:gb L a F)(hb:gb M b G)(h:L+M≤4000000000)(la:a.length≤1000000)(lb:b.length≤1000000)(wa:∀v∈a,v.length≤1000000)(wb:∀v∈b,v.length≤1000000):jJ a b=some (decide (Vj a b F G)):=by
 unfold jJ
 refine az (yJ (p:=λi=>∀j,j<max (a.getD i []).length (b.getD i []).length→F i j=G i j) (e:=false) (n:=max a.length b.length) (λi hi=>?_) ?_) ?_
 ·have e1:=Yx (ha.row i) (hb.row i) h (wide wa i) (wide wb i)
  refine cL<|az Y<|az Y<|BR (λ_=>az Y<|az Y Y)<|cj ?_<|az (Yy a i)<|az (Yy b i)<|az e1<|az Y ?_
  ·simp only[Bool.or_eq_true,decide_eq_true_eq];omega
  ·by_cases q:∀j,j<max (a.getD i []).length (b.getD i []).length→F i j=G i j
   ·rw[if_pos q];exact cn (decide_eq_false (λe=>e (oZ.2 q)))<|az (congrArg some (b8 (by omega))) Y
   ·rw[if_neg q];exact cj (decide_eq_true (λe=>q (oZ.1 e))) Y
 ·refine cL<|az Y<|az Y<|BR (λ_=>az Y<|az Y Y)<|cn ?_ Y
  simp only[Bool.or_eq_false_iff,decide_eq_false_iff_not];omega
 ·by_cases q:∀i,i<max a.length b.length→∀j,j<max (a.getD i []).length (b.getD i []).length→F i j=G i j
  ·rw[if_pos q,decide_eq_true (show Vj a b F G from q)]
  ·rw[if_neg q,decide_eq_false (show ¬Vj a b F G from q)]
theorem QC(ho:gb M ob O)(hr:gb L rw F)(hb:dI K bd g)(ho':gb M' zY O')(hr':gb L' rw' F')(hb':dI K' BV g')(s1:M+M'≤4000000000)(s2:L+L'≤4000000000)(s3:K+K'≤4000000000):
  fY ⟨n,ob,rw,bd⟩ ⟨n',zY,rw',BV⟩=some (decide (Vk n n' ob zY rw rw' bd BV O O' F F' g g')):=by
 unfold fY gH
 refine az (az Y<|az Y<|az Y Y)<|az (az Y<|az Y<|az Y Y)<|az Y<|Df (λh=>?_) (λh=>cL<|az (I4 ho ho' s1)<|N8 (λ_=>az (I4 hr hr' s2) Y)<|N8 (λ_=>az (VM hb hb' s3) Y) ?_)
 ·congr 1;symm;rw[decide_eq_false_iff_not]
  simp only[Bool.not_eq_true',Bool.and_eq_false_iff,beq_eq_false_iff_ne,ne_eq]at h
  unfold Vk;omega
 ·congr 1
  simp only[Bool.not_eq_false',Bool.and_eq_true,beq_iff_eq]at h
  rw[←Bool.decide_and,←Bool.decide_and,decide_eq_decide]
  exact⟨λq=>⟨by omega,q⟩,λq=>q.2⟩
theorem Vl(ho:gb M ob O)(hr:gb L rw F)(hb:dI K bd g)(ho':gb M' zY O')(hr':gb L' rw' F')(hb':dI K' BV g')(s1:M+M'≤4000000000)(s2:L+L'≤4000000000)(s3:K+K'≤4000000000)(l1:ob.length≤1000000)(l2:rw.length≤1000000)(l3:bd.length≤1000000)(l1':zY.length≤1000000)(l2':rw'.length≤1000000)(l3':BV.length≤1000000)(w1:∀v∈ob,v.length≤1000000)(w2:∀v∈rw,v.length≤1000000)(w1':∀v∈zY,v.length≤1000000)(w2':∀v∈rw',v.length≤1000000):
  jK ⟨n,ob,rw,bd⟩ ⟨n',zY,rw',BV⟩=some (decide (Vk n n' ob zY rw rw' bd BV O O' F F' g g')):=by
 unfold jK
 refine cL<|az Y<|BR (λ_=>az Y<|az Y<|az Y Y)<|BR (λ_=>az Y<|az Y<|az Y Y)<|BR (λ_=>az Y<|az Y<|az Y Y)<|Df (λh=>?_) (λh=>cL<|az (Oh ho ho' s1 l1 l1' w1 w1')<|N8 (λ_=>az (Oh hr hr' s2 l2 l2' w2 w2') Y)<|N8 (λ_=>az (Yx hb hb' s3 l3 l3')<|az Y Y) ?_)
 ·congr 1;symm;rw[decide_eq_false_iff_not]
  simp only[Bool.or_eq_true,decide_eq_true_eq]at h
  unfold Vk;omega
 ·congr 1
  simp only[Bool.or_eq_false_iff,decide_eq_false_iff_not]at h
  rw[←Bool.decide_and,←Bool.decide_and,decide_eq_decide]
  exact⟨λq=>⟨by omega,q.1,oZ.1 q.2⟩,λq=>⟨q.2.1,oZ.2 q.2.2⟩⟩
theorem Oi(ho:gb M ob O)(hr:gb L rw F)(hb:dI K bd g)(hM:M≤3000000000)(hL:L≤3000000000)(hK:K≤3000000000)(l1:ob.length≤1000000)(l2:rw.length≤1000000)(l3:bd.length≤1000000)(w1:∀v∈ob,v.length≤1000000)(w2:∀v∈rw,v.length≤1000000):
  lB ⟨n,ob,rw,bd⟩=some (n,mq ob.length (λi=>(ob.getD i []).length) O,mq rw.length (λi=>(rw.getD i []).length) F,vq bd.length g):=by
 have hone:∀x:Rat,(((1:Int):Rat))*x=x:=λx=>by
  have:(((1:Int):Rat))=1:=by decide
  rw[this];grind
 obtain⟨c,e1,r1⟩:=int' (n:=1) (by decide)
 have e2:=(Oa r1 ho (by omega) l1 w1).1
 have e3:=(Oa r1 hr (by omega) l2 w2).1
 have e4:=(EM r1 hb (by omega) l3).1
 rw[BS (G:=O) (λi _=>⟨Y,λk _=>hone _⟩)]at e2
 rw[BS (G:=F) (λi _=>⟨Y,λk _=>hone _⟩)]at e3
 rw[xL (λi _=>hone _)]at e4
 have Zw:n7 c rw=some (mq rw.length (λi=>(rw.getD i []).length) F):=by rw[←e3];rfl
 unfold lB
 exact az e1<|az e2<|az Zw<|az e4 Y
theorem I5(ho:gb M ob O)(hr:gb L rw F)(hb:dI K bd g)(hM:M≤3000000000)(hL:L≤3000000000)(hK:K≤3000000000)(hv:BX n ob rw bd){k:Nat}(hk:k<ob.length):
  ew ⟨n,ob,rw,bd⟩ (k:Int)=some (n,mq 1 (λ_=>(ob.getD k []).length) (λ_=>O k),mq rw.length (λi=>(rw.getD i []).length) F,vq bd.length g):=by
 have rU:=hv
 unfold BX at rU
 have hw1:∀v∈ob,v.length≤64:=λv hm=>by have:=nC.1 (Nat.le_refl (nB ob)) v hm;omega
 have hw2:∀v∈rw,v.length≤64:=λv hm=>by have:=nC.1 (Nat.le_refl (nB rw)) v hm;omega
 have hsub:uG ob (k:Int) ((k+1:Nat):Int)=some [ob.getD k []]:=by
  rw[GV (by omega) (by omega)]
  unfold Fw.cut
  have hg:ob.getD k []=ob[k]:=by simp[List.getD,hk]
  rw[show k+1-k=1 by omega,List.drop_eq_getElem_cons hk,hg];rfl
 have hx:gb M [ob.getD k []] (λi j=>if i=0 then O k j else 0):=Hr (ho.row k)
 have hmem:ob.getD k []∈ob:=List.mem_of_getElem? (cD (d:=[]) hk)
 have e1:=Oi (n:=n) hx hr hb hM hL hK (by simp) (by omega) (by omega) (λv hm=>by rw[List.mem_singleton.1 hm];have:=hw1 _ hmem;omega) (λv hm=>by have:=hw2 v hm;omega)
 rw[BS (n:=[ob.getD k []].length) (ln':=λ_=>(ob.getD k []).length) (G:=λ_=>O k) (λi hi=>by
  have:i=0:=by simp at hi;omega
  subst this
  exact⟨Y,λj _=>if_pos Y⟩)]at e1
 unfold ew
 refine cL<|az (tX (by omega) (by omega))<|az Y<|BR (λ_=>az Y Y)<|BR (λ_=>az Y<|az Y Y)<|cn ?_<|az (congrArg some (b8 (by omega)))<|az hsub<|az e1 Y
 simp only[Bool.or_eq_false_iff,Bool.not_eq_false',decide_eq_true_eq,decide_eq_false_iff_not]
 exact⟨⟨hv,by omega⟩,by omega⟩
end same
theorem eqb(b:Bool):(some (b==b):Option Bool)=some true:=by cases b<;>rfl
theorem Oj(p q:Lr)(op:OkL p)(oq:OkL q)(hs:szL p+szL q≤1048576):gi p q=some true:=by
 obtain⟨n,ob,rw,bd⟩:=p
 obtain⟨n',zY,rw',BV⟩:=q
 obtain⟨on,oo,or_,ob_⟩:=op
 obtain⟨on',oo',or',Vm⟩:=oq
 replace oo:Vi ob:=oo
 replace or_:Vi rw:=or_
 replace ob_:Ys bd:=ob_
 replace oo':Vi zY:=oo'
 replace or':Vi rw':=or'
 replace Vm:Ys BV:=Vm
 have z1:=Ap ob
 have z2:=Ap rw
 have z3:=Ke bd
 have z1':=Ap zY
 have z2':=Ap rw'
 have z3':=Ke BV
 replace hs:1+U8 ob+U8 rw+SA bd+1+(1+U8 zY+U8 rw'+SA BV+1)≤1048576:=hs
 obtain⟨b1,e1,s1⟩:=Hu (n:=n) (ob:=ob) (rw:=rw) (bd:=bd) (by omega) (by omega) (by omega)
 obtain⟨b2,e2,s2⟩:=Hu (n:=n') (ob:=zY) (rw:=rw') (bd:=BV) (by omega) (by omega) (by omega)
 unfold gi
 split
 ·rfl
 rename_i hg
 unfold pL
 refine cL<|az e1<|BR (λ_=>az e2 Y)<|Df (λ_=>al6) (λhb=>?_)
 have Cb:=hb
 simp only[Bool.or_eq_false_iff]at hb
 have s1:=s1 hb.1
 have s2:=s2 hb.2
 have ro:=Kf oo s1.so
 have rr:=Kf or_ s1.sr
 have rb:=SB ob_ (by omega)
 have Yv:=Kf oo' s2.so
 have Yw:=Kf or' s2.sr
 have rb':=SB Vm (by omega)
 have wo:∀v∈ob,v.length≤1000:=λv hm=>by have:=(s1.so v hm).1;omega
 have wr:∀v∈rw,v.length≤1000:=λv hm=>by have:=(s1.sr v hm).1;omega
 have wo':∀v∈zY,v.length≤1000000:=λv hm=>by have:=(s2.so v hm).1;omega
 have wr':∀v∈rw',v.length≤1000000:=λv hm=>by have:=(s2.sr v hm).1;omega
 have lo:=s1.lo
 have lr:=s1.lr
 have lb:=s1.lb
 have lo':=s2.lo
 have lr':=s2.lr
 have lb':=s2.lb
 clear s1 s2
 generalize ET ob=O at ro
 generalize ET rw=F at rr
 generalize CH bd=g at rb
 generalize ET zY=O' at Yv
 generalize ET rw'=F' at Yw
 generalize CH BV=g' at rb'
 have x1:=QC (n:=n) (n':=n') ro rr rb Yv Yw rb' (by decide) (by decide) (by decide)
 have x2:=Vl (n:=n) (n':=n') ro rr rb Yv Yw rb' (by decide) (by decide) (by decide) (by omega) (by omega) (by omega) (by omega) (by omega) (by omega) (λv hm=>by have:=wo v hm;omega) (λv hm=>by have:=wr v hm;omega) wo' wr'
 have x3:=(QB (n:=n) ro rr rb (by decide) (by decide) (by decide) (by omega) (by omega) (by omega) wo wr).1
 have x4:=Od (n:=n) (n':=n) ro rr rb (BT (ln:=λi=>(ob.getD i []).length) (n:=ob.length) (λi _ k _=>(ro.row i).fq k) (λi _=>(ro.row i).z) ro.z ro.l1) (BT (ln:=λi=>(rw.getD i []).length) (n:=rw.length) (λi _ k _=>(rr.row i).fq k) (λi _=>(rr.row i).z) rr.z rr.l1) (tW (n:=bd.length) (λi _=>rb.fq i) rb.z rb.l1) (by decide) (by decide) (by decide) Y (kp _ _ _).symm (kp _ _ _).symm (gB _ _).symm (λ_ _=>Y) (λ_ _=>Y) (λ_=>Y)
 generalize decide (Vk n n' ob zY rw rw' bd BV O O' F F' g g')=c at x1 x2
 generalize mq ob.length (λi=>(ob.getD i []).length) O=mo at x3 x4
 by_cases hv:BX n ob rw bd∧(0:Int)≤0∧(0:Int)<ob.length
 ·refine absurd ?_ hg
  have x5:=I5 ro rr rb (by decide) (by decide) (by decide) hv.1 (k:=0) (by have:=hv.2.2;omega)
  generalize mq rw.length (λi=>(rw.getD i []).length) F=mr at x3 x4 x5
  generalize vq bd.length g=vb at x3 x4 x5
  have x6:=J5 (n:=77) (by decide)
  generalize qn ((77:Int):Rat)=q77 at x6
  unfold nx
  exact cL<|az e1<|BR (λ_=>az e2 Y)<|cn Cb<|az x3<|az x5<|az x6<|cL<|az x1<|az x2<|az (eqb c)<|yI (az x4 Y)<|yI al6 Y
 ·have x5:=La (by omega) (by omega) hv
  generalize mq rw.length (λi=>(rw.getD i []).length) F=mr at x3 x4
  generalize vq bd.length g=vb at x3 x4
  exact az x3<|az x5<|az (dF (by decide))<|cn Y<|cL<|az x1<|az x2<|az (eqb c)<|yI (az x4 Y)<|yI al6 Y
end
section
open Go.Fw Go.RowKit Go.ChangeShapes Go.WideShapes Go.ChangeAt
set_option linter.unusedVariables false
set_option maxRecDepth 100000 in
theorem o3(H:Type)(enc:TypeId×Value→H)(W:World)(base:Nat)(args:Array Value)(ds gs:List (DataW H))(before:List MemPlace)
  (hval:∀(j:Nat) t v,Tryz.f4.params[j]? =some t→args[j]? =some v→Value.okWide af W .any base t v)
  (hW:DataW.Whole enc af Tryz.f4.params.toList Rows.lpSameMatchesSpec.vars false W args.toList ds gs before) (hk:Rows.uptoSmall H (ds++gs)=true):
  Calls af 4 args W λe W'=>∃v,e=.returned v∧Rows.lpSameMatchesSpec.post enc af Tryz.f4 false true false false W args v W':=by
 have hW':=hW
 obtain⟨p,q,Yg,hV,rfl,hfz,hnd⟩:=hW
 have hA:DataW.TrodAll enc af W 0 (λ_=>true) true Tryz.f4.params.toList args.toList ds p:=Yg
 rw[Tryz.params4]at hA hval
 obtain⟨v0,OI,d0,ds0,p0,q0,hargs,rfl,rfl,h0,r0⟩:=trodAll_cons hA
 obtain⟨v1,vs1,d1,ds1,p1,q1,rfl,rfl,rfl,h1,r1⟩:=trodAll_cons r0
 obtain⟨rfl,rfl,rfl⟩:=trodAll_nil r1
 obtain rfl:args=#[v0,v1]:=by cases args;simp_all
 obtain⟨rfl,rfl⟩:=trodVars_none hV
 have lt0:∀x∈p0,x.block<W.heap.size:=by obtain⟨m,hm⟩:=h0;exact DataW.trod_lt m _ _ _ hm
 obtain⟨x0,ok0,sz0,al0⟩:=Jl (P:=af) (T:=26) (e:=vu) (hval 0 26 v0 Y Y) h0
 have lt1:∀x∈p1,x.block<W.heap.size:=by obtain⟨m,hm⟩:=h1;exact DataW.trod_lt m _ _ _ hm
 obtain⟨x1,ok1,sz1,al1⟩:=Jl (P:=af) (T:=26) (e:=vu) (hval 1 26 v1 Y Y) h1
 have hsz:Rows.uptoBulk d0+Rows.uptoBulk d1≤1048576:=by
  have:=of_decide_eq_true hk;simp only[List.cons_append,List.nil_append,List.append_nil,Rows.uptoBulkAll]at this;omega
 clear Yg
 refine(O3 (rE (Oj x0 x1 ok0 ok1 (Nat.le_trans (Nat.add_le_add sz0 sz1) hsz))) (W:=W) (vs:=[v0,v1]) ⟨al0,al1,ak⟩).mono λe W' ⟨he,bel⟩=>?_
 subst he
 exact⟨_,rfl,_,_,_,[],_,[],hW',trodAll_mk1 (shut_bool Tryz.underlying4 _),(trodAll_cons_mk (Below.trod FA (by kernel_rfl) (of_decide_eq_true (by kernel_rfl)) h0 bel lt0) (trodAll_cons_mk (Below.trod FA (by kernel_rfl) (of_decide_eq_true (by kernel_rfl)) h1 bel lt1) trodAll_mk0)),rfl,bel.frame _,λh=>by cases h⟩
set_option maxRecDepth 100000 in
theorem qi(os:Os)(started:os.Started)(H:Type)(enc:TypeId×Value→H)(F:Stop.Interp):
  ReturnsInHanded {} Tryz.checked os 4 .any ((Rows.OpenSpec.upto Rows.lpSameMatchesSpec).pre6 enc af Tryz.f4 Rows.lpSameMatchesUptoRow.domain false) (((Rows.OpenSpec.upto Rows.lpSameMatchesSpec).at F).post enc af Tryz.f4 false true false false):=by
 refine returnsInHanded_of_cond (C:=Tryz.checked) (s:=Rows.OpenSpec.upto Rows.lpSameMatchesSpec) (k:=Rows.uptoSmall) Y ZX started (by kernel_rfl) Tryz.func4
  (OpenSpec.witness (enc:=enc) (C:=Tryz.checked) (s:=Rows.OpenSpec.upto Rows.lpSameMatchesSpec) (k:=Rows.uptoSmall) Y false ⟨#[],#[.agg #[.int .i64 0,.slice none 0 0,.slice none 0 0,.slice none 0 0],.agg #[.int .i64 0,.slice none 0 0,.slice none 0 0,.slice none 0 0]],[]⟩ 8 (by kernel_rfl) (by kernel_rfl) (by kernel_rfl)
   (x:=([.agg [.lit (.int .i64 0),.nil,.nil,.nil],.agg [.lit (.int .i64 0),.nil,.nil,.nil]],[],[])) (by kernel_rfl) Y (by kernel_rfl)) ?_
 intro W base args ds gs before hval hW _ hk _
 exact o3 H enc W base args ds gs before hval hW hk
theorem lpSameMatchesUpto_holds:Rows.LpSameMatchesUptoSaid:=
 OpenClaim.holds_of_cond 4 Tryz.f4 Y Y Y Y Y Y Y ⟨Y,Y,Y,Y,Y⟩ Y Y Y Y Y (by kernel_rfl) Tryz.func4 (by kernel_rfl)
  (of_decide_eq_true (by kernel_rfl)) (by unfold Func.isWrapper;first|(rw[if_pos (by decide+kernel)];kernel_rfl)|(rw[if_neg (by decide+kernel)];exact⟨Y,Y⟩))
  (λos started H enc _ F=>qi os started H enc F)
end
end Go.Proofs.YtfoldppidpmchaaGreat
