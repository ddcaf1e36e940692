/- The law LpDualDual answers true for every input. -/
import Derived.Test.YtfoldppidpmchaaGreatPSD3
set_option linter.unusedVariables false
set_option linter.unusedSimpArgs false
set_option linter.unusedSectionVars false
namespace Go.Proofs.YtfoldppidpmchaaGreat
section
open Go.Fw
theorem J6(n m:Bool){a b:Nat}(hb:0<b):
  sv n a/sv m b=(if n=true/\0<a%b then sv (!(n==m)) (a/b+1)else sv (!(n==m)) (a/b))/\
  sv n a%sv m b=(if n=true/\0<a%b then((b-a%b:Nat):Int)else((a%b:Nat):Int)):=by
 have hd:=Nat.div_add_mod a b;have hm:=Nat.mod_lt a hb
 revert hd hm
 generalize a/b=q;generalize a%b=r;intro hd hm;have hd':(b:Int)*q+r=a:=by exact_mod_cast hd
 have pos:∀n,sv n a/(b:Int)=(if n=true/\0<r then sv n (q+1)else sv n q)/\sv n a%(b:Int)=(if n=true/\0<r then((b-r:Nat):Int)else(r:Int)):=by
  intro n;apply(Int.ediv_emod_unique (by omega)).2;cases n
  ·simp[sv];omega
  by_cases hr:0<r
  ·simp only[hr,and_self,if_true,sv,cond_true];have:(b:Int)* -((q+1:Nat):Int)=-((b:Int)*q)-b:=by
    rw[Int.mul_neg,Int.natCast_add,Int.mul_add];simp;omega
   rw[this];omega
  have:r=0:=by omega
  subst this;simp[sv,Int.mul_neg];omega
 cases m
 ·have:=pos n;rw[iw,show(!(n==false))=n by cases n<;>rfl];exact this
 have:=pos n;rw[show sv true b=-(b:Int)from rfl,Int.ediv_neg,Int.emod_neg,this.1,this.2,show(!(n==true))= !n by cases n<;>rfl,yD,yD];refine⟨?_,Y⟩;split<;>rfl
theorem QI{a b:Nat}(hba:b<=a)(uw:(can 4294967296 a).length<=35184372088788):cE (can 4294967296 a) (can 4294967296 b)=some (dA 4294967296 (can 4294967296 a).length (a-b))/\vl (dA 4294967296 (can 4294967296 a).length (a-b))=a-b:=by
 have lc:=cc (B:=4294967296) (by decide) a;have QH:(can 4294967296 b).length<=(can 4294967296 a).length:=(bJ (by decide)).2 (by omega);constructor
 ·rw[vX _ _ (fD (by omega)) (fD (by omega)) QH (by rw[dN,dN];exact hba),dN,dN]
 show val _ _=_;rw[jP,Nat.mod_eq_of_lt (by omega)]
def Dn(i j:Int):Zr×Zr×Int:=if j=0 then(⟨false,[]⟩,⟨false,[]⟩,7)else(zn (i/j),zn (i%j),0)
theorem divMod_eq{x y:Zr}(hx:Wl x)(hy:Wl y):dW x y=some (Dn (zi x) (zi y)):=by
 obtain⟨n,w⟩:=x;obtain⟨m,u⟩:=y;unfold dW;have Uz:(can 4294967296 (vl w)).length<=35184372088788:=hx.cl;have TP:(can 4294967296 (vl u)).length<=35184372088788:=hy.cl;simp only[];rw[show bn w=some (can 4294967296 (vl w))from hx.trim,show bn u=some (can 4294967296 (vl u))from hy.trim,bD,bD,show zi ⟨n,w⟩=sv n (vl w)from Y,show zi ⟨m,u⟩=sv m (vl u)from rfl];simp only[bD,cg];generalize vl w=a at*;generalize vl u=b at*;by_cases h0:b=0
 ·subst h0;rw[show sv m 0=0 by cases m<;>rfl];rfl
 have ri:(can 4294967296 b).length≠0:=λh=>h0 (mL.1 h);rw[show decide (((can 4294967296 b).length:Int)=0)=false by simp;intro e;rw[e]at ri;exact ri Y,fg];obtain⟨q,r,hqr,TQ,UA,TS,hr2,XE,hr3⟩:=vY a b Uz TP h0;have hm:a%b<b:=Nat.mod_lt _ (by omega);obtain⟨e1,e2⟩:=J6 n m (a:=a) (show 0<b by omega);have hj:sv m b≠0:=by cases m<;>simp[sv]<;>omega
 rw[hqr,bD];simp only[];rw[tZ r (by have:=TS.2;omega),iv (by decide) TS.1,show val 4294967296 r=a%b from hr2,bD,Dn,if_neg hj,e1,e2];have hrl:(can 4294967296 (a%b)).length<=(can 4294967296 b).length:=(bJ (by decide)).2 (Nat.lt_trans hm (cc (by decide) b));have hK:∀c:Bool,(decide (n=true/\0<a%b)=c)->(bif c then(dL q [1]).bind λoP=>(cE (can 4294967296 b) (can 4294967296 (a%b))).bind λo8=>(bZ (!(n==m)) oP).bind λx=>(bZ false o8).bind λx_1=>some ((⟨x.neg,x.w⟩:Zr),(⟨x_1.neg,x_1.w⟩:Zr),(0:Int))
   else(bZ (!(n==m)) q).bind λx=>(bZ false (can 4294967296 (a%b))).bind λx_1=>some ((⟨x.neg,x.w⟩:Zr),(⟨x_1.neg,x_1.w⟩:Zr),(0:Int)))=
   some (zn (if n=true/\0<a%b then sv (!(n==m)) (a/b+1)else sv (!(n==m)) (a/b)),zn (if n=true/\0<a%b then((b-a%b:Nat):Int)else((a%b:Nat):Int)),0):=by
  intro c hc;cases c
  ·have J7:=of_decide_eq_false hc;rw[fg,if_neg J7,if_neg J7,iQ _ _ TQ.x,bD,iQ _ _ (fD (by omega)).x,bD,dN,UA,mK,mK,iw]
  have J7:=of_decide_eq_true hc;obtain⟨s1,s2⟩:=QI (a:=b) (b:=a%b) (by omega) TP;have w1:Bz [1]:=⟨by simp,by simp⟩;rw[eK,if_pos J7,if_pos J7,vW _ _ TQ w1,bD,s1,bD,iQ _ _ ⟨λx hx=>lK (by decide) _ _ _ hx,by rw[bB];simp;omega⟩,bD,iQ _ _ ⟨λx hx=>lK (by decide) _ _ _ hx,by rw[bB];omega⟩,bD,s2,mK,mK,iw];have:vl (dA 4294967296 (max q.length [1].length+1) (vl q+vl [1]))=a/b+1:=by
   show val _ _=_;rw[jP,show vl [1]=1 by decide,UA,Nat.mod_eq_of_lt];have h1:vl q<4294967296^q.length:=ew q TQ.1;rw[UA]at h1;have h2:4294967296^q.length<=4294967296^(max q.length [1].length):=Nat.pow_le_pow_right (by decide) (by omega);have h3:0<4294967296^(max q.length [1].length):=Nat.pow_pos (by decide);rw[Nat.pow_succ];omega
  rw[this]
 have hz:(0<(can 4294967296 (a%b)).length)↔0<a%b:=by
  have:=mL (v:=a%b);omega
 cases n
 ·rw[fg,bD];exact hK false (by simp)
 rw[eK,bD];refine hK _ ?_;simp only[true_and];by_cases h:0<a%b
 ·simp[h,hz.2 h]
 have h':¬0<(can 4294967296 (a%b)).length:=λe=>h (hz.1 e);have h'':¬((0:Int)<((can 4294967296 (a%b)).length:Int)):=by omega
 simp only[h,h'',decide_false]
theorem QJ{x y:Zr}(hx:Wl x)(hy:Wl y):ji x y=some (zn (Int.gcd (zi x) (zi y):Int)):=by
 obtain⟨n,w⟩:=x;obtain⟨m,u⟩:=y;unfold ji;have Uz:(can 4294967296 (vl w)).length<=35184372088788:=hx.cl;have TP:(can 4294967296 (vl u)).length<=35184372088788:=hy.cl;simp only[];rw[show bn w=some (can 4294967296 (vl w))from hx.trim,show bn u=some (can 4294967296 (vl u))from hy.trim,bD,bD,Int.gcd,qc,qc];show _=some (zn ((Nat.gcd (vl w) (vl u):Nat):Int));generalize vl w=a at*;generalize vl u=b at*;refine fX (λs=>∃c d,s=(can 4294967296 c,can 4294967296 d)/\Nat.gcd c d=Nat.gcd a b/\(can 4294967296 c).length<=35184372088788/\(can 4294967296 d).length<=35184372088788)
  (λs=>∃c d,s=(can 4294967296 c,can 4294967296 d)/\Nat.gcd c d=Nat.gcd a b/\(can 4294967296 c).length<=35184372088788/\(d=0\/(c<18446744073709551616/\d<18446744073709551616))) (λs=>vl s.2) ?_ ⟨a,b,Y,Y,Uz,TP⟩ ?_
 ·rintro _ ⟨c,d,rfl,hg,hc,hd⟩;simp only[bD,cg];by_cases h0:d=0
  ·right;subst h0;exact⟨_,Y,c,0,Y,hg,hc,.inl Y⟩
  have ri:(can 4294967296 d).length≠0:=λh=>h0 (mL.1 h);rw[show decide ((0:Int)<((can 4294967296 d).length:Int))=true by simp;omega,eK];by_cases h2:c<18446744073709551616/\d<18446744073709551616
  ·right;have c1:=eW.2 h2.1;have c2:=eW.2 h2.2;rw[show decide ((2:Int)<((can 4294967296 c).length:Int))=false by simp;omega,fg,show decide ((2:Int)<((can 4294967296 d).length:Int))=false by simp;omega];exact⟨_,Y,c,d,Y,hg,hc,.inr h2⟩
  left;have hm:c%d<d:=Nat.mod_lt _ (by omega);obtain⟨q,r,hqr,TQ,UA,TS,hr2,-,-⟩:=vY c d hc hd h0;have sI:((bif decide ((2:Int)<((can 4294967296 c).length:Int))then some true else some (decide ((2:Int)<((can 4294967296 d).length:Int)))):Option Bool)=some true:=by
   by_cases DO:c<18446744073709551616
   ·have hd2:¬d<18446744073709551616:=λh=>h2 ⟨DO,h⟩;have:¬(((can 4294967296 d).length:Int)<=2):=λh=>hd2 (eW.1 h);rw[show decide ((2:Int)<((can 4294967296 d).length:Int))=true by simp;omega];exact uf _ _
   have:¬(((can 4294967296 c).length:Int)<=2):=λh=>DO (eW.1 h);rw[show decide ((2:Int)<((can 4294967296 c).length:Int))=true by simp;omega,eK]
  rw[sI,bD,bD,eK,hqr,bD];simp only[];rw[tZ r (by have:=TS.2;omega),iv (by decide) TS.1,show val 4294967296 r=c%d from hr2,bD];refine⟨_,Y,⟨d,c%d,Y,?_,hd,?_⟩,?_⟩
  ·rw[<-hg,Nat.gcd_comm d,<-Nat.gcd_rec,Nat.gcd_comm]
  ·exact Nat.le_trans ((bJ (by decide)).2 (Nat.lt_trans hm (cc (by decide) d))) hd
  simp only[dN];exact hm
 rintro _ ⟨c,d,rfl,hg,hc,J1⟩;simp only[bD];by_cases h0:d=0
 ·subst h0;rw[show decide (((can 4294967296 0).length:Int)=0)=true by simp[mJ],eK,ud _ (by omega),bD,iQ _ _ (fD (by omega)).x,bD,dN,mK,iw,<-hg,Nat.gcd_zero_right]
 have h2:=J1.resolve_left h0;have ri:(can 4294967296 d).length≠0:=λh=>h0 (mL.1 h);have c1:=eW.2 h2.1;have c2:=eW.2 h2.2;rw[show decide (((can 4294967296 d).length:Int)=0)=false by simp;intro e;rw[e]at ri;exact ri Y,fg,low_eq _ (λ_ hx=>ei (by decide) hx) (by omega),bD,low_eq _ (λ_ hx=>ei (by decide) hx) (by omega),bD,dN,dN];refine fX (λs=>Nat.gcd s.1 s.2=Nat.gcd a b/\s.1<18446744073709551616/\s.2<18446744073709551616) (λe=>e=Nat.gcd a b/\e<18446744073709551616) (λs=>s.2) ?_ ⟨hg,h2.1,h2.2⟩ ?_
 ·rintro⟨s,t⟩ ⟨i1,i2,i3⟩;simp only at i1 i2 i3⊢;by_cases ht:0<t
  ·left;rw[show decide (0<t)=true by simp[ht],eK,wU (by omega),bD];refine⟨_,Y,⟨?_,i3,?_⟩,Nat.mod_lt _ ht⟩
   ·rw[<-i1,Nat.gcd_comm t,<-Nat.gcd_rec,Nat.gcd_comm]
   exact Nat.lt_trans (Nat.mod_lt _ ht) i3
  right;rw[show decide (0<t)=false by simp[ht],fg];refine⟨_,Y,?_,i2⟩;rw[<-i1,show t=0 by omega,Nat.gcd_zero_right]
 rintro e ⟨rfl,he⟩;rw[nP _ _ he,bD,mK,iw]
end
section
open Go.Fw
def zl(l:List Nat):List Int:=l.map (λ(n:Nat)=>(n:Int))
theorem dH(l:List Nat):(zl l).length=l.length:=by simp[zl]
theorem vi{l:List Nat}{i x:Nat}(h:l[i]? =some x):(zl l)[i]? =some (x:Int):=by simp[zl,h]
theorem BD(l k:List Nat):zl (l++k)=zl l++zl k:=by simp[zl]
theorem ER(x:Nat):zl [x]=[(x:Int)]:=rfl
theorem Mf(l:List Nat)(n:Nat):(zl l).take n=zl (l.take n):=by simp[zl,List.map_take]
theorem J8(l:List Nat)(i x:Nat):(zl l).set i (x:Int)=zl (l.set i x):=by simp[zl,List.map_set]
def R32(l:List Nat):Prop:=(∀x∈l,x<4294967296)/\l.length<=100000000000
def DJ(l:List Nat):Prop:=(∀x∈l,x<65536)/\l.length<=100000000000
abbrev mX(l:List Nat):Nat:=val 65536 l
def Wr(z:Zr):Prop:=(∀x∈z.w,x<4294967296)/\z.w.length<=10000000000
theorem Dp{L:Nat}{i:Int}(h:Fit L i)(hL:L<=10000000000):Wr (zn i):=
 ⟨λ_ hx=>ei (by decide) hx,Nat.le_trans ((bJ (by decide)).2 h) hL⟩
theorem iS(l:List Nat)(hl:l.length<=1000000000000):cJ (zl l)=some (zl (iu l)):=by
 unfold cJ;simp only[bD];refine fX (λy=>∃n:Nat,y=(n:Int)/\n<=l.length/\iu (l.take n)=iu l) (λy=>∃n:Nat,y=(n:Int)/\n<=l.length/\l.take n=iu l) (λy=>y.toNat) ?_ ⟨l.length,by rw[dH],Nat.le_refl _,by rw[List.take_length]⟩ ?_
 ·rintro _ ⟨n,rfl,hn,ht⟩;simp only[cg];rcases n with _|n
  ·right;refine⟨_,Y,0,Y,by omega,?_⟩;rw[<-ht];rfl
  have hi:∃x,l[n]? =some x:=⟨l[n],by simp⟩;obtain⟨x,hx⟩:=hi;have htk:l.take (n+1)=l.take n++[x]:=by
   rw[List.take_add_one,hx];rfl
  rw[show decide ((0:Int)<((n+1:Nat):Int))=true by rw[decide_eq_true_eq];omega,eK,yt (by omega),bO (vi hx),bD];by_cases h0:x=0
  ·left;subst h0;rw[show decide (((0:Nat):Int)=0)=true by simp,bD,eK];refine⟨_,Y,⟨n,Y,by omega,?_⟩,by omega⟩;rw[<-ht,htk,mI]
  right;rw[show decide (((x:Nat):Int)=0)=false by simp;omega,bD,fg];refine⟨_,Y,n+1,Y,hn,?_⟩;rw[<-ht,htk,oC _ h0]
 rintro _ ⟨n,rfl,hn,ht⟩;rw[l9 (by rw[dH];exact hn),bD,Mf,ht]
theorem vZ{l:List Nat}(h:∀x∈l,x<65536)(i:Nat):dc (zl l) (i:Int)=some ((mX l/65536^i%65536:Nat):Int):=by
 unfold dc;simp only[bD];rw[dH];by_cases hi:i<l.length
 ·rw[show decide ((i:Int)<(l.length:Int))=true by simp[hi],eK,bO (vi (jQ h hi)),bD]
 rw[show decide ((i:Int)<(l.length:Int))=false by simp;omega,fg];have:mX l/65536^i=0:=Nat.div_eq_of_lt (Nat.lt_of_lt_of_le (ew l h) (Nat.pow_le_pow_right (by decide) (by omega)));rw[this];rfl
theorem ES(V k:Nat):dA 65536 (2*k) V++[V/4294967296^k%4294967296%65536,V/4294967296^k%4294967296/65536]=dA 65536 (2*(k+1)) V:=by
 have e:65536^(2*k)=4294967296^k:=by rw[Nat.pow_mul]
 rw[show 2*(k+1)=2*k+1+1 by omega,fY,fY,Nat.pow_succ,e,<-Nat.div_div_eq_div_mul,List.append_assoc];generalize V/4294967296^k=x;rw[show x%4294967296%65536=x%65536 by omega,show x%4294967296/65536=x/65536%65536 by omega];rfl
theorem G1(w:List Nat)(hw:R32 w):bY w=some (zl (can 65536 (vl w))):=by
 obtain⟨hl,hn⟩:=hw;unfold bY;refine bF (λi=>((i:Int),zl (dA 65536 (2*i) (vl w)))) w.length (zl (dA 65536 (2*w.length) (vl w))) ?_ (λk hk=>?_) ?_ ?_
 ·rfl
 ·have hg:=jQ hl hk;have hlt:=Nat.mod_lt (val 4294967296 w/4294967296^k) (show 0<4294967296 by decide);have hv:=ES (vl w) k;simp only[bD];rw[show decide ((k:Int)<(w.length:Int))=true by simp[hk],eK,bO hg,bD,bD,fO (by omega),fO (by omega),Qp (by decide) (by rw[dH,bB];simp;omega),bD,b8 (by omega)];rw[<-hv,BD];rw[show val 4294967296 w/4294967296^k%4294967296/65536%4294967296=val 4294967296 w/4294967296^k%4294967296/65536 by omega];rfl
 ·simp
 rw[iS _ (by rw[bB];omega),bD,lq (by decide)];rw[Nat.pow_mul];exact ew w hl
theorem Dq(k:Nat):65536^(2*k)=4294967296^k:=by rw[Nat.pow_mul]
theorem ET(v:Nat):can 4294967296 v=dA 4294967296 (((can 65536 v).length+1)/2) v:=by
 have h1:=cc (B:=65536) (by decide) v;obtain⟨n,hn⟩:∃n,(can 65536 v).length=n:=⟨_,Y⟩;rw[hn]at h1⊢;have h2:v<4294967296^((n+1)/2):=by
  rw[<-Dq];exact Nat.lt_of_lt_of_le h1 (Nat.pow_le_pow_right (by decide) (by omega))
 rw[FD (by decide) v];congr 1;have h3:=(bJ (B:=4294967296) (by decide)).2 h2;refine Nat.le_antisymm h3 ?_;rcases n with _|n
 ·simp
 have h4:65536^n<=v:=nA (by decide) (by omega);obtain⟨m,hm⟩:∃m,(n+1+1)/2=m+1:=⟨n/2,by omega⟩;rw[hm];rcases Nat.lt_or_ge m (can 4294967296 v).length with h|h
 ·exact h
 have h5:=(bJ (B:=4294967296) (by decide)).1 h;rw[<-Dq]at h5;have:65536^(2*m)<=65536^n:=Nat.pow_le_pow_right (by decide) (by omega);omega
theorem of_eq(n:Bool)(l:List Nat)(hl:DJ l):dg n (zl l)=some (zc n (mX l)):=by
 obtain⟨h,hn⟩:=hl;unfold dg;rw[iS _ (by omega),bD,iv (by decide) h];have hc:(can 65536 (val 65536 l)).length<=l.length:=(bJ (by decide)).2 (ew l h);show _=some (zc n (val 65536 l));generalize val 65536 l=v at*;have uw:∀x∈can 65536 v,x<65536:=λ_ hx=>ei (by decide) hx;have Q0:=λi=>vZ uw i;refine bF (λi=>(((2*i:Nat):Int),dA 4294967296 i v)) (((can 65536 v).length+1)/2) (can 4294967296 v) ?_ (λk hk=>?_) ?_ ?_
 ·rfl
 ·have a1:=Q0 (2*k);have a2:=Q0 (2*k+1);rw[show mX (can 65536 v)=v from iD (by decide) v]at a1 a2;rw[Dq]at a1;rw[Nat.pow_succ,Dq,<-Nat.div_div_eq_div_mul]at a2;simp only[bD];rw[dH,show decide (((2*k:Nat):Int)<((can 65536 v).length:Int))=true by simp;omega,eK,a1,bD,b8 (by omega),a2,bD];rw[fY];have e:((((v/4294967296^k%65536:Nat):Int)%4294967296).toNat+(((v/4294967296^k/65536%65536:Nat):Int)%4294967296).toNat*65536%4294967296)%4294967296=v/4294967296^k%4294967296:=by
   generalize v/4294967296^k=x;omega
  rw[e,vc (by decide) (by rw[bB];omega),bD,show((2*k:Nat):Int)+2=((2*(k+1):Nat):Int) by omega,fO (by omega)]
 ·simp only[bD];rw[dH,show decide (((2*(((can 65536 v).length+1)/2):Nat):Int)<((can 65536 v).length:Int))=false by simp;omega,fg,<-ET]
 simp only[cg];rw[zc];have hz:=mL (v:=v);cases n
 ·rw[fg,bD];rfl
 rw[eK,bD,bD,bD];congr 2;by_cases h0:v=0
 ·rw[h0];rfl
 have:¬(can 4294967296 v).length=0:=λe=>h0 (hz.1 e);rw[show decide ((0:Int)<((can 4294967296 v).length:Int))=true by rw[decide_eq_true_eq];omega,show(true&&v != 0)=true by simp[h0]]
theorem qf(n:Bool)(v:Nat)(hl:(can 65536 v).length<=100000000000):dg n (zl (can 65536 v))=some (zn (sv n v)):=by
 rw[of_eq n _ ⟨λ_ hx=>ei (by decide) hx,hl⟩,show mX (can 65536 v)=v from iD (by decide) v,mK]
theorem G2{w:List Nat}(hw:∀x∈w,x<4294967296):(can 65536 (vl w)).length<=2*w.length:=by
 apply(bJ (by decide)).2;rw[Dq];exact ew w hw
theorem gH{x:Zr}(h:Wr x):bY x.w=some (zl (can 65536 (zi x).natAbs)):=by
 rw[qc];exact G1 _ ⟨h.1,by have:=h.2;omega⟩
theorem Wr.Mg{x:Zr}(h:Wr x):(can 65536 (zi x).natAbs).length<=20000000000:=by
 rw[qc];have:=G2 h.1;have:=h.2;omega
theorem Dr{x:Zr}(h:Wr x):fG x=some (zn (zi x)):=by
 obtain⟨n,w⟩:=x;have h1:=gH h;have h2:=h.Mg;unfold fG;simp only[];rw[show bY w=_ from h1,bD,qf _ _ (by omega),bD,qc];rfl
theorem from_eq{x:Int}(h:cY x):fB x=some (zn x):=by
 unfold cY at h;have key:∀(v:Nat) (n:Bool),v<18446744073709551616->((fG ⟨n,[v%4294967296%4294967296,v/4294967296%18446744073709551616%4294967296]⟩).bind λx=>some (⟨x.neg,x.w⟩:Zr))=some (zn (sv n v)):=by
  intro v n hv;rw[Dr ⟨by simp;omega,by simp⟩,bD];show some (zn (sv n (vl _)))=_;congr 3;simp only[vl,val];omega
 unfold fB;simp only[bD,cg];by_cases hx:x<0
 ·have e:(x%18446744073709551616).toNat=18446744073709551616-x.natAbs:=by omega
  rw[show decide (x<0)=true by simp[hx],eK,e,tR (by omega) (by omega),show 18446744073709551616+0-(18446744073709551616-x.natAbs)=x.natAbs by omega,key _ _ (by omega),show sv true x.natAbs=x by simp[sv];omega]
 have e:(x%18446744073709551616).toNat=x.natAbs:=by omega
 rw[show decide (x<0)=false by simp[hx],fg,e,key _ _ (by omega),show sv false x.natAbs=x by simp[sv];omega]
end
section
open Go.Fw
theorem zeta'(z:Zr):(⟨z.neg,z.w⟩:Zr)=z:=by cases z;rfl
theorem me{i:Int}(h:cY i):Fit 2 i:=Fit.i64 h.1 h.2
theorem J9{i:Int}(h:cY i):Wr (zn i):=Dp (me h) (by decide)
end
section
open Go.Fw
theorem Mh(l:List Zr)(hl:l.length<=100):∃b,jL l=some b/\(b=false->∀z∈l,z.w.length<=12):=by
 unfold jL;simp only[bD];refine lY (λy=>∃i:Nat,y=(i:Int)/\i<=l.length/\∀z∈l.take i,z.w.length<=12) (λe=>(∃c,e=.inl c/\∀z∈l,z.w.length<=12)\/e=.inr true) (λy=>l.length-y.toNat) ?_ ⟨0,Y,by omega,by simp⟩ ?_
 ·rintro _ ⟨i,rfl,hi,ht⟩;by_cases hlt:i<l.length
  ·have g:l[i]? =some l[i]:=by simp
   rw[show decide ((i:Int)<(l.length:Int))=true by simp[hlt],eK,bO g,bD];by_cases fW:l[i].w.length<=12
   ·left;rw[show decide ((12:Int)<(l[i].w.length:Int))=false by rw[decide_eq_false_iff_not];omega,fg,b8 (by omega)];refine⟨_,Y,⟨i+1,Y,hlt,?_⟩,by omega⟩;rw[List.take_add_one,g];intro z hz;rcases List.mem_append.1 hz with h|h
    ·exact ht z h
    simp at h;rw[h];exact fW
   right;rw[show decide ((12:Int)<(l[i].w.length:Int))=true by rw[decide_eq_true_eq];omega,eK];exact⟨_,Y,.inr Y⟩
  right;rw[show decide ((i:Int)<(l.length:Int))=false by simp;omega,fg];rw[List.take_of_length_le (by omega)]at ht;exact⟨_,Y,.inl ⟨_,Y,ht⟩⟩
 rintro e (⟨c,rfl,he⟩|rfl)
 ·exact⟨false,Y,λ_=>he⟩
 exact⟨true,rfl,λh=>by cases h⟩
theorem Ka(i j:Int):(i-j).sign=jc i j:=by
 rcases Int.lt_trichotomy i j with h|h|h
 ·rw[fP h,Int.sign_eq_neg_one_of_neg (by omega)]
 ·rw[h,mc,Int.sub_self];rfl
 rw[fQ h,Int.sign_eq_one_of_pos (by omega)]
theorem G3(i j:Int):IntKind.i64.wrap (0-jc j i)=jc i j:=by
 rcases Int.lt_trichotomy i j with h|h|h
 ·rw[fP h,fQ h];rfl
 ·rw[h,mc];rfl
 rw[fQ h,fP h];rfl
abbrev OkZ(z:Zr):Prop:=True/\(z.w.length*4<=140737488351232/\∀x∈z.w,x<4294967296)
end
section
open Go.Fw
def qd(q:Qr):Int:=if zi q.den=0 then 1 else zi q.den
def qv(q:Qr):Rat:=Rat.divInt (zi q.num) (qd q)
def qn(r:Rat):Qr:=⟨zn r.num,if r.den=1 then⟨false,[]⟩else zn (r.den:Int)⟩
def FQ(L:Nat)(r:Rat):Prop:=Fit L r.num/\Fit L (r.den:Int)
structure iE (L:Nat) (q:Qr) (r:Rat):Prop where
 n:∀x∈q.num.w,x<4294967296
 d:∀x∈q.den.w,x<4294967296
 ln:q.num.w.length<=L
 ld:q.den.w.length<=L
 l1:1<=L
 v:qv q=r
theorem TT(q:Qr):qd q≠0:=by
 unfold qd;by_cases h:zi q.den=0
 ·rw[if_pos h];decide
 rw[if_neg h];exact h
theorem TU(r:Rat):qv (qn r)=r:=by
 unfold qv qd qn;by_cases h:r.den=1
 ·rw[if_pos h];show Rat.divInt (zi (zn r.num)) (if zi ⟨false,[]⟩=0 then 1 else zi ⟨false,[]⟩)=r;rw[if_pos (show zi ⟨false,[]⟩=0 from rfl),eA];have:=Rat.num_divInt_den r;rw[h]at this;exact this
 rw[if_neg h];show Rat.divInt (zi (zn r.num)) (if zi (zn (r.den:Int))=0 then 1 else zi (zn (r.den:Int)))=r;have:=r.den_nz;rw[eA,eA,if_neg (by omega),Rat.num_divInt_den]
theorem FO{w:List Nat}{n:Bool}{L:Nat}(h:∀x∈w,x<4294967296)(hl:w.length<=L):Fit L (zi ⟨n,w⟩):=by
 unfold Fit;rw[qc];exact Nat.lt_of_lt_of_le (ew w h) (Nat.pow_le_pow_right (by decide) hl)
theorem ug{L:Nat}(h:1<=L):Fit L 1:=by
 unfold Fit;exact Nat.lt_of_lt_of_le (show(1:Int).natAbs<4294967296^1 by decide) (Nat.pow_le_pow_right (by decide) h)
theorem FQ.rep{L:Nat}{r:Rat}(h:FQ L r)(h1:1<=L):iE L (qn r) r:=by
 refine⟨λx hx=>ei (by decide) hx,?_,(bJ (by decide)).2 h.1,?_,h1,TU r⟩
 ·unfold qn;by_cases e:r.den=1
  ·rw[if_pos e];simp
  rw[if_neg e];exact λx hx=>ei (by decide) hx
 unfold qn;by_cases e:r.den=1
 ·rw[if_pos e];simp
 rw[if_neg e];exact(bJ (by decide)).2 h.2
theorem iE.wn{L:Nat}{q:Qr}{r:Rat}(h:iE L q r)(hL:L<=35184372088788):Wl q.num:=⟨h.n,Nat.le_trans h.ln hL⟩
theorem iE.wd{L:Nat}{q:Qr}{r:Rat}(h:iE L q r)(hL:L<=35184372088788):Wl q.den:=⟨h.d,Nat.le_trans h.ld hL⟩
theorem iE.fn{L:Nat}{q:Qr}{r:Rat}(h:iE L q r):Fit L (zi q.num):=FO (n:=q.num.neg) h.n h.ln
theorem iE.fd{L:Nat}{q:Qr}{r:Rat}(h:iE L q r):Fit L (zi q.den):=FO (n:=q.den.neg) h.d h.ld
theorem iE.fqd{L:Nat}{q:Qr}{r:Rat}(h:iE L q r):Fit L (qd q):=by
 unfold qd;by_cases e:zi q.den=0
 ·rw[if_pos e];exact ug h.l1
 rw[if_neg e];exact h.fd
theorem iE.mono{L M:Nat}{q:Qr}{r:Rat}(h:iE L q r)(hl:L<=M):iE M q r:=⟨h.n,h.d,Nat.le_trans h.ln hl,Nat.le_trans h.ld hl,Nat.le_trans h.l1 hl,h.v⟩
theorem FQ.mono{L M:Nat}{r:Rat}(h:FQ L r)(hl:L<=M):FQ M r:=⟨h.1.mono hl,h.2.mono hl⟩
theorem qC{L:Nat}{a d:Int}(h0:d≠0)(ha:Fit L a)(hd:Fit L d):FQ L (Rat.divInt a d):=by
 generalize hr:Rat.divInt a d=r;obtain⟨n',d',z',c⟩:=r;obtain⟨m,hm,h1,h2⟩:=Rat.divInt_num_den h0 hr;have hm':0<m.natAbs:=Int.natAbs_pos.2 hm;refine⟨ha.le ?_,hd.le ?_⟩
 ·rw[h1,Int.natAbs_mul];exact Nat.le_mul_of_pos_right _ hm'
 rw[h2,Int.natAbs_mul];exact Nat.le_mul_of_pos_right _ hm'
theorem iE.fq{L:Nat}{q:Qr}{r:Rat}(h:iE L q r):FQ L r:=by rw[<-h.v];exact qC (TT q) h.fn h.fqd
theorem qD(r:Rat):r=Rat.divInt r.num (r.den:Int):=(Rat.num_divInt_den r).symm
theorem nB(r:Rat):(r.den:Int)≠0:=by have:=r.den_nz;omega
theorem FQ.add{L M:Nat}{x y:Rat}(hx:FQ L x)(hy:FQ M y):FQ (L+M+1) (x+y):=by
 have e:x+y=Rat.divInt (x.num*y.den+y.num*x.den) (x.den*y.den):=by
  conv=>lhs;rw[qD x,qD y,Rat.divInt_add_divInt _ _ (nB x) (nB y)]
 rw[e];refine qC (Int.mul_ne_zero (nB x) (nB y)) ?_ ?_
 ·exact(hx.1.mul hy.2).add (by rw[Nat.add_comm L M];exact hy.1.mul hx.2)
 exact(hx.2.mul hy.2).mono (by omega)
theorem FQ.sub{L M:Nat}{x y:Rat}(hx:FQ L x)(hy:FQ M y):FQ (L+M+1) (x-y):=by
 have e:x-y=Rat.divInt (x.num*y.den-y.num*x.den) (x.den*y.den):=by
  conv=>lhs;rw[qD x,qD y,Rat.divInt_sub_divInt _ _ (nB x) (nB y)]
 rw[e];refine qC (Int.mul_ne_zero (nB x) (nB y)) ?_ ?_
 ·exact(hx.1.mul hy.2).sub (by rw[Nat.add_comm L M];exact hy.1.mul hx.2)
 exact(hx.2.mul hy.2).mono (by omega)
theorem FQ.mul{L M:Nat}{x y:Rat}(hx:FQ L x)(hy:FQ M y):FQ (L+M) (x*y):=by
 have e:x*y=Rat.divInt (x.num*y.num) (x.den*y.den):=by
  conv=>lhs;rw[qD x,qD y,Rat.divInt_mul_divInt]
 rw[e];exact qC (Int.mul_ne_zero (nB x) (nB y)) (hx.1.mul hy.1) (hx.2.mul hy.2)
theorem FQ.neg{L:Nat}{x:Rat}(hx:FQ L x):FQ L (-x):=⟨hx.1.neg,hx.2⟩
theorem FQ.int{L:Nat}{i:Int}(h:Fit L i)(h1:1<=L):FQ L (i:Rat):=⟨h,ug h1⟩
def nR(x y:Rat):Int:=if x<y then-1 else if x=y then 0 else 1
theorem Aa(x:Rat):nR x x=0:=by unfold nR;rw[if_neg Rat.lt_irrefl,if_pos rfl]
theorem Mi{x y:Rat}(h:y<x):nR x y=1:=by
 unfold nR;rw[if_neg (λh'=>by grind),if_neg (λh'=>by grind)]
theorem G4{a b c d:Int}(hb:0<b)(hd:0<d):Rat.divInt a b<Rat.divInt c d↔a*d<c*b:=by
 have hb':(0:Rat)<(b:Rat):=Rat.intCast_pos.2 hb;have hd':(0:Rat)<(d:Rat):=Rat.intCast_pos.2 hd;rw[Rat.divInt_eq_div,Rat.divInt_eq_div,Rat.div_lt_iff hb',Rat.div_def,Rat.mul_assoc,Rat.mul_comm (d:Rat)⁻¹,<-Rat.mul_assoc,<-Rat.div_def,Rat.lt_div_iff hd',<-Rat.intCast_mul,<-Rat.intCast_mul,Rat.intCast_lt_intCast]
theorem Ds{a b c d:Int}(hb:0<b)(hd:0<d):nR (Rat.divInt a b) (Rat.divInt c d)=jc (a*d) (c*b):=by
 unfold nR jc;have e1:=G4 (a:=a) (c:=c) hb hd;have e2:=Rat.divInt_eq_divInt_iff (n₁:=a) (d₁:=b) (n₂:=c) (d₂:=d) (by omega) (by omega);by_cases h1:a*d<c*b
 ·rw[if_pos (e1.2 h1),if_pos h1]
 rw[if_neg (λh=>h1 (e1.1 h)),if_neg h1];by_cases h2:a*d=c*b
 ·rw[if_pos (e2.2 h2),if_pos h2]
 rw[if_neg (λh=>h2 (e2.1 h)),if_neg h2]
theorem qg{a b:Int}(hb:0<b):a.sign=nR (Rat.divInt a b) 0:=by
 have:(0:Rat)=Rat.divInt 0 1:=rfl;rw[this,Ds hb (by decide),Int.mul_one,Int.zero_mul,<-Ka,Int.sub_zero]
theorem vk{a d:Int}(hd:0<d):qn (Rat.divInt a d)=⟨zn (a/(Int.gcd a d:Int)),if d/(Int.gcd a d:Int)=1 then⟨false,[]⟩else zn (d/(Int.gcd a d:Int))⟩:=by
 have h1:(Rat.divInt a d).num=a/(Int.gcd a d:Int):=by rw[Rat.num_divInt,Int.sign_eq_one_of_pos hd,Int.one_mul,Int.gcd_comm]
 have h2:((Rat.divInt a d).den:Int)=d/(Int.gcd a d:Int):=by
  rw[Rat.den_divInt,if_neg (by omega),Int.gcd_comm];have:(d.natAbs:Int)=d:=by omega
  rw[Int.natCast_ediv,this]
 unfold qn;rw[h1,h2];by_cases e:(Rat.divInt a d).den=1
 ·rw[if_pos e,if_pos (by omega)]
 rw[if_neg e,if_neg (by omega)]
theorem Mj(k:Int):((bif(qe k).2 then some (decide ((qe k).1=1))else some false):Option Bool)=some (decide (k=1)):=by
 by_cases h:cY k
 ·rw[gB h];rfl
 rw[mN h];have:¬k=1:=by rintro rfl;exact h (by decide)
 rw[decide_eq_false this];rfl
theorem yF{n d:Zr}(hn:Wl n)(hd:Wl d)(h:0<zi d):((ji n d).bind λg=>(dW n g).bind λa=>(dW d g).bind λb=>(cQ b.1).bind λc=>
  (bif c.2 then some (decide (c.1=1))else some false).bind λe=>bif e then some (⟨a.1,⟨false,[]⟩⟩:Qr)else some ⟨a.1,b.1⟩)=some (qn (Rat.divInt (zi n) (zi d))):=by
 have g0:(Int.gcd (zi n) (zi d):Int)≠0:=by
  have:0<Int.gcd (zi n) (zi d):=Int.gcd_pos_of_ne_zero_right _ (by omega);omega
 have wg:Wl (zn (Int.gcd (zi n) (zi d):Int)):=lz ((Wl.fit hd).le (by
  have:=Nat.le_of_dvd (Int.natAbs_pos.2 (show zi d≠0 by omega)) (Int.gcd_dvd_natAbs_right (zi n) (zi d));simpa using this)) hd.2
 have wq:Wl (zn (zi d/(Int.gcd (zi n) (zi d):Int))):=lz ((Wl.fit hd).le (Int.natAbs_ediv_le_natAbs _ _)) hd.2;rw[QJ hn hd,bD,divMod_eq hn wg,bD,divMod_eq hd wg,bD,eA,Dn,if_neg g0,Dn,if_neg g0];simp only[];rw[mM wq,bD,eA,Mj,bD,vk h];by_cases e:zi d/(Int.gcd (zi n) (zi d):Int)=1
 ·rw[decide_eq_true e,eK,if_pos e]
 rw[decide_eq_false e,fg,if_neg e]
theorem reduce_eq{x y:Zr}(hx:Wl x)(hy:Wl y)(h0:zi y≠0):eG x y=some (qn (Rat.divInt (zi x) (zi y))):=by
 unfold eG;simp only[cg,bD,zeta',sign_eq hy];by_cases h:zi y<0
 ·rw[show decide ((zi y).sign<0)=true by rw[Int.sign_eq_neg_one_of_neg h];rfl,eK,neg_eq hx,bD,neg_eq hy,bD];have hp:=yF (lz (Wl.fit hx).neg hx.2) (lz (Wl.fit hy).neg hy.2) (by rw[eA];omega);rw[eA,eA,Rat.neg_divInt_neg]at hp;exact hp
 rw[show decide ((zi y).sign<0)=false by rw[Int.sign_eq_one_of_pos (by omega)];rfl,fg];exact yF hx hy (by omega)
end
section
open Go.Fw
theorem qh(q:Qr):(⟨⟨q.num.neg,q.num.w⟩,⟨q.den.neg,q.den.w⟩⟩:Qr)=q:=by cases q;rfl
theorem qi(q:Qr):(⟨q.num,q.den⟩:Qr)=q:=by cases q;rfl
theorem parts_eq{L:Nat}{q:Qr}{r:Rat}(h:iE L q r)(hL:L<=35184372088788):∃n d:Zr,cU q=some (n,d)/\Wl n/\Wl d/\0<zi d/\Rat.divInt (zi n) (zi d)=r/\Fit L (zi n)/\Fit L (zi d):=by
 have wn:=h.wn hL;have wd:=h.wd hL;have hv:=h.v;unfold cU;simp only[zeta',bD,sign_eq wd,kA (x:=1) (by decide) (by decide),neg_eq wn,neg_eq wd];unfold qv qd at hv;rcases Int.lt_trichotomy (zi q.den) 0 with h1|h1|h1
 ·refine⟨_,_,?_,lz h.fn.neg hL,lz h.fd.neg hL,by rw[eA];omega,?_,by rw[eA];exact h.fn.neg,by rw[eA];exact h.fd.neg⟩
  ·rw[Int.sign_eq_neg_one_of_neg h1];rfl
  rw[eA,eA,Rat.neg_divInt_neg,<-hv,if_neg (by omega)]
 ·refine⟨_,_,?_,wn,lz (ug h.l1) hL,by rw[eA];decide,?_,h.fn,by rw[eA];exact ug h.l1⟩
  ·rw[h1];rfl
  rw[eA,<-hv,if_pos h1]
 refine⟨_,_,?_,wn,wd,h1,?_,h.fn,h.fd⟩
 ·rw[Int.sign_eq_one_of_pos h1];rfl
 rw[<-hv,if_neg (by omega)]
def Sm(a:Int):Prop:=-2147483648<a/\a<2147483648
theorem Sm.ok{a:Int}(h:Sm a):cY a:=by unfold Sm at h;unfold cY;omega
theorem mO{L:Nat}{q:Qr}{r:Rat}(h:iE L q r)(hL:L<=35184372088788):∃a b c,dy q=some (a,b,c)/\(c=true->Sm a/\0<b/\Sm b/\Rat.divInt a b=r):=by
 have wn:=h.wn hL;have wd:=h.wd hL;have hv:=h.v;unfold dy;simp only[zeta',bD,cg,mM wn,mM wd];unfold qv qd at hv;generalize zi q.num=n at*;generalize zi q.den=d at*;by_cases hs:Sm n/\Sm d
 ·obtain⟨h1,h2⟩:=hs;rw[gB h1.ok,gB h2.ok];unfold Sm at h1 h2;simp only[];rw[decide_eq_false (show ¬n<=-2147483648 by omega),decide_eq_false (show ¬2147483648<=n by omega),decide_eq_false (show ¬d<=-2147483648 by omega),decide_eq_false (show ¬2147483648<=d by omega)];simp only[Bool.not_true,fg,bD];by_cases h0:d=0
  ·rw[decide_eq_true h0,eK];refine⟨_,_,_,Y,λ_=>⟨h1,by decide,⟨by decide,by decide⟩,?_⟩⟩;rw[<-hv,if_pos h0]
  rw[decide_eq_false h0,fg];rw[if_neg h0]at hv;by_cases hneg:d<0
  ·rw[decide_eq_true hneg,eK,cj (by omega) (by omega),cj (by omega) (by omega)];refine⟨_,_,_,Y,λ_=>⟨⟨by omega,by omega⟩,by omega,⟨by omega,by omega⟩,?_⟩⟩;rw[Int.zero_sub,Int.zero_sub,Rat.neg_divInt_neg,hv]
  rw[decide_eq_false hneg,fg];exact⟨_,_,_,Y,λ_=>⟨h1,by omega,h2,hv⟩⟩
 refine⟨0,0,false,?_,λe=>by cases e⟩;by_cases o1:cY n
 ·by_cases o2:cY d
  ·rw[gB o1,gB o2];simp only[Bool.not_true,fg,bD];unfold Sm at hs;by_cases c1:n<=-2147483648
   ·rw[decide_eq_true c1];simp only[bD,eK]
   rw[decide_eq_false c1];simp only[bD,fg];by_cases c2:2147483648<=n
   ·rw[decide_eq_true c2];simp only[bD,eK]
   rw[decide_eq_false c2];simp only[bD,fg];by_cases c3:d<=-2147483648
   ·rw[decide_eq_true c3];simp only[bD,eK]
   rw[decide_eq_false c3];simp only[bD,fg];rw[decide_eq_true (show 2147483648<=d by omega)];simp only[eK]
  rw[gB o1,mN o2];simp only[Bool.not_true,Bool.not_false,fg,bD,eK]
 rw[mN o1];simp only[Bool.not_false,bD,eK]
theorem Dt{a g:Int}(hg:0<g)(h:g∣a):Int.tdiv a g=a/g:=by
 obtain⟨k,rfl⟩:=h;rw[Int.mul_tdiv_cancel_left _ (by omega),Int.mul_ediv_cancel_left _ (by omega)]
theorem uh{n d:Int}(hd:0<d)(hd':d<=9223372036854775807)(hn: -9223372036854775807<=n)(hn':n<=9223372036854775807):fz n d=some (qn (Rat.divInt n d)):=by
 unfold fz;simp only[bD,cg];refine fX (λs=>Int.gcd s.1 s.2=Int.gcd n d/\s.1.natAbs<=9223372036854775807/\s.2.natAbs<=9223372036854775807) (λe=>e.natAbs=Int.gcd n d/\e.natAbs<=9223372036854775807) (λs=>s.2.natAbs) ?_ ⟨Y,by simp only[];omega,by simp only[];omega⟩ ?_
 ·rintro⟨a,b⟩ ⟨i1,i2,i3⟩;simp only at i1 i2 i3⊢;by_cases hb:b=0
  ·right;subst hb;refine⟨a,by simp,?_,i2⟩;rw[<-i1];simp[Int.gcd]
  left;rw[decide_eq_true hb,eK,yV,if_neg hb,bD];have hm:(Int.tmod a b).natAbs=a.natAbs%b.natAbs:=Int.natAbs_tmod a b;have hlt:=Nat.mod_lt a.natAbs (Int.natAbs_pos.2 hb);refine⟨_,Y,⟨?_,i3,by simp only[];omega⟩,by simp only[];omega⟩;simp only[];rw[<-i1,Int.gcd,Int.gcd,hm,Nat.gcd_comm b.natAbs,<-Nat.gcd_rec,Nat.gcd_comm]
 rintro e ⟨he,hle⟩;obtain⟨g,hg⟩:∃g:Int,(Int.gcd n d:Int)=g:=⟨_,Y⟩;have Uu:0<g:=by have:=Int.gcd_pos_of_ne_zero_right n (show d≠0 by omega);omega
 have hgn:g∣n:=hg▸Int.gcd_dvd_left ..;have hgd:g∣d:=hg▸Int.gcd_dvd_right ..;have hK:∀m:Int,m=g->(bif decide (m=d)then(oO n m).bind λgO=>(bV gO).bind λx=>some (⟨⟨x.neg,x.w⟩,⟨false,[]⟩⟩:Qr)else(oO n m).bind λgR=>(bV gR).bind λx=>(oO d m).bind λl7=>(bV l7).bind λy=>some ⟨⟨x.neg,x.w⟩,⟨y.neg,y.w⟩⟩)=some (qn (Rat.divInt n d)):=by
  rintro m rfl;have b1:(n/m).natAbs<=n.natAbs:=Int.natAbs_ediv_le_natAbs _ _;have b2:(d/m).natAbs<=d.natAbs:=Int.natAbs_ediv_le_natAbs _ _;have q1:oO n m=some (n/m):=by
   rw[oO,if_neg (by omega),Dt Uu hgn,cj (by omega) (by omega)]
  have q2:oO d m=some (d/m):=by
   rw[oO,if_neg (by omega),Dt Uu hgd,cj (by omega) (by omega)]
  rw[vk hd,hg,q1,q2];simp only[bD,kA (x:=n/m) (by omega) (by omega),kA (x:=d/m) (by omega) (by omega),zeta'];by_cases e1:m=d
  ·rw[decide_eq_true e1,eK,if_pos (by rw[e1];exact Int.ediv_self (by omega))]
  rw[decide_eq_false e1,fg,if_neg];intro e2;have:=Int.ediv_mul_cancel hgd;rw[e2]at this;omega
 by_cases hneg:e<0
 ·rw[decide_eq_true hneg,eK,cj (by omega) (by omega)];exact hK _ (by omega)
 rw[decide_eq_false hneg,fg];exact hK _ (by omega)
theorem jt{a b:Int}(ha:Sm a)(hb:Sm b): -4611686018427387904<a*b/\a*b<4611686018427387904:=by
 unfold Sm at ha hb;have h1:(a*b).natAbs=a.natAbs*b.natAbs:=Int.natAbs_mul a b;have h2:a.natAbs*b.natAbs<=2147483647*2147483647:=Nat.mul_le_mul (by omega) (by omega);omega
theorem qE{a b:Int}(ha:0<a)(hb:0<b):0<a*b:=Int.mul_pos ha hb
section ops
variable {L M:Nat}{a b:Qr}{x y:Rat}
theorem iE.add(ha:iE L a x)(hb:iE M b y)(h:L+M<=35184372088768):mB a b=some (qn (x+y))/\iE (L+M+1) (qn (x+y)) (x+y):=by
 refine⟨?_,(ha.fq.add hb.fq).rep (by omega)⟩;obtain⟨n1,d1,c1,e1,k1⟩:=mO ha (by omega);obtain⟨n2,d2,c2,e2,k2⟩:=mO hb (by omega);obtain⟨p1,q1,f1,w1,w2,g1,v1,t1,t2⟩:=parts_eq ha (by omega);obtain⟨p2,q2,f2,w3,w4,g2,v2,t3,t4⟩:=parts_eq hb (by omega);have Du:gY a b=some (qn (x+y)):=by
  unfold gY fL;have u1:=lz (t1.mul t4) (by omega);have u2:=lz (t3.mul t2) (by omega);have u3:=lz (t2.mul t4) (by omega);have u4:=lz ((t1.mul t4).add ((t3.mul t2).mono (by omega))) (by omega);simp only[zeta',qh,qi,f1,f2,bD,mul_eq w1 w4,mul_eq w3 w2,add_eq u1 u2,mul_eq w2 w4,eA];rw[reduce_eq u4 u3 (by rw[eA];have:=qE g1 g2;omega),bD,eA,eA,<-v1,<-v2,Rat.divInt_add_divInt _ _ (by omega) (by omega)]
 unfold mB;simp only[zeta',qh,qi,e1,e2,bD,cg,Du];cases c1
 ·rw[fg,bD,fg]
 cases c2
 ·rw[eK,bD,fg]
 obtain⟨s1,s2,s3,s4⟩:=k1 Y;obtain⟨s5,s6,s7,s8⟩:=k2 Y;have m1:=jt s1 s7;have m2:=jt s5 s3;have m3:=jt s3 s7;have m4:=qE s2 s6;rw[eK,bD,eK,cj (x:=n1*d2) (by omega) (by omega),cj (x:=n2*d1) (by omega) (by omega),cj (x:=d1*d2) (by omega) (by omega),cj (by omega) (by omega),uh m4 (by omega) (by omega) (by omega),bD,<-s4,<-s8,Rat.divInt_add_divInt _ _ (by omega) (by omega)]
theorem iE.sub(ha:iE L a x)(hb:iE M b y)(h:L+M<=35184372088768):mD a b=some (qn (x-y))/\iE (L+M+1) (qn (x-y)) (x-y):=by
 refine⟨?_,(ha.fq.sub hb.fq).rep (by omega)⟩;obtain⟨n1,d1,c1,e1,k1⟩:=mO ha (by omega);obtain⟨n2,d2,c2,e2,k2⟩:=mO hb (by omega);obtain⟨p1,q1,f1,w1,w2,g1,v1,t1,t2⟩:=parts_eq ha (by omega);obtain⟨p2,q2,f2,w3,w4,g2,v2,t3,t4⟩:=parts_eq hb (by omega);have Du:hG a b=some (qn (x-y)):=by
  unfold hG fM;have u1:=lz (t1.mul t4) (by omega);have u2:=lz (t3.mul t2) (by omega);have u3:=lz (t2.mul t4) (by omega);have u4:=lz ((t1.mul t4).sub ((t3.mul t2).mono (by omega))) (by omega);simp only[zeta',qh,qi,f1,f2,bD,mul_eq w1 w4,mul_eq w3 w2,sub_eq u1 u2,mul_eq w2 w4,eA];rw[reduce_eq u4 u3 (by rw[eA];have:=qE g1 g2;omega),bD,eA,eA,<-v1,<-v2,Rat.divInt_sub_divInt _ _ (by omega) (by omega)]
 unfold mD;simp only[zeta',qh,qi,e1,e2,bD,cg,Du];cases c1
 ·rw[fg,bD,fg]
 cases c2
 ·rw[eK,bD,fg]
 obtain⟨s1,s2,s3,s4⟩:=k1 Y;obtain⟨s5,s6,s7,s8⟩:=k2 Y;have m1:=jt s1 s7;have m2:=jt s5 s3;have m3:=jt s3 s7;have m4:=qE s2 s6;rw[eK,bD,eK,cj (x:=n1*d2) (by omega) (by omega),cj (x:=n2*d1) (by omega) (by omega),cj (x:=d1*d2) (by omega) (by omega),cj (by omega) (by omega),uh m4 (by omega) (by omega) (by omega),bD,<-s4,<-s8,Rat.divInt_sub_divInt _ _ (by omega) (by omega)]
theorem iE.mul(ha:iE L a x)(hb:iE M b y)(h:L+M<=35184372088768):ko a b=some (qn (x*y))/\iE (L+M) (qn (x*y)) (x*y):=by
 have l1:=ha.l1;refine⟨?_,(ha.fq.mul hb.fq).rep (by omega)⟩;obtain⟨n1,d1,c1,e1,k1⟩:=mO ha (by omega);obtain⟨n2,d2,c2,e2,k2⟩:=mO hb (by omega);obtain⟨p1,q1,f1,w1,w2,g1,v1,t1,t2⟩:=parts_eq ha (by omega);obtain⟨p2,q2,f2,w3,w4,g2,v2,t3,t4⟩:=parts_eq hb (by omega);have Du:ia a b=some (qn (x*y)):=by
  unfold ia fN;have u1:=lz (t1.mul t3) (by omega);have u3:=lz (t2.mul t4) (by omega);simp only[zeta',qh,qi,f1,f2,bD,mul_eq w1 w3,mul_eq w2 w4];rw[reduce_eq u1 u3 (by rw[eA];have:=qE g1 g2;omega),bD,eA,eA,<-v1,<-v2,Rat.divInt_mul_divInt]
 unfold ko;simp only[zeta',qh,qi,e1,e2,bD,cg,Du];cases c1
 ·rw[fg,bD,fg]
 cases c2
 ·rw[eK,bD,fg]
 obtain⟨s1,s2,s3,s4⟩:=k1 Y;obtain⟨s5,s6,s7,s8⟩:=k2 Y;have m1:=jt s1 s5;have m3:=jt s3 s7;have m4:=qE s2 s6;rw[eK,bD,eK,cj (by omega) (by omega),cj (x:=d1*d2) (by omega) (by omega),uh m4 (by omega) (by omega) (by omega),bD,<-s4,<-s8,Rat.divInt_mul_divInt]
theorem iE.sign(ha:iE L a x)(h:L<=35184372088788):ic a=some (nR x 0):=by
 unfold ic;have wn:=ha.wn h;have wd:=ha.wd h;have hv:=ha.v;simp only[zeta',bD,sign_eq wn,sign_eq wd];unfold qv qd at hv;rcases Int.lt_trichotomy (zi a.den) 0 with h1|h1|h1
 ·rw[Int.sign_eq_neg_one_of_neg h1];rw[if_neg (by omega),<-Rat.neg_divInt_neg]at hv;rw[<-hv,<-qg (by omega),Int.sign_neg];show some (IntKind.i64.wrap (0-(zi a.num).sign))=_;have:(zi a.num).sign=-1\/(zi a.num).sign=0\/(zi a.num).sign=1:=by
   rcases Int.lt_trichotomy (zi a.num) 0 with e|e|e
   ·left;exact Int.sign_eq_neg_one_of_neg e
   ·right;left;rw[e];rfl
   right;right;exact Int.sign_eq_one_of_pos e
  rw[cj (by omega) (by omega),Int.zero_sub]
 ·rw[if_pos h1]at hv;rw[<-hv,<-qg (by omega),h1];rfl
 rw[if_neg (by omega)]at hv;rw[Int.sign_eq_one_of_pos h1,<-hv,<-qg h1];rfl
theorem vm{x:Rat}:nR x 0=0↔x=0:=by
 unfold nR;by_cases h:x<0
 ·rw[if_pos h];refine⟨λe=>absurd e (by decide),λe=>?_⟩;rw[e]at h;exact absurd h Rat.lt_irrefl
 rw[if_neg h];by_cases h2:x=0
 ·rw[if_pos h2];simp[h2]
 rw[if_neg h2];simp[h2]
theorem iE.canon(ha:iE L a x)(h:L<=35184372088788):eR a=some (qn x)/\iE L (qn x) x:=by
 refine⟨?_,ha.fq.rep ha.l1⟩;obtain⟨n1,d1,c1,e1,k1⟩:=mO ha (by omega);obtain⟨p1,q1,f1,w1,w2,g1,v1,t1,t2⟩:=parts_eq ha (by omega);unfold eR;simp only[zeta',qh,qi,e1,bD,f1];cases c1
 ·rw[fg,reduce_eq w1 w2 (by omega),bD,v1]
 obtain⟨s1,s2,s3,s4⟩:=k1 Y;unfold Sm at s1 s3;rw[eK,uh s2 (by omega) (by omega) (by omega),bD,s4]
end ops
end
section
open Go.Fw
theorem Ab{p q u v:Int}(hq:0<q)(hv:0<v)(h:p.sign≠u.sign\/p.sign=0):ni (IntKind.i64.wrap (p.sign-u.sign))=some (jc (p*v) (u*q)):=by
 have pv:0<p->0<p*v:=λh=>Int.mul_pos h hv;have pv':p<0->p*v<0:=λh=>Int.mul_neg_of_neg_of_pos h hv;have uq:0<u->0<u*q:=λh=>Int.mul_pos h hq;have uq':u<0->u*q<0:=λh=>Int.mul_neg_of_neg_of_pos h hq;rcases Int.lt_trichotomy p 0 with e1|e1|e1<;>rcases Int.lt_trichotomy u 0 with e2|e2|e2
 ·rw[Int.sign_eq_neg_one_of_neg e1,Int.sign_eq_neg_one_of_neg e2]at h;simp at h
 ·have:=pv' e1;rw[Int.sign_eq_neg_one_of_neg e1,e2,Int.zero_mul,fP this];rfl
 ·have:=pv' e1;have:=uq e2;rw[Int.sign_eq_neg_one_of_neg e1,Int.sign_eq_one_of_pos e2,fP (by omega)];rfl
 ·have:=uq' e2;rw[Int.sign_eq_neg_one_of_neg e2,e1,Int.zero_mul,fQ this];rfl
 ·rw[e1,e2,Int.zero_mul,Int.zero_mul];rfl
 ·have:=uq e2;rw[Int.sign_eq_one_of_pos e2,e1,Int.zero_mul,fP this];rfl
 ·have:=pv e1;have:=uq' e2;rw[Int.sign_eq_one_of_pos e1,Int.sign_eq_neg_one_of_neg e2,fQ (by omega)];rfl
 ·have:=pv e1;rw[Int.sign_eq_one_of_pos e1,e2,Int.zero_mul,fQ this];rfl
 rw[Int.sign_eq_one_of_pos e1,Int.sign_eq_one_of_pos e2]at h;simp at h
theorem Kb{x y:Rat}:nR x y=0↔x=y:=by
 unfold nR;by_cases h:x<y
 ·rw[if_pos h];refine⟨λe=>absurd e (by decide),λe=>?_⟩;rw[e]at h;exact absurd h Rat.lt_irrefl
 rw[if_neg h];by_cases h2:x=y
 ·rw[if_pos h2];simp[h2]
 rw[if_neg h2];simp[h2]
theorem Dv{x y:Rat}:nR x y<0↔x<y:=by
 unfold nR;by_cases h:x<y
 ·rw[if_pos h];simp[h]
 rw[if_neg h];by_cases h2:x=y
 ·rw[if_pos h2];simp[h2,Rat.lt_irrefl]
 rw[if_neg h2];simp[h]
theorem Kc{x y:Rat}:0<nR x y↔y<x:=by
 unfold nR;by_cases h:x<y
 ·rw[if_pos h];have:¬y<x:=by grind
  simp[this]
 rw[if_neg h];by_cases h2:x=y
 ·rw[if_pos h2];simp[h2,Rat.lt_irrefl]
 rw[if_neg h2];have:y<x:=by grind
 simp[this]
theorem Ke(i:Int):qn (i:Rat)=⟨zn i,⟨false,[]⟩⟩:=by
 unfold qn;rw[Rat.den_intCast,if_pos Y,Rat.num_intCast]
section ops
variable {L M:Nat}{a b:Qr}{x y:Rat}
theorem iE.neg(ha:iE L a x)(h:L<=35184372088788):iZ a=some (qn (-x))/\iE L (qn (-x)) (-x):=by
 refine⟨?_,ha.fq.neg.rep ha.l1⟩;unfold iZ;have r:=(ha.canon h).2;simp only[zeta',qh,qi,(ha.canon h).1,bD,neg_eq (r.wn h)];show some (⟨zn (-zi (zn x.num)),_⟩:Qr)=some (qn (-x));rw[eA];rfl
theorem iE.TV(ha:iE L a x)(hb:iE M b y)(hL:L<=35184372088788)(hM:M<=35184372088788):kp a b=some (nR x y):=by
 obtain⟨p1,q1,f1,w1,w2,g1,v1,t1,t2⟩:=parts_eq ha (by omega);obtain⟨p2,q2,f2,w3,w4,g2,v2,t3,t4⟩:=parts_eq hb (by omega);unfold kp;have u1:=OE (t1.mul t4) (by omega);have u2:=OE (t3.mul t2) (by omega);simp only[zeta',qh,qi,f1,f2,bD,cg,sign_eq w1,sign_eq w3,mul_eq w1 w4,mul_eq w3 w2,TO u1 u2,eA];rw[<-v1,<-v2,Ds g1 g2];by_cases e1:(zi p1).sign=(zi p2).sign
 ·rw[show decide ((zi p1).sign≠(zi p2).sign)=false by simp[e1],fg,bD];by_cases e2:(zi p1).sign=0
  ·rw[decide_eq_true e2,eK,Ab g1 g2 (.inr e2),bD]
  rw[decide_eq_false e2,fg]
 rw[show decide ((zi p1).sign≠(zi p2).sign)=true by simp[e1],eK,bD,eK,Ab g1 g2 (.inl e1),bD]
theorem lZ{n:Int}(hn:cY n):di n=some (qn (n:Rat))/\iE 2 (qn (n:Rat)) (n:Rat):=by
 refine⟨?_,(FQ.int (me hn) (by decide)).rep (by decide)⟩;unfold di;simp only[zeta',bD,kA hn.1 hn.2];rw[Ke]
theorem Dw{n d:Int}(h0:d≠0)(hn:Fit L n)(hd:Fit L d)(h:1<=L):iE L ⟨zn n,zn d⟩ (Rat.divInt n d):=by
 refine⟨λx hx=>ei (by decide) hx,λx hx=>ei (by decide) hx,(bJ (by decide)).2 hn,(bJ (by decide)).2 hd,h,?_⟩;unfold qv qd;simp only[eA];rw[if_neg h0]
end ops
end
section
open Go.Fw
def vq(n:Nat)(h:Nat->Rat):List Qr:=(List.range n).map λi=>qn (h i)
structure dB (L:Nat) (v:List Qr) (f:Nat->Rat):Prop where
 e:∀i (h:i<v.length),iE L v[i] (f i)
 z:∀i,v.length<=i->f i=0
 l1:1<=L
theorem fk(n:Nat)(h:Nat->Rat):(vq n h).length=n:=by simp[vq]
theorem Mk{n i:Nat}{h:Nat->Rat}(hi:i<(vq n h).length):(vq n h)[i]=qn (h i):=by simp[vq]
theorem BE(n:Nat)(h:Nat->Rat):vq (n+1) h=vq n h++[qn (h n)]:=by simp[vq,List.range_succ]
theorem uj{n:Nat}{h k:Nat->Rat}(e:∀i,i<n->h i=k i):vq n h=vq n k:=by
 unfold vq;apply List.map_congr_left;intro i hi;rw[e i (List.mem_range.1 hi)]
theorem oE{L n:Nat}{h:Nat->Rat}(hf:∀i,i<n->FQ L (h i))(hz:∀i,n<=i->h i=0)(h1:1<=L):dB L (vq n h) h:=by
 refine⟨λi hi=>?_,λi hi=>hz i (by rwa[fk]at hi),h1⟩;rw[Mk hi];exact(hf i (by rwa[fk]at hi)).rep h1
def qz:Qr:=⟨⟨false,[]⟩,⟨false,[]⟩⟩
theorem yG{L:Nat}(h:1<=L):iE L qz 0:=⟨by simp[qz],by simp[qz],by simp[qz],by simp[qz],h,by decide⟩
theorem Ml{L:Nat}(h:1<=L):FQ L 0:=(yG h).fq
def Rl(v:List Qr)(i:Nat):Qr:=v.getD i qz
theorem dB.at{L:Nat}{v:List Qr}{f:Nat->Rat}(h:dB L v f)(i:Nat):iE L (Rl v i) (f i):=by
 unfold Rl;by_cases hi:i<v.length
 ·rw[List.getD_eq_getElem?_getD,List.getElem?_eq_getElem hi];exact h.e i hi
 rw[List.getD_eq_getElem?_getD,List.getElem?_eq_none (by omega),h.z i (by omega)];exact yG h.l1
theorem dB.fq{L:Nat}{v:List Qr}{f:Nat->Rat}(h:dB L v f)(i:Nat):FQ L (f i):=(h.at i).fq
theorem dB.nil{L:Nat}(h:1<=L):dB L [] (λ_=>0):=⟨λi hi=>by simp at hi,λ_ _=>Y,h⟩
theorem dB.get{L:Nat}{v:List Qr}{f:Nat->Rat}(h:dB L v f){i:Nat}(hi:i<v.length):∃q,v[i]? =some q/\iE L q (f i):=⟨v[i],by simp,h.e i hi⟩
theorem dB.congr{L:Nat}{v:List Qr}{f g:Nat->Rat}(h:dB L v f)(e:∀i,f i=g i):dB L v g:=by
 have:f=g:=funext e;rw[<-this];exact h
def BF(v:List Qr)(i:Nat):Rat:=qv (Rl v i)
theorem FP{L:Nat}{v:List Qr}(h:∀q∈v,iE L q (qv q))(h1:1<=L):dB L v (BF v):=by
 refine⟨λi hi=>?_,λi hi=>?_,h1⟩
 ·have e:Rl v i=v[i]:=by unfold Rl;rw[List.getD_eq_getElem?_getD,List.getElem?_eq_getElem hi];rfl
  unfold BF;rw[e];exact h _ (List.getElem_mem hi)
 unfold BF Rl;rw[List.getD_eq_getElem?_getD,List.getElem?_eq_none hi];decide
def dS(h:Nat->Rat):Nat->Rat
 |0=>0
 |n+1=>dS h n+h n
theorem yH{h k:Nat->Rat}:∀{n:Nat},(∀i,i<n->h i=k i)->dS h n=dS k n
 |0,_=>rfl
 |n+1,e=>by rw[dS,dS,yH (λi hi=>e i (by omega)),e n (by omega)]
theorem Ad:∀n,dS (λ_=>0) n=0
 |0=>rfl
 |n+1=>by rw[dS,Ad n];grind
theorem Kf{h:Nat->Rat}{n m:Nat}(hnm:n<=m)(hz:∀i,n<=i->i<m->h i=0):dS h m=dS h n:=by
 induction m with
 |zero=>rw[show n=0 by omega]
 |succ m ih=>
  rcases Nat.lt_or_ge m n with q|q
  ·rw[show n=m+1 by omega]
  rw[dS,ih q (λi h1 h2=>hz i h1 (by omega)),hz m q (by omega)];grind
theorem FR{L:Nat}{h:Nat->Rat}:∀{n:Nat},(∀i,i<n->FQ L (h i))->FQ (n*(L+1)+1) (dS h n)
 |0,_=>Ml (by omega)
 |n+1,e=>by
  rw[dS];exact((FR (λi hi=>e i (by omega))).add (e n (by omega))).mono (by rw[Nat.add_mul];omega)
end
section
open Go.Fw
theorem Mm{α β:Type}(a:List α)(b:List β):min (a.length:Int) (b.length:Int)=((min a.length b.length:Nat):Int):=by omega
theorem dB.gd{L:Nat}{v:List Qr}{f:Nat->Rat}(h:dB L v f)(k:Nat):iE L (v.getD k (⟨⟨false,[]⟩,⟨false,[]⟩⟩:Qr)) (f k):=h.at k
theorem Kg{n k:Nat}{h:Nat->Rat}(hk:k<n):(vq k h++List.replicate (n-k) qz).set k (qn (h k))=vq (k+1) h++List.replicate (n-(k+1)) qz:=by
 rw[show n-k=(n-(k+1))+1 by omega,List.replicate_succ,List.set_append_right _ _ (by rw[fk];exact Nat.le_refl _),fk,Nat.sub_self,BE,List.append_assoc];rfl
theorem wZ{n k:Nat}{h:Nat->Rat}(hk:k<=n):(vq k h++List.replicate (n-k) qz).length=n:=by rw[List.length_append,fk,List.length_replicate];omega
section ops
variable {K L M:Nat}{c:Qr}{a b:List Qr}{k:Rat}{f g:Nat->Rat}
theorem BG(hc:iE K c k)(ha:dB L a f)(h:K+L<=35184372088768)(la:a.length<=1000000):ig c a=some (vq a.length λi=>k*f i)/\dB (K+L) (vq a.length λi=>k*f i) (λi=>k*f i):=by
 have QV:=ha.l1;refine⟨?_,oE (λi _=>hc.fq.mul (ha.fq i)) (λi hi=>?_) (by omega)⟩
 ·unfold ig;obtain⟨⟨_,_⟩,⟨_,_⟩⟩:=c;refine aA Y<|aA (qa (by omega) (by omega))<|aA Y ?_;refine bF (λj=>((j:Int),vq j (λi=>k*f i)++List.replicate (a.length-j) qz)) a.length (vq a.length λi=>k*f i) Y (λj hj=>?_) ?_ Y
  ·obtain⟨q,hq,rq⟩:=ha.get hj;have e3:=(hc.mul rq h).1;obtain⟨q3,h3⟩:∃q,qn (k*f j)=q:=⟨_,Y⟩;have h4:=Kg (h:=λi=>k*f i) hj;rw[h3]at e3 h4;obtain⟨⟨_,_⟩,⟨_,_⟩⟩:=q;obtain⟨⟨_,_⟩,⟨_,_⟩⟩:=q3;refine aA Y<|cn (decide_eq_true (by omega))<|aA (bO hq)<|aA e3<|aA (eY (by rw[wZ (by omega)];exact hj))<|aA (ir (by rw[wZ (by omega)];exact hj))<|aA Y ?_;rw[b8 (by omega),h4]
  refine aA Y<|cu (decide_eq_false (by omega)) ?_;simp
 rw[ha.z i hi];grind
end ops
end
section
open Go.Fw
def qj(f g:Nat->Rat):Nat->Int
 |0=>0
 |n+1=>if qj f g n≠0 then qj f g n else nR (f n) (g n)
theorem yI{f g:Nat->Rat}:∀{n:Nat},qj f g n=0↔∀i,i<n->f i=g i
 |0=>by simp[qj]
 |n+1=>by
  rw[qj];by_cases h:qj f g n=0
  ·rw[if_neg (by simpa using h),Kb];have:=yI.1 h;refine⟨λe i hi=>?_,λe=>e n (by omega)⟩;rcases Nat.lt_or_ge i n with q|q
   ·exact this i q
   obtain rfl:i=n:=by omega
   exact e
  rw[if_pos h];refine⟨λe=>absurd e h,λe=>absurd (yI.2 (λi hi=>e i (by omega))) h⟩
section ops
variable {K L M:Nat}{c:Qr}{a b:List Qr}{k:Rat}{f g:Nat->Rat}
theorem aaq{x y z:Rat}{p q r:Qr}(hp:iE K p x)(hq:iE L q y)(hr:iE M r z)(hz:r=qn z)(h:K+L+M<=35184372088768):kR p q r=some (qn (z+x*y)):=by
 have e1:=hp.mul hq (by omega);have e2:=(hr.add e1.2 (by omega)).1;have s1:=hp.sign (by omega);have s2:=hq.sign (by omega);replace e1:=e1.1;obtain⟨⟨_,_⟩,⟨_,_⟩⟩:=p;obtain⟨⟨_,_⟩,⟨_,_⟩⟩:=q;obtain⟨⟨_,_⟩,⟨_,_⟩⟩:=r;generalize qn (x*y)=w at e1 e2;obtain⟨⟨_,_⟩,⟨_,_⟩⟩:=w;unfold kR;refine aA s1<|aA Y ?_;by_cases h1:x=0
 ·refine aA (cu (decide_eq_false (by rw[h1,Aa];simp)) Y) ?_;rw[show z+x*y=z by rw[h1];grind,<-hz];rfl
 by_cases h2:y=0
 ·refine aA (cn (decide_eq_true (λe=>h1 (vm.1 e))) (aA s2 (aA Y Y))) ?_;refine cu (decide_eq_false (by rw[h2,Aa];simp)) ?_;rw[show z+x*y=z by rw[h2];grind,<-hz]
 refine aA (cn (decide_eq_true (λe=>h1 (vm.1 e))) (aA s2 (aA Y Y))) ?_;refine cn (decide_eq_true (λe=>h2 (vm.1 e))) ?_;obtain⟨w3,h3⟩:∃w,qn (z+x*y)=w:=⟨_,Y⟩;rw[h3]at e2⊢;obtain⟨⟨_,_⟩,⟨_,_⟩⟩:=w3;exact aA e1<|aA e2 Y
theorem FU{n i:Nat}(hi:i<n):(a.take n).getD i (⟨⟨false,[]⟩,⟨false,[]⟩⟩:Qr)=a.getD i (⟨⟨false,[]⟩,⟨false,[]⟩⟩:Qr):=by
 simp[List.getD,List.getElem?_take,hi]
theorem yN(q:Qr):(⟨⟨(q.num.neg,q.num.w,q.den.neg,q.den.w).1,(q.num.neg,q.num.w,q.den.neg,q.den.w).2.1⟩,⟨(q.num.neg,q.num.w,q.den.neg,q.den.w).2.2.1,(q.num.neg,q.num.w,q.den.neg,q.den.w).2.2.2⟩⟩:Qr)=q:=by cases q;rfl
theorem QK(ha:dB L a f)(hb:dB M b g)(h:(min a.length b.length+2)*(L+M+1)<=35184372088768):gD a b=some (qn (dS (λi=>f i*g i) (min a.length b.length)))/\iE (min a.length b.length*(L+M+1)+1) (qn (dS (λi=>f i*g i) (min a.length b.length))) (dS (λi=>f i*g i) (min a.length b.length)):=by
 have hs:∀n,FQ (n*(L+M+1)+1) (dS (λi=>f i*g i) n):=λn=>FR (λi _=>(ha.fq i).mul (hb.fq i));refine⟨?_,(hs _).rep (by omega)⟩;unfold gD;have hm:∀n:Nat,n<=min a.length b.length->n*(L+M+1)<=min a.length b.length*(L+M+1):=λn hn=>Nat.mul_le_mul_right _ hn;rw[Nat.add_mul]at h;refine aA Y<|aA Y<|aA (congrArg some (Mm a b))<|aA (l9 (by omega))<|aA (l9 (by omega)) ?_;rw[show max (a.take (min a.length b.length)).length (b.take (min a.length b.length)).length=min a.length b.length by simp only[List.length_take];omega];refine oA (λj=>((qn (dS (λi=>f i*g i) j)).num.neg,(qn (dS (λi=>f i*g i) j)).num.w,(qn (dS (λi=>f i*g i) j)).den.neg,(qn (dS (λi=>f i*g i) j)).den.w)) Y (λj hj=>?_) Y;have hmj:=hm j (by omega);have e1:=aaq (ha.gd j) (hb.gd j) ((hs j).rep (by omega)) Y (by omega);simp only[dS];generalize hq0:qn (dS (λi=>f i*g i) j)=q0 at e1⊢;generalize XE:qn (dS (λi=>f i*g i) j+f j*g j)=q3 at e1⊢;rw[<-FU (a:=a) hj,<-FU (a:=b) hj]at e1;generalize (a.take (min a.length b.length)).getD j (⟨⟨false,[]⟩,⟨false,[]⟩⟩:Qr)=q1 at e1⊢;generalize (b.take (min a.length b.length)).getD j (⟨⟨false,[]⟩,⟨false,[]⟩⟩:Qr)=q2 at e1⊢;obtain⟨⟨_,_⟩,⟨_,_⟩⟩:=q0;obtain⟨⟨_,_⟩,⟨_,_⟩⟩:=q1;obtain⟨⟨_,_⟩,⟨_,_⟩⟩:=q2
 obtain⟨⟨_,_⟩,⟨_,_⟩⟩:=q3;exact aA Y<|aA Y<|aA e1 Y
theorem TW(ha:dB L a f)(hb:dB M b g)(hL:L<=35184372088788)(hM:M<=35184372088788):iM a b=some (qj f g (max a.length b.length)):=by
 unfold iM;generalize max a.length b.length=n;refine aA (a:=if qj f g n≠0 then .inr (qj f g n)else .inl ()) ?_ ?_
 ·induction n with
  |zero=>rfl
  |succ n ih=>
   rw[lD];refine aA ih ?_;by_cases h0:qj f g n=0
   ·have hl:qj f g (n+1)=nR (f n) (g n):=by rw[qj,if_neg (by simpa using h0)]
    rw[hl,if_neg (show ¬qj f g n≠0 by simpa using h0)];have e1:=(ha.gd n).TV (hb.gd n) hL hM;generalize a.getD n (⟨⟨false,[]⟩,⟨false,[]⟩⟩:Qr)=q1 at e1⊢;generalize b.getD n (⟨⟨false,[]⟩,⟨false,[]⟩⟩:Qr)=q2 at e1⊢;obtain⟨⟨_,_⟩,⟨_,_⟩⟩:=q1;obtain⟨⟨_,_⟩,⟨_,_⟩⟩:=q2;refine aA Y<|aA Y<|aA e1<|aA Y ?_;by_cases h1:nR (f n) (g n)=0
    ·rw[if_neg (by simpa using h1)];exact cu (decide_eq_false (by simpa using h1)) Y
    rw[if_pos h1];exact cn (decide_eq_true h1) Y
   have hl:qj f g (n+1)=qj f g n:=by rw[qj,if_pos h0]
   rw[hl,if_pos h0]
 by_cases h0:qj f g n=0
 ·rw[if_neg (by simpa using h0),h0]
 rw[if_pos h0]
theorem TX(ha:dB L a f)(hb:dB M b g)(hL:L<=35184372088788)(hM:M<=35184372088788):dY a b=some (decide (∀i,i<max a.length b.length->f i=g i)):=by
 unfold dY;refine aA (TW ha hb hL hM)<|aA Y ?_;congr 1;rw[decide_eq_decide];exact yI
theorem TY(ha:dB L a f)(hb:dB M b g)(hL:L<=35184372088788)(hM:M<=35184372088788)(e:∀i,f i=g i):dY a b=some true:=by
 rw[TX ha hb hL hM,decide_eq_true (λi _=>e i)]
theorem UB(ha:dB L a f)(hb:dB M b g)(h:L+M<=35184372088768):dY a b=some (decide (∀i,i<max a.length b.length->f i=g i)):=TX ha hb (by omega) (by omega)
end ops
end
section
open Go.Fw
theorem sx{l:List Nat}(h:DJ l):mX l<65536^l.length:=ew l h.1
theorem tm{a:Nat}:Int.tmod (a:Int) 65536=((a%65536:Nat):Int):=by
 rw[Int.tmod_eq_emod_of_nonneg (by omega)];omega
theorem td{a:Nat}:Int.tdiv (a:Int) 65536=((a/65536:Nat):Int):=by
 rw[Int.tdiv_eq_ediv_of_nonneg (by omega)];omega
theorem FV(l k:List Nat)(hl:DJ l)(hk:DJ k):iq (zl l) (zl k)=some (vg (mX l) (mX k)):=by
 unfold iq;simp only[bD];rw[dH,dH,show max (l.length:Int) (k.length:Int)=((max l.length k.length:Nat):Int) by omega,cj (by have:=hl.2;have:=hk.2;omega) (by have:=hl.2;have:=hk.2;omega)];have h1:mX l<65536^(max l.length k.length):=Nat.lt_of_lt_of_le (sx hl) (Nat.pow_le_pow_right (by decide) (by omega));have h2:mX k<65536^(max l.length k.length):=Nat.lt_of_lt_of_le (sx hk) (Nat.pow_le_pow_right (by decide) (by omega));have hm:max l.length k.length<=100000000000:=by have:=hl.2;have:=hk.2;omega
 have a1:=vZ hl.1;have a2:=vZ hk.1;generalize mX l=V at*;generalize mX k=W at*;generalize max l.length k.length=n at*;refine fX (λy=>∃m:Nat,y=(m:Int)-1/\m<=n/\V/65536^m=W/65536^m) (λe=>(∃c,e=.inl c/\V=W)\/e=.inr (vg V W)) (λy=>(y+1).toNat) ?_ ⟨n,Y,Nat.le_refl _,by rw[Nat.div_eq_of_lt h1,Nat.div_eq_of_lt h2]⟩ ?_
 ·rintro _ ⟨m,rfl,hmn,he⟩;rcases m with _|m
  ·right;refine⟨_,Y,.inl ⟨_,Y,?_⟩⟩;simpa using he
  rw[show((m+1:Nat):Int)-1=(m:Int) by omega,show decide ((0:Int)<=(m:Int))=true by simp,eK,a1,bD,a2,bD];rcases z8 he with⟨hd,hq⟩|⟨hd,hlt⟩|⟨hd,hlt⟩
  ·left;rw[hd,show decide (((W/65536^m%65536:Nat):Int)<((W/65536^m%65536:Nat):Int))=false by simp,fg,bD,bD,show decide (((W/65536^m%65536:Nat):Int)<((W/65536^m%65536:Nat):Int))=false by simp,fg,cj (by omega) (by omega)];exact⟨_,Y,⟨m,Y,by omega,hq⟩,by omega⟩
  ·right;rw[show decide (((V/65536^m%65536:Nat):Int)<((W/65536^m%65536:Nat):Int))=true by rw[decide_eq_true_eq];omega,eK];exact⟨_,Y,.inr (by rw[oD hlt])⟩
  right;rw[show decide (((V/65536^m%65536:Nat):Int)<((W/65536^m%65536:Nat):Int))=false by rw[decide_eq_false_iff_not];omega,fg,bD,bD,show decide (((W/65536^m%65536:Nat):Int)<((V/65536^m%65536:Nat):Int))=true by rw[decide_eq_true_eq];omega,eK];exact⟨_,Y,.inr (by rw[qB hlt])⟩
 rintro e (⟨c,rfl,rfl⟩|rfl)
 ·rw[tY]
 rfl
theorem Mn(l k:List Nat)(hl:DJ l)(hk:DJ k):jm (zl l) (zl k)=some (zl (can 65536 (mX l+mX k))):=by
 unfold jm;have h1:mX l<65536^(max l.length k.length):=Nat.lt_of_lt_of_le (sx hl) (Nat.pow_le_pow_right (by decide) (by omega));have h2:mX k<65536^(max l.length k.length):=Nat.lt_of_lt_of_le (sx hk) (Nat.pow_le_pow_right (by decide) (by omega));have hm:max l.length k.length<=100000000000:=by have:=hl.2;have:=hk.2;omega
 have a1:=vZ hl.1;have a2:=vZ hk.1;rw[dH,dH];generalize mX l=V at*;generalize mX k=W at*;refine fX (λs=>∃i:Nat,s=(((wW 65536 V W i:Nat):Int),(i:Int),zl (dA 65536 i (V+W)))/\i<=max l.length k.length+1) (λe=>∃i,e=zl (dA 65536 i (V+W))/\V+W<65536^i/\i<=max l.length k.length+1) (λs=>max l.length k.length+1-s.2.1.toNat) ?_ ⟨0,by rw[yz];rfl,by omega⟩ ?_
 ·rintro _ ⟨i,rfl,hi⟩;have hc:=yx (B:=65536) (by decide) V W i;have Hf:=yy (B:=65536) (by decide) V W i;have zL:=wX (B:=65536) (by decide) V W i;have d1:=Nat.mod_lt (V/65536^i) (show 0<65536 by decide);have d2:=Nat.mod_lt (W/65536^i) (show 0<65536 by decide);simp only[bD,cg];have sI:∀(K:Bool->Option ((Int×Int×List Int)⊕List Int)),(((bif decide ((i:Int)<(l.length:Int))then some true else some (decide ((i:Int)<(k.length:Int)))):Option Bool).bind λc=>((bif c then some true else some (decide ((0:Int)<((wW 65536 V W i:Nat):Int)))):Option Bool).bind K)=K (decide (i<max l.length k.length\/0<wW 65536 V W i)):=by
   intro K;by_cases q1:i<l.length
   ·have:i<max l.length k.length:=by omega
    simp[q1,this]
   by_cases q2:i<k.length
   ·have:i<max l.length k.length:=by omega
    simp[q1,q2,this]
   have:¬i<max l.length k.length:=by omega
   simp[q1,q2,this]
  rw[sI];by_cases DE:i<max l.length k.length\/0<wW 65536 V W i
  ·left;have hi':i<max l.length k.length+1:=by
    rcases Nat.lt_or_ge i (max l.length k.length+1)with h|h
    ·exact h
    have hie:i=max l.length k.length+1:=by omega
    have hp:65536^i=65536^(max l.length k.length)*65536:=by rw[hie,Nat.pow_succ]
    have g3:=Bu (B:=65536) (V:=V) (W:=W) (k:=i) (by omega) (by omega);rw[Nat.div_eq_of_lt (by omega)]at g3;omega
   rw[show decide (i<max l.length k.length\/0<wW 65536 V W i)=true by rw[decide_eq_true_eq];exact DE,eK,a1,bD,a2,bD,kI (by omega),kI (by omega),tm,td,Hf,zL,vc (by decide) (by rw[dH,bB];omega),bD,fO (by have:=yx (B:=65536) (by decide) V W (i+1);omega),b8 (by omega)];refine⟨_,Y,⟨i+1,?_,by omega⟩,by simp only[];omega⟩;rw[fY,BD,ER]
  right;rw[show decide (i<max l.length k.length\/0<wW 65536 V W i)=false by rw[decide_eq_false_iff_not];exact DE,fg];refine⟨_,Y,i,Y,?_,hi⟩;have g1:V<65536^i:=Nat.lt_of_lt_of_le h1 (Nat.pow_le_pow_right (by decide) (by omega));have g2:W<65536^i:=Nat.lt_of_lt_of_le h2 (Nat.pow_le_pow_right (by decide) (by omega));have g3:=Bu (B:=65536) g1 g2;rcases Nat.lt_or_ge (V+W) (65536^i)with h|h
  ·exact h
  have:=Nat.div_pos h (Nat.pow_pos (by decide));omega
 rintro _ ⟨i,rfl,hlt,hi⟩;rw[iS _ (by rw[bB];omega),bD,lq (by decide) hlt]
theorem FW(l k:List Nat)(hl:DJ l)(hk:DJ k)(hle:mX k<=mX l):ga (zl l) (zl k)=some (zl (can 65536 (mX l-mX k))):=by
 unfold ga;have h1:=sx hl;have hm:=hl.2;have a1:=vZ hl.1;have a2:=vZ hk.1;rw[dH];generalize mX l=V at*;generalize mX k=W at*;refine bF (λi=>(((1-vf 65536 V W i:Nat):Int),(i:Int),zl (dA 65536 i (V-W)))) l.length (zl (dA 65536 l.length (V-W))) ?_ (λi hi=>?_) ?_ ?_
 ·rw[yA];rfl
 ·have hc:=EI (B:=65536) (by decide) V W i;have Hf:=yB (B:=65536) (by decide) V W i;have zL:=Bv (B:=65536) (by decide) hle i;have d1:=Nat.mod_lt (V/65536^i) (show 0<65536 by decide);have d2:=Nat.mod_lt (W/65536^i) (show 0<65536 by decide);simp only[bD,cg];rw[show decide ((i:Int)<(l.length:Int))=true by simp[hi],eK,a1,bD,a2,bD];rw[<-Hf,fY,BD,ER,<-zL];generalize V/65536^i%65536=a at*;generalize W/65536^i%65536=b at*;generalize vf 65536 V W i=c at*;rw[cj (x:=(a:Int)-(b:Int)) (by omega) (by omega),cj (x:=(a:Int)-(b:Int)-((1-c:Nat):Int)) (by omega) (by omega)];by_cases hn:(a:Int)-(b:Int)-((1-c:Nat):Int)<0
  ·rw[show decide ((a:Int)-(b:Int)-((1-c:Nat):Int)<0)=true by rw[decide_eq_true_eq];exact hn,eK,cj (by omega) (by omega),vc (by decide) (by rw[dH,bB];omega),bD,b8 (by omega)];rw[show(a:Int)-(b:Int)-((1-c:Nat):Int)+65536=(((a+(65536-1-b)+c)%65536:Nat):Int) by omega,show(1-(a+(65536-1-b)+c)/65536)=1 by omega];rfl
  rw[show decide ((a:Int)-(b:Int)-((1-c:Nat):Int)<0)=false by rw[decide_eq_false_iff_not];exact hn,fg,vc (by decide) (by rw[dH,bB];omega),bD,b8 (by omega)];rw[show(a:Int)-(b:Int)-((1-c:Nat):Int)=(((a+(65536-1-b)+c)%65536:Nat):Int) by omega,show(1-(a+(65536-1-b)+c)/65536)=0 by omega];rfl
 ·simp
 rw[iS _ (by rw[bB];omega),bD,lq (by decide) (by omega)]
theorem Ae(l:List Nat)(hl:∀x∈l,x<65536)(hn:l.length<=3):eH (zl l)=some ((mX l:Nat):Int):=by
 unfold eH;simp only[bD];have hV:mX l<65536^l.length:=ew l hl;have hp:65536^l.length<=65536^3:=Nat.pow_le_pow_right (by decide) hn;rw[show(65536:Nat)^3=281474976710656 by decide]at hp;rw[dH,cj (by omega) (by omega)];refine bF (λj=>(((mX l/65536^(l.length-j):Nat):Int),(l.length:Int)-1-(j:Int))) l.length ((mX l:Nat):Int) ?_ (λj hj=>?_) ?_ Y
 ·rw[show l.length-0=l.length by omega,Nat.div_eq_of_lt hV];simp
 ·obtain⟨m,hm⟩:∃m,l.length=m+j+1:=⟨l.length-j-1,by omega⟩;have hg:=jQ hl (i:=m) (by omega);have hst:=yC 65536 (mX l) m;have QH:mX l/65536^m<=mX l:=Nat.div_le_self _ _;rw[show l.length-j=m+1 by omega,show l.length-(j+1)=m by omega,show(l.length:Int)-1-(j:Int)=(m:Int) by omega,show(l.length:Int)-1-((j+1:Nat):Int)=(m:Int)-1 by omega];have hd:=Nat.mod_lt (mX l/65536^m) (show 0<65536 by decide);simp only[];rw[show decide ((0:Int)<=(m:Int))=true by simp,eK,bO (vi hg),bD];generalize mX l/65536^(m+1)=c at*;generalize mX l/65536^m=d at*;rw[cj (x:=(c:Int)*65536) (by omega) (by omega),cj (x:=(c:Int)*65536+((d%65536:Nat):Int)) (by omega) (by omega),cj (x:=(m:Int)-1) (by omega) (by omega),show(c:Int)*65536+((d%65536:Nat):Int)=(d:Int) by omega]
 simp only[];rw[show decide ((0:Int)<=(l.length:Int)-1-(l.length:Int))=false by rw[decide_eq_false_iff_not];omega,fg,Nat.sub_self,Nat.pow_zero,Nat.div_one]
theorem Dx(x:Nat)(hx:x<281474976710656):iA (x:Int)=some (zl (can 65536 x)):=by
 unfold iA;simp only[bD];rw[tm,td,fO (by omega),tm,td,fO (by omega)];have:[((x%65536:Nat):Int),((x/65536%65536:Nat):Int),((x/65536/65536:Nat):Int)]=zl [x%65536,x/65536%65536,x/65536/65536]:=rfl;rw[this,iS _ (by simp),bD,iv (B:=65536) (by decide) (by intro y hy;simp at hy;omega)];congr 3;simp[val];omega
theorem Af(l:List Nat)(f:Nat)(hl:DJ l)(hf:f<65536):eI (zl l) (f:Int)=some (zl (can 65536 (mX l*f))):=by
 unfold eI;have h1:=sx hl;have hm:=hl.2;have a1:=vZ hl.1;rw[dH];generalize mX l=V at*;have uw:=λi=>JR (B:=65536) (V:=V) (f:=f) (e:=0) (by decide) hf (by decide) i;refine fX (λs=>∃i:Nat,s=(((sC 65536 V f 0 i:Nat):Int),(i:Int),zl (dA 65536 i (V*f)))/\i<=l.length+1) (λe=>∃i,e=zl (dA 65536 i (V*f))/\V*f<65536^i/\i<=l.length+1) (λs=>l.length+1-s.2.1.toNat) ?_ ⟨0,by rw[Bx];rfl,by omega⟩ ?_
 ·rintro _ ⟨i,rfl,hi⟩;have hc:=uw i;have hc1:=uw (i+1);have Hf:=By (B:=65536) (by decide) V f 0 i;have zL:=EM (B:=65536) (by decide) V f 0 i;have d1:=Nat.mod_lt (V/65536^i) (show 0<65536 by decide);have hp:V/65536^i%65536*f<=65535*65535:=Nat.mul_le_mul (by omega) (by omega);rw[Nat.add_zero]at zL;simp only[bD,cg];have sI:∀(K:Bool->Option ((Int×Int×List Int)⊕List Int)),(((bif decide ((i:Int)<(l.length:Int))then some true else some (decide ((0:Int)<((sC 65536 V f 0 i:Nat):Int)))):Option Bool).bind K)=K (decide (i<l.length\/0<sC 65536 V f 0 i)):=by
   intro K;by_cases q1:i<l.length
   ·simp[q1]
   simp[q1]
  rw[sI];by_cases DE:i<l.length\/0<sC 65536 V f 0 i
  ·left;have hi':i<l.length+1:=by
    rcases Nat.lt_or_ge i (l.length+1)with h|h
    ·exact h
    have hie:i=l.length+1:=by omega
    have g3:=EN (B:=65536) (V:=V) (f:=f) (e:=0) (i:=i) (Nat.lt_of_lt_of_le h1 (Nat.pow_le_pow_right (by decide) (by omega)));rw[Nat.add_zero,Nat.div_eq_of_lt]at g3
    ·omega
    rw[hie,Nat.pow_succ];exact Nat.mul_lt_mul'' h1 hf
   rw[show decide (i<l.length\/0<sC 65536 V f 0 i)=true by rw[decide_eq_true_eq];exact DE,eK,a1,bD,<-Int.natCast_mul,fO (by omega),kI (by omega),tm,td,Hf,zL,vc (by decide) (by rw[dH,bB];omega),bD,fO (by omega),b8 (by omega)];refine⟨_,Y,⟨i+1,?_,by omega⟩,by simp only[];omega⟩;rw[fY,BD,ER]
  right;rw[show decide (i<l.length\/0<sC 65536 V f 0 i)=false by rw[decide_eq_false_iff_not];exact DE,fg];refine⟨_,Y,i,Y,?_,hi⟩;have g3:=EN (B:=65536) (V:=V) (f:=f) (e:=0) (i:=i) (Nat.lt_of_lt_of_le h1 (Nat.pow_le_pow_right (by decide) (by omega)));rw[Nat.add_zero]at g3;rcases Nat.lt_or_ge (V*f) (65536^i)with h|h
  ·exact h
  have:=Nat.div_pos h (Nat.pow_pos (by decide));omega
 rintro _ ⟨i,rfl,hlt,hi⟩;rw[iS _ (by rw[bB];omega),bD,lq (by decide) hlt]
end
section
open Go.Fw
theorem eD(v:Nat):mX (can 65536 v)=v:=iD (by decide) v
theorem FX{v n:Nat}(h:v<65536^n)(hn:n<=100000000000):DJ (can 65536 v):=⟨λ_ hx=>ei (by decide) hx,Nat.le_trans ((bJ (by decide)).2 h) hn⟩
end
section
open Go.Fw
theorem td2{a:Nat}:Int.tdiv (a:Int) 2=((a/2:Nat):Int):=by
 rw[Int.tdiv_eq_ediv_of_nonneg (by omega)];omega
theorem Mo(a b:Nat):decide (vg a b<=0)=decide (a<=b):=by
 rcases Nat.lt_trichotomy a b with h|h|h
 ·rw[oD h];simp;omega
 ·rw[h,tY];simp
 rw[qB h];simp;omega
theorem Kh{B:Nat}(hB:0<B){d:Nat}(hd:0<d)(V m:Nat):(V/B^(m+1)%d*B+V/B^m%B)/d=V/d/B^m%B:=by
 have h1:=Oz (B:=B) hd V m;have h2:=L2 (B:=B) hB hd V m;rw[Nat.div_div_eq_div_mul V d,Nat.mul_comm d,<-Nat.div_div_eq_div_mul,h1,Nat.mul_add_mod];symm;apply Nat.mod_eq_of_lt;rw[Nat.div_lt_iff_lt_mul hd,Nat.mul_comm B d];exact h2
theorem Dy{a b:Nat}(h:b≠0)(ha:a<=9223372036854775807):oO (a:Int) (b:Int)=some ((a/b:Nat):Int):=by
 unfold oO;rw[if_neg (by omega),Int.tdiv_eq_ediv_of_nonneg (by omega),<-Int.natCast_ediv,fO (Nat.le_trans (Nat.div_le_self _ _) ha)]
theorem Dz{a b:Nat}(h:b≠0):yV (a:Int) (b:Int)=some ((a%b:Nat):Int):=by
 unfold yV;rw[if_neg (by omega),Int.tmod_eq_emod_of_nonneg (by omega),<-Int.natCast_emod]
theorem Ki(n:Nat):List.replicate n (0:Int)=zl (dA 65536 n 0):=by rw[nN,zl,List.map_replicate];rfl
theorem DA{W X:Nat}(hW:0<W){k:List Nat}(hk:DJ k)(hkv:mX k=W){xs:List Nat}(hx:DJ xs)(hxv:mX xs=X)(H:Nat)(hH:0<H)(hH2:H<=65536)(hXH:X<H*W){R:Type}(f:Int->Option R)(r:R)(hf:f ((X/W:Nat):Int)=some r)(HF:k.length<=90000000000):
  (b9 (λ(Og:Int×Int)=>
               match Og with
               |⟨jH,mF⟩=>
                (show Option ((Int×Int)⊕(Int))from
                 (bif(decide ((1:Int)<(IntKind.i64.wrap (mF-jH))))then
                   (eI (zl k) (IntKind.i64.wrap (Int.tdiv (IntKind.i64.wrap (jH+mF)) 2))).bind λD5=>
                   (iq D5 (zl xs)).bind λD6=>
                   (bif(decide ((D6:Int)<=0))then
                     some (.inl (IntKind.i64.wrap (Int.tdiv (IntKind.i64.wrap (jH+mF)) 2),mF))
                    else
                     some (.inl (jH,IntKind.i64.wrap (Int.tdiv (IntKind.i64.wrap (jH+mF)) 2))))
                  else
                   some (.inr jH)))) ((0:Int),(H:Int))).bind f=some r:=by
 refine fX (λs=>∃lo hi:Nat,s=((lo:Int),(hi:Int))/\lo<hi/\hi<=65536/\lo*W<=X/\X<hi*W) (λe=>e=((X/W:Nat):Int)) (λs=>(s.2-s.1).toNat) ?_ ⟨0,H,Y,hH,hH2,by simp,hXH⟩ (λe he=>by rw[he];exact hf);rintro _ ⟨lo,hi,rfl,h1,h2,h3,h4⟩;simp only[];rw[cj (x:=(hi:Int)-(lo:Int)) (by omega) (by omega)];by_cases DE:1<hi-lo
 ·left;obtain⟨mid,aas⟩:∃mid,(lo+hi)/2=mid:=⟨_,Y⟩;have hml:mX k*mid<65536^(k.length+1):=by rw[Nat.pow_succ];exact Nat.mul_lt_mul'' (sx hk) (by omega)
  rw[show decide ((1:Int)<(hi:Int)-(lo:Int))=true by rw[decide_eq_true_eq];omega,eK,kI (by omega),td2,aas,fO (by omega),Af _ _ hk (by omega),bD,FV _ _ (FX hml (by omega)) hx,bD,Mo,eD,hkv,hxv];by_cases hle:W*mid<=X
  ·rw[show decide (W*mid<=X)=true by simp[hle],eK];exact⟨_,Y,⟨mid,hi,Y,by omega,h2,by rw[Nat.mul_comm];exact hle,h4⟩,by simp only[];omega⟩
  rw[show decide (W*mid<=X)=false by simp;omega,fg];exact⟨_,Y,⟨lo,mid,Y,by omega,by omega,h3,by rw[Nat.mul_comm];omega⟩,by simp only[];omega⟩
 right;rw[show decide ((1:Int)<(hi:Int)-(lo:Int))=false by rw[decide_eq_false_iff_not];omega,fg];refine⟨_,Y,?_⟩;have:hi=lo+1:=by omega
 subst this;have:X/W=lo:=by
  rw[Nat.div_eq_iff hW];rw[Nat.add_mul,Nat.one_mul]at h4;omega
 rw[this]
theorem FY(V W:Nat)(hW:W≠0)(hV:(can 65536 V).length<=80000000000)(hWl:(can 65536 W).length<=80000000000):jn (zl (can 65536 V)) (zl (can 65536 W))=some (zl (can 65536 (V/W)),zl (can 65536 (V%W))):=by
 have Ex:DJ (can 65536 V):=⟨λ_ hx=>ei (by decide) hx,by omega⟩;have Mp:DJ (can 65536 W):=⟨λ_ hx=>ei (by decide) hx,by omega⟩;have TZ:=cc (B:=65536) (by decide) V;have Mq:=cc (B:=65536) (by decide) W;have Mr:0<W:=by omega
 unfold jn;simp only[bD,cg,dH];obtain⟨n,hn⟩:∃n,(can 65536 V).length=n:=⟨_,Y⟩;by_cases h3:n<=3/\(can 65536 W).length<=3
 ·rw[hn,show decide ((n:Int)<=3)=true by rw[decide_eq_true_eq];omega,eK,bD,show decide (((can 65536 W).length:Int)<=3)=true by rw[decide_eq_true_eq];omega,eK,Ae _ Ex.1 (by omega),bD,Ae _ Mp.1 (by omega),bD,eD,eD];have hp:V<281474976710656:=by
   rw[hn]at TZ;have h2:65536^n<=65536^3:=Nat.pow_le_pow_right (by decide) h3.1;rw[show(65536:Nat)^3=281474976710656 by decide]at h2;omega
  have hq:V/W<=V:=Nat.div_le_self _ _;have hr:V%W<=V:=Nat.mod_le _ _;rw[Dy hW (by omega),bD,Dx _ (by omega),bD,bD,bD,Dz hW,bD,Dx _ (by omega),bD]
 have sI:(((bif decide ((n:Int)<=3)then some (decide (((can 65536 W).length:Int)<=3))else some false):Option Bool))=some false:=by
  by_cases q1:n<=3
  ·have q2:¬(can 65536 W).length<=3:=λh=>h3 ⟨q1,h⟩;rw[show decide (((can 65536 W).length:Int)<=3)=false by rw[decide_eq_false_iff_not];omega];exact uf _ _
  rw[show decide ((n:Int)<=3)=false by rw[decide_eq_false_iff_not];omega,fg]
 rw[hn]at TZ hV;have hQ:V/W<65536^n:=Nat.lt_of_le_of_lt (Nat.div_le_self _ _) TZ;rw[hn,sI,bD,fg,qa (by decide) (by omega),bD,Ki];have hlen:(can 65536 W).length≠0:=λe=>hW (tX (by decide) (List.length_eq_zero_iff.1 e));by_cases h1:(can 65536 W).length=1
 ·have hWs:W<65536:=by rw[h1]at Mq;simpa using Mq
  have hg0:(can 65536 W)[0]? =some W:=by rw[qy (by decide) (by omega)];simp;exact hWs
  have Tw:=qx (vi hg0);rw[h1,show decide (((1:Nat):Int)=1)=true by simp,eK,cj (by omega) (by omega)];refine bF (λj=>(((V/65536^(n-j)%W:Nat):Int),(n:Int)-1-(j:Int),zl (dA 65536 n (V/W/65536^(n-j)*65536^(n-j))))) n (((V%W:Nat):Int),zl (dA 65536 n (V/W))) ?_ (λj hj=>?_) ?_ ?_
  ·rw[Nat.sub_zero,Nat.div_eq_of_lt TZ,Nat.div_eq_of_lt hQ];simp
  ·obtain⟨m,hm⟩:∃m,n=m+j+1:=⟨n-j-1,by omega⟩;have hg:(can 65536 V)[m]? =some (V/65536^m%65536):=qy (by decide) (by omega);have EK:=Kh (B:=65536) (by decide) Mr V m;have Dk:=JS (B:=65536) (d:=W) V m;have hrl:=Nat.mod_lt (V/65536^(m+1)) Mr;have QH:=Nat.mod_lt (V/65536^m) (show 0<65536 by decide);have hput:=BC (B:=65536) (by decide) (N:=n) (k:=m) (by omega) (V/W);rw[show n-j=m+1 by omega,show n-(j+1)=m by omega,show(n:Int)-1-(j:Int)=(m:Int) by omega,show(n:Int)-1-((j+1:Nat):Int)=(m:Int)-1 by omega];simp only[];rw[show decide ((0:Int)<=(m:Int))=true by simp,eK,bO (vi hg),bD,Tw,bD];rw[<-EK]at hput;rw[Dk,<-hput];generalize V/65536^(m+1)%W=r at*;generalize V/65536^m%65536=d at*;rw[cj (x:=(r:Int)*65536) (by omega) (by omega),cj (x:=(r:Int)*65536+(d:Int)) (by omega) (by omega),show(r:Int)*65536+(d:Int)=((r*65536+d:Nat):Int) by omega,Dy hW (by omega),bD,bD,Dz hW,bD,eY (by rw[dH,bB];omega),bD,ir (by rw[dH,bB];omega),bD,cj (x:=(m:Int)-1) (by omega) (by omega),J8]
  ·simp only[];rw[show decide ((0:Int)<=(n:Int)-1-(n:Int))=false by rw[decide_eq_false_iff_not];omega,fg,Nat.sub_self,Nat.pow_zero,Nat.mul_one,Nat.div_one,Nat.div_one]
  simp only[];rw[iS _ (by rw[bB];omega),bD,lq (by decide) hQ,show[((V%W:Nat):Int)]=zl [V%W]from Y,iS _ (by simp),bD];have hr:=Nat.mod_lt V Mr;rw[iv (B:=65536) (l:=[V%W]) (by decide) (by intro y hy;simp at hy;omega)];simp[val]
 rw[show decide (((can 65536 W).length:Int)=1)=false by rw[decide_eq_false_iff_not];omega,fg,cj (by omega) (by omega)];refine bF (λj=>(zl (can 65536 (V/65536^(n-j)%W)),(n:Int)-1-(j:Int),zl (dA 65536 n (V/W/65536^(n-j)*65536^(n-j))))) n (zl (can 65536 (V%W)),zl (dA 65536 n (V/W))) ?_ (λj hj=>?_) ?_ ?_
 ·rw[Nat.sub_zero,Nat.div_eq_of_lt TZ,Nat.div_eq_of_lt hQ];simp[mJ,zl]
 ·obtain⟨m,hm⟩:∃m,n=m+j+1:=⟨n-j-1,by omega⟩;have hg:(can 65536 V)[m]? =some (V/65536^m%65536):=qy (by decide) (by omega);have EK:=Kh (B:=65536) (by decide) Mr V m;have Dk:=JS (B:=65536) (d:=W) V m;have hrl:=Nat.mod_lt (V/65536^(m+1)) Mr;have QH:=Nat.mod_lt (V/65536^m) (show 0<65536 by decide);have UC:=L2 (B:=65536) (by decide) Mr V m;have hput:=BC (B:=65536) (by decide) (N:=n) (k:=m) (by omega) (V/W);rw[show n-j=m+1 by omega,show n-(j+1)=m by omega,show(n:Int)-1-(j:Int)=(m:Int) by omega,show(n:Int)-1-((j+1:Nat):Int)=(m:Int)-1 by omega];simp only[];rw[<-EK]at hput;rw[Dk,<-hput,show decide ((0:Int)<=(m:Int))=true by simp,eK,bO (vi hg),bD];generalize V/65536^(m+1)%W=r at*;generalize V/65536^m%65536=d at*;obtain⟨X,hX⟩:∃X,r*65536+d=X:=⟨_,Y⟩;rw[hX]at UC⊢;have hrc:(can 65536 r).length<=(can 65536 W).length:=(bJ (by decide)).2 (Nat.lt_trans hrl Mq);have Q5:(can 65536 X).length<=(can 65536 W).length+1:=(bJ (by decide)).2 (by rw[Nat.pow_succ];exact Nat.lt_trans UC (Nat.mul_lt_mul_of_pos_right Mq (by decide)));have hval:val 65536 (d::can 65536 r)=X:=by
   show d+65536*val 65536 (can 65536 r)=X;rw[iD (by decide)];omega
  have Bc:DJ (can 65536 X):=⟨λ_ hx=>ei (by decide) hx,by omega⟩;rw[Qp (by decide) (by rw[dH];simp;omega),bD,show[(d:Int)]++zl (can 65536 r)=zl (d::can 65536 r)from rfl,iS _ (by simp;omega),bD,iv (B:=65536) (by decide) (by intro y hy;simp at hy;rcases hy with rfl|hy;exact QH;exact ei (by decide) hy),hval];have hqW:W*(X/W)<=X:=Nat.mul_div_le X W;have aat:X/W<65536:=by rw[Nat.div_lt_iff_lt_mul Mr,Nat.mul_comm];exact UC
  have J2:((eI (zl (can 65536 W)) ((X/W:Nat):Int)).bind λD7=>(ga (zl (can 65536 X)) D7).bind λJp=>(uy (zl (dA 65536 n (V/W/65536^(m+1)*65536^(m+1)))) (m:Int)).bind λLF=>(stM (zl (dA 65536 n (V/W/65536^(m+1)*65536^(m+1)))) LF ((X/W:Nat):Int)).bind λS8=>(some (.inl (Jp,IntKind.i64.wrap ((m:Int)-1),S8)):Option ((List Int×Int×List Int)⊕(List Int×List Int))))=some (.inl (zl (can 65536 (X%W)),(m:Int)-1,zl ((dA 65536 n (V/W/65536^(m+1)*65536^(m+1))).set m (X/W)))):=by
   rw[Af _ _ Mp aat,bD,eD,FW _ _ Bc (FX (Nat.lt_of_le_of_lt hqW (cc (by decide) X)) (by omega)) (by rw[eD,eD];exact hqW),bD,eD,eD,eY (by rw[dH,bB];omega),bD,ir (by rw[dH,bB];omega),bD,cj (x:=(m:Int)-1) (by omega) (by omega),J8,<-Nat.mod_eq_sub_mul_div]
  rw[dH];by_cases hsh:(can 65536 X).length<(can 65536 W).length
  ·rw[show decide (((can 65536 X).length:Int)<((can 65536 W).length:Int))=true by rw[decide_eq_true_eq];omega,eK];exact DA Mr Mp (eD W) Bc (eD X) 1 (by decide) (by decide) (by rw[Nat.one_mul];exact su (by decide) hsh) _ _ J2 (by omega)
  rw[show decide (((can 65536 X).length:Int)<((can 65536 W).length:Int))=false by rw[decide_eq_false_iff_not];omega,fg];exact DA Mr Mp (eD W) Bc (eD X) 65536 (by decide) (by decide) (by rw[Nat.mul_comm];exact UC) _ _ J2 (by omega)
 ·simp only[];rw[show decide ((0:Int)<=(n:Int)-1-(n:Int))=false by rw[decide_eq_false_iff_not];omega,fg,Nat.sub_self,Nat.pow_zero,Nat.mul_one,Nat.div_one,Nat.div_one]
 simp only[];rw[iS _ (by rw[bB];omega),bD,lq (by decide) hQ]
end
section
open Go.Fw
theorem um{v:Nat}:(can 65536 v).length=0↔v=0:=by
 constructor
 ·intro h;exact tX (by decide) (List.length_eq_zero_iff.1 h)
 intro h;rw[h,mJ];rfl
theorem Kj{v:Nat}(h:(can 65536 v).length<=100000000000):DJ (can 65536 v):=⟨λ_ hx=>ei (by decide) hx,h⟩
theorem yJ{x:Zr}(h:Wr x):dz x=some (zi x).sign:=by
 unfold dz;simp only[gH h,bD,dH];have hz:=um (v:=(zi x).natAbs);have hneg:x.neg=true->zi x<=0:=λe=>by unfold zi;rw[e];simp[sv]
 have hpos:x.neg=false->0<=zi x:=λe=>by unfold zi;rw[e];simp[sv]
 by_cases h0:zi x=0
 ·rw[h0];rfl
 rw[show decide (((can 65536 (zi x).natAbs).length:Int)=0)=false by rw[decide_eq_false_iff_not];omega,fg];cases hn:x.neg
 ·have:=hpos hn;rw[fg,Int.sign_eq_one_of_pos (by omega)]
 have:=hneg hn;rw[eK,Int.sign_eq_neg_one_of_neg (by omega)]
theorem Ms{x y:Zr}(hx:Wr x)(hy:Wr y):kX x y=some (jc (zi x) (zi y)):=by
 have cx:=hx.Mg;have cy:=hy.Mg;unfold kX;simp only[zeta',yJ hx,yJ hy,bD,gH hx,gH hy];rw[FV _ _ (Kj (by omega)) (Kj (by omega)),eD,eD];simp only[bD];generalize zi x=i;generalize zi y=j;rw[yE];rcases Int.lt_trichotomy i 0 with h1|h1|h1<;>rcases Int.lt_trichotomy j 0 with h2|h2|h2
 ·rw[Int.sign_eq_neg_one_of_neg h1,Int.sign_eq_neg_one_of_neg h2,show(i.natAbs:Int)=-i by omega,show(j.natAbs:Int)=-j by omega,Dm];show some (IntKind.i64.wrap (0-jc j i))=_;rw[G3]
 ·rw[Int.sign_eq_neg_one_of_neg h1,show Int.sign j=0 by rw[h2];rfl,show jc i j=-1 from fP (by omega)];rfl
 ·rw[Int.sign_eq_neg_one_of_neg h1,Int.sign_eq_one_of_pos h2,show jc i j=-1 from fP (by omega)];rfl
 ·rw[show Int.sign i=0 by rw[h1];rfl,Int.sign_eq_neg_one_of_neg h2,show jc i j=1 from fQ (by omega)];rfl
 ·rw[h1,h2];rfl
 ·rw[show Int.sign i=0 by rw[h1];rfl,Int.sign_eq_one_of_pos h2,show jc i j=-1 from fP (by omega)];rfl
 ·rw[Int.sign_eq_one_of_pos h1,Int.sign_eq_neg_one_of_neg h2,show jc i j=1 from fQ (by omega)];rfl
 ·rw[Int.sign_eq_one_of_pos h1,show Int.sign j=0 by rw[h2];rfl,show jc i j=1 from fQ (by omega)];rfl
 rw[Int.sign_eq_one_of_pos h1,Int.sign_eq_one_of_pos h2,show(i.natAbs:Int)=i by omega,show(j.natAbs:Int)=j by omega];rfl
theorem svz(x:Zr):sv x.neg (zi x).natAbs=zi x:=by rw[qc];rfl
theorem Mt{x:Zr}(hx:Wr x):kY x=some (zn (-zi x)):=by
 have cx:=hx.Mg;unfold kY;simp only[bD,gH hx];rw[qf _ _ (by omega),bD,yD,svz]
theorem Mu{x:Zr}(hx:Wr x):kZ x=some (zn ((zi x).natAbs:Int)):=by
 have cx:=hx.Mg;unfold kZ;simp only[bD,gH hx];rw[qf _ _ (by omega),bD,iw]
theorem FZ{x y:Zr}(hx:Wr x)(hy:Wr y):jo x y=some (Dn (zi x) (zi y)):=by
 have cx:=hx.Mg;have cy:=hy.Mg;unfold jo;simp only[bD,cg,gH hx,gH hy,dH];have ex:=svz x;have ey:=svz y;generalize (zi x).natAbs=a at*;generalize (zi y).natAbs=b at*;rw[<-ex,<-ey];generalize x.neg=n;generalize y.neg=m;by_cases h0:b=0
 ·subst h0;rw[show sv m 0=0 by cases m<;>rfl];rfl
 have ri:(can 65536 b).length≠0:=λh=>h0 (um.1 h);have hm:a%b<b:=Nat.mod_lt _ (by omega);have la:=cc (B:=65536) (by decide) a;have lb:=cc (B:=65536) (by decide) b;obtain⟨e1,e2⟩:=J6 n m (a:=a) (show 0<b by omega);have hj:sv m b≠0:=by cases m<;>simp[sv]<;>omega
 have hq:(can 65536 (a/b)).length<=(can 65536 a).length:=(bJ (by decide)).2 (Nat.lt_of_le_of_lt (Nat.div_le_self _ _) la);have hr:(can 65536 (a%b)).length<=(can 65536 b).length:=(bJ (by decide)).2 (Nat.lt_trans hm lb);rw[show decide (((can 65536 b).length:Int)=0)=false by rw[decide_eq_false_iff_not];omega,fg,FY a b h0 (by omega) (by omega),bD,Dn,if_neg hj,e1,e2];simp only[dH];have hz:=um (v:=a%b);have hK:∀c:Bool,(decide (n=true/\0<a%b)=c)->(bif c then(jm (zl (can 65536 (a/b))) [1]).bind λyO=>(ga (zl (can 65536 b)) (zl (can 65536 (a%b)))).bind λlT=>(dg (!(n==m)) yO).bind λx=>(dg false lT).bind λx_1=>some ((⟨x.neg,x.w⟩:Zr),(⟨x_1.neg,x_1.w⟩:Zr),(0:Int))
   else(dg (!(n==m)) (zl (can 65536 (a/b)))).bind λx=>(dg false (zl (can 65536 (a%b)))).bind λx_1=>some ((⟨x.neg,x.w⟩:Zr),(⟨x_1.neg,x_1.w⟩:Zr),(0:Int)))=
   some (zn (if n=true/\0<a%b then sv (!(n==m)) (a/b+1)else sv (!(n==m)) (a/b)),zn (if n=true/\0<a%b then((b-a%b:Nat):Int)else((a%b:Nat):Int)),0):=by
  intro c hc;cases c
  ·have J7:=of_decide_eq_false hc;rw[fg,if_neg J7,if_neg J7,qf _ _ (by omega),bD,qf _ _ (by omega),bD,iw]
  have J7:=of_decide_eq_true hc;have TQ:(can 65536 (a/b+1)).length<=(can 65536 a).length+1:=by
   apply(bJ (by decide)).2;have:a/b<=a:=Nat.div_le_self _ _;rw[Nat.pow_succ];omega
  have hbr:(can 65536 (b-a%b)).length<=(can 65536 b).length:=(bJ (by decide)).2 (by omega);rw[eK,if_pos J7,if_pos J7,show[(1:Int)]=zl [1]from Y,Mn _ _ (Kj (by omega)) ⟨by simp,by simp⟩,bD,eD,show mX [1]=1 by decide,FW _ _ (Kj (by omega)) (Kj (by omega)) (by rw[eD,eD];omega),bD,eD,eD,qf _ _ (by omega),bD,qf _ _ (by omega),bD,iw]
 cases n
 ·rw[fg,bD];exact hK false (by simp)
 rw[eK,bD];refine hK _ ?_;simp only[true_and];by_cases h:0<a%b
 ·rw[show decide (0<a%b)=true by simp[h],show decide ((0:Int)<((can 65536 (a%b)).length:Int))=true by rw[decide_eq_true_eq];omega]
 rw[show decide (0<a%b)=false by simp[h],show decide ((0:Int)<((can 65536 (a%b)).length:Int))=false by rw[decide_eq_false_iff_not];omega]
end
section
open Go.Fw
theorem Mv{x y:Zr}(hx:Wr x)(hy:Wr y):k7 x y=some (zn (Int.gcd (zi x) (zi y):Int)):=by
 have cx:=hx.Mg;have cy:=hy.Mg;unfold k7;simp only[bD,gH hx,gH hy];rw[Int.gcd];generalize (zi x).natAbs=a at*;generalize (zi y).natAbs=b at*;refine fX (λs=>∃c d,s=(zl (can 65536 c),zl (can 65536 d))/\Nat.gcd c d=Nat.gcd a b/\(can 65536 c).length<=20000000000/\(can 65536 d).length<=20000000000)
  (λe=>e=zl (can 65536 (Nat.gcd a b))/\(can 65536 (Nat.gcd a b)).length<=20000000000) (λs=>val 65536 (s.2.map Int.toNat)) ?_ ⟨a,b,Y,Y,cx,cy⟩ ?_
 ·rintro _ ⟨c,d,rfl,hg,hc,hd⟩;simp only[dH];have hzl:∀l:List Nat,(zl l).map Int.toNat=l:=λl=>by
   rw[zl,List.map_map];have:(Int.toNat∘λ(n:Nat)=>(n:Int))=id:=by funext n;simp
   rw[this,List.map_id]
  by_cases h0:d=0
  ·right;subst h0;rw[Nat.gcd_zero_right]at hg;subst hg;exact⟨_,Y,Y,hc⟩
  left;have ri:(can 65536 d).length≠0:=λh=>h0 (um.1 h);have hm:c%d<d:=Nat.mod_lt _ (by omega);rw[show decide ((0:Int)<((can 65536 d).length:Int))=true by rw[decide_eq_true_eq];omega,eK,FY c d h0 (by omega) (by omega),bD];refine⟨_,Y,⟨d,c%d,Y,?_,hd,?_⟩,?_⟩
  ·rw[<-hg,Nat.gcd_comm d,<-Nat.gcd_rec,Nat.gcd_comm]
  ·exact Nat.le_trans ((bJ (by decide)).2 (Nat.lt_trans hm (cc (by decide) d))) hd
  simp only[];rw[hzl,hzl,iD (by decide),iD (by decide)];exact hm
 rintro _ ⟨rfl,hl⟩;rw[qf _ _ (by omega),bD,iw]
end
section
open Go.Fw
theorem F0:jr=some (zn 1):=by
 unfold jr;simp only[zeta',bD,from_eq (x:=1) (by decide)]
section ops
variable {L M:Nat}{a b:Qr}{x y:Rat}
theorem G5(h:iE L a x)(hL:L<=10000000000):∃n d:Int,lf a=some (zn n)/\k8 a=some (zn d)/\0<d/\Rat.divInt n d=x/\Fit L n/\Fit L d:=by
 have wn:Wr a.num:=⟨h.n,Nat.le_trans h.ln hL⟩;have wd:Wr a.den:=⟨h.d,Nat.le_trans h.ld hL⟩;have hv:=h.v;unfold lf k8;simp only[zeta',bD,yJ wd,F0,Mt wn,Mu wd,Dr wn];unfold qv qd at hv;rcases Int.lt_trichotomy (zi a.den) 0 with h1|h1|h1
 ·refine⟨-zi a.num,-zi a.den,?_,?_,by omega,?_,h.fn.neg,h.fd.neg⟩
  ·rw[Int.sign_eq_neg_one_of_neg h1];rfl
  ·rw[Int.sign_eq_neg_one_of_neg h1,show((zi a.den).natAbs:Int)=-zi a.den by omega];rfl
  rw[Rat.neg_divInt_neg,<-hv,if_neg (by omega)]
 ·refine⟨zi a.num,1,?_,?_,by decide,?_,h.fn,ug h.l1⟩
  ·rw[h1];rfl
  ·rw[h1];rfl
  rw[<-hv,if_pos h1]
 refine⟨zi a.num,zi a.den,?_,?_,h1,?_,h.fn,h.fd⟩
 ·rw[Int.sign_eq_one_of_pos h1];rfl
 ·rw[Int.sign_eq_one_of_pos h1,show((zi a.den).natAbs:Int)=zi a.den by omega];rfl
 rw[<-hv,if_neg (by omega)]
theorem Mw{n d:Int}(hn:Fit L n)(hd:Fit L d)(hL:L<=10000000000)(h:0<d):jJ (zn n) (zn d)=some (qn (Rat.divInt n d)):=by
 have wn:=Dp hn hL;have wd:=Dp hd hL;have g0:(Int.gcd n d:Int)≠0:=by
  have:0<Int.gcd n d:=Int.gcd_pos_of_ne_zero_right _ (by omega);omega
 have wg:Wr (zn (Int.gcd n d:Int)):=Dp (hd.le (by
  have:=Nat.le_of_dvd (Int.natAbs_pos.2 (show d≠0 by omega)) (Int.gcd_dvd_natAbs_right n d);simpa using this)) hL
 have wq:Wr (zn (d/(Int.gcd n d:Int))):=Dp (hd.le (Int.natAbs_ediv_le_natAbs _ _)) hL;have one:cY 1:=by decide
 unfold jJ;simp only[zeta',bD,Mv wn wd,FZ wn wg,FZ wd wg,F0,eA];rw[Dn,if_neg g0,Dn,if_neg g0];simp only[];rw[Ms wq (J9 one),bD,eA,eA,vk h];by_cases e:d/(Int.gcd n d:Int)=1
 ·rw[e,mc,if_pos rfl];rfl
 have:jc (d/(Int.gcd n d:Int)) 1≠0:=by
  rcases Int.lt_trichotomy (d/(Int.gcd n d:Int)) 1 with q|q|q
  ·rw[fP q];decide
  ·exact absurd q e
  rw[fQ q];decide
 rw[decide_eq_false this,fg,if_neg e]
theorem iE.QL(ha:iE L a x)(h:L<=10000000000):iO a=some (qn x):=by
 obtain⟨n,d,e1,e2,h1,h2,f1,f2⟩:=G5 ha h;unfold iO;simp only[zeta',qh,qi,e1,e2,bD,Mw f1 f2 h h1,h2]
theorem Mx{n:Int}(hn:cY n):lj n=some (qn (n:Rat)):=by
 unfold lj;simp only[zeta',bD,from_eq hn];rw[Ke]
theorem QM{n d:Int}(hn:cY n)(hd:cY d)(h0:d≠0):mG n d=some (qn (Rat.divInt n d)):=by
 unfold mG;simp only[zeta',qh,qi,bD,from_eq hn,from_eq hd,(Dw h0 (me hn) (me hd) (by decide)).QL (by decide)]
end ops
end
section
open Go.Fw
theorem cV{J R:Type}{f:J->Option R}{g:(J->Option R)->Option R}{r:Option R}(h:g f=r):cg f g=r:=h
section ops
variable {K L M:Nat}{c:Qr}{a b:List Qr}{k:Rat}{f g:Nat->Rat}
theorem v5{l:List Int}(hl:∀x∈l,cY x)(h:l.length<=1000000):cP l=some (vq l.length λi=>((l.getD i 0:Int):Rat))/\dB 2 (vq l.length λi=>((l.getD i 0:Int):Rat)) (λi=>((l.getD i 0:Int):Rat)):=by
 have hx:∀i,cY (l.getD i 0):=λi=>by
  by_cases hi:i<l.length
  ·rw[List.getD_eq_getElem?_getD,List.getElem?_eq_getElem hi];exact hl _ (List.getElem_mem hi)
  rw[List.getD_eq_getElem?_getD,List.getElem?_eq_none (by omega)];decide
 refine⟨?_,oE (λi _=>(lZ (hx i)).2.fq) (λi hi=>?_) (by decide)⟩
 ·unfold cP;refine aA Y<|aA (qa (by omega) (by omega))<|aA Y ?_;refine bF (λj=>((j:Int),vq j (λi=>((l.getD i 0:Int):Rat))++List.replicate (l.length-j) qz)) l.length (vq l.length λi=>((l.getD i 0:Int):Rat)) Y (λj hj=>?_) ?_ Y
  ·have e3:=(lZ (hx j)).1;have h4:=Kg (h:=λi=>((l.getD i 0:Int):Rat)) hj;obtain⟨q3,h3⟩:∃q,qn ((l.getD j 0:Int):Rat)=q:=⟨_,Y⟩;rw[h3]at e3 h4;obtain⟨⟨_,_⟩,⟨_,_⟩⟩:=q3;refine aA Y<|cn (decide_eq_true (by omega))<|aA (bO (cK hj))<|aA e3<|aA (eY (by rw[wZ (by omega)];exact hj))<|aA (ir (by rw[wZ (by omega)];exact hj))<|aA Y ?_;rw[b8 (by omega),h4]
  refine aA Y<|cu (decide_eq_false (by omega)) ?_;simp
 show((l.getD i 0:Int):Rat)=0;rw[dU hi];rfl
end ops
end
section
open Go.Fw
theorem Kk(l:List Qr)(hl:l.length<=1000000):∃b,jM l=some b/\(b=false->∀q∈l,q.num.w.length<=6/\q.den.w.length<=6):=by
 unfold jM;simp only[bD];refine lY (λy=>∃i:Nat,y=(i:Int)/\i<=l.length/\∀z∈l.take i,z.num.w.length<=6/\z.den.w.length<=6) (λe=>(∃c,e=.inl c/\∀z∈l,z.num.w.length<=6/\z.den.w.length<=6)\/e=.inr true) (λy=>l.length-y.toNat) ?_ ⟨0,Y,by omega,by simp⟩ ?_
 ·rintro _ ⟨i,rfl,hi,ht⟩;by_cases hlt:i<l.length
  ·have g:l[i]? =some l[i]:=by simp
   obtain⟨q,hq⟩:∃q,l[i]=q:=⟨_,Y⟩;rw[hq]at g;obtain⟨z,w⟩:=q;obtain⟨b,hb,-⟩:=Mh [z,w] (by simp);rw[show decide ((i:Int)<(l.length:Int))=true by simp[hlt],eK];simp only[bO g,bD,zeta',cg,hb];cases b
   ·rw[fg,bD];by_cases h1:6<z.w.length
    ·right;rw[decide_eq_true (by omega),eK,bD,eK];exact⟨_,Y,.inr Y⟩
    rw[decide_eq_false (by omega),fg,bD];by_cases h2:6<w.w.length
    ·right;rw[decide_eq_true (by omega),eK];exact⟨_,Y,.inr Y⟩
    left;rw[decide_eq_false (by omega),fg,b8 (by omega)];refine⟨_,Y,⟨i+1,Y,hlt,?_⟩,by omega⟩;rw[List.take_add_one,g];intro u hu;rcases List.mem_append.1 hu with h|h
    ·exact ht u h
    simp at h;rw[h];exact⟨by simp only[];omega,by simp only[];omega⟩
   right;exact⟨_,Y,.inr Y⟩
  right;rw[show decide ((i:Int)<(l.length:Int))=false by simp;omega,fg];rw[List.take_of_length_le (by omega)]at ht;exact⟨_,Y,.inl ⟨_,Y,ht⟩⟩
 rintro e (⟨c,rfl,he⟩|rfl)
 ·exact⟨false,Y,λ_=>he⟩
 exact⟨true,rfl,λh=>by cases h⟩
abbrev OkQ(q:Qr):Prop:=OkZ q.num/\OkZ q.den
theorem Kl{q:Qr}{L:Nat}(h:OkQ q)(h1:q.num.w.length<=L)(h2:q.den.w.length<=L)(hL:1<=L):iE L q (qv q):=⟨h.1.2.2,h.2.2.2,h1,h2,hL,Y⟩
end
section
open Go.Fw
theorem dT{p:Prop}[Decidable p](h:p):(some (decide p):Option Bool)=some true:=congrArg some (decide_eq_true h)
theorem dF{p:Prop}[Decidable p](h:¬p):(some (decide p):Option Bool)=some false:=congrArg some (decide_eq_false h)
theorem uo{β:Type}{x:Option Bool}{f:Bool->Option β}{r:Option β}{y:Option Bool}(h:x=some true)(hf:f true=r):(bif true then x else y).bind f=r:=by rw[eK,h];exact hf
theorem BM{β:Type}{b c:Bool}{x:Option Bool}{f:Bool->Option β}{r:Option β}(h:b=false->x=some c)(hf:f (b||c)=r):(bif b then some true else x).bind f=r:=by
 cases b
 ·rw[fg,h rfl];exact hf
 rw[eK];exact hf
theorem aaw{β:Type}{b c:Bool}{x:Option Bool}{f:Bool->Option β}{r:Option β}(h:b=true->x=some c)(hf:f (b&&c)=r):(bif b then x else some false).bind f=r:=by
 cases b
 ·rw[fg];exact hf
 rw[eK,h rfl];exact hf
section ops
variable {K L M:Nat}{a b c:Qr}{x y z:Rat}
theorem int'{n:Int}(hn:cY n):∃q,di n=some q/\iE 2 q (n:Rat):=⟨_,lZ hn⟩
end ops
theorem dB.val{L:Nat}{v:List Qr}{f:Nat->Rat}(h:dB L v f)(i:Nat):f i=BF v i:=(h.at i).v.symm
abbrev UD(v:List Qr):Prop:=v.length*64<=140737488351232/\∀q∈v,OkQ q
theorem aax{q:Qr}(h:OkQ q):iE 35184372087808 q (qv q):=Kl h (by have:=h.1.2.1;omega) (by have:=h.2.2.1;omega) (by decide)
theorem T0{v:List Qr}(h:UD v):dB 35184372087808 v (BF v):=FP (λq hq=>aax (h.2 q hq)) (by decide)
end
section
open Go.Fw
def iT{α:Type}(f:Nat->α)(n k:Nat)(z:α):List α:=(List.range k).map f++List.replicate (n-k) z
theorem qF{α:Type}{f:Nat->α}{n k:Nat}{z:α}(hk:k<=n):(iT f n k z).length=n:=by simp[iT];omega
theorem oF{α:Type}{f:Nat->α}{n:Nat}{z:α}:iT f n 0 z=List.replicate n z:=by simp[iT]
theorem qG{α:Type}{f:Nat->α}{n:Nat}{z:α}:iT f n n z=(List.range n).map f:=by simp[iT]
theorem qH{α:Type}{f:Nat->α}{n k:Nat}{z:α}(hk:k<n):(iT f n k z).set k (f k)=iT f n (k+1) z:=by
 unfold iT;rw[show n-k=(n-(k+1))+1 by omega,List.replicate_succ,List.set_append_right _ _ (by simp),List.length_map,List.length_range,Nat.sub_self,List.range_succ,List.map_append,List.append_assoc];rfl
def mq(n:Nat)(ln:Nat->Nat)(F:Nat->Nat->Rat):List (List Qr):=(List.range n).map λi=>vq (ln i) (F i)
theorem gK(n:Nat)(ln:Nat->Nat)(F:Nat->Nat->Rat):(mq n ln F).length=n:=by simp[mq]
theorem QN{n i:Nat}{ln:Nat->Nat}{F:Nat->Nat->Rat}(hi:i<n):(mq n ln F)[i]? =some (vq (ln i) (F i)):=by simp[mq,hi]
theorem yK{n:Nat}{ln ln':Nat->Nat}{F G:Nat->Nat->Rat}(h:∀i,i<n->ln i=ln' i/\∀k,k<ln i->F i k=G i k):mq n ln F=mq n ln' G:=by
 unfold mq;apply List.map_congr_left;intro i hi;obtain⟨h1,h2⟩:=h i (List.mem_range.1 hi);rw[uj h2,h1]
structure gP (L:Nat) (m:List (List Qr)) (F:Nat->Nat->Rat):Prop where
 e:∀i v,m[i]? =some v->dB L v (F i)
 z:∀i,m.length<=i->∀k,F i k=0
 l1:1<=L
theorem gP.row{L:Nat}{m:List (List Qr)}{F:Nat->Nat->Rat}(h:gP L m F)(i:Nat):dB L (m.getD i []) (F i):=by
 by_cases hi:i<m.length
 ·rw[List.getD_eq_getElem?_getD,List.getElem?_eq_getElem hi];exact h.e i _ (List.getElem?_eq_getElem hi)
 rw[List.getD_eq_getElem?_getD,List.getElem?_eq_none (by omega)];exact(dB.nil h.l1).congr (λk=>(h.z i (by omega) k).symm)
theorem BH{L n:Nat}{ln:Nat->Nat}{F:Nat->Nat->Rat}(hf:∀i,i<n->∀k,k<ln i->FQ L (F i k))(hz:∀i,i<n->∀k,ln i<=k->F i k=0)(hz':∀i,n<=i->∀k,F i k=0)(h1:1<=L):gP L (mq n ln F) F:=by
 refine⟨λi v e=>?_,λi hi=>hz' i (by rwa[gK]at hi),h1⟩;have hi:i<n:=by have:=(List.getElem?_eq_some_iff.1 e).1;rwa[gK]at this
 rw[QN hi]at e;cases e;exact oE (hf i hi) (hz i hi) h1
def EU(m:List (List Qr))(i:Nat):Nat->Rat:=BF (m.getD i [])
theorem My{L:Nat}{m:List (List Qr)}(h:∀v∈m,dB L v (BF v))(h1:1<=L):gP L m (EU m):=by
 refine⟨λi v e=>?_,λi hi k=>?_,h1⟩
 ·have:EU m i=BF v:=by unfold EU;rw[List.getD_eq_getElem?_getD,e];rfl
  rw[this];exact h v (List.mem_of_getElem? e)
 unfold EU;rw[List.getD_eq_getElem?_getD,List.getElem?_eq_none hi];exact(dB.nil (L:=1) (by decide)).val k |>.symm
theorem yL{L:Nat}{v:List Qr}{f:Nat->Rat}(h:dB L v f):gP L [v] (λi k=>if i=0 then f k else 0):=by
 refine⟨λi u e=>?_,λi hi k=>if_neg (by simp at hi;omega),h.l1⟩
 match i,e with
 |0,e=>cases e;exact h.congr (λk=>(if_pos rfl).symm)
theorem mkm{n:Nat}(h:n<=1000000):Ca 24 ((n:Nat):Int) ([]:List Qr)=some (List.replicate n []):=qa (by decide) (by omega)
theorem T1(n:Nat)(h:n<=1000000):Ca 64 ((n:Nat):Int) (⟨⟨false,[]⟩,⟨false,[]⟩⟩:Qr)=some (List.replicate n ⟨⟨false,[]⟩,⟨false,[]⟩⟩):=qa (by omega) (by omega)
theorem BI{L M N:Nat}{a b:List Qr}{f g:Nat->Rat}(ha:dB L a f)(hb:dB M b g)(h:min a.length b.length<=N):dS (λi=>f i*g i) (min a.length b.length)=dS (λi=>f i*g i) N:=by
 rw[Kf h (λi h1 _=>by
  rcases Nat.lt_or_ge i a.length with q|q
  ·rw[hb.z i (by omega)];grind
  rw[ha.z i q];grind)]
theorem yM{E:Type}{body:Nat->Unit->Option (Unit⊕E)}{n:Nat}{p:Nat->Prop}[DecidablePred p]{e:E}(h:∀k,k<n->body k ()=some (if p k then .inl ()else .inr e)):lD body n ()=some (if ∀k,k<n->p k then .inl ()else .inr e):=by
 induction n with
 |zero=>rw[lD,if_pos (λk hk=>by omega)]
 |succ n ih=>
  rw[lD,ih (λk hk=>h k (by omega))];by_cases h1:∀k,k<n->p k
  ·rw[if_pos h1];show body n ()=_;rw[h n (by omega)];by_cases h2:p n
   ·rw[if_pos h2,if_pos];intro k hk;rcases Nat.lt_or_ge k n with q|q
    ·exact h1 k q
    obtain rfl:k=n:=by omega
    exact h2
   rw[if_neg h2,if_neg (λq=>h2 (q n (by omega)))]
  rw[if_neg h1,if_neg (λq=>h1 (λk hk=>q k (by omega)))];rfl
section ops
variable {K L M:Nat}{c:Qr}{k:Rat}{a b:List (List Qr)}{F G:Nat->Nat->Rat}{x:List Qr}{f:Nat->Rat}
theorem Mz(a:List (List Qr))(i:Nat):kq a (i:Int)=some (a.getD i []):=by
 unfold kq;refine cV<|aA (dF (by omega)) ?_;by_cases h:i<a.length
 ·exact aA (a:=false) (cu Y<|aA Y<|aA (dF (by omega)) Y)<|cu Y<|aA (bO (cK h)) Y
 rw[dU (by omega)];exact aA (a:=true) (cu Y<|aA Y<|aA (dT (by omega)) Y)<|cn Y Y
def lA(m:List (List Qr)):Nat:=m.foldl (λn v=>max n v.length) 0
theorem lB{m:List (List Qr)}{n:Nat}:lA m<=n↔∀v∈m,v.length<=n:=by
 have key:∀(l:List (List Qr)) (s:Nat),l.foldl (λn v=>max n v.length) s<=n↔s<=n/\∀v∈l,v.length<=n:=by
  intro l
  induction l with
  |nil=>intro s;simp
  |cons v l ih=>
   intro s;rw[List.foldl_cons,ih];simp only[List.mem_cons,forall_eq_or_imp];constructor
   ·rintro⟨h1,h2⟩;exact⟨by omega,by omega,h2⟩
   rintro⟨h1,h2,h3⟩;exact⟨by omega,h3⟩
 unfold lA;rw[key];simp
theorem OF(m:List (List Qr))(h:m.length<=9223372036854775806):ku m=some (lA m:Int):=by
 unfold ku;refine aA Y ?_;refine bF (λj=>(((m.take j).foldl (λn v=>max n v.length) 0:Nat),(j:Int))) m.length ((lA m:Nat):Int) (by simp) (λj hj=>?_) ?_ Y
 ·refine aA (dT (by omega))<|cn Y<|aA (bO (List.getElem?_eq_getElem hj))<|aA Y<|aA Y<|aA (congrArg some (b8 (by omega))) ?_;rw[List.take_add_one,List.getElem?_eq_getElem hj,List.foldl_append];simp only[Option.toList_some,List.foldl_cons,List.foldl_nil];congr 3;omega
 refine aA (dF (by omega))<|cu Y ?_;rw[List.take_length];rfl
theorem Km(h:gP L a F)(hL:L<=35184372088788)(i j:Nat):nL a (i:Int) (j:Int)=some (qn (F i j)):=by
 unfold nL;refine aA (Mz a i)<|cV<|aA (dF (by omega)) ?_;have hr:=h.row i;generalize a.getD i []=v at hr;by_cases hj:j<v.length
 ·obtain⟨q,e1,r1⟩:=hr.get hj;have e2:=(r1.canon hL).1;exact aA (a:=false) (cu Y<|aA Y<|aA (dF (by omega)) Y)<|cu Y<|aA (bO e1)<|aA e2 Y
 rw[hr.z j (by omega)];exact aA (a:=true) (cu Y<|aA Y<|aA (dT (by omega)) Y)<|cn Y Y
theorem Kn(hc:iE K c k)(h:gP L a F)(hL:K+L<=35184372088768)(hn:a.length<=1000000)(hw:∀v∈a,v.length<=1000000):
  jl c a=some (mq a.length (λi=>(a.getD i []).length) (λi j=>k*F i j))/\gP (K+L) (mq a.length (λi=>(a.getD i []).length) (λi j=>k*F i j)) (λi j=>k*F i j):=by
 have hw':∀i,(a.getD i []).length<=1000000:=λi=>by
  by_cases hi:i<a.length
  ·exact hw _ (List.mem_of_getElem? (cK (d:=[]) hi))
  rw[dU (by omega)];decide
 constructor
 ·unfold jl;refine aA Y<|aA (mkm hn)<|aA Y ?_;refine bF (λj=>((j:Int),iT (λi=>vq (a.getD i []).length (λj=>k*F i j)) a.length j [])) a.length (mq a.length (λi=>(a.getD i []).length) (λi j=>k*F i j)) (by rw[oF];rfl) (λj hj=>?_) ?_ Y
  ·have e1:=(BG hc (h.row j) hL (hw' j)).1;have hl:(iT (λi=>vq (a.getD i []).length (λj=>k*F i j)) a.length j []).length=a.length:=qF (by omega);refine aA (dT (by omega))<|cn Y<|aA (bO (cK (d:=[]) hj))<|aA e1<|aA (eY (show j<_ by rw[hl];exact hj))<|aA (ir (show j<_ by rw[hl];exact hj))<|aA (congrArg some (b8 (by omega))) ?_;rw[<-qH hj]
  refine aA (dF (by omega))<|cu Y ?_;rw[qG];rfl
 refine BH (λi hi j hj=>?_) (λi hi j hj=>by rw[(h.row i).z j hj];grind) (λi hi j=>by rw[h.z i hi j];grind) (by have:=h.l1;omega);exact(BG hc (h.row i) hL (hw' i)).2.fq j
theorem aay(h:gP L a F)(hx:dB M x f){N:Nat}(hN:∀v∈a,min v.length x.length<=N)(hL:(N+2)*(L+M+1)<=35184372088768)(hn:a.length<=1000000):
  jG a x=some (vq a.length (λi=>dS (λj=>F i j*f j) N))/\dB (N*(L+M+1)+1) (vq a.length (λi=>dS (λj=>F i j*f j) N)) (λi=>dS (λj=>F i j*f j) N):=by
 have row:∀i,i<a.length->gD (a.getD i []) x=some (qn (dS (λj=>F i j*f j) N))/\iE (N*(L+M+1)+1) (qn (dS (λj=>F i j*f j) N)) (dS (λj=>F i j*f j) N):=λi hi=>by
  have hm:=hN _ (List.mem_of_getElem? (cK (d:=[]) hi));have h1:=QK (h.row i) hx (Nat.le_trans (Nat.mul_le_mul_right _ (by omega)) hL);rw[BI (h.row i) hx hm]at h1;exact⟨h1.1,h1.2.mono (Nat.add_le_add_right (Nat.mul_le_mul_right _ hm) 1)⟩
 constructor
 ·unfold jG;refine aA Y<|aA (T1 _ hn)<|aA Y ?_;refine bF (λj=>((j:Int),iT (λi=>qn (dS (λj=>F i j*f j) N)) a.length j ⟨⟨false,[]⟩,⟨false,[]⟩⟩)) a.length (vq a.length (λi=>dS (λj=>F i j*f j) N)) (by rw[oF];rfl) (λj hj=>?_) ?_ Y
  ·have e1:=(row j hj).1;have hl:(iT (λi=>qn (dS (λj=>F i j*f j) N)) a.length j ⟨⟨false,[]⟩,⟨false,[]⟩⟩).length=a.length:=qF (by omega);have hst:∀q,qn (dS (λi=>F j i*f i) N)=q->(iT (λi=>qn (dS (λj=>F i j*f j) N)) a.length j ⟨⟨false,[]⟩,⟨false,[]⟩⟩).set j q=iT (λi=>qn (dS (λj=>F i j*f j) N)) a.length (j+1) ⟨⟨false,[]⟩,⟨false,[]⟩⟩:=by rintro q rfl;exact qH hj
   generalize hq:qn (dS (λi=>F j i*f i) N)=q at e1;have hst:=hst q hq;refine aA (dT (by omega))<|cn Y<|aA (bO (cK (d:=[]) hj))<|aA e1<|aA (eY (show j<_ by rw[hl];exact hj))<|aA (ir (show j<_ by rw[hl];exact hj))<|aA (congrArg some (b8 (by omega))) ?_;rw[<-hst]
  refine aA (dF (by omega))<|cu Y ?_;rw[qG];rfl
 refine oE (λi hi=>(row i hi).2.fq) (λi hi=>?_) (by omega);rw[yH (k:=λ_=>0) (λj _=>by rw[h.z i hi j];grind),Ad]
theorem QO(ha:gP L a F)(hb:gP M b G)(h:L+M<=35184372088768):ik a b=some (decide (∀i,i<max a.length b.length->∀j,j<max (a.getD i []).length (b.getD i []).length->F i j=G i j)):=by
 unfold ik;refine aA (yM (p:=λi=>∀j,j<max (a.getD i []).length (b.getD i []).length->F i j=G i j) (e:=false) (λi hi=>?_)) ?_
 ·have e1:=UB (ha.row i) (hb.row i) h;refine aA Y<|aA Y<|aA e1<|aA Y ?_;by_cases q:∀j,j<max (a.getD i []).length (b.getD i []).length->F i j=G i j
  ·rw[if_pos q];exact cu (by rw[decide_eq_true q];rfl) Y
  rw[if_neg q];exact cn (by rw[decide_eq_false q];rfl) Y
 by_cases q:∀i,i<max a.length b.length->∀j,j<max (a.getD i []).length (b.getD i []).length->F i j=G i j
 ·rw[if_pos q,decide_eq_true q]
 rw[if_neg q,decide_eq_false q]
theorem F1(ha:gP L a F)(hb:gP M b G)(h:L+M<=35184372088768)(e:∀i j,F i j=G i j):ik a b=some true:=by
 rw[QO ha hb h,decide_eq_true (λi _ j _=>e i j)]
theorem F2{l:List (List Int)}(hl:∀v∈l,v.length<=1000/\∀y∈v,cY y)(hn:l.length<=1000):dZ l=some (mq l.length (λi=>(l.getD i []).length) (λi j=>(((l.getD i []).getD j 0:Int):Rat)))/\gP 2 (mq l.length (λi=>(l.getD i []).length) (λi j=>(((l.getD i []).getD j 0:Int):Rat))) (λi j=>(((l.getD i []).getD j 0:Int):Rat)):=by
 have hw:∀i,(l.getD i []).length<=1000/\∀y∈l.getD i [],cY y:=λi=>by
  by_cases hi:i<l.length
  ·exact hl _ (List.mem_of_getElem? (cK (d:=[]) hi))
  rw[dU (by omega)];simp
 constructor
 ·unfold dZ;refine aA Y<|aA (mkm (by omega))<|aA Y ?_;refine bF (λj=>((j:Int),iT (λi=>vq (l.getD i []).length (λj=>(((l.getD i []).getD j 0:Int):Rat))) l.length j [])) l.length (mq l.length (λi=>(l.getD i []).length) (λi j=>(((l.getD i []).getD j 0:Int):Rat))) (by rw[oF];rfl) (λj hj=>?_) ?_ Y
  ·have e1:=(v5 (hw j).2 (by have:=(hw j).1;omega)).1;have hl:(iT (λi=>vq (l.getD i []).length (λj=>(((l.getD i []).getD j 0:Int):Rat))) l.length j []).length=l.length:=qF (by omega);refine aA (dT (by omega))<|cn Y<|aA (bO (cK (d:=[]) hj))<|aA e1<|aA (eY (show j<_ by rw[hl];exact hj))<|aA (ir (show j<_ by rw[hl];exact hj))<|aA (congrArg some (b8 (by omega))) ?_;rw[<-qH hj]
  refine aA (dF (by omega))<|cu Y ?_;rw[qG];rfl
 refine BH (λi hi j hj=>(v5 (hw i).2 (by have:=(hw i).1;omega)).2.fq j) (λi hi j hj=>by rw[dU hj];rfl) (λi hi j=>by rw[dU hi];rfl) (by decide)
end ops
end
section
open Go.Fw
theorem F3{α:Type}{b:Bool}{x y r:α}(ht:b=true->x=r)(hf:b=false->y=r):(bif b then x else y)=r:=by
 cases b
 ·rw[fg];exact hf Y
 rw[eK];exact ht Y
theorem Ag{E:Type}{body:Int->Option (Int⊕(Unit⊕E))}{n:Nat}{p:Nat->Prop}[DecidablePred p]{e:E}(h:∀k:Nat,k<n->body (k:Int)=some (if p k then .inl ((k+1:Nat):Int)else .inr (.inr e)))(hn:body (n:Int)=some (.inr (.inl ()))):
  b9 body 0=some (if ∀k,k<n->p k then .inl ()else .inr e):=by
 obtain⟨r,h1,h2⟩:=uJ (body:=body) (s:=0) (λs=>∃k:Nat,s=(k:Int)/\k<=n/\∀i,i<k->p i) (λr=>(r=.inl ()/\∀k,k<n->p k)\/(r=.inr e/\¬∀k,k<n->p k)) (λs=>n-s.toNat) (by
  rintro _ ⟨k,rfl,hk,hp⟩;by_cases hlt:k<n
  ·by_cases hpk:p k
   ·refine .inl ⟨_,by rw[h k hlt,if_pos hpk],⟨k+1,Y,hlt,λi hi=>?_⟩,by simp only[Int.toNat_natCast];omega⟩;rcases Nat.lt_or_ge i k with q|q
    ·exact hp i q
    obtain rfl:i=k:=by omega
    exact hpk
   exact .inr ⟨_,by rw[h k hlt,if_neg hpk],.inr ⟨Y,λq=>hpk (q k hlt)⟩⟩
  obtain rfl:k=n:=by omega
  exact .inr ⟨_,hn,.inl ⟨Y,hp⟩⟩) ⟨0,Y,by omega,λi hi=>by omega⟩
 rw[h1];rcases h2 with⟨rfl,h2⟩|⟨rfl,h2⟩
 ·rw[if_pos h2]
 rw[if_neg h2]
def MA(n:Nat)(f:Nat->Rat)(i:Nat):Rat:=if i<n then f i else 0
theorem F4{n i:Nat}{f:Nat->Rat}(h:i<n):MA n f i=f i:=if_pos h
theorem MB{n i:Nat}{f:Nat->Rat}(h:n<=i):MA n f i=0:=if_neg (by omega)
theorem QS(n:Nat)(f:Nat->Rat):vq n f=vq n (MA n f):=uj (λi hi=>(F4 hi).symm)
theorem MC{L n:Nat}{f:Nat->Rat}(h:∀i,i<n->FQ L (f i))(h1:1<=L):dB L (vq n f) (MA n f):=by
 rw[QS];exact oE (λi hi=>by rw[F4 hi];exact h i hi) (λi hi=>MB hi) h1
def vn(n:Int)(ob rw:List (List Qr))(bd:List Qr):Prop:=0<=n/\n<=64/\1<=ob.length/\ob.length<=4/\rw.length<=128/\bd.length=rw.length/\(lA ob:Int)<=n/\(lA rw:Int)<=n
instance(n:Int)(ob rw:List (List Qr))(bd:List Qr):Decidable (vn n ob rw bd):=by unfold vn;exact inferInstance
theorem mP{n:Int}{ob rw:List (List Qr)}{bd:List Qr}(h1:ob.length<=9223372036854775806)(h2:rw.length<=9223372036854775806):gx ⟨n,ob,rw,bd⟩=some (decide (vn n ob rw bd)):=by
 unfold gx gw;refine aA (aA Y<|aA Y<|aA Y Y)<|cV<|aA Y<|BM (λ_=>aA Y Y)<|BM (λ_=>aA Y Y)<|BM (λ_=>aA Y Y)<|F3 (λh=>?_) (λh=>cV<|aA Y<|BM (λ_=>aA Y Y)<|F3 (λh'=>?_) (λh'=>cV<|aA (OF ob h1)<|aA Y<|aaw (λ_=>aA (OF rw h2)<|aA Y Y) ?_))
 ·congr 1;symm;rw[decide_eq_false_iff_not];simp only[Bool.or_eq_true,decide_eq_true_eq]at h;unfold vn;omega
 ·congr 1;symm;rw[decide_eq_false_iff_not];simp only[Bool.or_eq_true,decide_eq_true_eq]at h';unfold vn;omega
 congr 1;simp only[Bool.or_eq_false_iff,decide_eq_false_iff_not]at h h';rw[<-Bool.decide_and,decide_eq_decide];unfold vn;omega
def MD(n:Int)(ob rw:List (List Qr))(bd x:List Qr)(F:Nat->Nat->Rat)(g f:Nat->Rat)(N:Nat):Prop:=vn n ob rw bd/\(x.length:Int)<=n/\(∀i,i<x.length->0<=f i)/\∀i,i<rw.length->dS (λj=>F i j*f j) N<=g i
instance(n:Int)(ob rw:List (List Qr))(bd x:List Qr)(F:Nat->Nat->Rat)(g f:Nat->Rat)(N:Nat):Decidable (MD n ob rw bd x F g f N):=by unfold MD;exact inferInstance
section lps
variable {K L M N:Nat}{n:Int}{ob rw:List (List Qr)}{bd x y:List Qr}{O F:Nat->Nat->Rat}{g f:Nat->Rat}
theorem F5(hr:gP L rw F)(hb:dB K bd g)(hx:dB M x f)(hN:∀v∈rw,min v.length x.length<=N)(hL:(N+2)*(L+M+1)<=2000000000)(hK:K<=35184372088658)(h1:ob.length<=9223372036854775806)(h2:rw.length<=9223372036854775806)(h3:x.length<=1000000):
  gE ⟨n,ob,rw,bd⟩ x=some (decide (MD n ob rw bd x F g f N)):=by
 have row:∀i,i<rw.length->∃q,gD (rw.getD i []) x=some q/\iE (N*(L+M+1)+1) q (dS (λj=>F i j*f j) N):=λi hi=>by
  have hm:=hN _ (List.mem_of_getElem? (cK (d:=[]) hi));have h1:=QK (hr.row i) hx (Nat.le_trans (Nat.mul_le_mul_right _ (show min (rw.getD i []).length x.length+2<=N+2 by omega)) (by omega));rw[BI (hr.row i) hx hm]at h1;exact⟨_,h1.1,h1.2.mono (Nat.add_le_add_right (Nat.mul_le_mul_right _ hm) 1)⟩
 have hsz:N*(L+M+1)+1<=35184372088788:=by rw[Nat.add_mul]at hL;omega
 unfold gE;refine cV<|aA (mP h1 h2)<|aA Y<|BM (λ_=>aA Y<|aA Y Y)<|F3 (λh=>?_) (λh=>aA Y ?_)
 ·congr 1;symm;rw[decide_eq_false_iff_not];simp only[Bool.or_eq_true,Bool.not_eq_true',decide_eq_true_eq,decide_eq_false_iff_not]at h;unfold MD;rintro⟨q1,q2,_⟩;rcases h with h|h
  ·exact h q1
  omega
 simp only[Bool.or_eq_false_iff,Bool.not_eq_false',decide_eq_true_eq,decide_eq_false_iff_not]at h;refine aA (Ag (p:=λi=>0<=f i) (e:=false) (n:=x.length) (λi hi=>?_) (aA (dF (by omega))<|cu Y Y)) ?_
 ·obtain⟨q,e1,r1⟩:=hx.get hi;have e2:=r1.sign (by have:=Nat.mul_le_mul_right (L+M+1) (show 1<=N+2 by omega);omega);refine aA (dT (by omega))<|cn Y<|aA (bO e1)<|aA e2<|aA Y ?_;by_cases hp:0<=f i
  ·rw[if_pos hp];exact cu (decide_eq_false (λq=>Rat.not_lt.2 hp (Dv.1 q)))<|aA (congrArg some (b8 (by omega))) Y
  rw[if_neg hp];exact cn (decide_eq_true (Dv.2 (Rat.not_le.1 hp))) Y
 by_cases hp:∀i,i<x.length->0<=f i
 ·rw[if_pos hp];show(lD _ _ ()).bind _=_;refine aA (yM (p:=λi=>dS (λj=>F i j*f j) N<=g i) (e:=false) (λi hi=>?_)) ?_
  ·obtain⟨q,e1,r1⟩:=row i hi;have rb:=hb.gd i;have e2:=r1.TV rb hsz (by omega);generalize hbq:bd.getD i (⟨⟨false,[]⟩,⟨false,[]⟩⟩:Qr)=bq at e2;refine aA Y<|aA (a:=bq) (by first|rfl|exact congrArg some hbq)<|aA e1<|aA e2<|aA Y ?_;by_cases hs:dS (λj=>F i j*f j) N<=g i
   ·rw[if_pos hs];refine cu (decide_eq_false (λq=>?_)) Y;exact Rat.not_lt.2 hs (Kc.1 (by omega))
   rw[if_neg hs];exact cn (decide_eq_true (Mi (Rat.not_le.1 hs))) Y
  by_cases hq:∀i,i<rw.length->dS (λj=>F i j*f j) N<=g i
  ·rw[if_pos hq,decide_eq_true (show MD n ob rw bd x F g f N from⟨h.1,by omega,hp,hq⟩)]
  rw[if_neg hq,decide_eq_false (show ¬MD n ob rw bd x F g f N from λq=>hq q.2.2.2)]
 rw[if_neg hp,decide_eq_false (show ¬MD n ob rw bd x F g f N from λq=>hp q.2.2.1)]
theorem eval_eq(ho:gP L ob O)(hx:dB M x f)(hN:∀v∈ob,min v.length x.length<=N)(hL:(N+2)*(L+M+1)<=35184372088768)(hn:ob.length<=1000000):
  iN ⟨n,ob,rw,bd⟩ x=some (vq ob.length (λi=>dS (λj=>O i j*f j) N))/\dB (N*(L+M+1)+1) (vq ob.length (λi=>dS (λj=>O i j*f j) N)) (λi=>dS (λj=>O i j*f j) N):=by
 obtain⟨h1,h2⟩:=aay ho hx hN hL hn;exact⟨aA h1 Y,h2⟩
theorem Ko(hr:gP L rw F)(hb:dB K bd g)(hx:dB M x f)(hN:∀v∈rw,min v.length x.length<=N)(hL:(N+2)*(L+M+1)<=2000000000)(hK:K+(N*(L+M+1)+1)<=35184372088768)(h2:rw.length<=1000000):
  mE ⟨n,ob,rw,bd⟩ x=some (vq rw.length (λi=>g i-dS (λj=>F i j*f j) N))/\∀i,i<rw.length->FQ (K+(N*(L+M+1)+1)+1) (g i-dS (λj=>F i j*f j) N):=by
 have row:∀i,i<rw.length->∃q,gD (rw.getD i []) x=some q/\iE (N*(L+M+1)+1) q (dS (λj=>F i j*f j) N):=λi hi=>by
  have hm:=hN _ (List.mem_of_getElem? (cK (d:=[]) hi));have h1:=QK (hr.row i) hx (Nat.le_trans (Nat.mul_le_mul_right _ (show min (rw.getD i []).length x.length+2<=N+2 by omega)) (by omega));rw[BI (hr.row i) hx hm]at h1;exact⟨_,h1.1,h1.2.mono (Nat.add_le_add_right (Nat.mul_le_mul_right _ hm) 1)⟩
 have hsz:=hK;refine⟨?_,λi hi=>?_⟩
 ·unfold mE;refine oA (λj=>vq j (λi=>g i-dS (λj=>F i j*f j) N)) Y (λi hi=>?_) Y;obtain⟨q,e1,r1⟩:=row i hi;have rb:=hb.gd i;have e2:=(rb.sub r1 hsz).1;generalize hbq:bd.getD i (⟨⟨false,[]⟩,⟨false,[]⟩⟩:Qr)=bq at e2;have e3:sN 64 (vq i (λi=>g i-dS (λj=>F i j*f j) N)) [qn (g i-dS (λj=>F i j*f j) N)]=some (vq (i+1) (λi=>g i-dS (λj=>F i j*f j) N)):=by rw[vc (by decide) (by rw[fk];have:i<rw.length:=hi;omega),BE]
  generalize qn (g i-dS (λj=>F i j*f j) N)=q2 at e2 e3;exact aA Y<|aA (a:=bq) (by first|rfl|exact congrArg some hbq)<|aA e1<|aA e2<|aA e3 Y
 obtain⟨q,e1,r1⟩:=row i hi;exact((hb.gd i).sub r1 hsz).2.fq
def Kp(n:Int)(rw:List (List Qr))(bd:List Qr)(O F:Nat->Nat->Rat)(g:Nat->Rat):Lr:=
 ⟨(rw.length:Int),[vq bd.length (λi=>-g i)],mq n.toNat (λ_=>rw.length) (λk i=>-F i k),vq n.toNat (λk=>-O 0 k)⟩
theorem ME(h1:ob.length<=9223372036854775806)(h2:rw.length<=9223372036854775806)(h:¬(vn n ob rw bd/\rw.length<=64)):iz ⟨n,ob,rw,bd⟩=some (⟨0,[],[],[]⟩,1):=by
 unfold iz;refine cV<|aA (mP h1 h2)<|aA Y<|BM (λ_=>aA Y<|aA Y Y)<|BM (λ_=>aA Y Y)<|cn ?_ Y;simp only[Bool.or_eq_true,Bool.not_eq_true',decide_eq_true_eq,decide_eq_false_iff_not];by_cases hv:vn n ob rw bd
 ·have:¬rw.length<=64:=λq=>h ⟨hv,q⟩;exact .inl (.inr (by omega))
 exact .inl (.inl hv)
theorem BJ(ho:gP M ob O)(hr:gP L rw F)(hb:dB K bd g)(hM:M<=35184372088768)(hL:L<=35184372088768)(hK:K<=35184372088708)(hv:vn n ob rw bd)(Rk:rw.length<=64):iz ⟨n,ob,rw,bd⟩=some (Kp n rw bd O F g,0):=by
 have qI:=hv;unfold vn at qI;obtain⟨m,rfl⟩:∃m:Nat,n=(m:Int):=⟨n.toNat,by omega⟩;have hneg:∀i,(((-1:Int):Rat))*g i=-g i:=λi=>by
  have:(((-1:Int):Rat))=-1:=by decide
  rw[this];grind
 obtain⟨c,e1,r1⟩:=int' (n:=-1) (by decide);have e2:=(BG r1 hb (by omega) (by omega)).1;rw[uj (k:=λi=>-g i) (λi _=>hneg i)]at e2;unfold iz;refine cV<|aA (mP (by omega) (by omega))<|aA Y<|BM (λ_=>aA Y<|aA Y Y)<|BM (λ_=>aA Y Y)<|cu ?_<|aA Y<|aA e1<|aA e2 ?_
 ·simp only[Bool.or_eq_false_iff,Bool.not_eq_false',decide_eq_true_eq,decide_eq_false_iff_not];exact⟨⟨hv,by omega⟩,by omega⟩
 refine bF (λk=>((k:Int),mq k (λ_=>rw.length) (λk i=>-F i k),vq k (λk=>-O 0 k))) m (mq m (λ_=>rw.length) (λk i=>-F i k),vq m (λk=>-O 0 k)) Y (λk hk=>?_) (aA (dF (by omega))<|cu Y Y) Y;refine aA (dT (by omega))<|cn Y<|aA (T1 _ (by omega))<|aA Y ?_;have abT:∀q x,iE M q x->∃p,iZ q=some p/\p=qn (-x):=λq x h=>⟨_,(h.neg (by omega)).1,Y⟩;refine bF (λj=>((j:Int),iT (λi=>qn (-F i k)) rw.length j ⟨⟨false,[]⟩,⟨false,[]⟩⟩)) rw.length (vq rw.length (λi=>-F i k)) (by rw[oF];rfl) (λj hj=>?_) ?_ ?_
 ·have e3:=Km hr (by omega) j k;have e4:=(((hr.row j).fq k).rep hr.l1).neg (by omega);have e4:=e4.1;have hl:(iT (λi=>qn (-F i k)) rw.length j ⟨⟨false,[]⟩,⟨false,[]⟩⟩).length=rw.length:=qF (by omega);have hst:∀q,qn (-F j k)=q->(iT (λi=>qn (-F i k)) rw.length j ⟨⟨false,[]⟩,⟨false,[]⟩⟩).set j q=iT (λi=>qn (-F i k)) rw.length (j+1) ⟨⟨false,[]⟩,⟨false,[]⟩⟩:=by rintro q rfl;exact qH hj
  generalize qn (F j k)=q at e3 e4;generalize hq:qn (-F j k)=q2 at e4;have hst:=hst q2 hq;refine aA (dT (by rw[List.length_replicate];omega))<|cn Y<|aA e3<|aA e4<|aA (eY (show j<_ by rw[hl];exact hj))<|aA (ir (show j<_ by rw[hl];exact hj))<|aA (congrArg some (b8 (by omega))) ?_;rw[<-hst]
 ·refine aA (dF (by rw[List.length_replicate];omega))<|cu Y ?_;rw[qG];rfl
 have e3:=Km ho (by omega) 0 k;have e4:=((((ho.row 0).fq k).rep ho.l1).neg (by omega)).1;have e5:sN 24 (mq k (λ_=>rw.length) (λk i=>-F i k)) [vq rw.length (λi=>-F i k)]=some (mq (k+1) (λ_=>rw.length) (λk i=>-F i k)):=by
  rw[vc (by decide) (by rw[gK];omega)];unfold mq;rw[List.range_succ,List.map_append];rfl
 have e6:sN 64 (vq k (λk=>-O 0 k)) [qn (-O 0 k)]=some (vq (k+1) (λk=>-O 0 k)):=by rw[vc (by decide) (by rw[fk];omega),BE]
 generalize qn (O 0 k)=q at e3 e4;generalize qn (-O 0 k)=q2 at e4 e6;exact aA e5<|aA e3<|aA e4<|aA e6<|aA (congrArg some (b8 (by omega))) Y
theorem copy_eq(ho:gP M ob O)(hr:gP L rw F)(hb:dB K bd g)(hM:M<=35184372088708)(hL:L<=35184372088708)(hK:K<=35184372088708)(l1:ob.length<=1000000)(l2:rw.length<=1000000)(l3:bd.length<=1000000)(w1:∀v∈ob,v.length<=1000000)(w2:∀v∈rw,v.length<=1000000):
  kV ⟨n,ob,rw,bd⟩=some ⟨n,mq ob.length (λi=>(ob.getD i []).length) O,mq rw.length (λi=>(rw.getD i []).length) F,vq bd.length g⟩:=by
 have hone:∀x:Rat,(((1:Int):Rat))*x=x:=λx=>by
  have:(((1:Int):Rat))=1:=by decide
  rw[this];grind
 obtain⟨c,e1,r1⟩:=int' (n:=1) (by decide);have e2:=(Kn r1 ho (by omega) l1 w1).1;have e3:=(Kn r1 hr (by omega) l2 w2).1;have e4:=(BG r1 hb (by omega) l3).1;rw[yK (G:=O) (λi _=>⟨Y,λk _=>hone _⟩)]at e2;rw[yK (G:=F) (λi _=>⟨Y,λk _=>hone _⟩)]at e3;rw[uj (λi _=>hone _)]at e4;unfold kV;exact aA e1<|aA e2<|aA e3<|aA e4 Y
theorem G7(h1:ob.length<=9223372036854775806)(h2:rw.length<=9223372036854775806){k:Int}(h:¬(vn n ob rw bd/\0<=k/\k<ob.length)):cA ⟨n,ob,rw,bd⟩ k=some (⟨0,[],[],[]⟩,1):=by
 unfold cA;refine cV<|aA (mP h1 h2)<|aA Y<|BM (λ_=>aA Y Y)<|BM (λ_=>aA Y<|aA Y Y)<|cn ?_ Y;simp only[Bool.or_eq_true,Bool.not_eq_true',decide_eq_true_eq,decide_eq_false_iff_not];by_cases hv:vn n ob rw bd
 ·have:¬(0<=k/\k<ob.length):=λq=>h ⟨hv,q⟩;omega
 exact .inl (.inl hv)
theorem Ah(ho:gP M ob O)(hr:gP L rw F)(hb:dB K bd g)(hM:M<=35184372088708)(hL:L<=35184372088708)(hK:K<=35184372088708)(hv:vn n ob rw bd){k:Nat}(hk:k<ob.length):
  cA ⟨n,ob,rw,bd⟩ (k:Int)=some (⟨n,mq 1 (λ_=>(ob.getD k []).length) (λ_=>O k),mq rw.length (λi=>(rw.getD i []).length) F,vq bd.length g⟩,0):=by
 have qI:=hv;unfold vn at qI;have Ub:∀v∈ob,v.length<=64:=λv hm=>by have:=lB.1 (Nat.le_refl (lA ob)) v hm;omega
 have R5:∀v∈rw,v.length<=64:=λv hm=>by have:=lB.1 (Nat.le_refl (lA rw)) v hm;omega
 have hsub:sM ob (k:Int) ((k+1:Nat):Int)=some [ob.getD k []]:=by
  rw[Dc (by omega) (by omega)];unfold Fw.cut;have hg:ob.getD k []=ob[k]:=by simp[List.getD,hk]
  rw[show k+1-k=1 by omega,List.drop_eq_getElem_cons hk,hg];rfl
 have hx:gP M [ob.getD k []] (λi j=>if i=0 then O k j else 0):=yL (ho.row k);have hmem:ob.getD k []∈ob:=List.mem_of_getElem? (cK (d:=[]) hk);have e1:=copy_eq (n:=n) hx hr hb hM hL hK (by simp) (by omega) (by omega) (λv hm=>by rw[List.mem_singleton.1 hm];have:=Ub _ hmem;omega) (λv hm=>by have:=R5 v hm;omega);rw[yK (n:=[ob.getD k []].length) (ln':=λ_=>(ob.getD k []).length) (G:=λ_=>O k) (λi hi=>by
  have:i=0:=by simp at hi;omega
  subst this;exact⟨Y,λj _=>if_pos Y⟩)]at e1
 unfold cA;refine cV<|aA (mP (by omega) (by omega))<|aA Y<|BM (λ_=>aA Y Y)<|BM (λ_=>aA Y<|aA Y Y)<|cu ?_<|aA (congrArg some (b8 (by omega)))<|aA hsub<|aA e1 Y;simp only[Bool.or_eq_false_iff,Bool.not_eq_false',decide_eq_true_eq,decide_eq_false_iff_not];exact⟨⟨hv,by omega⟩,by omega⟩
end lps
theorem Kq{L M K L' M' K':Nat}{n n':Int}{ob ob' rw rw':List (List Qr)}{bd bd':List Qr}{O O' F F':Nat->Nat->Rat}{g g':Nat->Rat}(ho:gP M ob O)(hr:gP L rw F)(hb:dB K bd g)(ho':gP M' ob' O')(hr':gP L' rw' F')(hb':dB K' bd' g')
  (s1:M+M'<=35184372088768) (s2:L+L'<=35184372088768) (s3:K<=35184372088788/\K'<=35184372088788) (h0:n=n') (h1:ob.length=ob'.length) (h2:rw.length=rw'.length) (h3:bd.length=bd'.length) (e1:∀i j,O i j=O' i j) (e2:∀i j,F i j=F' i j) (e3:∀i,g i=g' i):kx ⟨n,ob,rw,bd⟩ ⟨n',ob',rw',bd'⟩=some true:=by
 unfold kx gw;refine aA (aA Y<|aA Y<|aA Y Y)<|aA (aA Y<|aA Y<|aA Y Y)<|aA Y<|cu ?_<|cV<|aA (F1 ho ho' s1 e1)<|uo (aA (F1 hr hr' s2 e2) Y)<|uo (aA (TY hb hb' s3.1 s3.2 e3) Y) Y;simp[h0,h1,h2,h3]
end
section
open Go.Fw
theorem MF{α:Type}{l:List α}{i:Nat}{a:α}(h:l[i]? =some a):a∈l:=List.mem_of_getElem? h
theorem Kr{l:List (List Qr)}{i:Nat}{P:List Qr->Prop}(hi:i<l.length)(ht:∀v∈l.take i,P v)(hp:P l[i]):∀v∈l.take (i+1),P v:=by
 rw[List.take_add_one,List.getElem?_eq_getElem hi];intro u hu;rcases List.mem_append.1 hu with h|h
 ·exact ht u h
 simp at h;rw[h];exact hp
abbrev UE(v:List Qr):Prop:=v.length<=20/\∀q∈v,q.num.w.length<=6/\q.den.w.length<=6
abbrev UF(v:List Qr):Prop:=v.length<=8/\∀q∈v,q.num.w.length<=6/\q.den.w.length<=6
theorem DB(l:List (List Qr))(hl:l.length<=9223372036854775807):∃b,iB l=some b/\(b=false->∀v∈l,UE v):=by
 unfold iB;refine lY (λy=>∃i:Nat,y=(i:Int)/\i<=l.length/\∀v∈l.take i,UE v) (λe=>(∃c,e=.inl c/\∀v∈l,UE v)\/e=.inr true) (λy=>l.length-y.toNat) ?_ ⟨0,Y,by omega,by simp⟩ ?_
 ·rintro _ ⟨i,rfl,hi,ht⟩;by_cases hlt:i<l.length
  ·have g:=List.getElem?_eq_getElem hlt;by_cases h1:20<l[i].length
   ·exact .inr ⟨.inr true,aA Y<|aA (dT (by omega))<|cn Y<|cV<|aA (bO g)<|aA Y<|aA (dT (by omega))<|aA (a:=true) (cn Y Y) Y,.inr Y⟩
   obtain⟨b,hb,hs⟩:=Kk l[i] (by omega);cases b
   ·refine .inl ⟨((i+1:Nat):Int),?_,⟨i+1,Y,hlt,Kr hlt ht ⟨by omega,hs Y⟩⟩,by simp only[Int.toNat_natCast];omega⟩;exact aA Y<|aA (dT (by omega))<|cn Y<|cV<|aA (bO g)<|aA Y<|aA (dF (by omega))<|aA (a:=false) (cu Y<|aA (bO g)<|aA hb Y)<|cu Y<|aA (congrArg some (b8 (by omega))) Y
   exact .inr ⟨.inr true,aA Y<|aA (dT (by omega))<|cn Y<|cV<|aA (bO g)<|aA Y<|aA (dF (by omega))<|aA (a:=true) (cu Y<|aA (bO g)<|aA hb Y) Y,.inr Y⟩
  refine .inr ⟨.inl (),?_,.inl ⟨(),Y,?_⟩⟩
  ·exact aA Y<|aA (dF (by omega))<|cu Y Y
  rw[List.take_of_length_le (by omega)]at ht;exact ht
 rintro e (⟨c,rfl,he⟩|rfl)
 ·exact⟨false,Y,λ_=>he⟩
 exact⟨true,rfl,λh=>by cases h⟩
theorem Ks(m:List (List Qr))(h:m.length<=9223372036854775806):jK m=some (lA m:Int):=by
 unfold jK;refine bF (λj=>(((m.take j).foldl (λn v=>max n v.length) 0:Nat),(j:Int))) m.length ((lA m:Nat):Int) (by simp) (λj hj=>?_) ?_ Y
 ·refine aA Y<|aA (dT (by omega))<|cn Y<|aA (bO (List.getElem?_eq_getElem hj))<|aA Y<|aA Y<|aA (congrArg some (b8 (by omega))) ?_;rw[List.take_add_one,List.getElem?_eq_getElem hj,List.foldl_append];simp only[Option.toList_some,List.foldl_cons,List.foldl_nil];congr 3;omega
 refine aA Y<|aA (dF (by omega))<|cu Y ?_;rw[List.take_length];rfl
theorem DC(m:List (List Qr)):∃b,iC [m]=some b/\(b=false->m.length<=8/\∀v∈m,UF v):=by
 unfold iC;have hg:c9 [m] (0:Int)=some m:=rfl;by_cases h8:8<m.length
 ·refine⟨true,?_,λh=>by cases h⟩;refine bF (λj=>(j:Int)) 0 (.inr true) Y (λj hj=>by omega) ?_ Y;exact aA Y<|aA (dT (by simp))<|cn Y<|cV<|aA hg<|aA Y<|aA (dT (by omega))<|aA (a:=true) (cn Y Y)<|aA (a:=true) (cn Y Y) Y
 by_cases hc:8<lA m
 ·refine⟨true,?_,λh=>by cases h⟩;refine bF (λj=>(j:Int)) 0 (.inr true) Y (λj hj=>by omega) ?_ Y;exact aA Y<|aA (dT (by simp))<|cn Y<|cV<|aA hg<|aA Y<|aA (dF (by omega))<|aA (a:=true) (cu Y<|aA hg<|aA (Ks m (by omega))<|aA (dT (by omega)) Y)<|aA (a:=true) (cn Y Y) Y
 obtain⟨b,hb,hs⟩:=DB m (by omega);cases b
 ·refine⟨false,?_,λ_=>⟨by omega,λv hv=>⟨?_,(hs Y v hv).2⟩⟩⟩
  ·refine bF (λj=>(j:Int)) 1 (.inl ()) Y (λj hj=>?_) (aA Y<|aA (dF (by simp))<|cu Y Y) Y;obtain rfl:j=0:=by omega
   exact aA Y<|aA (dT (by simp))<|cn Y<|cV<|aA hg<|aA Y<|aA (dF (by omega))<|aA (a:=false) (cu Y<|aA hg<|aA (Ks m (by omega))<|aA (dF (by omega)) Y)<|aA (a:=false) (cu Y<|aA hg<|aA hb Y)<|cu Y<|aA (congrArg some (b8 (by omega))) Y
  have:=lB.1 (Nat.le_refl (lA m)) v hv;omega
 refine⟨true,?_,λh=>by cases h⟩;refine bF (λj=>(j:Int)) 0 (.inr true) Y (λj hj=>by omega) ?_ Y;exact aA Y<|aA (dT (by simp))<|cn Y<|cV<|aA hg<|aA Y<|aA (dF (by omega))<|aA (a:=false) (cu Y<|aA hg<|aA (Ks m (by omega))<|aA (dF (by omega)) Y)<|aA (a:=true) (cu Y<|aA hg<|aA hb Y)<|cn Y Y
theorem MG(m:List (List Qr))(h:m.length<=1000):jN m=some (decide (∀i,i<m.length->(m.getD i []).length=0)):=by
 unfold jN;refine aA (Ag (p:=λi=>(m.getD i []).length=0) (e:=false) (n:=m.length) (λi hi=>?_) (aA Y<|aA (dF (by omega))<|cu Y Y)) ?_
 ·refine aA Y<|aA (dT (by omega))<|cn Y<|aA (bO (cK (d:=[]) hi))<|aA Y<|aA Y ?_;by_cases hz:(m.getD i []).length=0
  ·rw[if_pos hz];exact cu (decide_eq_false (by omega))<|aA (congrArg some (b8 (by omega))) Y
  rw[if_neg hz];exact cn (decide_eq_true (by omega)) Y
 by_cases hp:∀i,i<m.length->(m.getD i []).length=0
 ·rw[if_pos hp,decide_eq_true hp]
 rw[if_neg hp,decide_eq_false hp]
structure Sm6 (ob rw:List (List Qr)) (bd:List Qr):Prop where
 lo:ob.length<=6
 lr:rw.length<=140
 lb:bd.length<=140
 so:∀v∈ob,UF v
 sr:∀v∈rw,UF v
 sb:UE (bd.take (min bd.length 20))
theorem Kt{n:Int}{ob rw:List (List Qr)}{bd:List Qr}:∃b,jO ⟨n,ob,rw,bd⟩=some b/\(b=false->Sm6 ob rw bd):=by
 unfold jO;obtain⟨b1,e1,s1⟩:=DC rw;obtain⟨b2,e2,s2⟩:=DC ob;have T2:lp bd=some (bd.take (min bd.length 20)):=by
  unfold lp;have hm:min (bd.length:Int) 20=((min bd.length 20:Nat):Int):=by omega
  refine aA Y<|aA (congrArg some hm)<|aA (l9 (by omega)) Y
 obtain⟨b3,e3,s3⟩:=DB [bd.take (min bd.length 20)] (by simp);by_cases c1:6<ob.length
 ·exact⟨true,cV<|aA rfl<|aA (dT (by omega))<|aA (a:=true) (cn rfl rfl)<|aA (a:=true) (cn rfl rfl)<|aA (a:=true) (cn rfl rfl)<|aA (a:=true) (cn rfl rfl)<|aA (a:=true) (cn rfl rfl)<|aA (a:=true) (cn rfl rfl) rfl,λh=>by cases h⟩
 by_cases c2:140<rw.length
 ·exact⟨true,cV<|aA rfl<|aA (dF (by omega))<|aA (a:=true) (cu rfl<|aA rfl<|aA (dT (by omega)) rfl)<|aA (a:=true) (cn rfl rfl)<|aA (a:=true) (cn rfl rfl)<|aA (a:=true) (cn rfl rfl)<|aA (a:=true) (cn rfl rfl)<|aA (a:=true) (cn rfl rfl) rfl,λh=>by cases h⟩
 by_cases c3:140<bd.length
 ·exact⟨true,cV<|aA rfl<|aA (dF (by omega))<|aA (a:=false) (cu rfl<|aA rfl<|aA (dF (by omega)) rfl)<|aA (a:=true) (cu rfl<|aA rfl<|aA (dT (by omega)) rfl)<|aA (a:=true) (cn rfl rfl)<|aA (a:=true) (cn rfl rfl)<|aA (a:=true) (cn rfl rfl)<|aA (a:=true) (cn rfl rfl) rfl,λh=>by cases h⟩
 have eb:=MG rw (by omega);by_cases c4:8<rw.length
 ·by_cases c5:∀i,i<rw.length->(rw.getD i []).length=0
  ·rw[decide_eq_true c5]at eb;refine⟨_,cV<|aA Y<|aA (dF (by omega))<|aA (a:=false) (cu Y<|aA Y<|aA (dF (by omega)) Y)<|aA (a:=false) (cu Y<|aA Y<|aA (dF (by omega)) Y)<|aA (a:=false) (cu Y<|aA Y<|aA (dT (by omega))<|aA (a:=false) (cn Y<|aA eb<|aA Y Y) Y)<|aA (a:=false) (cu Y<|aA Y<|aA (dF (by omega))<|aA (a:=false) (cu Y Y) Y)<|BM (λ_=>aA e2 Y)<|BM (λ_=>aA T2<|aA e3 Y) Y,λh=>?_⟩;simp only[Bool.false_or,Bool.or_eq_false_iff]at h;refine⟨by omega,by omega,by omega,(s2 h.1).2,λv hv=>?_,s3 h.2 _ (by simp)⟩;obtain⟨i,hi,rfl⟩:=List.getElem_of_mem hv;have:=c5 i hi;rw[List.getD_eq_getElem?_getD,List.getElem?_eq_getElem hi]at this;have h0:rw[i]=[]:=List.eq_nil_of_length_eq_zero this;rw[h0];exact⟨by decide,by simp⟩
  rw[decide_eq_false c5]at eb;exact⟨true,cV<|aA rfl<|aA (dF (by omega))<|aA (a:=false) (cu rfl<|aA rfl<|aA (dF (by omega)) rfl)<|aA (a:=false) (cu rfl<|aA rfl<|aA (dF (by omega)) rfl)<|aA (a:=true) (cu rfl<|aA rfl<|aA (dT (by omega))<|aA (a:=true) (cn rfl<|aA eb<|aA rfl rfl) rfl)<|aA (a:=true) (cn rfl rfl)<|aA (a:=true) (cn rfl rfl)<|aA (a:=true) (cn rfl rfl) rfl,λh=>by cases h⟩
 refine⟨_,cV<|aA Y<|aA (dF (by omega))<|aA (a:=false) (cu Y<|aA Y<|aA (dF (by omega)) Y)<|aA (a:=false) (cu Y<|aA Y<|aA (dF (by omega)) Y)<|aA (a:=false) (cu Y<|aA Y<|aA (dF (by omega))<|aA (a:=false) (cu Y Y) Y)<|BM (c:=b1) (λ_=>aA Y<|aA (dT (by omega))<|aA (a:=b1) (cn Y<|aA e1 Y) Y)<|BM (λ_=>aA e2 Y)<|BM (λ_=>aA T2<|aA e3 Y) Y,λh=>?_⟩;simp only[Bool.false_or,Bool.or_eq_false_iff]at h;exact⟨by omega,by omega,by omega,(s2 h.1.2).2,(s1 h.1.1).2,s3 h.2 _ (by simp)⟩
end
section
open Go.Fw
theorem FQ.neg'{L:Nat}{x:Rat}(h:FQ L x)(h1:1<=L)(hL:L<=35184372088788):FQ L (-x):=((h.rep h1).neg hL).2.fq
theorem Ai{L:Nat}{m:List (List Qr)}{F:Nat->Nat->Rat}(h:gP L m F){n:Nat}(hn:lA m<=n)(i:Nat){k:Nat}(hk:n<=k):F i k=0:=by
 refine(h.row i).z k ?_;by_cases hi:i<m.length
 ·have:=lB.1 hn _ (MF (cK (d:=[]) hi));omega
 rw[dU (by omega)];exact Nat.zero_le _
theorem F6: -(0:Rat)=0:=by decide
section aaC
variable {K L M:Nat}{n:Int}{ob rw:List (List Qr)}{bd:List Qr}{O F:Nat->Nat->Rat}{g:Nat->Rat}
theorem EV(hb:dB K bd g)(hK:K<=35184372088788):gP K [vq bd.length (λi=>-g i)] (λi j=>if i=0 then-g j else 0):=
 yL (oE (λi _=>(hb.fq i).neg' hb.l1 hK) (λi hi=>by rw[hb.z i hi];exact F6) hb.l1)
theorem EW(hr:gP L rw F)(hL:L<=35184372088788)(hv:vn n ob rw bd):gP L (mq n.toNat (λ_=>rw.length) (λk i=>-F i k)) (λk i=>-F i k):=by
 unfold vn at hv;refine BH (λk _ i _=>((hr.row i).fq k).neg' hr.l1 hL) (λk _ i hi=>by rw[hr.z i hi k];exact F6) (λk hk i=>?_) hr.l1;rw[Ai hr (n:=n.toNat) (by omega) i hk];exact F6
theorem EX(ho:gP M ob O)(hM:M<=35184372088788)(hv:vn n ob rw bd):dB M (vq n.toNat (λk=>-O 0 k)) (λk=>-O 0 k):=by
 unfold vn at hv;refine oE (λk _=>((ho.row 0).fq k).neg' ho.l1 hM) (λk hk=>?_) ho.l1;rw[Ai ho (n:=n.toNat) (by omega) 0 hk];exact F6
theorem Ku(hv:vn n ob rw bd)(Rk:rw.length<=64):vn (rw.length:Int) [vq bd.length (λi=>-g i)] (mq n.toNat (λ_=>rw.length) (λk i=>-F i k)) (vq n.toNat (λk=>-O 0 k)):=by
 unfold vn at hv⊢;refine⟨by omega,by omega,by simp,by simp,by rw[gK];omega,by rw[fk,gK],?_,?_⟩
 ·have:lA [vq bd.length (λi=>-g i)]<=rw.length:=lB.2 (λv h=>by rw[List.mem_singleton.1 h,fk];omega);omega
 have:lA (mq n.toNat (λ_=>rw.length) (λk i=>-F i k))<=rw.length:=lB.2 (λv h=>by
  obtain⟨i,hi,rfl⟩:=List.mem_map.1 h;rw[fk];exact Nat.le_refl _)
 omega
end aaC
theorem vo{L:Nat}{v:List Qr}{f:Nat->Rat}{q:Qr}{x:Rat}(h:dB L v f)(hq:iE L q x):dB L (q::v) (λi=>match i with|0=>x|i+1=>f i):=by
 refine⟨λi hi=>?_,λi hi=>?_,h.l1⟩
 ·match i,hi with
  |0,_=>exact hq
  |i+1,hi=>exact h.e i (by simpa using hi)
 match i,hi with
 |0,hi=>simp at hi
 |i+1,hi=>exact h.z i (by simpa using hi)
theorem MH{n d:Int}(hn:cY n)(hd:cY d)(h0:d≠0):iE 2 (qn (Rat.divInt n d)) (Rat.divInt n d):=(Dw h0 (me hn) (me hd) (by decide)).fq.rep (by decide)
theorem QT:eJ=some true:=by
 obtain⟨eo,ro⟩:=F2 (l:=[[3,5]]) (by decide) (by decide);obtain⟨er,rr⟩:=F2 (l:=[[1,0],[0,2],[3,2]]) (by decide) (by decide);obtain⟨eb,rb⟩:=v5 (l:=[4,12,18]) (by decide) (by decide);obtain⟨eo',ro'⟩:=F2 (l:=[[-4,-12,-18]]) (by decide) (by decide);obtain⟨er',rr'⟩:=F2 (l:=[[-1,0,-3],[0,-2,-2]]) (by decide) (by decide);obtain⟨eb',rb'⟩:=v5 (l:=[-3,-5]) (by decide) (by decide);obtain⟨ex,rx⟩:=v5 (l:=[2,6]) (by decide) (by decide);obtain⟨Sj,r36⟩:=v5 (l:=[36]) (by decide) (by decide);obtain⟨aaD,aaE⟩:=v5 (l:=[-36]) (by decide) (by decide);obtain⟨es,rs⟩:=v5 (l:=[2,0,0]) (by decide) (by decide);have e32:=QM (n:=3) (d:=2) (by decide) (by decide) (by decide);have e1:=Mx (n:=1) (by decide);have r32:iE 2 (qn (Rat.divInt 3 2)) (Rat.divInt 3 2):=MH (by decide) (by decide) (by decide);have r1:iE 2 (qn ((1:Int):Rat)) ((1:Int):Rat):=(lZ (by decide)).2;have ry:=vo (vo (vo (dB.nil (L:=2) (by decide)) r1) r32) (yG (L:=2) (by decide));generalize hmo:mq [[(3:Int),5]].length _ _=mo at eo ro;generalize hmr:mq [[(1:Int),0],[0,2],[3,2]].length _ _=mr at er rr;generalize hvb:vq [(4:Int),12,18].length _=vb at eb rb;have lo:mo.length=1:=by rw[<-hmo,gK];rfl
 have lr:mr.length=3:=by rw[<-hmr,gK];rfl
 have lb:vb.length=3:=by rw[<-hvb,fk];rfl
 have wo:∀v∈mo,v.length<=2:=by rw[<-hmo];decide+kernel
 have wr:∀v∈mr,v.length<=2:=by rw[<-hmr];decide+kernel
 have co:lA mo<=2:=lB.2 wo;have cr:lA mr<=2:=lB.2 wr;have hv:vn 2 mo mr vb:=⟨by decide,by decide,by omega,by omega,by omega,by omega,by omega,by omega⟩;have ed:=BJ (n:=2) ro rr rb (by decide) (by decide) (by decide) hv (by omega);have Rm:=EV rb (by decide);have dr:=EW rr (by decide) hv;have db:=EX ro (by decide) hv;have dv:=Ku (O:=λi j=>((([[3,5]]:List (List Int)).getD i []).getD j 0:Rat)) (F:=λi j=>((([[1,0],[0,2],[3,2]]:List (List Int)).getD i []).getD j 0:Rat)) (g:=λi=>(([4,12,18]:List Int).getD i 0:Rat)) hv (by omega);unfold Kp at ed;have ev:=mP (n:=2) (ob:=mo) (rw:=mr) (bd:=vb) (by omega) (by omega);rw[decide_eq_true hv]at ev;have lx:(vq [(2:Int),6].length (λi=>(([2,6]:List Int).getD i 0:Rat))).length=2:=fk _ _;generalize vq [(2:Int),6].length _=vx at ex rx lx;have ef:=F5 (n:=2) (ob:=mo) (N:=2) rr rb rx (λv hv=>by have:=wr v hv;omega) (by decide) (by decide) (by omega) (by omega) (by omega);rw[decide_eq_true (show MD 2 mo mr vb vx _ _ _ 2 from⟨hv,by omega,by rw[lx];decide+kernel,by rw[lr];decide+kernel⟩)]at ef;obtain⟨ee,re⟩:=eval_eq (n:=2) (rw:=mr) (bd:=vb) (N:=2) ro rx (λv hv=>by have:=wo v hv;omega) (by decide) (by omega);rw[lo]at ee re;have c1:=UB re r36 (by decide)
 rw[fk,fk,decide_eq_true (by decide+kernel)]at c1;obtain⟨esl,fsl⟩:=Ko (n:=2) (ob:=mo) (N:=2) rr rb rx (λv hv=>by have:=wr v hv;omega) (by decide) (by decide) (by omega);rw[lr]at esl fsl;have lC:=MC fsl (by decide);have c2:=UB lC rs (by decide);rw[fk,fk,decide_eq_true (by decide+kernel)]at c2;rw[lb,lr]at ed;rw[lb]at Rm;rw[lr]at dr;rw[lb,lr]at dv;have c3:=Kq (n:=3) (n':=3) Rm dr db ro' rr' rb' (by decide) (by decide) (by decide) Y (by rw[gK];rfl) (by rw[gK,gK];rfl) (by rw[fk,fk];rfl) (λi j=>?_) (λi j=>?_) (λi=>?_)
 ·have ly:([qz,qn (Rat.divInt 3 2),qn ((1:Int):Rat)]:List Qr).length=3:=rfl;have eg:=F5 (n:=3) (N:=3) dr db ry (ob:=[vq 3 (λi=>-(([4,12,18]:List Int).getD i 0:Rat))]) (λv hv=>by rw[ly];omega) (by decide) (by decide) (by simp) (by rw[gK];decide) (by rw[ly];decide);rw[decide_eq_true (show MD 3 _ _ _ _ _ _ _ 3 from⟨dv,by rw[ly];decide,by rw[ly];decide+kernel,by rw[gK];decide+kernel⟩)]at eg;obtain⟨eh,rh⟩:=eval_eq (n:=3) (rw:=mq 2 (λ_=>3) (λk i=>-((([[1,0],[0,2],[3,2]]:List (List Int)).getD i []).getD k 0:Rat))) (bd:=vq 2 (λk=>-((([[3,5]]:List (List Int)).getD 0 []).getD k 0:Rat))) (N:=3) Rm ry (λv hv=>by rw[ly];omega) (by decide) (by simp);have c4:=UB rh aaE (by decide);rw[fk,fk,decide_eq_true (by decide+kernel)]at c4;unfold eJ kH;generalize qn (Rat.divInt 3 2)=q32 at*;generalize qn ((1:Int):Rat)=q1 at*;refine aA (aA eo<|aA er<|aA eb Y)<|aA ed<|aA eo'<|aA er'<|aA eb'<|aA ex<|aA e32<|aA e1<|cV ?_;exact aA ev<|uo (aA ef Y)<|uo (aA ee<|aA Sj<|aA c1 Y)<|uo (aA esl<|aA es<|aA c2 Y)<|uo (aA (dT Y) Y)<|uo (aA c3 Y)<|uo (aA eg Y)<|uo (aA eh<|aA aaD<|aA c4 Y) Y
 ·match i with
  |0=>
   match j with
   |0=>decide+kernel
   |1=>decide+kernel
   |2=>decide+kernel
   |j+3=>simp only[List.getD_cons_succ,List.getD_cons_zero,List.getD_nil,if_true];decide
  |i+1=>simp only[List.getD_cons_succ,List.getD_nil];rw[if_neg (by omega)];rfl
 ·match j with
  |0=>
   match i with
   |0=>decide+kernel
   |1=>decide+kernel
   |i+2=>simp only[List.getD_cons_succ,List.getD_cons_zero,List.getD_nil];decide
  |1=>
   match i with
   |0=>decide+kernel
   |1=>decide+kernel
   |i+2=>simp only[List.getD_cons_succ,List.getD_cons_zero,List.getD_nil];decide
  |2=>
   match i with
   |0=>decide+kernel
   |1=>decide+kernel
   |i+2=>simp only[List.getD_cons_succ,List.getD_cons_zero,List.getD_nil];decide
  |j+3=>
   match i with
   |0=>simp only[List.getD_cons_succ,List.getD_cons_zero,List.getD_nil];decide
   |1=>simp only[List.getD_cons_succ,List.getD_cons_zero,List.getD_nil];decide
   |i+2=>simp only[List.getD_cons_succ,List.getD_cons_zero,List.getD_nil];decide
 match i with
 |0=>decide+kernel
 |1=>decide+kernel
 |i+2=>simp only[List.getD_cons_succ,List.getD_cons_zero,List.getD_nil];decide
end
section
open Go.Fw
abbrev T3(m:List (List Qr)):Prop:=m.length*24<=140737488351232/\∀v∈m,UD v
abbrev OkL(p:Lr):Prop:=cY p.vars/\T3 p.sP/\T3 p.rows/\UD p.bounds
theorem OG{m:List (List Qr)}(h:T3 m)(s:∀v∈m,UF v):gP 6 m (EU m):=
 My (λv hv=>FP (λq hq=>Kl ((h.2 v hv).2 q hq) ((s v hv).2 q hq).1 ((s v hv).2 q hq).2 (by decide)) (by decide)) (by decide)
theorem al6:(eJ.bind λx=>some x)=some true:=aA QT Y
theorem rnn(x:Rat): - -x=x:=by grind
theorem BK(p:Lr)(op:OkL p):gz p=some true:=by
 obtain⟨n,ob,rw,bd⟩:=p;obtain⟨on,oo,UG,UH⟩:=op;replace oo:T3 ob:=oo;replace UG:T3 rw:=UG;replace UH:UD bd:=UH;have z1:=oo.1;have z2:=UG.1;have z3:=UH.1;obtain⟨b,e1,s1⟩:=Kt (n:=n) (ob:=ob) (rw:=rw) (bd:=bd);unfold gz;refine aA e1<|F3 (λ_=>al6) (λhb=>?_);have s1:=s1 hb;have ro:=OG oo s1.so;have rr:=OG UG s1.sr;have rb:=T0 UH;generalize EU ob=O at ro;generalize EU rw=F at rr;generalize BF bd=g at rb;by_cases hv:vn n ob rw bd/\rw.length<=64
 ·obtain⟨hv,Rk⟩:=hv;have qI:=hv;unfold vn at qI;have e2:=BJ ro rr rb (by decide) (by decide) (by decide) hv Rk;have e3:=Ah ro rr rb (by decide) (by decide) (by decide) hv (k:=0) (by omega);have Rm:=EV rb (by decide);have dr:=EW rr (by decide) hv;have db:=EX ro (by decide) hv;have dv:=Ku (O:=O) (F:=F) (g:=g) hv Rk;have e4:=BJ Rm dr db (by decide) (by decide) (by decide) dv (by rw[gK];omega);have to:=EV db (by decide);have tr:=EW dr (by decide) dv;have tb:=EX Rm (by decide) dv;have ev:=mP (n:=(rw.length:Int)) (ob:=[vq bd.length (λi=>-g i)]) (rw:=mq n.toNat (λ_=>rw.length) (λk i=>-F i k)) (bd:=vq n.toNat (λk=>-O 0 k)) (by simp) (by rw[gK];omega);rw[decide_eq_true dv]at ev;have so:gP 6 (mq 1 (λ_=>(ob.getD 0 []).length) (λ_=>O 0)) (λi j=>if i=0 then O 0 j else 0):=yL (oE (λi _=>(ro.row 0).fq i) (ro.row 0).z (by decide));have sr:gP 6 (mq rw.length (λi=>(rw.getD i []).length) F) F:=BH (λi _ k _=>(rr.row i).fq k) (λi _=>(rr.row i).z) rr.z (by decide);have sb:dB 35184372087808 (vq bd.length g) g:=oE (λi _=>rb.fq i) rb.z (by decide);unfold Kp at e2 e4
  have e5:=Kq (n:=((mq n.toNat (λ_=>rw.length) (λk i=>-F i k)).length:Int)) (n':=n) to tr tb so sr sb (by decide) (by decide) (by decide) (by rw[gK];omega) (by rw[gK];rfl) (by rw[gK,gK];omega) (by rw[fk,fk];omega) (λi j=>by
   split
   ·exact rnn _
   rfl) (λi j=>rnn _) (λi=>by rw[if_pos rfl];exact rnn _)
  exact aA e2<|aA e3<|aA (dF (by decide))<|cu Y<|aA e4<|cV<|aA (dT Y)<|uo (aA (dT Y) Y)<|uo (aA ev Y)<|uo (aA e5 Y)<|uo al6 Y
 have e2:=ME (n:=n) (ob:=ob) (rw:=rw) (bd:=bd) (by omega) (by omega) hv;obtain⟨r,e3⟩:∃r,cA ⟨n,ob,rw,bd⟩ 0=some r:=by
  by_cases hv:vn n ob rw bd
  ·have qI:=hv;unfold vn at qI;exact⟨_,Ah ro rr rb (by decide) (by decide) (by decide) hv (k:=0) (by omega)⟩
  exact⟨_,G7 (by omega) (by omega) (λq=>hv q.1)⟩
 exact aA e2<|aA e3<|aA (dT (by decide))<|cn Y<|cV<|aA (dT Y)<|uo al6 Y
section made
variable {K L M:Nat}{n:Int}{ob rw:List (List Qr)}{bd x:List Qr}{O F:Nat->Nat->Rat}{g f:Nat->Rat}
end made
end
section
open Go.Fw Go.RowKit Go.ChangeShapes Go.WideShapes Go.ChangeAt
set_option linter.unusedVariables false
set_option maxRecDepth 100000 in
theorem qS(H:Type)(enc:TypeId×Value->H)(W:World)(base:Nat)(args:Array Value)(ds gs:List (DataW H))(before:List MemPlace)
  (hval:∀(j:Nat) t v,Tryz.f5.params[j]? =some t->args[j]? =some v->Value.okWide ah W .any base t v)
  (hW:DataW.Whole enc ah Tryz.f5.params.toList Rows.lpDualDualSpec.vars false W args.toList ds gs before) (hz:(DataW.weightsEach ah (Tryz.f5.params.toList++Rows.lpDualDualSpec.plain.varTypes ah) (ds++gs)).all (· <=reachBytes)=true):
  Calls ah 5 args W λe W'=>∃v,e=.returned v/\Rows.lpDualDualSpec.post enc ah Tryz.f5 false true false false W args v W':=by
 have hW':=hW;obtain⟨p,q,TK,hV,rfl,hfz,hnd⟩:=hW;have hA:DataW.TrodAll enc ah W 0 (λ_=>true) true Tryz.f5.params.toList args.toList ds p:=TK;rw[Tryz.params5]at hA hval hz;obtain⟨v0,KP,d0,ds0,p0,q0,hargs,rfl,rfl,h0,r0⟩:=trodAll_cons hA;obtain⟨rfl,rfl,rfl⟩:=trodAll_nil r0;obtain rfl:args=#[v0]:=by cases args;simp_all
 obtain⟨rfl,rfl⟩:=trodVars_none hV;have lt0:∀x∈p0,x.block<W.heap.size:=by obtain⟨m,hm⟩:=h0;exact DataW.trod_lt m _ _ _ hm
 obtain⟨x0,ok0,sz0,al0⟩:=Ll (P:=ah) (T:=26) (e:=AD) (hval 0 26 v0 Y Y) h0 (vE (t:=26) (d:=d0) 0 hz Y Y);clear TK;refine(Lm (qQ (BK x0 ok0)) (W:=W) (vs:=[v0]) ⟨al0,aq⟩).mono λe W' ⟨he,bel⟩=>?_;subst he;exact⟨_,rfl,_,_,_,[],_,[],hW',trodAll_mk1 (shut_bool Tryz.underlying4 _),(trodAll_cons_mk (Below.trod Ib (by kernel_rfl) (of_decide_eq_true (by kernel_rfl)) h0 bel lt0) trodAll_mk0),rfl,bel.frame _,λh=>by cases h⟩
set_option maxRecDepth 100000 in
theorem ur(os:Os)(started:os.Started)(H:Type)(enc:TypeId×Value->H):
  ReturnsInHanded {} Tryz.checked os 5 .any (Rows.lpDualDualSpec.pre6 enc ah Tryz.f5 Rows.lpDualDualRow.domain false) (Rows.lpDualDualSpec.post enc ah Tryz.f5 false true false false):=by
 refine returnsInHanded_of_change_sized (C:=Tryz.checked) VB started (by kernel_rfl) Tryz.func5
  (ChangeSpec.witness6 (enc:=enc) (C:=Tryz.checked) false ⟨#[],#[.agg #[.int .i64 0,.slice none 0 0,.slice none 0 0,.slice none 0 0]],[]⟩ 8 (by kernel_rfl) (by kernel_rfl) (by kernel_rfl) (by kernel_rfl)) ?_
 intro W base args ds gs before hval hW _ hz _;exact qS H enc W base args ds gs before hval hW hz
theorem lpDualDual_holds:Rows.LpDualDualSaid:=
 OpenClaim.holds_of_wide 5 Tryz.f5 Y Y Y Y Y Y Y ⟨Y,Y,Y,Y,Y⟩ Y Y Y Y Y (by kernel_rfl) Tryz.func5 (by kernel_rfl)
  (of_decide_eq_true (by kernel_rfl)) (by unfold Func.isWrapper;first|(rw[if_pos (by decide+kernel)];kernel_rfl)|(rw[if_neg (by decide+kernel)];exact⟨Y,Y⟩))
  (λos started H enc _=>ur os started H enc)
end
end Go.Proofs.YtfoldppidpmchaaGreat
