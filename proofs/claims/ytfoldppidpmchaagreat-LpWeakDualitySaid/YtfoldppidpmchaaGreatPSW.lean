/- The law LpWeakDuality answers true for every input. -/
import Derived.Test.YtfoldppidpmchaaGreatPSW3
set_option linter.unusedVariables false
set_option linter.unusedSimpArgs false
set_option linter.unusedSectionVars false
namespace Go.Proofs.YtfoldppidpmchaaGreat
section
open Go.Fw
theorem kI{x:Int}(h1: -9223372036854775808<=x)(h2:x<=9223372036854775807):bW x=some (zn x):=by
 unfold bW;simp only[bD,cj];by_cases hx:x<0
 ·have e:(x%18446744073709551616).toNat=18446744073709551616-x.natAbs:=by omega
  rw[show decide (x<0)=true by simp[hx],eL,e,vc (by omega) (by omega),show 18446744073709551616+0-(18446744073709551616-x.natAbs)=x.natAbs by omega,ou _ _ (by omega),bD,lW,show sv true x.natAbs=x by simp[sv];omega]
 have e:(x%18446744073709551616).toNat=x.natAbs:=by omega
 rw[show decide (x<0)=false by simp[hx],fC,e,ou _ _ (by omega),bD,lW,show sv false x.natAbs=x by simp[sv];omega]
def dc(i:Int):Prop:=-9223372036854775808<=i/\i<=9223372036854775807
instance(i:Int):Decidable (dc i):=by unfold dc;infer_instance
def qR(i:Int):Int×Bool:=if dc i then(i,true)else(0,false)
theorem mW{z:Zr}(h:Wl z):cV z=some (qR (zi z)):=by
 obtain⟨n,w⟩:=z;unfold cV;have ht:=h.trim;have ab2:vl w<18446744073709551616->c9 (can 4294967296 (vl w))=some (vl w):=λh2=>by
  rw[low_eq _ (λ_ hx=>eu (by decide) hx) (by have:=fk.2 h2;omega),dK]
 show(bn w).bind _=some (qR (sv n (vl w)));rw[show bn w=some (can 4294967296 (vl w))from ht];simp only[bD];generalize vl w=v at*;by_cases h2:v<18446744073709551616
 ·have:=fk.2 h2;rw[show decide ((2:Int)<((can 4294967296 v).length:Int))=false by simp;omega,fC,ab2 h2,bD];cases n
  ·rw[fC,gV];by_cases h3:v<9223372036854775808
   ·rw[show decide (9223372036854775808<=v)=false by simp;omega,fC,fZ (by omega),qR,if_pos (by unfold dc;omega)]
   rw[show decide (9223372036854775808<=v)=true by simp;omega,eL,qR,if_neg (by unfold dc;omega)]
  rw[eL,show sv true v=-(v:Int)from rfl];by_cases h3:9223372036854775808<v
  ·rw[show decide (9223372036854775808<v)=true by simp;omega,eL,qR,if_neg (by unfold dc;omega)]
  rw[show decide (9223372036854775808<v)=false by simp;omega,fC,qR,if_pos (by unfold dc;omega)];by_cases h0:v=0
  ·subst h0;rfl
  rw[vc (by omega) (by omega)];rw[show IntKind.i64.wrap ((18446744073709551616+0-v:Nat):Int)=-(v:Int) by
   rw[IntKind.wrap];simp[IntKind.signed,IntKind.bits];omega]
 have:¬(((can 4294967296 v).length:Int)<=2):=λh=>h2 (fk.1 h);rw[show decide ((2:Int)<((can 4294967296 v).length:Int))=true by simp;omega,eL,qR,if_neg (by unfold dc;cases n<;>simp[sv]<;>omega)]
theorem Lz{z:Zr}(h:Wx z):cz z=some (zi z).sign:=by
 obtain⟨n,w⟩:=z;unfold cz;show(bn w).bind _=some (sv n (vl w)).sign;rw[show bn w=some (can 4294967296 (vl w))from h.trim];simp only[bD];generalize vl w=v;by_cases h0:v=0
 ·subst h0;cases n<;>rfl
 have:(can 4294967296 v).length≠0:=λh=>h0 (mU.1 h);rw[show decide (((can 4294967296 v).length:Int)=0)=false by simp;intro e;rw[e]at this;exact this Y,fC];cases n
 ·rw[fC,gV,Int.sign_eq_one_of_pos (by omega)]
 rw[eL,show sv true v=-(v:Int)from Y,Int.sign_eq_neg_one_of_neg (by omega)]
def jl(i j:Int):Int:=if i<j then-1 else if i=j then 0 else 1
theorem ga{i j:Int}(h:i<j):jl i j=-1:=by simp[jl,h]
theorem gb{i j:Int}(h:j<i):jl i j=1:=by
 have h1:¬i<j:=by omega
 have h2:¬i=j:=by omega
 simp[jl,h1,h2]
theorem my(i:Int):jl i i=0:=by simp[jl]
theorem zY(v w:Nat):wE v w=jl (v:Int) (w:Int):=by
 rcases Nat.lt_trichotomy v w with h|h|h
 ·rw[o9 h,ga (by omega)]
 ·rw[h,vg,my]
 rw[rG h,gb (by omega)]
theorem Es(i j:Int):jl (-i) (-j)=jl j i:=by
 rcases Int.lt_trichotomy i j with h|h|h
 ·rw[gb h,gb (by omega)]
 ·rw[h,my,my]
 rw[ga h,ga (by omega)]
theorem sign_eq{z:Zr}(h:Wl z):cz z=some (zi z).sign:=Lz h.x
theorem Vy{x y:Zr}(hx:Wx x)(hy:Wx y):k7 x y=some (jl (zi x) (zi y)):=by
 obtain⟨n,w⟩:=x;obtain⟨m,u⟩:=y;unfold k7;show(cz ⟨n,w⟩).bind _=_;rw[Lz hx,bD];show(cz ⟨m,u⟩).bind _=_;rw[Lz hy,bD,show bn w=some (can 4294967296 (vl w))from hx.trim,show bn u=some (can 4294967296 (vl u))from hy.trim];simp only[bD];rw[jd _ _ hx.cl hy.cl,jd _ _ hy.cl hx.cl];simp only[bD];rw[show zi ⟨n,w⟩=sv n (vl w)from Y,show zi ⟨m,u⟩=sv m (vl u)from rfl];generalize vl w=a;generalize vl u=b;rw[zY,zY];obtain⟨i,hi⟩:∃i,sv n a=i:=⟨_,Y⟩;obtain⟨j,hj⟩:∃j,sv m b=j:=⟨_,Y⟩;have L7:(i<0->i=-(a:Int))/\(0<=i->i=a):=by rw[<-hi];cases n<;>simp[sv]<;>omega
 have hjb:(j<0->j=-(b:Int))/\(0<=j->j=b):=by rw[<-hj];cases m<;>simp[sv]<;>omega
 rw[hi,hj];rcases Int.lt_trichotomy i 0 with h1|h1|h1<;>rcases Int.lt_trichotomy j 0 with h2|h2|h2
 ·rw[Int.sign_eq_neg_one_of_neg h1,Int.sign_eq_neg_one_of_neg h2,L7.1 h1,hjb.1 h2,Es];rfl
 ·rw[Int.sign_eq_neg_one_of_neg h1,show Int.sign j=0 by rw[h2];rfl,show jl i j=-1 from ga (by omega)];rfl
 ·rw[Int.sign_eq_neg_one_of_neg h1,Int.sign_eq_one_of_pos h2,show jl i j=-1 from ga (by omega)];rfl
 ·rw[show Int.sign i=0 by rw[h1];rfl,Int.sign_eq_neg_one_of_neg h2,show jl i j=1 from gb (by omega)];rfl
 ·rw[show Int.sign i=0 by rw[h1];rfl,show Int.sign j=0 by rw[h2];rfl,<-L7.2 (by omega),<-hjb.2 (by omega)];rfl
 ·rw[show Int.sign i=0 by rw[h1];rfl,Int.sign_eq_one_of_pos h2,show jl i j=-1 from ga (by omega)];rfl
 ·rw[Int.sign_eq_one_of_pos h1,Int.sign_eq_neg_one_of_neg h2,show jl i j=1 from gb (by omega)];rfl
 ·rw[Int.sign_eq_one_of_pos h1,show Int.sign j=0 by rw[h2];rfl,show jl i j=1 from gb (by omega)];rfl
 rw[Int.sign_eq_one_of_pos h1,Int.sign_eq_one_of_pos h2,<-L7.2 (by omega),<-hjb.2 (by omega)];rfl
theorem neg_eq{x:Zr}(hx:Wl x):fH x=some (zn (-zi x)):=by
 obtain⟨n,w⟩:=x;unfold fH;have hc:(can 4294967296 (vl w)).length<=35184372088788:=hx.cl;simp only[bD];rw[show bn w=some (can 4294967296 (vl w))from hx.trim,bD,qQ _ (by omega),bD,iG _ _ (fz (by omega)).x,bD,dK,lW,zX];rfl
theorem abs_eq{x:Zr}(hx:Wl x):kZ x=some (zn ((zi x).natAbs:Int)):=by
 obtain⟨n,w⟩:=x;unfold kZ;have hc:(can 4294967296 (vl w)).length<=35184372088788:=hx.cl;simp only[];rw[show bn w=some (can 4294967296 (vl w))from hx.trim,bD,qQ _ (by omega),bD,iG _ _ (fz (by omega)).x,bD,dK,lW,gV,pg]
end
section
open Go.Fw
theorem vm(n m:Bool)(a b:Nat)(ha:(can 4294967296 a).length<=35184372088788)(hb:(can 4294967296 b).length<=35184372088788):
  cK n (can 4294967296 a) m (can 4294967296 b)=some (zn (sv n a+sv m b)):=by
 have la:=cm (B:=4294967296) (by decide) a;have lb:=cm (B:=4294967296) (by decide) b;unfold cK;simp only[bD];by_cases hnm:n=m
 ·subst hnm;rw[show(n==n)=true by simp,eL,xj _ _ (fz (by omega)) (fz (by omega)),bD,dK,dK,iG _ _ ⟨λx hx=>lS (by decide) _ _ _ hx,by rw[bC];omega⟩,bD];have hv:vl (dI 4294967296 (max (can 4294967296 a).length (can 4294967296 b).length+1) (a+b))=a+b:=by
   show val _ _=_;rw[jV,Nat.mod_eq_of_lt];have h1:a<4294967296^(max (can 4294967296 a).length (can 4294967296 b).length):=Nat.lt_of_lt_of_le la (Nat.pow_le_pow_right (by decide) (by omega));have h2:b<4294967296^(max (can 4294967296 a).length (can 4294967296 b).length):=Nat.lt_of_lt_of_le lb (Nat.pow_le_pow_right (by decide) (by omega));rw[Nat.pow_succ];omega
  rw[hv,lW,show sv n (a+b)=sv n a+sv n b by cases n<;>simp[sv];omega]
 rw[show(n==m)=false by simp[hnm],fC,jd _ _ (by omega) (by omega),bD,Er];have hm:m= !n:=by cases n<;>cases m<;>simp_all
 subst hm;have hv:∀c d,d<=c->(can 4294967296 c).length<=35184372088788->cH (can 4294967296 c) (can 4294967296 d)=some (dI 4294967296 (can 4294967296 c).length (c-d))/\vl (dI 4294967296 (can 4294967296 c).length (c-d))=c-d:=by
  intro c d hdc vE;have lc:=cm (B:=4294967296) (by decide) c;have Sw:(can 4294967296 d).length<=(can 4294967296 c).length:=(bN (by decide)).2 (by omega);constructor
  ·rw[xk _ _ (fz (by omega)) (fz (by omega)) Sw (by rw[dK,dK];exact hdc),dK,dK]
  show val _ _=_;rw[jV,Nat.mod_eq_of_lt (by omega)]
 by_cases hlt:a<b
 ·obtain⟨h1,h2⟩:=hv b a (by omega) hb;rw[show decide (a<b)=true by simp[hlt],eL,h1,bD,iG _ _ ⟨λx hx=>lS (by decide) _ _ _ hx,by rw[bC];omega⟩,bD,h2,lW,show sv (!n) (b-a)=sv n a+sv (!n) b by cases n<;>simp[sv]<;>omega]
 obtain⟨h1,h2⟩:=hv a b (by omega) ha;rw[show decide (a<b)=false by simp[hlt],fC,h1,bD,iG _ _ ⟨λx hx=>lS (by decide) _ _ _ hx,by rw[bC];omega⟩,bD,h2,lW,show sv n (a-b)=sv n a+sv (!n) b by cases n<;>simp[sv]<;>omega]
theorem Hr(v:BitVec 64):IntKind.i64.wrap (v.toNat:Int)=v.toInt:=by
 rw[BitVec.toInt_eq_toNat_cond];have:=v.isLt;rw[show(2:Nat)^64=18446744073709551616 by decide]at this⊢;split
 ·rw[fZ (by omega)]
 rw[IntKind.wrap];simp[IntKind.signed,IntKind.bits];omega
theorem Hs(v:BitVec 64):BitVec.ofInt 64 (IntKind.i64.wrap (v.toNat:Int))=v:=by rw[Hr,BitVec.ofInt_toInt]
theorem wF{x:Int}(h:dc x):(BitVec.ofInt 64 x).msb=decide (x<0):=by
 rw[BitVec.msb_eq_toInt,BitVec.toInt_ofInt];unfold dc at h;have:x.bmod (2^64)=x:=by
  rw[Int.bmod_def];simp only[show((2^64:Nat):Int)=18446744073709551616 by decide];split<;>omega
 rw[this]
theorem Bi(v:BitVec 64):decide ((0:Int)<=IntKind.i64.wrap (v.toNat:Int))= !v.msb:=by
 rw[Hr,BitVec.msb_eq_toInt];by_cases h:v.toInt<0
 ·simp[h]
 simp[h];omega
theorem ow(x:Int):dc (IntKind.i64.wrap x):=by
 unfold dc;rw[IntKind.wrap];simp[IntKind.signed,IntKind.bits];split<;>omega
theorem vn{α:Type}(b:Bool)(x:α):(bif b then x else x)=x:=by cases b<;>rfl
theorem gW{i:Int}(h:dc i):qR i=(i,true):=if_pos h
theorem mX{i:Int}(h:¬dc i):qR i=(0,false):=if_neg h
theorem add_eq{x y:Zr}(hx:Wl x)(hy:Wl y):kX x y=some (zn (zi x+zi y)):=by
 obtain⟨n,w⟩:=x;obtain⟨m,u⟩:=y;unfold kX;simp only[mW hx,mW hy,bD,cj];have hK:((bn w).bind λxP=>(bn u).bind λqc=>(cK n xP m qc).bind λx=>some x)=some (zn (zi ⟨n,w⟩+zi ⟨m,u⟩)):=by
  rw[show bn w=some (can 4294967296 (vl w))from hx.trim,show bn u=some (can 4294967296 (vl u))from hy.trim,bD,bD,vm _ _ _ _ hx.cl hy.cl,bD];rfl
 have hK':((bn w).bind λxP=>(bn u).bind λqc=>(cK n xP m qc).bind λx=>some ⟨x.neg,x.w⟩)=some (zn (zi ⟨n,w⟩+zi ⟨m,u⟩)):=hK;rw[hK'];generalize zi ⟨n,w⟩=i;generalize zi ⟨m,u⟩=j;by_cases h1:dc i
 ·by_cases h2:dc j
  ·rw[gW h1,gW h2,eL,bD,eL,Hs,Hs,Bi,BitVec.msb_and,BitVec.msb_xor,BitVec.msb_xor,wF h1,wF h2,wF (ow _),kI (ow _).1 (ow _).2,bD];by_cases hr:dc (i+j)
   ·rw[ct hr.1 hr.2];exact vn _ _
   have:(!((decide (i<0)^^decide (IntKind.i64.wrap (i+j)<0))&&(decide (j<0)^^decide (IntKind.i64.wrap (i+j)<0))))=false:=by
    unfold dc at*;by_cases hs:i<0
    ·have e:IntKind.i64.wrap (i+j)=i+j+18446744073709551616:=by rw[IntKind.wrap];simp[IntKind.signed,IntKind.bits];omega
     rw[e,show decide (i<0)=true by simp[hs],show decide (j<0)=true by simp;omega,show decide (i+j+18446744073709551616<0)=false by simp;omega];rfl
    have e:IntKind.i64.wrap (i+j)=i+j-18446744073709551616:=by rw[IntKind.wrap];simp[IntKind.signed,IntKind.bits];omega
    rw[e,show decide (i<0)=false by simp[hs],show decide (j<0)=false by simp;omega,show decide (i+j-18446744073709551616<0)=true by simp;omega];rfl
   rw[this,fC]
  rw[gW h1,mX h2,eL,bD,fC]
 rw[mX h1,fC,bD,fC]
theorem sub_eq{x y:Zr}(hx:Wl x)(hy:Wl y):kY x y=some (zn (zi x-zi y)):=by
 obtain⟨n,w⟩:=x;obtain⟨m,u⟩:=y;unfold kY;simp only[mW hx,mW hy,bD,cj];have hK':((bn w).bind λxP=>(bn u).bind λqc=>(cK n xP (!m) qc).bind λx=>some ⟨x.neg,x.w⟩)=some (zn (zi ⟨n,w⟩-zi ⟨m,u⟩)):=by
  rw[show bn w=some (can 4294967296 (vl w))from hx.trim,show bn u=some (can 4294967296 (vl u))from hy.trim,bD,bD,vm _ _ _ _ hx.cl hy.cl,bD,zX,<-Int.sub_eq_add_neg];rfl
 rw[hK'];generalize zi ⟨n,w⟩=i;generalize zi ⟨m,u⟩=j;by_cases h1:dc i
 ·by_cases h2:dc j
  ·rw[gW h1,gW h2,eL,bD,eL,Hs,Hs,Bi,BitVec.msb_and,BitVec.msb_xor,BitVec.msb_xor,wF h1,wF h2,wF (ow _),kI (ow _).1 (ow _).2,bD];by_cases hr:dc (i-j)
   ·rw[ct hr.1 hr.2];exact vn _ _
   have:(!((decide (i<0)^^decide (j<0))&&(decide (i<0)^^decide (IntKind.i64.wrap (i-j)<0))))=false:=by
    unfold dc at*;by_cases hs:i<0
    ·have e:IntKind.i64.wrap (i-j)=i-j+18446744073709551616:=by rw[IntKind.wrap];simp[IntKind.signed,IntKind.bits];omega
     rw[e,show decide (i<0)=true by simp[hs],show decide (j<0)=false by simp;omega,show decide (i-j+18446744073709551616<0)=false by simp;omega];rfl
    have e:IntKind.i64.wrap (i-j)=i-j-18446744073709551616:=by rw[IntKind.wrap];simp[IntKind.signed,IntKind.bits];omega
    rw[e,show decide (i<0)=false by simp[hs],show decide (j<0)=true by simp;omega,show decide (i-j-18446744073709551616<0)=true by simp;omega];rfl
   rw[this,fC]
  rw[gW h1,mX h2,eL,bD,fC]
 rw[mX h1,fC,bD,fC]
theorem LA(n m:Bool)(a b:Nat):sv (!(n==m)) (a*b)=sv n a*sv m b:=by
 cases n<;>cases m<;>simp[sv,Int.neg_mul,Int.mul_neg]
theorem mul_eq{x y:Zr}(hx:Wl x)(hy:Wl y):da x y=some (zn (zi x*zi y)):=by
 obtain⟨n,w⟩:=x;obtain⟨m,u⟩:=y;unfold da;have Ww:(can 4294967296 (vl w)).length<=35184372088788:=hx.cl;have Vz:(can 4294967296 (vl u)).length<=35184372088788:=hy.cl;simp only[];rw[show bn w=some (can 4294967296 (vl w))from hx.trim,show bn u=some (can 4294967296 (vl u))from hy.trim,bD,bD,show zi ⟨n,w⟩=sv n (vl w)from Y,show zi ⟨m,u⟩=sv m (vl u)from rfl];simp only[bD,cj];generalize vl w=a at*;generalize vl u=b at*;have la:=cm (B:=4294967296) (by decide) a;have lb:=cm (B:=4294967296) (by decide) b;have hK:((eX (can 4294967296 a) (can 4294967296 b)).bind λpL=>(bY (!(n==m)) pL).bind λx=>some ⟨x.neg,x.w⟩)=some (zn (sv n a*sv m b)):=by
  rw[Ej _ _ (fz (by omega)) (fz (by omega)),bD,dK,dK,iG _ _ ⟨λx hx=>lS (by decide) _ _ _ hx,by rw[bC];omega⟩,bD,lW];have hv:vl (dI 4294967296 ((can 4294967296 a).length+(can 4294967296 b).length) (a*b))=a*b:=by
   show val _ _=_;rw[jV,Nat.mod_eq_of_lt];rw[Nat.pow_add];exact Nat.mul_lt_mul'' la lb
  rw[hv,LA]
 rw[hK];by_cases h1:a<4294967296
 ·by_cases h2:b<4294967296
  ·have l1:=low_eq (can 4294967296 a) (λ_ hx=>eu (by decide) hx) (by have:=jX.2 h1;omega);have l2:=low_eq (can 4294967296 b) (λ_ hx=>eu (by decide) hx) (by have:=jX.2 h2;omega);rw[dK]at l1 l2;have hlt:a*b<18446744073709551616:=Nat.mul_lt_mul'' h1 h2;rw[show decide (((can 4294967296 a).length:Int)<=1)=true by rw[decide_eq_true_eq];exact jX.2 h1,eL,bD,show decide (((can 4294967296 b).length:Int)<=1)=true by rw[decide_eq_true_eq];exact jX.2 h2,eL,l1,l2,bD,bD,Nat.mod_eq_of_lt hlt,ou _ _ hlt,bD,lW,LA]
  rw[show decide (((can 4294967296 a).length:Int)<=1)=true by rw[decide_eq_true_eq];exact jX.2 h1,eL,bD,show decide (((can 4294967296 b).length:Int)<=1)=false by rw[decide_eq_false_iff_not];exact λh=>h2 (jX.1 h),fC]
 rw[show decide (((can 4294967296 a).length:Int)<=1)=false by rw[decide_eq_false_iff_not];exact λh=>h1 (jX.1 h),fC,bD,fC]
end
section
open Go.Fw
theorem LB(n m:Bool){a b:Nat}(hb:0<b):
  sv n a/sv m b=(if n=true/\0<a%b then sv (!(n==m)) (a/b+1)else sv (!(n==m)) (a/b))/\
  sv n a%sv m b=(if n=true/\0<a%b then((b-a%b:Nat):Int)else((a%b:Nat):Int)):=by
 have hd:=Nat.div_add_mod a b;have hm:=Nat.mod_lt a hb
 revert hd hm
 generalize a/b=q;generalize a%b=r;intro hd hm;have hd':(b:Int)*q+r=a:=by exact_mod_cast hd
 have pos:∀n,sv n a/(b:Int)=(if n=true/\0<r then sv n (q+1)else sv n q)/\sv n a%(b:Int)=(if n=true/\0<r then((b-r:Nat):Int)else(r:Int)):=by
  intro n;apply(Int.ediv_emod_unique (by omega)).2;cases n
  ·simp[sv];omega
  by_cases hr:0<r
  ·simp only[hr,and_self,if_true,sv,cond_true];have:(b:Int)* -((q+1:Nat):Int)=-((b:Int)*q)-b:=by
    rw[Int.mul_neg,Int.natCast_add,Int.mul_add];simp;omega
   rw[this];omega
  have:r=0:=by omega
  subst this;simp[sv,Int.mul_neg];omega
 cases m
 ·have:=pos n;rw[gV,show(!(n==false))=n by cases n<;>rfl];exact this
 have:=pos n;rw[show sv true b=-(b:Int)from rfl,Int.ediv_neg,Int.emod_neg,this.1,this.2,show(!(n==true))= !n by cases n<;>rfl,zX,zX];refine⟨?_,Y⟩;split<;>rfl
theorem Sx{a b:Nat}(hba:b<=a)(vE:(can 4294967296 a).length<=35184372088788):cH (can 4294967296 a) (can 4294967296 b)=some (dI 4294967296 (can 4294967296 a).length (a-b))/\vl (dI 4294967296 (can 4294967296 a).length (a-b))=a-b:=by
 have lc:=cm (B:=4294967296) (by decide) a;have Sw:(can 4294967296 b).length<=(can 4294967296 a).length:=(bN (by decide)).2 (by omega);constructor
 ·rw[xk _ _ (fz (by omega)) (fz (by omega)) Sw (by rw[dK,dK];exact hba),dK,dK]
 show val _ _=_;rw[jV,Nat.mod_eq_of_lt (by omega)]
def Et(i j:Int):Zr×Zr×Int:=if j=0 then(⟨false,[]⟩,⟨false,[]⟩,7)else(zn (i/j),zn (i%j),0)
theorem divMod_eq{x y:Zr}(hx:Wl x)(hy:Wl y):ei x y=some (Et (zi x) (zi y)):=by
 obtain⟨n,w⟩:=x;obtain⟨m,u⟩:=y;unfold ei;have Ww:(can 4294967296 (vl w)).length<=35184372088788:=hx.cl;have Vz:(can 4294967296 (vl u)).length<=35184372088788:=hy.cl;simp only[];rw[show bn w=some (can 4294967296 (vl w))from hx.trim,show bn u=some (can 4294967296 (vl u))from hy.trim,bD,bD,show zi ⟨n,w⟩=sv n (vl w)from Y,show zi ⟨m,u⟩=sv m (vl u)from rfl];simp only[bD,cj];generalize vl w=a at*;generalize vl u=b at*;by_cases h0:b=0
 ·subst h0;rw[show sv m 0=0 by cases m<;>rfl];rfl
 have sj:(can 4294967296 b).length≠0:=λh=>h0 (mU.1 h);rw[show decide (((can 4294967296 b).length:Int)=0)=false by simp;intro e;rw[e]at sj;exact sj Y,fC];obtain⟨q,r,hqr,VA,Wy,VB,hr2,Wa,hr3⟩:=xl a b Ww Vz h0;have hm:a%b<b:=Nat.mod_lt _ (by omega);obtain⟨e1,e2⟩:=LB n m (a:=a) (show 0<b by omega);have hj:sv m b≠0:=by cases m<;>simp[sv]<;>omega
 rw[hqr,bD];simp only[];rw[vh r (by have:=VB.2;omega),iF (by decide) VB.1,show val 4294967296 r=a%b from hr2,bD,Et,if_neg hj,e1,e2];have hrl:(can 4294967296 (a%b)).length<=(can 4294967296 b).length:=(bN (by decide)).2 (Nat.lt_trans hm (cm (by decide) b));have hK:∀c:Bool,(decide (n=true/\0<a%b)=c)->(bif c then(dO q [1]).bind λpL=>(cH (can 4294967296 b) (can 4294967296 (a%b))).bind λqa=>(bY (!(n==m)) pL).bind λx=>(bY false qa).bind λx_1=>some ((⟨x.neg,x.w⟩:Zr),(⟨x_1.neg,x_1.w⟩:Zr),(0:Int))
   else(bY (!(n==m)) q).bind λx=>(bY false (can 4294967296 (a%b))).bind λx_1=>some ((⟨x.neg,x.w⟩:Zr),(⟨x_1.neg,x_1.w⟩:Zr),(0:Int)))=
   some (zn (if n=true/\0<a%b then sv (!(n==m)) (a/b+1)else sv (!(n==m)) (a/b)),zn (if n=true/\0<a%b then((b-a%b:Nat):Int)else((a%b:Nat):Int)),0):=by
  intro c hc;cases c
  ·have LC:=of_decide_eq_false hc;rw[fC,if_neg LC,if_neg LC,iG _ _ VA.x,bD,iG _ _ (fz (by omega)).x,bD,dK,Wy,lW,lW,gV]
  have LC:=of_decide_eq_true hc;obtain⟨s1,s2⟩:=Sx (a:=b) (b:=a%b) (by omega) Vz;have w1:CN [1]:=⟨by simp,by simp⟩;rw[eL,if_pos LC,if_pos LC,xj _ _ VA w1,bD,s1,bD,iG _ _ ⟨λx hx=>lS (by decide) _ _ _ hx,by rw[bC];simp;omega⟩,bD,iG _ _ ⟨λx hx=>lS (by decide) _ _ _ hx,by rw[bC];omega⟩,bD,s2,lW,lW,gV];have:vl (dI 4294967296 (max q.length [1].length+1) (vl q+vl [1]))=a/b+1:=by
   show val _ _=_;rw[jV,show vl [1]=1 by decide,Wy,Nat.mod_eq_of_lt];have h1:vl q<4294967296^q.length:=eG q VA.1;rw[Wy]at h1;have h2:4294967296^q.length<=4294967296^(max q.length [1].length):=Nat.pow_le_pow_right (by decide) (by omega);have h3:0<4294967296^(max q.length [1].length):=Nat.pow_pos (by decide);rw[Nat.pow_succ];omega
  rw[this]
 have hz:(0<(can 4294967296 (a%b)).length)↔0<a%b:=by
  have:=mU (v:=a%b);omega
 cases n
 ·rw[fC,bD];exact hK false (by simp)
 rw[eL,bD];refine hK _ ?_;simp only[true_and];by_cases h:0<a%b
 ·simp[h,hz.2 h]
 have h':¬0<(can 4294967296 (a%b)).length:=λe=>h (hz.1 e);have h'':¬((0:Int)<((can 4294967296 (a%b)).length:Int)):=by omega
 simp only[h,h'',decide_false]
theorem Sy{x y:Zr}(hx:Wl x)(hy:Wl y):jr x y=some (zn (Int.gcd (zi x) (zi y):Int)):=by
 obtain⟨n,w⟩:=x;obtain⟨m,u⟩:=y;unfold jr;have Ww:(can 4294967296 (vl w)).length<=35184372088788:=hx.cl;have Vz:(can 4294967296 (vl u)).length<=35184372088788:=hy.cl;simp only[];rw[show bn w=some (can 4294967296 (vl w))from hx.trim,show bn u=some (can 4294967296 (vl u))from hy.trim,bD,bD,Int.gcd,pg,pg];show _=some (zn ((Nat.gcd (vl w) (vl u):Nat):Int));generalize vl w=a at*;generalize vl u=b at*;refine gu (λs=>∃c d,s=(can 4294967296 c,can 4294967296 d)/\Nat.gcd c d=Nat.gcd a b/\(can 4294967296 c).length<=35184372088788/\(can 4294967296 d).length<=35184372088788)
  (λs=>∃c d,s=(can 4294967296 c,can 4294967296 d)/\Nat.gcd c d=Nat.gcd a b/\(can 4294967296 c).length<=35184372088788/\(d=0\/(c<18446744073709551616/\d<18446744073709551616))) (λs=>vl s.2) ?_ ⟨a,b,Y,Y,Ww,Vz⟩ ?_
 ·rintro _ ⟨c,d,rfl,hg,hc,hd⟩;simp only[bD,cj];by_cases h0:d=0
  ·right;subst h0;exact⟨_,Y,c,0,Y,hg,hc,.inl Y⟩
  have sj:(can 4294967296 d).length≠0:=λh=>h0 (mU.1 h);rw[show decide ((0:Int)<((can 4294967296 d).length:Int))=true by simp;omega,eL];by_cases h2:c<18446744073709551616/\d<18446744073709551616
  ·right;have c1:=fk.2 h2.1;have c2:=fk.2 h2.2;rw[show decide ((2:Int)<((can 4294967296 c).length:Int))=false by simp;omega,fC,show decide ((2:Int)<((can 4294967296 d).length:Int))=false by simp;omega];exact⟨_,Y,c,d,Y,hg,hc,.inr h2⟩
  left;have hm:c%d<d:=Nat.mod_lt _ (by omega);obtain⟨q,r,hqr,VA,Wy,VB,hr2,-,-⟩:=xl c d hc hd h0;have uj:((bif decide ((2:Int)<((can 4294967296 c).length:Int))then some true else some (decide ((2:Int)<((can 4294967296 d).length:Int)))):Option Bool)=some true:=by
   by_cases E6:c<18446744073709551616
   ·have hd2:¬d<18446744073709551616:=λh=>h2 ⟨E6,h⟩;have:¬(((can 4294967296 d).length:Int)<=2):=λh=>hd2 (fk.1 h);rw[show decide ((2:Int)<((can 4294967296 d).length:Int))=true by simp;omega];exact vn _ _
   have:¬(((can 4294967296 c).length:Int)<=2):=λh=>E6 (fk.1 h);rw[show decide ((2:Int)<((can 4294967296 c).length:Int))=true by simp;omega,eL]
  rw[uj,bD,bD,eL,hqr,bD];simp only[];rw[vh r (by have:=VB.2;omega),iF (by decide) VB.1,show val 4294967296 r=c%d from hr2,bD];refine⟨_,Y,⟨d,c%d,Y,?_,hd,?_⟩,?_⟩
  ·rw[<-hg,Nat.gcd_comm d,<-Nat.gcd_rec,Nat.gcd_comm]
  ·exact Nat.le_trans ((bN (by decide)).2 (Nat.lt_trans hm (cm (by decide) d))) hd
  simp only[dK];exact hm
 rintro _ ⟨c,d,rfl,hg,hc,Lw⟩;simp only[bD];by_cases h0:d=0
 ·subst h0;rw[show decide (((can 4294967296 0).length:Int)=0)=true by simp[mS],eL,qQ _ (by omega),bD,iG _ _ (fz (by omega)).x,bD,dK,lW,gV,<-hg,Nat.gcd_zero_right]
 have h2:=Lw.resolve_left h0;have sj:(can 4294967296 d).length≠0:=λh=>h0 (mU.1 h);have c1:=fk.2 h2.1;have c2:=fk.2 h2.2;rw[show decide (((can 4294967296 d).length:Int)=0)=false by simp;intro e;rw[e]at sj;exact sj Y,fC,low_eq _ (λ_ hx=>eu (by decide) hx) (by omega),bD,low_eq _ (λ_ hx=>eu (by decide) hx) (by omega),bD,dK,dK];refine gu (λs=>Nat.gcd s.1 s.2=Nat.gcd a b/\s.1<18446744073709551616/\s.2<18446744073709551616) (λe=>e=Nat.gcd a b/\e<18446744073709551616) (λs=>s.2) ?_ ⟨hg,h2.1,h2.2⟩ ?_
 ·rintro⟨s,t⟩ ⟨i1,i2,i3⟩;simp only at i1 i2 i3⊢;by_cases ht:0<t
  ·left;rw[show decide (0<t)=true by simp[ht],eL,xU (by omega),bD];refine⟨_,Y,⟨?_,i3,?_⟩,Nat.mod_lt _ ht⟩
   ·rw[<-i1,Nat.gcd_comm t,<-Nat.gcd_rec,Nat.gcd_comm]
   exact Nat.lt_trans (Nat.mod_lt _ ht) i3
  right;rw[show decide (0<t)=false by simp[ht],fC];refine⟨_,Y,?_,i2⟩;rw[<-i1,show t=0 by omega,Nat.gcd_zero_right]
 rintro e ⟨rfl,he⟩;rw[ou _ _ he,bD,lW,gV]
end
section
open Go.Fw
def zl(l:List Nat):List Int:=l.map (λ(n:Nat)=>(n:Int))
theorem dL(l:List Nat):(zl l).length=l.length:=by simp[zl]
theorem wG{l:List Nat}{i x:Nat}(h:l[i]? =some x):(zl l)[i]? =some (x:Int):=by simp[zl,h]
theorem CR(l k:List Nat):zl (l++k)=zl l++zl k:=by simp[zl]
theorem Gm(x:Nat):zl [x]=[(x:Int)]:=rfl
theorem ND(l:List Nat)(n:Nat):(zl l).take n=zl (l.take n):=by simp[zl,List.map_take]
theorem LD(l:List Nat)(i x:Nat):(zl l).set i (x:Int)=zl (l.set i x):=by simp[zl,List.map_set]
def R32(l:List Nat):Prop:=(∀x∈l,x<4294967296)/\l.length<=100000000000
def EW(l:List Nat):Prop:=(∀x∈l,x<65536)/\l.length<=100000000000
abbrev ni(l:List Nat):Nat:=val 65536 l
def Wr(z:Zr):Prop:=(∀x∈z.w,x<4294967296)/\z.w.length<=10000000000
theorem Eu{L:Nat}{i:Int}(h:Fit L i)(hL:L<=10000000000):Wr (zn i):=
 ⟨λ_ hx=>eu (by decide) hx,Nat.le_trans ((bN (by decide)).2 h) hL⟩
theorem iZ(l:List Nat)(hl:l.length<=1000000000000):cL (zl l)=some (zl (iE l)):=by
 unfold cL;simp only[bD];refine gu (λy=>∃n:Nat,y=(n:Int)/\n<=l.length/\iE (l.take n)=iE l) (λy=>∃n:Nat,y=(n:Int)/\n<=l.length/\l.take n=iE l) (λy=>y.toNat) ?_ ⟨l.length,by rw[dL],Nat.le_refl _,by rw[List.take_length]⟩ ?_
 ·rintro _ ⟨n,rfl,hn,ht⟩;simp only[cj];rcases n with _|n
  ·right;refine⟨_,Y,0,Y,by omega,?_⟩;rw[<-ht];rfl
  have hi:∃x,l[n]? =some x:=⟨l[n],by simp⟩;obtain⟨x,hx⟩:=hi;have htk:l.take (n+1)=l.take n++[x]:=by
   rw[List.take_add_one,hx];rfl
  rw[show decide ((0:Int)<((n+1:Nat):Int))=true by rw[decide_eq_true_eq];omega,eL,zO (by omega),bM (wG hx),bD];by_cases h0:x=0
  ·left;subst h0;rw[show decide (((0:Nat):Int)=0)=true by simp,bD,eL];refine⟨_,Y,⟨n,Y,by omega,?_⟩,by omega⟩;rw[<-ht,htk,mR]
  right;rw[show decide (((x:Nat):Int)=0)=false by simp;omega,bD,fC];refine⟨_,Y,n+1,Y,hn,?_⟩;rw[<-ht,htk,o8 _ h0]
 rintro _ ⟨n,rfl,hn,ht⟩;rw[jz (by rw[dL];exact hn),bD,ND,ht]
theorem xm{l:List Nat}(h:∀x∈l,x<65536)(i:Nat):di (zl l) (i:Int)=some ((ni l/65536^i%65536:Nat):Int):=by
 unfold di;simp only[bD];rw[dL];by_cases hi:i<l.length
 ·rw[show decide ((i:Int)<(l.length:Int))=true by simp[hi],eL,bM (wG (jW h hi)),bD]
 rw[show decide ((i:Int)<(l.length:Int))=false by simp;omega,fC];have:ni l/65536^i=0:=Nat.div_eq_of_lt (Nat.lt_of_lt_of_le (eG l h) (Nat.pow_le_pow_right (by decide) (by omega)));rw[this];rfl
theorem Gn(V k:Nat):dI 65536 (2*k) V++[V/4294967296^k%4294967296%65536,V/4294967296^k%4294967296/65536]=dI 65536 (2*(k+1)) V:=by
 have e:65536^(2*k)=4294967296^k:=by rw[Nat.pow_mul]
 rw[show 2*(k+1)=2*k+1+1 by omega,gw,gw,Nat.pow_succ,e,<-Nat.div_div_eq_div_mul,List.append_assoc];generalize V/4294967296^k=x;rw[show x%4294967296%65536=x%65536 by omega,show x%4294967296/65536=x/65536%65536 by omega];rfl
theorem ID(w:List Nat)(hw:R32 w):b7 w=some (zl (can 65536 (vl w))):=by
 obtain⟨hl,hn⟩:=hw;unfold b7;refine bF (λi=>((i:Int),zl (dI 65536 (2*i) (vl w)))) w.length (zl (dI 65536 (2*w.length) (vl w))) ?_ (λk hk=>?_) ?_ ?_
 ·rfl
 ·have hg:=jW hl hk;have hlt:=Nat.mod_lt (val 4294967296 w/4294967296^k) (show 0<4294967296 by decide);have hv:=Gn (vl w) k;simp only[bD];rw[show decide ((k:Int)<(w.length:Int))=true by simp[hk],eL,bM hg,bD,bD,fZ (by omega),fZ (by omega),Sd (by decide) (by rw[dL,bC];simp;omega),bD,b8 (by omega)];rw[<-hv,CR];rw[show val 4294967296 w/4294967296^k%4294967296/65536%4294967296=val 4294967296 w/4294967296^k%4294967296/65536 by omega];rfl
 ·simp
 rw[iZ _ (by rw[bC];omega),bD,lI (by decide)];rw[Nat.pow_mul];exact eG w hl
theorem Ev(k:Nat):65536^(2*k)=4294967296^k:=by rw[Nat.pow_mul]
theorem Gp(v:Nat):can 4294967296 v=dI 4294967296 (((can 65536 v).length+1)/2) v:=by
 have h1:=cm (B:=65536) (by decide) v;obtain⟨n,hn⟩:∃n,(can 65536 v).length=n:=⟨_,Y⟩;rw[hn]at h1⊢;have h2:v<4294967296^((n+1)/2):=by
  rw[<-Ev];exact Nat.lt_of_lt_of_le h1 (Nat.pow_le_pow_right (by decide) (by omega))
 rw[Hf (by decide) v];congr 1;have h3:=(bN (B:=4294967296) (by decide)).2 h2;refine Nat.le_antisymm h3 ?_;rcases n with _|n
 ·simp
 have h4:65536^n<=v:=nR (by decide) (by omega);obtain⟨m,hm⟩:∃m,(n+1+1)/2=m+1:=⟨n/2,by omega⟩;rw[hm];rcases Nat.lt_or_ge m (can 4294967296 v).length with h|h
 ·exact h
 have h5:=(bN (B:=4294967296) (by decide)).1 h;rw[<-Ev]at h5;have:65536^(2*m)<=65536^n:=Nat.pow_le_pow_right (by decide) (by omega);omega
theorem of_eq(n:Bool)(l:List Nat)(hl:EW l):dj n (zl l)=some (zc n (ni l)):=by
 obtain⟨h,hn⟩:=hl;unfold dj;rw[iZ _ (by omega),bD,iF (by decide) h];have hc:(can 65536 (val 65536 l)).length<=l.length:=(bN (by decide)).2 (eG l h);show _=some (zc n (val 65536 l));generalize val 65536 l=v at*;have vE:∀x∈can 65536 v,x<65536:=λ_ hx=>eu (by decide) hx;have SS:=λi=>xm vE i;refine bF (λi=>(((2*i:Nat):Int),dI 4294967296 i v)) (((can 65536 v).length+1)/2) (can 4294967296 v) ?_ (λk hk=>?_) ?_ ?_
 ·rfl
 ·have a1:=SS (2*k);have a2:=SS (2*k+1);rw[show ni (can 65536 v)=v from iO (by decide) v]at a1 a2;rw[Ev]at a1;rw[Nat.pow_succ,Ev,<-Nat.div_div_eq_div_mul]at a2;simp only[bD];rw[dL,show decide (((2*k:Nat):Int)<((can 65536 v).length:Int))=true by simp;omega,eL,a1,bD,b8 (by omega),a2,bD];rw[gw];have e:((((v/4294967296^k%65536:Nat):Int)%4294967296).toNat+(((v/4294967296^k/65536%65536:Nat):Int)%4294967296).toNat*65536%4294967296)%4294967296=v/4294967296^k%4294967296:=by
   generalize v/4294967296^k=x;omega
  rw[e,va (by decide) (by rw[bC];omega),bD,show((2*k:Nat):Int)+2=((2*(k+1):Nat):Int) by omega,fZ (by omega)]
 ·simp only[bD];rw[dL,show decide (((2*(((can 65536 v).length+1)/2):Nat):Int)<((can 65536 v).length:Int))=false by simp;omega,fC,<-Gp]
 simp only[cj];rw[zc];have hz:=mU (v:=v);cases n
 ·rw[fC,bD];rfl
 rw[eL,bD,bD,bD];congr 2;by_cases h0:v=0
 ·rw[h0];rfl
 have:¬(can 4294967296 v).length=0:=λe=>h0 (hz.1 e);rw[show decide ((0:Int)<((can 4294967296 v).length:Int))=true by rw[decide_eq_true_eq];omega,show(true&&v != 0)=true by simp[h0]]
theorem qS(n:Bool)(v:Nat)(hl:(can 65536 v).length<=100000000000):dj n (zl (can 65536 v))=some (zn (sv n v)):=by
 rw[of_eq n _ ⟨λ_ hx=>eu (by decide) hx,hl⟩,show ni (can 65536 v)=v from iO (by decide) v,lW]
theorem IE{w:List Nat}(hw:∀x∈w,x<4294967296):(can 65536 (vl w)).length<=2*w.length:=by
 apply(bN (by decide)).2;rw[Ev];exact eG w hw
theorem g9{x:Zr}(h:Wr x):b7 x.w=some (zl (can 65536 (zi x).natAbs)):=by
 rw[pg];exact ID _ ⟨h.1,by have:=h.2;omega⟩
theorem Wr.NF{x:Zr}(h:Wr x):(can 65536 (zi x).natAbs).length<=20000000000:=by
 rw[pg];have:=IE h.1;have:=h.2;omega
theorem Ew{x:Zr}(h:Wr x):fN x=some (zn (zi x)):=by
 obtain⟨n,w⟩:=x;have h1:=g9 h;have h2:=h.NF;unfold fN;simp only[];rw[show b7 w=_ from h1,bD,qS _ _ (by omega),bD,pg];rfl
theorem from_eq{x:Int}(h:dc x):fK x=some (zn x):=by
 unfold dc at h;have key:∀(v:Nat) (n:Bool),v<18446744073709551616->((fN ⟨n,[v%4294967296%4294967296,v/4294967296%18446744073709551616%4294967296]⟩).bind λx=>some (⟨x.neg,x.w⟩:Zr))=some (zn (sv n v)):=by
  intro v n hv;rw[Ew ⟨by simp;omega,by simp⟩,bD];show some (zn (sv n (vl _)))=_;congr 3;simp only[vl,val];omega
 unfold fK;simp only[bD,cj];by_cases hx:x<0
 ·have e:(x%18446744073709551616).toNat=18446744073709551616-x.natAbs:=by omega
  rw[show decide (x<0)=true by simp[hx],eL,e,vc (by omega) (by omega),show 18446744073709551616+0-(18446744073709551616-x.natAbs)=x.natAbs by omega,key _ _ (by omega),show sv true x.natAbs=x by simp[sv];omega]
 have e:(x%18446744073709551616).toNat=x.natAbs:=by omega
 rw[show decide (x<0)=false by simp[hx],fC,e,key _ _ (by omega),show sv false x.natAbs=x by simp[sv];omega]
end
section
open Go.Fw
theorem zeta'(z:Zr):(⟨z.neg,z.w⟩:Zr)=z:=by cases z;rfl
theorem mz{i:Int}(h:dc i):Fit 2 i:=Fit.i64 h.1 h.2
theorem LF{i:Int}(h:dc i):Wr (zn i):=Eu (mz h) (by decide)
end
section
open Go.Fw
theorem NG(l:List Zr)(hl:l.length<=100):∃b,jR l=some b/\(b=false->∀z∈l,z.w.length<=12):=by
 unfold jR;simp only[bD];refine me (λy=>∃i:Nat,y=(i:Int)/\i<=l.length/\∀z∈l.take i,z.w.length<=12) (λe=>(∃c,e=.inl c/\∀z∈l,z.w.length<=12)\/e=.inr true) (λy=>l.length-y.toNat) ?_ ⟨0,Y,by omega,by simp⟩ ?_
 ·rintro _ ⟨i,rfl,hi,ht⟩;by_cases hlt:i<l.length
  ·have g:l[i]? =some l[i]:=by simp
   rw[show decide ((i:Int)<(l.length:Int))=true by simp[hlt],eL,bM g,bD];by_cases fU:l[i].w.length<=12
   ·left;rw[show decide ((12:Int)<(l[i].w.length:Int))=false by rw[decide_eq_false_iff_not];omega,fC,b8 (by omega)];refine⟨_,Y,⟨i+1,Y,hlt,?_⟩,by omega⟩;rw[List.take_add_one,g];intro z hz;rcases List.mem_append.1 hz with h|h
    ·exact ht z h
    simp at h;rw[h];exact fU
   right;rw[show decide ((12:Int)<(l[i].w.length:Int))=true by rw[decide_eq_true_eq];omega,eL];exact⟨_,Y,.inr Y⟩
  right;rw[show decide ((i:Int)<(l.length:Int))=false by simp;omega,fC];rw[List.take_of_length_le (by omega)]at ht;exact⟨_,Y,.inl ⟨_,Y,ht⟩⟩
 rintro e (⟨c,rfl,he⟩|rfl)
 ·exact⟨false,Y,λ_=>he⟩
 exact⟨true,rfl,λh=>by cases h⟩
theorem LG(i j:Int):(i-j).sign=jl i j:=by
 rcases Int.lt_trichotomy i j with h|h|h
 ·rw[ga h,Int.sign_eq_neg_one_of_neg (by omega)]
 ·rw[h,my,Int.sub_self];rfl
 rw[gb h,Int.sign_eq_one_of_pos (by omega)]
theorem IF(i j:Int):IntKind.i64.wrap (0-jl j i)=jl i j:=by
 rcases Int.lt_trichotomy i j with h|h|h
 ·rw[ga h,gb h];rfl
 ·rw[h,my];rfl
 rw[gb h,ga h];rfl
abbrev OkZ(z:Zr):Prop:=True/\(z.w.length*4<=140737488351232/\∀x∈z.w,x<4294967296)
end
section
open Go.Fw
def qd(q:Qr):Int:=if zi q.den=0 then 1 else zi q.den
def qv(q:Qr):Rat:=Rat.divInt (zi q.num) (qd q)
def qn(r:Rat):Qr:=⟨zn r.num,if r.den=1 then⟨false,[]⟩else zn (r.den:Int)⟩
def FQ(L:Nat)(r:Rat):Prop:=Fit L r.num/\Fit L (r.den:Int)
structure fD (L:Nat) (q:Qr) (r:Rat):Prop where
 n:∀x∈q.num.w,x<4294967296
 d:∀x∈q.den.w,x<4294967296
 ln:q.num.w.length<=L
 ld:q.den.w.length<=L
 l1:1<=L
 v:qv q=r
theorem VC(q:Qr):qd q≠0:=by
 unfold qd;by_cases h:zi q.den=0
 ·rw[if_pos h];decide
 rw[if_neg h];exact h
theorem VD(r:Rat):qv (qn r)=r:=by
 unfold qv qd qn;by_cases h:r.den=1
 ·rw[if_pos h];show Rat.divInt (zi (zn r.num)) (if zi ⟨false,[]⟩=0 then 1 else zi ⟨false,[]⟩)=r;rw[if_pos (show zi ⟨false,[]⟩=0 from rfl),eD];have:=Rat.num_divInt_den r;rw[h]at this;exact this
 rw[if_neg h];show Rat.divInt (zi (zn r.num)) (if zi (zn (r.den:Int))=0 then 1 else zi (zn (r.den:Int)))=r;have:=r.den_nz;rw[eD,eD,if_neg (by omega),Rat.num_divInt_den]
theorem Ht{w:List Nat}{n:Bool}{L:Nat}(h:∀x∈w,x<4294967296)(hl:w.length<=L):Fit L (zi ⟨n,w⟩):=by
 unfold Fit;rw[pg];exact Nat.lt_of_lt_of_le (eG w h) (Nat.pow_le_pow_right (by decide) hl)
theorem vo{L:Nat}(h:1<=L):Fit L 1:=by
 unfold Fit;exact Nat.lt_of_lt_of_le (show(1:Int).natAbs<4294967296^1 by decide) (Nat.pow_le_pow_right (by decide) h)
theorem FQ.rep{L:Nat}{r:Rat}(h:FQ L r)(h1:1<=L):fD L (qn r) r:=by
 refine⟨λx hx=>eu (by decide) hx,?_,(bN (by decide)).2 h.1,?_,h1,VD r⟩
 ·unfold qn;by_cases e:r.den=1
  ·rw[if_pos e];simp
  rw[if_neg e];exact λx hx=>eu (by decide) hx
 unfold qn;by_cases e:r.den=1
 ·rw[if_pos e];simp
 rw[if_neg e];exact(bN (by decide)).2 h.2
theorem fD.wn{L:Nat}{q:Qr}{r:Rat}(h:fD L q r)(hL:L<=35184372088788):Wl q.num:=⟨h.n,Nat.le_trans h.ln hL⟩
theorem fD.wd{L:Nat}{q:Qr}{r:Rat}(h:fD L q r)(hL:L<=35184372088788):Wl q.den:=⟨h.d,Nat.le_trans h.ld hL⟩
theorem fD.fn{L:Nat}{q:Qr}{r:Rat}(h:fD L q r):Fit L (zi q.num):=Ht (n:=q.num.neg) h.n h.ln
theorem fD.fd{L:Nat}{q:Qr}{r:Rat}(h:fD L q r):Fit L (zi q.den):=Ht (n:=q.den.neg) h.d h.ld
theorem fD.fqd{L:Nat}{q:Qr}{r:Rat}(h:fD L q r):Fit L (qd q):=by
 unfold qd;by_cases e:zi q.den=0
 ·rw[if_pos e];exact vo h.l1
 rw[if_neg e];exact h.fd
theorem fD.mono{L M:Nat}{q:Qr}{r:Rat}(h:fD L q r)(hl:L<=M):fD M q r:=⟨h.n,h.d,Nat.le_trans h.ln hl,Nat.le_trans h.ld hl,Nat.le_trans h.l1 hl,h.v⟩
theorem FQ.mono{L M:Nat}{r:Rat}(h:FQ L r)(hl:L<=M):FQ M r:=⟨h.1.mono hl,h.2.mono hl⟩
theorem rH{L:Nat}{a d:Int}(h0:d≠0)(ha:Fit L a)(hd:Fit L d):FQ L (Rat.divInt a d):=by
 generalize hr:Rat.divInt a d=r;obtain⟨n',d',z',c⟩:=r;obtain⟨m,hm,h1,h2⟩:=Rat.divInt_num_den h0 hr;have hm':0<m.natAbs:=Int.natAbs_pos.2 hm;refine⟨ha.le ?_,hd.le ?_⟩
 ·rw[h1,Int.natAbs_mul];exact Nat.le_mul_of_pos_right _ hm'
 rw[h2,Int.natAbs_mul];exact Nat.le_mul_of_pos_right _ hm'
theorem fD.fq{L:Nat}{q:Qr}{r:Rat}(h:fD L q r):FQ L r:=by rw[<-h.v];exact rH (VC q) h.fn h.fqd
theorem rI(r:Rat):r=Rat.divInt r.num (r.den:Int):=(Rat.num_divInt_den r).symm
theorem nS(r:Rat):(r.den:Int)≠0:=by have:=r.den_nz;omega
theorem FQ.add{L M:Nat}{x y:Rat}(hx:FQ L x)(hy:FQ M y):FQ (L+M+1) (x+y):=by
 have e:x+y=Rat.divInt (x.num*y.den+y.num*x.den) (x.den*y.den):=by
  conv=>lhs;rw[rI x,rI y,Rat.divInt_add_divInt _ _ (nS x) (nS y)]
 rw[e];refine rH (Int.mul_ne_zero (nS x) (nS y)) ?_ ?_
 ·exact(hx.1.mul hy.2).add (by rw[Nat.add_comm L M];exact hy.1.mul hx.2)
 exact(hx.2.mul hy.2).mono (by omega)
theorem FQ.sub{L M:Nat}{x y:Rat}(hx:FQ L x)(hy:FQ M y):FQ (L+M+1) (x-y):=by
 have e:x-y=Rat.divInt (x.num*y.den-y.num*x.den) (x.den*y.den):=by
  conv=>lhs;rw[rI x,rI y,Rat.divInt_sub_divInt _ _ (nS x) (nS y)]
 rw[e];refine rH (Int.mul_ne_zero (nS x) (nS y)) ?_ ?_
 ·exact(hx.1.mul hy.2).sub (by rw[Nat.add_comm L M];exact hy.1.mul hx.2)
 exact(hx.2.mul hy.2).mono (by omega)
theorem FQ.mul{L M:Nat}{x y:Rat}(hx:FQ L x)(hy:FQ M y):FQ (L+M) (x*y):=by
 have e:x*y=Rat.divInt (x.num*y.num) (x.den*y.den):=by
  conv=>lhs;rw[rI x,rI y,Rat.divInt_mul_divInt]
 rw[e];exact rH (Int.mul_ne_zero (nS x) (nS y)) (hx.1.mul hy.1) (hx.2.mul hy.2)
theorem FQ.neg{L:Nat}{x:Rat}(hx:FQ L x):FQ L (-x):=⟨hx.1.neg,hx.2⟩
theorem FQ.int{L:Nat}{i:Int}(h:Fit L i)(h1:1<=L):FQ L (i:Rat):=⟨h,vo h1⟩
def nT(x y:Rat):Int:=if x<y then-1 else if x=y then 0 else 1
theorem rJ(x:Rat):nT x x=0:=by unfold nT;rw[if_neg Rat.lt_irrefl,if_pos rfl]
theorem NH{x y:Rat}(h:y<x):nT x y=1:=by
 unfold nT;rw[if_neg (λh'=>by grind),if_neg (λh'=>by grind)]
theorem IG{a b c d:Int}(hb:0<b)(hd:0<d):Rat.divInt a b<Rat.divInt c d↔a*d<c*b:=by
 have hb':(0:Rat)<(b:Rat):=Rat.intCast_pos.2 hb;have hd':(0:Rat)<(d:Rat):=Rat.intCast_pos.2 hd;rw[Rat.divInt_eq_div,Rat.divInt_eq_div,Rat.div_lt_iff hb',Rat.div_def,Rat.mul_assoc,Rat.mul_comm (d:Rat)⁻¹,<-Rat.mul_assoc,<-Rat.div_def,Rat.lt_div_iff hd',<-Rat.intCast_mul,<-Rat.intCast_mul,Rat.intCast_lt_intCast]
theorem Ex{a b c d:Int}(hb:0<b)(hd:0<d):nT (Rat.divInt a b) (Rat.divInt c d)=jl (a*d) (c*b):=by
 unfold nT jl;have e1:=IG (a:=a) (c:=c) hb hd;have e2:=Rat.divInt_eq_divInt_iff (n₁:=a) (d₁:=b) (n₂:=c) (d₂:=d) (by omega) (by omega);by_cases h1:a*d<c*b
 ·rw[if_pos (e1.2 h1),if_pos h1]
 rw[if_neg (λh=>h1 (e1.1 h)),if_neg h1];by_cases h2:a*d=c*b
 ·rw[if_pos (e2.2 h2),if_pos h2]
 rw[if_neg (λh=>h2 (e2.1 h)),if_neg h2]
theorem qT{a b:Int}(hb:0<b):a.sign=nT (Rat.divInt a b) 0:=by
 have:(0:Rat)=Rat.divInt 0 1:=rfl;rw[this,Ex hb (by decide),Int.mul_one,Int.zero_mul,<-LG,Int.sub_zero]
theorem wH{a d:Int}(hd:0<d):qn (Rat.divInt a d)=⟨zn (a/(Int.gcd a d:Int)),if d/(Int.gcd a d:Int)=1 then⟨false,[]⟩else zn (d/(Int.gcd a d:Int))⟩:=by
 have h1:(Rat.divInt a d).num=a/(Int.gcd a d:Int):=by rw[Rat.num_divInt,Int.sign_eq_one_of_pos hd,Int.one_mul,Int.gcd_comm]
 have h2:((Rat.divInt a d).den:Int)=d/(Int.gcd a d:Int):=by
  rw[Rat.den_divInt,if_neg (by omega),Int.gcd_comm];have:(d.natAbs:Int)=d:=by omega
  rw[Int.natCast_ediv,this]
 unfold qn;rw[h1,h2];by_cases e:(Rat.divInt a d).den=1
 ·rw[if_pos e,if_pos (by omega)]
 rw[if_neg e,if_neg (by omega)]
theorem NI(k:Int):((bif(qR k).2 then some (decide ((qR k).1=1))else some false):Option Bool)=some (decide (k=1)):=by
 by_cases h:dc k
 ·rw[gW h];rfl
 rw[mX h];have:¬k=1:=by rintro rfl;exact h (by decide)
 rw[decide_eq_false this];rfl
theorem zZ{n d:Zr}(hn:Wl n)(hd:Wl d)(h:0<zi d):((jr n d).bind λg=>(ei n g).bind λa=>(ei d g).bind λb=>(cV b.1).bind λc=>
  (bif c.2 then some (decide (c.1=1))else some false).bind λe=>bif e then some (⟨a.1,⟨false,[]⟩⟩:Qr)else some ⟨a.1,b.1⟩)=some (qn (Rat.divInt (zi n) (zi d))):=by
 have g0:(Int.gcd (zi n) (zi d):Int)≠0:=by
  have:0<Int.gcd (zi n) (zi d):=Int.gcd_pos_of_ne_zero_right _ (by omega);omega
 have wg:Wl (zn (Int.gcd (zi n) (zi d):Int)):=lK ((Wl.fit hd).le (by
  have:=Nat.le_of_dvd (Int.natAbs_pos.2 (show zi d≠0 by omega)) (Int.gcd_dvd_natAbs_right (zi n) (zi d));simpa using this)) hd.2
 have wq:Wl (zn (zi d/(Int.gcd (zi n) (zi d):Int))):=lK ((Wl.fit hd).le (Int.natAbs_ediv_le_natAbs _ _)) hd.2;rw[Sy hn hd,bD,divMod_eq hn wg,bD,divMod_eq hd wg,bD,eD,Et,if_neg g0,Et,if_neg g0];simp only[];rw[mW wq,bD,eD,NI,bD,wH h];by_cases e:zi d/(Int.gcd (zi n) (zi d):Int)=1
 ·rw[decide_eq_true e,eL,if_pos e]
 rw[decide_eq_false e,fC,if_neg e]
theorem reduce_eq{x y:Zr}(hx:Wl x)(hy:Wl y)(h0:zi y≠0):eP x y=some (qn (Rat.divInt (zi x) (zi y))):=by
 unfold eP;simp only[cj,bD,zeta',sign_eq hy];by_cases h:zi y<0
 ·rw[show decide ((zi y).sign<0)=true by rw[Int.sign_eq_neg_one_of_neg h];rfl,eL,neg_eq hx,bD,neg_eq hy,bD];have hp:=zZ (lK (Wl.fit hx).neg hx.2) (lK (Wl.fit hy).neg hy.2) (by rw[eD];omega);rw[eD,eD,Rat.neg_divInt_neg]at hp;exact hp
 rw[show decide ((zi y).sign<0)=false by rw[Int.sign_eq_one_of_pos (by omega)];rfl,fC];exact zZ hx hy (by omega)
end
section
open Go.Fw
theorem oz(q:Qr):(⟨⟨q.num.neg,q.num.w⟩,⟨q.den.neg,q.den.w⟩⟩:Qr)=q:=by cases q;rfl
theorem oA(q:Qr):(⟨q.num,q.den⟩:Qr)=q:=by cases q;rfl
theorem parts_eq{L:Nat}{q:Qr}{r:Rat}(h:fD L q r)(hL:L<=35184372088788):∃n d:Zr,cZ q=some (n,d)/\Wl n/\Wl d/\0<zi d/\Rat.divInt (zi n) (zi d)=r/\Fit L (zi n)/\Fit L (zi d):=by
 have wn:=h.wn hL;have wd:=h.wd hL;have hv:=h.v;unfold cZ;simp only[zeta',bD,sign_eq wd,kI (x:=1) (by decide) (by decide),neg_eq wn,neg_eq wd];unfold qv qd at hv;rcases Int.lt_trichotomy (zi q.den) 0 with h1|h1|h1
 ·refine⟨_,_,?_,lK h.fn.neg hL,lK h.fd.neg hL,by rw[eD];omega,?_,by rw[eD];exact h.fn.neg,by rw[eD];exact h.fd.neg⟩
  ·rw[Int.sign_eq_neg_one_of_neg h1];rfl
  rw[eD,eD,Rat.neg_divInt_neg,<-hv,if_neg (by omega)]
 ·refine⟨_,_,?_,wn,lK (vo h.l1) hL,by rw[eD];decide,?_,h.fn,by rw[eD];exact vo h.l1⟩
  ·rw[h1];rfl
  rw[eD,<-hv,if_pos h1]
 refine⟨_,_,?_,wn,wd,h1,?_,h.fn,h.fd⟩
 ·rw[Int.sign_eq_one_of_pos h1];rfl
 rw[<-hv,if_neg (by omega)]
def Sm(a:Int):Prop:=-2147483648<a/\a<2147483648
theorem Sm.ok{a:Int}(h:Sm a):dc a:=by unfold Sm at h;unfold dc;omega
theorem mY{L:Nat}{q:Qr}{r:Rat}(h:fD L q r)(hL:L<=35184372088788):∃a b c,dG q=some (a,b,c)/\(c=true->Sm a/\0<b/\Sm b/\Rat.divInt a b=r):=by
 have wn:=h.wn hL;have wd:=h.wd hL;have hv:=h.v;unfold dG;simp only[zeta',bD,cj,mW wn,mW wd];unfold qv qd at hv;generalize zi q.num=n at*;generalize zi q.den=d at*;by_cases hs:Sm n/\Sm d
 ·obtain⟨h1,h2⟩:=hs;rw[gW h1.ok,gW h2.ok];unfold Sm at h1 h2;simp only[];rw[decide_eq_false (show ¬n<=-2147483648 by omega),decide_eq_false (show ¬2147483648<=n by omega),decide_eq_false (show ¬d<=-2147483648 by omega),decide_eq_false (show ¬2147483648<=d by omega)];simp only[Bool.not_true,fC,bD];by_cases h0:d=0
  ·rw[decide_eq_true h0,eL];refine⟨_,_,_,Y,λ_=>⟨h1,by decide,⟨by decide,by decide⟩,?_⟩⟩;rw[<-hv,if_pos h0]
  rw[decide_eq_false h0,fC];rw[if_neg h0]at hv;by_cases hneg:d<0
  ·rw[decide_eq_true hneg,eL,ct (by omega) (by omega),ct (by omega) (by omega)];refine⟨_,_,_,Y,λ_=>⟨⟨by omega,by omega⟩,by omega,⟨by omega,by omega⟩,?_⟩⟩;rw[Int.zero_sub,Int.zero_sub,Rat.neg_divInt_neg,hv]
  rw[decide_eq_false hneg,fC];exact⟨_,_,_,Y,λ_=>⟨h1,by omega,h2,hv⟩⟩
 refine⟨0,0,false,?_,λe=>by cases e⟩;by_cases o1:dc n
 ·by_cases o2:dc d
  ·rw[gW o1,gW o2];simp only[Bool.not_true,fC,bD];unfold Sm at hs;by_cases c1:n<=-2147483648
   ·rw[decide_eq_true c1];simp only[bD,eL]
   rw[decide_eq_false c1];simp only[bD,fC];by_cases c2:2147483648<=n
   ·rw[decide_eq_true c2];simp only[bD,eL]
   rw[decide_eq_false c2];simp only[bD,fC];by_cases c3:d<=-2147483648
   ·rw[decide_eq_true c3];simp only[bD,eL]
   rw[decide_eq_false c3];simp only[bD,fC];rw[decide_eq_true (show 2147483648<=d by omega)];simp only[eL]
  rw[gW o1,mX o2];simp only[Bool.not_true,Bool.not_false,fC,bD,eL]
 rw[mX o1];simp only[Bool.not_false,bD,eL]
theorem Ey{a g:Int}(hg:0<g)(h:g∣a):Int.tdiv a g=a/g:=by
 obtain⟨k,rfl⟩:=h;rw[Int.mul_tdiv_cancel_left _ (by omega),Int.mul_ediv_cancel_left _ (by omega)]
theorem vp{n d:Int}(hd:0<d)(hd':d<=9223372036854775807)(hn: -9223372036854775807<=n)(hn':n<=9223372036854775807):fI n d=some (qn (Rat.divInt n d)):=by
 unfold fI;simp only[bD,cj];refine gu (λs=>Int.gcd s.1 s.2=Int.gcd n d/\s.1.natAbs<=9223372036854775807/\s.2.natAbs<=9223372036854775807) (λe=>e.natAbs=Int.gcd n d/\e.natAbs<=9223372036854775807) (λs=>s.2.natAbs) ?_ ⟨Y,by simp only[];omega,by simp only[];omega⟩ ?_
 ·rintro⟨a,b⟩ ⟨i1,i2,i3⟩;simp only at i1 i2 i3⊢;by_cases hb:b=0
  ·right;subst hb;refine⟨a,by simp,?_,i2⟩;rw[<-i1];simp[Int.gcd]
  left;rw[decide_eq_true hb,eL,Aj,if_neg hb,bD];have hm:(Int.tmod a b).natAbs=a.natAbs%b.natAbs:=Int.natAbs_tmod a b;have hlt:=Nat.mod_lt a.natAbs (Int.natAbs_pos.2 hb);refine⟨_,Y,⟨?_,i3,by simp only[];omega⟩,by simp only[];omega⟩;simp only[];rw[<-i1,Int.gcd,Int.gcd,hm,Nat.gcd_comm b.natAbs,<-Nat.gcd_rec,Nat.gcd_comm]
 rintro e ⟨he,hle⟩;obtain⟨g,hg⟩:∃g:Int,(Int.gcd n d:Int)=g:=⟨_,Y⟩;have Wq:0<g:=by have:=Int.gcd_pos_of_ne_zero_right n (show d≠0 by omega);omega
 have hgn:g∣n:=hg▸Int.gcd_dvd_left ..;have hgd:g∣d:=hg▸Int.gcd_dvd_right ..;have hK:∀m:Int,m=g->(bif decide (m=d)then(pK n m).bind λic=>(bW ic).bind λx=>some (⟨⟨x.neg,x.w⟩,⟨false,[]⟩⟩:Qr)else(pK n m).bind λij=>(bW ij).bind λx=>(pK d m).bind λmu=>(bW mu).bind λy=>some ⟨⟨x.neg,x.w⟩,⟨y.neg,y.w⟩⟩)=some (qn (Rat.divInt n d)):=by
  rintro m rfl;have b1:(n/m).natAbs<=n.natAbs:=Int.natAbs_ediv_le_natAbs _ _;have b2:(d/m).natAbs<=d.natAbs:=Int.natAbs_ediv_le_natAbs _ _;have q1:pK n m=some (n/m):=by
   rw[pK,if_neg (by omega),Ey Wq hgn,ct (by omega) (by omega)]
  have q2:pK d m=some (d/m):=by
   rw[pK,if_neg (by omega),Ey Wq hgd,ct (by omega) (by omega)]
  rw[wH hd,hg,q1,q2];simp only[bD,kI (x:=n/m) (by omega) (by omega),kI (x:=d/m) (by omega) (by omega),zeta'];by_cases e1:m=d
  ·rw[decide_eq_true e1,eL,if_pos (by rw[e1];exact Int.ediv_self (by omega))]
  rw[decide_eq_false e1,fC,if_neg];intro e2;have:=Int.ediv_mul_cancel hgd;rw[e2]at this;omega
 by_cases hneg:e<0
 ·rw[decide_eq_true hneg,eL,ct (by omega) (by omega)];exact hK _ (by omega)
 rw[decide_eq_false hneg,fC];exact hK _ (by omega)
theorem jA{a b:Int}(ha:Sm a)(hb:Sm b): -4611686018427387904<a*b/\a*b<4611686018427387904:=by
 unfold Sm at ha hb;have h1:(a*b).natAbs=a.natAbs*b.natAbs:=Int.natAbs_mul a b;have h2:a.natAbs*b.natAbs<=2147483647*2147483647:=Nat.mul_le_mul (by omega) (by omega);omega
theorem rK{a b:Int}(ha:0<a)(hb:0<b):0<a*b:=Int.mul_pos ha hb
section ops
variable {L M:Nat}{a b:Qr}{x y:Rat}
theorem fD.add(ha:fD L a x)(hb:fD M b y)(h:L+M<=35184372088768):jh a b=some (qn (x+y))/\fD (L+M+1) (qn (x+y)) (x+y):=by
 refine⟨?_,(ha.fq.add hb.fq).rep (by omega)⟩;obtain⟨n1,d1,c1,e1,k1⟩:=mY ha (by omega);obtain⟨n2,d2,c2,e2,k2⟩:=mY hb (by omega);obtain⟨p1,q1,f1,w1,w2,g1,v1,t1,t2⟩:=parts_eq ha (by omega);obtain⟨p2,q2,f2,w3,w4,g2,v2,t3,t4⟩:=parts_eq hb (by omega);have Ez:iv a b=some (qn (x+y)):=by
  unfold iv fW;have u1:=lK (t1.mul t4) (by omega);have u2:=lK (t3.mul t2) (by omega);have u3:=lK (t2.mul t4) (by omega);have u4:=lK ((t1.mul t4).add ((t3.mul t2).mono (by omega))) (by omega);simp only[zeta',oz,oA,f1,f2,bD,mul_eq w1 w4,mul_eq w3 w2,add_eq u1 u2,mul_eq w2 w4,eD];rw[reduce_eq u4 u3 (by rw[eD];have:=rK g1 g2;omega),bD,eD,eD,<-v1,<-v2,Rat.divInt_add_divInt _ _ (by omega) (by omega)]
 unfold jh;simp only[zeta',oz,oA,e1,e2,bD,cj,Ez];cases c1
 ·rw[fC,bD,fC]
 cases c2
 ·rw[eL,bD,fC]
 obtain⟨s1,s2,s3,s4⟩:=k1 Y;obtain⟨s5,s6,s7,s8⟩:=k2 Y;have m1:=jA s1 s7;have m2:=jA s5 s3;have m3:=jA s3 s7;have m4:=rK s2 s6;rw[eL,bD,eL,ct (x:=n1*d2) (by omega) (by omega),ct (x:=n2*d1) (by omega) (by omega),ct (x:=d1*d2) (by omega) (by omega),ct (by omega) (by omega),vp m4 (by omega) (by omega) (by omega),bD,<-s4,<-s8,Rat.divInt_add_divInt _ _ (by omega) (by omega)]
theorem fD.sub(ha:fD L a x)(hb:fD M b y)(h:L+M<=35184372088768):mI a b=some (qn (x-y))/\fD (L+M+1) (qn (x-y)) (x-y):=by
 refine⟨?_,(ha.fq.sub hb.fq).rep (by omega)⟩;obtain⟨n1,d1,c1,e1,k1⟩:=mY ha (by omega);obtain⟨n2,d2,c2,e2,k2⟩:=mY hb (by omega);obtain⟨p1,q1,f1,w1,w2,g1,v1,t1,t2⟩:=parts_eq ha (by omega);obtain⟨p2,q2,f2,w3,w4,g2,v2,t3,t4⟩:=parts_eq hb (by omega);have Ez:iw a b=some (qn (x-y)):=by
  unfold iw fX;have u1:=lK (t1.mul t4) (by omega);have u2:=lK (t3.mul t2) (by omega);have u3:=lK (t2.mul t4) (by omega);have u4:=lK ((t1.mul t4).sub ((t3.mul t2).mono (by omega))) (by omega);simp only[zeta',oz,oA,f1,f2,bD,mul_eq w1 w4,mul_eq w3 w2,sub_eq u1 u2,mul_eq w2 w4,eD];rw[reduce_eq u4 u3 (by rw[eD];have:=rK g1 g2;omega),bD,eD,eD,<-v1,<-v2,Rat.divInt_sub_divInt _ _ (by omega) (by omega)]
 unfold mI;simp only[zeta',oz,oA,e1,e2,bD,cj,Ez];cases c1
 ·rw[fC,bD,fC]
 cases c2
 ·rw[eL,bD,fC]
 obtain⟨s1,s2,s3,s4⟩:=k1 Y;obtain⟨s5,s6,s7,s8⟩:=k2 Y;have m1:=jA s1 s7;have m2:=jA s5 s3;have m3:=jA s3 s7;have m4:=rK s2 s6;rw[eL,bD,eL,ct (x:=n1*d2) (by omega) (by omega),ct (x:=n2*d1) (by omega) (by omega),ct (x:=d1*d2) (by omega) (by omega),ct (by omega) (by omega),vp m4 (by omega) (by omega) (by omega),bD,<-s4,<-s8,Rat.divInt_sub_divInt _ _ (by omega) (by omega)]
theorem fD.mul(ha:fD L a x)(hb:fD M b y)(h:L+M<=35184372088768):kE a b=some (qn (x*y))/\fD (L+M) (qn (x*y)) (x*y):=by
 have l1:=ha.l1;refine⟨?_,(ha.fq.mul hb.fq).rep (by omega)⟩;obtain⟨n1,d1,c1,e1,k1⟩:=mY ha (by omega);obtain⟨n2,d2,c2,e2,k2⟩:=mY hb (by omega);obtain⟨p1,q1,f1,w1,w2,g1,v1,t1,t2⟩:=parts_eq ha (by omega);obtain⟨p2,q2,f2,w3,w4,g2,v2,t3,t4⟩:=parts_eq hb (by omega);have Ez:iy a b=some (qn (x*y)):=by
  unfold iy fY;have u1:=lK (t1.mul t3) (by omega);have u3:=lK (t2.mul t4) (by omega);simp only[zeta',oz,oA,f1,f2,bD,mul_eq w1 w3,mul_eq w2 w4];rw[reduce_eq u1 u3 (by rw[eD];have:=rK g1 g2;omega),bD,eD,eD,<-v1,<-v2,Rat.divInt_mul_divInt]
 unfold kE;simp only[zeta',oz,oA,e1,e2,bD,cj,Ez];cases c1
 ·rw[fC,bD,fC]
 cases c2
 ·rw[eL,bD,fC]
 obtain⟨s1,s2,s3,s4⟩:=k1 Y;obtain⟨s5,s6,s7,s8⟩:=k2 Y;have m1:=jA s1 s5;have m3:=jA s3 s7;have m4:=rK s2 s6;rw[eL,bD,eL,ct (by omega) (by omega),ct (x:=d1*d2) (by omega) (by omega),vp m4 (by omega) (by omega) (by omega),bD,<-s4,<-s8,Rat.divInt_mul_divInt]
theorem fD.sign(ha:fD L a x)(h:L<=35184372088788):gz a=some (nT x 0):=by
 unfold gz;have wn:=ha.wn h;have wd:=ha.wd h;have hv:=ha.v;simp only[zeta',bD,sign_eq wn,sign_eq wd];unfold qv qd at hv;rcases Int.lt_trichotomy (zi a.den) 0 with h1|h1|h1
 ·rw[Int.sign_eq_neg_one_of_neg h1];rw[if_neg (by omega),<-Rat.neg_divInt_neg]at hv;rw[<-hv,<-qT (by omega),Int.sign_neg];show some (IntKind.i64.wrap (0-(zi a.num).sign))=_;have:(zi a.num).sign=-1\/(zi a.num).sign=0\/(zi a.num).sign=1:=by
   rcases Int.lt_trichotomy (zi a.num) 0 with e|e|e
   ·left;exact Int.sign_eq_neg_one_of_neg e
   ·right;left;rw[e];rfl
   right;right;exact Int.sign_eq_one_of_pos e
  rw[ct (by omega) (by omega),Int.zero_sub]
 ·rw[if_pos h1]at hv;rw[<-hv,<-qT (by omega),h1];rfl
 rw[if_neg (by omega)]at hv;rw[Int.sign_eq_one_of_pos h1,<-hv,<-qT h1];rfl
theorem rL{x:Rat}:nT x 0=0↔x=0:=by
 unfold nT;by_cases h:x<0
 ·rw[if_pos h];refine⟨λe=>absurd e (by decide),λe=>?_⟩;rw[e]at h;exact absurd h Rat.lt_irrefl
 rw[if_neg h];by_cases h2:x=0
 ·rw[if_pos h2];simp[h2]
 rw[if_neg h2];simp[h2]
theorem fD.canon(ha:fD L a x)(h:L<=35184372088788):cn a=some (qn x)/\fD L (qn x) x:=by
 refine⟨?_,ha.fq.rep ha.l1⟩;obtain⟨n1,d1,c1,e1,k1⟩:=mY ha (by omega);obtain⟨p1,q1,f1,w1,w2,g1,v1,t1,t2⟩:=parts_eq ha (by omega);unfold cn;simp only[zeta',oz,oA,e1,bD,f1];cases c1
 ·rw[fC,reduce_eq w1 w2 (by omega),bD,v1]
 obtain⟨s1,s2,s3,s4⟩:=k1 Y;unfold Sm at s1 s3;rw[eL,vp s2 (by omega) (by omega) (by omega),bD,s4]
end ops
end
section
open Go.Fw
def ke(x:Rat):Rat:=if x<0 then-x else x
def AM(x y:Rat):Rat:=if x<y then y else x
theorem Bj{p q u v:Int}(hq:0<q)(hv:0<v)(h:p.sign≠u.sign\/p.sign=0):nD (IntKind.i64.wrap (p.sign-u.sign))=some (jl (p*v) (u*q)):=by
 have pv:0<p->0<p*v:=λh=>Int.mul_pos h hv;have pv':p<0->p*v<0:=λh=>Int.mul_neg_of_neg_of_pos h hv;have uq:0<u->0<u*q:=λh=>Int.mul_pos h hq;have uq':u<0->u*q<0:=λh=>Int.mul_neg_of_neg_of_pos h hq;rcases Int.lt_trichotomy p 0 with e1|e1|e1<;>rcases Int.lt_trichotomy u 0 with e2|e2|e2
 ·rw[Int.sign_eq_neg_one_of_neg e1,Int.sign_eq_neg_one_of_neg e2]at h;simp at h
 ·have:=pv' e1;rw[Int.sign_eq_neg_one_of_neg e1,e2,Int.zero_mul,ga this];rfl
 ·have:=pv' e1;have:=uq e2;rw[Int.sign_eq_neg_one_of_neg e1,Int.sign_eq_one_of_pos e2,ga (by omega)];rfl
 ·have:=uq' e2;rw[Int.sign_eq_neg_one_of_neg e2,e1,Int.zero_mul,gb this];rfl
 ·rw[e1,e2,Int.zero_mul,Int.zero_mul];rfl
 ·have:=uq e2;rw[Int.sign_eq_one_of_pos e2,e1,Int.zero_mul,ga this];rfl
 ·have:=pv e1;have:=uq' e2;rw[Int.sign_eq_one_of_pos e1,Int.sign_eq_neg_one_of_neg e2,gb (by omega)];rfl
 ·have:=pv e1;rw[Int.sign_eq_one_of_pos e1,e2,Int.zero_mul,gb this];rfl
 rw[Int.sign_eq_one_of_pos e1,Int.sign_eq_one_of_pos e2]at h;simp at h
theorem LH{x y:Rat}:nT x y=0↔x=y:=by
 unfold nT;by_cases h:x<y
 ·rw[if_pos h];refine⟨λe=>absurd e (by decide),λe=>?_⟩;rw[e]at h;exact absurd h Rat.lt_irrefl
 rw[if_neg h];by_cases h2:x=y
 ·rw[if_pos h2];simp[h2]
 rw[if_neg h2];simp[h2]
theorem EA{x y:Rat}:nT x y<0↔x<y:=by
 unfold nT;by_cases h:x<y
 ·rw[if_pos h];simp[h]
 rw[if_neg h];by_cases h2:x=y
 ·rw[if_pos h2];simp[h2,Rat.lt_irrefl]
 rw[if_neg h2];simp[h]
theorem vr{x y:Rat}:0<nT x y↔y<x:=by
 unfold nT;by_cases h:x<y
 ·rw[if_pos h];have:¬y<x:=by grind
  simp[this]
 rw[if_neg h];by_cases h2:x=y
 ·rw[if_pos h2];simp[h2,Rat.lt_irrefl]
 rw[if_neg h2];have:y<x:=by grind
 simp[this]
theorem LI(i:Int):qn (i:Rat)=⟨zn i,⟨false,[]⟩⟩:=by
 unfold qn;rw[Rat.den_intCast,if_pos Y,Rat.num_intCast]
section ops
variable {L M:Nat}{a b:Qr}{x y:Rat}
theorem fD.neg(ha:fD L a x)(h:L<=35184372088788):ji a=some (qn (-x))/\fD L (qn (-x)) (-x):=by
 refine⟨?_,ha.fq.neg.rep ha.l1⟩;unfold ji;have r:=(ha.canon h).2;simp only[zeta',oz,oA,(ha.canon h).1,bD,neg_eq (r.wn h)];show some (⟨zn (-zi (zn x.num)),_⟩:Qr)=some (qn (-x));rw[eD];rfl
theorem fD.abs(ha:fD L a x)(h:L<=35184372088788):mJ a=some (qn (ke x))/\fD L (qn (ke x)) (ke x):=by
 have hf:FQ L (ke x):=by
  unfold ke;split
  ·exact ha.fq.neg
  exact ha.fq
 refine⟨?_,hf.rep ha.l1⟩;unfold mJ;have r:=(ha.canon h).2;simp only[zeta',oz,oA,(ha.canon h).1,bD,abs_eq (r.wn h)];show some (⟨zn ((zi (zn x.num)).natAbs:Int),_⟩:Qr)=some (qn (ke x));rw[eD];unfold ke;have hx:x<0↔x.num<0:=by
  rw[<-Rat.not_le,<-Rat.num_nonneg,Int.not_le]
 by_cases e:x<0
 ·rw[if_pos e,show((x.num.natAbs:Nat):Int)=-x.num by have:=hx.1 e;omega];rfl
 rw[if_neg e,show((x.num.natAbs:Nat):Int)=x.num by have:¬x.num<0:=λq=>e (hx.2 q);omega];rfl
theorem fD.SA(ha:fD L a x)(hb:fD M b y)(hL:L<=35184372088788)(hM:M<=35184372088788):iz a b=some (nT x y):=by
 obtain⟨p1,q1,f1,w1,w2,g1,v1,t1,t2⟩:=parts_eq ha (by omega);obtain⟨p2,q2,f2,w3,w4,g2,v2,t3,t4⟩:=parts_eq hb (by omega);unfold iz;have u1:=Qf (t1.mul t4) (by omega);have u2:=Qf (t3.mul t2) (by omega);simp only[zeta',oz,oA,f1,f2,bD,cj,sign_eq w1,sign_eq w3,mul_eq w1 w4,mul_eq w3 w2,Vy u1 u2,eD];rw[<-v1,<-v2,Ex g1 g2];by_cases e1:(zi p1).sign=(zi p2).sign
 ·rw[show decide ((zi p1).sign≠(zi p2).sign)=false by simp[e1],fC,bD];by_cases e2:(zi p1).sign=0
  ·rw[decide_eq_true e2,eL,Bj g1 g2 (.inr e2),bD]
  rw[decide_eq_false e2,fC]
 rw[show decide ((zi p1).sign≠(zi p2).sign)=true by simp[e1],eL,bD,eL,Bj g1 g2 (.inl e1),bD]
theorem fD.cmp(ha:fD L a x)(hb:fD M b y)(h:L+M<=35184372088768):iz a b=some (nT x y):=ha.SA hb (by omega) (by omega)
theorem fD.max(ha:fD L a x)(hb:fD M b y)(h:L+M<=35184372088768):kF a b=some (qn (AM x y))/\fD (L+M) (qn (AM x y)) (AM x y):=by
 have l1:=ha.l1;have hf:FQ (L+M) (AM x y):=by
  unfold AM;split
  ·exact hb.fq.mono (by omega)
  exact ha.fq.mono (by omega)
 refine⟨?_,hf.rep (by omega)⟩;unfold kF AM;simp only[zeta',oz,oA,hb.cmp ha (by omega),bD,(ha.canon (by omega)).1,(hb.canon (by omega)).1];by_cases e:x<y
 ·rw[decide_eq_true (vr.2 e),eL,if_pos e]
 rw[decide_eq_false (λq=>e (vr.1 q)),fC,if_neg e]
theorem mg{n:Int}(hn:dc n):dQ n=some (qn (n:Rat))/\fD 2 (qn (n:Rat)) (n:Rat):=by
 refine⟨?_,(FQ.int (mz hn) (by decide)).rep (by decide)⟩;unfold dQ;simp only[zeta',bD,kI hn.1 hn.2];rw[LI]
theorem EB{n d:Int}(h0:d≠0)(hn:Fit L n)(hd:Fit L d)(h:1<=L):fD L ⟨zn n,zn d⟩ (Rat.divInt n d):=by
 refine⟨λx hx=>eu (by decide) hx,λx hx=>eu (by decide) hx,(bN (by decide)).2 hn,(bN (by decide)).2 hd,h,?_⟩;unfold qv qd;simp only[eD];rw[if_neg h0]
end ops
end
section
open Go.Fw
def vq(n:Nat)(h:Nat->Rat):List Qr:=(List.range n).map λi=>qn (h i)
structure c6 (L:Nat) (v:List Qr) (f:Nat->Rat):Prop where
 e:∀i (h:i<v.length),fD L v[i] (f i)
 z:∀i,v.length<=i->f i=0
 l1:1<=L
theorem cM(n:Nat)(h:Nat->Rat):(vq n h).length=n:=by simp[vq]
theorem CS{n i:Nat}{h:Nat->Rat}(hi:i<n):(vq n h)[i]? =some (qn (h i)):=by simp[vq,hi]
theorem NJ{n i:Nat}{h:Nat->Rat}(hi:i<(vq n h).length):(vq n h)[i]=qn (h i):=by simp[vq]
theorem vu(n:Nat)(h:Nat->Rat):vq (n+1) h=vq n h++[qn (h n)]:=by simp[vq,List.range_succ]
theorem qV{n:Nat}{h k:Nat->Rat}(e:∀i,i<n->h i=k i):vq n h=vq n k:=by
 unfold vq;apply List.map_congr_left;intro i hi;rw[e i (List.mem_range.1 hi)]
theorem qW{L n:Nat}{h:Nat->Rat}(hf:∀i,i<n->FQ L (h i))(hz:∀i,n<=i->h i=0)(h1:1<=L):c6 L (vq n h) h:=by
 refine⟨λi hi=>?_,λi hi=>hz i (by rwa[cM]at hi),h1⟩;rw[NJ hi];exact(hf i (by rwa[cM]at hi)).rep h1
def qz:Qr:=⟨⟨false,[]⟩,⟨false,[]⟩⟩
theorem NK:qn 0=qz:=rfl
theorem vv{L:Nat}(h:1<=L):fD L qz 0:=⟨by simp[qz],by simp[qz],by simp[qz],by simp[qz],h,by decide⟩
theorem Hu{L:Nat}(h:1<=L):FQ L 0:=(vv h).fq
def NL(v:List Qr)(i:Nat):Qr:=v.getD i qz
theorem c6.at{L:Nat}{v:List Qr}{f:Nat->Rat}(h:c6 L v f)(i:Nat):fD L (NL v i) (f i):=by
 unfold NL;by_cases hi:i<v.length
 ·rw[List.getD_eq_getElem?_getD,List.getElem?_eq_getElem hi];exact h.e i hi
 rw[List.getD_eq_getElem?_getD,List.getElem?_eq_none (by omega),h.z i (by omega)];exact vv h.l1
theorem c6.fq{L:Nat}{v:List Qr}{f:Nat->Rat}(h:c6 L v f)(i:Nat):FQ L (f i):=(h.at i).fq
theorem c6.nil{L:Nat}(h:1<=L):c6 L [] (λ_=>0):=⟨λi hi=>by simp at hi,λ_ _=>Y,h⟩
theorem c6.get{L:Nat}{v:List Qr}{f:Nat->Rat}(h:c6 L v f){i:Nat}(hi:i<v.length):∃q,v[i]? =some q/\fD L q (f i):=⟨v[i],by simp,h.e i hi⟩
theorem c6.congr{L:Nat}{v:List Qr}{f g:Nat->Rat}(h:c6 L v f)(e:∀i,f i=g i):c6 L v g:=by
 have:f=g:=funext e;rw[<-this];exact h
def tY(v:List Qr)(i:Nat):Rat:=qv (NL v i)
theorem CT{L:Nat}{v:List Qr}(h:∀q∈v,fD L q (qv q))(h1:1<=L):c6 L v (tY v):=by
 refine⟨λi hi=>?_,λi hi=>?_,h1⟩
 ·have e:NL v i=v[i]:=by unfold NL;rw[List.getD_eq_getElem?_getD,List.getElem?_eq_getElem hi];rfl
  unfold tY;rw[e];exact h _ (List.getElem_mem hi)
 unfold tY NL;rw[List.getD_eq_getElem?_getD,List.getElem?_eq_none hi];decide
def bQ(h:Nat->Rat):Nat->Rat
 |0=>0
 |n+1=>bQ h n+h n
theorem fQ{h k:Nat->Rat}:∀{n:Nat},(∀i,i<n->h i=k i)->bQ h n=bQ k n
 |0,_=>rfl
 |n+1,e=>by rw[bQ,bQ,fQ (λi hi=>e i (by omega)),e n (by omega)]
theorem EC(h k:Nat->Rat):∀n,bQ (λi=>h i+k i) n=bQ h n+bQ k n
 |0=>by simp only[bQ];grind
 |n+1=>by rw[bQ,bQ,bQ,EC h k n];grind
theorem ED(h k:Nat->Rat):∀n,bQ (λi=>h i-k i) n=bQ h n-bQ k n
 |0=>by simp only[bQ];grind
 |n+1=>by rw[bQ,bQ,bQ,ED h k n];grind
theorem vw(c:Rat)(h:Nat->Rat):∀n,bQ (λi=>c*h i) n=c*bQ h n
 |0=>by simp[bQ]
 |n+1=>by rw[bQ,bQ,vw c h n];grind
theorem rM:∀n,bQ (λ_=>0) n=0
 |0=>rfl
 |n+1=>by rw[bQ,rM n];grind
theorem EE{h:Nat->Rat}{n m:Nat}(hnm:n<=m)(hz:∀i,n<=i->i<m->h i=0):bQ h m=bQ h n:=by
 induction m with
 |zero=>rw[show n=0 by omega]
 |succ m ih=>
  rcases Nat.lt_or_ge m n with q|q
  ·rw[show n=m+1 by omega]
  rw[bQ,ih q (λi h1 h2=>hz i h1 (by omega)),hz m q (by omega)];grind
theorem xZ{L:Nat}{h:Nat->Rat}:∀{n:Nat},(∀i,i<n->FQ L (h i))->FQ (n*(L+1)+1) (bQ h n)
 |0,_=>Hu (by omega)
 |n+1,e=>by
  rw[bQ];exact((xZ (λi hi=>e i (by omega))).add (e n (by omega))).mono (by rw[Nat.add_mul];omega)
theorem xn{h:Nat->Rat}:∀{n:Nat},(∀i,i<n->0<=h i)->0<=bQ h n
 |0,_=>Rat.le_refl
 |n+1,e=>by
  rw[bQ];have h1:=xn (λi (hi:i<n)=>e i (by omega));have h2:=e n (by omega);grind
end
section
open Go.Fw
theorem CU{α β:Type}(a:List α)(b:List β):min (a.length:Int) (b.length:Int)=((min a.length b.length:Nat):Int):=by omega
theorem c6.gd{L:Nat}{v:List Qr}{f:Nat->Rat}(h:c6 L v f)(k:Nat):fD L (v.getD k (⟨⟨false,[]⟩,⟨false,[]⟩⟩:Qr)) (f k):=h.at k
theorem Gq{n k:Nat}{h:Nat->Rat}(hk:k<n):(vq k h++List.replicate (n-k) qz).set k (qn (h k))=vq (k+1) h++List.replicate (n-(k+1)) qz:=by
 rw[show n-k=(n-(k+1))+1 by omega,List.replicate_succ,List.set_append_right _ _ (by rw[cM];exact Nat.le_refl _),cM,Nat.sub_self,vu,List.append_assoc];rfl
theorem SB{n c:Nat}{h:Nat->Rat}(hc:c<=n)(hz:∀i,c<=i->i<n->h i=0):vq c h++List.replicate (n-c) qz=vq n h:=by
 induction n with
 |zero=>rw[show c=0 by omega];rfl
 |succ n ih=>
  rcases Nat.lt_or_ge n c with q|q
  ·rw[show c=n+1 by omega,Nat.sub_self];simp
  rw[show n+1-c=(n-c)+1 by omega,List.replicate_succ',<-List.append_assoc,ih q (λi h1 h2=>hz i h1 (by omega)),vu,hz n q (by omega),NK]
theorem rN{n k:Nat}{h:Nat->Rat}(hk:k<=n):(vq k h++List.replicate (n-k) qz).length=n:=by rw[List.length_append,cM,List.length_replicate];omega
section ops
variable {K L M:Nat}{c:Qr}{a b:List Qr}{k:Rat}{f g:Nat->Rat}
theorem SC(hc:fD K c k)(ha:c6 L a f)(h:K+L<=35184372088768)(la:a.length<=1000000):lf c a=some (vq a.length λi=>k*f i)/\c6 (K+L) (vq a.length λi=>k*f i) (λi=>k*f i):=by
 have SN:=ha.l1;refine⟨?_,qW (λi _=>hc.fq.mul (ha.fq i)) (λi hi=>?_) (by omega)⟩
 ·unfold lf;obtain⟨⟨_,_⟩,⟨_,_⟩⟩:=c;refine aA Y<|aA (o5 (by omega) (by omega))<|aA Y ?_;refine bF (λj=>((j:Int),vq j (λi=>k*f i)++List.replicate (a.length-j) qz)) a.length (vq a.length λi=>k*f i) Y (λj hj=>?_) ?_ Y
  ·obtain⟨q,hq,rq⟩:=ha.get hj;have e3:=(hc.mul rq h).1;obtain⟨q3,h3⟩:∃q,qn (k*f j)=q:=⟨_,Y⟩;have h4:=Gq (h:=λi=>k*f i) hj;rw[h3]at e3 h4;obtain⟨⟨_,_⟩,⟨_,_⟩⟩:=q;obtain⟨⟨_,_⟩,⟨_,_⟩⟩:=q3;refine aA Y<|cg (decide_eq_true (by omega))<|aA (bM hq)<|aA e3<|aA (dZ (by rw[rN (by omega)];exact hj))<|aA (gR (by rw[rN (by omega)];exact hj))<|aA Y ?_;rw[b8 (by omega),h4]
  refine aA Y<|b9 (decide_eq_false (by omega)) ?_;simp
 rw[ha.z i hi];grind
end ops
end
section
open Go.Fw
def qX(f g:Nat->Rat):Nat->Int
 |0=>0
 |n+1=>if qX f g n≠0 then qX f g n else nT (f n) (g n)
theorem z4{f g:Nat->Rat}:∀{n:Nat},qX f g n=0↔∀i,i<n->f i=g i
 |0=>by simp[qX]
 |n+1=>by
  rw[qX];by_cases h:qX f g n=0
  ·rw[if_neg (by simpa using h),LH];have:=z4.1 h;refine⟨λe i hi=>?_,λe=>e n (by omega)⟩;rcases Nat.lt_or_ge i n with q|q
   ·exact this i q
   obtain rfl:i=n:=by omega
   exact e
  rw[if_pos h];refine⟨λe=>absurd e h,λe=>absurd (z4.2 (λi hi=>e i (by omega))) h⟩
section ops
variable {K L M:Nat}{c:Qr}{a b:List Qr}{k:Rat}{f g:Nat->Rat}
theorem VE{x y z:Rat}{p q r:Qr}(hp:fD K p x)(hq:fD L q y)(hr:fD M r z)(hz:r=qn z)(h:K+L+M<=35184372088768):fJ p q r=some (qn (z+x*y)):=by
 have e1:=hp.mul hq (by omega);have e2:=(hr.add e1.2 (by omega)).1;have s1:=hp.sign (by omega);have s2:=hq.sign (by omega);replace e1:=e1.1;obtain⟨⟨_,_⟩,⟨_,_⟩⟩:=p;obtain⟨⟨_,_⟩,⟨_,_⟩⟩:=q;obtain⟨⟨_,_⟩,⟨_,_⟩⟩:=r;generalize qn (x*y)=w at e1 e2;obtain⟨⟨_,_⟩,⟨_,_⟩⟩:=w;unfold fJ;refine aA s1<|aA Y ?_;by_cases h1:x=0
 ·refine aA (b9 (decide_eq_false (by rw[h1,rJ];simp)) Y) ?_;rw[show z+x*y=z by rw[h1];grind,<-hz];rfl
 by_cases h2:y=0
 ·refine aA (cg (decide_eq_true (λe=>h1 (rL.1 e))) (aA s2 (aA Y Y))) ?_;refine b9 (decide_eq_false (by rw[h2,rJ];simp)) ?_;rw[show z+x*y=z by rw[h2];grind,<-hz]
 refine aA (cg (decide_eq_true (λe=>h1 (rL.1 e))) (aA s2 (aA Y Y))) ?_;refine cg (decide_eq_true (λe=>h2 (rL.1 e))) ?_;obtain⟨w3,h3⟩:∃w,qn (z+x*y)=w:=⟨_,Y⟩;rw[h3]at e2⊢;obtain⟨⟨_,_⟩,⟨_,_⟩⟩:=w3;exact aA e1<|aA e2 Y
theorem yc{n i:Nat}(hi:i<n):(a.take n).getD i (⟨⟨false,[]⟩,⟨false,[]⟩⟩:Qr)=a.getD i (⟨⟨false,[]⟩,⟨false,[]⟩⟩:Qr):=by
 simp[List.getD,List.getElem?_take,hi]
theorem z9(q:Qr):(⟨⟨(q.num.neg,q.num.w,q.den.neg,q.den.w).1,(q.num.neg,q.num.w,q.den.neg,q.den.w).2.1⟩,⟨(q.num.neg,q.num.w,q.den.neg,q.den.w).2.2.1,(q.num.neg,q.num.w,q.den.neg,q.den.w).2.2.2⟩⟩:Qr)=q:=by cases q;rfl
theorem NM(ha:c6 L a f)(hb:c6 M b g)(h:(min a.length b.length+2)*(L+M+1)<=35184372088768):dR a b=some (qn (bQ (λi=>f i*g i) (min a.length b.length)))/\fD (min a.length b.length*(L+M+1)+1) (qn (bQ (λi=>f i*g i) (min a.length b.length))) (bQ (λi=>f i*g i) (min a.length b.length)):=by
 have hs:∀n,FQ (n*(L+M+1)+1) (bQ (λi=>f i*g i) n):=λn=>xZ (λi _=>(ha.fq i).mul (hb.fq i));refine⟨?_,(hs _).rep (by omega)⟩;unfold dR;have hm:∀n:Nat,n<=min a.length b.length->n*(L+M+1)<=min a.length b.length*(L+M+1):=λn hn=>Nat.mul_le_mul_right _ hn;rw[Nat.add_mul]at h;refine aA Y<|aA Y<|aA (congrArg some (CU a b))<|aA (jz (by omega))<|aA (jz (by omega)) ?_;rw[show max (a.take (min a.length b.length)).length (b.take (min a.length b.length)).length=min a.length b.length by simp only[List.length_take];omega];refine mQ (λj=>((qn (bQ (λi=>f i*g i) j)).num.neg,(qn (bQ (λi=>f i*g i) j)).num.w,(qn (bQ (λi=>f i*g i) j)).den.neg,(qn (bQ (λi=>f i*g i) j)).den.w)) Y (λj hj=>?_) Y;have hmj:=hm j (by omega);have e1:=VE (ha.gd j) (hb.gd j) ((hs j).rep (by omega)) Y (by omega);simp only[bQ];generalize hq0:qn (bQ (λi=>f i*g i) j)=q0 at e1⊢;generalize Wa:qn (bQ (λi=>f i*g i) j+f j*g j)=q3 at e1⊢;rw[<-yc (a:=a) hj,<-yc (a:=b) hj]at e1;generalize (a.take (min a.length b.length)).getD j (⟨⟨false,[]⟩,⟨false,[]⟩⟩:Qr)=q1 at e1⊢;generalize (b.take (min a.length b.length)).getD j (⟨⟨false,[]⟩,⟨false,[]⟩⟩:Qr)=q2 at e1⊢;obtain⟨⟨_,_⟩,⟨_,_⟩⟩:=q0;obtain⟨⟨_,_⟩,⟨_,_⟩⟩:=q1;obtain⟨⟨_,_⟩,⟨_,_⟩⟩:=q2;obtain⟨⟨_,_⟩,⟨_,_⟩⟩:=q3
 exact aA Y<|aA Y<|aA e1 Y
theorem VF{x y z:Rat}{p q r:Qr}(hp:fD K p x)(hq:fD M q y)(hK:K<=35184372088788)(hM:M<=35184372088788)(hr:r=qn z)(h:y≠0->fJ p q r=some (qn (z+x*y))):fJ p q r=some (qn (z+x*y)):=by
 by_cases h2:y=0
 ·have s1:=hp.sign hK;have s2:=hq.sign hM;obtain⟨⟨_,_⟩,⟨_,_⟩⟩:=p;obtain⟨⟨_,_⟩,⟨_,_⟩⟩:=q;obtain⟨⟨_,_⟩,⟨_,_⟩⟩:=r;unfold fJ;refine aA s1<|aA Y ?_;by_cases h1:x=0
  ·refine aA (b9 (decide_eq_false (by rw[h1,rJ];simp)) Y) ?_;rw[show z+x*y=z by rw[h1];grind,<-hr];rfl
  refine aA (cg (decide_eq_true (λe=>h1 (rL.1 e))) (aA s2 (aA Y Y))) ?_;refine b9 (decide_eq_false (by rw[h2,rJ];simp)) ?_;rw[show z+x*y=z by rw[h2];grind,<-hr]
 exact h h2
theorem VG{c:Nat}(ha:c6 K a f)(hb:c6 M b g)(hA:∀i,i<c->fD L (a.getD i (⟨⟨false,[]⟩,⟨false,[]⟩⟩:Qr)) (f i))(hz:∀i,c<=i->g i=0)(hK:K<=35184372088788)(h:(c+2)*(L+M+1)<=4000000000):dR a b=some (qn (bQ (λi=>f i*g i) (min a.length b.length)))/\fD (c*(L+M+1)+1) (qn (bQ (λi=>f i*g i) (min a.length b.length))) (bQ (λi=>f i*g i) (min a.length b.length)):=by
 have hs:∀n,FQ (c*(L+M+1)+1) (bQ (λi=>f i*g i) n):=λn=>by
  have key:∀n,n<=c->FQ (c*(L+M+1)+1) (bQ (λi=>f i*g i) n):=λn hn=>
   (xZ (λi hi=>((hA i (by omega)).fq).mul (hb.fq i))).mono (Nat.add_le_add_right (Nat.mul_le_mul_right _ hn) 1)
  rcases Nat.le_total n c with q|q
  ·exact key n q
  rw[EE q (λi h1 _=>by rw[hz i h1];grind)];exact key c (Nat.le_refl _)
 refine⟨?_,(hs _).rep (by omega)⟩;unfold dR;rw[Nat.add_mul]at h;have hM:=hb.l1;refine aA Y<|aA Y<|aA (congrArg some (CU a b))<|aA (jz (by omega))<|aA (jz (by omega)) ?_;rw[show max (a.take (min a.length b.length)).length (b.take (min a.length b.length)).length=min a.length b.length by simp only[List.length_take];omega];refine mQ (λj=>((qn (bQ (λi=>f i*g i) j)).num.neg,(qn (bQ (λi=>f i*g i) j)).num.w,(qn (bQ (λi=>f i*g i) j)).den.neg,(qn (bQ (λi=>f i*g i) j)).den.w)) Y (λj hj=>?_) Y;have e1:fJ (a.getD j (⟨⟨false,[]⟩,⟨false,[]⟩⟩:Qr)) (b.getD j (⟨⟨false,[]⟩,⟨false,[]⟩⟩:Qr)) (qn (bQ (λi=>f i*g i) j))=some (qn (bQ (λi=>f i*g i) j+f j*g j)):=VF (ha.gd j) (hb.gd j) hK (by omega) Y (λh0=>by
  have hj:j<c:=by
   rcases Nat.lt_or_ge j c with q|q
   ·exact q
   exact absurd (hz j q) h0
  exact VE (hA j hj) (hb.gd j) ((hs j).rep (by omega)) Y (by omega))
 simp only[bQ];generalize hq0:qn (bQ (λi=>f i*g i) j)=q0 at e1⊢;generalize Wa:qn (bQ (λi=>f i*g i) j+f j*g j)=q3 at e1⊢;rw[<-yc (a:=a) hj,<-yc (a:=b) hj]at e1;generalize (a.take (min a.length b.length)).getD j (⟨⟨false,[]⟩,⟨false,[]⟩⟩:Qr)=q1 at e1⊢;generalize (b.take (min a.length b.length)).getD j (⟨⟨false,[]⟩,⟨false,[]⟩⟩:Qr)=q2 at e1⊢;obtain⟨⟨_,_⟩,⟨_,_⟩⟩:=q0;obtain⟨⟨_,_⟩,⟨_,_⟩⟩:=q1;obtain⟨⟨_,_⟩,⟨_,_⟩⟩:=q2;obtain⟨⟨_,_⟩,⟨_,_⟩⟩:=q3;exact aA Y<|aA Y<|aA e1 Y
theorem VH(ha:c6 L a f)(hb:c6 M b g)(hL:L<=35184372088788)(hM:M<=35184372088788):iX a b=some (qX f g (max a.length b.length)):=by
 unfold iX;generalize max a.length b.length=n;refine aA (a:=if qX f g n≠0 then .inr (qX f g n)else .inl ()) ?_ ?_
 ·induction n with
  |zero=>rfl
  |succ n ih=>
   rw[lN];refine aA ih ?_;by_cases h0:qX f g n=0
   ·have hl:qX f g (n+1)=nT (f n) (g n):=by rw[qX,if_neg (by simpa using h0)]
    rw[hl,if_neg (show ¬qX f g n≠0 by simpa using h0)];have e1:=(ha.gd n).SA (hb.gd n) hL hM;generalize a.getD n (⟨⟨false,[]⟩,⟨false,[]⟩⟩:Qr)=q1 at e1⊢;generalize b.getD n (⟨⟨false,[]⟩,⟨false,[]⟩⟩:Qr)=q2 at e1⊢;obtain⟨⟨_,_⟩,⟨_,_⟩⟩:=q1;obtain⟨⟨_,_⟩,⟨_,_⟩⟩:=q2;refine aA Y<|aA Y<|aA e1<|aA Y ?_;by_cases h1:nT (f n) (g n)=0
    ·rw[if_neg (by simpa using h1)];exact b9 (decide_eq_false (by simpa using h1)) Y
    rw[if_pos h1];exact cg (decide_eq_true h1) Y
   have hl:qX f g (n+1)=qX f g n:=by rw[qX,if_pos h0]
   rw[hl,if_pos h0]
 by_cases h0:qX f g n=0
 ·rw[if_neg (by simpa using h0),h0]
 rw[if_pos h0]
theorem VI(ha:c6 L a f)(hb:c6 M b g)(hL:L<=35184372088788)(hM:M<=35184372088788):ej a b=some (decide (∀i,i<max a.length b.length->f i=g i)):=by
 unfold ej;refine aA (VH ha hb hL hM)<|aA Y ?_;congr 1;rw[decide_eq_decide];exact z4
theorem VJ(ha:c6 L a f)(hb:c6 M b g)(hL:L<=35184372088788)(hM:M<=35184372088788)(e:∀i,f i=g i):ej a b=some true:=by
 rw[VI ha hb hL hM,decide_eq_true (λi _=>e i)]
theorem Wz(ha:c6 L a f)(hb:c6 M b g)(h:L+M<=35184372088768):ej a b=some (decide (∀i,i<max a.length b.length->f i=g i)):=VI ha hb (by omega) (by omega)
end ops
end
section
open Go.Fw
theorem tZ{l:List Nat}(h:EW l):ni l<65536^l.length:=eG l h.1
theorem tm{a:Nat}:Int.tmod (a:Int) 65536=((a%65536:Nat):Int):=by
 rw[Int.tmod_eq_emod_of_nonneg (by omega)];omega
theorem td{a:Nat}:Int.tdiv (a:Int) 65536=((a/65536:Nat):Int):=by
 rw[Int.tdiv_eq_ediv_of_nonneg (by omega)];omega
theorem Hv(l k:List Nat)(hl:EW l)(hk:EW k):iD (zl l) (zl k)=some (wE (ni l) (ni k)):=by
 unfold iD;simp only[bD];rw[dL,dL,show max (l.length:Int) (k.length:Int)=((max l.length k.length:Nat):Int) by omega,ct (by have:=hl.2;have:=hk.2;omega) (by have:=hl.2;have:=hk.2;omega)];have h1:ni l<65536^(max l.length k.length):=Nat.lt_of_lt_of_le (tZ hl) (Nat.pow_le_pow_right (by decide) (by omega));have h2:ni k<65536^(max l.length k.length):=Nat.lt_of_lt_of_le (tZ hk) (Nat.pow_le_pow_right (by decide) (by omega));have hm:max l.length k.length<=100000000000:=by have:=hl.2;have:=hk.2;omega
 have a1:=xm hl.1;have a2:=xm hk.1;generalize ni l=V at*;generalize ni k=W at*;generalize max l.length k.length=n at*;refine gu (λy=>∃m:Nat,y=(m:Int)-1/\m<=n/\V/65536^m=W/65536^m) (λe=>(∃c,e=.inl c/\V=W)\/e=.inr (wE V W)) (λy=>(y+1).toNat) ?_ ⟨n,Y,Nat.le_refl _,by rw[Nat.div_eq_of_lt h1,Nat.div_eq_of_lt h2]⟩ ?_
 ·rintro _ ⟨m,rfl,hmn,he⟩;rcases m with _|m
  ·right;refine⟨_,Y,.inl ⟨_,Y,?_⟩⟩;simpa using he
  rw[show((m+1:Nat):Int)-1=(m:Int) by omega,show decide ((0:Int)<=(m:Int))=true by simp,eL,a1,bD,a2,bD];rcases Bh he with⟨hd,hq⟩|⟨hd,hlt⟩|⟨hd,hlt⟩
  ·left;rw[hd,show decide (((W/65536^m%65536:Nat):Int)<((W/65536^m%65536:Nat):Int))=false by simp,fC,bD,bD,show decide (((W/65536^m%65536:Nat):Int)<((W/65536^m%65536:Nat):Int))=false by simp,fC,ct (by omega) (by omega)];exact⟨_,Y,⟨m,Y,by omega,hq⟩,by omega⟩
  ·right;rw[show decide (((V/65536^m%65536:Nat):Int)<((W/65536^m%65536:Nat):Int))=true by rw[decide_eq_true_eq];omega,eL];exact⟨_,Y,.inr (by rw[o9 hlt])⟩
  right;rw[show decide (((V/65536^m%65536:Nat):Int)<((W/65536^m%65536:Nat):Int))=false by rw[decide_eq_false_iff_not];omega,fC,bD,bD,show decide (((W/65536^m%65536:Nat):Int)<((V/65536^m%65536:Nat):Int))=true by rw[decide_eq_true_eq];omega,eL];exact⟨_,Y,.inr (by rw[rG hlt])⟩
 rintro e (⟨c,rfl,rfl⟩|rfl)
 ·rw[vg]
 rfl
theorem NN(l k:List Nat)(hl:EW l)(hk:EW k):ju (zl l) (zl k)=some (zl (can 65536 (ni l+ni k))):=by
 unfold ju;have h1:ni l<65536^(max l.length k.length):=Nat.lt_of_lt_of_le (tZ hl) (Nat.pow_le_pow_right (by decide) (by omega));have h2:ni k<65536^(max l.length k.length):=Nat.lt_of_lt_of_le (tZ hk) (Nat.pow_le_pow_right (by decide) (by omega));have hm:max l.length k.length<=100000000000:=by have:=hl.2;have:=hk.2;omega
 have a1:=xm hl.1;have a2:=xm hk.1;rw[dL,dL];generalize ni l=V at*;generalize ni k=W at*;refine gu (λs=>∃i:Nat,s=(((xW 65536 V W i:Nat):Int),(i:Int),zl (dI 65536 i (V+W)))/\i<=max l.length k.length+1) (λe=>∃i,e=zl (dI 65536 i (V+W))/\V+W<65536^i/\i<=max l.length k.length+1) (λs=>max l.length k.length+1-s.2.1.toNat) ?_ ⟨0,by rw[zT];rfl,by omega⟩ ?_
 ·rintro _ ⟨i,rfl,hi⟩;have hc:=zR (B:=65536) (by decide) V W i;have IL:=zS (B:=65536) (by decide) V W i;have AT:=xX (B:=65536) (by decide) V W i;have d1:=Nat.mod_lt (V/65536^i) (show 0<65536 by decide);have d2:=Nat.mod_lt (W/65536^i) (show 0<65536 by decide);simp only[bD,cj];have uj:∀(K:Bool->Option ((Int×Int×List Int)⊕List Int)),(((bif decide ((i:Int)<(l.length:Int))then some true else some (decide ((i:Int)<(k.length:Int)))):Option Bool).bind λc=>((bif c then some true else some (decide ((0:Int)<((xW 65536 V W i:Nat):Int)))):Option Bool).bind K)=K (decide (i<max l.length k.length\/0<xW 65536 V W i)):=by
   intro K;by_cases q1:i<l.length
   ·have:i<max l.length k.length:=by omega
    simp[q1,this]
   by_cases q2:i<k.length
   ·have:i<max l.length k.length:=by omega
    simp[q1,q2,this]
   have:¬i<max l.length k.length:=by omega
   simp[q1,q2,this]
  rw[uj];by_cases ER:i<max l.length k.length\/0<xW 65536 V W i
  ·left;have hi':i<max l.length k.length+1:=by
    rcases Nat.lt_or_ge i (max l.length k.length+1)with h|h
    ·exact h
    have hie:i=max l.length k.length+1:=by omega
    have hp:65536^i=65536^(max l.length k.length)*65536:=by rw[hie,Nat.pow_succ]
    have g3:=CI (B:=65536) (V:=V) (W:=W) (k:=i) (by omega) (by omega);rw[Nat.div_eq_of_lt (by omega)]at g3;omega
   rw[show decide (i<max l.length k.length\/0<xW 65536 V W i)=true by rw[decide_eq_true_eq];exact ER,eL,a1,bD,a2,bD,kP (by omega),kP (by omega),tm,td,IL,AT,va (by decide) (by rw[dL,bC];omega),bD,fZ (by have:=zR (B:=65536) (by decide) V W (i+1);omega),b8 (by omega)];refine⟨_,Y,⟨i+1,?_,by omega⟩,by simp only[];omega⟩;rw[gw,CR,Gm]
  right;rw[show decide (i<max l.length k.length\/0<xW 65536 V W i)=false by rw[decide_eq_false_iff_not];exact ER,fC];refine⟨_,Y,i,Y,?_,hi⟩;have g1:V<65536^i:=Nat.lt_of_lt_of_le h1 (Nat.pow_le_pow_right (by decide) (by omega));have g2:W<65536^i:=Nat.lt_of_lt_of_le h2 (Nat.pow_le_pow_right (by decide) (by omega));have g3:=CI (B:=65536) g1 g2;rcases Nat.lt_or_ge (V+W) (65536^i)with h|h
  ·exact h
  have:=Nat.div_pos h (Nat.pow_pos (by decide));omega
 rintro _ ⟨i,rfl,hlt,hi⟩;rw[iZ _ (by rw[bC];omega),bD,lI (by decide) hlt]
theorem Hw(l k:List Nat)(hl:EW l)(hk:EW k)(hle:ni k<=ni l):gA (zl l) (zl k)=some (zl (can 65536 (ni l-ni k))):=by
 unfold gA;have h1:=tZ hl;have hm:=hl.2;have a1:=xm hl.1;have a2:=xm hk.1;rw[dL];generalize ni l=V at*;generalize ni k=W at*;refine bF (λi=>(((1-wD 65536 V W i:Nat):Int),(i:Int),zl (dI 65536 i (V-W)))) l.length (zl (dI 65536 l.length (V-W))) ?_ (λi hi=>?_) ?_ ?_
 ·rw[zU];rfl
 ·have hc:=Gf (B:=65536) (by decide) V W i;have IL:=zV (B:=65536) (by decide) V W i;have AT:=CJ (B:=65536) (by decide) hle i;have d1:=Nat.mod_lt (V/65536^i) (show 0<65536 by decide);have d2:=Nat.mod_lt (W/65536^i) (show 0<65536 by decide);simp only[bD,cj];rw[show decide ((i:Int)<(l.length:Int))=true by simp[hi],eL,a1,bD,a2,bD];rw[<-IL,gw,CR,Gm,<-AT];generalize V/65536^i%65536=a at*;generalize W/65536^i%65536=b at*;generalize wD 65536 V W i=c at*;rw[ct (x:=(a:Int)-(b:Int)) (by omega) (by omega),ct (x:=(a:Int)-(b:Int)-((1-c:Nat):Int)) (by omega) (by omega)];by_cases hn:(a:Int)-(b:Int)-((1-c:Nat):Int)<0
  ·rw[show decide ((a:Int)-(b:Int)-((1-c:Nat):Int)<0)=true by rw[decide_eq_true_eq];exact hn,eL,ct (by omega) (by omega),va (by decide) (by rw[dL,bC];omega),bD,b8 (by omega)];rw[show(a:Int)-(b:Int)-((1-c:Nat):Int)+65536=(((a+(65536-1-b)+c)%65536:Nat):Int) by omega,show(1-(a+(65536-1-b)+c)/65536)=1 by omega];rfl
  rw[show decide ((a:Int)-(b:Int)-((1-c:Nat):Int)<0)=false by rw[decide_eq_false_iff_not];exact hn,fC,va (by decide) (by rw[dL,bC];omega),bD,b8 (by omega)];rw[show(a:Int)-(b:Int)-((1-c:Nat):Int)=(((a+(65536-1-b)+c)%65536:Nat):Int) by omega,show(1-(a+(65536-1-b)+c)/65536)=0 by omega];rfl
 ·simp
 rw[iZ _ (by rw[bC];omega),bD,lI (by decide) (by omega)]
theorem Bk(l:List Nat)(hl:∀x∈l,x<65536)(hn:l.length<=3):eT (zl l)=some ((ni l:Nat):Int):=by
 unfold eT;simp only[bD];have hV:ni l<65536^l.length:=eG l hl;have hp:65536^l.length<=65536^3:=Nat.pow_le_pow_right (by decide) hn;rw[show(65536:Nat)^3=281474976710656 by decide]at hp;rw[dL,ct (by omega) (by omega)];refine bF (λj=>(((ni l/65536^(l.length-j):Nat):Int),(l.length:Int)-1-(j:Int))) l.length ((ni l:Nat):Int) ?_ (λj hj=>?_) ?_ Y
 ·rw[show l.length-0=l.length by omega,Nat.div_eq_of_lt hV];simp
 ·obtain⟨m,hm⟩:∃m,l.length=m+j+1:=⟨l.length-j-1,by omega⟩;have hg:=jW hl (i:=m) (by omega);have hst:=zW 65536 (ni l) m;have Sw:ni l/65536^m<=ni l:=Nat.div_le_self _ _;rw[show l.length-j=m+1 by omega,show l.length-(j+1)=m by omega,show(l.length:Int)-1-(j:Int)=(m:Int) by omega,show(l.length:Int)-1-((j+1:Nat):Int)=(m:Int)-1 by omega];have hd:=Nat.mod_lt (ni l/65536^m) (show 0<65536 by decide);simp only[];rw[show decide ((0:Int)<=(m:Int))=true by simp,eL,bM (wG hg),bD];generalize ni l/65536^(m+1)=c at*;generalize ni l/65536^m=d at*;rw[ct (x:=(c:Int)*65536) (by omega) (by omega),ct (x:=(c:Int)*65536+((d%65536:Nat):Int)) (by omega) (by omega),ct (x:=(m:Int)-1) (by omega) (by omega),show(c:Int)*65536+((d%65536:Nat):Int)=(d:Int) by omega]
 simp only[];rw[show decide ((0:Int)<=(l.length:Int)-1-(l.length:Int))=false by rw[decide_eq_false_iff_not];omega,fC,Nat.sub_self,Nat.pow_zero,Nat.div_one]
theorem EF(x:Nat)(hx:x<281474976710656):iL (x:Int)=some (zl (can 65536 x)):=by
 unfold iL;simp only[bD];rw[tm,td,fZ (by omega),tm,td,fZ (by omega)];have:[((x%65536:Nat):Int),((x/65536%65536:Nat):Int),((x/65536/65536:Nat):Int)]=zl [x%65536,x/65536%65536,x/65536/65536]:=rfl;rw[this,iZ _ (by simp),bD,iF (B:=65536) (by decide) (by intro y hy;simp at hy;omega)];congr 3;simp[val];omega
theorem Bl(l:List Nat)(f:Nat)(hl:EW l)(hf:f<65536):eU (zl l) (f:Int)=some (zl (can 65536 (ni l*f))):=by
 unfold eU;have h1:=tZ hl;have hm:=hl.2;have a1:=xm hl.1;rw[dL];generalize ni l=V at*;have vE:=λi=>Lm (B:=65536) (V:=V) (f:=f) (e:=0) (by decide) hf (by decide) i;refine gu (λs=>∃i:Nat,s=(((sC 65536 V f 0 i:Nat):Int),(i:Int),zl (dI 65536 i (V*f)))/\i<=l.length+1) (λe=>∃i,e=zl (dI 65536 i (V*f))/\V*f<65536^i/\i<=l.length+1) (λs=>l.length+1-s.2.1.toNat) ?_ ⟨0,by rw[CL];rfl,by omega⟩ ?_
 ·rintro _ ⟨i,rfl,hi⟩;have hc:=vE i;have hc1:=vE (i+1);have IL:=CM (B:=65536) (by decide) V f 0 i;have AT:=Gi (B:=65536) (by decide) V f 0 i;have d1:=Nat.mod_lt (V/65536^i) (show 0<65536 by decide);have hp:V/65536^i%65536*f<=65535*65535:=Nat.mul_le_mul (by omega) (by omega);rw[Nat.add_zero]at AT;simp only[bD,cj];have uj:∀(K:Bool->Option ((Int×Int×List Int)⊕List Int)),(((bif decide ((i:Int)<(l.length:Int))then some true else some (decide ((0:Int)<((sC 65536 V f 0 i:Nat):Int)))):Option Bool).bind K)=K (decide (i<l.length\/0<sC 65536 V f 0 i)):=by
   intro K;by_cases q1:i<l.length
   ·simp[q1]
   simp[q1]
  rw[uj];by_cases ER:i<l.length\/0<sC 65536 V f 0 i
  ·left;have hi':i<l.length+1:=by
    rcases Nat.lt_or_ge i (l.length+1)with h|h
    ·exact h
    have hie:i=l.length+1:=by omega
    have g3:=Gj (B:=65536) (V:=V) (f:=f) (e:=0) (i:=i) (Nat.lt_of_lt_of_le h1 (Nat.pow_le_pow_right (by decide) (by omega)));rw[Nat.add_zero,Nat.div_eq_of_lt]at g3
    ·omega
    rw[hie,Nat.pow_succ];exact Nat.mul_lt_mul'' h1 hf
   rw[show decide (i<l.length\/0<sC 65536 V f 0 i)=true by rw[decide_eq_true_eq];exact ER,eL,a1,bD,<-Int.natCast_mul,fZ (by omega),kP (by omega),tm,td,IL,AT,va (by decide) (by rw[dL,bC];omega),bD,fZ (by omega),b8 (by omega)];refine⟨_,Y,⟨i+1,?_,by omega⟩,by simp only[];omega⟩;rw[gw,CR,Gm]
  right;rw[show decide (i<l.length\/0<sC 65536 V f 0 i)=false by rw[decide_eq_false_iff_not];exact ER,fC];refine⟨_,Y,i,Y,?_,hi⟩;have g3:=Gj (B:=65536) (V:=V) (f:=f) (e:=0) (i:=i) (Nat.lt_of_lt_of_le h1 (Nat.pow_le_pow_right (by decide) (by omega)));rw[Nat.add_zero]at g3;rcases Nat.lt_or_ge (V*f) (65536^i)with h|h
  ·exact h
  have:=Nat.div_pos h (Nat.pow_pos (by decide));omega
 rintro _ ⟨i,rfl,hlt,hi⟩;rw[iZ _ (by rw[bC];omega),bD,lI (by decide) hlt]
end
section
open Go.Fw
theorem eM(v:Nat):ni (can 65536 v)=v:=iO (by decide) v
theorem Hx{v n:Nat}(h:v<65536^n)(hn:n<=100000000000):EW (can 65536 v):=⟨λ_ hx=>eu (by decide) hx,Nat.le_trans ((bN (by decide)).2 h) hn⟩
end
section
open Go.Fw
theorem td2{a:Nat}:Int.tdiv (a:Int) 2=((a/2:Nat):Int):=by
 rw[Int.tdiv_eq_ediv_of_nonneg (by omega)];omega
theorem NO(a b:Nat):decide (wE a b<=0)=decide (a<=b):=by
 rcases Nat.lt_trichotomy a b with h|h|h
 ·rw[o9 h];simp;omega
 ·rw[h,vg];simp
 rw[rG h];simp;omega
theorem LJ{B:Nat}(hB:0<B){d:Nat}(hd:0<d)(V m:Nat):(V/B^(m+1)%d*B+V/B^m%B)/d=V/d/B^m%B:=by
 have h1:=Qa (B:=B) hd V m;have h2:=Nq (B:=B) hB hd V m;rw[Nat.div_div_eq_div_mul V d,Nat.mul_comm d,<-Nat.div_div_eq_div_mul,h1,Nat.mul_add_mod];symm;apply Nat.mod_eq_of_lt;rw[Nat.div_lt_iff_lt_mul hd,Nat.mul_comm B d];exact h2
theorem EG{a b:Nat}(h:b≠0)(ha:a<=9223372036854775807):pK (a:Int) (b:Int)=some ((a/b:Nat):Int):=by
 unfold pK;rw[if_neg (by omega),Int.tdiv_eq_ediv_of_nonneg (by omega),<-Int.natCast_ediv,fZ (Nat.le_trans (Nat.div_le_self _ _) ha)]
theorem EH{a b:Nat}(h:b≠0):Aj (a:Int) (b:Int)=some ((a%b:Nat):Int):=by
 unfold Aj;rw[if_neg (by omega),Int.tmod_eq_emod_of_nonneg (by omega),<-Int.natCast_emod]
theorem LK(n:Nat):List.replicate n (0:Int)=zl (dI 65536 n 0):=by rw[oq,zl,List.map_replicate];rfl
theorem EI{W X:Nat}(hW:0<W){k:List Nat}(hk:EW k)(hkv:ni k=W){xs:List Nat}(hx:EW xs)(hxv:ni xs=X)(H:Nat)(hH:0<H)(hH2:H<=65536)(hXH:X<H*W){R:Type}(f:Int->Option R)(r:R)(hf:f ((X/W:Nat):Int)=some r)(Jb:k.length<=90000000000):
  (cf (λ(PE:Int×Int)=>
               match PE with
               |⟨jN,mN⟩=>
                (show Option ((Int×Int)⊕(Int))from
                 (bif(decide ((1:Int)<(IntKind.i64.wrap (mN-jN))))then
                   (eU (zl k) (IntKind.i64.wrap (Int.tdiv (IntKind.i64.wrap (jN+mN)) 2))).bind λAq=>
                   (iD Aq (zl xs)).bind λFq=>
                   (bif(decide ((Fq:Int)<=0))then
                     some (.inl (IntKind.i64.wrap (Int.tdiv (IntKind.i64.wrap (jN+mN)) 2),mN))
                    else
                     some (.inl (jN,IntKind.i64.wrap (Int.tdiv (IntKind.i64.wrap (jN+mN)) 2))))
                  else
                   some (.inr jN)))) ((0:Int),(H:Int))).bind f=some r:=by
 refine gu (λs=>∃lo hi:Nat,s=((lo:Int),(hi:Int))/\lo<hi/\hi<=65536/\lo*W<=X/\X<hi*W) (λe=>e=((X/W:Nat):Int)) (λs=>(s.2-s.1).toNat) ?_ ⟨0,H,Y,hH,hH2,by simp,hXH⟩ (λe he=>by rw[he];exact hf);rintro _ ⟨lo,hi,rfl,h1,h2,h3,h4⟩;simp only[];rw[ct (x:=(hi:Int)-(lo:Int)) (by omega) (by omega)];by_cases ER:1<hi-lo
 ·left;obtain⟨mid,ab9⟩:∃mid,(lo+hi)/2=mid:=⟨_,Y⟩;have hml:ni k*mid<65536^(k.length+1):=by rw[Nat.pow_succ];exact Nat.mul_lt_mul'' (tZ hk) (by omega)
  rw[show decide ((1:Int)<(hi:Int)-(lo:Int))=true by rw[decide_eq_true_eq];omega,eL,kP (by omega),td2,ab9,fZ (by omega),Bl _ _ hk (by omega),bD,Hv _ _ (Hx hml (by omega)) hx,bD,NO,eM,hkv,hxv];by_cases hle:W*mid<=X
  ·rw[show decide (W*mid<=X)=true by simp[hle],eL];exact⟨_,Y,⟨mid,hi,Y,by omega,h2,by rw[Nat.mul_comm];exact hle,h4⟩,by simp only[];omega⟩
  rw[show decide (W*mid<=X)=false by simp;omega,fC];exact⟨_,Y,⟨lo,mid,Y,by omega,by omega,h3,by rw[Nat.mul_comm];omega⟩,by simp only[];omega⟩
 right;rw[show decide ((1:Int)<(hi:Int)-(lo:Int))=false by rw[decide_eq_false_iff_not];omega,fC];refine⟨_,Y,?_⟩;have:hi=lo+1:=by omega
 subst this;have:X/W=lo:=by
  rw[Nat.div_eq_iff hW];rw[Nat.add_mul,Nat.one_mul]at h4;omega
 rw[this]
theorem Hy(V W:Nat)(hW:W≠0)(hV:(can 65536 V).length<=80000000000)(hWl:(can 65536 W).length<=80000000000):jv (zl (can 65536 V)) (zl (can 65536 W))=some (zl (can 65536 (V/W)),zl (can 65536 (V%W))):=by
 have FW:EW (can 65536 V):=⟨λ_ hx=>eu (by decide) hx,by omega⟩;have NP:EW (can 65536 W):=⟨λ_ hx=>eu (by decide) hx,by omega⟩;have VK:=cm (B:=65536) (by decide) V;have NQ:=cm (B:=65536) (by decide) W;have NR:0<W:=by omega
 unfold jv;simp only[bD,cj,dL];obtain⟨n,hn⟩:∃n,(can 65536 V).length=n:=⟨_,Y⟩;by_cases h3:n<=3/\(can 65536 W).length<=3
 ·rw[hn,show decide ((n:Int)<=3)=true by rw[decide_eq_true_eq];omega,eL,bD,show decide (((can 65536 W).length:Int)<=3)=true by rw[decide_eq_true_eq];omega,eL,Bk _ FW.1 (by omega),bD,Bk _ NP.1 (by omega),bD,eM,eM];have hp:V<281474976710656:=by
   rw[hn]at VK;have h2:65536^n<=65536^3:=Nat.pow_le_pow_right (by decide) h3.1;rw[show(65536:Nat)^3=281474976710656 by decide]at h2;omega
  have hq:V/W<=V:=Nat.div_le_self _ _;have hr:V%W<=V:=Nat.mod_le _ _;rw[EG hW (by omega),bD,EF _ (by omega),bD,bD,bD,EH hW,bD,EF _ (by omega),bD]
 have uj:(((bif decide ((n:Int)<=3)then some (decide (((can 65536 W).length:Int)<=3))else some false):Option Bool))=some false:=by
  by_cases q1:n<=3
  ·have q2:¬(can 65536 W).length<=3:=λh=>h3 ⟨q1,h⟩;rw[show decide (((can 65536 W).length:Int)<=3)=false by rw[decide_eq_false_iff_not];omega];exact vn _ _
  rw[show decide ((n:Int)<=3)=false by rw[decide_eq_false_iff_not];omega,fC]
 rw[hn]at VK hV;have hQ:V/W<65536^n:=Nat.lt_of_le_of_lt (Nat.div_le_self _ _) VK;rw[hn,uj,bD,fC,o5 (by decide) (by omega),bD,LK];have hlen:(can 65536 W).length≠0:=λe=>hW (vf (by decide) (List.length_eq_zero_iff.1 e));by_cases h1:(can 65536 W).length=1
 ·have hWs:W<65536:=by rw[h1]at NQ;simpa using NQ
  have hg0:(can 65536 W)[0]? =some W:=by rw[rE (by decide) (by omega)];simp;exact hWs
  have Vg:=mw (wG hg0);rw[h1,show decide (((1:Nat):Int)=1)=true by simp,eL,ct (by omega) (by omega)];refine bF (λj=>(((V/65536^(n-j)%W:Nat):Int),(n:Int)-1-(j:Int),zl (dI 65536 n (V/W/65536^(n-j)*65536^(n-j))))) n (((V%W:Nat):Int),zl (dI 65536 n (V/W))) ?_ (λj hj=>?_) ?_ ?_
  ·rw[Nat.sub_zero,Nat.div_eq_of_lt VK,Nat.div_eq_of_lt hQ];simp
  ·obtain⟨m,hm⟩:∃m,n=m+j+1:=⟨n-j-1,by omega⟩;have hg:(can 65536 V)[m]? =some (V/65536^m%65536):=rE (by decide) (by omega);have Gh:=LJ (B:=65536) (by decide) NR V m;have Ep:=Ln (B:=65536) (d:=W) V m;have hrl:=Nat.mod_lt (V/65536^(m+1)) NR;have Sw:=Nat.mod_lt (V/65536^m) (show 0<65536 by decide);have hput:=CQ (B:=65536) (by decide) (N:=n) (k:=m) (by omega) (V/W);rw[show n-j=m+1 by omega,show n-(j+1)=m by omega,show(n:Int)-1-(j:Int)=(m:Int) by omega,show(n:Int)-1-((j+1:Nat):Int)=(m:Int)-1 by omega];simp only[];rw[show decide ((0:Int)<=(m:Int))=true by simp,eL,bM (wG hg),bD,Vg,bD];rw[<-Gh]at hput;rw[Ep,<-hput];generalize V/65536^(m+1)%W=r at*;generalize V/65536^m%65536=d at*;rw[ct (x:=(r:Int)*65536) (by omega) (by omega),ct (x:=(r:Int)*65536+(d:Int)) (by omega) (by omega),show(r:Int)*65536+(d:Int)=((r*65536+d:Nat):Int) by omega,EG hW (by omega),bD,bD,EH hW,bD,dZ (by rw[dL,bC];omega),bD,gR (by rw[dL,bC];omega),bD,ct (x:=(m:Int)-1) (by omega) (by omega),LD]
  ·simp only[];rw[show decide ((0:Int)<=(n:Int)-1-(n:Int))=false by rw[decide_eq_false_iff_not];omega,fC,Nat.sub_self,Nat.pow_zero,Nat.mul_one,Nat.div_one,Nat.div_one]
  simp only[];rw[iZ _ (by rw[bC];omega),bD,lI (by decide) hQ,show[((V%W:Nat):Int)]=zl [V%W]from Y,iZ _ (by simp),bD];have hr:=Nat.mod_lt V NR;rw[iF (B:=65536) (l:=[V%W]) (by decide) (by intro y hy;simp at hy;omega)];simp[val]
 rw[show decide (((can 65536 W).length:Int)=1)=false by rw[decide_eq_false_iff_not];omega,fC,ct (by omega) (by omega)];refine bF (λj=>(zl (can 65536 (V/65536^(n-j)%W)),(n:Int)-1-(j:Int),zl (dI 65536 n (V/W/65536^(n-j)*65536^(n-j))))) n (zl (can 65536 (V%W)),zl (dI 65536 n (V/W))) ?_ (λj hj=>?_) ?_ ?_
 ·rw[Nat.sub_zero,Nat.div_eq_of_lt VK,Nat.div_eq_of_lt hQ];simp[mS,zl]
 ·obtain⟨m,hm⟩:∃m,n=m+j+1:=⟨n-j-1,by omega⟩;have hg:(can 65536 V)[m]? =some (V/65536^m%65536):=rE (by decide) (by omega);have Gh:=LJ (B:=65536) (by decide) NR V m;have Ep:=Ln (B:=65536) (d:=W) V m;have hrl:=Nat.mod_lt (V/65536^(m+1)) NR;have Sw:=Nat.mod_lt (V/65536^m) (show 0<65536 by decide);have WA:=Nq (B:=65536) (by decide) NR V m;have hput:=CQ (B:=65536) (by decide) (N:=n) (k:=m) (by omega) (V/W);rw[show n-j=m+1 by omega,show n-(j+1)=m by omega,show(n:Int)-1-(j:Int)=(m:Int) by omega,show(n:Int)-1-((j+1:Nat):Int)=(m:Int)-1 by omega];simp only[];rw[<-Gh]at hput;rw[Ep,<-hput,show decide ((0:Int)<=(m:Int))=true by simp,eL,bM (wG hg),bD];generalize V/65536^(m+1)%W=r at*;generalize V/65536^m%65536=d at*;obtain⟨X,hX⟩:∃X,r*65536+d=X:=⟨_,Y⟩;rw[hX]at WA⊢;have hrc:(can 65536 r).length<=(can 65536 W).length:=(bN (by decide)).2 (Nat.lt_trans hrl NQ);have SZ:(can 65536 X).length<=(can 65536 W).length+1:=(bN (by decide)).2 (by rw[Nat.pow_succ];exact Nat.lt_trans WA (Nat.mul_lt_mul_of_pos_right NQ (by decide)));have hval:val 65536 (d::can 65536 r)=X:=by
   show d+65536*val 65536 (can 65536 r)=X;rw[iO (by decide)];omega
  have Ck:EW (can 65536 X):=⟨λ_ hx=>eu (by decide) hx,by omega⟩;rw[Sd (by decide) (by rw[dL];simp;omega),bD,show[(d:Int)]++zl (can 65536 r)=zl (d::can 65536 r)from rfl,iZ _ (by simp;omega),bD,iF (B:=65536) (by decide) (by intro y hy;simp at hy;rcases hy with rfl|hy;exact Sw;exact eu (by decide) hy),hval];have hqW:W*(X/W)<=X:=Nat.mul_div_le X W;have acd:X/W<65536:=by rw[Nat.div_lt_iff_lt_mul NR,Nat.mul_comm];exact WA
  have Lx:((eU (zl (can 65536 W)) ((X/W:Nat):Int)).bind λFs=>(gA (zl (can 65536 X)) Fs).bind λKJ=>(r7 (zl (dI 65536 n (V/W/65536^(m+1)*65536^(m+1)))) (m:Int)).bind λMZ=>(stM (zl (dI 65536 n (V/W/65536^(m+1)*65536^(m+1)))) MZ ((X/W:Nat):Int)).bind λUT=>(some (.inl (KJ,IntKind.i64.wrap ((m:Int)-1),UT)):Option ((List Int×Int×List Int)⊕(List Int×List Int))))=some (.inl (zl (can 65536 (X%W)),(m:Int)-1,zl ((dI 65536 n (V/W/65536^(m+1)*65536^(m+1))).set m (X/W)))):=by
   rw[Bl _ _ NP acd,bD,eM,Hw _ _ Ck (Hx (Nat.lt_of_le_of_lt hqW (cm (by decide) X)) (by omega)) (by rw[eM,eM];exact hqW),bD,eM,eM,dZ (by rw[dL,bC];omega),bD,gR (by rw[dL,bC];omega),bD,ct (x:=(m:Int)-1) (by omega) (by omega),LD,<-Nat.mod_eq_sub_mul_div]
  rw[dL];by_cases hsh:(can 65536 X).length<(can 65536 W).length
  ·rw[show decide (((can 65536 X).length:Int)<((can 65536 W).length:Int))=true by rw[decide_eq_true_eq];omega,eL];exact EI NR NP (eM W) Ck (eM X) 1 (by decide) (by decide) (by rw[Nat.one_mul];exact tW (by decide) hsh) _ _ Lx (by omega)
  rw[show decide (((can 65536 X).length:Int)<((can 65536 W).length:Int))=false by rw[decide_eq_false_iff_not];omega,fC];exact EI NR NP (eM W) Ck (eM X) 65536 (by decide) (by decide) (by rw[Nat.mul_comm];exact WA) _ _ Lx (by omega)
 ·simp only[];rw[show decide ((0:Int)<=(n:Int)-1-(n:Int))=false by rw[decide_eq_false_iff_not];omega,fC,Nat.sub_self,Nat.pow_zero,Nat.mul_one,Nat.div_one,Nat.div_one]
 simp only[];rw[iZ _ (by rw[bC];omega),bD,lI (by decide) hQ]
end
section
open Go.Fw
theorem vz{v:Nat}:(can 65536 v).length=0↔v=0:=by
 constructor
 ·intro h;exact vf (by decide) (List.length_eq_zero_iff.1 h)
 intro h;rw[h,mS];rfl
theorem LL{v:Nat}(h:(can 65536 v).length<=100000000000):EW (can 65536 v):=⟨λ_ hx=>eu (by decide) hx,h⟩
theorem z5{x:Zr}(h:Wr x):dH x=some (zi x).sign:=by
 unfold dH;simp only[g9 h,bD,dL];have hz:=vz (v:=(zi x).natAbs);have hneg:x.neg=true->zi x<=0:=λe=>by unfold zi;rw[e];simp[sv]
 have hpos:x.neg=false->0<=zi x:=λe=>by unfold zi;rw[e];simp[sv]
 by_cases h0:zi x=0
 ·rw[h0];rfl
 rw[show decide (((can 65536 (zi x).natAbs).length:Int)=0)=false by rw[decide_eq_false_iff_not];omega,fC];cases hn:x.neg
 ·have:=hpos hn;rw[fC,Int.sign_eq_one_of_pos (by omega)]
 have:=hneg hn;rw[eL,Int.sign_eq_neg_one_of_neg (by omega)]
theorem NS{x y:Zr}(hx:Wr x)(hy:Wr y):lu x y=some (jl (zi x) (zi y)):=by
 have cx:=hx.NF;have cy:=hy.NF;unfold lu;simp only[zeta',z5 hx,z5 hy,bD,g9 hx,g9 hy];rw[Hv _ _ (LL (by omega)) (LL (by omega)),eM,eM];simp only[bD];generalize zi x=i;generalize zi y=j;rw[zY];rcases Int.lt_trichotomy i 0 with h1|h1|h1<;>rcases Int.lt_trichotomy j 0 with h2|h2|h2
 ·rw[Int.sign_eq_neg_one_of_neg h1,Int.sign_eq_neg_one_of_neg h2,show(i.natAbs:Int)=-i by omega,show(j.natAbs:Int)=-j by omega,Es];show some (IntKind.i64.wrap (0-jl j i))=_;rw[IF]
 ·rw[Int.sign_eq_neg_one_of_neg h1,show Int.sign j=0 by rw[h2];rfl,show jl i j=-1 from ga (by omega)];rfl
 ·rw[Int.sign_eq_neg_one_of_neg h1,Int.sign_eq_one_of_pos h2,show jl i j=-1 from ga (by omega)];rfl
 ·rw[show Int.sign i=0 by rw[h1];rfl,Int.sign_eq_neg_one_of_neg h2,show jl i j=1 from gb (by omega)];rfl
 ·rw[h1,h2];rfl
 ·rw[show Int.sign i=0 by rw[h1];rfl,Int.sign_eq_one_of_pos h2,show jl i j=-1 from ga (by omega)];rfl
 ·rw[Int.sign_eq_one_of_pos h1,Int.sign_eq_neg_one_of_neg h2,show jl i j=1 from gb (by omega)];rfl
 ·rw[Int.sign_eq_one_of_pos h1,show Int.sign j=0 by rw[h2];rfl,show jl i j=1 from gb (by omega)];rfl
 rw[Int.sign_eq_one_of_pos h1,Int.sign_eq_one_of_pos h2,show(i.natAbs:Int)=i by omega,show(j.natAbs:Int)=j by omega];rfl
theorem svz(x:Zr):sv x.neg (zi x).natAbs=zi x:=by rw[pg];rfl
theorem NT{x:Zr}(hx:Wr x):lz x=some (zn (-zi x)):=by
 have cx:=hx.NF;unfold lz;simp only[bD,g9 hx];rw[qS _ _ (by omega),bD,zX,svz]
theorem NU{x:Zr}(hx:Wr x):lB x=some (zn ((zi x).natAbs:Int)):=by
 have cx:=hx.NF;unfold lB;simp only[bD,g9 hx];rw[qS _ _ (by omega),bD,gV]
theorem Hz{x y:Zr}(hx:Wr x)(hy:Wr y):jw x y=some (Et (zi x) (zi y)):=by
 have cx:=hx.NF;have cy:=hy.NF;unfold jw;simp only[bD,cj,g9 hx,g9 hy,dL];have ex:=svz x;have ey:=svz y;generalize (zi x).natAbs=a at*;generalize (zi y).natAbs=b at*;rw[<-ex,<-ey];generalize x.neg=n;generalize y.neg=m;by_cases h0:b=0
 ·subst h0;rw[show sv m 0=0 by cases m<;>rfl];rfl
 have sj:(can 65536 b).length≠0:=λh=>h0 (vz.1 h);have hm:a%b<b:=Nat.mod_lt _ (by omega);have la:=cm (B:=65536) (by decide) a;have lb:=cm (B:=65536) (by decide) b;obtain⟨e1,e2⟩:=LB n m (a:=a) (show 0<b by omega);have hj:sv m b≠0:=by cases m<;>simp[sv]<;>omega
 have hq:(can 65536 (a/b)).length<=(can 65536 a).length:=(bN (by decide)).2 (Nat.lt_of_le_of_lt (Nat.div_le_self _ _) la);have hr:(can 65536 (a%b)).length<=(can 65536 b).length:=(bN (by decide)).2 (Nat.lt_trans hm lb);rw[show decide (((can 65536 b).length:Int)=0)=false by rw[decide_eq_false_iff_not];omega,fC,Hy a b h0 (by omega) (by omega),bD,Et,if_neg hj,e1,e2];simp only[dL];have hz:=vz (v:=a%b);have hK:∀c:Bool,(decide (n=true/\0<a%b)=c)->(bif c then(ju (zl (can 65536 (a/b))) [1]).bind λxz=>(gA (zl (can 65536 b)) (zl (can 65536 (a%b)))).bind λkU=>(dj (!(n==m)) xz).bind λx=>(dj false kU).bind λx_1=>some ((⟨x.neg,x.w⟩:Zr),(⟨x_1.neg,x_1.w⟩:Zr),(0:Int))
   else(dj (!(n==m)) (zl (can 65536 (a/b)))).bind λx=>(dj false (zl (can 65536 (a%b)))).bind λx_1=>some ((⟨x.neg,x.w⟩:Zr),(⟨x_1.neg,x_1.w⟩:Zr),(0:Int)))=
   some (zn (if n=true/\0<a%b then sv (!(n==m)) (a/b+1)else sv (!(n==m)) (a/b)),zn (if n=true/\0<a%b then((b-a%b:Nat):Int)else((a%b:Nat):Int)),0):=by
  intro c hc;cases c
  ·have LC:=of_decide_eq_false hc;rw[fC,if_neg LC,if_neg LC,qS _ _ (by omega),bD,qS _ _ (by omega),bD,gV]
  have LC:=of_decide_eq_true hc;have VA:(can 65536 (a/b+1)).length<=(can 65536 a).length+1:=by
   apply(bN (by decide)).2;have:a/b<=a:=Nat.div_le_self _ _;rw[Nat.pow_succ];omega
  have hbr:(can 65536 (b-a%b)).length<=(can 65536 b).length:=(bN (by decide)).2 (by omega);rw[eL,if_pos LC,if_pos LC,show[(1:Int)]=zl [1]from Y,NN _ _ (LL (by omega)) ⟨by simp,by simp⟩,bD,eM,show ni [1]=1 by decide,Hw _ _ (LL (by omega)) (LL (by omega)) (by rw[eM,eM];omega),bD,eM,eM,qS _ _ (by omega),bD,qS _ _ (by omega),bD,gV]
 cases n
 ·rw[fC,bD];exact hK false (by simp)
 rw[eL,bD];refine hK _ ?_;simp only[true_and];by_cases h:0<a%b
 ·rw[show decide (0<a%b)=true by simp[h],show decide ((0:Int)<((can 65536 (a%b)).length:Int))=true by rw[decide_eq_true_eq];omega]
 rw[show decide (0<a%b)=false by simp[h],show decide ((0:Int)<((can 65536 (a%b)).length:Int))=false by rw[decide_eq_false_iff_not];omega]
end
section
open Go.Fw
theorem NV{x y:Zr}(hx:Wr x)(hy:Wr y):lC x y=some (zn (Int.gcd (zi x) (zi y):Int)):=by
 have cx:=hx.NF;have cy:=hy.NF;unfold lC;simp only[bD,g9 hx,g9 hy];rw[Int.gcd];generalize (zi x).natAbs=a at*;generalize (zi y).natAbs=b at*;refine gu (λs=>∃c d,s=(zl (can 65536 c),zl (can 65536 d))/\Nat.gcd c d=Nat.gcd a b/\(can 65536 c).length<=20000000000/\(can 65536 d).length<=20000000000)
  (λe=>e=zl (can 65536 (Nat.gcd a b))/\(can 65536 (Nat.gcd a b)).length<=20000000000) (λs=>val 65536 (s.2.map Int.toNat)) ?_ ⟨a,b,Y,Y,cx,cy⟩ ?_
 ·rintro _ ⟨c,d,rfl,hg,hc,hd⟩;simp only[dL];have hzl:∀l:List Nat,(zl l).map Int.toNat=l:=λl=>by
   rw[zl,List.map_map];have:(Int.toNat∘λ(n:Nat)=>(n:Int))=id:=by funext n;simp
   rw[this,List.map_id]
  by_cases h0:d=0
  ·right;subst h0;rw[Nat.gcd_zero_right]at hg;subst hg;exact⟨_,Y,Y,hc⟩
  left;have sj:(can 65536 d).length≠0:=λh=>h0 (vz.1 h);have hm:c%d<d:=Nat.mod_lt _ (by omega);rw[show decide ((0:Int)<((can 65536 d).length:Int))=true by rw[decide_eq_true_eq];omega,eL,Hy c d h0 (by omega) (by omega),bD];refine⟨_,Y,⟨d,c%d,Y,?_,hd,?_⟩,?_⟩
  ·rw[<-hg,Nat.gcd_comm d,<-Nat.gcd_rec,Nat.gcd_comm]
  ·exact Nat.le_trans ((bN (by decide)).2 (Nat.lt_trans hm (cm (by decide) d))) hd
  simp only[];rw[hzl,hzl,iO (by decide),iO (by decide)];exact hm
 rintro _ ⟨rfl,hl⟩;rw[qS _ _ (by omega),bD,gV]
end
section
open Go.Fw
theorem HA:jy=some (zn 1):=by
 unfold jy;simp only[zeta',bD,from_eq (x:=1) (by decide)]
section ops
variable {L M:Nat}{a b:Qr}{x y:Rat}
theorem II(h:fD L a x)(hL:L<=10000000000):∃n d:Int,lF a=some (zn n)/\lD a=some (zn d)/\0<d/\Rat.divInt n d=x/\Fit L n/\Fit L d:=by
 have wn:Wr a.num:=⟨h.n,Nat.le_trans h.ln hL⟩;have wd:Wr a.den:=⟨h.d,Nat.le_trans h.ld hL⟩;have hv:=h.v;unfold lF lD;simp only[zeta',bD,z5 wd,HA,NT wn,NU wd,Ew wn];unfold qv qd at hv;rcases Int.lt_trichotomy (zi a.den) 0 with h1|h1|h1
 ·refine⟨-zi a.num,-zi a.den,?_,?_,by omega,?_,h.fn.neg,h.fd.neg⟩
  ·rw[Int.sign_eq_neg_one_of_neg h1];rfl
  ·rw[Int.sign_eq_neg_one_of_neg h1,show((zi a.den).natAbs:Int)=-zi a.den by omega];rfl
  rw[Rat.neg_divInt_neg,<-hv,if_neg (by omega)]
 ·refine⟨zi a.num,1,?_,?_,by decide,?_,h.fn,vo h.l1⟩
  ·rw[h1];rfl
  ·rw[h1];rfl
  rw[<-hv,if_pos h1]
 refine⟨zi a.num,zi a.den,?_,?_,h1,?_,h.fn,h.fd⟩
 ·rw[Int.sign_eq_one_of_pos h1];rfl
 ·rw[Int.sign_eq_one_of_pos h1,show((zi a.den).natAbs:Int)=zi a.den by omega];rfl
 rw[<-hv,if_neg (by omega)]
theorem NW{n d:Int}(hn:Fit L n)(hd:Fit L d)(hL:L<=10000000000)(h:0<d):jP (zn n) (zn d)=some (qn (Rat.divInt n d)):=by
 have wn:=Eu hn hL;have wd:=Eu hd hL;have g0:(Int.gcd n d:Int)≠0:=by
  have:0<Int.gcd n d:=Int.gcd_pos_of_ne_zero_right _ (by omega);omega
 have wg:Wr (zn (Int.gcd n d:Int)):=Eu (hd.le (by
  have:=Nat.le_of_dvd (Int.natAbs_pos.2 (show d≠0 by omega)) (Int.gcd_dvd_natAbs_right n d);simpa using this)) hL
 have wq:Wr (zn (d/(Int.gcd n d:Int))):=Eu (hd.le (Int.natAbs_ediv_le_natAbs _ _)) hL;have one:dc 1:=by decide
 unfold jP;simp only[zeta',bD,NV wn wd,Hz wn wg,Hz wd wg,HA,eD];rw[Et,if_neg g0,Et,if_neg g0];simp only[];rw[NS wq (LF one),bD,eD,eD,wH h];by_cases e:d/(Int.gcd n d:Int)=1
 ·rw[e,my,if_pos rfl];rfl
 have:jl (d/(Int.gcd n d:Int)) 1≠0:=by
  rcases Int.lt_trichotomy (d/(Int.gcd n d:Int)) 1 with q|q|q
  ·rw[ga q];decide
  ·exact absurd q e
  rw[gb q];decide
 rw[decide_eq_false this,fC,if_neg e]
theorem fD.SD(ha:fD L a x)(h:L<=10000000000):iY a=some (qn x):=by
 obtain⟨n,d,e1,e2,h1,h2,f1,f2⟩:=II ha h;unfold iY;simp only[zeta',oz,oA,e1,e2,bD,NW f1 f2 h h1,h2]
theorem NX{n:Int}(hn:dc n):lG n=some (qn (n:Rat)):=by
 unfold lG;simp only[zeta',bD,from_eq hn];rw[LI]
theorem SE{n d:Int}(hn:dc n)(hd:dc d)(h0:d≠0):mO n d=some (qn (Rat.divInt n d)):=by
 unfold mO;simp only[zeta',oz,oA,bD,from_eq hn,from_eq hd,(EB h0 (mz hn) (mz hd) (by decide)).SD (by decide)]
end ops
end
section
open Go.Fw
theorem cG{J R:Type}{f:J->Option R}{g:(J->Option R)->Option R}{r:Option R}(h:g f=r):cj f g=r:=h
section ops
variable {K L M:Nat}{c:Qr}{a b:List Qr}{k:Rat}{f g:Nat->Rat}
theorem EJ(ha:c6 L a f)(h:L<=35184372088788)(m:Nat)(hm:m<=65536){body:Int×List Qr->Option ((Int×List Qr)⊕List Qr)}
  (hb:∀s,body s=(some (decide (s.1<((min a.length m:Nat):Int)))).bind λfg=>(bif fg then(cX a s.1).bind λq=>(cn q).bind λw=>(r7 s.2 s.1).bind λgy=>(stM s.2 gy w).bind λth=>(some (IntKind.i64.wrap (s.1+1))).bind λkW=>some (.inl (kW,th))else some (.inr s.2))):
  (cf body (0,List.replicate m qz)).bind (λr=>some r)=some (vq m f):=by
 refine bF (λj=>((j:Int),vq j f++List.replicate (m-j) qz)) (min a.length m) (vq m f) Y (λj hj=>?_) ?_ Y
 ·obtain⟨q,hq,rq⟩:=ha.get (show j<a.length by omega);rw[hb];refine aA Y<|cg (decide_eq_true (by show(j:Int)<_;omega))<|aA (bM hq)<|aA (rq.canon h).1<|aA (dZ (by rw[rN (by omega)];omega))<|aA (gR (by rw[rN (by omega)];omega))<|aA Y ?_;rw[Gq (by omega),b8 (by omega)]
 rw[hb];refine aA Y<|b9 (decide_eq_false (by show ¬((min a.length m:Nat):Int)<_;omega)) ?_;rw[SB (by omega) (λi h1 h2=>ha.z i (by omega))]
theorem NY(ha:c6 L a f)(h:L<=35184372088788)(la:a.length<=1000000)(n:Int):uP a n=some (vq (min n 65536).toNat f):=by
 unfold uP;refine aA Y ?_;by_cases hn:n<1
 ·refine cg (decide_eq_true hn) ?_;rw[show(min n 65536).toNat=0 by omega];rfl
 refine b9 (decide_eq_false hn) ?_;obtain⟨m,hm⟩:∃m:Nat,min n 65536=(m:Int):=⟨(min n 65536).toNat,by omega⟩;rw[hm];refine aA Y<|aA (o5 (by omega) (by omega))<|aA Y<|aA Y<|aA (congrArg some (CU a _)) ?_;rw[List.length_replicate];refine EJ ha h m (by omega) (λs=>?_);obtain⟨i,l⟩:=s;rfl
theorem LM(ha:c6 L a f)(h:L<=35184372088788)(la:a.length<=1000000)(n:Int):kM a n=some (vq (min n 65536).toNat f):=by
 rw[<-NY ha h la n];rfl
theorem xo{l:List Int}(hl:∀x∈l,dc x)(h:l.length<=1000000):cU l=some (vq l.length λi=>((l.getD i 0:Int):Rat))/\c6 2 (vq l.length λi=>((l.getD i 0:Int):Rat)) (λi=>((l.getD i 0:Int):Rat)):=by
 have hx:∀i,dc (l.getD i 0):=λi=>by
  by_cases hi:i<l.length
  ·rw[List.getD_eq_getElem?_getD,List.getElem?_eq_getElem hi];exact hl _ (List.getElem_mem hi)
  rw[List.getD_eq_getElem?_getD,List.getElem?_eq_none (by omega)];decide
 refine⟨?_,qW (λi _=>(mg (hx i)).2.fq) (λi hi=>?_) (by decide)⟩
 ·unfold cU;refine aA Y<|aA (o5 (by omega) (by omega))<|aA Y ?_;refine bF (λj=>((j:Int),vq j (λi=>((l.getD i 0:Int):Rat))++List.replicate (l.length-j) qz)) l.length (vq l.length λi=>((l.getD i 0:Int):Rat)) Y (λj hj=>?_) ?_ Y
  ·have e3:=(mg (hx j)).1;have h4:=Gq (h:=λi=>((l.getD i 0:Int):Rat)) hj;obtain⟨q3,h3⟩:∃q,qn ((l.getD j 0:Int):Rat)=q:=⟨_,Y⟩;rw[h3]at e3 h4;obtain⟨⟨_,_⟩,⟨_,_⟩⟩:=q3;refine aA Y<|cg (decide_eq_true (by omega))<|aA (bM (cY hj))<|aA e3<|aA (dZ (by rw[rN (by omega)];exact hj))<|aA (gR (by rw[rN (by omega)];exact hj))<|aA Y ?_;rw[b8 (by omega),h4]
  refine aA Y<|b9 (decide_eq_false (by omega)) ?_;simp
 show((l.getD i 0:Int):Rat)=0;rw[eN hi];rfl
end ops
end
section
open Go.Fw
theorem LN(l:List Qr)(hl:l.length<=1000000):∃b,jS l=some b/\(b=false->∀q∈l,q.num.w.length<=6/\q.den.w.length<=6):=by
 unfold jS;simp only[bD];refine me (λy=>∃i:Nat,y=(i:Int)/\i<=l.length/\∀z∈l.take i,z.num.w.length<=6/\z.den.w.length<=6) (λe=>(∃c,e=.inl c/\∀z∈l,z.num.w.length<=6/\z.den.w.length<=6)\/e=.inr true) (λy=>l.length-y.toNat) ?_ ⟨0,Y,by omega,by simp⟩ ?_
 ·rintro _ ⟨i,rfl,hi,ht⟩;by_cases hlt:i<l.length
  ·have g:l[i]? =some l[i]:=by simp
   obtain⟨q,hq⟩:∃q,l[i]=q:=⟨_,Y⟩;rw[hq]at g;obtain⟨z,w⟩:=q;obtain⟨b,hb,-⟩:=NG [z,w] (by simp);rw[show decide ((i:Int)<(l.length:Int))=true by simp[hlt],eL];simp only[bM g,bD,zeta',cj,hb];cases b
   ·rw[fC,bD];by_cases h1:6<z.w.length
    ·right;rw[decide_eq_true (by omega),eL,bD,eL];exact⟨_,Y,.inr Y⟩
    rw[decide_eq_false (by omega),fC,bD];by_cases h2:6<w.w.length
    ·right;rw[decide_eq_true (by omega),eL];exact⟨_,Y,.inr Y⟩
    left;rw[decide_eq_false (by omega),fC,b8 (by omega)];refine⟨_,Y,⟨i+1,Y,hlt,?_⟩,by omega⟩;rw[List.take_add_one,g];intro u hu;rcases List.mem_append.1 hu with h|h
    ·exact ht u h
    simp at h;rw[h];exact⟨by simp only[];omega,by simp only[];omega⟩
   right;exact⟨_,Y,.inr Y⟩
  right;rw[show decide ((i:Int)<(l.length:Int))=false by simp;omega,fC];rw[List.take_of_length_le (by omega)]at ht;exact⟨_,Y,.inl ⟨_,Y,ht⟩⟩
 rintro e (⟨c,rfl,he⟩|rfl)
 ·exact⟨false,Y,λ_=>he⟩
 exact⟨true,rfl,λh=>by cases h⟩
abbrev OkQ(q:Qr):Prop:=OkZ q.num/\OkZ q.den
theorem CV{q:Qr}{L:Nat}(h:OkQ q)(h1:q.num.w.length<=L)(h2:q.den.w.length<=L)(hL:1<=L):fD L q (qv q):=⟨h.1.2.2,h.2.2.2,h1,h2,hL,Y⟩
end
section
open Go.Fw
theorem dT{p:Prop}[Decidable p](h:p):(some (decide p):Option Bool)=some true:=congrArg some (decide_eq_true h)
theorem dF{p:Prop}[Decidable p](h:¬p):(some (decide p):Option Bool)=some false:=congrArg some (decide_eq_false h)
theorem z6{β:Type}{x:Option Bool}{f:Bool->Option β}{r:Option β}{y:Option Bool}(h:x=some true)(hf:f true=r):(bif true then x else y).bind f=r:=by rw[eL,h];exact hf
theorem EX{β:Type}{b c:Bool}{x:Option Bool}{f:Bool->Option β}{r:Option β}(h:b=false->x=some c)(hf:f (b||c)=r):(bif b then some true else x).bind f=r:=by
 cases b
 ·rw[fC,h rfl];exact hf
 rw[eL];exact hf
theorem acg{β:Type}{b c:Bool}{x:Option Bool}{f:Bool->Option β}{r:Option β}(h:b=true->x=some c)(hf:f (b&&c)=r):(bif b then x else some false).bind f=r:=by
 cases b
 ·rw[fC];exact hf
 rw[eL,h rfl];exact hf
section ops
variable {K L M:Nat}{a b c:Qr}{x y z:Rat}
theorem fD.add'(ha:fD L a x)(hb:fD M b y)(h:L+M<=35184372088768):∃q,jh a b=some q/\fD (L+M+1) q (x+y):=⟨_,ha.add hb h⟩
theorem int'{n:Int}(hn:dc n):∃q,dQ n=some q/\fD 2 q (n:Rat):=⟨_,mg hn⟩
end ops
theorem c6.val{L:Nat}{v:List Qr}{f:Nat->Rat}(h:c6 L v f)(i:Nat):f i=tY v i:=(h.at i).v.symm
abbrev SF(v:List Qr):Prop:=v.length*64<=140737488351232/\∀q∈v,OkQ q
theorem ach{q:Qr}(h:OkQ q):fD 35184372087808 q (qv q):=CV h (by have:=h.1.2.1;omega) (by have:=h.2.2.1;omega) (by decide)
theorem VL{v:List Qr}(h:SF v):c6 35184372087808 v (tY v):=CT (λq hq=>ach (h.2 q hq)) (by decide)
end
section
open Go.Fw
def iH{α:Type}(f:Nat->α)(n k:Nat)(z:α):List α:=(List.range k).map f++List.replicate (n-k) z
theorem rO{α:Type}{f:Nat->α}{n k:Nat}{z:α}(hk:k<=n):(iH f n k z).length=n:=by simp[iH];omega
theorem pq{α:Type}{f:Nat->α}{n:Nat}{z:α}:iH f n 0 z=List.replicate n z:=by simp[iH]
theorem rP{α:Type}{f:Nat->α}{n:Nat}{z:α}:iH f n n z=(List.range n).map f:=by simp[iH]
theorem rQ{α:Type}{f:Nat->α}{n k:Nat}{z:α}(hk:k<n):(iH f n k z).set k (f k)=iH f n (k+1) z:=by
 unfold iH;rw[show n-k=(n-(k+1))+1 by omega,List.replicate_succ,List.set_append_right _ _ (by simp),List.length_map,List.length_range,Nat.sub_self,List.range_succ,List.map_append,List.append_assoc];rfl
def mq(n:Nat)(ln:Nat->Nat)(F:Nat->Nat->Rat):List (List Qr):=(List.range n).map λi=>vq (ln i) (F i)
theorem jY(n:Nat)(ln:Nat->Nat)(F:Nat->Nat->Rat):(mq n ln F).length=n:=by simp[mq]
theorem SG{n i:Nat}{ln:Nat->Nat}{F:Nat->Nat->Rat}(hi:i<n):(mq n ln F)[i]? =some (vq (ln i) (F i)):=by simp[mq,hi]
structure kf (L:Nat) (m:List (List Qr)) (F:Nat->Nat->Rat):Prop where
 e:∀i v,m[i]? =some v->c6 L v (F i)
 z:∀i,m.length<=i->∀k,F i k=0
 l1:1<=L
theorem kf.row{L:Nat}{m:List (List Qr)}{F:Nat->Nat->Rat}(h:kf L m F)(i:Nat):c6 L (m.getD i []) (F i):=by
 by_cases hi:i<m.length
 ·rw[List.getD_eq_getElem?_getD,List.getElem?_eq_getElem hi];exact h.e i _ (List.getElem?_eq_getElem hi)
 rw[List.getD_eq_getElem?_getD,List.getElem?_eq_none (by omega)];exact(c6.nil h.l1).congr (λk=>(h.z i (by omega) k).symm)
theorem LO{L n:Nat}{ln:Nat->Nat}{F:Nat->Nat->Rat}(hf:∀i,i<n->∀k,k<ln i->FQ L (F i k))(hz:∀i,i<n->∀k,ln i<=k->F i k=0)(hz':∀i,n<=i->∀k,F i k=0)(h1:1<=L):kf L (mq n ln F) F:=by
 refine⟨λi v e=>?_,λi hi=>hz' i (by rwa[jY]at hi),h1⟩;have hi:i<n:=by have:=(List.getElem?_eq_some_iff.1 e).1;rwa[jY]at this
 rw[SG hi]at e;cases e;exact qW (hf i hi) (hz i hi) h1
def Gr(m:List (List Qr))(i:Nat):Nat->Rat:=tY (m.getD i [])
theorem NZ{L:Nat}{m:List (List Qr)}(h:∀v∈m,c6 L v (tY v))(h1:1<=L):kf L m (Gr m):=by
 refine⟨λi v e=>?_,λi hi k=>?_,h1⟩
 ·have:Gr m i=tY v:=by unfold Gr;rw[List.getD_eq_getElem?_getD,e];rfl
  rw[this];exact h v (List.mem_of_getElem? e)
 unfold Gr;rw[List.getD_eq_getElem?_getD,List.getElem?_eq_none hi];exact(c6.nil (L:=1) (by decide)).val k |>.symm
theorem LP{L:Nat}{v:List Qr}{f:Nat->Rat}(h:c6 L v f):kf L [v] (λi k=>if i=0 then f k else 0):=by
 refine⟨λi u e=>?_,λi hi k=>if_neg (by simp at hi;omega),h.l1⟩
 match i,e with
 |0,e=>cases e;exact h.congr (λk=>(if_pos rfl).symm)
theorem mkm{n:Nat}(h:n<=1000000):C0 24 ((n:Nat):Int) ([]:List Qr)=some (List.replicate n []):=o5 (by decide) (by omega)
theorem SH(n:Nat)(h:n<=1000000):C0 64 ((n:Nat):Int) (⟨⟨false,[]⟩,⟨false,[]⟩⟩:Qr)=some (List.replicate n ⟨⟨false,[]⟩,⟨false,[]⟩⟩):=o5 (by omega) (by omega)
theorem vA{L M N:Nat}{a b:List Qr}{f g:Nat->Rat}(ha:c6 L a f)(hb:c6 M b g)(h:min a.length b.length<=N):bQ (λi=>f i*g i) (min a.length b.length)=bQ (λi=>f i*g i) N:=by
 rw[EE h (λi h1 _=>by
  rcases Nat.lt_or_ge i a.length with q|q
  ·rw[hb.z i (by omega)];grind
  rw[ha.z i q];grind)]
theorem z7{E:Type}{body:Nat->Unit->Option (Unit⊕E)}{n:Nat}{p:Nat->Prop}[DecidablePred p]{e:E}(h:∀k,k<n->body k ()=some (if p k then .inl ()else .inr e)):lN body n ()=some (if ∀k,k<n->p k then .inl ()else .inr e):=by
 induction n with
 |zero=>rw[lN,if_pos (λk hk=>by omega)]
 |succ n ih=>
  rw[lN,ih (λk hk=>h k (by omega))];by_cases h1:∀k,k<n->p k
  ·rw[if_pos h1];show body n ()=_;rw[h n (by omega)];by_cases h2:p n
   ·rw[if_pos h2,if_pos];intro k hk;rcases Nat.lt_or_ge k n with q|q
    ·exact h1 k q
    obtain rfl:k=n:=by omega
    exact h2
   rw[if_neg h2,if_neg (λq=>h2 (q n (by omega)))]
  rw[if_neg h1,if_neg (λq=>h1 (λk hk=>q k (by omega)))];rfl
section ops
variable {K L M:Nat}{c:Qr}{k:Rat}{a b:List (List Qr)}{F G:Nat->Nat->Rat}{x:List Qr}{f:Nat->Rat}
theorem N0(a:List (List Qr))(i:Nat):kG a (i:Int)=some (a.getD i []):=by
 unfold kG;refine cG<|aA (dF (by omega)) ?_;by_cases h:i<a.length
 ·exact aA (a:=false) (b9 Y<|aA Y<|aA (dF (by omega)) Y)<|b9 Y<|aA (bM (cY h)) Y
 rw[eN (by omega)];exact aA (a:=true) (b9 Y<|aA Y<|aA (dT (by omega)) Y)<|cg Y Y
def mZ(m:List (List Qr)):Nat:=m.foldl (λn v=>max n v.length) 0
theorem oB{m:List (List Qr)}{n:Nat}:mZ m<=n↔∀v∈m,v.length<=n:=by
 have key:∀(l:List (List Qr)) (s:Nat),l.foldl (λn v=>max n v.length) s<=n↔s<=n/\∀v∈l,v.length<=n:=by
  intro l
  induction l with
  |nil=>intro s;simp
  |cons v l ih=>
   intro s;rw[List.foldl_cons,ih];simp only[List.mem_cons,forall_eq_or_imp];constructor
   ·rintro⟨h1,h2⟩;exact⟨by omega,by omega,h2⟩
   rintro⟨h1,h2,h3⟩;exact⟨by omega,h3⟩
 unfold mZ;rw[key];simp
theorem Qg(m:List (List Qr))(h:m.length<=9223372036854775806):kH m=some (mZ m:Int):=by
 unfold kH;refine aA Y ?_;refine bF (λj=>(((m.take j).foldl (λn v=>max n v.length) 0:Nat),(j:Int))) m.length ((mZ m:Nat):Int) (by simp) (λj hj=>?_) ?_ Y
 ·refine aA (dT (by omega))<|cg Y<|aA (bM (List.getElem?_eq_getElem hj))<|aA Y<|aA Y<|aA (congrArg some (b8 (by omega))) ?_;rw[List.take_add_one,List.getElem?_eq_getElem hj,List.foldl_append];simp only[Option.toList_some,List.foldl_cons,List.foldl_nil];congr 3;omega
 refine aA (dF (by omega))<|b9 Y ?_;rw[List.take_length];rfl
theorem LQ(h:kf L a F)(hL:L<=35184372088788)(i j:Nat):oh a (i:Int) (j:Int)=some (qn (F i j)):=by
 unfold oh;refine aA (N0 a i)<|cG<|aA (dF (by omega)) ?_;have hr:=h.row i;generalize a.getD i []=v at hr;by_cases hj:j<v.length
 ·obtain⟨q,e1,r1⟩:=hr.get hj;have e2:=(r1.canon hL).1;exact aA (a:=false) (b9 Y<|aA Y<|aA (dF (by omega)) Y)<|b9 Y<|aA (bM e1)<|aA e2 Y
 rw[hr.z j (by omega)];exact aA (a:=true) (b9 Y<|aA Y<|aA (dT (by omega)) Y)<|cg Y Y
theorem VM{S:Nat->Rat}{R:Nat}(row:∀i,i<a.length->dR (a.getD i []) x=some (qn (S i))/\fD R (qn (S i)) (S i))(hz:∀i,a.length<=i->S i=0)(h1:1<=R)(hn:a.length<=1000000):
  gN a x=some (vq a.length S)/\c6 R (vq a.length S) S:=by
 constructor
 ·unfold gN;refine aA Y<|aA (SH _ hn)<|aA Y ?_;refine bF (λj=>((j:Int),iH (λi=>qn (S i)) a.length j ⟨⟨false,[]⟩,⟨false,[]⟩⟩)) a.length (vq a.length S) (by rw[pq];rfl) (λj hj=>?_) ?_ Y
  ·have e1:=(row j hj).1;have hl:(iH (λi=>qn (S i)) a.length j ⟨⟨false,[]⟩,⟨false,[]⟩⟩).length=a.length:=rO (by omega);have hst:∀q,qn (S j)=q->(iH (λi=>qn (S i)) a.length j ⟨⟨false,[]⟩,⟨false,[]⟩⟩).set j q=iH (λi=>qn (S i)) a.length (j+1) ⟨⟨false,[]⟩,⟨false,[]⟩⟩:=by rintro q rfl;exact rQ hj
   generalize hq:qn (S j)=q at e1;have hst:=hst q hq;refine aA (dT (by omega))<|cg Y<|aA (bM (cY (d:=[]) hj))<|aA e1<|aA (dZ (show j<_ by rw[hl];exact hj))<|aA (gR (show j<_ by rw[hl];exact hj))<|aA (congrArg some (b8 (by omega))) ?_;rw[<-hst]
  refine aA (dF (by omega))<|b9 Y ?_;rw[rP];rfl
 exact qW (λi hi=>(row i hi).2.fq) hz h1
theorem aci(h:kf L a F)(hx:c6 M x f){N:Nat}(hN:∀v∈a,min v.length x.length<=N)(hL:(N+2)*(L+M+1)<=35184372088768)(hn:a.length<=1000000):
  gN a x=some (vq a.length (λi=>bQ (λj=>F i j*f j) N))/\c6 (N*(L+M+1)+1) (vq a.length (λi=>bQ (λj=>F i j*f j) N)) (λi=>bQ (λj=>F i j*f j) N):=by
 have row:∀i,i<a.length->dR (a.getD i []) x=some (qn (bQ (λj=>F i j*f j) N))/\fD (N*(L+M+1)+1) (qn (bQ (λj=>F i j*f j) N)) (bQ (λj=>F i j*f j) N):=λi hi=>by
  have hm:=hN _ (List.mem_of_getElem? (cY (d:=[]) hi));have h1:=NM (h.row i) hx (Nat.le_trans (Nat.mul_le_mul_right _ (by omega)) hL);rw[vA (h.row i) hx hm]at h1;exact⟨h1.1,h1.2.mono (Nat.add_le_add_right (Nat.mul_le_mul_right _ hm) 1)⟩
 constructor
 ·unfold gN;refine aA Y<|aA (SH _ hn)<|aA Y ?_;refine bF (λj=>((j:Int),iH (λi=>qn (bQ (λj=>F i j*f j) N)) a.length j ⟨⟨false,[]⟩,⟨false,[]⟩⟩)) a.length (vq a.length (λi=>bQ (λj=>F i j*f j) N)) (by rw[pq];rfl) (λj hj=>?_) ?_ Y
  ·have e1:=(row j hj).1;have hl:(iH (λi=>qn (bQ (λj=>F i j*f j) N)) a.length j ⟨⟨false,[]⟩,⟨false,[]⟩⟩).length=a.length:=rO (by omega);have hst:∀q,qn (bQ (λi=>F j i*f i) N)=q->(iH (λi=>qn (bQ (λj=>F i j*f j) N)) a.length j ⟨⟨false,[]⟩,⟨false,[]⟩⟩).set j q=iH (λi=>qn (bQ (λj=>F i j*f j) N)) a.length (j+1) ⟨⟨false,[]⟩,⟨false,[]⟩⟩:=by rintro q rfl;exact rQ hj
   generalize hq:qn (bQ (λi=>F j i*f i) N)=q at e1;have hst:=hst q hq;refine aA (dT (by omega))<|cg Y<|aA (bM (cY (d:=[]) hj))<|aA e1<|aA (dZ (show j<_ by rw[hl];exact hj))<|aA (gR (show j<_ by rw[hl];exact hj))<|aA (congrArg some (b8 (by omega))) ?_;rw[<-hst]
  refine aA (dF (by omega))<|b9 Y ?_;rw[rP];rfl
 refine qW (λi hi=>(row i hi).2.fq) (λi hi=>?_) (by omega);rw[fQ (k:=λ_=>0) (λj _=>by rw[h.z i hi j];grind),rM]
theorem SI(ha:kf L a F)(hb:kf M b G)(h:L+M<=35184372088768):iA a b=some (decide (∀i,i<max a.length b.length->∀j,j<max (a.getD i []).length (b.getD i []).length->F i j=G i j)):=by
 unfold iA;refine aA (z7 (p:=λi=>∀j,j<max (a.getD i []).length (b.getD i []).length->F i j=G i j) (e:=false) (λi hi=>?_)) ?_
 ·have e1:=Wz (ha.row i) (hb.row i) h;refine aA Y<|aA Y<|aA e1<|aA Y ?_;by_cases q:∀j,j<max (a.getD i []).length (b.getD i []).length->F i j=G i j
  ·rw[if_pos q];exact b9 (by rw[decide_eq_true q];rfl) Y
  rw[if_neg q];exact cg (by rw[decide_eq_false q];rfl) Y
 by_cases q:∀i,i<max a.length b.length->∀j,j<max (a.getD i []).length (b.getD i []).length->F i j=G i j
 ·rw[if_pos q,decide_eq_true q]
 rw[if_neg q,decide_eq_false q]
theorem HB(ha:kf L a F)(hb:kf M b G)(h:L+M<=35184372088768)(e:∀i j,F i j=G i j):iA a b=some true:=by
 rw[SI ha hb h,decide_eq_true (λi _ j _=>e i j)]
theorem HC{l:List (List Int)}(hl:∀v∈l,v.length<=1000/\∀y∈v,dc y)(hn:l.length<=1000):ek l=some (mq l.length (λi=>(l.getD i []).length) (λi j=>(((l.getD i []).getD j 0:Int):Rat)))/\kf 2 (mq l.length (λi=>(l.getD i []).length) (λi j=>(((l.getD i []).getD j 0:Int):Rat))) (λi j=>(((l.getD i []).getD j 0:Int):Rat)):=by
 have hw:∀i,(l.getD i []).length<=1000/\∀y∈l.getD i [],dc y:=λi=>by
  by_cases hi:i<l.length
  ·exact hl _ (List.mem_of_getElem? (cY (d:=[]) hi))
  rw[eN (by omega)];simp
 constructor
 ·unfold ek;refine aA Y<|aA (mkm (by omega))<|aA Y ?_;refine bF (λj=>((j:Int),iH (λi=>vq (l.getD i []).length (λj=>(((l.getD i []).getD j 0:Int):Rat))) l.length j [])) l.length (mq l.length (λi=>(l.getD i []).length) (λi j=>(((l.getD i []).getD j 0:Int):Rat))) (by rw[pq];rfl) (λj hj=>?_) ?_ Y
  ·have e1:=(xo (hw j).2 (by have:=(hw j).1;omega)).1;have hl:(iH (λi=>vq (l.getD i []).length (λj=>(((l.getD i []).getD j 0:Int):Rat))) l.length j []).length=l.length:=rO (by omega);refine aA (dT (by omega))<|cg Y<|aA (bM (cY (d:=[]) hj))<|aA e1<|aA (dZ (show j<_ by rw[hl];exact hj))<|aA (gR (show j<_ by rw[hl];exact hj))<|aA (congrArg some (b8 (by omega))) ?_;rw[<-rQ hj]
  refine aA (dF (by omega))<|b9 Y ?_;rw[rP];rfl
 refine LO (λi hi j hj=>(xo (hw i).2 (by have:=(hw i).1;omega)).2.fq j) (λi hi j hj=>by rw[eN hj];rfl) (λi hi j=>by rw[eN hi];rfl) (by decide)
end ops
end
section
open Go.Fw
theorem HD{α:Type}{b:Bool}{x y r:α}(ht:b=true->x=r)(hf:b=false->y=r):(bif b then x else y)=r:=by
 cases b
 ·rw[fC];exact hf Y
 rw[eL];exact ht Y
theorem Bm{E:Type}{body:Int->Option (Int⊕(Unit⊕E))}{n:Nat}{p:Nat->Prop}[DecidablePred p]{e:E}(h:∀k:Nat,k<n->body (k:Int)=some (if p k then .inl ((k+1:Nat):Int)else .inr (.inr e)))(hn:body (n:Int)=some (.inr (.inl ()))):
  cf body 0=some (if ∀k,k<n->p k then .inl ()else .inr e):=by
 obtain⟨r,h1,h2⟩:=vS (body:=body) (s:=0) (λs=>∃k:Nat,s=(k:Int)/\k<=n/\∀i,i<k->p i) (λr=>(r=.inl ()/\∀k,k<n->p k)\/(r=.inr e/\¬∀k,k<n->p k)) (λs=>n-s.toNat) (by
  rintro _ ⟨k,rfl,hk,hp⟩;by_cases hlt:k<n
  ·by_cases hpk:p k
   ·refine .inl ⟨_,by rw[h k hlt,if_pos hpk],⟨k+1,Y,hlt,λi hi=>?_⟩,by simp only[Int.toNat_natCast];omega⟩;rcases Nat.lt_or_ge i k with q|q
    ·exact hp i q
    obtain rfl:i=k:=by omega
    exact hpk
   exact .inr ⟨_,by rw[h k hlt,if_neg hpk],.inr ⟨Y,λq=>hpk (q k hlt)⟩⟩
  obtain rfl:k=n:=by omega
  exact .inr ⟨_,hn,.inl ⟨Y,hp⟩⟩) ⟨0,Y,by omega,λi hi=>by omega⟩
 rw[h1];rcases h2 with⟨rfl,h2⟩|⟨rfl,h2⟩
 ·rw[if_pos h2]
 rw[if_neg h2]
def ig(n:Nat)(f:Nat->Rat)(i:Nat):Rat:=if i<n then f i else 0
theorem nI{n i:Nat}{f:Nat->Rat}(h:i<n):ig n f i=f i:=if_pos h
theorem yd{n i:Nat}{f:Nat->Rat}(h:n<=i):ig n f i=0:=if_neg (by omega)
theorem SJ(n:Nat)(f:Nat->Rat):vq n f=vq n (ig n f):=qV (λi hi=>(nI hi).symm)
theorem CW{L n:Nat}{f:Nat->Rat}(h:∀i,i<n->FQ L (f i))(h1:1<=L):c6 L (vq n f) (ig n f):=by
 rw[SJ];exact qW (λi hi=>by rw[nI hi];exact h i hi) (λi hi=>yd hi) h1
def ye(n:Int)(ob rw:List (List Qr))(bd:List Qr):Prop:=0<=n/\n<=64/\1<=ob.length/\ob.length<=4/\rw.length<=128/\bd.length=rw.length/\(mZ ob:Int)<=n/\(mZ rw:Int)<=n
instance(n:Int)(ob rw:List (List Qr))(bd:List Qr):Decidable (ye n ob rw bd):=by unfold ye;exact inferInstance
theorem qY{n:Int}{ob rw:List (List Qr)}{bd:List Qr}(h1:ob.length<=9223372036854775806)(h2:rw.length<=9223372036854775806):iB ⟨n,ob,rw,bd⟩=some (decide (ye n ob rw bd)):=by
 unfold iB gO;refine aA (aA Y<|aA Y<|aA Y Y)<|cG<|aA Y<|EX (λ_=>aA Y Y)<|EX (λ_=>aA Y Y)<|EX (λ_=>aA Y Y)<|HD (λh=>?_) (λh=>cG<|aA Y<|EX (λ_=>aA Y Y)<|HD (λh'=>?_) (λh'=>cG<|aA (Qg ob h1)<|aA Y<|acg (λ_=>aA (Qg rw h2)<|aA Y Y) ?_))
 ·congr 1;symm;rw[decide_eq_false_iff_not];simp only[Bool.or_eq_true,decide_eq_true_eq]at h;unfold ye;omega
 ·congr 1;symm;rw[decide_eq_false_iff_not];simp only[Bool.or_eq_true,decide_eq_true_eq]at h';unfold ye;omega
 congr 1;simp only[Bool.or_eq_false_iff,decide_eq_false_iff_not]at h h';rw[<-Bool.decide_and,decide_eq_decide];unfold ye;omega
def IQ(n:Int)(ob rw:List (List Qr))(bd x:List Qr)(F:Nat->Nat->Rat)(g f:Nat->Rat)(N:Nat):Prop:=ye n ob rw bd/\(x.length:Int)<=n/\(∀i,i<x.length->0<=f i)/\∀i,i<rw.length->bQ (λj=>F i j*f j) N<=g i
instance(n:Int)(ob rw:List (List Qr))(bd x:List Qr)(F:Nat->Nat->Rat)(g f:Nat->Rat)(N:Nat):Decidable (IQ n ob rw bd x F g f N):=by unfold IQ;exact inferInstance
section lps
variable {K L M N:Nat}{n:Int}{ob rw:List (List Qr)}{bd x y:List Qr}{O F:Nat->Nat->Rat}{g f:Nat->Rat}
theorem vB(hr:kf L rw F)(hb:c6 K bd g)(hx:c6 M x f)(hN:∀v∈rw,min v.length x.length<=N)(hL:(N+2)*(L+M+1)<=2000000000)(hK:K<=35184372088658)(h1:ob.length<=9223372036854775806)(h2:rw.length<=9223372036854775806)(h3:x.length<=1000000):
  dY ⟨n,ob,rw,bd⟩ x=some (decide (IQ n ob rw bd x F g f N)):=by
 have row:∀i,i<rw.length->∃q,dR (rw.getD i []) x=some q/\fD (N*(L+M+1)+1) q (bQ (λj=>F i j*f j) N):=λi hi=>by
  have hm:=hN _ (List.mem_of_getElem? (cY (d:=[]) hi));have h1:=NM (hr.row i) hx (Nat.le_trans (Nat.mul_le_mul_right _ (show min (rw.getD i []).length x.length+2<=N+2 by omega)) (by omega));rw[vA (hr.row i) hx hm]at h1;exact⟨_,h1.1,h1.2.mono (Nat.add_le_add_right (Nat.mul_le_mul_right _ hm) 1)⟩
 have hsz:N*(L+M+1)+1<=35184372088788:=by rw[Nat.add_mul]at hL;omega
 unfold dY;refine cG<|aA (qY h1 h2)<|aA Y<|EX (λ_=>aA Y<|aA Y Y)<|HD (λh=>?_) (λh=>aA Y ?_)
 ·congr 1;symm;rw[decide_eq_false_iff_not];simp only[Bool.or_eq_true,Bool.not_eq_true',decide_eq_true_eq,decide_eq_false_iff_not]at h;unfold IQ;rintro⟨q1,q2,_⟩;rcases h with h|h
  ·exact h q1
  omega
 simp only[Bool.or_eq_false_iff,Bool.not_eq_false',decide_eq_true_eq,decide_eq_false_iff_not]at h;refine aA (Bm (p:=λi=>0<=f i) (e:=false) (n:=x.length) (λi hi=>?_) (aA (dF (by omega))<|b9 Y Y)) ?_
 ·obtain⟨q,e1,r1⟩:=hx.get hi;have e2:=r1.sign (by have:=Nat.mul_le_mul_right (L+M+1) (show 1<=N+2 by omega);omega);refine aA (dT (by omega))<|cg Y<|aA (bM e1)<|aA e2<|aA Y ?_;by_cases hp:0<=f i
  ·rw[if_pos hp];exact b9 (decide_eq_false (λq=>Rat.not_lt.2 hp (EA.1 q)))<|aA (congrArg some (b8 (by omega))) Y
  rw[if_neg hp];exact cg (decide_eq_true (EA.2 (Rat.not_le.1 hp))) Y
 by_cases hp:∀i,i<x.length->0<=f i
 ·rw[if_pos hp];show(lN _ _ ()).bind _=_;refine aA (z7 (p:=λi=>bQ (λj=>F i j*f j) N<=g i) (e:=false) (λi hi=>?_)) ?_
  ·obtain⟨q,e1,r1⟩:=row i hi;have rb:=hb.gd i;have e2:=r1.SA rb hsz (by omega);generalize hbq:bd.getD i (⟨⟨false,[]⟩,⟨false,[]⟩⟩:Qr)=bq at e2;refine aA Y<|aA (a:=bq) (by first|rfl|exact congrArg some hbq)<|aA e1<|aA e2<|aA Y ?_;by_cases hs:bQ (λj=>F i j*f j) N<=g i
   ·rw[if_pos hs];refine b9 (decide_eq_false (λq=>?_)) Y;exact Rat.not_lt.2 hs (vr.1 (by omega))
   rw[if_neg hs];exact cg (decide_eq_true (NH (Rat.not_le.1 hs))) Y
  by_cases hq:∀i,i<rw.length->bQ (λj=>F i j*f j) N<=g i
  ·rw[if_pos hq,decide_eq_true (show IQ n ob rw bd x F g f N from⟨h.1,by omega,hp,hq⟩)]
  rw[if_neg hq,decide_eq_false (show ¬IQ n ob rw bd x F g f N from λq=>hq q.2.2.2)]
 rw[if_neg hp,decide_eq_false (show ¬IQ n ob rw bd x F g f N from λq=>hp q.2.2.1)]
theorem eval_eq(ho:kf L ob O)(hx:c6 M x f)(hN:∀v∈ob,min v.length x.length<=N)(hL:(N+2)*(L+M+1)<=35184372088768)(hn:ob.length<=1000000):
  eR ⟨n,ob,rw,bd⟩ x=some (vq ob.length (λi=>bQ (λj=>O i j*f j) N))/\c6 (N*(L+M+1)+1) (vq ob.length (λi=>bQ (λj=>O i j*f j) N)) (λi=>bQ (λj=>O i j*f j) N):=by
 obtain⟨h1,h2⟩:=aci ho hx hN hL hn;exact⟨aA h1 Y,h2⟩
theorem LR(hr:kf L rw F)(hb:c6 K bd g)(hx:c6 M x f)(hN:∀v∈rw,min v.length x.length<=N)(hL:(N+2)*(L+M+1)<=2000000000)(hK:K+(N*(L+M+1)+1)<=35184372088768)(h2:rw.length<=1000000):
  mL ⟨n,ob,rw,bd⟩ x=some (vq rw.length (λi=>g i-bQ (λj=>F i j*f j) N))/\∀i,i<rw.length->FQ (K+(N*(L+M+1)+1)+1) (g i-bQ (λj=>F i j*f j) N):=by
 have row:∀i,i<rw.length->∃q,dR (rw.getD i []) x=some q/\fD (N*(L+M+1)+1) q (bQ (λj=>F i j*f j) N):=λi hi=>by
  have hm:=hN _ (List.mem_of_getElem? (cY (d:=[]) hi));have h1:=NM (hr.row i) hx (Nat.le_trans (Nat.mul_le_mul_right _ (show min (rw.getD i []).length x.length+2<=N+2 by omega)) (by omega));rw[vA (hr.row i) hx hm]at h1;exact⟨_,h1.1,h1.2.mono (Nat.add_le_add_right (Nat.mul_le_mul_right _ hm) 1)⟩
 have hsz:=hK;refine⟨?_,λi hi=>?_⟩
 ·unfold mL;refine mQ (λj=>vq j (λi=>g i-bQ (λj=>F i j*f j) N)) Y (λi hi=>?_) Y;obtain⟨q,e1,r1⟩:=row i hi;have rb:=hb.gd i;have e2:=(rb.sub r1 hsz).1;generalize hbq:bd.getD i (⟨⟨false,[]⟩,⟨false,[]⟩⟩:Qr)=bq at e2;have e3:sW 64 (vq i (λi=>g i-bQ (λj=>F i j*f j) N)) [qn (g i-bQ (λj=>F i j*f j) N)]=some (vq (i+1) (λi=>g i-bQ (λj=>F i j*f j) N)):=by rw[va (by decide) (by rw[cM];have:i<rw.length:=hi;omega),vu]
  generalize qn (g i-bQ (λj=>F i j*f j) N)=q2 at e2 e3;exact aA Y<|aA (a:=bq) (by first|rfl|exact congrArg some hbq)<|aA e1<|aA e2<|aA e3 Y
 obtain⟨q,e1,r1⟩:=row i hi;exact((hb.gd i).sub r1 hsz).2.fq
def HE(n:Int)(rw:List (List Qr))(bd:List Qr)(O F:Nat->Nat->Rat)(g:Nat->Rat):Lr:=
 ⟨(rw.length:Int),[vq bd.length (λi=>-g i)],mq n.toNat (λ_=>rw.length) (λk i=>-F i k),vq n.toNat (λk=>-O 0 k)⟩
theorem N1(h1:ob.length<=9223372036854775806)(h2:rw.length<=9223372036854775806)(h:¬(ye n ob rw bd/\rw.length<=64)):iK ⟨n,ob,rw,bd⟩=some (⟨0,[],[],[]⟩,1):=by
 unfold iK;refine cG<|aA (qY h1 h2)<|aA Y<|EX (λ_=>aA Y<|aA Y Y)<|EX (λ_=>aA Y Y)<|cg ?_ Y;simp only[Bool.or_eq_true,Bool.not_eq_true',decide_eq_true_eq,decide_eq_false_iff_not];by_cases hv:ye n ob rw bd
 ·have:¬rw.length<=64:=λq=>h ⟨hv,q⟩;exact .inl (.inr (by omega))
 exact .inl (.inl hv)
theorem CX(ho:kf M ob O)(hr:kf L rw F)(hb:c6 K bd g)(hM:M<=35184372088768)(hL:L<=35184372088768)(hK:K<=35184372088708)(hv:ye n ob rw bd)(Iu:rw.length<=64):iK ⟨n,ob,rw,bd⟩=some (HE n rw bd O F g,0):=by
 have sN:=hv;unfold ye at sN;obtain⟨m,rfl⟩:∃m:Nat,n=(m:Int):=⟨n.toNat,by omega⟩;have hneg:∀i,(((-1:Int):Rat))*g i=-g i:=λi=>by
  have:(((-1:Int):Rat))=-1:=by decide
  rw[this];grind
 obtain⟨c,e1,r1⟩:=int' (n:=-1) (by decide);have e2:=(SC r1 hb (by omega) (by omega)).1;rw[qV (k:=λi=>-g i) (λi _=>hneg i)]at e2;unfold iK;refine cG<|aA (qY (by omega) (by omega))<|aA Y<|EX (λ_=>aA Y<|aA Y Y)<|EX (λ_=>aA Y Y)<|b9 ?_<|aA Y<|aA e1<|aA e2 ?_
 ·simp only[Bool.or_eq_false_iff,Bool.not_eq_false',decide_eq_true_eq,decide_eq_false_iff_not];exact⟨⟨hv,by omega⟩,by omega⟩
 refine bF (λk=>((k:Int),mq k (λ_=>rw.length) (λk i=>-F i k),vq k (λk=>-O 0 k))) m (mq m (λ_=>rw.length) (λk i=>-F i k),vq m (λk=>-O 0 k)) Y (λk hk=>?_) (aA (dF (by omega))<|b9 Y Y) Y;refine aA (dT (by omega))<|cg Y<|aA (SH _ (by omega))<|aA Y ?_;have adz:∀q x,fD M q x->∃p,ji q=some p/\p=qn (-x):=λq x h=>⟨_,(h.neg (by omega)).1,Y⟩;refine bF (λj=>((j:Int),iH (λi=>qn (-F i k)) rw.length j ⟨⟨false,[]⟩,⟨false,[]⟩⟩)) rw.length (vq rw.length (λi=>-F i k)) (by rw[pq];rfl) (λj hj=>?_) ?_ ?_
 ·have e3:=LQ hr (by omega) j k;have e4:=(((hr.row j).fq k).rep hr.l1).neg (by omega);have e4:=e4.1;have hl:(iH (λi=>qn (-F i k)) rw.length j ⟨⟨false,[]⟩,⟨false,[]⟩⟩).length=rw.length:=rO (by omega);have hst:∀q,qn (-F j k)=q->(iH (λi=>qn (-F i k)) rw.length j ⟨⟨false,[]⟩,⟨false,[]⟩⟩).set j q=iH (λi=>qn (-F i k)) rw.length (j+1) ⟨⟨false,[]⟩,⟨false,[]⟩⟩:=by rintro q rfl;exact rQ hj
  generalize qn (F j k)=q at e3 e4;generalize hq:qn (-F j k)=q2 at e4;have hst:=hst q2 hq;refine aA (dT (by rw[List.length_replicate];omega))<|cg Y<|aA e3<|aA e4<|aA (dZ (show j<_ by rw[hl];exact hj))<|aA (gR (show j<_ by rw[hl];exact hj))<|aA (congrArg some (b8 (by omega))) ?_;rw[<-hst]
 ·refine aA (dF (by rw[List.length_replicate];omega))<|b9 Y ?_;rw[rP];rfl
 have e3:=LQ ho (by omega) 0 k;have e4:=((((ho.row 0).fq k).rep ho.l1).neg (by omega)).1;have e5:sW 24 (mq k (λ_=>rw.length) (λk i=>-F i k)) [vq rw.length (λi=>-F i k)]=some (mq (k+1) (λ_=>rw.length) (λk i=>-F i k)):=by
  rw[va (by decide) (by rw[jY];omega)];unfold mq;rw[List.range_succ,List.map_append];rfl
 have e6:sW 64 (vq k (λk=>-O 0 k)) [qn (-O 0 k)]=some (vq (k+1) (λk=>-O 0 k)):=by rw[va (by decide) (by rw[cM];omega),vu]
 generalize qn (O 0 k)=q at e3 e4;generalize qn (-O 0 k)=q2 at e4 e6;exact aA e5<|aA e3<|aA e4<|aA e6<|aA (congrArg some (b8 (by omega))) Y
end lps
theorem SK{L M K L' M' K':Nat}{n n':Int}{ob ob' rw rw':List (List Qr)}{bd bd':List Qr}{O O' F F':Nat->Nat->Rat}{g g':Nat->Rat}(ho:kf M ob O)(hr:kf L rw F)(hb:c6 K bd g)(ho':kf M' ob' O')(hr':kf L' rw' F')(hb':c6 K' bd' g')
  (s1:M+M'<=35184372088768) (s2:L+L'<=35184372088768) (s3:K<=35184372088788/\K'<=35184372088788) (h0:n=n') (h1:ob.length=ob'.length) (h2:rw.length=rw'.length) (h3:bd.length=bd'.length) (e1:∀i j,O i j=O' i j) (e2:∀i j,F i j=F' i j) (e3:∀i,g i=g' i):mM ⟨n,ob,rw,bd⟩ ⟨n',ob',rw',bd'⟩=some true:=by
 unfold mM gO;refine aA (aA Y<|aA Y<|aA Y Y)<|aA (aA Y<|aA Y<|aA Y Y)<|aA Y<|b9 ?_<|cG<|aA (HB ho ho' s1 e1)<|z6 (aA (HB hr hr' s2 e2) Y)<|z6 (aA (VJ hb hb' s3.1 s3.2 e3) Y) Y;simp[h0,h1,h2,h3]
end
section
open Go.Fw
theorem N2{α:Type}{l:List α}{i:Nat}{a:α}(h:l[i]? =some a):a∈l:=List.mem_of_getElem? h
theorem LS{l:List (List Qr)}{i:Nat}{P:List Qr->Prop}(hi:i<l.length)(ht:∀v∈l.take i,P v)(hp:P l[i]):∀v∈l.take (i+1),P v:=by
 rw[List.take_add_one,List.getElem?_eq_getElem hi];intro u hu;rcases List.mem_append.1 hu with h|h
 ·exact ht u h
 simp at h;rw[h];exact hp
abbrev VN(v:List Qr):Prop:=v.length<=20/\∀q∈v,q.num.w.length<=6/\q.den.w.length<=6
abbrev WB(v:List Qr):Prop:=v.length<=8/\∀q∈v,q.num.w.length<=6/\q.den.w.length<=6
theorem z8(l:List (List Qr))(hl:l.length<=9223372036854775807):∃b,gQ l=some b/\(b=false->∀v∈l,VN v):=by
 unfold gQ;refine me (λy=>∃i:Nat,y=(i:Int)/\i<=l.length/\∀v∈l.take i,VN v) (λe=>(∃c,e=.inl c/\∀v∈l,VN v)\/e=.inr true) (λy=>l.length-y.toNat) ?_ ⟨0,Y,by omega,by simp⟩ ?_
 ·rintro _ ⟨i,rfl,hi,ht⟩;by_cases hlt:i<l.length
  ·have g:=List.getElem?_eq_getElem hlt;by_cases h1:20<l[i].length
   ·exact .inr ⟨.inr true,aA Y<|aA (dT (by omega))<|cg Y<|cG<|aA (bM g)<|aA Y<|aA (dT (by omega))<|aA (a:=true) (cg Y Y) Y,.inr Y⟩
   obtain⟨b,hb,hs⟩:=LN l[i] (by omega);cases b
   ·refine .inl ⟨((i+1:Nat):Int),?_,⟨i+1,Y,hlt,LS hlt ht ⟨by omega,hs Y⟩⟩,by simp only[Int.toNat_natCast];omega⟩;exact aA Y<|aA (dT (by omega))<|cg Y<|cG<|aA (bM g)<|aA Y<|aA (dF (by omega))<|aA (a:=false) (b9 Y<|aA (bM g)<|aA hb Y)<|b9 Y<|aA (congrArg some (b8 (by omega))) Y
   exact .inr ⟨.inr true,aA Y<|aA (dT (by omega))<|cg Y<|cG<|aA (bM g)<|aA Y<|aA (dF (by omega))<|aA (a:=true) (b9 Y<|aA (bM g)<|aA hb Y) Y,.inr Y⟩
  refine .inr ⟨.inl (),?_,.inl ⟨(),Y,?_⟩⟩
  ·exact aA Y<|aA (dF (by omega))<|b9 Y Y
  rw[List.take_of_length_le (by omega)]at ht;exact ht
 rintro e (⟨c,rfl,he⟩|rfl)
 ·exact⟨false,Y,λ_=>he⟩
 exact⟨true,rfl,λh=>by cases h⟩
theorem LU(m:List (List Qr))(h:m.length<=9223372036854775806):jQ m=some (mZ m:Int):=by
 unfold jQ;refine bF (λj=>(((m.take j).foldl (λn v=>max n v.length) 0:Nat),(j:Int))) m.length ((mZ m:Nat):Int) (by simp) (λj hj=>?_) ?_ Y
 ·refine aA Y<|aA (dT (by omega))<|cg Y<|aA (bM (List.getElem?_eq_getElem hj))<|aA Y<|aA Y<|aA (congrArg some (b8 (by omega))) ?_;rw[List.take_add_one,List.getElem?_eq_getElem hj,List.foldl_append];simp only[Option.toList_some,List.foldl_cons,List.foldl_nil];congr 3;omega
 refine aA Y<|aA (dF (by omega))<|b9 Y ?_;rw[List.take_length];rfl
theorem EK(m:List (List Qr)):∃b,iM [m]=some b/\(b=false->m.length<=8/\∀v∈m,WB v):=by
 unfold iM;have hg:cX [m] (0:Int)=some m:=rfl;by_cases h8:8<m.length
 ·refine⟨true,?_,λh=>by cases h⟩;refine bF (λj=>(j:Int)) 0 (.inr true) Y (λj hj=>by omega) ?_ Y;exact aA Y<|aA (dT (by simp))<|cg Y<|cG<|aA hg<|aA Y<|aA (dT (by omega))<|aA (a:=true) (cg Y Y)<|aA (a:=true) (cg Y Y) Y
 by_cases hc:8<mZ m
 ·refine⟨true,?_,λh=>by cases h⟩;refine bF (λj=>(j:Int)) 0 (.inr true) Y (λj hj=>by omega) ?_ Y;exact aA Y<|aA (dT (by simp))<|cg Y<|cG<|aA hg<|aA Y<|aA (dF (by omega))<|aA (a:=true) (b9 Y<|aA hg<|aA (LU m (by omega))<|aA (dT (by omega)) Y)<|aA (a:=true) (cg Y Y) Y
 obtain⟨b,hb,hs⟩:=z8 m (by omega);cases b
 ·refine⟨false,?_,λ_=>⟨by omega,λv hv=>⟨?_,(hs Y v hv).2⟩⟩⟩
  ·refine bF (λj=>(j:Int)) 1 (.inl ()) Y (λj hj=>?_) (aA Y<|aA (dF (by simp))<|b9 Y Y) Y;obtain rfl:j=0:=by omega
   exact aA Y<|aA (dT (by simp))<|cg Y<|cG<|aA hg<|aA Y<|aA (dF (by omega))<|aA (a:=false) (b9 Y<|aA hg<|aA (LU m (by omega))<|aA (dF (by omega)) Y)<|aA (a:=false) (b9 Y<|aA hg<|aA hb Y)<|b9 Y<|aA (congrArg some (b8 (by omega))) Y
  have:=oB.1 (Nat.le_refl (mZ m)) v hv;omega
 refine⟨true,?_,λh=>by cases h⟩;refine bF (λj=>(j:Int)) 0 (.inr true) Y (λj hj=>by omega) ?_ Y;exact aA Y<|aA (dT (by simp))<|cg Y<|cG<|aA hg<|aA Y<|aA (dF (by omega))<|aA (a:=false) (b9 Y<|aA hg<|aA (LU m (by omega))<|aA (dF (by omega)) Y)<|aA (a:=true) (b9 Y<|aA hg<|aA hb Y)<|cg Y Y
theorem N3(m:List (List Qr))(h:m.length<=1000):jT m=some (decide (∀i,i<m.length->(m.getD i []).length=0)):=by
 unfold jT;refine aA (Bm (p:=λi=>(m.getD i []).length=0) (e:=false) (n:=m.length) (λi hi=>?_) (aA Y<|aA (dF (by omega))<|b9 Y Y)) ?_
 ·refine aA Y<|aA (dT (by omega))<|cg Y<|aA (bM (cY (d:=[]) hi))<|aA Y<|aA Y ?_;by_cases hz:(m.getD i []).length=0
  ·rw[if_pos hz];exact b9 (decide_eq_false (by omega))<|aA (congrArg some (b8 (by omega))) Y
  rw[if_neg hz];exact cg (decide_eq_true (by omega)) Y
 by_cases hp:∀i,i<m.length->(m.getD i []).length=0
 ·rw[if_pos hp,decide_eq_true hp]
 rw[if_neg hp,decide_eq_false hp]
structure Sm6 (ob rw:List (List Qr)) (bd:List Qr):Prop where
 lo:ob.length<=6
 lr:rw.length<=140
 lb:bd.length<=140
 so:∀v∈ob,WB v
 sr:∀v∈rw,WB v
 sb:VN (bd.take (min bd.length 20))
theorem LV{n:Int}{ob rw:List (List Qr)}{bd:List Qr}:∃b,jU ⟨n,ob,rw,bd⟩=some b/\(b=false->Sm6 ob rw bd):=by
 unfold jU;obtain⟨b1,e1,s1⟩:=EK rw;obtain⟨b2,e2,s2⟩:=EK ob;have VO:lH bd=some (bd.take (min bd.length 20)):=by
  unfold lH;have hm:min (bd.length:Int) 20=((min bd.length 20:Nat):Int):=by omega
  refine aA Y<|aA (congrArg some hm)<|aA (jz (by omega)) Y
 obtain⟨b3,e3,s3⟩:=z8 [bd.take (min bd.length 20)] (by simp);by_cases c1:6<ob.length
 ·exact⟨true,cG<|aA rfl<|aA (dT (by omega))<|aA (a:=true) (cg rfl rfl)<|aA (a:=true) (cg rfl rfl)<|aA (a:=true) (cg rfl rfl)<|aA (a:=true) (cg rfl rfl)<|aA (a:=true) (cg rfl rfl)<|aA (a:=true) (cg rfl rfl) rfl,λh=>by cases h⟩
 by_cases c2:140<rw.length
 ·exact⟨true,cG<|aA rfl<|aA (dF (by omega))<|aA (a:=true) (b9 rfl<|aA rfl<|aA (dT (by omega)) rfl)<|aA (a:=true) (cg rfl rfl)<|aA (a:=true) (cg rfl rfl)<|aA (a:=true) (cg rfl rfl)<|aA (a:=true) (cg rfl rfl)<|aA (a:=true) (cg rfl rfl) rfl,λh=>by cases h⟩
 by_cases c3:140<bd.length
 ·exact⟨true,cG<|aA rfl<|aA (dF (by omega))<|aA (a:=false) (b9 rfl<|aA rfl<|aA (dF (by omega)) rfl)<|aA (a:=true) (b9 rfl<|aA rfl<|aA (dT (by omega)) rfl)<|aA (a:=true) (cg rfl rfl)<|aA (a:=true) (cg rfl rfl)<|aA (a:=true) (cg rfl rfl)<|aA (a:=true) (cg rfl rfl) rfl,λh=>by cases h⟩
 have eb:=N3 rw (by omega);by_cases c4:8<rw.length
 ·by_cases c5:∀i,i<rw.length->(rw.getD i []).length=0
  ·rw[decide_eq_true c5]at eb;refine⟨_,cG<|aA Y<|aA (dF (by omega))<|aA (a:=false) (b9 Y<|aA Y<|aA (dF (by omega)) Y)<|aA (a:=false) (b9 Y<|aA Y<|aA (dF (by omega)) Y)<|aA (a:=false) (b9 Y<|aA Y<|aA (dT (by omega))<|aA (a:=false) (cg Y<|aA eb<|aA Y Y) Y)<|aA (a:=false) (b9 Y<|aA Y<|aA (dF (by omega))<|aA (a:=false) (b9 Y Y) Y)<|EX (λ_=>aA e2 Y)<|EX (λ_=>aA VO<|aA e3 Y) Y,λh=>?_⟩;simp only[Bool.false_or,Bool.or_eq_false_iff]at h;refine⟨by omega,by omega,by omega,(s2 h.1).2,λv hv=>?_,s3 h.2 _ (by simp)⟩;obtain⟨i,hi,rfl⟩:=List.getElem_of_mem hv;have:=c5 i hi;rw[List.getD_eq_getElem?_getD,List.getElem?_eq_getElem hi]at this;have h0:rw[i]=[]:=List.eq_nil_of_length_eq_zero this;rw[h0];exact⟨by decide,by simp⟩
  rw[decide_eq_false c5]at eb;exact⟨true,cG<|aA rfl<|aA (dF (by omega))<|aA (a:=false) (b9 rfl<|aA rfl<|aA (dF (by omega)) rfl)<|aA (a:=false) (b9 rfl<|aA rfl<|aA (dF (by omega)) rfl)<|aA (a:=true) (b9 rfl<|aA rfl<|aA (dT (by omega))<|aA (a:=true) (cg rfl<|aA eb<|aA rfl rfl) rfl)<|aA (a:=true) (cg rfl rfl)<|aA (a:=true) (cg rfl rfl)<|aA (a:=true) (cg rfl rfl) rfl,λh=>by cases h⟩
 refine⟨_,cG<|aA Y<|aA (dF (by omega))<|aA (a:=false) (b9 Y<|aA Y<|aA (dF (by omega)) Y)<|aA (a:=false) (b9 Y<|aA Y<|aA (dF (by omega)) Y)<|aA (a:=false) (b9 Y<|aA Y<|aA (dF (by omega))<|aA (a:=false) (b9 Y Y) Y)<|EX (c:=b1) (λ_=>aA Y<|aA (dT (by omega))<|aA (a:=b1) (cg Y<|aA e1 Y) Y)<|EX (λ_=>aA e2 Y)<|EX (λ_=>aA VO<|aA e3 Y) Y,λh=>?_⟩;simp only[Bool.false_or,Bool.or_eq_false_iff]at h;exact⟨by omega,by omega,by omega,(s2 h.1.2).2,(s1 h.1.1).2,s3 h.2 _ (by simp)⟩
end
section
open Go.Fw
theorem FQ.neg'{L:Nat}{x:Rat}(h:FQ L x)(h1:1<=L)(hL:L<=35184372088788):FQ L (-x):=((h.rep h1).neg hL).2.fq
theorem Bn{L:Nat}{m:List (List Qr)}{F:Nat->Nat->Rat}(h:kf L m F){n:Nat}(hn:mZ m<=n)(i:Nat){k:Nat}(hk:n<=k):F i k=0:=by
 refine(h.row i).z k ?_;by_cases hi:i<m.length
 ·have:=oB.1 hn _ (N2 (cY (d:=[]) hi));omega
 rw[eN (by omega)];exact Nat.zero_le _
theorem EM: -(0:Rat)=0:=by decide
section acn
variable {K L M:Nat}{n:Int}{ob rw:List (List Qr)}{bd:List Qr}{O F:Nat->Nat->Rat}{g:Nat->Rat}
theorem Gs(hb:c6 K bd g)(hK:K<=35184372088788):kf K [vq bd.length (λi=>-g i)] (λi j=>if i=0 then-g j else 0):=
 LP (qW (λi _=>(hb.fq i).neg' hb.l1 hK) (λi hi=>by rw[hb.z i hi];exact EM) hb.l1)
theorem Gt(hr:kf L rw F)(hL:L<=35184372088788)(hv:ye n ob rw bd):kf L (mq n.toNat (λ_=>rw.length) (λk i=>-F i k)) (λk i=>-F i k):=by
 unfold ye at hv;refine LO (λk _ i _=>((hr.row i).fq k).neg' hr.l1 hL) (λk _ i hi=>by rw[hr.z i hi k];exact EM) (λk hk i=>?_) hr.l1;rw[Bn hr (n:=n.toNat) (by omega) i hk];exact EM
theorem Gu(ho:kf M ob O)(hM:M<=35184372088788)(hv:ye n ob rw bd):c6 M (vq n.toNat (λk=>-O 0 k)) (λk=>-O 0 k):=by
 unfold ye at hv;refine qW (λk _=>((ho.row 0).fq k).neg' ho.l1 hM) (λk hk=>?_) ho.l1;rw[Bn ho (n:=n.toNat) (by omega) 0 hk];exact EM
theorem Gv(hv:ye n ob rw bd)(Iu:rw.length<=64):ye (rw.length:Int) [vq bd.length (λi=>-g i)] (mq n.toNat (λ_=>rw.length) (λk i=>-F i k)) (vq n.toNat (λk=>-O 0 k)):=by
 unfold ye at hv⊢;refine⟨by omega,by omega,by simp,by simp,by rw[jY];omega,by rw[cM,jY],?_,?_⟩
 ·have:mZ [vq bd.length (λi=>-g i)]<=rw.length:=oB.2 (λv h=>by rw[List.mem_singleton.1 h,cM];omega);omega
 have:mZ (mq n.toNat (λ_=>rw.length) (λk i=>-F i k))<=rw.length:=oB.2 (λv h=>by
  obtain⟨i,hi,rfl⟩:=List.mem_map.1 h;rw[cM];exact Nat.le_refl _)
 omega
end acn
theorem wI{L:Nat}{v:List Qr}{f:Nat->Rat}{q:Qr}{x:Rat}(h:c6 L v f)(hq:fD L q x):c6 L (q::v) (λi=>match i with|0=>x|i+1=>f i):=by
 refine⟨λi hi=>?_,λi hi=>?_,h.l1⟩
 ·match i,hi with
  |0,_=>exact hq
  |i+1,hi=>exact h.e i (by simpa using hi)
 match i,hi with
 |0,hi=>simp at hi
 |i+1,hi=>exact h.z i (by simpa using hi)
theorem N4{n d:Int}(hn:dc n)(hd:dc d)(h0:d≠0):fD 2 (qn (Rat.divInt n d)) (Rat.divInt n d):=(EB h0 (mz hn) (mz hd) (by decide)).fq.rep (by decide)
theorem SL:eV=some true:=by
 obtain⟨eo,ro⟩:=HC (l:=[[3,5]]) (by decide) (by decide);obtain⟨er,rr⟩:=HC (l:=[[1,0],[0,2],[3,2]]) (by decide) (by decide);obtain⟨eb,rb⟩:=xo (l:=[4,12,18]) (by decide) (by decide);obtain⟨eo',ro'⟩:=HC (l:=[[-4,-12,-18]]) (by decide) (by decide);obtain⟨er',rr'⟩:=HC (l:=[[-1,0,-3],[0,-2,-2]]) (by decide) (by decide);obtain⟨eb',rb'⟩:=xo (l:=[-3,-5]) (by decide) (by decide);obtain⟨ex,rx⟩:=xo (l:=[2,6]) (by decide) (by decide);obtain⟨T7,r36⟩:=xo (l:=[36]) (by decide) (by decide);obtain⟨aco,acp⟩:=xo (l:=[-36]) (by decide) (by decide);obtain⟨es,rs⟩:=xo (l:=[2,0,0]) (by decide) (by decide);have e32:=SE (n:=3) (d:=2) (by decide) (by decide) (by decide);have e1:=NX (n:=1) (by decide);have r32:fD 2 (qn (Rat.divInt 3 2)) (Rat.divInt 3 2):=N4 (by decide) (by decide) (by decide);have r1:fD 2 (qn ((1:Int):Rat)) ((1:Int):Rat):=(mg (by decide)).2;have ry:=wI (wI (wI (c6.nil (L:=2) (by decide)) r1) r32) (vv (L:=2) (by decide));generalize hmo:mq [[(3:Int),5]].length _ _=mo at eo ro;generalize hmr:mq [[(1:Int),0],[0,2],[3,2]].length _ _=mr at er rr;generalize hvb:vq [(4:Int),12,18].length _=vb at eb rb;have lo:mo.length=1:=by rw[<-hmo,jY];rfl
 have lr:mr.length=3:=by rw[<-hmr,jY];rfl
 have lb:vb.length=3:=by rw[<-hvb,cM];rfl
 have wo:∀v∈mo,v.length<=2:=by rw[<-hmo];decide+kernel
 have wr:∀v∈mr,v.length<=2:=by rw[<-hmr];decide+kernel
 have co:mZ mo<=2:=oB.2 wo;have cr:mZ mr<=2:=oB.2 wr;have hv:ye 2 mo mr vb:=⟨by decide,by decide,by omega,by omega,by omega,by omega,by omega,by omega⟩;have ed:=CX (n:=2) ro rr rb (by decide) (by decide) (by decide) hv (by omega);have L4:=Gs rb (by decide);have dr:=Gt rr (by decide) hv;have db:=Gu ro (by decide) hv;have dv:=Gv (O:=λi j=>((([[3,5]]:List (List Int)).getD i []).getD j 0:Rat)) (F:=λi j=>((([[1,0],[0,2],[3,2]]:List (List Int)).getD i []).getD j 0:Rat)) (g:=λi=>(([4,12,18]:List Int).getD i 0:Rat)) hv (by omega);unfold HE at ed;have ev:=qY (n:=2) (ob:=mo) (rw:=mr) (bd:=vb) (by omega) (by omega);rw[decide_eq_true hv]at ev;have lx:(vq [(2:Int),6].length (λi=>(([2,6]:List Int).getD i 0:Rat))).length=2:=cM _ _;generalize vq [(2:Int),6].length _=vx at ex rx lx;have ef:=vB (n:=2) (ob:=mo) (N:=2) rr rb rx (λv hv=>by have:=wr v hv;omega) (by decide) (by decide) (by omega) (by omega) (by omega);rw[decide_eq_true (show IQ 2 mo mr vb vx _ _ _ 2 from⟨hv,by omega,by rw[lx];decide+kernel,by rw[lr];decide+kernel⟩)]at ef;obtain⟨ee,re⟩:=eval_eq (n:=2) (rw:=mr) (bd:=vb) (N:=2) ro rx (λv hv=>by have:=wo v hv;omega) (by decide) (by omega);rw[lo]at ee re;have c1:=Wz re r36 (by decide)
 rw[cM,cM,decide_eq_true (by decide+kernel)]at c1;obtain⟨esl,fsl⟩:=LR (n:=2) (ob:=mo) (N:=2) rr rb rx (λv hv=>by have:=wr v hv;omega) (by decide) (by decide) (by omega);rw[lr]at esl fsl;have lM:=CW fsl (by decide);have c2:=Wz lM rs (by decide);rw[cM,cM,decide_eq_true (by decide+kernel)]at c2;rw[lb,lr]at ed;rw[lb]at L4;rw[lr]at dr;rw[lb,lr]at dv;have c3:=SK (n:=3) (n':=3) L4 dr db ro' rr' rb' (by decide) (by decide) (by decide) Y (by rw[jY];rfl) (by rw[jY,jY];rfl) (by rw[cM,cM];rfl) (λi j=>?_) (λi j=>?_) (λi=>?_)
 ·have ly:([qz,qn (Rat.divInt 3 2),qn ((1:Int):Rat)]:List Qr).length=3:=rfl;have eg:=vB (n:=3) (N:=3) dr db ry (ob:=[vq 3 (λi=>-(([4,12,18]:List Int).getD i 0:Rat))]) (λv hv=>by rw[ly];omega) (by decide) (by decide) (by simp) (by rw[jY];decide) (by rw[ly];decide);rw[decide_eq_true (show IQ 3 _ _ _ _ _ _ _ 3 from⟨dv,by rw[ly];decide,by rw[ly];decide+kernel,by rw[jY];decide+kernel⟩)]at eg;obtain⟨eh,rh⟩:=eval_eq (n:=3) (rw:=mq 2 (λ_=>3) (λk i=>-((([[1,0],[0,2],[3,2]]:List (List Int)).getD i []).getD k 0:Rat))) (bd:=vq 2 (λk=>-((([[3,5]]:List (List Int)).getD 0 []).getD k 0:Rat))) (N:=3) L4 ry (λv hv=>by rw[ly];omega) (by decide) (by simp);have c4:=Wz rh acp (by decide);rw[cM,cM,decide_eq_true (by decide+kernel)]at c4;unfold eV kO;generalize qn (Rat.divInt 3 2)=q32 at*;generalize qn ((1:Int):Rat)=q1 at*;refine aA (aA eo<|aA er<|aA eb Y)<|aA ed<|aA eo'<|aA er'<|aA eb'<|aA ex<|aA e32<|aA e1<|cG ?_;exact aA ev<|z6 (aA ef Y)<|z6 (aA ee<|aA T7<|aA c1 Y)<|z6 (aA esl<|aA es<|aA c2 Y)<|z6 (aA (dT Y) Y)<|z6 (aA c3 Y)<|z6 (aA eg Y)<|z6 (aA eh<|aA aco<|aA c4 Y) Y
 ·match i with
  |0=>
   match j with
   |0=>decide+kernel
   |1=>decide+kernel
   |2=>decide+kernel
   |j+3=>simp only[List.getD_cons_succ,List.getD_cons_zero,List.getD_nil,if_true];decide
  |i+1=>simp only[List.getD_cons_succ,List.getD_nil];rw[if_neg (by omega)];rfl
 ·match j with
  |0=>
   match i with
   |0=>decide+kernel
   |1=>decide+kernel
   |i+2=>simp only[List.getD_cons_succ,List.getD_cons_zero,List.getD_nil];decide
  |1=>
   match i with
   |0=>decide+kernel
   |1=>decide+kernel
   |i+2=>simp only[List.getD_cons_succ,List.getD_cons_zero,List.getD_nil];decide
  |2=>
   match i with
   |0=>decide+kernel
   |1=>decide+kernel
   |i+2=>simp only[List.getD_cons_succ,List.getD_cons_zero,List.getD_nil];decide
  |j+3=>
   match i with
   |0=>simp only[List.getD_cons_succ,List.getD_cons_zero,List.getD_nil];decide
   |1=>simp only[List.getD_cons_succ,List.getD_cons_zero,List.getD_nil];decide
   |i+2=>simp only[List.getD_cons_succ,List.getD_cons_zero,List.getD_nil];decide
 match i with
 |0=>decide+kernel
 |1=>decide+kernel
 |i+2=>simp only[List.getD_cons_succ,List.getD_cons_zero,List.getD_nil];decide
end
section
open Go.Fw
abbrev VP(m:List (List Qr)):Prop:=m.length*24<=140737488351232/\∀v∈m,SF v
abbrev OkL(p:Lr):Prop:=dc p.vars/\VP p.uw/\VP p.rows/\SF p.bounds
theorem Qh{m:List (List Qr)}(h:VP m)(s:∀v∈m,WB v):kf 6 m (Gr m):=
 NZ (λv hv=>CT (λq hq=>CV ((h.2 v hv).2 q hq) ((s v hv).2 q hq).1 ((s v hv).2 q hq).2 (by decide)) (by decide)) (by decide)
theorem Qi{v:List Qr}(h:SF v)(s:VN v):c6 6 v (tY v):=CT (λq hq=>CV (h.2 q hq) (s.2 q hq).1 (s.2 q hq).2 (by decide)) (by decide)
theorem al6:(eV.bind λx=>some x)=some true:=aA SL Y
theorem rnn(x:Rat): - -x=x:=by grind
theorem N5{n k:Nat}{h:Nat->Rat}{y:Rat}:(vq n h).set k (qn y)=vq n (λi=>if i=k then y else h i):=by
 apply List.ext_getElem?;intro i;by_cases hi:i<n
 ·rw[CS hi,List.getElem?_set];by_cases Ti:k=i
  ·subst Ti;rw[if_pos Y,if_pos Y,cM,if_pos hi]
  rw[if_neg Ti,if_neg (λe=>Ti e.symm),CS hi]
 rw[List.getElem?_eq_none (by rw[List.length_set,cM];omega),List.getElem?_eq_none (by rw[cM];omega)]
theorem vC(x y:Rat):y<=AM x y:=by unfold AM;split<;>grind
theorem EN(x:Rat):0<=ke x:=by unfold ke;split<;>grind
theorem HF{h k:Nat->Rat}{n:Nat}(e:∀i,i<n->h i<=k i):bQ h n<=bQ k n:=by
 have:=xn (h:=λi=>k i-h i) (n:=n) (λi hi=>by have:=e i hi;grind);rw[ED]at this;grind
theorem Bo(h:Nat->Nat->Rat)(m:Nat):∀n,bQ (λi=>bQ (λj=>h i j) m) n=bQ (λj=>bQ (λi=>h i j) n) m
 |0=>(rM m).symm
 |n+1=>by
  rw[bQ,Bo h m n,<-EC];rfl
theorem EO(h:Nat->Rat)(n:Nat):bQ (λi=>-h i) n=-bQ h n:=by
 rw[fQ (k:=λi=>(-1:Rat)*h i) (λi _=>by grind),vw];grind
section made
variable {K L M:Nat}{n:Int}{ob rw:List (List Qr)}{bd x:List Qr}{O F:Nat->Nat->Rat}{g f:Nat->Rat}
def fR(n:Int)(f:Nat->Rat):Nat->Rat:=ig n.toNat (λi=>ke (f i))
theorem m5(n:Int)(f:Nat->Rat)(i:Nat):0<=fR n f i:=by
 unfold fR ig;split
 ·exact EN _
 exact Rat.le_refl
theorem CY(hx:c6 M x f)(hM:M<=35184372088788):c6 M (vq n.toNat (λi=>ke (f i))) (fR n f):=CW (λi _=>((hx.at i).abs hM).2.fq) hx.l1
def mh(F:Nat->Nat->Rat)(g xa:Nat->Rat)(i:Nat):Rat:=AM (g i) (bQ (λj=>F i j*xa j) 64)
theorem made_eq(hr:kf L rw F)(hb:c6 K bd g)(hx:c6 M x f)(h0:0<=n)(Iu:n<=64)(hL:66*(L+M+1)<=35184372088658)(hK:K+(64*(L+M+1)+1)<=35184372088768)(hM:M<=35184372088658)(l1:rw.length<=1000000)(l2:bd.length=rw.length)(l3:x.length<=1000000):
  iN ⟨n,ob,rw,bd⟩ x=some (⟨n,ob,rw,vq rw.length (mh F g (fR n f))⟩,vq n.toNat (λi=>ke (f i)))/\c6 (K+(64*(L+M+1)+1)) (vq rw.length (mh F g (fR n f))) (ig rw.length (mh F g (fR n f))):=by
 obtain⟨m,rfl⟩:∃m:Nat,n=(m:Int):=⟨n.toNat,by omega⟩;have e0:=LM hx (by omega) l3 (m:Int);rw[show(min (m:Int) 65536).toNat=m by omega]at e0;have rx:=CY (n:=(m:Int)) hx (by omega);rw[Int.toNat_natCast]at rx⊢;have row:∀i,i<rw.length->∃q,dR (rw.getD i []) (vq m (λi=>ke (f i)))=some q/\fD (64*(L+M+1)+1) q (bQ (λj=>F i j*fR m f j) 64):=λi hi=>by
  have hm:min (rw.getD i []).length (vq m (λi=>ke (f i))).length<=64:=by rw[cM];omega
  have h1:=NM (hr.row i) rx (Nat.le_trans (Nat.mul_le_mul_right _ (show _+2<=66 by omega)) (by omega));rw[vA (hr.row i) rx hm]at h1;exact⟨_,h1.1,h1.2.mono (Nat.add_le_add_right (Nat.mul_le_mul_right _ hm) 1)⟩
 have hsz:K+(64*(L+M+1)+1)<=35184372088768:=by omega
 have el:∀i,i<rw.length->∃q,bd[i]? =some q/\∀q2,fD (64*(L+M+1)+1) q2 (bQ (λj=>F i j*fR m f j) 64)->kF q q2=some (qn (mh F g (fR m f) i))/\fD (K+(64*(L+M+1)+1)) (qn (mh F g (fR m f) i)) (mh F g (fR m f) i):=λi hi=>by
  obtain⟨q,h1,h2⟩:=hb.get (show i<bd.length by omega);exact⟨q,h1,λq2 h3=>h2.max h3 hsz⟩
 constructor
 ·unfold iN;refine aA e0 ?_;refine bF (λk=>((k:Int),vq m (λi=>if i<k then ke (f i)else f i))) m (vq m (λi=>ke (f i))) (by rw[qV (k:=f) (λi _=>if_neg (by omega))];rfl) (λk hk=>?_) ?_ ?_
  ·have hg:(vq m (λi=>if i<k then ke (f i)else f i))[k]? =some (qn (f k)):=by rw[CS hk,if_neg (by omega)]
   have e1:=((((hx.at k).fq).rep hx.l1).abs (by omega)).1;have hst:(vq m (λi=>if i<k then ke (f i)else f i)).set k (qn (ke (f k)))=vq m (λi=>if i<k+1 then ke (f i)else f i):=by
    rw[N5];apply qV;intro i _;by_cases Ti:i=k
    ·subst Ti;rw[if_pos Y,if_pos (by omega)]
    rw[if_neg Ti];by_cases h2:i<k
    ·rw[if_pos h2,if_pos (by omega)]
    rw[if_neg h2,if_neg (by omega)]
   have hl:(vq m (λi=>if i<k then ke (f i)else f i)).length=m:=cM _ _;generalize vq m (λi=>if i<k then ke (f i)else f i)=v at hg hst hl;generalize qn (f k)=q at hg e1;generalize qn (ke (f k))=q2 at hst e1;refine aA Y<|aA (dT (by rw[hl];omega))<|cg Y<|aA (dZ (show k<v.length by omega))<|aA hg<|aA e1<|aA (dZ (show k<v.length by omega))<|aA (gR (show k<v.length by omega))<|aA (congrArg some (b8 (by omega))) ?_;rw[<-hst]
  ·refine aA Y<|aA (dF (by rw[cM];omega))<|b9 Y ?_;rw[qV (λi hi=>if_pos hi)]
  refine bF (λk=>((k:Int),vq k (mh F g (fR m f)))) rw.length (vq rw.length (mh F g (fR m f))) Y (λk hk=>?_) ?_ Y
  ·obtain⟨q,h1,h2⟩:=row k hk;obtain⟨q3,h3,h4⟩:=el k hk;have h5:=(h4 q h2).1;have e6:sW 64 (vq k (mh F g (fR m f))) [qn (mh F g (fR m f) k)]=some (vq (k+1) (mh F g (fR m f))):=by rw[va (by decide) (by rw[cM];omega),vu]
   generalize qn (mh F g (fR m f) k)=q4 at h5 e6;exact cG<|aA Y<|aA (dT (by omega))<|aA (a:=true) (cg Y<|aA Y<|aA (dT (by omega)) Y)<|cg Y<|aA (bM h3)<|aA (bM (cY (d:=[]) hk))<|aA h1<|aA h5<|aA e6<|aA (congrArg some (b8 (by omega))) Y
  exact cG<|aA Y<|aA (dF (by omega))<|aA (a:=false) (b9 Y Y)<|b9 Y Y
 refine CW (λi hi=>?_) (by have:=hb.l1;omega);obtain⟨q,h1,h2⟩:=row i hi;obtain⟨q3,h3,h4⟩:=el i hi;exact(h4 q h2).2.fq
end made
theorem IJ{n m:Int}{F:Nat->Nat->Rat}{c g f h:Nat->Rat}(hm:m.toNat<=64)(hn:n.toNat<=64):
  bQ (λk=>-ig n.toNat (mh (λk i=>-F i k) c (fR m h)) k*fR n f k) 64+bQ (λi=>-ig m.toNat (mh F g (fR n f)) i*fR m h i) 64<=0:=by
 have h1:bQ (λk=>-ig n.toNat (mh (λk i=>-F i k) c (fR m h)) k*fR n f k) 64<=bQ (λk=>bQ (λi=>F i k*fR m h i*fR n f k) 64) 64:=HF (λk _=>by
  rw[fQ (k:=λi=>fR n f k*(F i k*fR m h i)) (λi _=>by grind),vw];by_cases hk:k<n.toNat
  ·rw[nI hk];have a1:=vC (c k) (bQ (λi=>-F i k*fR m h i) 64);have a2:=m5 n f k;have a3:bQ (λi=>-F i k*fR m h i) 64=-bQ (λi=>F i k*fR m h i) 64:=by rw[<-EO];exact fQ (λi _=>by grind)
   rw[a3]at a1;have a4:0<=mh (λk i=>-F i k) c (fR m h) k+bQ (λi=>F i k*fR m h i) 64:=by unfold mh;rw[a3];grind
   have:=Rat.mul_nonneg a4 a2;grind
  have:fR n f k=0:=yd (by omega);rw[this];grind)
 have h2:bQ (λi=>-ig m.toNat (mh F g (fR n f)) i*fR m h i) 64<=bQ (λi=>-bQ (λk=>F i k*fR m h i*fR n f k) 64) 64:=HF (λi _=>by
  rw[fQ (k:=λk=>fR m h i*(F i k*fR n f k)) (λk _=>by grind),vw];by_cases hi:i<m.toNat
  ·rw[nI hi];have a1:=vC (g i) (bQ (λk=>F i k*fR n f k) 64);have a2:=m5 m h i;have a4:0<=mh F g (fR n f) i-bQ (λk=>F i k*fR n f k) 64:=by unfold mh;grind
   have:=Rat.mul_nonneg a4 a2;grind
  have:fR m h i=0:=yd (by omega);rw[this];grind)
 rw[EO]at h2;rw[Bo]at h1;grind
theorem LW(p:Lr)(x y:List Qr)(op:OkL p)(ox:SF x)(oy:SF y):fy p x y=some true:=by
 obtain⟨n,ob,rw,bd⟩:=p;obtain⟨on,oo,WC,VQ⟩:=op;replace oo:VP ob:=oo;replace WC:VP rw:=WC;replace VQ:SF bd:=VQ;have z1:=oo.1;have z2:=WC.1;have z3:=VQ.1;obtain⟨b,e1,s1⟩:=LV (n:=n) (ob:=ob) (rw:=rw) (bd:=bd);obtain⟨b2,e2,s2⟩:=z8 [x,y] (by simp);unfold fy;refine cG<|aA e1<|EX (λ_=>aA e2 Y)<|EX (λ_=>aA (qY (by omega) (by omega))<|aA Y Y)<|HD (λ_=>al6) (λhb=>?_);simp only[Bool.or_eq_false_iff,Bool.not_eq_false',decide_eq_true_eq]at hb;obtain⟨⟨vN,AU⟩,hv⟩:=hb;have s1:=s1 vN;have sx:=s2 AU x (by simp);have sy:=s2 AU y (by simp);have ro:=Qh oo s1.so;have rr:=Qh WC s1.sr;have rb:=VL VQ;have rx:=Qi ox sx;have ry:=Qi oy sy;have gs:∀i,i<20->FQ 6 (tY bd i):=λi hi=>by
  by_cases hb:i<bd.length
  ·have hq:NL bd i=bd[i]:=by unfold NL;rw[List.getD_eq_getElem?_getD,List.getElem?_eq_getElem hb];rfl
   unfold tY;rw[hq];have hm:bd[i]∈bd.take (min bd.length 20):=List.mem_take_iff_getElem.2 ⟨i,by omega,Y⟩;have:=s1.sb.2 _ hm;exact(CV (VQ.2 _ (List.getElem_mem hb)) this.1 this.2 (by decide)).fq
  unfold tY NL;rw[List.getD_eq_getElem?_getD,List.getElem?_eq_none (by omega)];exact Hu (by decide)
 generalize Gr ob=O at ro;generalize Gr rw=F at rr;generalize tY bd=g at rb gs;generalize tY x=f at rx;generalize tY y=h at ry;have sN:=hv;unfold ye at sN;obtain⟨e3,rq⟩:=made_eq (ob:=ob) rr rb rx sN.1 sN.2.1 (by decide) (by decide) (by decide) (by omega) (by omega) (by have:=sx.1;omega);have VR:=CY (n:=n) rx (by decide);have lq:(vq rw.length (mh F g (fR n f))).length=rw.length:=cM _ _;have lx:(vq n.toNat (λi=>ke (f i))).length=n.toNat:=cM _ _;generalize vq rw.length (mh F g (fR n f))=qb at e3 rq lq;generalize vq n.toNat (λi=>ke (f i))=xa at e3 VR lx;have VS:ye n ob rw qb:=by unfold ye;omega
 refine aA e3 ?_;by_cases Iu:rw.length<=64
 ·have e4:=CX ro rr rq (by decide) (by decide) (by decide) VS Iu;have L4:=Gs rq (by decide);have dr:=Gt rr (by decide) VS;have db:=Gu ro (by decide) VS;have dv:=Gv (O:=O) (F:=F) (g:=ig rw.length (mh F g (fR n f))) VS Iu;unfold HE at e4;rw[lq]at e4 L4 dv;have lr:(mq n.toNat (λ_=>rw.length) (λk i=>-F i k)).length=n.toNat:=jY _ _ _;have lb:(vq n.toNat (λk=>-O 0 k)).length=n.toNat:=cM _ _;have lo:([vq rw.length (λi=>-ig rw.length (mh F g (fR n f)) i)]:List (List Qr)).length=1:=rfl;have wr:∀v∈mq n.toNat (λ_=>rw.length) (λk i=>-F i k),v.length<=64:=λv hv=>by
   obtain⟨i,hi,rfl⟩:=List.mem_map.1 hv;rw[cM];exact Iu
  generalize mq n.toNat (λ_=>rw.length) (λk i=>-F i k)=drw at e4 dr dv lr wr;generalize vq n.toNat (λk=>-O 0 k)=dbd at e4 db dv lb;have dA:∀i,i<20->fD 833 ((([vq rw.length (λi=>-ig rw.length (mh F g (fR n f)) i)]:List (List Qr)).getD 0 []).getD i (⟨⟨false,[]⟩,⟨false,[]⟩⟩:Qr)) (-ig rw.length (mh F g (fR n f)) i):=λi hi=>by
   show fD 833 ((vq rw.length (λi=>-ig rw.length (mh F g (fR n f)) i)).getD i (⟨⟨false,[]⟩,⟨false,[]⟩⟩:Qr)) _;by_cases hr:i<rw.length
   ·rw[List.getD_eq_getElem?_getD,CS hr];refine FQ.rep (FQ.neg ?_) (by decide);rw[nI hr];unfold mh AM;split
    ·exact(xZ (n:=64) (L:=12) (λj _=>((rr.row i).fq j).mul (VR.fq j))).mono (by decide)
    exact(gs i hi).mono (by decide)
   rw[List.getD_eq_getElem?_getD,List.getElem?_eq_none (by rw[cM];omega),yd (by omega),EM];exact vv (by decide)
  generalize ([vq rw.length (λi=>-ig rw.length (mh F g (fR n f)) i)]:List (List Qr))=N6 at e4 L4 dv lo dA;obtain⟨e5,rh⟩:=made_eq (ob:=N6) (n:=(rw.length:Int)) dr db ry (by omega) (by omega) (by decide) (by decide) (by decide) (by omega) (by omega) (by have:=sy.1;omega);have WD:=CY (n:=(rw.length:Int)) ry (by decide);rw[lr]at e5 rh;have lh:(vq n.toNat (mh (λk i=>-F i k) (λk=>-O 0 k) (fR (rw.length:Int) h))).length=n.toNat:=cM _ _;have ly:(vq (rw.length:Int).toNat (λi=>ke (h i))).length=rw.length:=by rw[cM];omega
  generalize vq n.toNat (mh (λk i=>-F i k) (λk=>-O 0 k) (fR (rw.length:Int) h))=hb at e5 rh lh;generalize vq (rw.length:Int).toNat (λi=>ke (h i))=ya at e5 WD ly;have VT:ye (rw.length:Int) N6 drw hb:=by unfold ye at dv⊢;omega
  have e6:=CX L4 dr rh (by decide) (by decide) (by decide) VT (by omega);have to:=Gs rh (by decide);have tr:=Gt dr (by decide) VT;have tb:=Gu L4 (by decide) VT;have tv:=Gv (O:=λi j=>if i=0 then-ig rw.length (mh F g (fR n f)) j else 0) (F:=λk i=>-F i k) (g:=ig n.toNat (mh (λk i=>-F i k) (λk=>-O 0 k) (fR (rw.length:Int) h))) VT (by omega);unfold HE at e6;rw[lh,lr]at e6;rw[lr]at tr tv;rw[lh]at to tv;have f1:=vB (n:=n) (ob:=ob) (N:=64) rr rq VR (λv _=>by rw[lx];omega) (by decide) (by decide) (by omega) (by omega) (by omega);rw[decide_eq_true (show IQ n ob rw qb xa F _ _ 64 from⟨VS,by omega,λi _=>m5 n f i,λi hi=>by rw[nI hi];exact vC _ _⟩)]at f1;have f2:=vB (n:=(rw.length:Int)) (ob:=N6) (N:=64) dr rh WD (λv hv=>by have:=wr v hv;omega) (by decide) (by decide) (by omega) (by omega) (by omega);rw[decide_eq_true (show IQ (rw.length:Int) N6 drw hb ya _ _ _ 64 from⟨VT,by omega,λi _=>m5 _ h i,λi hi=>by rw[nI (by omega)];exact vC _ _⟩)]at f2;have lt:(mq (rw.length:Int).toNat (λ_=>n.toNat) (λk i=>-(λk i=>-F i k) i k)).length=rw.length:=by rw[jY];omega
  have f3:=vB (n:=(n.toNat:Int)) (ob:=[vq n.toNat (λi=>-ig n.toNat (mh (λk i=>-F i k) (λk=>-O 0 k) (fR (rw.length:Int) h)) i)]) (N:=64) tr tb VR (λv _=>by rw[lx];omega) (by decide) (by decide) (by simp) (by rw[lt];omega) (by omega);rw[decide_eq_true (show IQ (n.toNat:Int) _ _ _ xa _ _ _ 64 from⟨tv,by omega,λi _=>m5 n f i,λi hi=>by
   rw[lt]at hi;rw[if_pos Y,rnn,nI hi,fQ (k:=λj=>F i j*fR n f j) (λj _=>by rw[rnn])];exact vC _ _⟩)]at f3
  obtain⟨g1,r1⟩:=eval_eq (n:=(n.toNat:Int)) (rw:=mq (rw.length:Int).toNat (λ_=>n.toNat) (λk i=>-(λk i=>-F i k) i k)) (bd:=vq (rw.length:Int).toNat (λk=>-(if 0=0 then-ig rw.length (mh F g (fR n f)) k else 0))) (N:=64) to VR (λv _=>by rw[lx];omega) (by decide) (by simp);have acs:∀i,20<=i->fR (rw.length:Int) h i=0:=λi hi=>by
   unfold fR ig;split
   ·show ke (h i)=0;rw[ry.z i (by have:=sy.1;omega)];rfl
   rfl
  have g2':=VM (a:=N6) (x:=ya) (S:=λi=>bQ (λj=>(if i=0 then-ig rw.length (mh F g (fR n f)) j else 0)*fR (rw.length:Int) h j) 64) (R:=20*(833+6+1)+1) (λi hi=>by
   obtain rfl:i=0:=by omega
   have hm:min (N6.getD 0 []).length ya.length<=64:=by rw[ly];omega
   have h1:=VG (c:=20) (L4.row 0) WD (λi hi=>by show fD 833 _ (if 0=0 then _ else _);rw[if_pos rfl];exact dA i hi) acs (by decide) (by decide);rw[vA (L4.row 0) WD hm]at h1;exact h1) (λi hi=>by
   have:i≠0:=by omega
   rw[fQ (k:=λ_=>0) (λj _=>by rw[if_neg this];grind),rM]) (by decide) (by omega)
  obtain⟨g2,r2⟩:eR ⟨(rw.length:Int),N6,drw,hb⟩ ya=some (vq N6.length (λi=>bQ (λj=>(if i=0 then-ig rw.length (mh F g (fR n f)) j else 0)*fR (rw.length:Int) h j) 64))/\c6 (20*(833+6+1)+1) (vq N6.length (λi=>bQ (λj=>(if i=0 then-ig rw.length (mh F g (fR n f)) j else 0)*fR (rw.length:Int) h j) 64)) (λi=>bQ (λj=>(if i=0 then-ig rw.length (mh F g (fR n f)) j else 0)*fR (rw.length:Int) h j) 64):=⟨aA g2'.1 Y,g2'.2⟩;rw[lo]at g2 r2;have l1:([vq n.toNat (λi=>-ig n.toNat (mh (λk i=>-F i k) (λk=>-O 0 k) (fR (rw.length:Int) h)) i)]:List (List Qr)).length=1:=rfl;rw[l1]at g1 r1;have k1:(vq 1 (λi=>bQ (λj=>(if i=0 then-ig n.toNat (mh (λk i=>-F i k) (λk=>-O 0 k) (fR (rw.length:Int) h)) j else 0)*fR n f j) 64)).length=1:=cM _ _;have k2:(vq 1 (λi=>bQ (λj=>(if i=0 then-ig rw.length (mh F g (fR n f)) j else 0)*fR (rw.length:Int) h j) 64)).length=1:=cM _ _;generalize vq 1 (λi=>bQ (λj=>(if i=0 then-ig n.toNat (mh (λk i=>-F i k) (λk=>-O 0 k) (fR (rw.length:Int) h)) j else 0)*fR n f j) 64)=v1 at g1 r1 k1;generalize vq 1 (λi=>bQ (λj=>(if i=0 then-ig rw.length (mh F g (fR n f)) j else 0)*fR (rw.length:Int) h j) 64)=v2 at g2 r2 k2;obtain⟨p1,j1,q1⟩:=r1.get (i:=0) (by omega)
  obtain⟨p2,j2,q2⟩:=r2.get (i:=0) (by omega);obtain⟨q3,g3,r3⟩:=q1.add' q2 (by decide);have g4:=r3.sign (by decide);have Qj:=IJ (n:=n) (m:=(rw.length:Int)) (F:=F) (c:=λk=>-O 0 k) (g:=g) (f:=f) (h:=h) (by omega) (by omega);rw[Int.toNat_natCast]at Qj;have hz:bQ (λj=>(if 0=0 then-ig n.toNat (mh (λk i=>-F i k) (λk=>-O 0 k) (fR (rw.length:Int) h)) j else 0)*fR n f j) 64+bQ (λj=>(if 0=0 then-ig rw.length (mh F g (fR n f)) j else 0)*fR (rw.length:Int) h j) 64<=0:=by
   rw[fQ (k:=λk=>-ig n.toNat (mh (λk i=>-F i k) (λk=>-O 0 k) (fR (rw.length:Int) h)) k*fR n f k) (λj _=>by rw[if_pos rfl]),fQ (h:=λj=>(if 0=0 then-ig rw.length (mh F g (fR n f)) j else 0)*fR (rw.length:Int) h j) (k:=λi=>-ig rw.length (mh F g (fR n f)) i*fR (rw.length:Int) h i) (λj _=>by rw[if_pos rfl])];exact Qj
  have hle:=Int.not_lt.1 (λq=>Rat.not_lt.2 hz (vr.1 q));refine aA e4<|aA (dF (by decide))<|b9 Y<|cG<|aA f1<|aA Y<|aA (a:=false) (b9 Y<|aA Y<|aA (dF (by omega)) Y)<|b9 Y<|aA e5<|aA e6<|cG ?_;refine aA (dF (by decide))<|aA (a:=false) (b9 Y<|aA f2<|aA Y Y)<|aA (a:=false) (b9 Y<|aA f3<|aA Y Y)<|b9 Y<|aA g1<|aA g2<|cG ?_;exact aA Y<|aA (dF (by omega))<|aA (a:=false) (b9 Y<|aA Y<|aA (dF (by omega)) Y)<|b9 Y<|cG<|aA (mw j1)<|aA (mw j2)<|aA g3<|aA g4<|aA (dT hle)<|z6 al6 Y
 have e4:=N1 (n:=n) (ob:=ob) (rw:=rw) (bd:=qb) (by omega) (by omega) (λq=>Iu q.2);exact aA e4<|aA (dT (by decide))<|cg Y<|cG<|aA (dT Y)<|z6 al6 Y
end
section
open Go.Fw Go.RowKit Go.ChangeShapes Go.WideShapes Go.ChangeAt
set_option linter.unusedVariables false
set_option maxRecDepth 100000 in
theorem pz(H:Type)(enc:TypeId×Value->H)(W:World)(base:Nat)(args:Array Value)(ds gs:List (DataW H))(before:List MemPlace)
  (hval:∀(j:Nat) t v,Tryz.f6.params[j]? =some t->args[j]? =some v->Value.okWide ah W .any base t v)
  (hW:DataW.Whole enc ah Tryz.f6.params.toList Rows.lpWeakDualitySpec.vars false W args.toList ds gs before) (hz:(DataW.weightsEach ah (Tryz.f6.params.toList++Rows.lpWeakDualitySpec.plain.varTypes ah) (ds++gs)).all (· <=reachBytes)=true):
  Calls ah 6 args W λe W'=>∃v,e=.returned v/\Rows.lpWeakDualitySpec.post enc ah Tryz.f6 false true false false W args v W':=by
 have hW':=hW;obtain⟨p,q,Vu,hV,rfl,hfz,hnd⟩:=hW;have hA:DataW.TrodAll enc ah W 0 (λ_=>true) true Tryz.f6.params.toList args.toList ds p:=Vu;rw[Tryz.params6]at hA hval hz;obtain⟨v0,Mh,d0,ds0,p0,q0,hargs,rfl,rfl,h0,r0⟩:=trodAll_cons hA;obtain⟨v1,vs1,d1,ds1,p1,q1,rfl,rfl,rfl,h1,r1⟩:=trodAll_cons r0;obtain⟨v2,vs2,d2,ds2,p2,q2,rfl,rfl,rfl,h2,r2⟩:=trodAll_cons r1;obtain⟨rfl,rfl,rfl⟩:=trodAll_nil r2;obtain rfl:args=#[v0,v1,v2]:=by cases args;simp_all
 obtain⟨rfl,rfl⟩:=trodVars_none hV;have lt0:∀x∈p0,x.block<W.heap.size:=by obtain⟨m,hm⟩:=h0;exact DataW.trod_lt m _ _ _ hm
 obtain⟨x0,ok0,sz0,al0⟩:=MG (P:=ah) (T:=26) (e:=Dl) (hval 0 26 v0 Y Y) h0 (nx (t:=26) (d:=d0) 0 hz Y Y);have lt1:∀x∈p1,x.block<W.heap.size:=by obtain⟨m,hm⟩:=h1;exact DataW.trod_lt m _ _ _ hm
 obtain⟨x1,ok1,sz1,al1⟩:=GP (P:=ah) (T:=24) (e:=(eS 4 eQ)) (hval 1 24 v1 Y Y) h1 (nx (t:=24) (d:=d1) 1 hz Y Y);have lt2:∀x∈p2,x.block<W.heap.size:=by obtain⟨m,hm⟩:=h2;exact DataW.trod_lt m _ _ _ hm
 obtain⟨x2,ok2,sz2,al2⟩:=GP (P:=ah) (T:=24) (e:=(eS 4 eQ)) (hval 2 24 v2 Y Y) h2 (nx (t:=24) (d:=d2) 2 hz Y Y);clear Vu;refine(MH (o4 (LW x0 x1 x2 ok0 ok1 ok2)) (W:=W) (vs:=[v0,v1,v2]) ⟨al0,al1.1,al2.1,aq⟩).mono λe W' ⟨he,WE⟩=>?_;subst he;exact⟨_,rfl,_,_,_,[],_,[],hW',trodAll_mk1 (shut_bool Tryz.underlying4 _),(trodAll_cons_mk (Below.trod yH (by kernel_rfl) (of_decide_eq_true (by kernel_rfl)) h0 WE lt0) (trodAll_cons_mk (Below.trod yH (by kernel_rfl) (of_decide_eq_true (by kernel_rfl)) h1 WE lt1) (trodAll_cons_mk (Below.trod yH (by kernel_rfl) (of_decide_eq_true (by kernel_rfl)) h2 WE lt2) trodAll_mk0))),rfl,WE.frame _,λh=>by cases h⟩
set_option maxRecDepth 100000 in
theorem qZ(os:Os)(started:os.Started)(H:Type)(enc:TypeId×Value->H):
  ReturnsInHanded {} Tryz.checked os 6 .any (Rows.lpWeakDualitySpec.pre6 enc ah Tryz.f6 Rows.lpWeakDualityRow.domain false) (Rows.lpWeakDualitySpec.post enc ah Tryz.f6 false true false false):=by
 refine returnsInHanded_of_change_sized (C:=Tryz.checked) Xz started (by kernel_rfl) Tryz.func6
  (ChangeSpec.witness6 (enc:=enc) (C:=Tryz.checked) false ⟨#[],#[.agg #[.int .i64 0,.slice none 0 0,.slice none 0 0,.slice none 0 0],.slice none 0 0,.slice none 0 0],[]⟩ 8 (by kernel_rfl) (by kernel_rfl) (by kernel_rfl) (by kernel_rfl)) ?_
 intro W base args ds gs before hval hW _ hz _;exact pz H enc W base args ds gs before hval hW hz
theorem lpWeakDuality_holds:Rows.LpWeakDualitySaid:=
 OpenClaim.holds_of_wide 6 Tryz.f6 Y Y Y Y Y Y Y ⟨Y,Y,Y,Y,Y⟩ Y Y Y Y Y (by kernel_rfl) Tryz.func6 (by kernel_rfl)
  (of_decide_eq_true (by kernel_rfl)) (by unfold Func.isWrapper;first|(rw[if_pos (by decide+kernel)];kernel_rfl)|(rw[if_neg (by decide+kernel)];exact⟨Y,Y⟩))
  (λos started H enc _=>qZ os started H enc)
end
end Go.Proofs.YtfoldppidpmchaaGreat
