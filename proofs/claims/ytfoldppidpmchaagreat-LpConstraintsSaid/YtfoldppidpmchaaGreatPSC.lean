/- The law LpConstraints answers true for every input. -/
import Derived.Test.YtfoldppidpmchaaGreatPSC3
set_option linter.unusedVariables false
set_option linter.unusedSimpArgs false
set_option linter.unusedSectionVars false
namespace Go.Proofs.YtfoldppidpmchaaGreat
section
open Go.Fw
theorem vM(l:List Nat)(hl:l.length<=9000000000000000000):bn l=some (jc l):=by
 unfold bn;refine gR (λy=>y.length<=9000000000000000000/\jc y=jc l) (λe=>e=jc l) (λy=>y.length) ?_ ⟨hl,Y⟩ (λe he=>by rw[he]);rintro y ⟨hy,ht⟩;rcases uJ y with rfl|⟨ys,rfl⟩|⟨ys,x,hx,rfl⟩
 ·right;exact⟨[],by simp[cm],ht⟩
 ·left;have h1:((ys++[0]).length:Int)=((ys.length+1:Nat):Int):=by simp
  have h2:ys.length<=9223372036854775807:=by simp at hy;omega
  refine⟨ys,?_,⟨by simp at hy⊢;omega,by rw[<-ht,nC]⟩,by simp⟩;simp only[cm,Option.bind_some,h1,AX h2];rw[bP (a:=0) (by simp),m8 (by simp)];simp
 right;have h1:((ys++[x]).length:Int)=((ys.length+1:Nat):Int):=by simp
 have h2:ys.length<=9223372036854775807:=by simp at hy;omega
 refine⟨ys++[x],?_,by rw[<-ht,qh _ hx]⟩;simp only[cm,Option.bind_some,h1,AX h2];rw[bP (a:=x) (by simp)];simp[hx]
def zc(n:Bool)(v:Nat):Zr:=⟨n&&v != 0,can 4294967296 v⟩
theorem Jp(n:Bool):zc n 0=⟨false,[]⟩:=by simp[zc,nD]
theorem NO(n:Bool){v:Nat}(h:v≠0):zc n v=⟨n,can 4294967296 v⟩:=by simp[zc,h]
def Eh(l:List Nat):Prop:=(∀x∈l,x<4294967296)/\l.length<=35184372088808
def W64(l:List Nat):Prop:=(∀x∈l,x<4294967296)/\l.length<=9000000000000000000
theorem Eh.x{l:List Nat}(h:Eh l):W64 l:=⟨h.1,Nat.le_trans h.2 (by decide)⟩
abbrev vl(l:List Nat):Nat:=val 4294967296 l
theorem jC(n:Bool)(l:List Nat)(h:W64 l):cf n l=some (zc n (vl l)):=by
 unfold cf;rw[vM l (by have:=h.2;omega),jd (by decide) h.1];show _=some (zc n (val 4294967296 l));by_cases hz:val 4294967296 l=0
 ·rw[hz,Jp];simp[nD]
 have:can 4294967296 (val 4294967296 l)≠[]:=λe=>hz (vK (by decide) e);rw[NO _ hz];simp[this]
theorem o6(n:Bool)(v:Nat)(h:v<18446744073709551616):ek n v=some (zc n v):=by
 unfold ek;by_cases hz:v=0
 ·subst hz;simp[Jp]
 rw[NO _ hz];by_cases h1:v/2^32=0
 ·rw[P4 (by decide) hz (by omega)];simp only[Option.bind_some,hz,h1,decide_false,decide_true,cond_false,cond_true];rw[Nat.mod_eq_of_lt (by omega)]
 rw[P5 (by decide) (by omega) (by omega)];simp only[Option.bind_some,hz,h1,decide_false,cond_false];rw[Nat.mod_eq_of_lt (a:=v/2^32) (by omega)]
theorem NP{a b s:Nat}(h:a<2^s):a ||| b*2^s=a+b*2^s:=by
 rw[Nat.or_comm,Nat.mul_comm b,<-Nat.two_pow_add_eq_or_of_lt h,Nat.add_comm]
theorem low_eq(l:List Nat)(h:∀x∈l,x<4294967296)(hl:l.length<=2):dh l=some (vl l):=by
 rcases l with _|⟨x,_|⟨y,_|⟨z,l⟩⟩⟩
 ·simp[dh,vl,val]
 ·have hx:=h x (by simp);simp only[dh,sI (l:=[x]) (a:=x) rfl];simp[vl,val];omega
 ·have hx:=h x (by simp);have hy:=h y (by simp);simp only[dh,sI (l:=[x,y]) (a:=x) Y,NG (l:=[x,y]) (a:=y) Y,Option.bind_some];rw[Nat.mod_eq_of_lt (a:=x) (by omega),Nat.mod_eq_of_lt (a:=y) (by omega),Nat.mod_eq_of_lt (a:=y*2^32) (by omega),NP (by omega),Nat.mod_eq_of_lt (by omega)];simp[vl,val];omega
 simp at hl
theorem gj(x c:Nat)(h:x+c<18446744073709551616):bO x c=some ((x+c)%4294967296,(x+c)/4294967296):=by
 simp[bO,Nat.mod_eq_of_lt h]
theorem jH(v w:Nat)(hv:(can 4294967296 v).length<=9000000000000000000)(hw:(can 4294967296 w).length<=9000000000000000000):cG (can 4294967296 v) (can 4294967296 w)=some (xj v w):=by
 unfold cG;rcases Nat.lt_trichotomy (can 4294967296 v).length (can 4294967296 w).length with hl|hl|hl
 ·rw[qi (uK (by decide) hl)];simp only[Option.bind_some];rw[show decide (((can 4294967296 v).length:Int)≠((can 4294967296 w).length:Int))=true by simp;omega,show decide (((can 4294967296 v).length:Int)<((can 4294967296 w).length:Int))=true by simp;omega];rfl
 ·simp only[Option.bind_some];rw[show decide (((can 4294967296 v).length:Int)≠((can 4294967296 w).length:Int))=false by simp;omega,cond_false];refine gR (λy=>∃n:Nat,y=(n:Int)-1/\n<=(can 4294967296 v).length/\v/4294967296^n=w/4294967296^n) (λe=>e=(if v=w then .inl ()else .inr (xj v w))) (λy=>(y+1).toNat) ?_ ⟨(can 4294967296 v).length,?_,Nat.le_refl _,?_⟩ ?_
  ·rintro y ⟨n,rfl,hn,he⟩;cases n with
   |zero=>
    right;have:v=w:=by simpa using he
    subst this;exact⟨_,by simp,Y⟩
   |succ m=>
    have GB:=sJ (B:=4294967296) (by decide) (v:=v) (j:=m) (by omega);have XP:=sJ (B:=4294967296) (by decide) (v:=w) (j:=m) (by omega);have e0:((m+1:Nat):Int)-1=(m:Int):=by omega
    rw[e0];rcases CL he with⟨h1,h2⟩|⟨h1,h2⟩|⟨h1,h2⟩
    ·left;refine⟨(m:Int)-1,?_,⟨m,Y,by omega,h2⟩,by omega⟩;simp only[Option.bind_some,bP GB,bP XP,h1];rw[ct (by omega) (by omega)];simp
    ·right;refine⟨.inr (-1),?_,by rw[if_neg (by omega),qi h2]⟩;simp only[Option.bind_some,bP GB,bP XP];simp[h1,Nat.ne_of_lt h1]
    right;refine⟨.inr 1,?_,by rw[if_neg (by omega),sL h2]⟩;simp only[Option.bind_some,bP GB,bP XP];simp[Nat.not_lt_of_lt h1,Nat.ne_of_gt h1]
  ·rw[ct (by omega) (by omega)]
  ·rw[AZ (by decide) (Nat.le_refl _),AZ (by decide) (by omega)]
  rintro e rfl;by_cases h:v=w
  ·subst h;simp[vL]
  simp[h]
 rw[sL (uK (by decide) hl)];simp only[Option.bind_some];rw[show decide (((can 4294967296 v).length:Int)≠((can 4294967296 w).length:Int))=true by simp;omega,show decide (((can 4294967296 v).length:Int)<((can 4294967296 w).length:Int))=false by simp;omega];rfl
theorem zm{l:List Nat}(h:∀x∈l,x<4294967296)(i:Nat):l.getD i 0<4294967296:=by
 rcases Nat.lt_or_ge i l.length with hi|hi
 ·exact h _ (List.mem_of_getElem? (qP hi))
 rw[ue hi];decide
theorem yq(a b:List Nat)(ha:Eh a)(hb:Eh b):dY a b=some (dR 4294967296 (max a.length b.length+1) (vl a+vl b)):=by
 obtain⟨hA,hla⟩:=ha;obtain⟨hB,hlb⟩:=hb;have hV:val 4294967296 a<4294967296^(max a.length b.length):=Nat.lt_of_lt_of_le (eT a hA) (Nat.pow_le_pow_right (by decide) (by omega));have hW:val 4294967296 b<4294967296^(max a.length b.length):=Nat.lt_of_lt_of_le (eT b hB) (Nat.pow_le_pow_right (by decide) (by omega));unfold dY;simp only[Option.bind_some];rw[show max (a.length:Int) (b.length:Int)=((max a.length b.length:Nat):Int) by omega,bZ (by omega),HY (by decide) (by omega),Option.bind_some];refine qf (λk=>(zj 4294967296 (vl a) (vl b) k,dR 4294967296 k (vl a+vl b))) (by simp[A4,dR]) (λk hk=>?_) ?_
 ·have hx:=zm hA k;have hy:=zm hB k;have hc:=A0 (B:=4294967296) (by decide) (vl a) (vl b) k;have hxe:=o5 a hA k;have hye:=o5 b hB k;simp only[Option.bind_some];rw[Nat.mod_eq_of_lt (a:=a.getD k 0) (by omega),Nat.mod_eq_of_lt (a:=b.getD k 0) (by omega),Nat.mod_eq_of_lt (a:=a.getD k 0+b.getD k 0) (by omega),gj _ _ (by omega)];simp only[Option.bind_some];rw[uI (by decide) (by rw[bB];omega),Option.bind_some,hxe,hye,A3 (by decide),zk (by decide),<-gS]
 have hc:=A0 (B:=4294967296) (by decide) (vl a) (vl b) (max a.length b.length);simp only;rw[gj _ _ (by omega)];simp only[Option.bind_some];rw[uI (by decide) (by rw[bB];omega),Option.bind_some,Nat.zero_add,Ec hV hW,<-gS]
theorem yt(a b:List Nat)(ha:Eh a)(hb:Eh b)(hl:b.length<=a.length)(hle:vl b<=vl a):cI a b=some (dR 4294967296 a.length (vl a-vl b)):=by
 obtain⟨hA,hla⟩:=ha;obtain⟨hB,hlb⟩:=hb;have hmx:max a.length b.length=a.length:=by omega
 unfold cI;simp only[Option.bind_some];rw[HY (by decide) (by omega),Option.bind_some,hmx];refine qf (λk=>(xh 4294967296 (vl a) (vl b) k,dR 4294967296 k (vl a-vl b))) (by simp[A5,dR]) (λk hk=>?_) Y;have hx:=zm hA k;have hy:=zm hB k;have hc:=HZ (B:=4294967296) (by decide) (vl a) (vl b) k;have hxe:=o5 a hA k;have hye:=o5 b hB k;simp only[Option.bind_some];rw[Nat.mod_eq_of_lt (a:=a.getD k 0) (by omega),Nat.mod_eq_of_lt (a:=b.getD k 0) (by omega),qe (by omega) (by omega),Nat.mod_eq_of_lt (a:=a.getD k 0+(4294967295-b.getD k 0)) (by omega),gj _ _ (by omega)];simp only[Option.bind_some];rw[uI (by decide) (by rw[bB];omega),Option.bind_some,hxe,hye,A6 (B:=4294967296) (by decide),Ed (B:=4294967296) (by decide) hle,<-gS]
theorem F3(a b:List Nat)(ha:Eh a)(hb:Eh b):fB a b=some (dR 4294967296 (a.length+b.length) (vl a*vl b)):=by
 obtain⟨hA,hla⟩:=ha;obtain⟨hB,hlb⟩:=hb;unfold fB;simp only[Option.bind_some];rw[kL (by omega),qc (by decide) (by omega),Option.bind_some];refine bH (λi=>((i:Int),dR 4294967296 (a.length+b.length) (vl a%4294967296^i*vl b))) a.length (dR 4294967296 (a.length+b.length) (vl a%4294967296^a.length*vl b)) (by simp[Nat.mod_one,o4]) (λi hi=>?_) (by simp) (by rw[Nat.mod_eq_of_lt (eT a hA)]);have Zq:=kN hA hi;have hx:val 4294967296 a/4294967296^i%4294967296<4294967296:=Nat.mod_lt _ (by decide);simp only[Option.bind_some,show decide ((i:Int)<(a.length:Int))=true by simp;omega,cond_true];rw[bP Zq,Option.bind_some];refine bH (λk=>((k:Int),mC 4294967296 (vl a) (vl b) i k,dR 4294967296 (a.length+b.length) (mV 4294967296 (vl a) (vl b) i k))) b.length (mC 4294967296 (vl a) (vl b) i b.length,dR 4294967296 (a.length+b.length) (mV 4294967296 (vl a) (vl b) i b.length)) (by simp[PY,PX]) (λk hk=>?_) (by simp) ?_
 ·have hgy:=kN hB hk;have Zs:=Ux (B:=4294967296) (by decide) (V:=vl a) (W:=vl b) (i:=i) (k:=k) (N:=a.length+b.length) (by omega);have hy:val 4294967296 b/4294967296^k%4294967296<4294967296:=Nat.mod_lt _ (by decide);have hp:vl a%4294967296^i*vl b/4294967296^(i+k)%4294967296<4294967296:=Nat.mod_lt _ (by decide);have hc:=Ss (B:=4294967296) (by decide) (vl a) (vl b) i k;have hxy:val 4294967296 a/4294967296^i%4294967296*(val 4294967296 b/4294967296^k%4294967296)<=4294967295*4294967295:=Nat.mul_le_mul (by omega) (by omega);simp only[Option.bind_some,show decide ((k:Int)<(b.length:Int))=true by simp;omega,cond_true];rw[bP hgy,Option.bind_some,kL (by omega),fe (by rw[bB];omega),Option.bind_some,Zs,Option.bind_some]
  rw[Nat.mod_eq_of_lt (a:=vl a%4294967296^i*vl b/4294967296^(i+k)%4294967296) (by omega),Nat.mod_eq_of_lt (a:=val 4294967296 a/4294967296^i%4294967296) (b:=18446744073709551616) (by omega),Nat.mod_eq_of_lt (a:=val 4294967296 b/4294967296^k%4294967296) (b:=18446744073709551616) (by omega),Nat.mod_eq_of_lt (a:=val 4294967296 a/4294967296^i%4294967296*(val 4294967296 b/4294967296^k%4294967296)) (by omega),Nat.mod_eq_of_lt (a:=vl a%4294967296^i*vl b/4294967296^(i+k)%4294967296+_) (by omega),gj _ _ (by omega)];simp only[Option.bind_some];rw[iH (by rw[bB];omega),Option.bind_some,PV (B:=4294967296) (by decide),PW (B:=4294967296) (by decide) (by omega),bZ (by omega)]
 have hc:=Ss (B:=4294967296) (by decide) (vl a) (vl b) i b.length;simp only[Option.bind_some];rw[kL (by omega),gj _ _ (by omega)];simp only[Option.bind_some];rw[fe (by rw[bB];omega),Option.bind_some,iH (by rw[bB];omega),Option.bind_some,Uy (B:=4294967296) (by decide) (eT b hB) (by omega),bZ (by omega)]
end
section
open Go.Fw
theorem P6{a b s:Nat}(h:a<2^s):b*2^s ||| a=b*2^s+a:=by rw[Nat.or_comm,NP h,Nat.add_comm]
theorem Jq{a b:Nat}(h:a<4294967296):b*4294967296 ||| a=b*4294967296+a:=P6 (s:=32) h
theorem F4(a:List Nat)(d:Nat)(ha:Eh a)(hd:0<d)(hd2:d<=4294967296):gM a d=some (vl a%d,dR 4294967296 a.length (vl a/d)):=by
 obtain⟨hA,hla⟩:=ha;unfold gM;simp only[Option.bind_some];rw[ct (by omega) (by omega)];refine bH (λi=>(vl a/4294967296^(a.length-i)%d,((a.length-i:Nat):Int)-1,dR 4294967296 a.length (qU 4294967296 (vl a) d (a.length-i)))) a.length (vl a%d,dR 4294967296 a.length (vl a/d)) ?_ (λi hi=>?_) (by simp[PZ]) ?_
 ·simp only[Nat.sub_zero];rw[Uz (eT a hA),zh a hA,Nat.div_eq_of_lt (eT a hA),Nat.zero_mod]
 ·obtain⟨m,hm⟩:∃m,a.length-i=m+1:=⟨a.length-i-1,by omega⟩;have hm':a.length-(i+1)=m:=by omega
  have hml:m<a.length:=by omega
  rw[hm,hm'];have hy:vl a/4294967296^m%4294967296<4294967296:=Nat.mod_lt _ (by decide);have hr:vl a/4294967296^(m+1)%d<d:=Nat.mod_lt _ hd;have hq:=P1 (B:=4294967296) (by decide) hd (vl a) m;have hqd:(vl a/4294967296^(m+1)%d*4294967296+vl a/4294967296^m%4294967296)/d<4294967296:=by rw[Nat.div_lt_iff_lt_mul hd,Nat.mul_comm 4294967296 d];exact hq
  have hg:=UA (B:=4294967296) (by decide) (V:=vl a) (d:=d) (m:=m) (N:=a.length) hml;have hlt:vl a/4294967296^(m+1)%d*4294967296+vl a/4294967296^m%4294967296<18446744073709551616:=by omega
  have KI:vl a/4294967296^(m+1)%d*4294967296<18446744073709551616:=Nat.lt_of_le_of_lt (Nat.le_add_right _ _) hlt;have Cd:vl a/4294967296^m%4294967296<18446744073709551616:=Nat.lt_of_le_of_lt (Nat.le_add_left _ _) hlt;have hi1:((m+1:Nat):Int)-1=(m:Int):=by omega
  simp only[hi1,show decide ((0:Int)<=(m:Int))=true by simp,cond_true,Option.bind_some];rw[fe (by rw[bB];omega),Option.bind_some,hg];simp only[Option.bind_some];rw[show(2:Nat)^32=4294967296 from rfl];rw[Nat.mod_eq_of_lt (a:=vl a/4294967296^(m+1)%d*4294967296) KI,Nat.mod_eq_of_lt (a:=vl a/4294967296^m%4294967296) (b:=18446744073709551616) Cd,Jq hy,Nat.mod_eq_of_lt (a:=vl a/4294967296^(m+1)%d*4294967296+vl a/4294967296^m%4294967296) hlt,Ea (by omega) hlt,zg (by omega)];simp only[Option.bind_some];rw[Nat.mod_eq_of_lt (b:=4294967296) (a:=(vl a/4294967296^(m+1)%d*4294967296+vl a/4294967296^m%4294967296)/d) hqd,iH (by rw[bB];omega),Option.bind_some,ct (by omega) (by omega)];rw[P3 (B:=4294967296) (by decide) hd hml,<-NM (B:=4294967296) (d:=d) (vl a) m]
 simp only;rw[o3 (by rw[bB]),Option.bind_some]
theorem shiftLeft_eq(a:List Nat)(s:Nat)(ha:Eh a)(hs:s<32):eN a s=some (dR 4294967296 (a.length+1) (vl a*2^s)):=by
 obtain⟨hA,hla⟩:=ha;have hf:2^s<4294967296:=by
  have:2^s<2^32:=Nat.pow_lt_pow_right (by decide) hs;omega
 unfold eN;simp only[Option.bind_some];rw[bZ (by omega),HY (by decide) (by omega),Option.bind_some];refine bH (λi=>((i:Int),sC 4294967296 (vl a) (2^s) 0 i,dR 4294967296 i (vl a*2^s+0))) a.length (sC 4294967296 (vl a) (2^s) 0 a.length,dR 4294967296 a.length (vl a*2^s+0)) (by simp[Ef,dR]) (λi hi=>?_) (by simp) ?_
 ·have hx:vl a/4294967296^i%4294967296<4294967296:=Nat.mod_lt _ (by decide);have hc:=NL (B:=4294967296) (by decide) (V:=vl a) hf (show(0:Nat)<4294967296 by decide) i;have hxf:vl a/4294967296^i%4294967296*2^s<=4294967295*4294967295:=Nat.mul_le_mul (by omega) (by omega);have hg:a[i]? =some (vl a/4294967296^i%4294967296):=kN hA hi;simp only[show decide ((i:Int)<(a.length:Int))=true by simp;omega,cond_true];rw[bP hg];simp only[Option.bind_some];rw[show min s 64=s by omega,Nat.mod_eq_of_lt (a:=vl a/4294967296^i%4294967296) (b:=18446744073709551616) (by omega),Nat.mod_eq_of_lt (b:=18446744073709551616) (by omega),gj _ _ (by omega)];simp only[Option.bind_some];rw[uI (by decide) (by rw[bB];omega),Option.bind_some,Eg (B:=4294967296) (by decide),H8 (B:=4294967296) (by decide),bZ (by omega),<-gS]
 have hc:=NL (B:=4294967296) (by decide) (V:=vl a) hf (show(0:Nat)<4294967296 by decide) a.length;simp only;rw[gj _ _ (by omega)];simp only[Option.bind_some];rw[uI (by decide) (by rw[bB];omega),Option.bind_some,Nat.zero_add,H9 (eT a hA),<-gS];simp
theorem B6(a:List Nat)(s:Nat):gZ a s=eN a s:=rfl
def uL:S7:=[0,1,2,2,3,3,3,3,4,4,4,4,4,4,4,4,5,5,5,5,5,5,5,5,5,5,5,5,5,5,5,5]++List.replicate 32 6++List.replicate 64 7++List.replicate 128 8
theorem UB:∀y:Nat,y<256->tC uL (y:Int)=some ((tC uL (y:Int)).getD 0)/\(tC uL (y:Int)).getD 0<=8/\y<2^(tC uL (y:Int)).getD 0/\(y=0\/2^(tC uL (y:Int)).getD 0<=2*y):=by decide+kernel
set_option maxRecDepth 20000 in
theorem NQ(x:Nat)(h:x<4294967296):∃n:Nat,fN x=some (n:Int)/\n<=32/\x<2^n/\(x=0\/2^n<=2*x):=by
 have key:∀(y k:Nat),y<256->y=x/2^k->k<=24->(x≠0->y≠0)->∃n:Nat,(((tC uL ((y%256:Nat):Int)).bind λeU=>(some (IntKind.i64.wrap (eU:Int))).bind λfz=>(some (IntKind.i64.wrap ((k:Int)+fz))).bind λfK=>some fK)=some (n:Int))/\n<=32/\x<2^n/\(x=0\/2^n<=2*x):=by
  intro y k hy hyx hk hnz;obtain⟨h1,h2,h3,h4⟩:=UB y hy;rw[Nat.mod_eq_of_lt hy,h1];generalize (tC uL (y:Int)).getD 0=t at*;have hp:0<2^k:=Nat.two_pow_pos _;have e1:2^(k+t)=2^k*2^t:=Nat.pow_add ..;have e2:=Nat.div_add_mod x (2^k);have e3:=Nat.mod_lt x hp;rw[<-hyx]at e2;refine⟨k+t,?_,by omega,?_,?_⟩
  ·simp only[Option.bind_some];rw[gD (by omega),kL (by omega)]
  ·rw[e1];have:2^k*(y+1)<=2^k*2^t:=Nat.mul_le_mul_left _ h3;rw[Nat.mul_add]at this;omega
  rcases h4 with h4|h4
  ·left;cases Nat.eq_zero_or_pos x with
   |inl h=>exact h
   |inr h=>exact absurd h4 (hnz (by omega))
  right;rw[e1];have:2^k*2^t<=2^k*(2*y):=Nat.mul_le_mul_left _ h4;rw[show 2^k*(2*y)=2*(2^k*y) by rw[Nat.mul_left_comm]]at this;omega
 unfold fN;simp only[cm,Option.bind_some];by_cases c1:65536<=x
 ·rw[show decide (65536<=x)=true by simpa using c1];simp only[cond_true];by_cases c2:256<=x/2^16
  ·rw[show decide (256<=x/2^16)=true by simpa using c2];simp only[cond_true];rw[show IntKind.i64.wrap (16+8)=((24:Nat):Int) by decide];exact key (x/2^16/2^8) 24 (by omega) (by omega) (by omega) (by omega)
  rw[show decide (256<=x/2^16)=false by simpa using c2];simp only[cond_false];exact key (x/2^16) 16 (by omega) Y (by omega) (by omega)
 rw[show decide (65536<=x)=false by simpa using c1];simp only[cond_false];by_cases c2:256<=x
 ·rw[show decide (256<=x)=true by simpa using c2];simp only[cond_true];rw[show IntKind.i64.wrap (0+8)=((8:Nat):Int) by decide];exact key (x/2^8) 8 (by omega) Y (by omega) (by omega)
 rw[show decide (256<=x)=false by simpa using c2];simp only[cond_false];exact key x 0 (by omega) (by simp) (by omega) (λh=>h)
theorem XQ(x:Nat)(h:x<4294967296)(h0:x≠0):∃s:Nat,cS x=some (s:Int)/\s<32/\2147483648<=x*2^s/\x*2^s<4294967296:=by
 obtain⟨n,h1,h2,h3,h4⟩:=NQ x h;have h4:2^n<=2*x:=h4.resolve_left h0;have hn:n≠0:=by rintro rfl;simp at h3;omega
 refine⟨32-n,?_,by omega,?_,?_⟩
 ·unfold cS;rw[h1];simp only[Option.bind_some];rw[ct (by omega) (by omega)];congr 1;omega
 ·have:2^n*2^(32-n)<=2*x*2^(32-n):=Nat.mul_le_mul_right _ h4;rw[<-Nat.pow_add,show n+(32-n)=32 by omega,Nat.mul_assoc]at this;omega
 have:x*2^(32-n)<2^n*2^(32-n):=Nat.mul_lt_mul_of_pos_right h3 (Nat.two_pow_pos _);rw[<-Nat.pow_add,show n+(32-n)=32 by omega]at this;omega
end
end Go.Proofs.YtfoldppidpmchaaGreat
namespace Go.Fw
section
section XR
variable {B V U W:Nat}
theorem UC{P F T:Nat}(hP:0<P)(hF:0<F)(hV:F*P<=V)(hU:U<(T+1)*P):U/V<=T/F:=by
 have Ow:0<V:=Nat.lt_of_lt_of_le (Nat.mul_pos hF hP) hV;rw[Nat.le_div_iff_mul_le hF];rcases Nat.lt_or_ge T (U/V*F)with h|h
 ·exfalso;have h1:U/V*V<=U:=Nat.div_mul_le_self U V;have h2:U/V*(F*P)<=U/V*V:=Nat.mul_le_mul_left _ hV;have h3:(T+1)*P<=U/V*F*P:=Nat.mul_le_mul_right _ h;rw[Nat.mul_assoc]at h3;omega
 exact h
theorem P7{P F S T u g r:Nat}(hV:(F*B+S)*P<=V)(hU:U<(T*B+u+1)*P)(VQ:g*F+r=T)(h:r*B+u<g*S):U<g*V:=by
 have h1:g*((F*B+S)*P)<=g*V:=Nat.mul_le_mul_left _ hV;have h2:(T*B+u+1)*P<=g*(F*B+S)*P:=by
  apply Nat.mul_le_mul_right;rw[Nat.mul_add,<-Nat.mul_assoc,<-VQ,Nat.add_mul];omega
 rw[Nat.mul_assoc]at h2;omega
theorem UD{P V2 U2 g:Nat}(hV:V<(V2+1)*P)(hU:U2*P<=U)(hq:U/V<B)(hB:B<=V2)(Ow:0<V)(h:g*V2<=U2):g<=U/V+1:=by
 rcases Nat.lt_or_ge (U/V+1) g with h'|h'
 ·exfalso;have h1:U<(U/V+1)*V:=by have:=Nat.lt_div_mul_add (a:=U) Ow;rw[Nat.add_mul,Nat.one_mul];exact this
  have h2:(U/V+1)*V<=(U/V+1)*((V2+1)*P):=Nat.mul_le_mul_left _ (Nat.le_of_lt hV);have h3:g*V2*P<=U2*P:=Nat.mul_le_mul_right _ h;have h4:(U/V+2)*V2<=g*V2:=Nat.mul_le_mul_right _ h';have h5:(U/V+2)*V2*P<=g*V2*P:=Nat.mul_le_mul_right _ h4;have h6:(U/V+1)*((V2+1)*P)<=(U/V+2)*V2*P:=by
   rw[<-Nat.mul_assoc];apply Nat.mul_le_mul_right;rw[Nat.mul_add,Nat.add_mul (U/V) 2 V2,Nat.add_mul (U/V) 1 V2];omega
  omega
 exact h'
end XR
def mix(B o i X U A:Nat):Nat:=A%B^o+B^o*(X%B^i+B^i*(U/B^i))
theorem Jr(B o i X U A:Nat):mix B o i X U A%B^o=A%B^o:=by rw[mix,Nat.add_mul_mod_self_left,Nat.mod_mod]
section mix
variable {B:Nat}(hB:0<B)(o i X U A:Nat)
include hB
theorem vN:mix B o i X U A/B^o=X%B^i+B^i*(U/B^i):=by
 rw[mix,Nat.add_mul_div_left _ _ (Nat.pow_pos hB),Nat.div_eq_of_lt (Nat.mod_lt _ (Nat.pow_pos hB)),Nat.zero_add]
theorem vO:mix B o i X U A/B^(o+i)=U/B^i:=by
 rw[Nat.pow_add,<-Nat.div_div_eq_div_mul,vN hB,Nat.add_mul_div_left _ _ (Nat.pow_pos hB),Nat.div_eq_of_lt (Nat.mod_lt _ (Nat.pow_pos hB)),Nat.zero_add]
theorem P8:mix B o i X U A%B^(o+i)=A%B^o+B^o*(X%B^i):=by
 rw[Nat.pow_add,Nat.mod_mul,Jr,vN hB,Nat.add_mul_mod_self_left,Nat.mod_mod]
theorem Ei{N:Nat}(h:o+i<N):(dR B N (mix B o i X U A)).set (o+i) (X/B^i%B)=dR B N (mix B o (i+1) X U A):=by
 apply sK hB h (Nat.mod_lt _ hB)
 ·rw[P8 hB,Nat.pow_add,Nat.mod_mul,Jr,vN hB,Nat.pow_succ B i,Nat.mul_assoc,Nat.add_mul_mod_self_left,Nat.mod_mul,Nat.add_mul_mod_self_left,Nat.mod_mod]
 ·rw[Nat.pow_add,<-Nat.div_div_eq_div_mul,vN hB,Nat.pow_succ B i,Nat.mod_mul,Nat.mul_assoc,Nat.add_assoc,<-Nat.mul_add,Nat.add_mul_div_left _ _ (Nat.pow_pos hB),Nat.div_eq_of_lt (Nat.mod_lt _ (Nat.pow_pos hB)),Nat.zero_add,Nat.add_mul_mod_self_left,Nat.mod_mod]
 have h1:=vO hB o (i+1) X U A;have h2:=vO hB o i X U A;rw[show o+i+1=o+(i+1) by omega,h1,show o+(i+1)=(o+i)+1 by omega,Nat.pow_succ B (o+i),<-Nat.div_div_eq_div_mul,h2,Nat.pow_succ,<-Nat.div_div_eq_div_mul]
end mix
theorem F5{B o m X U A:Nat}(hU:U<B^m):mix B o m X U A=A%B^o+B^o*(X%B^m):=by rw[mix,Nat.div_eq_of_lt hU];simp
theorem F6{B:Nat}(o X A:Nat):mix B o 0 X (A/B^o) A=A:=by
 simp only[mix,Nat.pow_zero,Nat.mod_one,Nat.zero_add,Nat.one_mul,Nat.div_one];exact Nat.mod_add_div A (B^o)
theorem Kx{B U U' T i:Nat}(h:U%B^i=U'%B^i):xh B U T i=xh B U' T i:=by rw[xh,xh,h]
theorem NR{B:Nat}(hB:0<B){U T m i:Nat}(hi:i<m)(hT:T<=U+B^m):(U/B^i%B+(B-1-T/B^i%B)+xh B U T i)%B=(U+B^m-T)/B^i%B:=by
 have e:B^m=B^i*(B*B^(m-i-1)):=by rw[<-Nat.pow_succ',<-Nat.pow_add];congr 1;omega
 have h1:(U+B^m)%B^i=U%B^i:=by rw[e,Nat.add_mul_mod_self_left]
 have h2:(U+B^m)/B^i%B=U/B^i%B:=by rw[e,Nat.add_mul_div_left _ _ (Nat.pow_pos hB),Nat.add_mul_mod_self_left]
 rw[<-h2,Kx (U':=U+B^m) h1.symm,Ed hB hT]
theorem P9{B m U T:Nat}(hB:0<B)(hU:U<B^m)(hT:T<B^m):xh B U T m=if U<T then 0 else 1:=by
 rw[xh,Nat.mod_eq_of_lt hU,Nat.mod_eq_of_lt hT];have hp:0<B^m:=Nat.pow_pos hB;split
 ·exact Nat.div_eq_of_lt (by omega)
 rw[show U+B^m-T=(U-T)+B^m by omega,Nat.add_div_right _ hp,Nat.div_eq_of_lt (by omega)]
end
end Go.Fw
namespace Go.Proofs.YtfoldppidpmchaaGreat
section
open Go.Fw
theorem me{N A j:Nat}(h:j<N):(dR 4294967296 N A)[j]? =some (A/4294967296^j%4294967296):=vJ N A j h
theorem two32:(2:Nat)^32=4294967296:=rfl
theorem XS:(2:Nat)^63=9223372036854775808:=rfl
theorem Ej(A o j:Nat):A/4294967296^(o+j)=A/4294967296^o/4294967296^j:=by rw[Nat.pow_add,Nat.div_div_eq_div_mul]
theorem F7{N A o n:Nat}{v:List Nat}(hv:Eh v)(hn:v.length=n+2)(hN:N<=35184372088809)(ho:o+(n+2)<N)
  (hU:A/4294967296^o<4294967296*vl v) (NS:2147483648*4294967296^(n+1)<=vl v):
  ∃r,gN (dR 4294967296 N A) o (n+3) v=some r/\r.2=dR 4294967296 N A/\A/4294967296^o/vl v<=r.1/\r.1<=A/4294967296^o/vl v+1:=by
 obtain⟨hV,hlv⟩:=hv;obtain⟨U,Ox⟩:∃U,A/4294967296^o=U:=⟨_,Y⟩;obtain⟨V,Oy⟩:∃V,vl v=V:=⟨_,Y⟩;have yQ:V<4294967296^(n+2):=by rw[<-Oy,<-hn];exact eT v hV
 have Sw:0<4294967296^(n+1):=Nat.pow_pos (by decide);have hP:0<4294967296^n:=Nat.pow_pos (by decide);have UE:4294967296^(n+1)=4294967296^n*4294967296:=Nat.pow_succ ..;have F8:4294967296^(n+2)=4294967296^(n+1)*4294967296:=Nat.pow_succ ..;rw[Ox,Oy]at hU⊢;rw[Oy]at NS;have XT:U<4294967296^(n+1)*4294967296*4294967296:=by
  have:4294967296*V<4294967296*4294967296^(n+2):=Nat.mul_lt_mul_of_pos_left yQ (by decide);rw[F8]at this;omega
 obtain⟨F,hF⟩:∃F,V/4294967296^(n+1)=F:=⟨_,Y⟩;obtain⟨S,hS⟩:∃S,V/4294967296^n%4294967296=S:=⟨_,Y⟩;obtain⟨T,hT⟩:∃T,U/4294967296^(n+1)=T:=⟨_,Y⟩;obtain⟨u,hu⟩:∃u,U/4294967296^n%4294967296=u:=⟨_,Y⟩;have aeV:F<4294967296:=by rw[<-hF,Nat.div_lt_iff_lt_mul Sw];rw[F8,Nat.mul_comm]at yQ;exact yQ
 have aie:2147483648<=F:=by rw[<-hF,Nat.le_div_iff_mul_le Sw];exact NS
 have aif:S<4294967296:=by rw[<-hS];exact Nat.mod_lt _ (by decide)
 have XU:u<4294967296:=by rw[<-hu];exact Nat.mod_lt _ (by decide)
 have aeW:T<4294967296*4294967296:=by rw[<-hT,Nat.div_lt_iff_lt_mul Sw];rw[Nat.mul_comm,<-Nat.mul_assoc];exact XT
 have hV2:V/4294967296^n=F*4294967296+S:=by rw[<-hF,<-hS,UE,<-Nat.div_div_eq_div_mul,Nat.mul_comm,Nat.div_add_mod]
 have hU2:U/4294967296^n=T*4294967296+u:=by rw[<-hT,<-hu,UE,<-Nat.div_div_eq_div_mul,Nat.mul_comm,Nat.div_add_mod]
 have hq:U/V<4294967296:=by rw[Nat.div_lt_iff_lt_mul (by omega)];exact hU
 have XV:(F*4294967296+S)*4294967296^n<=V:=by rw[<-hV2];exact Nat.div_mul_le_self _ _
 have XW:V<(F*4294967296+S+1)*4294967296^n:=by rw[<-hV2,Nat.add_mul,Nat.one_mul];exact Nat.lt_div_mul_add hP
 have XX:(T*4294967296+u)*4294967296^n<=U:=by rw[<-hU2];exact Nat.div_mul_le_self _ _
 have XY:U<(T*4294967296+u+1)*4294967296^n:=by rw[<-hU2,Nat.add_mul,Nat.one_mul];exact Nat.lt_div_mul_add hP
 have Sx:F*4294967296^(n+1)<=V:=by rw[<-hF];exact Nat.div_mul_le_self _ _
 have Sy:U<(T+1)*4294967296^(n+1):=by rw[<-hT,Nat.add_mul,Nat.one_mul];exact Nat.lt_div_mul_add Sw
 have SA:V<(F+1)*4294967296^(n+1):=by rw[<-hF,Nat.add_mul,Nat.one_mul];exact Nat.lt_div_mul_add Sw
 have hTF:T<4294967296*(F+1):=by
  rw[<-hT,Nat.div_lt_iff_lt_mul Sw];have:4294967296*V<4294967296*((F+1)*4294967296^(n+1)):=Nat.mul_lt_mul_of_pos_left SA (by decide);rw[Nat.mul_assoc];omega
 have g1:(dR 4294967296 N A)[o+(n+2)]? =some (U/4294967296^(n+2)%4294967296):=by rw[me (by omega),Ej,Ox]
 have g2:(dR 4294967296 N A)[o+(n+1)]? =some (U/4294967296^(n+1)%4294967296):=by rw[me (by omega),Ej,Ox]
 have g3:(dR 4294967296 N A)[o+n]? =some u:=by rw[me (by omega),Ej,Ox,hu]
 have g4:v[n+1]? =some F:=by rw[kN hV (by omega),show val 4294967296 v=V from Oy,hF,Nat.mod_eq_of_lt aeV]
 have g5:v[n]? =some S:=by rw[kN hV (by omega),show val 4294967296 v=V from Oy,hS]
 have hun:U/4294967296^(n+2)<4294967296:=by rw[F8,<-Nat.div_div_eq_div_mul,hT,Nat.div_lt_iff_lt_mul (by decide)];exact aeW
 have Ia:U/4294967296^(n+2)%4294967296*4294967296+U/4294967296^(n+1)%4294967296=T:=by
  rw[Nat.mod_eq_of_lt hun,F8,<-Nat.div_div_eq_div_mul,hT,Nat.mul_comm,Nat.div_add_mod]
 obtain⟨t1,ht1⟩:∃t,U/4294967296^(n+2)%4294967296=t:=⟨_,Y⟩;obtain⟨t2,ht2⟩:∃t,U/4294967296^(n+1)%4294967296=t:=⟨_,Y⟩;have l1:t1<4294967296:=by rw[<-ht1];exact Nat.mod_lt _ (by decide)
 have l2:t2<4294967296:=by rw[<-ht2];exact Nat.mod_lt _ (by decide)
 rw[ht1]at g1 Ia;rw[ht2]at g2 Ia;clear ht1 ht2 hU2 hV2;have c1:((n+2:Nat):Int)-1=((n+1:Nat):Int):=by omega
 have c2:((n+2:Nat):Int)-2=(n:Int):=by omega
 unfold gN;simp only[Option.bind_some,hn,c1,c2];rw[gD (by omega),gD (by omega),zf (by omega),zf (by omega),zf (by omega)];simp only[Option.bind_some];rw[g1,g2,bP g4,bP g5];simp only[Option.bind_some,two32];rw[Nat.mod_eq_of_lt (a:=t1) (by omega),Nat.mod_eq_of_lt (a:=t2) (by omega),Nat.mod_eq_of_lt (a:=t1*4294967296) (by omega),Jq l2,Ia,Nat.mod_eq_of_lt (a:=T) (by omega),Nat.mod_eq_of_lt (a:=F) (by omega),Nat.mod_eq_of_lt (a:=S) (by omega),Ea (by omega) (by omega),zg (by omega)];simp only[Option.bind_some];have ae1:=UC (V:=V) (U:=U) Sw (show 0<F by omega) Sx Sy;have hle:∀g,g*(F*4294967296+S)<=T*4294967296+u->g<=U/V+1:=λg h=>UD (B:=4294967296) XW XX hq (by omega) (by omega) h;have ae2:∀g r,g*F+r=T->r*4294967296+u<g*S->U/V<g:=λg r i1 ht=>(Nat.div_lt_iff_lt_mul (by omega)).2 (P7 XV XY i1 ht);have hg0:T/F<=4294967297:=by
  have:T/F<4294967298:=by
   rw[Nat.div_lt_iff_lt_mul (by omega)];omega
  omega
 generalize U/V=q at*;clear XV XW XX XY Sx Sy SA hTF XT NS yQ UE F8 hP Sw hF hS hT hu Ox Oy hU;have hdm:=Nat.div_add_mod T F;have hml:=Nat.mod_lt T (show 0<F by omega);have ae4:T/F*F+T%F=T:=by rw[Nat.mul_comm];exact hdm
 clear hdm;refine mX (λx=>x.1*F+x.2=T/\q<=x.1/\x.2<4294967296/\x.1<=4294967297) (λe=>q<=e/\e<=q+1) (λx=>x.1) ?_ ⟨ae4,ae1,by show T%F<_;omega,hg0⟩ ?_
 ·rintro⟨g,r⟩ ⟨i1,i2,i3,i4⟩;simp only at i1 i2 i3 i4;have down:q<g->(∃s',(bif decide ((r+F)%18446744073709551616/4294967296≠0)then some (.inr (nj 18446744073709551616 g 1))else some (.inl (nj 18446744073709551616 g 1,(r+F)%18446744073709551616)):Option ((Nat×Nat)⊕Nat))=some (.inl s')/\(s'.1*F+s'.2=T/\q<=s'.1/\s'.2<4294967296/\s'.1<=4294967297)/\s'.1<g)\/
    (∃e,(bif decide ((r+F)%18446744073709551616/4294967296≠0)then some (.inr (nj 18446744073709551616 g 1))else some (.inl (nj 18446744073709551616 g 1,(r+F)%18446744073709551616)):Option ((Nat×Nat)⊕Nat))=some (.inr e)/\q<=e/\e<=q+1):=by
   intro hlt;have e1:(g-1)*F+(r+F)=T:=by
    obtain⟨k,rfl⟩:∃k,g=k+1:=⟨g-1,by omega⟩;rw[Nat.add_sub_cancel];rw[Nat.add_mul]at i1;omega
   rw[qe (by omega) (by omega),Nat.mod_eq_of_lt (a:=r+F) (by omega)];by_cases hb:r+F<4294967296
   ·left;refine⟨(g-1,r+F),by simp[Nat.div_eq_of_lt hb],⟨e1,by simp only;omega,hb,by simp only;omega⟩,by simp only;omega⟩
   right;have hne:(r+F)/4294967296≠0:=by omega
   refine⟨g-1,by simp[hne],by omega,?_⟩;refine hle _ ?_;have m1:(g-1)*S<=4294967296*4294967295:=Nat.mul_le_mul (by omega) (by omega);rw[Nat.mul_add,<-Nat.mul_assoc];have m2:((g-1)*F+(r+F))*4294967296=T*4294967296:=by rw[e1]
   rw[Nat.add_mul]at m2;omega
  simp only[cm,bF];by_cases hg:g<4294967296
  ·rw[show decide (g/4294967296≠0)=false by simp;omega];have hgS:g*S<=4294967295*4294967295:=Nat.mul_le_mul (by omega) (by omega);simp only[fL];rw[g3];simp only[bF];rw[Nat.mod_eq_of_lt (a:=g*S) (by omega),Nat.mod_eq_of_lt (a:=r*4294967296) (by omega),Nat.mod_eq_of_lt (a:=u) (by omega),Jq XU,Nat.mod_eq_of_lt (a:=r*4294967296+u) (by omega)];by_cases ht:r*4294967296+u<g*S
   ·rw[show decide (r*4294967296+u<g*S)=true by simpa using ht];simp only[bF,fy];exact down (ae2 _ _ i1 ht)
   rw[show decide (r*4294967296+u<g*S)=false by simpa using ht];right;refine⟨g,by simp,i2,?_⟩;refine hle _ ?_;rw[Nat.mul_add,<-Nat.mul_assoc,<-i1,Nat.add_mul];omega
  rw[show decide (g/4294967296≠0)=true by simp;omega];simp only[bF,fy];exact down (by omega)
 rintro e ⟨h2,h3⟩;exact⟨(e,dR 4294967296 N A),by rw[o3 Y,Option.bind_some],Y,h2,h3⟩
end
section
open Go.Fw
theorem tv{N A o n f:Nat}{v:List Nat}(hv:Eh v)(hn:v.length=n)(hN:N<=35184372088809)(ho:o+n<N)(hf:f<=4294967296)
  (hU:A/4294967296^o<4294967296^(n+1)):
  cJ (dR 4294967296 N A) o (n+1) v f=some (decide (A/4294967296^o<vl v*f),dR 4294967296 N (A%4294967296^o+4294967296^o*((A/4294967296^o+4294967296^(n+1)-vl v*f)%4294967296^(n+1)))):=by
 obtain⟨hV,hlv⟩:=hv;obtain⟨U,Ox⟩:∃U,A/4294967296^o=U:=⟨_,Y⟩;obtain⟨V,Oy⟩:∃V,vl v=V:=⟨_,Y⟩;have yQ:V<4294967296^n:=by rw[<-Oy,<-hn];exact eT v hV
 have OI:4294967296^(n+1)=4294967296^n*4294967296:=Nat.pow_succ ..;have hT:V*f<4294967296^(n+1):=by
  rw[OI]
  calc V*f<=V*4294967296:=Nat.mul_le_mul_left _ hf
   _<4294967296^n*4294967296:=Nat.mul_lt_mul_of_pos_right yQ (by decide)
 rw[Ox]at hU⊢;rw[Oy];obtain⟨X,hX⟩:∃X,U+4294967296^(n+1)-V*f=X:=⟨_,Y⟩;rw[hX];unfold cJ;simp only[bF];have UF:∀i,xh 4294967296 U (V*f) i<=1:=λi=>HZ (by decide) _ _ _;refine bH (λi=>(1-xh 4294967296 U (V*f) i,(i:Int),sC 4294967296 V f 0 i,dR 4294967296 N (mix 4294967296 o i X U A))) (n+1) (1-xh 4294967296 U (V*f) (n+1),dR 4294967296 N (mix 4294967296 o (n+1) X U A)) ?_ (λi hi=>?_) ?_ ?_
 ·rw[A5,Ef,<-Ox,F6];rfl
 ·
  obtain⟨t,ht⟩:∃t,V*f/4294967296^i%4294967296=t:=⟨_,Y⟩;obtain⟨c,hc⟩:∃c,sC 4294967296 V f 0 i=c:=⟨_,Y⟩;obtain⟨p,hp⟩:∃p,V/4294967296^i%4294967296*f=p:=⟨_,Y⟩;have aii:c<4294967296:=by
   rw[<-hc,sC,sT,Nat.add_zero,Nat.div_lt_iff_lt_mul (Nat.pow_pos (by decide))]
   calc V%4294967296^i*f<=V%4294967296^i*4294967296:=Nat.mul_le_mul_left _ hf
    _<4294967296*4294967296^i:=by rw[Nat.mul_comm];exact Nat.mul_lt_mul_of_pos_left (Nat.mod_lt _ (Nat.pow_pos (by decide))) (by decide)
  have aij:p<=4294967295*4294967296:=by
   rw[<-hp];exact Nat.mul_le_mul (by have:=Nat.mod_lt (V/4294967296^i) (show 0<4294967296 by decide);omega) hf
  have H7:(p+c)%4294967296=t:=by rw[<-hp,<-hc,H8 (B:=4294967296) (by decide),Nat.add_zero,ht]
  have hstep:(p+c)/4294967296=sC 4294967296 V f 0 (i+1):=by rw[<-hp,<-hc,Eg (B:=4294967296) (by decide)]
  have aik:t<4294967296:=by rw[<-ht];exact Nat.mod_lt _ (by decide)
  obtain⟨u,hu⟩:∃u,U/4294967296^i%4294967296=u:=⟨_,Y⟩;have XU:u<4294967296:=by rw[<-hu];exact Nat.mod_lt _ (by decide)
  have hg:(dR 4294967296 N (mix 4294967296 o i X U A))[o+i]? =some u:=by rw[me (by omega),vO (by decide),hu]
  have hl:=UF i;obtain⟨l,hle⟩:∃l,xh 4294967296 U (V*f) i=l:=⟨_,Y⟩;have hxd:(u+(4294967296-1-t)+l)%4294967296=X/4294967296^i%4294967296:=by rw[<-hu,<-ht,<-hle,NR (B:=4294967296) (by decide) hi (by omega),hX]
  have hls:(u+(4294967296-1-t)+l)/4294967296=xh 4294967296 U (V*f) (i+1):=by rw[<-hu,<-ht,<-hle,A6 (B:=4294967296) (by decide)]
  rw[hle]at hl;have hput:=Ei (B:=4294967296) (by decide) o i X U A (N:=N) (by omega);rw[hle,hc,<-hls];simp only[show decide ((i:Int)<((n+1:Nat):Int))=true by simp;omega,fy,bF,cm];rw[zf (by omega)];simp only[bF,hg];have way:∀k:Nat->Option ((Nat×Int×Nat×List Nat)⊕(Nat×List Nat)),(bif decide ((i:Int)<(v.length:Int))then(cY v (i:Int)).bind λgU=>k (gU%18446744073709551616*f%18446744073709551616)else k 0)=k p:=by
   intro k;by_cases hin:i<v.length
   ·rw[show decide ((i:Int)<(v.length:Int))=true by simp;omega,fy];have GB:v[i]? =some (V/4294967296^i%4294967296):=by rw[<-Oy];exact kN hV hin
    rw[bP GB,bF,Nat.mod_eq_of_lt (a:=V/4294967296^i%4294967296) (b:=18446744073709551616) (by have:=Nat.mod_lt (V/4294967296^i) (show 0<4294967296 by decide);omega),hp,Nat.mod_eq_of_lt (a:=p) (by omega)]
   rw[show decide ((i:Int)<(v.length:Int))=false by simp;omega,fL];have:V/4294967296^i=0:=Nat.div_eq_of_lt (Nat.lt_of_lt_of_le yQ (Nat.pow_le_pow_right (by decide) (by omega)));rw[<-hp,this];simp
  refine(way (λy=>(bO y c).bind _)).trans ?_;rw[gj _ _ (by omega)];simp only[bF];rw[H7,hstep,Nat.mod_eq_of_lt (a:=u) (by omega),Nat.mod_eq_of_lt (a:=t) (by omega)];rw[iH (by rw[bB];omega),bF,bZ (by omega),XS];by_cases SW:u<t+(1-l)
  ·have e1:nj 18446744073709551616 (nj 18446744073709551616 u t) (1-l)=18446744073709551616+u-t-(1-l):=by
    by_cases h1:u<t
    ·rw[vI h1 (by omega),qe (by omega) (by omega)]
    rw[qe (a:=u) (b:=t) (by omega) (by omega),vI (by omega) (by omega)];omega
   rw[e1];have e2:(18446744073709551616+u-t-(1-l))%4294967296=X/4294967296^i%4294967296:=by rw[<-hxd];omega
   have e3:(18446744073709551616+u-t-(1-l))/9223372036854775808=1-(u+(4294967296-1-t)+l)/4294967296:=by omega
   rw[e2,e3,hput]
  have e1:nj 18446744073709551616 (nj 18446744073709551616 u t) (1-l)=u-t-(1-l):=by
   rw[qe (a:=u) (b:=t) (by omega) (by omega),qe (by omega) (by omega)]
  rw[e1];have e2:(u-t-(1-l))%4294967296=X/4294967296^i%4294967296:=by rw[<-hxd];omega
  have e3:(u-t-(1-l))/9223372036854775808=1-(u+(4294967296-1-t)+l)/4294967296:=by omega
  rw[e2,e3,hput]
 ·simp
 simp only[bF];rw[o3 (by rw[bB,bB]),bF,F5 hU,P9 (by decide) hU hT];congr 2;by_cases h:U<V*f<;>simp[h]
end
section
open Go.Fw
theorem XZ{B V:Nat}(hB:0<B)(hV:0<V)(A k:Nat):A%(V*B^(k+1))/B^k<B*V:=by
 rw[Nat.div_lt_iff_lt_mul (Nat.pow_pos hB)];have:V*B^(k+1)=B*V*B^k:=by rw[Nat.pow_succ,Nat.mul_comm (B^k),<-Nat.mul_assoc,Nat.mul_comm V]
 rw[<-this];exact Nat.mod_lt _ (Nat.mul_pos hV (Nat.pow_pos hB))
theorem UG{B V:Nat}(A k:Nat):A%(V*B^(k+1))%B^k+B^k*(A%(V*B^(k+1))/B^k%V)=A%(V*B^k):=by
 rw[<-Nat.mod_mul,Nat.mul_comm (B^k),Nat.mod_mod_of_dvd];rw[Nat.pow_succ,<-Nat.mul_assoc];exact Nat.dvd_mul_right _ _
theorem UH{B V:Nat}(A k:Nat):A%(V*B^(k+1))/B^k/V=A/V/B^k%B:=by
 rw[Nat.div_div_eq_div_mul,Nat.mul_comm (B^k),Nat.pow_succ,<-Nat.mul_assoc,Nat.mod_mul_right_div_self,Nat.div_div_eq_div_mul]
theorem Ek{B:Nat}(hB:0<B){N k:Nat}(h:k<N)(Q:Nat):(dR B N (Q/B^(k+1)*B^(k+1))).set k (Q/B^k%B)=dR B N (Q/B^k*B^k):=by
 have hP:0<B^k:=Nat.pow_pos hB;refine sK hB h (Nat.mod_lt _ hB) ?_ ?_ ?_
 ·rw[Nat.mul_mod_left,Nat.pow_succ,Nat.mul_comm (B^k),<-Nat.mul_assoc,Nat.mul_mod_left]
 ·rw[Nat.mul_div_cancel _ hP]
 rw[Nat.mul_div_cancel _ (Nat.pow_pos hB),Nat.pow_succ,<-Nat.div_div_eq_div_mul,Nat.mul_div_cancel _ hP,Nat.div_div_eq_div_mul]
theorem Js{α:Type}{l:List α}{o n:Nat}(h:o<l.length)(h':o+n<=l.length):S9 l (o:Int) ((o+n:Nat):Int)=some (o,n):=by
 unfold S9;rw[if_pos (by omega)];congr 2;omega
theorem Qa{U V g M:Nat}(hV:0<V)(h1:U/V<=g)(h2:g<=U/V+1)(hM:U<M)(hVM:V<=M):
  (V*g<=U/\g=U/V/\(U+M-V*g)%M=U%V)\/(U<V*g/\g=U/V+1/\U+M-V*g<M/\(U+M-V*g+V)%M=U%V):=by
 have hd:=Nat.div_add_mod U V;have hm:=Nat.mod_lt U hV
 revert h1 h2 hd hm
 generalize U/V=q;generalize U%V=r;intro h1 h2 hd hm;rcases Nat.lt_or_ge q g with h|h
 ·obtain rfl:g=q+1:=by omega
  have e:V*(q+1)=V*q+V:=Nat.mul_succ ..;right;refine⟨by omega,Y,by omega,?_⟩;rw[show U+M-V*(q+1)+V=r+M by omega,Nat.add_mod_right,Nat.mod_eq_of_lt (by omega)]
 obtain rfl:g=q:=by omega
 left;refine⟨by omega,Y,?_⟩;rw[show U+M-V*g=r+M by omega,Nat.add_mod_right,Nat.mod_eq_of_lt (by omega)]
theorem Qb{R D e i:Nat}(hD:0<D)(he:4294967296=D*e):(R*D/4294967296^(i+1)%4294967296*4294967296+R*D/4294967296^i%4294967296)/D%4294967296=R/4294967296^i%4294967296:=by
 have h1:R*D/4294967296^(i+1)%4294967296*4294967296+R*D/4294967296^i%4294967296=R*D/4294967296^i%(4294967296*4294967296):=by
  rw[Nat.mod_mul,Nat.div_div_eq_div_mul,show 4294967296^i*4294967296=4294967296^(i+1)from(Nat.pow_succ ..).symm,Nat.add_comm,Nat.mul_comm 4294967296]
 have h2:(4294967296*4294967296:Nat)=D*(e*4294967296):=by
  rw[<-Nat.mul_assoc,<-he]
 rw[h1,h2,Nat.mod_mul_right_div_self,Nat.mod_mul_left_mod,Nat.div_div_eq_div_mul,Nat.mul_comm (4294967296^i) D,<-Nat.div_div_eq_div_mul,Nat.mul_div_cancel _ hD]
theorem UI{B:Nat}(hB:0<B){N i R:Nat}(h:i<N):(dR B N (R%B^i)).set i (R/B^i%B)=dR B N (R%B^(i+1)):=by
 refine sK hB h (Nat.mod_lt _ hB) ?_ ?_ ?_
 ·rw[Nat.mod_mod,Nat.mod_mod_of_dvd _ (Nat.pow_dvd_pow _ (Nat.le_succ i))]
 ·rw[Nat.pow_succ,Nat.mod_mul_right_div_self,Nat.mod_mod]
 rw[Nat.div_eq_of_lt (Nat.mod_lt _ (Nat.pow_pos hB)),Nat.div_eq_of_lt];exact Nat.lt_of_lt_of_le (Nat.mod_lt _ (Nat.pow_pos hB)) (Nat.pow_le_pow_right hB (Nat.le_succ i))
theorem Ib(a b:List Nat)(ha:Eh a)(hb:Eh b){n:Nat}(hn:b.length=n+2)(hl:b.length<=a.length)(Ia:b[n+1]? ≠some 0):
  iu a b=some (dR 4294967296 (a.length-b.length+1) (vl a/vl b),dR 4294967296 b.length (vl a%vl b)):=by
 obtain⟨hA,hla⟩:=ha;obtain⟨hB,hlb⟩:=hb;have hP:∀k,0<4294967296^k:=λk=>Nat.pow_pos (by decide);obtain⟨Va,hVa⟩:∃V,vl a=V:=⟨_,Y⟩;obtain⟨Vb,hVb⟩:∃V,vl b=V:=⟨_,Y⟩;have UJ:Vb<4294967296^(n+2):=by rw[<-hVb,<-hn];exact eT b hB
 have halt:Va<4294967296^a.length:=by rw[<-hVa];exact eT a hA
 have F8:4294967296^(n+2)=4294967296^(n+1)*4294967296:=Nat.pow_succ ..;obtain⟨x,hx⟩:∃x,Vb/4294967296^(n+1)=x:=⟨_,Y⟩;have X0:x<4294967296:=by rw[<-hx,Nat.div_lt_iff_lt_mul (hP _)];rw[F8,Nat.mul_comm]at UJ;exact UJ
 have Zq:b[n+1]? =some x:=by rw[kN hB (by omega),show val 4294967296 b=Vb from hVb,hx,Nat.mod_eq_of_lt X0]
 have hx0:x≠0:=λe=>Ia (by rw[Zq,e]);obtain⟨s,KI,Cd,YC,hs4⟩:=XQ x X0 hx0;have TZ:0<2^s:=Nat.two_pow_pos s;have X1:2^s<4294967296:=by
  have:2^s<2^32:=Nat.pow_lt_pow_right (by decide) Cd;rw[two32]at this;exact this
 obtain⟨D,hD⟩:∃D,2^s=D:=⟨_,Y⟩;rw[hD]at YC hs4 TZ X1;obtain⟨V,hV⟩:∃V,Vb*D=V:=⟨_,Y⟩;obtain⟨A,Zt⟩:∃A,Va*D=A:=⟨_,Y⟩;have yQ:V<4294967296^(n+2):=by
  have h1:Vb<(x+1)*4294967296^(n+1):=by rw[<-hx,Nat.add_mul,Nat.one_mul];exact Nat.lt_div_mul_add (hP _)
  have h2:(x+1)*D<=4294967296:=by
   obtain⟨e,he⟩:∃e,4294967296=D*e:=⟨2^(32-s),by rw[<-hD,<-Nat.pow_add,show s+(32-s)=32 by omega,two32]⟩;have h3:x<e:=by
    apply Nat.lt_of_mul_lt_mul_left (a:=D);rw[<-he,Nat.mul_comm];exact hs4
   calc (x+1)*D<=e*D:=Nat.mul_le_mul_right _ h3
    _=4294967296:=by rw[Nat.mul_comm,<-he]
  rw[<-hV,F8]
  calc Vb*D<(x+1)*4294967296^(n+1)*D:=Nat.mul_lt_mul_of_pos_right h1 TZ
   _=4294967296^(n+1)*((x+1)*D):=by rw[Nat.mul_comm (x+1),Nat.mul_assoc]
   _<=4294967296^(n+1)*4294967296:=Nat.mul_le_mul_left _ h2
 have NT:2147483648*4294967296^(n+1)<=V:=by
  have h1:x*4294967296^(n+1)<=Vb:=by rw[<-hx];exact Nat.div_mul_le_self _ _
  rw[<-hV]
  calc 2147483648*4294967296^(n+1)<=x*D*4294967296^(n+1):=Nat.mul_le_mul_right _ YC
   _=x*4294967296^(n+1)*D:=by rw[Nat.mul_assoc,Nat.mul_comm D,<-Nat.mul_assoc]
   _<=Vb*D:=Nat.mul_le_mul_right _ h1
 have Ow:0<V:=Nat.lt_of_lt_of_le (Nat.mul_pos (by decide) (hP _)) NT;have hb0:0<Vb:=by
  rcases Nat.eq_zero_or_pos Vb with h|h
  ·rw[<-hV,h,Nat.zero_mul]at Ow;omega
  exact h
 have hAV:A/V=Va/Vb:=by rw[<-Zt,<-hV,Nat.mul_div_mul_right _ _ TZ]
 have ae6:A%V=Va%Vb*D:=by rw[<-Zt,<-hV,Nat.mul_mod_mul_right]
 obtain⟨K,hK⟩:∃K,a.length=K+(n+2):=⟨a.length-(n+2),by omega⟩;have X2:A<V*4294967296^(K+1):=by
  have h1:4294967296^(n+1)<=Vb:=by
   have:1*4294967296^(n+1)<=x*4294967296^(n+1):=Nat.mul_le_mul_right _ (by omega);have h2:x*4294967296^(n+1)<=Vb:=by rw[<-hx];exact Nat.div_mul_le_self _ _
   omega
  rw[<-Zt,<-hV]
  calc Va*D<4294967296^a.length*D:=Nat.mul_lt_mul_of_pos_right halt TZ
   _=4294967296^(n+1)*4294967296^(K+1)*D:=by rw[hK,<-Nat.pow_add];congr 2;omega
   _<=Vb*4294967296^(K+1)*D:=Nat.mul_le_mul_right _ (Nat.mul_le_mul_right _ h1)
   _=Vb*D*4294967296^(K+1):=by rw[Nat.mul_assoc,Nat.mul_comm _ D,<-Nat.mul_assoc]
 obtain⟨v,Zu⟩:∃v,dR 4294967296 (n+2) V=v:=⟨_,Y⟩;have hvl:v.length=n+2:=by rw[<-Zu,bB]
 have hvW:Eh v:=⟨λy hy=>by rw[<-Zu]at hy;exact mB (by decide) _ _ _ hy,by omega⟩;have X3:vl v=V:=by rw[<-Zu];show val _ _=_;rw[kM,Nat.mod_eq_of_lt yQ]
 have X4:List.take b.length (dR 4294967296 (b.length+1) (Vb*2^s))=v:=by
  rw[hD,hV,hn,gS,List.take_append_of_le_length (by rw[bB];omega),List.take_of_length_le (by rw[bB];omega),Zu]
 unfold iu;simp only[bF];rw[show((b.length:Nat):Int)-1=((n+1:Nat):Int) by omega,gD (by omega),bP Zq,bF,KI,bF];rw[show((s:Int)%18446744073709551616).toNat=s by rw[Int.emod_eq_of_lt (by omega) (by omega)];simp];rw[B6,shiftLeft_eq a s ⟨hA,hla⟩ Cd,bF,shiftLeft_eq b s ⟨hB,hlb⟩ Cd,bF,m8 (by rw[bB];omega),bF];obtain⟨Q,hQ⟩:∃Q,A/V=Q:=⟨_,Y⟩;have ae8:Q<4294967296^(K+1):=by rw[<-hQ,Nat.div_lt_iff_lt_mul Ow,Nat.mul_comm];exact X2
 rw[hVa,hVb,<-hAV,hQ,X4,hD,Zt,hn];rw[show a.length-(n+2)+1=K+1 by omega];rw[ct (x:=(a.length:Int)-((n+2:Nat):Int)) (by omega) (by omega),ct (x:=(a.length:Int)-((n+2:Nat):Int)+1) (by omega) (by omega),show(a.length:Int)-((n+2:Nat):Int)+1=((K+1:Nat):Int) by omega,qc (by decide) (by omega),bF,show(a.length:Int)-((n+2:Nat):Int)=(K:Int) by omega];refine bH (λj=>((K:Int)-(j:Int),dR 4294967296 (K+1) (Q/4294967296^(K+1-j)*4294967296^(K+1-j)),dR 4294967296 (a.length+1) (A%(V*4294967296^(K+1-j))))) (K+1) (dR 4294967296 (K+1) Q,dR 4294967296 (a.length+1) (A%V)) ?_ (λj hj=>?_) ?_ ?_
 ·rw[show K+1-0=K+1 by omega,Nat.mod_eq_of_lt X2,Nat.div_eq_of_lt ae8,Nat.zero_mul,o4];simp
 ·
  obtain⟨k,hk⟩:∃k,K=k+j:=⟨K-j,by omega⟩;rw[show K+1-j=k+1 by omega,show K+1-(j+1)=k by omega,show(K:Int)-(j:Int)=(k:Int) by omega,show(K:Int)-((j+1:Nat):Int)=(k:Int)-1 by omega];have hU:=XZ (B:=4294967296) (by decide) Ow A k;have F9:=UG (B:=4294967296) (V:=V) A k;have UL:=UH (B:=4294967296) (V:=V) A k;obtain⟨N,hN⟩:∃N,a.length+1=N:=⟨_,Y⟩;obtain⟨A1,hA1⟩:∃A1,A%(V*4294967296^(k+1))=A1:=⟨_,Y⟩;rw[hN];rw[hA1]at hU F9 UL⊢;rw[hQ]at UL;obtain⟨⟨g,lg⟩,hge,hgl,Zv,Zw⟩:=F7 (N:=N) (A:=A1) (o:=k) (n:=n) (v:=v) hvW hvl (by omega) (by omega) (by rw[X3];exact hU) (by rw[X3];exact NT);simp only at hgl Zv Zw;rw[X3]at Zv Zw;subst hgl;have hsub:=tv (N:=N) (A:=A1) (o:=k) (n:=n+2) (v:=v) (f:=g) hvW hvl (by omega) (by omega) ?_ ?_
  ·rw[X3]at hsub;obtain⟨U,Ox⟩:∃U,A1/4294967296^k=U:=⟨_,Y⟩;rw[Ox]at hU F9 UL Zv Zw hsub;have Qc:4294967296^(n+2+1)=4294967296^(n+2)*4294967296:=Nat.pow_succ ..;have hUM:U<4294967296^(n+2+1):=by
    have:4294967296*V<4294967296*4294967296^(n+2):=Nat.mul_lt_mul_of_pos_left yQ (by decide);rw[Qc];omega
   have NU:=Qa (M:=4294967296^(n+2+1)) Ow Zv Zw hUM (by rw[Qc];omega);have hql:U/V<4294967296:=by rw[UL];exact Nat.mod_lt _ (by decide)
   rw[show decide ((0:Int)<=(k:Int))=true by simp,fy];rw[kL (by omega),bZ (by omega),show k+(n+2)+1=k+(n+3) by omega,Js (by rw[bB];omega) (by rw[bB];omega),bF,hge,bF,o3 Y,bF,Js (by rw[bB];omega) (by rw[bB];omega),bF];show(Option.bind (cJ _ k (n+2+1) v g) _)=_;rw[hsub,bF,o3 (by rw[bB,bB]),bF];simp only[cm];rcases NU with⟨hc1,GN,X5⟩|⟨hc1,GN,X5,hc4⟩
   ·rw[show decide (U<V*g)=false by simp;omega,fL,X5,F9,GN,Nat.mod_eq_of_lt hql,UL,fe (by rw[bB];omega),bF,iH (by rw[bB];omega),bF,Ek (by decide) (by omega),ct (by omega) (by omega)]
   rw[show decide (U<V*g)=true by simp;omega,fy,qe (by omega) (by omega),show g-1=U/V by omega,Nat.mod_eq_of_lt hql,UL];rw[Nat.mod_eq_of_lt X5];obtain⟨aa,hY⟩:∃aa,U+4294967296^(n+2+1)-V*g=aa:=⟨_,Y⟩;rw[hY]at X5 hc4⊢;obtain⟨A2,hA2⟩:∃A2,A1%4294967296^k+4294967296^k*aa=A2:=⟨_,Y⟩;rw[hA2];have Wd:A2/4294967296^k=aa:=by rw[<-hA2,Nat.add_mul_div_left _ _ (hP k),Nat.div_eq_of_lt (Nat.mod_lt _ (hP k)),Nat.zero_add]
   have ZI:A2%4294967296^k=A1%4294967296^k:=by rw[<-hA2,Nat.add_mul_mod_self_left,Nat.mod_mod]
   have hcr:∀i,zj 4294967296 aa V i<=1:=λi=>A0 (by decide) _ _ _;refine bH (λi=>((i:Int),zj 4294967296 aa V i,dR 4294967296 N (mix 4294967296 k i (aa+V) aa A2))) (n+2) (zj 4294967296 aa V (n+2),dR 4294967296 N (mix 4294967296 k (n+2) (aa+V) aa A2)) ?_ (λi hi=>?_) ?_ ?_
   ·rw[A4,<-Wd,F6];rfl
   ·have GB:v[i]? =some (V/4294967296^i%4294967296):=by rw[<-X3];exact kN hvW.1 (by omega)
    have hgu:(dR 4294967296 N (mix 4294967296 k i (aa+V) aa A2))[k+i]? =some (aa/4294967296^i%4294967296):=by rw[me (by omega),vO (by decide)]
    have KI:=A3 (B:=4294967296) (by decide) aa V i;have Cd:=zk (B:=4294967296) (by decide) aa V i;have hput:=Ei (B:=4294967296) (by decide) k i (aa+V) aa A2 (N:=N) (by omega);have hci:=hcr i;have hv1:=Nat.mod_lt (V/4294967296^i) (show 0<4294967296 by decide);have VE:=Nat.mod_lt (aa/4294967296^i) (show 0<4294967296 by decide);simp only[show decide ((i:Int)<(v.length:Int))=true by simp;omega,fy];rw[bP GB,bF,kL (by omega),fe (by rw[bB];omega),bF,hgu,bF,Nat.mod_eq_of_lt (a:=aa/4294967296^i%4294967296) (b:=18446744073709551616) (by omega),Nat.mod_eq_of_lt (a:=V/4294967296^i%4294967296) (b:=18446744073709551616) (by omega),Nat.mod_eq_of_lt (b:=18446744073709551616) (by omega),gj _ _ (by omega),bF,bF,iH (by rw[bB];omega),bF,bZ (by omega)];rw[KI,Cd,hput]
   ·simp[hvl]
   have hgu:(dR 4294967296 N (mix 4294967296 k (n+2) (aa+V) aa A2))[k+(n+2)]? =some (aa/4294967296^(n+2)%4294967296):=by rw[me (by omega),vO (by decide)]
   have Cd:=zk (B:=4294967296) (by decide) aa V (n+2);have hput:=Ei (B:=4294967296) (by decide) k (n+2) (aa+V) aa A2 (N:=N) (by omega);have hci:=hcr (n+2);have VE:=Nat.mod_lt (aa/4294967296^(n+2)) (show 0<4294967296 by decide);rw[Nat.div_eq_of_lt yQ,Nat.zero_mod,Nat.add_zero]at Cd;simp only[];rw[fe (by rw[bB];omega),bF,hgu,bF,Nat.mod_eq_of_lt (a:=aa/4294967296^(n+2)%4294967296) (b:=18446744073709551616) (by omega),gj _ _ (by omega),bF,bF,iH (by rw[bB];omega),bF,Cd,hput,F5 X5,ZI,hc4,F9,fe (by rw[bB];omega),bF,iH (by rw[bB];omega),bF,Ek (by decide) (by omega),ct (by omega) (by omega)]
  ·
   have hql:A1/4294967296^k/V<4294967296:=by rw[UL];exact Nat.mod_lt _ (by decide)
   omega
  have Qc:4294967296^(n+2+1)=4294967296^(n+2)*4294967296:=Nat.pow_succ ..;have:4294967296*V<4294967296*4294967296^(n+2):=Nat.mul_lt_mul_of_pos_left yQ (by decide);rw[Qc];omega
 ·rw[show K+1-(K+1)=0 by omega,Nat.pow_zero,Nat.mul_one,Nat.mul_one,Nat.div_one,show decide (0<=(K:Int)-((K+1:Nat):Int))=false by simp;omega,fL]
 obtain⟨R,hR⟩:∃R,Va%Vb=R:=⟨_,Y⟩;rw[ae6,hR];have afc:R<4294967296^(n+2):=by rw[<-hR];exact Nat.lt_trans (Nat.mod_lt _ hb0) UJ
 rw[qc (by decide) (by omega),bF];refine bH (λi=>((i:Int),dR 4294967296 (n+2) (R%4294967296^i))) (n+2) (dR 4294967296 (n+2) R) ?_ (λi hi=>?_) ?_ Y
 ·rw[Nat.pow_zero,Nat.mod_one,o4];rfl
 ·obtain⟨e,he⟩:∃e,4294967296=D*e:=⟨2^(32-s),by rw[<-hD,<-Nat.pow_add,show s+(32-s)=32 by omega,two32]⟩;have NV:=Qb (R:=R) (i:=i) TZ he;obtain⟨u,hu⟩:∃u,R*D/4294967296^i%4294967296=u:=⟨_,Y⟩;obtain⟨w,hw⟩:∃w,R*D/4294967296^(i+1)%4294967296=w:=⟨_,Y⟩;have ZO:u<4294967296:=by rw[<-hu];exact Nat.mod_lt _ (by decide)
  have Yx:w<4294967296:=by rw[<-hw];exact Nat.mod_lt _ (by decide)
  rw[hu,hw]at NV;simp only[show decide ((i:Int)<((n+2:Nat):Int))=true by simp;omega,fy];rw[fe (by rw[bB];omega),bF,me (by omega),bF,hu,bZ (by omega),fe (by rw[bB];omega),bF,me (by omega),bF,hw,Nat.mod_eq_of_lt (a:=u) (by omega),Nat.mod_eq_of_lt (a:=w) (by omega),two32,Nat.mod_eq_of_lt (a:=w*4294967296) (by omega),Nat.or_comm,Jq ZO,Nat.mod_eq_of_lt (a:=w*4294967296+u) (by omega),show min s 64=s by omega,hD,NV,fe (by rw[bB];omega),bF,iH (by rw[bB];omega),bF];rw[UI (by decide) hi]
 rw[Nat.mod_eq_of_lt afc];simp
end
section
open Go.Fw
def sv(n:Bool)(v:Nat):Int:=bif n then-(v:Int)else v
def zi(z:Zr):Int:=sv z.neg (vl z.w)
def zn(i:Int):Zr:=⟨decide (i<0),can 4294967296 i.natAbs⟩
def Wl(z:Zr):Prop:=(∀x∈z.w,x<4294967296)/\z.w.length<=35184372088788
def Fit(L:Nat)(i:Int):Prop:=i.natAbs<4294967296^L
theorem NW(n:Bool)(v:Nat):(sv n v).natAbs=v:=by cases n<;>simp[sv]
theorem rZ(z:Zr):(zi z).natAbs=vl z.w:=NW _ _
theorem UM(n:Bool)(v:Nat):decide (sv n v<0)=(n&&v != 0):=by
 cases n
 ·have:¬((v:Int)<0):=by omega
  simp[sv,this]
 rcases v with _|v
 ·simp[sv]
 simp[sv]
theorem nE(n:Bool)(v:Nat):zc n v=zn (sv n v):=by rw[zc,zn,UM,NW]
theorem Qd(i:Int):sv (decide (i<0)) i.natAbs=i:=by
 by_cases h:i<0
 ·rw[show decide (i<0)=true by simp[h]];simp[sv];omega
 rw[show decide (i<0)=false by simp[h]];simp[sv];omega
theorem eX(i:Int):zi (zn i)=i:=by
 show sv (decide (i<0)) (vl (can 4294967296 i.natAbs))=i;rw[show vl (can 4294967296 i.natAbs)=i.natAbs from jo (by decide) _,Qd]
theorem A8(n:Bool)(v:Nat):sv (!n) v=-sv n v:=by cases n<;>simp[sv]
theorem je(v:Nat):sv false v=v:=rfl
theorem Fit.mono{L M:Nat}{i:Int}(h:Fit L i)(hl:L<=M):Fit M i:=Nat.lt_of_lt_of_le h (Nat.pow_le_pow_right (by decide) hl)
theorem Fit.neg{L:Nat}{i:Int}(h:Fit L i):Fit L (-i):=by unfold Fit at*;rw[Int.natAbs_neg];exact h
theorem Fit.add{L:Nat}{i j:Int}(h:Fit L i)(h':Fit L j):Fit (L+1) (i+j):=by
 unfold Fit at*;have:=Int.natAbs_add_le i j;rw[Nat.pow_succ];omega
theorem Fit.sub{L:Nat}{i j:Int}(h:Fit L i)(h':Fit L j):Fit (L+1) (i-j):=by
 rw[Int.sub_eq_add_neg];exact h.add h'.neg
theorem Fit.mul{L M:Nat}{i j:Int}(h:Fit L i)(h':Fit M j):Fit (L+M) (i*j):=by
 unfold Fit at*;rw[Int.natAbs_mul,Nat.pow_add];exact Nat.mul_lt_mul'' h h'
theorem Fit.i64{i:Int}(h: -9223372036854775808<=i)(h':i<=9223372036854775807):Fit 2 i:=by
 unfold Fit;rw[show(4294967296:Nat)^2=18446744073709551616 by decide];omega
theorem Fit.le{L:Nat}{i j:Int}(h:Fit L i)(h':j.natAbs<=i.natAbs):Fit L j:=Nat.lt_of_le_of_lt h' h
theorem mg{L:Nat}{i:Int}(h:Fit L i)(hL:L<=35184372088788):Wl (zn i):=
 ⟨λ_ hx=>eJ (by decide) hx,Nat.le_trans ((bR (by decide)).2 h) hL⟩
theorem Wl.fit{z:Zr}(h:Wl z):Fit z.w.length (zi z):=by
 unfold Fit;rw[rZ];exact eT z.w h.1
theorem Wl.lt{z:Zr}(h:Wl z):vl z.w<4294967296^z.w.length:=eT z.w h.1
theorem Wl.cl{z:Zr}(h:Wl z):(can 4294967296 (vl z.w)).length<=35184372088788:=
 Nat.le_trans ((bR (by decide)).2 (Wl.lt h)) h.2
def Wx(z:Zr):Prop:=(∀x∈z.w,x<4294967296)/\z.w.length<=9000000000000000000
theorem Wl.x{z:Zr}(h:Wl z):Wx z:=⟨h.1,Nat.le_trans h.2 (by decide)⟩
theorem SB{L:Nat}{i:Int}(h:Fit L i)(hL:L<=9000000000000000000):Wx (zn i):=
 ⟨λ_ hx=>eJ (by decide) hx,Nat.le_trans ((bR (by decide)).2 h) hL⟩
theorem Wx.cl{z:Zr}(h:Wx z):(can 4294967296 (vl z.w)).length<=9000000000000000000:=
 Nat.le_trans ((bR (by decide)).2 (eT z.w h.1)) h.2
theorem Wx.trim{z:Zr}(h:Wx z):bn z.w=some (can 4294967296 (vl z.w)):=by
 rw[vM _ (by have:=h.2;omega),jd (by decide) h.1]
theorem Wl.trim{z:Zr}(h:Wl z):bn z.w=some (can 4294967296 (vl z.w)):=by
 rw[vM _ (by have:=h.2;omega),jd (by decide) h.1]
theorem fW{v:Nat}(h:(can 4294967296 v).length<=35184372088789):Eh (can 4294967296 v):=⟨λ_ hx=>eJ (by decide) hx,by omega⟩
theorem ei(v:Nat):vl (can 4294967296 v)=v:=jo (by decide) v
theorem fH{v:Nat}:((can 4294967296 v).length:Int)<=2↔v<18446744073709551616:=by
 have:=bR (B:=4294967296) (by decide) (v:=v) (n:=2);rw[show(4294967296:Nat)^2=18446744073709551616 by decide]at this;omega
theorem kO{v:Nat}:((can 4294967296 v).length:Int)<=1↔v<4294967296:=by
 have:=bR (B:=4294967296) (by decide) (v:=v) (n:=1);rw[show(4294967296:Nat)^1=4294967296 by decide]at this;omega
theorem nF{v:Nat}:(can 4294967296 v).length=0↔v=0:=by
 constructor
 ·intro h;exact vK (by decide) (List.length_eq_zero_iff.1 h)
 intro h;rw[h,nD];rfl
theorem vP(l:List Nat)(h:l.length<=35184372088832):dx l=some l:=by
 unfold dx;rw[Uw (by decide) (by simp;omega)];simp
end
section
open Go.Fw
theorem Ga(a b:Nat):decide (xj a b<0)=decide (a<b):=by
 rcases Nat.lt_trichotomy a b with h|h|h
 ·rw[qi h];simp[h]
 ·rw[h,vL];simp
 rw[sL h];simp;omega
theorem yu(a b:Nat)(ha:(can 4294967296 a).length<=35184372088788)(hb:(can 4294967296 b).length<=35184372088788)(h0:b≠0):
  ∃q r,fC (can 4294967296 a) (can 4294967296 b)=some (q,r)/\Eh q/\vl q=a/b/\Eh r/\vl r=a%b/\q.length<=35184372088789/\r.length<=35184372088789:=by
 unfold fC;rw[jH a b (by omega) (by omega)];simp only[bF];by_cases hlt:a<b
 ·rw[qi hlt];simp only[show decide ((-1:Int)<0)=true by decide,fy];rw[vP _ (by omega)];refine⟨_,_,Y,⟨by simp,by simp⟩,?_,fW (by omega),?_,by simp,by omega⟩
  ·rw[Nat.div_eq_of_lt hlt];rfl
  rw[ei,Nat.mod_eq_of_lt hlt]
 rw[Ga,show decide (a<b)=false by simp[hlt]];simp only[fL];by_cases h2:a<18446744073709551616
 ·rw[show decide (((can 4294967296 a).length:Int)<=2)=true by rw[decide_eq_true_eq];exact fH.2 h2];have Bs:b<18446744073709551616:=by omega
  simp only[fy];have l1:=low_eq (can 4294967296 a) (λ_ hx=>eJ (by decide) hx) (by have:=fH.2 h2;omega);have l2:=low_eq (can 4294967296 b) (λ_ hx=>eJ (by decide) hx) (by have:=fH.2 Bs;omega);rw[ei]at l1 l2;rw[l1,bF,l2,bF,Ea h0 h2,bF,o6 _ _ (Nat.lt_of_le_of_lt (Nat.div_le_self _ _) h2),bF,zg h0,bF,o6 _ _ (Nat.lt_of_le_of_lt (Nat.mod_le _ _) h2),bF];have hq:a/b<18446744073709551616:=Nat.lt_of_le_of_lt (Nat.div_le_self _ _) h2;have hr:a%b<18446744073709551616:=Nat.lt_of_le_of_lt (Nat.mod_le _ _) h2;have c1:=fH.2 hq;have c2:=fH.2 hr;exact⟨_,_,Y,fW (by omega),ei _,fW (by omega),ei _,by show(can _ _).length<=_;omega,by show(can _ _).length<=_;omega⟩
 rw[show decide (((can 4294967296 a).length:Int)<=2)=false by rw[decide_eq_false_iff_not];exact λh=>h2 (fH.1 h)];simp only[fL];have tG:(can 4294967296 b).length≠0:=λh=>h0 (nF.1 h);by_cases h1:b<4294967296
 ·have h1':=kO.2 h1;rw[show decide (((can 4294967296 b).length:Int)=1)=true by simp;omega,fy];have hg:(can 4294967296 b)[0]? =some b:=by rw[sJ (by decide) (by omega)];simp;exact h1
  rw[vP _ (by omega),bF,sI hg,bF,Nat.mod_eq_of_lt (b:=18446744073709551616) (by omega),F4 _ _ (fW (by omega)) (by omega) (by omega),bF,ei];simp only[];rw[o3 (by rw[bB]),bF];have hm:a%b<b:=Nat.mod_lt _ (by omega);rw[Nat.mod_eq_of_lt (a:=a%b) (by omega)];refine⟨_,_,Y,⟨λx hx=>mB (by decide) _ _ _ hx,by rw[bB];omega⟩,?_,⟨?_,by simp⟩,?_,by rw[bB];omega,by simp⟩
  ·show val _ _=_;rw[kM,Nat.mod_eq_of_lt (Nat.lt_of_le_of_lt (Nat.div_le_self _ _) (cj (by decide) a))]
  ·intro x hx;simp at hx;omega
  simp[vl,val]
 have h1':¬(((can 4294967296 b).length:Int)<=1):=λh=>h1 (kO.1 h);rw[show decide (((can 4294967296 b).length:Int)=1)=false by simp;omega,fL];obtain⟨n,hn⟩:∃n,(can 4294967296 b).length=n+2:=⟨(can 4294967296 b).length-2,by omega⟩;have hl:(can 4294967296 b).length<=(can 4294967296 a).length:=(bR (by decide)).2 (Nat.lt_of_le_of_lt (by omega) (cj (by decide) a));obtain⟨l,x,hx,he⟩:=F2 (B:=4294967296) (by decide) h0;have Ia:(can 4294967296 b)[n+1]? ≠some 0:=by
  have:l.length=n+1:=by rw[he]at hn;simp at hn;omega
  rw[he,<-this];simp;exact hx
 rw[Ib _ _ (fW (by omega)) (fW (by omega)) hn hl Ia,bF,ei,ei];have hbp:0<b:=by omega
 have e1:a<4294967296^(can 4294967296 a).length:=cj (by decide) a;have e2:b<4294967296^(can 4294967296 b).length:=cj (by decide) b;have e3:4294967296^(n+1)<=b:=oD (by decide) (by omega);refine⟨_,_,Y,⟨λx hx=>mB (by decide) _ _ _ hx,by rw[bB];omega⟩,?_,⟨λx hx=>mB (by decide) _ _ _ hx,by rw[bB];omega⟩,?_,by rw[bB];omega,by rw[bB];omega⟩
 ·show val _ _=_;rw[kM,Nat.mod_eq_of_lt];rw[Nat.div_lt_iff_lt_mul hbp];have:4294967296^((can 4294967296 a).length-(can 4294967296 b).length+1)*4294967296^(n+1)=4294967296^(can 4294967296 a).length:=by rw[<-Nat.pow_add];congr 1;omega
  calc a<4294967296^((can 4294967296 a).length-(can 4294967296 b).length+1)*4294967296^(n+1):=by rw[this];exact e1
   _<=_:=Nat.mul_le_mul_left _ e3
 show val _ _=_;rw[kM,Nat.mod_eq_of_lt (Nat.lt_trans (Nat.mod_lt _ hbp) e2)]
end
section
open Go.Fw
theorem lz{x:Int}(h1: -9223372036854775808<=x)(h2:x<=9223372036854775807):bW x=some (zn x):=by
 unfold bW;simp only[bF,cm];by_cases hx:x<0
 ·have e:(x%18446744073709551616).toNat=18446744073709551616-x.natAbs:=by omega
  rw[show decide (x<0)=true by simp[hx],fy,e,vI (by omega) (by omega),show 18446744073709551616+0-(18446744073709551616-x.natAbs)=x.natAbs by omega,o6 _ _ (by omega),bF,nE,show sv true x.natAbs=x by simp[sv];omega]
 have e:(x%18446744073709551616).toNat=x.natAbs:=by omega
 rw[show decide (x<0)=false by simp[hx],fL,e,o6 _ _ (by omega),bF,nE,show sv false x.natAbs=x by simp[sv];omega]
def dj(i:Int):Prop:=-9223372036854775808<=i/\i<=9223372036854775807
instance(i:Int):Decidable (dj i):=by unfold dj;infer_instance
def r5(i:Int):Int×Bool:=if dj i then(i,true)else(0,false)
theorem nG{z:Zr}(h:Wl z):cW z=some (r5 (zi z)):=by
 obtain⟨n,w⟩:=z;unfold cW;have ht:=h.trim;have afd:vl w<18446744073709551616->dh (can 4294967296 (vl w))=some (vl w):=λh2=>by
  rw[low_eq _ (λ_ hx=>eJ (by decide) hx) (by have:=fH.2 h2;omega),ei]
 show(bn w).bind _=some (r5 (sv n (vl w)));rw[show bn w=some (can 4294967296 (vl w))from ht];simp only[bF];generalize vl w=v at*;by_cases h2:v<18446744073709551616
 ·have:=fH.2 h2;rw[show decide ((2:Int)<((can 4294967296 v).length:Int))=false by simp;omega,fL,afd h2,bF];cases n
  ·rw[fL,je];by_cases h3:v<9223372036854775808
   ·rw[show decide (9223372036854775808<=v)=false by simp;omega,fL,gD (by omega),r5,if_pos (by unfold dj;omega)]
   rw[show decide (9223372036854775808<=v)=true by simp;omega,fy,r5,if_neg (by unfold dj;omega)]
  rw[fy,show sv true v=-(v:Int)from rfl];by_cases h3:9223372036854775808<v
  ·rw[show decide (9223372036854775808<v)=true by simp;omega,fy,r5,if_neg (by unfold dj;omega)]
  rw[show decide (9223372036854775808<v)=false by simp;omega,fL,r5,if_pos (by unfold dj;omega)];by_cases h0:v=0
  ·subst h0;rfl
  rw[vI (by omega) (by omega)];rw[show IntKind.i64.wrap ((18446744073709551616+0-v:Nat):Int)=-(v:Int) by
   rw[IntKind.wrap];simp[IntKind.signed,IntKind.bits];omega]
 have:¬(((can 4294967296 v).length:Int)<=2):=λh=>h2 (fH.1 h);rw[show decide ((2:Int)<((can 4294967296 v).length:Int))=true by simp;omega,fy,r5,if_neg (by unfold dj;cases n<;>simp[sv]<;>omega)]
theorem NX{z:Zr}(h:Wx z):cA z=some (zi z).sign:=by
 obtain⟨n,w⟩:=z;unfold cA;show(bn w).bind _=some (sv n (vl w)).sign;rw[show bn w=some (can 4294967296 (vl w))from h.trim];simp only[bF];generalize vl w=v;by_cases h0:v=0
 ·subst h0;cases n<;>rfl
 have:(can 4294967296 v).length≠0:=λh=>h0 (nF.1 h);rw[show decide (((can 4294967296 v).length:Int)=0)=false by simp;intro e;rw[e]at this;exact this Y,fL];cases n
 ·rw[fL,je,Int.sign_eq_one_of_pos (by omega)]
 rw[fy,show sv true v=-(v:Int)from Y,Int.sign_eq_neg_one_of_neg (by omega)]
def jO(i j:Int):Int:=if i<j then-1 else if i=j then 0 else 1
theorem gE{i j:Int}(h:i<j):jO i j=-1:=by simp[jO,h]
theorem gG{i j:Int}(h:j<i):jO i j=1:=by
 have h1:¬i<j:=by omega
 have h2:¬i=j:=by omega
 simp[jO,h1,h2]
theorem m9(i:Int):jO i i=0:=by simp[jO]
theorem A9(v w:Nat):xj v w=jO (v:Int) (w:Int):=by
 rcases Nat.lt_trichotomy v w with h|h|h
 ·rw[qi h,gE (by omega)]
 ·rw[h,vL,m9]
 rw[sL h,gG (by omega)]
theorem Gb(i j:Int):jO (-i) (-j)=jO j i:=by
 rcases Int.lt_trichotomy i j with h|h|h
 ·rw[gG h,gG (by omega)]
 ·rw[h,m9,m9]
 rw[gE h,gE (by omega)]
theorem sign_eq{z:Zr}(h:Wl z):cA z=some (zi z).sign:=NX h.x
theorem X6{x y:Zr}(hx:Wx x)(hy:Wx y):lN x y=some (jO (zi x) (zi y)):=by
 obtain⟨n,w⟩:=x;obtain⟨m,u⟩:=y;unfold lN;show(cA ⟨n,w⟩).bind _=_;rw[NX hx,bF];show(cA ⟨m,u⟩).bind _=_;rw[NX hy,bF,show bn w=some (can 4294967296 (vl w))from hx.trim,show bn u=some (can 4294967296 (vl u))from hy.trim];simp only[bF];rw[jH _ _ hx.cl hy.cl,jH _ _ hy.cl hx.cl];simp only[bF];rw[show zi ⟨n,w⟩=sv n (vl w)from Y,show zi ⟨m,u⟩=sv m (vl u)from rfl];generalize vl w=a;generalize vl u=b;rw[A9,A9];obtain⟨i,hi⟩:∃i,sv n a=i:=⟨_,Y⟩;obtain⟨j,hj⟩:∃j,sv m b=j:=⟨_,Y⟩;have OB:(i<0->i=-(a:Int))/\(0<=i->i=a):=by rw[<-hi];cases n<;>simp[sv]<;>omega
 have hjb:(j<0->j=-(b:Int))/\(0<=j->j=b):=by rw[<-hj];cases m<;>simp[sv]<;>omega
 rw[hi,hj];rcases Int.lt_trichotomy i 0 with h1|h1|h1<;>rcases Int.lt_trichotomy j 0 with h2|h2|h2
 ·rw[Int.sign_eq_neg_one_of_neg h1,Int.sign_eq_neg_one_of_neg h2,OB.1 h1,hjb.1 h2,Gb];rfl
 ·rw[Int.sign_eq_neg_one_of_neg h1,show Int.sign j=0 by rw[h2];rfl,show jO i j=-1 from gE (by omega)];rfl
 ·rw[Int.sign_eq_neg_one_of_neg h1,Int.sign_eq_one_of_pos h2,show jO i j=-1 from gE (by omega)];rfl
 ·rw[show Int.sign i=0 by rw[h1];rfl,Int.sign_eq_neg_one_of_neg h2,show jO i j=1 from gG (by omega)];rfl
 ·rw[show Int.sign i=0 by rw[h1];rfl,show Int.sign j=0 by rw[h2];rfl,<-OB.2 (by omega),<-hjb.2 (by omega)];rfl
 ·rw[show Int.sign i=0 by rw[h1];rfl,Int.sign_eq_one_of_pos h2,show jO i j=-1 from gE (by omega)];rfl
 ·rw[Int.sign_eq_one_of_pos h1,Int.sign_eq_neg_one_of_neg h2,show jO i j=1 from gG (by omega)];rfl
 ·rw[Int.sign_eq_one_of_pos h1,show Int.sign j=0 by rw[h2];rfl,show jO i j=1 from gG (by omega)];rfl
 rw[Int.sign_eq_one_of_pos h1,Int.sign_eq_one_of_pos h2,<-OB.2 (by omega),<-hjb.2 (by omega)];rfl
theorem neg_eq{x:Zr}(hx:Wl x):fO x=some (zn (-zi x)):=by
 obtain⟨n,w⟩:=x;unfold fO;have hc:(can 4294967296 (vl w)).length<=35184372088788:=hx.cl;simp only[bF];rw[show bn w=some (can 4294967296 (vl w))from hx.trim,bF,vP _ (by omega),bF,jC _ _ (fW (by omega)).x,bF,ei,nE,A8];rfl
end
section
open Go.Fw
theorem vQ(n m:Bool)(a b:Nat)(ha:(can 4294967296 a).length<=35184372088788)(hb:(can 4294967296 b).length<=35184372088788):
  cP n (can 4294967296 a) m (can 4294967296 b)=some (zn (sv n a+sv m b)):=by
 have la:=cj (B:=4294967296) (by decide) a;have lb:=cj (B:=4294967296) (by decide) b;unfold cP;simp only[bF];by_cases hnm:n=m
 ·subst hnm;rw[show(n==n)=true by simp,fy,yq _ _ (fW (by omega)) (fW (by omega)),bF,ei,ei,jC _ _ ⟨λx hx=>mB (by decide) _ _ _ hx,by rw[bB];omega⟩,bF];have hv:vl (dR 4294967296 (max (can 4294967296 a).length (can 4294967296 b).length+1) (a+b))=a+b:=by
   show val _ _=_;rw[kM,Nat.mod_eq_of_lt];have h1:a<4294967296^(max (can 4294967296 a).length (can 4294967296 b).length):=Nat.lt_of_lt_of_le la (Nat.pow_le_pow_right (by decide) (by omega));have h2:b<4294967296^(max (can 4294967296 a).length (can 4294967296 b).length):=Nat.lt_of_lt_of_le lb (Nat.pow_le_pow_right (by decide) (by omega));rw[Nat.pow_succ];omega
  rw[hv,nE,show sv n (a+b)=sv n a+sv n b by cases n<;>simp[sv];omega]
 rw[show(n==m)=false by simp[hnm],fL,jH _ _ (by omega) (by omega),bF,Ga];have hm:m= !n:=by cases n<;>cases m<;>simp_all
 subst hm;have hv:∀c d,d<=c->(can 4294967296 c).length<=35184372088788->cI (can 4294967296 c) (can 4294967296 d)=some (dR 4294967296 (can 4294967296 c).length (c-d))/\vl (dR 4294967296 (can 4294967296 c).length (c-d))=c-d:=by
  intro c d hdc tX;have lc:=cj (B:=4294967296) (by decide) c;have UN:(can 4294967296 d).length<=(can 4294967296 c).length:=(bR (by decide)).2 (by omega);constructor
  ·rw[yt _ _ (fW (by omega)) (fW (by omega)) UN (by rw[ei,ei];exact hdc),ei,ei]
  show val _ _=_;rw[kM,Nat.mod_eq_of_lt (by omega)]
 by_cases hlt:a<b
 ·obtain⟨h1,h2⟩:=hv b a (by omega) hb;rw[show decide (a<b)=true by simp[hlt],fy,h1,bF,jC _ _ ⟨λx hx=>mB (by decide) _ _ _ hx,by rw[bB];omega⟩,bF,h2,nE,show sv (!n) (b-a)=sv n a+sv (!n) b by cases n<;>simp[sv]<;>omega]
 obtain⟨h1,h2⟩:=hv a b (by omega) ha;rw[show decide (a<b)=false by simp[hlt],fL,h1,bF,jC _ _ ⟨λx hx=>mB (by decide) _ _ _ hx,by rw[bB];omega⟩,bF,h2,nE,show sv n (a-b)=sv n a+sv (!n) b by cases n<;>simp[sv]<;>omega]
theorem Jt(v:BitVec 64):IntKind.i64.wrap (v.toNat:Int)=v.toInt:=by
 rw[BitVec.toInt_eq_toNat_cond];have:=v.isLt;rw[show(2:Nat)^64=18446744073709551616 by decide]at this⊢;split
 ·rw[gD (by omega)]
 rw[IntKind.wrap];simp[IntKind.signed,IntKind.bits];omega
theorem Ju(v:BitVec 64):BitVec.ofInt 64 (IntKind.i64.wrap (v.toNat:Int))=v:=by rw[Jt,BitVec.ofInt_toInt]
theorem xk{x:Int}(h:dj x):(BitVec.ofInt 64 x).msb=decide (x<0):=by
 rw[BitVec.msb_eq_toInt,BitVec.toInt_ofInt];unfold dj at h;have:x.bmod (2^64)=x:=by
  rw[Int.bmod_def];simp only[show((2^64:Nat):Int)=18446744073709551616 by decide];split<;>omega
 rw[this]
theorem CM(v:BitVec 64):decide ((0:Int)<=IntKind.i64.wrap (v.toNat:Int))= !v.msb:=by
 rw[Jt,BitVec.msb_eq_toInt];by_cases h:v.toInt<0
 ·simp[h]
 simp[h];omega
theorem o7(x:Int):dj (IntKind.i64.wrap x):=by
 unfold dj;rw[IntKind.wrap];simp[IntKind.signed,IntKind.bits];split<;>omega
theorem vR{α:Type}(b:Bool)(x:α):(bif b then x else x)=x:=by cases b<;>rfl
theorem iy{i:Int}(h:dj i):r5 i=(i,true):=if_pos h
theorem nH{i:Int}(h:¬dj i):r5 i=(0,false):=if_neg h
theorem add_eq{x y:Zr}(hx:Wl x)(hy:Wl y):lK x y=some (zn (zi x+zi y)):=by
 obtain⟨n,w⟩:=x;obtain⟨m,u⟩:=y;unfold lK;simp only[nG hx,nG hy,bF,cm];have hK:((bn w).bind λv8=>(bn u).bind λqV=>(cP n v8 m qV).bind λx=>some x)=some (zn (zi ⟨n,w⟩+zi ⟨m,u⟩)):=by
  rw[show bn w=some (can 4294967296 (vl w))from hx.trim,show bn u=some (can 4294967296 (vl u))from hy.trim,bF,bF,vQ _ _ _ _ hx.cl hy.cl,bF];rfl
 have hK':((bn w).bind λv8=>(bn u).bind λqV=>(cP n v8 m qV).bind λx=>some ⟨x.neg,x.w⟩)=some (zn (zi ⟨n,w⟩+zi ⟨m,u⟩)):=hK;rw[hK'];generalize zi ⟨n,w⟩=i;generalize zi ⟨m,u⟩=j;by_cases h1:dj i
 ·by_cases h2:dj j
  ·rw[iy h1,iy h2,fy,bF,fy,Ju,Ju,CM,BitVec.msb_and,BitVec.msb_xor,BitVec.msb_xor,xk h1,xk h2,xk (o7 _),lz (o7 _).1 (o7 _).2,bF];by_cases hr:dj (i+j)
   ·rw[ct hr.1 hr.2];exact vR _ _
   have:(!((decide (i<0)^^decide (IntKind.i64.wrap (i+j)<0))&&(decide (j<0)^^decide (IntKind.i64.wrap (i+j)<0))))=false:=by
    unfold dj at*;by_cases hs:i<0
    ·have e:IntKind.i64.wrap (i+j)=i+j+18446744073709551616:=by rw[IntKind.wrap];simp[IntKind.signed,IntKind.bits];omega
     rw[e,show decide (i<0)=true by simp[hs],show decide (j<0)=true by simp;omega,show decide (i+j+18446744073709551616<0)=false by simp;omega];rfl
    have e:IntKind.i64.wrap (i+j)=i+j-18446744073709551616:=by rw[IntKind.wrap];simp[IntKind.signed,IntKind.bits];omega
    rw[e,show decide (i<0)=false by simp[hs],show decide (j<0)=false by simp;omega,show decide (i+j-18446744073709551616<0)=true by simp;omega];rfl
   rw[this,fL]
  rw[iy h1,nH h2,fy,bF,fL]
 rw[nH h1,fL,bF,fL]
theorem sub_eq{x y:Zr}(hx:Wl x)(hy:Wl y):lM x y=some (zn (zi x-zi y)):=by
 obtain⟨n,w⟩:=x;obtain⟨m,u⟩:=y;unfold lM;simp only[nG hx,nG hy,bF,cm];have hK':((bn w).bind λv8=>(bn u).bind λqV=>(cP n v8 (!m) qV).bind λx=>some ⟨x.neg,x.w⟩)=some (zn (zi ⟨n,w⟩-zi ⟨m,u⟩)):=by
  rw[show bn w=some (can 4294967296 (vl w))from hx.trim,show bn u=some (can 4294967296 (vl u))from hy.trim,bF,bF,vQ _ _ _ _ hx.cl hy.cl,bF,A8,<-Int.sub_eq_add_neg];rfl
 rw[hK'];generalize zi ⟨n,w⟩=i;generalize zi ⟨m,u⟩=j;by_cases h1:dj i
 ·by_cases h2:dj j
  ·rw[iy h1,iy h2,fy,bF,fy,Ju,Ju,CM,BitVec.msb_and,BitVec.msb_xor,BitVec.msb_xor,xk h1,xk h2,xk (o7 _),lz (o7 _).1 (o7 _).2,bF];by_cases hr:dj (i-j)
   ·rw[ct hr.1 hr.2];exact vR _ _
   have:(!((decide (i<0)^^decide (j<0))&&(decide (i<0)^^decide (IntKind.i64.wrap (i-j)<0))))=false:=by
    unfold dj at*;by_cases hs:i<0
    ·have e:IntKind.i64.wrap (i-j)=i-j+18446744073709551616:=by rw[IntKind.wrap];simp[IntKind.signed,IntKind.bits];omega
     rw[e,show decide (i<0)=true by simp[hs],show decide (j<0)=false by simp;omega,show decide (i-j+18446744073709551616<0)=false by simp;omega];rfl
    have e:IntKind.i64.wrap (i-j)=i-j-18446744073709551616:=by rw[IntKind.wrap];simp[IntKind.signed,IntKind.bits];omega
    rw[e,show decide (i<0)=false by simp[hs],show decide (j<0)=true by simp;omega,show decide (i-j-18446744073709551616<0)=true by simp;omega];rfl
   rw[this,fL]
  rw[iy h1,nH h2,fy,bF,fL]
 rw[nH h1,fL,bF,fL]
theorem NY(n m:Bool)(a b:Nat):sv (!(n==m)) (a*b)=sv n a*sv m b:=by
 cases n<;>cases m<;>simp[sv,Int.neg_mul,Int.mul_neg]
theorem mul_eq{x y:Zr}(hx:Wl x)(hy:Wl y):di x y=some (zn (zi x*zi y)):=by
 obtain⟨n,w⟩:=x;obtain⟨m,u⟩:=y;unfold di;have Zx:(can 4294967296 (vl w)).length<=35184372088788:=hx.cl;have X7:(can 4294967296 (vl u)).length<=35184372088788:=hy.cl;simp only[];rw[show bn w=some (can 4294967296 (vl w))from hx.trim,show bn u=some (can 4294967296 (vl u))from hy.trim,bF,bF,show zi ⟨n,w⟩=sv n (vl w)from Y,show zi ⟨m,u⟩=sv m (vl u)from rfl];simp only[bF,cm];generalize vl w=a at*;generalize vl u=b at*;have la:=cj (B:=4294967296) (by decide) a;have lb:=cj (B:=4294967296) (by decide) b;have hK:((fB (can 4294967296 a) (can 4294967296 b)).bind λqD=>(cf (!(n==m)) qD).bind λx=>some ⟨x.neg,x.w⟩)=some (zn (sv n a*sv m b)):=by
  rw[F3 _ _ (fW (by omega)) (fW (by omega)),bF,ei,ei,jC _ _ ⟨λx hx=>mB (by decide) _ _ _ hx,by rw[bB];omega⟩,bF,nE];have hv:vl (dR 4294967296 ((can 4294967296 a).length+(can 4294967296 b).length) (a*b))=a*b:=by
   show val _ _=_;rw[kM,Nat.mod_eq_of_lt];rw[Nat.pow_add];exact Nat.mul_lt_mul'' la lb
  rw[hv,NY]
 rw[hK];by_cases h1:a<4294967296
 ·by_cases h2:b<4294967296
  ·have l1:=low_eq (can 4294967296 a) (λ_ hx=>eJ (by decide) hx) (by have:=kO.2 h1;omega);have l2:=low_eq (can 4294967296 b) (λ_ hx=>eJ (by decide) hx) (by have:=kO.2 h2;omega);rw[ei]at l1 l2;have hlt:a*b<18446744073709551616:=Nat.mul_lt_mul'' h1 h2;rw[show decide (((can 4294967296 a).length:Int)<=1)=true by rw[decide_eq_true_eq];exact kO.2 h1,fy,bF,show decide (((can 4294967296 b).length:Int)<=1)=true by rw[decide_eq_true_eq];exact kO.2 h2,fy,l1,l2,bF,bF,Nat.mod_eq_of_lt hlt,o6 _ _ hlt,bF,nE,NY]
  rw[show decide (((can 4294967296 a).length:Int)<=1)=true by rw[decide_eq_true_eq];exact kO.2 h1,fy,bF,show decide (((can 4294967296 b).length:Int)<=1)=false by rw[decide_eq_false_iff_not];exact λh=>h2 (kO.1 h),fL]
 rw[show decide (((can 4294967296 a).length:Int)<=1)=false by rw[decide_eq_false_iff_not];exact λh=>h1 (kO.1 h),fL,bF,fL]
end
section
open Go.Fw
theorem NZ(n m:Bool){a b:Nat}(hb:0<b):
  sv n a/sv m b=(if n=true/\0<a%b then sv (!(n==m)) (a/b+1)else sv (!(n==m)) (a/b))/\
  sv n a%sv m b=(if n=true/\0<a%b then((b-a%b:Nat):Int)else((a%b:Nat):Int)):=by
 have hd:=Nat.div_add_mod a b;have hm:=Nat.mod_lt a hb
 revert hd hm
 generalize a/b=q;generalize a%b=r;intro hd hm;have hd':(b:Int)*q+r=a:=by exact_mod_cast hd
 have pos:∀n,sv n a/(b:Int)=(if n=true/\0<r then sv n (q+1)else sv n q)/\sv n a%(b:Int)=(if n=true/\0<r then((b-r:Nat):Int)else(r:Int)):=by
  intro n;apply(Int.ediv_emod_unique (by omega)).2;cases n
  ·simp[sv];omega
  by_cases hr:0<r
  ·simp only[hr,and_self,if_true,sv,cond_true];have:(b:Int)* -((q+1:Nat):Int)=-((b:Int)*q)-b:=by
    rw[Int.mul_neg,Int.natCast_add,Int.mul_add];simp;omega
   rw[this];omega
  have:r=0:=by omega
  subst this;simp[sv,Int.mul_neg];omega
 cases m
 ·have:=pos n;rw[je,show(!(n==false))=n by cases n<;>rfl];exact this
 have:=pos n;rw[show sv true b=-(b:Int)from rfl,Int.ediv_neg,Int.emod_neg,this.1,this.2,show(!(n==true))= !n by cases n<;>rfl,A8,A8];refine⟨?_,Y⟩;split<;>rfl
theorem UO{a b:Nat}(hba:b<=a)(tX:(can 4294967296 a).length<=35184372088788):cI (can 4294967296 a) (can 4294967296 b)=some (dR 4294967296 (can 4294967296 a).length (a-b))/\vl (dR 4294967296 (can 4294967296 a).length (a-b))=a-b:=by
 have lc:=cj (B:=4294967296) (by decide) a;have UN:(can 4294967296 b).length<=(can 4294967296 a).length:=(bR (by decide)).2 (by omega);constructor
 ·rw[yt _ _ (fW (by omega)) (fW (by omega)) UN (by rw[ei,ei];exact hba),ei,ei]
 show val _ _=_;rw[kM,Nat.mod_eq_of_lt (by omega)]
def Gc(i j:Int):Zr×Zr×Int:=if j=0 then(⟨false,[]⟩,⟨false,[]⟩,7)else(zn (i/j),zn (i%j),0)
theorem divMod_eq{x y:Zr}(hx:Wl x)(hy:Wl y):eF x y=some (Gc (zi x) (zi y)):=by
 obtain⟨n,w⟩:=x;obtain⟨m,u⟩:=y;unfold eF;have Zx:(can 4294967296 (vl w)).length<=35184372088788:=hx.cl;have X7:(can 4294967296 (vl u)).length<=35184372088788:=hy.cl;simp only[];rw[show bn w=some (can 4294967296 (vl w))from hx.trim,show bn u=some (can 4294967296 (vl u))from hy.trim,bF,bF,show zi ⟨n,w⟩=sv n (vl w)from Y,show zi ⟨m,u⟩=sv m (vl u)from rfl];simp only[bF,cm];generalize vl w=a at*;generalize vl u=b at*;by_cases h0:b=0
 ·subst h0;rw[show sv m 0=0 by cases m<;>rfl];rfl
 have tG:(can 4294967296 b).length≠0:=λh=>h0 (nF.1 h);rw[show decide (((can 4294967296 b).length:Int)=0)=false by simp;intro e;rw[e]at tG;exact tG Y,fL];obtain⟨q,r,W6,X8,Zy,TW,hr2,hq3,hr3⟩:=yu a b Zx X7 h0;have hm:a%b<b:=Nat.mod_lt _ (by omega);obtain⟨e1,e2⟩:=NZ n m (a:=a) (show 0<b by omega);have hj:sv m b≠0:=by cases m<;>simp[sv]<;>omega
 rw[W6,bF];simp only[];rw[vM r (by have:=TW.2;omega),jd (by decide) TW.1,show val 4294967296 r=a%b from hr2,bF,Gc,if_neg hj,e1,e2];have hrl:(can 4294967296 (a%b)).length<=(can 4294967296 b).length:=(bR (by decide)).2 (Nat.lt_trans hm (cj (by decide) b));have hK:∀c:Bool,(decide (n=true/\0<a%b)=c)->(bif c then(dY q [1]).bind λqD=>(cI (can 4294967296 b) (can 4294967296 (a%b))).bind λug=>(cf (!(n==m)) qD).bind λx=>(cf false ug).bind λx_1=>some ((⟨x.neg,x.w⟩:Zr),(⟨x_1.neg,x_1.w⟩:Zr),(0:Int))
   else(cf (!(n==m)) q).bind λx=>(cf false (can 4294967296 (a%b))).bind λx_1=>some ((⟨x.neg,x.w⟩:Zr),(⟨x_1.neg,x_1.w⟩:Zr),(0:Int)))=
   some (zn (if n=true/\0<a%b then sv (!(n==m)) (a/b+1)else sv (!(n==m)) (a/b)),zn (if n=true/\0<a%b then((b-a%b:Nat):Int)else((a%b:Nat):Int)),0):=by
  intro c hc;cases c
  ·have N0:=of_decide_eq_false hc;rw[fL,if_neg N0,if_neg N0,jC _ _ X8.x,bF,jC _ _ (fW (by omega)).x,bF,ei,Zy,nE,nE,je]
  have N0:=of_decide_eq_true hc;obtain⟨s1,s2⟩:=UO (a:=b) (b:=a%b) (by omega) X7;have w1:Eh [1]:=⟨by simp,by simp⟩;rw[fy,if_pos N0,if_pos N0,yq _ _ X8 w1,bF,s1,bF,jC _ _ ⟨λx hx=>mB (by decide) _ _ _ hx,by rw[bB];simp;omega⟩,bF,jC _ _ ⟨λx hx=>mB (by decide) _ _ _ hx,by rw[bB];omega⟩,bF,s2,nE,nE,je];have:vl (dR 4294967296 (max q.length [1].length+1) (vl q+vl [1]))=a/b+1:=by
   show val _ _=_;rw[kM,show vl [1]=1 by decide,Zy,Nat.mod_eq_of_lt];have h1:vl q<4294967296^q.length:=eT q X8.1;rw[Zy]at h1;have h2:4294967296^q.length<=4294967296^(max q.length [1].length):=Nat.pow_le_pow_right (by decide) (by omega);have h3:0<4294967296^(max q.length [1].length):=Nat.pow_pos (by decide);rw[Nat.pow_succ];omega
  rw[this]
 have hz:(0<(can 4294967296 (a%b)).length)↔0<a%b:=by
  have:=nF (v:=a%b);omega
 cases n
 ·rw[fL,bF];exact hK false (by simp)
 rw[fy,bF];refine hK _ ?_;simp only[true_and];by_cases h:0<a%b
 ·simp[h,hz.2 h]
 have h':¬0<(can 4294967296 (a%b)).length:=λe=>h (hz.1 e);have h'':¬((0:Int)<((can 4294967296 (a%b)).length:Int)):=by omega
 simp only[h,h'',decide_false]
theorem UP{x y:Zr}(hx:Wl x)(hy:Wl y):jV x y=some (zn (Int.gcd (zi x) (zi y):Int)):=by
 obtain⟨n,w⟩:=x;obtain⟨m,u⟩:=y;unfold jV;have Zx:(can 4294967296 (vl w)).length<=35184372088788:=hx.cl;have X7:(can 4294967296 (vl u)).length<=35184372088788:=hy.cl;simp only[];rw[show bn w=some (can 4294967296 (vl w))from hx.trim,show bn u=some (can 4294967296 (vl u))from hy.trim,bF,bF,Int.gcd,rZ,rZ];show _=some (zn ((Nat.gcd (vl w) (vl u):Nat):Int));generalize vl w=a at*;generalize vl u=b at*;refine gR (λs=>∃c d,s=(can 4294967296 c,can 4294967296 d)/\Nat.gcd c d=Nat.gcd a b/\(can 4294967296 c).length<=35184372088788/\(can 4294967296 d).length<=35184372088788)
  (λs=>∃c d,s=(can 4294967296 c,can 4294967296 d)/\Nat.gcd c d=Nat.gcd a b/\(can 4294967296 c).length<=35184372088788/\(d=0\/(c<18446744073709551616/\d<18446744073709551616))) (λs=>vl s.2) ?_ ⟨a,b,Y,Y,Zx,X7⟩ ?_
 ·rintro _ ⟨c,d,rfl,hg,hc,hd⟩;simp only[bF,cm];by_cases h0:d=0
  ·right;subst h0;exact⟨_,Y,c,0,Y,hg,hc,.inl Y⟩
  have tG:(can 4294967296 d).length≠0:=λh=>h0 (nF.1 h);rw[show decide ((0:Int)<((can 4294967296 d).length:Int))=true by simp;omega,fy];by_cases h2:c<18446744073709551616/\d<18446744073709551616
  ·right;have c1:=fH.2 h2.1;have c2:=fH.2 h2.2;rw[show decide ((2:Int)<((can 4294967296 c).length:Int))=false by simp;omega,fL,show decide ((2:Int)<((can 4294967296 d).length:Int))=false by simp;omega];exact⟨_,Y,c,d,Y,hg,hc,.inr h2⟩
  left;have hm:c%d<d:=Nat.mod_lt _ (by omega);obtain⟨q,r,W6,X8,Zy,TW,hr2,-,-⟩:=yu c d hc hd h0;have uU:((bif decide ((2:Int)<((can 4294967296 c).length:Int))then some true else some (decide ((2:Int)<((can 4294967296 d).length:Int)))):Option Bool)=some true:=by
   by_cases GN:c<18446744073709551616
   ·have hd2:¬d<18446744073709551616:=λh=>h2 ⟨GN,h⟩;have:¬(((can 4294967296 d).length:Int)<=2):=λh=>hd2 (fH.1 h);rw[show decide ((2:Int)<((can 4294967296 d).length:Int))=true by simp;omega];exact vR _ _
   have:¬(((can 4294967296 c).length:Int)<=2):=λh=>GN (fH.1 h);rw[show decide ((2:Int)<((can 4294967296 c).length:Int))=true by simp;omega,fy]
  rw[uU,bF,bF,fy,W6,bF];simp only[];rw[vM r (by have:=TW.2;omega),jd (by decide) TW.1,show val 4294967296 r=c%d from hr2,bF];refine⟨_,Y,⟨d,c%d,Y,?_,hd,?_⟩,?_⟩
  ·rw[<-hg,Nat.gcd_comm d,<-Nat.gcd_rec,Nat.gcd_comm]
  ·exact Nat.le_trans ((bR (by decide)).2 (Nat.lt_trans hm (cj (by decide) d))) hd
  simp only[ei];exact hm
 rintro _ ⟨c,d,rfl,hg,hc,NU⟩;simp only[bF];by_cases h0:d=0
 ·subst h0;rw[show decide (((can 4294967296 0).length:Int)=0)=true by simp[nD],fy,vP _ (by omega),bF,jC _ _ (fW (by omega)).x,bF,ei,nE,je,<-hg,Nat.gcd_zero_right]
 have h2:=NU.resolve_left h0;have tG:(can 4294967296 d).length≠0:=λh=>h0 (nF.1 h);have c1:=fH.2 h2.1;have c2:=fH.2 h2.2;rw[show decide (((can 4294967296 d).length:Int)=0)=false by simp;intro e;rw[e]at tG;exact tG Y,fL,low_eq _ (λ_ hx=>eJ (by decide) hx) (by omega),bF,low_eq _ (λ_ hx=>eJ (by decide) hx) (by omega),bF,ei,ei];refine gR (λs=>Nat.gcd s.1 s.2=Nat.gcd a b/\s.1<18446744073709551616/\s.2<18446744073709551616) (λe=>e=Nat.gcd a b/\e<18446744073709551616) (λs=>s.2) ?_ ⟨hg,h2.1,h2.2⟩ ?_
 ·rintro⟨s,t⟩ ⟨i1,i2,i3⟩;simp only at i1 i2 i3⊢;by_cases ht:0<t
  ·left;rw[show decide (0<t)=true by simp[ht],fy,zg (by omega),bF];refine⟨_,Y,⟨?_,i3,?_⟩,Nat.mod_lt _ ht⟩
   ·rw[<-i1,Nat.gcd_comm t,<-Nat.gcd_rec,Nat.gcd_comm]
   exact Nat.lt_trans (Nat.mod_lt _ ht) i3
  right;rw[show decide (0<t)=false by simp[ht],fL];refine⟨_,Y,?_,i2⟩;rw[<-i1,show t=0 by omega,Nat.gcd_zero_right]
 rintro e ⟨rfl,he⟩;rw[o6 _ _ he,bF,nE,je]
end
section
open Go.Fw
def zl(l:List Nat):List Int:=l.map (λ(n:Nat)=>(n:Int))
theorem dV(l:List Nat):(zl l).length=l.length:=by simp[zl]
theorem xl{l:List Nat}{i x:Nat}(h:l[i]? =some x):(zl l)[i]? =some (x:Int):=by simp[zl,h]
theorem El(l k:List Nat):zl (l++k)=zl l++zl k:=by simp[zl]
theorem Ic(x:Nat):zl [x]=[(x:Int)]:=rfl
theorem Qe(l:List Nat)(n:Nat):(zl l).take n=zl (l.take n):=by simp[zl,List.map_take]
theorem N1(l:List Nat)(i x:Nat):(zl l).set i (x:Int)=zl (l.set i x):=by simp[zl,List.map_set]
def R32(l:List Nat):Prop:=(∀x∈l,x<4294967296)/\l.length<=100000000000
def GJ(l:List Nat):Prop:=(∀x∈l,x<65536)/\l.length<=100000000000
abbrev nP(l:List Nat):Nat:=val 65536 l
def Wr(z:Zr):Prop:=(∀x∈z.w,x<4294967296)/\z.w.length<=10000000000
theorem Ge{L:Nat}{i:Int}(h:Fit L i)(hL:L<=10000000000):Wr (zn i):=
 ⟨λ_ hx=>eJ (by decide) hx,Nat.le_trans ((bR (by decide)).2 h) hL⟩
theorem jD(l:List Nat)(hl:l.length<=1000000000000):cQ (zl l)=some (zl (jc l)):=by
 unfold cQ;simp only[bF];refine gR (λy=>∃n:Nat,y=(n:Int)/\n<=l.length/\jc (l.take n)=jc l) (λy=>∃n:Nat,y=(n:Int)/\n<=l.length/\l.take n=jc l) (λy=>y.toNat) ?_ ⟨l.length,by rw[dV],Nat.le_refl _,by rw[List.take_length]⟩ ?_
 ·rintro _ ⟨n,rfl,hn,ht⟩;simp only[cm];rcases n with _|n
  ·right;refine⟨_,Y,0,Y,by omega,?_⟩;rw[<-ht];rfl
  have hi:∃x,l[n]? =some x:=⟨l[n],by simp⟩;obtain⟨x,hx⟩:=hi;have htk:l.take (n+1)=l.take n++[x]:=by
   rw[List.take_add_one,hx];rfl
  rw[show decide ((0:Int)<((n+1:Nat):Int))=true by rw[decide_eq_true_eq];omega,fy,AX (by omega),bP (xl hx),bF];by_cases h0:x=0
  ·left;subst h0;rw[show decide (((0:Nat):Int)=0)=true by simp,bF,fy];refine⟨_,Y,⟨n,Y,by omega,?_⟩,by omega⟩;rw[<-ht,htk,nC]
  right;rw[show decide (((x:Nat):Int)=0)=false by simp;omega,bF,fL];refine⟨_,Y,n+1,Y,hn,?_⟩;rw[<-ht,htk,qh _ h0]
 rintro _ ⟨n,rfl,hn,ht⟩;rw[m8 (by rw[dV];exact hn),bF,Qe,ht]
theorem yw{l:List Nat}(h:∀x∈l,x<65536)(i:Nat):dG (zl l) (i:Int)=some ((nP l/65536^i%65536:Nat):Int):=by
 unfold dG;simp only[bF];rw[dV];by_cases hi:i<l.length
 ·rw[show decide ((i:Int)<(l.length:Int))=true by simp[hi],fy,bP (xl (kN h hi)),bF]
 rw[show decide ((i:Int)<(l.length:Int))=false by simp;omega,fL];have:nP l/65536^i=0:=Nat.div_eq_of_lt (Nat.lt_of_lt_of_le (eT l h) (Nat.pow_le_pow_right (by decide) (by omega)));rw[this];rfl
theorem Ie(V k:Nat):dR 65536 (2*k) V++[V/4294967296^k%4294967296%65536,V/4294967296^k%4294967296/65536]=dR 65536 (2*(k+1)) V:=by
 have e:65536^(2*k)=4294967296^k:=by rw[Nat.pow_mul]
 rw[show 2*(k+1)=2*k+1+1 by omega,gS,gS,Nat.pow_succ,e,<-Nat.div_div_eq_div_mul,List.append_assoc];generalize V/4294967296^k=x;rw[show x%4294967296%65536=x%65536 by omega,show x%4294967296/65536=x/65536%65536 by omega];rfl
theorem Ky(w:List Nat)(hw:R32 w):b9 w=some (zl (can 65536 (vl w))):=by
 obtain⟨hl,hn⟩:=hw;unfold b9;refine bH (λi=>((i:Int),zl (dR 65536 (2*i) (vl w)))) w.length (zl (dR 65536 (2*w.length) (vl w))) ?_ (λk hk=>?_) ?_ ?_
 ·rfl
 ·have hg:=kN hl hk;have hlt:=Nat.mod_lt (val 4294967296 w/4294967296^k) (show 0<4294967296 by decide);have hv:=Ie (vl w) k;simp only[bF];rw[show decide ((k:Int)<(w.length:Int))=true by simp[hk],fy,bP hg,bF,bF,gD (by omega),gD (by omega),Uw (by decide) (by rw[dV,bB];simp;omega),bF,bZ (by omega)];rw[<-hv,El];rw[show val 4294967296 w/4294967296^k%4294967296/65536%4294967296=val 4294967296 w/4294967296^k%4294967296/65536 by omega];rfl
 ·simp
 rw[jD _ (by rw[bB];omega),bF,mc (by decide)];rw[Nat.pow_mul];exact eT w hl
theorem Gf(k:Nat):65536^(2*k)=4294967296^k:=by rw[Nat.pow_mul]
theorem Ig(v:Nat):can 4294967296 v=dR 4294967296 (((can 65536 v).length+1)/2) v:=by
 have h1:=cj (B:=65536) (by decide) v;obtain⟨n,hn⟩:∃n,(can 65536 v).length=n:=⟨_,Y⟩;rw[hn]at h1⊢;have h2:v<4294967296^((n+1)/2):=by
  rw[<-Gf];exact Nat.lt_of_lt_of_le h1 (Nat.pow_le_pow_right (by decide) (by omega))
 rw[Jk (by decide) v];congr 1;have h3:=(bR (B:=4294967296) (by decide)).2 h2;refine Nat.le_antisymm h3 ?_;rcases n with _|n
 ·simp
 have h4:65536^n<=v:=oD (by decide) (by omega);obtain⟨m,hm⟩:∃m,(n+1+1)/2=m+1:=⟨n/2,by omega⟩;rw[hm];rcases Nat.lt_or_ge m (can 4294967296 v).length with h|h
 ·exact h
 have h5:=(bR (B:=4294967296) (by decide)).1 h;rw[<-Gf]at h5;have:65536^(2*m)<=65536^n:=Nat.pow_le_pow_right (by decide) (by omega);omega
theorem of_eq(n:Bool)(l:List Nat)(hl:GJ l):dH n (zl l)=some (zc n (nP l)):=by
 obtain⟨h,hn⟩:=hl;unfold dH;rw[jD _ (by omega),bF,jd (by decide) h];have hc:(can 65536 (val 65536 l)).length<=l.length:=(bR (by decide)).2 (eT l h);show _=some (zc n (val 65536 l));generalize val 65536 l=v at*;have tX:∀x∈can 65536 v,x<65536:=λ_ hx=>eJ (by decide) hx;have Ve:=λi=>yw tX i;refine bH (λi=>(((2*i:Nat):Int),dR 4294967296 i v)) (((can 65536 v).length+1)/2) (can 4294967296 v) ?_ (λk hk=>?_) ?_ ?_
 ·rfl
 ·have a1:=Ve (2*k);have a2:=Ve (2*k+1);rw[show nP (can 65536 v)=v from jo (by decide) v]at a1 a2;rw[Gf]at a1;rw[Nat.pow_succ,Gf,<-Nat.div_div_eq_div_mul]at a2;simp only[bF];rw[dV,show decide (((2*k:Nat):Int)<((can 65536 v).length:Int))=true by simp;omega,fy,a1,bF,bZ (by omega),a2,bF];rw[gS];have e:((((v/4294967296^k%65536:Nat):Int)%4294967296).toNat+(((v/4294967296^k/65536%65536:Nat):Int)%4294967296).toNat*65536%4294967296)%4294967296=v/4294967296^k%4294967296:=by
   generalize v/4294967296^k=x;omega
  rw[e,uI (by decide) (by rw[bB];omega),bF,show((2*k:Nat):Int)+2=((2*(k+1):Nat):Int) by omega,gD (by omega)]
 ·simp only[bF];rw[dV,show decide (((2*(((can 65536 v).length+1)/2):Nat):Int)<((can 65536 v).length:Int))=false by simp;omega,fL,<-Ig]
 simp only[cm];rw[zc];have hz:=nF (v:=v);cases n
 ·rw[fL,bF];rfl
 rw[fy,bF,bF,bF];congr 2;by_cases h0:v=0
 ·rw[h0];rfl
 have:¬(can 4294967296 v).length=0:=λe=>h0 (hz.1 e);rw[show decide ((0:Int)<((can 4294967296 v).length:Int))=true by rw[decide_eq_true_eq];omega,show(true&&v != 0)=true by simp[h0]]
theorem r6(n:Bool)(v:Nat)(hl:(can 65536 v).length<=100000000000):dH n (zl (can 65536 v))=some (zn (sv n v)):=by
 rw[of_eq n _ ⟨λ_ hx=>eJ (by decide) hx,hl⟩,show nP (can 65536 v)=v from jo (by decide) v,nE]
theorem Kz{w:List Nat}(hw:∀x∈w,x<4294967296):(can 65536 (vl w)).length<=2*w.length:=by
 apply(bR (by decide)).2;rw[Gf];exact eT w hw
theorem iF{x:Zr}(h:Wr x):b9 x.w=some (zl (can 65536 (zi x).natAbs)):=by
 rw[rZ];exact Ky _ ⟨h.1,by have:=h.2;omega⟩
theorem Wr.Qf{x:Zr}(h:Wr x):(can 65536 (zi x).natAbs).length<=20000000000:=by
 rw[rZ];have:=Kz h.1;have:=h.2;omega
theorem Gg{x:Zr}(h:Wr x):gh x=some (zn (zi x)):=by
 obtain⟨n,w⟩:=x;have h1:=iF h;have h2:=h.Qf;unfold gh;simp only[];rw[show b9 w=_ from h1,bF,r6 _ _ (by omega),bF,rZ];rfl
theorem from_eq{x:Int}(h:dj x):fU x=some (zn x):=by
 unfold dj at h;have key:∀(v:Nat) (n:Bool),v<18446744073709551616->((gh ⟨n,[v%4294967296%4294967296,v/4294967296%18446744073709551616%4294967296]⟩).bind λx=>some (⟨x.neg,x.w⟩:Zr))=some (zn (sv n v)):=by
  intro v n hv;rw[Gg ⟨by simp;omega,by simp⟩,bF];show some (zn (sv n (vl _)))=_;congr 3;simp only[vl,val];omega
 unfold fU;simp only[bF,cm];by_cases hx:x<0
 ·have e:(x%18446744073709551616).toNat=18446744073709551616-x.natAbs:=by omega
  rw[show decide (x<0)=true by simp[hx],fy,e,vI (by omega) (by omega),show 18446744073709551616+0-(18446744073709551616-x.natAbs)=x.natAbs by omega,key _ _ (by omega),show sv true x.natAbs=x by simp[sv];omega]
 have e:(x%18446744073709551616).toNat=x.natAbs:=by omega
 rw[show decide (x<0)=false by simp[hx],fL,e,key _ _ (by omega),show sv false x.natAbs=x by simp[sv];omega]
end
section
open Go.Fw
theorem zeta'(z:Zr):(⟨z.neg,z.w⟩:Zr)=z:=by cases z;rfl
theorem nc{i:Int}(h:dj i):Fit 2 i:=Fit.i64 h.1 h.2
theorem N2{i:Int}(h:dj i):Wr (zn i):=Ge (nc h) (by decide)
end
section
open Go.Fw
theorem Qg(l:List Zr)(hl:l.length<=100):∃b,kI l=some b/\(b=false->∀z∈l,z.w.length<=12):=by
 unfold kI;simp only[bF];refine mX (λy=>∃i:Nat,y=(i:Int)/\i<=l.length/\∀z∈l.take i,z.w.length<=12) (λe=>(∃c,e=.inl c/\∀z∈l,z.w.length<=12)\/e=.inr true) (λy=>l.length-y.toNat) ?_ ⟨0,Y,by omega,by simp⟩ ?_
 ·rintro _ ⟨i,rfl,hi,ht⟩;by_cases hlt:i<l.length
  ·have g:l[i]? =some l[i]:=by simp
   rw[show decide ((i:Int)<(l.length:Int))=true by simp[hlt],fy,bP g,bF];by_cases fP:l[i].w.length<=12
   ·left;rw[show decide ((12:Int)<(l[i].w.length:Int))=false by rw[decide_eq_false_iff_not];omega,fL,bZ (by omega)];refine⟨_,Y,⟨i+1,Y,hlt,?_⟩,by omega⟩;rw[List.take_add_one,g];intro z hz;rcases List.mem_append.1 hz with h|h
    ·exact ht z h
    simp at h;rw[h];exact fP
   right;rw[show decide ((12:Int)<(l[i].w.length:Int))=true by rw[decide_eq_true_eq];omega,fy];exact⟨_,Y,.inr Y⟩
  right;rw[show decide ((i:Int)<(l.length:Int))=false by simp;omega,fL];rw[List.take_of_length_le (by omega)]at ht;exact⟨_,Y,.inl ⟨_,Y,ht⟩⟩
 rintro e (⟨c,rfl,he⟩|rfl)
 ·exact⟨false,Y,λ_=>he⟩
 exact⟨true,rfl,λh=>by cases h⟩
theorem N3(i j:Int):(i-j).sign=jO i j:=by
 rcases Int.lt_trichotomy i j with h|h|h
 ·rw[gE h,Int.sign_eq_neg_one_of_neg (by omega)]
 ·rw[h,m9,Int.sub_self];rfl
 rw[gG h,Int.sign_eq_one_of_pos (by omega)]
theorem KA(i j:Int):IntKind.i64.wrap (0-jO j i)=jO i j:=by
 rcases Int.lt_trichotomy i j with h|h|h
 ·rw[gE h,gG h];rfl
 ·rw[h,m9];rfl
 rw[gG h,gE h];rfl
abbrev OkZ(z:Zr):Prop:=True/\(z.w.length*4<=140737488351232/\∀x∈z.w,x<4294967296)
end
section
open Go.Fw
def qd(q:Qr):Int:=if zi q.den=0 then 1 else zi q.den
def qv(q:Qr):Rat:=Rat.divInt (zi q.num) (qd q)
def qn(r:Rat):Qr:=⟨zn r.num,if r.den=1 then⟨false,[]⟩else zn (r.den:Int)⟩
def FQ(L:Nat)(r:Rat):Prop:=Fit L r.num/\Fit L (r.den:Int)
structure ik (L:Nat) (q:Qr) (r:Rat):Prop where
 n:∀x∈q.num.w,x<4294967296
 d:∀x∈q.den.w,x<4294967296
 ln:q.num.w.length<=L
 ld:q.den.w.length<=L
 l1:1<=L
 v:qv q=r
theorem X9(q:Qr):qd q≠0:=by
 unfold qd;by_cases h:zi q.den=0
 ·rw[if_pos h];decide
 rw[if_neg h];exact h
theorem Ya(r:Rat):qv (qn r)=r:=by
 unfold qv qd qn;by_cases h:r.den=1
 ·rw[if_pos h];show Rat.divInt (zi (zn r.num)) (if zi ⟨false,[]⟩=0 then 1 else zi ⟨false,[]⟩)=r;rw[if_pos (show zi ⟨false,[]⟩=0 from rfl),eX];have:=Rat.num_divInt_den r;rw[h]at this;exact this
 rw[if_neg h];show Rat.divInt (zi (zn r.num)) (if zi (zn (r.den:Int))=0 then 1 else zi (zn (r.den:Int)))=r;have:=r.den_nz;rw[eX,eX,if_neg (by omega),Rat.num_divInt_den]
theorem Jv{w:List Nat}{n:Bool}{L:Nat}(h:∀x∈w,x<4294967296)(hl:w.length<=L):Fit L (zi ⟨n,w⟩):=by
 unfold Fit;rw[rZ];exact Nat.lt_of_lt_of_le (eT w h) (Nat.pow_le_pow_right (by decide) hl)
theorem vS{L:Nat}(h:1<=L):Fit L 1:=by
 unfold Fit;exact Nat.lt_of_lt_of_le (show(1:Int).natAbs<4294967296^1 by decide) (Nat.pow_le_pow_right (by decide) h)
theorem FQ.rep{L:Nat}{r:Rat}(h:FQ L r)(h1:1<=L):ik L (qn r) r:=by
 refine⟨λx hx=>eJ (by decide) hx,?_,(bR (by decide)).2 h.1,?_,h1,Ya r⟩
 ·unfold qn;by_cases e:r.den=1
  ·rw[if_pos e];simp
  rw[if_neg e];exact λx hx=>eJ (by decide) hx
 unfold qn;by_cases e:r.den=1
 ·rw[if_pos e];simp
 rw[if_neg e];exact(bR (by decide)).2 h.2
theorem ik.wn{L:Nat}{q:Qr}{r:Rat}(h:ik L q r)(hL:L<=35184372088788):Wl q.num:=⟨h.n,Nat.le_trans h.ln hL⟩
theorem ik.wd{L:Nat}{q:Qr}{r:Rat}(h:ik L q r)(hL:L<=35184372088788):Wl q.den:=⟨h.d,Nat.le_trans h.ld hL⟩
theorem ik.fn{L:Nat}{q:Qr}{r:Rat}(h:ik L q r):Fit L (zi q.num):=Jv (n:=q.num.neg) h.n h.ln
theorem ik.fd{L:Nat}{q:Qr}{r:Rat}(h:ik L q r):Fit L (zi q.den):=Jv (n:=q.den.neg) h.d h.ld
theorem ik.fqd{L:Nat}{q:Qr}{r:Rat}(h:ik L q r):Fit L (qd q):=by
 unfold qd;by_cases e:zi q.den=0
 ·rw[if_pos e];exact vS h.l1
 rw[if_neg e];exact h.fd
theorem ik.mono{L M:Nat}{q:Qr}{r:Rat}(h:ik L q r)(hl:L<=M):ik M q r:=⟨h.n,h.d,Nat.le_trans h.ln hl,Nat.le_trans h.ld hl,Nat.le_trans h.l1 hl,h.v⟩
theorem FQ.mono{L M:Nat}{r:Rat}(h:FQ L r)(hl:L<=M):FQ M r:=⟨h.1.mono hl,h.2.mono hl⟩
theorem sM{L:Nat}{a d:Int}(h0:d≠0)(ha:Fit L a)(hd:Fit L d):FQ L (Rat.divInt a d):=by
 generalize hr:Rat.divInt a d=r;obtain⟨n',d',z',c⟩:=r;obtain⟨m,hm,h1,h2⟩:=Rat.divInt_num_den h0 hr;have hm':0<m.natAbs:=Int.natAbs_pos.2 hm;refine⟨ha.le ?_,hd.le ?_⟩
 ·rw[h1,Int.natAbs_mul];exact Nat.le_mul_of_pos_right _ hm'
 rw[h2,Int.natAbs_mul];exact Nat.le_mul_of_pos_right _ hm'
theorem ik.fq{L:Nat}{q:Qr}{r:Rat}(h:ik L q r):FQ L r:=by rw[<-h.v];exact sM (X9 q) h.fn h.fqd
theorem sN(r:Rat):r=Rat.divInt r.num (r.den:Int):=(Rat.num_divInt_den r).symm
theorem oE(r:Rat):(r.den:Int)≠0:=by have:=r.den_nz;omega
theorem FQ.add{L M:Nat}{x y:Rat}(hx:FQ L x)(hy:FQ M y):FQ (L+M+1) (x+y):=by
 have e:x+y=Rat.divInt (x.num*y.den+y.num*x.den) (x.den*y.den):=by
  conv=>lhs;rw[sN x,sN y,Rat.divInt_add_divInt _ _ (oE x) (oE y)]
 rw[e];refine sM (Int.mul_ne_zero (oE x) (oE y)) ?_ ?_
 ·exact(hx.1.mul hy.2).add (by rw[Nat.add_comm L M];exact hy.1.mul hx.2)
 exact(hx.2.mul hy.2).mono (by omega)
theorem FQ.sub{L M:Nat}{x y:Rat}(hx:FQ L x)(hy:FQ M y):FQ (L+M+1) (x-y):=by
 have e:x-y=Rat.divInt (x.num*y.den-y.num*x.den) (x.den*y.den):=by
  conv=>lhs;rw[sN x,sN y,Rat.divInt_sub_divInt _ _ (oE x) (oE y)]
 rw[e];refine sM (Int.mul_ne_zero (oE x) (oE y)) ?_ ?_
 ·exact(hx.1.mul hy.2).sub (by rw[Nat.add_comm L M];exact hy.1.mul hx.2)
 exact(hx.2.mul hy.2).mono (by omega)
theorem FQ.mul{L M:Nat}{x y:Rat}(hx:FQ L x)(hy:FQ M y):FQ (L+M) (x*y):=by
 have e:x*y=Rat.divInt (x.num*y.num) (x.den*y.den):=by
  conv=>lhs;rw[sN x,sN y,Rat.divInt_mul_divInt]
 rw[e];exact sM (Int.mul_ne_zero (oE x) (oE y)) (hx.1.mul hy.1) (hx.2.mul hy.2)
theorem FQ.neg{L:Nat}{x:Rat}(hx:FQ L x):FQ L (-x):=⟨hx.1.neg,hx.2⟩
theorem FQ.int{L:Nat}{i:Int}(h:Fit L i)(h1:1<=L):FQ L (i:Rat):=⟨h,vS h1⟩
def nI(x y:Rat):Int:=if x<y then-1 else if x=y then 0 else 1
theorem o8(x:Rat):nI x x=0:=by unfold nI;rw[if_neg Rat.lt_irrefl,if_pos rfl]
theorem zo{x y:Rat}(h:x<y):nI x y=-1:=if_pos h
theorem vT{x y:Rat}(h:y<x):nI x y=1:=by
 unfold nI;rw[if_neg (λh'=>by grind),if_neg (λh'=>by grind)]
theorem KB{a b c d:Int}(hb:0<b)(hd:0<d):Rat.divInt a b<Rat.divInt c d↔a*d<c*b:=by
 have hb':(0:Rat)<(b:Rat):=Rat.intCast_pos.2 hb;have hd':(0:Rat)<(d:Rat):=Rat.intCast_pos.2 hd;rw[Rat.divInt_eq_div,Rat.divInt_eq_div,Rat.div_lt_iff hb',Rat.div_def,Rat.mul_assoc,Rat.mul_comm (d:Rat)⁻¹,<-Rat.mul_assoc,<-Rat.div_def,Rat.lt_div_iff hd',<-Rat.intCast_mul,<-Rat.intCast_mul,Rat.intCast_lt_intCast]
theorem Gh{a b c d:Int}(hb:0<b)(hd:0<d):nI (Rat.divInt a b) (Rat.divInt c d)=jO (a*d) (c*b):=by
 unfold nI jO;have e1:=KB (a:=a) (c:=c) hb hd;have e2:=Rat.divInt_eq_divInt_iff (n₁:=a) (d₁:=b) (n₂:=c) (d₂:=d) (by omega) (by omega);by_cases h1:a*d<c*b
 ·rw[if_pos (e1.2 h1),if_pos h1]
 rw[if_neg (λh=>h1 (e1.1 h)),if_neg h1];by_cases h2:a*d=c*b
 ·rw[if_pos (e2.2 h2),if_pos h2]
 rw[if_neg (λh=>h2 (e2.1 h)),if_neg h2]
theorem r7{a b:Int}(hb:0<b):a.sign=nI (Rat.divInt a b) 0:=by
 have:(0:Rat)=Rat.divInt 0 1:=rfl;rw[this,Gh hb (by decide),Int.mul_one,Int.zero_mul,<-N3,Int.sub_zero]
theorem xm{a d:Int}(hd:0<d):qn (Rat.divInt a d)=⟨zn (a/(Int.gcd a d:Int)),if d/(Int.gcd a d:Int)=1 then⟨false,[]⟩else zn (d/(Int.gcd a d:Int))⟩:=by
 have h1:(Rat.divInt a d).num=a/(Int.gcd a d:Int):=by rw[Rat.num_divInt,Int.sign_eq_one_of_pos hd,Int.one_mul,Int.gcd_comm]
 have h2:((Rat.divInt a d).den:Int)=d/(Int.gcd a d:Int):=by
  rw[Rat.den_divInt,if_neg (by omega),Int.gcd_comm];have:(d.natAbs:Int)=d:=by omega
  rw[Int.natCast_ediv,this]
 unfold qn;rw[h1,h2];by_cases e:(Rat.divInt a d).den=1
 ·rw[if_pos e,if_pos (by omega)]
 rw[if_neg e,if_neg (by omega)]
theorem Qh(k:Int):((bif(r5 k).2 then some (decide ((r5 k).1=1))else some false):Option Bool)=some (decide (k=1)):=by
 by_cases h:dj k
 ·rw[iy h];rfl
 rw[nH h];have:¬k=1:=by rintro rfl;exact h (by decide)
 rw[decide_eq_false this];rfl
theorem Ba{n d:Zr}(hn:Wl n)(hd:Wl d)(h:0<zi d):((jV n d).bind λg=>(eF n g).bind λa=>(eF d g).bind λb=>(cW b.1).bind λc=>
  (bif c.2 then some (decide (c.1=1))else some false).bind λe=>bif e then some (⟨a.1,⟨false,[]⟩⟩:Qr)else some ⟨a.1,b.1⟩)=some (qn (Rat.divInt (zi n) (zi d))):=by
 have g0:(Int.gcd (zi n) (zi d):Int)≠0:=by
  have:0<Int.gcd (zi n) (zi d):=Int.gcd_pos_of_ne_zero_right _ (by omega);omega
 have wg:Wl (zn (Int.gcd (zi n) (zi d):Int)):=mg ((Wl.fit hd).le (by
  have:=Nat.le_of_dvd (Int.natAbs_pos.2 (show zi d≠0 by omega)) (Int.gcd_dvd_natAbs_right (zi n) (zi d));simpa using this)) hd.2
 have wq:Wl (zn (zi d/(Int.gcd (zi n) (zi d):Int))):=mg ((Wl.fit hd).le (Int.natAbs_ediv_le_natAbs _ _)) hd.2;rw[UP hn hd,bF,divMod_eq hn wg,bF,divMod_eq hd wg,bF,eX,Gc,if_neg g0,Gc,if_neg g0];simp only[];rw[nG wq,bF,eX,Qh,bF,xm h];by_cases e:zi d/(Int.gcd (zi n) (zi d):Int)=1
 ·rw[decide_eq_true e,fy,if_pos e]
 rw[decide_eq_false e,fL,if_neg e]
theorem reduce_eq{x y:Zr}(hx:Wl x)(hy:Wl y)(h0:zi y≠0):fk x y=some (qn (Rat.divInt (zi x) (zi y))):=by
 unfold fk;simp only[cm,bF,zeta',sign_eq hy];by_cases h:zi y<0
 ·rw[show decide ((zi y).sign<0)=true by rw[Int.sign_eq_neg_one_of_neg h];rfl,fy,neg_eq hx,bF,neg_eq hy,bF];have hp:=Ba (mg (Wl.fit hx).neg hx.2) (mg (Wl.fit hy).neg hy.2) (by rw[eX];omega);rw[eX,eX,Rat.neg_divInt_neg]at hp;exact hp
 rw[show decide ((zi y).sign<0)=false by rw[Int.sign_eq_one_of_pos (by omega)];rfl,fL];exact Ba hx hy (by omega)
end
section
open Go.Fw
theorem qw(q:Qr):(⟨⟨q.num.neg,q.num.w⟩,⟨q.den.neg,q.den.w⟩⟩:Qr)=q:=by cases q;rfl
theorem qx(q:Qr):(⟨q.num,q.den⟩:Qr)=q:=by cases q;rfl
theorem parts_eq{L:Nat}{q:Qr}{r:Rat}(h:ik L q r)(hL:L<=35184372088788):∃n d:Zr,c6 q=some (n,d)/\Wl n/\Wl d/\0<zi d/\Rat.divInt (zi n) (zi d)=r/\Fit L (zi n)/\Fit L (zi d):=by
 have wn:=h.wn hL;have wd:=h.wd hL;have hv:=h.v;unfold c6;simp only[zeta',bF,sign_eq wd,lz (x:=1) (by decide) (by decide),neg_eq wn,neg_eq wd];unfold qv qd at hv;rcases Int.lt_trichotomy (zi q.den) 0 with h1|h1|h1
 ·refine⟨_,_,?_,mg h.fn.neg hL,mg h.fd.neg hL,by rw[eX];omega,?_,by rw[eX];exact h.fn.neg,by rw[eX];exact h.fd.neg⟩
  ·rw[Int.sign_eq_neg_one_of_neg h1];rfl
  rw[eX,eX,Rat.neg_divInt_neg,<-hv,if_neg (by omega)]
 ·refine⟨_,_,?_,wn,mg (vS h.l1) hL,by rw[eX];decide,?_,h.fn,by rw[eX];exact vS h.l1⟩
  ·rw[h1];rfl
  rw[eX,<-hv,if_pos h1]
 refine⟨_,_,?_,wn,wd,h1,?_,h.fn,h.fd⟩
 ·rw[Int.sign_eq_one_of_pos h1];rfl
 rw[<-hv,if_neg (by omega)]
def Sm(a:Int):Prop:=-2147483648<a/\a<2147483648
theorem Sm.ok{a:Int}(h:Sm a):dj a:=by unfold Sm at h;unfold dj;omega
theorem nJ{L:Nat}{q:Qr}{r:Rat}(h:ik L q r)(hL:L<=35184372088788):∃a b c,dP q=some (a,b,c)/\(c=true->Sm a/\0<b/\Sm b/\Rat.divInt a b=r):=by
 have wn:=h.wn hL;have wd:=h.wd hL;have hv:=h.v;unfold dP;simp only[zeta',bF,cm,nG wn,nG wd];unfold qv qd at hv;generalize zi q.num=n at*;generalize zi q.den=d at*;by_cases hs:Sm n/\Sm d
 ·obtain⟨h1,h2⟩:=hs;rw[iy h1.ok,iy h2.ok];unfold Sm at h1 h2;simp only[];rw[decide_eq_false (show ¬n<=-2147483648 by omega),decide_eq_false (show ¬2147483648<=n by omega),decide_eq_false (show ¬d<=-2147483648 by omega),decide_eq_false (show ¬2147483648<=d by omega)];simp only[Bool.not_true,fL,bF];by_cases h0:d=0
  ·rw[decide_eq_true h0,fy];refine⟨_,_,_,Y,λ_=>⟨h1,by decide,⟨by decide,by decide⟩,?_⟩⟩;rw[<-hv,if_pos h0]
  rw[decide_eq_false h0,fL];rw[if_neg h0]at hv;by_cases hneg:d<0
  ·rw[decide_eq_true hneg,fy,ct (by omega) (by omega),ct (by omega) (by omega)];refine⟨_,_,_,Y,λ_=>⟨⟨by omega,by omega⟩,by omega,⟨by omega,by omega⟩,?_⟩⟩;rw[Int.zero_sub,Int.zero_sub,Rat.neg_divInt_neg,hv]
  rw[decide_eq_false hneg,fL];exact⟨_,_,_,Y,λ_=>⟨h1,by omega,h2,hv⟩⟩
 refine⟨0,0,false,?_,λe=>by cases e⟩;by_cases o1:dj n
 ·by_cases o2:dj d
  ·rw[iy o1,iy o2];simp only[Bool.not_true,fL,bF];unfold Sm at hs;by_cases c1:n<=-2147483648
   ·rw[decide_eq_true c1];simp only[bF,fy]
   rw[decide_eq_false c1];simp only[bF,fL];by_cases c2:2147483648<=n
   ·rw[decide_eq_true c2];simp only[bF,fy]
   rw[decide_eq_false c2];simp only[bF,fL];by_cases c3:d<=-2147483648
   ·rw[decide_eq_true c3];simp only[bF,fy]
   rw[decide_eq_false c3];simp only[bF,fL];rw[decide_eq_true (show 2147483648<=d by omega)];simp only[fy]
  rw[iy o1,nH o2];simp only[Bool.not_true,Bool.not_false,fL,bF,fy]
 rw[nH o1];simp only[Bool.not_false,bF,fy]
theorem Gi{a g:Int}(hg:0<g)(h:g∣a):Int.tdiv a g=a/g:=by
 obtain⟨k,rfl⟩:=h;rw[Int.mul_tdiv_cancel_left _ (by omega),Int.mul_ediv_cancel_left _ (by omega)]
theorem vU{n d:Int}(hd:0<d)(hd':d<=9223372036854775807)(hn: -9223372036854775807<=n)(hn':n<=9223372036854775807):fQ n d=some (qn (Rat.divInt n d)):=by
 unfold fQ;simp only[bF,cm];refine gR (λs=>Int.gcd s.1 s.2=Int.gcd n d/\s.1.natAbs<=9223372036854775807/\s.2.natAbs<=9223372036854775807) (λe=>e.natAbs=Int.gcd n d/\e.natAbs<=9223372036854775807) (λs=>s.2.natAbs) ?_ ⟨Y,by simp only[];omega,by simp only[];omega⟩ ?_
 ·rintro⟨a,b⟩ ⟨i1,i2,i3⟩;simp only at i1 i2 i3⊢;by_cases hb:b=0
  ·right;subst hb;refine⟨a,by simp,?_,i2⟩;rw[<-i1];simp[Int.gcd]
  left;rw[decide_eq_true hb,fy,Bv,if_neg hb,bF];have hm:(Int.tmod a b).natAbs=a.natAbs%b.natAbs:=Int.natAbs_tmod a b;have hlt:=Nat.mod_lt a.natAbs (Int.natAbs_pos.2 hb);refine⟨_,Y,⟨?_,i3,by simp only[];omega⟩,by simp only[];omega⟩;simp only[];rw[<-i1,Int.gcd,Int.gcd,hm,Nat.gcd_comm b.natAbs,<-Nat.gcd_rec,Nat.gcd_comm]
 rintro e ⟨he,hle⟩;obtain⟨g,hg⟩:∃g:Int,(Int.gcd n d:Int)=g:=⟨_,Y⟩;have Zs:0<g:=by have:=Int.gcd_pos_of_ne_zero_right n (show d≠0 by omega);omega
 have hgn:g∣n:=hg▸Int.gcd_dvd_left ..;have hgd:g∣d:=hg▸Int.gcd_dvd_right ..;have hK:∀m:Int,m=g->(bif decide (m=d)then(qB n m).bind λgU=>(bW gU).bind λx=>some (⟨⟨x.neg,x.w⟩,⟨false,[]⟩⟩:Qr)else(qB n m).bind λiM=>(bW iM).bind λx=>(qB d m).bind λm6=>(bW m6).bind λy=>some ⟨⟨x.neg,x.w⟩,⟨y.neg,y.w⟩⟩)=some (qn (Rat.divInt n d)):=by
  rintro m rfl;have b1:(n/m).natAbs<=n.natAbs:=Int.natAbs_ediv_le_natAbs _ _;have b2:(d/m).natAbs<=d.natAbs:=Int.natAbs_ediv_le_natAbs _ _;have q1:qB n m=some (n/m):=by
   rw[qB,if_neg (by omega),Gi Zs hgn,ct (by omega) (by omega)]
  have q2:qB d m=some (d/m):=by
   rw[qB,if_neg (by omega),Gi Zs hgd,ct (by omega) (by omega)]
  rw[xm hd,hg,q1,q2];simp only[bF,lz (x:=n/m) (by omega) (by omega),lz (x:=d/m) (by omega) (by omega),zeta'];by_cases e1:m=d
  ·rw[decide_eq_true e1,fy,if_pos (by rw[e1];exact Int.ediv_self (by omega))]
  rw[decide_eq_false e1,fL,if_neg];intro e2;have:=Int.ediv_mul_cancel hgd;rw[e2]at this;omega
 by_cases hneg:e<0
 ·rw[decide_eq_true hneg,fy,ct (by omega) (by omega)];exact hK _ (by omega)
 rw[decide_eq_false hneg,fL];exact hK _ (by omega)
theorem kf{a b:Int}(ha:Sm a)(hb:Sm b): -4611686018427387904<a*b/\a*b<4611686018427387904:=by
 unfold Sm at ha hb;have h1:(a*b).natAbs=a.natAbs*b.natAbs:=Int.natAbs_mul a b;have h2:a.natAbs*b.natAbs<=2147483647*2147483647:=Nat.mul_le_mul (by omega) (by omega);omega
theorem sO{a b:Int}(ha:0<a)(hb:0<b):0<a*b:=Int.mul_pos ha hb
section ops
variable {L M:Nat}{a b:Qr}{x y:Rat}
theorem ik.add(ha:ik L a x)(hb:ik M b y)(h:L+M<=35184372088768):nu a b=some (qn (x+y))/\ik (L+M+1) (qn (x+y)) (x+y):=by
 refine⟨?_,(ha.fq.add hb.fq).rep (by omega)⟩;obtain⟨n1,d1,c1,e1,k1⟩:=nJ ha (by omega);obtain⟨n2,d2,c2,e2,k2⟩:=nJ hb (by omega);obtain⟨p1,q1,f1,w1,w2,g1,v1,t1,t2⟩:=parts_eq ha (by omega);obtain⟨p2,q2,f2,w3,w4,g2,v2,t3,t4⟩:=parts_eq hb (by omega);have Gj:iU a b=some (qn (x+y)):=by
  unfold iU gz;have u1:=mg (t1.mul t4) (by omega);have u2:=mg (t3.mul t2) (by omega);have u3:=mg (t2.mul t4) (by omega);have u4:=mg ((t1.mul t4).add ((t3.mul t2).mono (by omega))) (by omega);simp only[zeta',qw,qx,f1,f2,bF,mul_eq w1 w4,mul_eq w3 w2,add_eq u1 u2,mul_eq w2 w4,eX];rw[reduce_eq u4 u3 (by rw[eX];have:=sO g1 g2;omega),bF,eX,eX,<-v1,<-v2,Rat.divInt_add_divInt _ _ (by omega) (by omega)]
 unfold nu;simp only[zeta',qw,qx,e1,e2,bF,cm,Gj];cases c1
 ·rw[fL,bF,fL]
 cases c2
 ·rw[fy,bF,fL]
 obtain⟨s1,s2,s3,s4⟩:=k1 Y;obtain⟨s5,s6,s7,s8⟩:=k2 Y;have m1:=kf s1 s7;have m2:=kf s5 s3;have m3:=kf s3 s7;have m4:=sO s2 s6;rw[fy,bF,fy,ct (x:=n1*d2) (by omega) (by omega),ct (x:=n2*d1) (by omega) (by omega),ct (x:=d1*d2) (by omega) (by omega),ct (by omega) (by omega),vU m4 (by omega) (by omega) (by omega),bF,<-s4,<-s8,Rat.divInt_add_divInt _ _ (by omega) (by omega)]
theorem ik.sub(ha:ik L a x)(hb:ik M b y)(h:L+M<=35184372088768):nv a b=some (qn (x-y))/\ik (L+M+1) (qn (x-y)) (x-y):=by
 refine⟨?_,(ha.fq.sub hb.fq).rep (by omega)⟩;obtain⟨n1,d1,c1,e1,k1⟩:=nJ ha (by omega);obtain⟨n2,d2,c2,e2,k2⟩:=nJ hb (by omega);obtain⟨p1,q1,f1,w1,w2,g1,v1,t1,t2⟩:=parts_eq ha (by omega);obtain⟨p2,q2,f2,w3,w4,g2,v2,t3,t4⟩:=parts_eq hb (by omega);have Gj:iV a b=some (qn (x-y)):=by
  unfold iV gA;have u1:=mg (t1.mul t4) (by omega);have u2:=mg (t3.mul t2) (by omega);have u3:=mg (t2.mul t4) (by omega);have u4:=mg ((t1.mul t4).sub ((t3.mul t2).mono (by omega))) (by omega);simp only[zeta',qw,qx,f1,f2,bF,mul_eq w1 w4,mul_eq w3 w2,sub_eq u1 u2,mul_eq w2 w4,eX];rw[reduce_eq u4 u3 (by rw[eX];have:=sO g1 g2;omega),bF,eX,eX,<-v1,<-v2,Rat.divInt_sub_divInt _ _ (by omega) (by omega)]
 unfold nv;simp only[zeta',qw,qx,e1,e2,bF,cm,Gj];cases c1
 ·rw[fL,bF,fL]
 cases c2
 ·rw[fy,bF,fL]
 obtain⟨s1,s2,s3,s4⟩:=k1 Y;obtain⟨s5,s6,s7,s8⟩:=k2 Y;have m1:=kf s1 s7;have m2:=kf s5 s3;have m3:=kf s3 s7;have m4:=sO s2 s6;rw[fy,bF,fy,ct (x:=n1*d2) (by omega) (by omega),ct (x:=n2*d1) (by omega) (by omega),ct (x:=d1*d2) (by omega) (by omega),ct (by omega) (by omega),vU m4 (by omega) (by omega) (by omega),bF,<-s4,<-s8,Rat.divInt_sub_divInt _ _ (by omega) (by omega)]
theorem ik.mul(ha:ik L a x)(hb:ik M b y)(h:L+M<=35184372088768):jM a b=some (qn (x*y))/\ik (L+M) (qn (x*y)) (x*y):=by
 have l1:=ha.l1;refine⟨?_,(ha.fq.mul hb.fq).rep (by omega)⟩;obtain⟨n1,d1,c1,e1,k1⟩:=nJ ha (by omega);obtain⟨n2,d2,c2,e2,k2⟩:=nJ hb (by omega);obtain⟨p1,q1,f1,w1,w2,g1,v1,t1,t2⟩:=parts_eq ha (by omega);obtain⟨p2,q2,f2,w3,w4,g2,v2,t3,t4⟩:=parts_eq hb (by omega);have Gj:iW a b=some (qn (x*y)):=by
  unfold iW gB;have u1:=mg (t1.mul t3) (by omega);have u3:=mg (t2.mul t4) (by omega);simp only[zeta',qw,qx,f1,f2,bF,mul_eq w1 w3,mul_eq w2 w4];rw[reduce_eq u1 u3 (by rw[eX];have:=sO g1 g2;omega),bF,eX,eX,<-v1,<-v2,Rat.divInt_mul_divInt]
 unfold jM;simp only[zeta',qw,qx,e1,e2,bF,cm,Gj];cases c1
 ·rw[fL,bF,fL]
 cases c2
 ·rw[fy,bF,fL]
 obtain⟨s1,s2,s3,s4⟩:=k1 Y;obtain⟨s5,s6,s7,s8⟩:=k2 Y;have m1:=kf s1 s5;have m3:=kf s3 s7;have m4:=sO s2 s6;rw[fy,bF,fy,ct (by omega) (by omega),ct (x:=d1*d2) (by omega) (by omega),vU m4 (by omega) (by omega) (by omega),bF,<-s4,<-s8,Rat.divInt_mul_divInt]
theorem ik.sign(ha:ik L a x)(h:L<=35184372088788):iX a=some (nI x 0):=by
 unfold iX;have wn:=ha.wn h;have wd:=ha.wd h;have hv:=ha.v;simp only[zeta',bF,sign_eq wn,sign_eq wd];unfold qv qd at hv;rcases Int.lt_trichotomy (zi a.den) 0 with h1|h1|h1
 ·rw[Int.sign_eq_neg_one_of_neg h1];rw[if_neg (by omega),<-Rat.neg_divInt_neg]at hv;rw[<-hv,<-r7 (by omega),Int.sign_neg];show some (IntKind.i64.wrap (0-(zi a.num).sign))=_;have:(zi a.num).sign=-1\/(zi a.num).sign=0\/(zi a.num).sign=1:=by
   rcases Int.lt_trichotomy (zi a.num) 0 with e|e|e
   ·left;exact Int.sign_eq_neg_one_of_neg e
   ·right;left;rw[e];rfl
   right;right;exact Int.sign_eq_one_of_pos e
  rw[ct (by omega) (by omega),Int.zero_sub]
 ·rw[if_pos h1]at hv;rw[<-hv,<-r7 (by omega),h1];rfl
 rw[if_neg (by omega)]at hv;rw[Int.sign_eq_one_of_pos h1,<-hv,<-r7 h1];rfl
theorem xn{x:Rat}:nI x 0=0↔x=0:=by
 unfold nI;by_cases h:x<0
 ·rw[if_pos h];refine⟨λe=>absurd e (by decide),λe=>?_⟩;rw[e]at h;exact absurd h Rat.lt_irrefl
 rw[if_neg h];by_cases h2:x=0
 ·rw[if_pos h2];simp[h2]
 rw[if_neg h2];simp[h2]
theorem ik.canon(ha:ik L a x)(h:L<=35184372088788):c8 a=some (qn x)/\ik L (qn x) x:=by
 refine⟨?_,ha.fq.rep ha.l1⟩;obtain⟨n1,d1,c1,e1,k1⟩:=nJ ha (by omega);obtain⟨p1,q1,f1,w1,w2,g1,v1,t1,t2⟩:=parts_eq ha (by omega);unfold c8;simp only[zeta',qw,qx,e1,bF,f1];cases c1
 ·rw[fL,reduce_eq w1 w2 (by omega),bF,v1]
 obtain⟨s1,s2,s3,s4⟩:=k1 Y;unfold Sm at s1 s3;rw[fy,vU s2 (by omega) (by omega) (by omega),bF,s4]
end ops
end
section
open Go.Fw
theorem CN{p q u v:Int}(hq:0<q)(hv:0<v)(h:p.sign≠u.sign\/p.sign=0):n6 (IntKind.i64.wrap (p.sign-u.sign))=some (jO (p*v) (u*q)):=by
 have pv:0<p->0<p*v:=λh=>Int.mul_pos h hv;have pv':p<0->p*v<0:=λh=>Int.mul_neg_of_neg_of_pos h hv;have uq:0<u->0<u*q:=λh=>Int.mul_pos h hq;have uq':u<0->u*q<0:=λh=>Int.mul_neg_of_neg_of_pos h hq;rcases Int.lt_trichotomy p 0 with e1|e1|e1<;>rcases Int.lt_trichotomy u 0 with e2|e2|e2
 ·rw[Int.sign_eq_neg_one_of_neg e1,Int.sign_eq_neg_one_of_neg e2]at h;simp at h
 ·have:=pv' e1;rw[Int.sign_eq_neg_one_of_neg e1,e2,Int.zero_mul,gE this];rfl
 ·have:=pv' e1;have:=uq e2;rw[Int.sign_eq_neg_one_of_neg e1,Int.sign_eq_one_of_pos e2,gE (by omega)];rfl
 ·have:=uq' e2;rw[Int.sign_eq_neg_one_of_neg e2,e1,Int.zero_mul,gG this];rfl
 ·rw[e1,e2,Int.zero_mul,Int.zero_mul];rfl
 ·have:=uq e2;rw[Int.sign_eq_one_of_pos e2,e1,Int.zero_mul,gE this];rfl
 ·have:=pv e1;have:=uq' e2;rw[Int.sign_eq_one_of_pos e1,Int.sign_eq_neg_one_of_neg e2,gG (by omega)];rfl
 ·have:=pv e1;rw[Int.sign_eq_one_of_pos e1,e2,Int.zero_mul,gG this];rfl
 rw[Int.sign_eq_one_of_pos e1,Int.sign_eq_one_of_pos e2]at h;simp at h
theorem Gk{x y:Rat}:nI x y=0↔x=y:=by
 unfold nI;by_cases h:x<y
 ·rw[if_pos h];refine⟨λe=>absurd e (by decide),λe=>?_⟩;rw[e]at h;exact absurd h Rat.lt_irrefl
 rw[if_neg h];by_cases h2:x=y
 ·rw[if_pos h2];simp[h2]
 rw[if_neg h2];simp[h2]
theorem Gl{x y:Rat}:nI x y<0↔x<y:=by
 unfold nI;by_cases h:x<y
 ·rw[if_pos h];simp[h]
 rw[if_neg h];by_cases h2:x=y
 ·rw[if_pos h2];simp[h2,Rat.lt_irrefl]
 rw[if_neg h2];simp[h]
theorem Bb{x y:Rat}:0<nI x y↔y<x:=by
 unfold nI;by_cases h:x<y
 ·rw[if_pos h];have:¬y<x:=by grind
  simp[this]
 rw[if_neg h];by_cases h2:x=y
 ·rw[if_pos h2];simp[h2,Rat.lt_irrefl]
 rw[if_neg h2];have:y<x:=by grind
 simp[this]
theorem N4(i:Int):qn (i:Rat)=⟨zn i,⟨false,[]⟩⟩:=by
 unfold qn;rw[Rat.den_intCast,if_pos Y,Rat.num_intCast]
section ops
variable {L M:Nat}{a b:Qr}{x y:Rat}
theorem ik.neg(ha:ik L a x)(h:L<=35184372088788):iY a=some (qn (-x))/\ik L (qn (-x)) (-x):=by
 refine⟨?_,ha.fq.neg.rep ha.l1⟩;unfold iY;have r:=(ha.canon h).2;simp only[zeta',qw,qx,(ha.canon h).1,bF,neg_eq (r.wn h)];show some (⟨zn (-zi (zn x.num)),_⟩:Qr)=some (qn (-x));rw[eX];rfl
theorem ik.UQ(ha:ik L a x)(hb:ik M b y)(hL:L<=35184372088788)(hM:M<=35184372088788):ga a b=some (nI x y):=by
 obtain⟨p1,q1,f1,w1,w2,g1,v1,t1,t2⟩:=parts_eq ha (by omega);obtain⟨p2,q2,f2,w3,w4,g2,v2,t3,t4⟩:=parts_eq hb (by omega);unfold ga;have u1:=SB (t1.mul t4) (by omega);have u2:=SB (t3.mul t2) (by omega);simp only[zeta',qw,qx,f1,f2,bF,cm,sign_eq w1,sign_eq w3,mul_eq w1 w4,mul_eq w3 w2,X6 u1 u2,eX];rw[<-v1,<-v2,Gh g1 g2];by_cases e1:(zi p1).sign=(zi p2).sign
 ·rw[show decide ((zi p1).sign≠(zi p2).sign)=false by simp[e1],fL,bF];by_cases e2:(zi p1).sign=0
  ·rw[decide_eq_true e2,fy,CN g1 g2 (.inr e2),bF]
  rw[decide_eq_false e2,fL]
 rw[show decide ((zi p1).sign≠(zi p2).sign)=true by simp[e1],fy,bF,fy,CN g1 g2 (.inl e1),bF]
theorem ik.cmp(ha:ik L a x)(hb:ik M b y)(h:L+M<=35184372088768):ga a b=some (nI x y):=ha.UQ hb (by omega) (by omega)
theorem ik.eq(ha:ik L a x)(hb:ik M b y)(h:L+M<=35184372088768):kz a b=some (decide (x=y)):=by
 unfold kz;simp only[zeta',qw,qx,ha.cmp hb h,bF];congr 1;rw[decide_eq_decide];exact Gk
theorem mY{n:Int}(hn:dj n):c7 n=some (qn (n:Rat))/\ik 2 (qn (n:Rat)) (n:Rat):=by
 refine⟨?_,(FQ.int (nc hn) (by decide)).rep (by decide)⟩;unfold c7;simp only[zeta',bF,lz hn.1 hn.2];rw[N4]
theorem Gm{n d:Int}(h0:d≠0)(hn:Fit L n)(hd:Fit L d)(h:1<=L):ik L ⟨zn n,zn d⟩ (Rat.divInt n d):=by
 refine⟨λx hx=>eJ (by decide) hx,λx hx=>eJ (by decide) hx,(bR (by decide)).2 hn,(bR (by decide)).2 hd,h,?_⟩;unfold qv qd;simp only[eX];rw[if_neg h0]
end ops
end
section
open Go.Fw
def vq(n:Nat)(h:Nat->Rat):List Qr:=(List.range n).map λi=>qn (h i)
structure cC (L:Nat) (v:List Qr) (f:Nat->Rat):Prop where
 e:∀i (h:i<v.length),ik L v[i] (f i)
 z:∀i,v.length<=i->f i=0
 l1:1<=L
theorem dc(n:Nat)(h:Nat->Rat):(vq n h).length=n:=by simp[vq]
theorem Qi{n i:Nat}{h:Nat->Rat}(hi:i<(vq n h).length):(vq n h)[i]=qn (h i):=by simp[vq]
theorem vV(n:Nat)(h:Nat->Rat):vq (n+1) h=vq n h++[qn (h n)]:=by simp[vq,List.range_succ]
theorem Qj(h:Nat->Rat):vq 0 h=[]:=rfl
theorem r8{n:Nat}{h k:Nat->Rat}(e:∀i,i<n->h i=k i):vq n h=vq n k:=by
 unfold vq;apply List.map_congr_left;intro i hi;rw[e i (List.mem_range.1 hi)]
theorem oF{L n:Nat}{h:Nat->Rat}(hf:∀i,i<n->FQ L (h i))(hz:∀i,n<=i->h i=0)(h1:1<=L):cC L (vq n h) h:=by
 refine⟨λi hi=>?_,λi hi=>hz i (by rwa[dc]at hi),h1⟩;rw[Qi hi];exact(hf i (by rwa[dc]at hi)).rep h1
def qz:Qr:=⟨⟨false,[]⟩,⟨false,[]⟩⟩
theorem Qk:qn 0=qz:=rfl
theorem Bc{L:Nat}(h:1<=L):ik L qz 0:=⟨by simp[qz],by simp[qz],by simp[qz],by simp[qz],h,by decide⟩
theorem Ql{L:Nat}(h:1<=L):FQ L 0:=(Bc h).fq
def Vz(v:List Qr)(i:Nat):Qr:=v.getD i qz
theorem cC.at{L:Nat}{v:List Qr}{f:Nat->Rat}(h:cC L v f)(i:Nat):ik L (Vz v i) (f i):=by
 unfold Vz;by_cases hi:i<v.length
 ·rw[List.getD_eq_getElem?_getD,List.getElem?_eq_getElem hi];exact h.e i hi
 rw[List.getD_eq_getElem?_getD,List.getElem?_eq_none (by omega),h.z i (by omega)];exact Bc h.l1
theorem cC.fq{L:Nat}{v:List Qr}{f:Nat->Rat}(h:cC L v f)(i:Nat):FQ L (f i):=(h.at i).fq
theorem cC.mono{L M:Nat}{v:List Qr}{f:Nat->Rat}(h:cC L v f)(hl:L<=M):cC M v f:=⟨λi hi=>(h.e i hi).mono hl,h.z,Nat.le_trans h.l1 hl⟩
theorem cC.nil{L:Nat}(h:1<=L):cC L [] (λ_=>0):=⟨λi hi=>by simp at hi,λ_ _=>Y,h⟩
theorem cC.get{L:Nat}{v:List Qr}{f:Nat->Rat}(h:cC L v f){i:Nat}(hi:i<v.length):∃q,v[i]? =some q/\ik L q (f i):=⟨v[i],by simp,h.e i hi⟩
theorem cC.congr{L:Nat}{v:List Qr}{f g:Nat->Rat}(h:cC L v f)(e:∀i,f i=g i):cC L v g:=by
 have:f=g:=funext e;rw[<-this];exact h
def xo(v:List Qr)(i:Nat):Rat:=qv (Vz v i)
theorem Em{L:Nat}{v:List Qr}(h:∀q∈v,ik L q (qv q))(h1:1<=L):cC L v (xo v):=by
 refine⟨λi hi=>?_,λi hi=>?_,h1⟩
 ·have e:Vz v i=v[i]:=by unfold Vz;rw[List.getD_eq_getElem?_getD,List.getElem?_eq_getElem hi];rfl
  unfold xo;rw[e];exact h _ (List.getElem_mem hi)
 unfold xo Vz;rw[List.getD_eq_getElem?_getD,List.getElem?_eq_none hi];decide
def cu(h:Nat->Rat):Nat->Rat
 |0=>0
 |n+1=>cu h n+h n
theorem uM{h k:Nat->Rat}:∀{n:Nat},(∀i,i<n->h i=k i)->cu h n=cu k n
 |0,_=>rfl
 |n+1,e=>by rw[cu,cu,uM (λi hi=>e i (by omega)),e n (by omega)]
theorem Gn(c:Rat)(h:Nat->Rat):∀n,cu (λi=>c*h i) n=c*cu h n
 |0=>by simp[cu]
 |n+1=>by rw[cu,cu,Gn c h n];grind
theorem CO:∀n,cu (λ_=>0) n=0
 |0=>rfl
 |n+1=>by rw[cu,CO n];grind
theorem N5{h:Nat->Rat}{n m:Nat}(hnm:n<=m)(hz:∀i,n<=i->i<m->h i=0):cu h m=cu h n:=by
 induction m with
 |zero=>rw[show n=0 by omega]
 |succ m ih=>
  rcases Nat.lt_or_ge m n with q|q
  ·rw[show n=m+1 by omega]
  rw[cu,ih q (λi h1 h2=>hz i h1 (by omega)),hz m q (by omega)];grind
theorem Jw{L:Nat}{h:Nat->Rat}:∀{n:Nat},(∀i,i<n->FQ L (h i))->FQ (n*(L+1)+1) (cu h n)
 |0,_=>Ql (by omega)
 |n+1,e=>by
  rw[cu];exact((Jw (λi hi=>e i (by omega))).add (e n (by omega))).mono (by rw[Nat.add_mul];omega)
end
section
open Go.Fw
theorem Jx{α β:Type}(a:List α)(b:List β):min (a.length:Int) (b.length:Int)=((min a.length b.length:Nat):Int):=by omega
theorem cC.gd{L:Nat}{v:List Qr}{f:Nat->Rat}(h:cC L v f)(k:Nat):ik L (v.getD k (⟨⟨false,[]⟩,⟨false,[]⟩⟩:Qr)) (f k):=h.at k
theorem Ih{n k:Nat}{h:Nat->Rat}(hk:k<n):(vq k h++List.replicate (n-k) qz).set k (qn (h k))=vq (k+1) h++List.replicate (n-(k+1)) qz:=by
 rw[show n-k=(n-(k+1))+1 by omega,List.replicate_succ,List.set_append_right _ _ (by rw[dc];exact Nat.le_refl _),dc,Nat.sub_self,vV,List.append_assoc];rfl
theorem UR{n c:Nat}{h:Nat->Rat}(hc:c<=n)(hz:∀i,c<=i->i<n->h i=0):vq c h++List.replicate (n-c) qz=vq n h:=by
 induction n with
 |zero=>rw[show c=0 by omega];rfl
 |succ n ih=>
  rcases Nat.lt_or_ge n c with q|q
  ·rw[show c=n+1 by omega,Nat.sub_self];simp
  rw[show n+1-c=(n-c)+1 by omega,List.replicate_succ',<-List.append_assoc,ih q (λi h1 h2=>hz i h1 (by omega)),vV,hz n q (by omega),Qk]
theorem sP{n k:Nat}{h:Nat->Rat}(hk:k<=n):(vq k h++List.replicate (n-k) qz).length=n:=by rw[List.length_append,dc,List.length_replicate];omega
section ops
variable {K L M:Nat}{c:Qr}{a b:List Qr}{k:Rat}{f g:Nat->Rat}
theorem Bd(hc:ik K c k)(ha:cC L a f)(h:K+L<=35184372088768)(la:a.length<=1000000):gV c a=some (vq a.length λi=>k*f i)/\cC (K+L) (vq a.length λi=>k*f i) (λi=>k*f i):=by
 have U7:=ha.l1;refine⟨?_,oF (λi _=>hc.fq.mul (ha.fq i)) (λi hi=>?_) (by omega)⟩
 ·unfold gV;obtain⟨⟨_,_⟩,⟨_,_⟩⟩:=c;refine aA Y<|aA (qc (by omega) (by omega))<|aA Y ?_;refine bH (λj=>((j:Int),vq j (λi=>k*f i)++List.replicate (a.length-j) qz)) a.length (vq a.length λi=>k*f i) Y (λj hj=>?_) ?_ Y
  ·obtain⟨q,hq,rq⟩:=ha.get hj;have e3:=(hc.mul rq h).1;obtain⟨q3,h3⟩:∃q,qn (k*f j)=q:=⟨_,Y⟩;have h4:=Ih (h:=λi=>k*f i) hj;rw[h3]at e3 h4;obtain⟨⟨_,_⟩,⟨_,_⟩⟩:=q;obtain⟨⟨_,_⟩,⟨_,_⟩⟩:=q3;refine aA Y<|bX (decide_eq_true (by omega))<|aA (bP hq)<|aA e3<|aA (fe (by rw[sP (by omega)];exact hj))<|aA (iH (by rw[sP (by omega)];exact hj))<|aA Y ?_;rw[bZ (by omega),h4]
  refine aA Y<|bQ (decide_eq_false (by omega)) ?_;simp
 rw[ha.z i hi];grind
end ops
end
section
open Go.Fw
def jg(f g:Nat->Rat):Nat->Int
 |0=>0
 |n+1=>if jg f g n≠0 then jg f g n else nI (f n) (g n)
def Qm(f g:Nat->Rat):Nat->Option Nat
 |0=>none
 |n+1=>match Qm f g n with|some k=>some k|none=>if g n<f n then some n else none
theorem r9{f g:Nat->Rat}:∀{n:Nat},jg f g n=0↔∀i,i<n->f i=g i
 |0=>by simp[jg]
 |n+1=>by
  rw[jg];by_cases h:jg f g n=0
  ·rw[if_neg (by simpa using h),Gk];have:=r9.1 h;refine⟨λe i hi=>?_,λe=>e n (by omega)⟩;rcases Nat.lt_or_ge i n with q|q
   ·exact this i q
   obtain rfl:i=n:=by omega
   exact e
  rw[if_pos h];refine⟨λe=>absurd e h,λe=>absurd (r9.2 (λi hi=>e i (by omega))) h⟩
section ops
variable {K L M:Nat}{c:Qr}{a b:List Qr}{k:Rat}{f g:Nat->Rat}
theorem afi{x y z:Rat}{p q r:Qr}(hp:ik K p x)(hq:ik L q y)(hr:ik M r z)(hz:r=qn z)(h:K+L+M<=35184372088768):lQ p q r=some (qn (z+x*y)):=by
 have e1:=hp.mul hq (by omega);have e2:=(hr.add e1.2 (by omega)).1;have s1:=hp.sign (by omega);have s2:=hq.sign (by omega);replace e1:=e1.1;obtain⟨⟨_,_⟩,⟨_,_⟩⟩:=p;obtain⟨⟨_,_⟩,⟨_,_⟩⟩:=q;obtain⟨⟨_,_⟩,⟨_,_⟩⟩:=r;generalize qn (x*y)=w at e1 e2;obtain⟨⟨_,_⟩,⟨_,_⟩⟩:=w;unfold lQ;refine aA s1<|aA Y ?_;by_cases h1:x=0
 ·refine aA (bQ (decide_eq_false (by rw[h1,o8];simp)) Y) ?_;rw[show z+x*y=z by rw[h1];grind,<-hz];rfl
 by_cases h2:y=0
 ·refine aA (bX (decide_eq_true (λe=>h1 (xn.1 e))) (aA s2 (aA Y Y))) ?_;refine bQ (decide_eq_false (by rw[h2,o8];simp)) ?_;rw[show z+x*y=z by rw[h2];grind,<-hz]
 refine aA (bX (decide_eq_true (λe=>h1 (xn.1 e))) (aA s2 (aA Y Y))) ?_;refine bX (decide_eq_true (λe=>h2 (xn.1 e))) ?_;obtain⟨w3,h3⟩:∃w,qn (z+x*y)=w:=⟨_,Y⟩;rw[h3]at e2⊢;obtain⟨⟨_,_⟩,⟨_,_⟩⟩:=w3;exact aA e1<|aA e2 Y
theorem Jy{n i:Nat}(hi:i<n):(a.take n).getD i (⟨⟨false,[]⟩,⟨false,[]⟩⟩:Qr)=a.getD i (⟨⟨false,[]⟩,⟨false,[]⟩⟩:Qr):=by
 simp[List.getD,List.getElem?_take,hi]
theorem yy(q:Qr):(⟨⟨(q.num.neg,q.num.w,q.den.neg,q.den.w).1,(q.num.neg,q.num.w,q.den.neg,q.den.w).2.1⟩,⟨(q.num.neg,q.num.w,q.den.neg,q.den.w).2.2.1,(q.num.neg,q.num.w,q.den.neg,q.den.w).2.2.2⟩⟩:Qr)=q:=by cases q;rfl
theorem Qn(ha:cC L a f)(hb:cC M b g)(h:(min a.length b.length+2)*(L+M+1)<=35184372088768):gO a b=some (qn (cu (λi=>f i*g i) (min a.length b.length)))/\ik (min a.length b.length*(L+M+1)+1) (qn (cu (λi=>f i*g i) (min a.length b.length))) (cu (λi=>f i*g i) (min a.length b.length)):=by
 have hs:∀n,FQ (n*(L+M+1)+1) (cu (λi=>f i*g i) n):=λn=>Jw (λi _=>(ha.fq i).mul (hb.fq i));refine⟨?_,(hs _).rep (by omega)⟩;unfold gO;have hm:∀n:Nat,n<=min a.length b.length->n*(L+M+1)<=min a.length b.length*(L+M+1):=λn hn=>Nat.mul_le_mul_right _ hn;rw[Nat.add_mul]at h;refine aA Y<|aA Y<|aA (congrArg some (Jx a b))<|aA (m8 (by omega))<|aA (m8 (by omega)) ?_;rw[show max (a.take (min a.length b.length)).length (b.take (min a.length b.length)).length=min a.length b.length by simp only[List.length_take];omega];refine qf (λj=>((qn (cu (λi=>f i*g i) j)).num.neg,(qn (cu (λi=>f i*g i) j)).num.w,(qn (cu (λi=>f i*g i) j)).den.neg,(qn (cu (λi=>f i*g i) j)).den.w)) Y (λj hj=>?_) Y;have hmj:=hm j (by omega);have e1:=afi (ha.gd j) (hb.gd j) ((hs j).rep (by omega)) Y (by omega);simp only[cu];generalize hq0:qn (cu (λi=>f i*g i) j)=q0 at e1⊢;generalize hq3:qn (cu (λi=>f i*g i) j+f j*g j)=q3 at e1⊢;rw[<-Jy (a:=a) hj,<-Jy (a:=b) hj]at e1;generalize (a.take (min a.length b.length)).getD j (⟨⟨false,[]⟩,⟨false,[]⟩⟩:Qr)=q1 at e1⊢;generalize (b.take (min a.length b.length)).getD j (⟨⟨false,[]⟩,⟨false,[]⟩⟩:Qr)=q2 at e1⊢;obtain⟨⟨_,_⟩,⟨_,_⟩⟩:=q0;obtain⟨⟨_,_⟩,⟨_,_⟩⟩:=q1;obtain⟨⟨_,_⟩,⟨_,_⟩⟩:=q2
 obtain⟨⟨_,_⟩,⟨_,_⟩⟩:=q3;exact aA Y<|aA Y<|aA e1 Y
theorem SC(ha:cC L a f)(hb:cC M b g)(hL:L<=35184372088788)(hM:M<=35184372088788):dy a b=some (jg f g (max a.length b.length)):=by
 unfold dy;generalize max a.length b.length=n;refine aA (a:=if jg f g n≠0 then .inr (jg f g n)else .inl ()) ?_ ?_
 ·induction n with
  |zero=>rfl
  |succ n ih=>
   rw[ko];refine aA ih ?_;by_cases h0:jg f g n=0
   ·have hl:jg f g (n+1)=nI (f n) (g n):=by rw[jg,if_neg (by simpa using h0)]
    rw[hl,if_neg (show ¬jg f g n≠0 by simpa using h0)];have e1:=(ha.gd n).UQ (hb.gd n) hL hM;generalize a.getD n (⟨⟨false,[]⟩,⟨false,[]⟩⟩:Qr)=q1 at e1⊢;generalize b.getD n (⟨⟨false,[]⟩,⟨false,[]⟩⟩:Qr)=q2 at e1⊢;obtain⟨⟨_,_⟩,⟨_,_⟩⟩:=q1;obtain⟨⟨_,_⟩,⟨_,_⟩⟩:=q2;refine aA Y<|aA Y<|aA e1<|aA Y ?_;by_cases h1:nI (f n) (g n)=0
    ·rw[if_neg (by simpa using h1)];exact bQ (decide_eq_false (by simpa using h1)) Y
    rw[if_pos h1];exact bX (decide_eq_true h1) Y
   have hl:jg f g (n+1)=jg f g n:=by rw[jg,if_pos h0]
   rw[hl,if_pos h0]
 by_cases h0:jg f g n=0
 ·rw[if_neg (by simpa using h0),h0]
 rw[if_pos h0]
theorem Qo(ha:cC L a f)(hb:cC M b g)(h:L+M<=35184372088768):dy a b=some (jg f g (max a.length b.length)):=SC ha hb (by omega) (by omega)
theorem Yb(ha:cC L a f)(hb:cC M b g)(hL:L<=35184372088788)(hM:M<=35184372088788):dU a b=some (decide (∀i,i<max a.length b.length->f i=g i)):=by
 unfold dU;refine aA (SC ha hb hL hM)<|aA Y ?_;congr 1;rw[decide_eq_decide];exact r9
theorem Yc(ha:cC L a f)(hb:cC M b g)(hL:L<=35184372088788)(hM:M<=35184372088788)(e:∀i,f i=g i):dU a b=some true:=by
 rw[Yb ha hb hL hM,decide_eq_true (λi _=>e i)]
theorem Yd(ha:cC L a f)(hb:cC M b g)(h:L+M<=35184372088768):dU a b=some (decide (∀i,i<max a.length b.length->f i=g i)):=Yb ha hb (by omega) (by omega)
theorem vgt(ha:cC L a f)(hb:cC M b g)(h:L+M<=35184372088768)(la:a.length<=1000000)(lb:b.length<=1000000):dB a b=some (match Qm f g (max a.length b.length)with|some k=>((k:Int),true)|none=>(0,false)):=by
 unfold dB;have hn:max a.length b.length<=1000000:=by omega
 generalize max a.length b.length=n at hn⊢;refine aA (a:=match Qm f g n with|some k=>.inr ((k:Int),true)|none=>.inl (n:Int)) ?_ ?_
 ·induction n with
  |zero=>rfl
  |succ n ih=>
   rw[ko];refine aA (ih (by omega)) ?_;rw[Qm];cases h0:Qm f g n with
   |some k=>rfl
   |none=>
    have e1:=(ha.gd n).cmp (hb.gd n) h;generalize a.getD n (⟨⟨false,[]⟩,⟨false,[]⟩⟩:Qr)=q1 at e1⊢;generalize b.getD n (⟨⟨false,[]⟩,⟨false,[]⟩⟩:Qr)=q2 at e1⊢;obtain⟨⟨_,_⟩,⟨_,_⟩⟩:=q1;obtain⟨⟨_,_⟩,⟨_,_⟩⟩:=q2;refine aA Y<|aA Y<|aA e1<|aA Y ?_;by_cases h1:g n<f n
    ·rw[if_pos h1];exact bX (decide_eq_true (Bb.2 h1)) Y
    rw[if_neg h1];refine bQ (decide_eq_false (λe=>h1 (Bb.1 e)))<|aA Y ?_;rw[bZ (by omega)]
 cases Qm f g n<;>rfl
end ops
end
section
open Go.Fw
theorem uN{l:List Nat}(h:GJ l):nP l<65536^l.length:=eT l h.1
theorem tm{a:Nat}:Int.tmod (a:Int) 65536=((a%65536:Nat):Int):=by
 rw[Int.tmod_eq_emod_of_nonneg (by omega)];omega
theorem td{a:Nat}:Int.tdiv (a:Int) 65536=((a/65536:Nat):Int):=by
 rw[Int.tdiv_eq_ediv_of_nonneg (by omega)];omega
theorem Jz(l k:List Nat)(hl:GJ l)(hk:GJ k):jb (zl l) (zl k)=some (xj (nP l) (nP k)):=by
 unfold jb;simp only[bF];rw[dV,dV,show max (l.length:Int) (k.length:Int)=((max l.length k.length:Nat):Int) by omega,ct (by have:=hl.2;have:=hk.2;omega) (by have:=hl.2;have:=hk.2;omega)];have h1:nP l<65536^(max l.length k.length):=Nat.lt_of_lt_of_le (uN hl) (Nat.pow_le_pow_right (by decide) (by omega));have h2:nP k<65536^(max l.length k.length):=Nat.lt_of_lt_of_le (uN hk) (Nat.pow_le_pow_right (by decide) (by omega));have hm:max l.length k.length<=100000000000:=by have:=hl.2;have:=hk.2;omega
 have a1:=yw hl.1;have a2:=yw hk.1;generalize nP l=V at*;generalize nP k=W at*;generalize max l.length k.length=n at*;refine gR (λy=>∃m:Nat,y=(m:Int)-1/\m<=n/\V/65536^m=W/65536^m) (λe=>(∃c,e=.inl c/\V=W)\/e=.inr (xj V W)) (λy=>(y+1).toNat) ?_ ⟨n,Y,Nat.le_refl _,by rw[Nat.div_eq_of_lt h1,Nat.div_eq_of_lt h2]⟩ ?_
 ·rintro _ ⟨m,rfl,hmn,he⟩;rcases m with _|m
  ·right;refine⟨_,Y,.inl ⟨_,Y,?_⟩⟩;simpa using he
  rw[show((m+1:Nat):Int)-1=(m:Int) by omega,show decide ((0:Int)<=(m:Int))=true by simp,fy,a1,bF,a2,bF];rcases CL he with⟨hd,hq⟩|⟨hd,hlt⟩|⟨hd,hlt⟩
  ·left;rw[hd,show decide (((W/65536^m%65536:Nat):Int)<((W/65536^m%65536:Nat):Int))=false by simp,fL,bF,bF,show decide (((W/65536^m%65536:Nat):Int)<((W/65536^m%65536:Nat):Int))=false by simp,fL,ct (by omega) (by omega)];exact⟨_,Y,⟨m,Y,by omega,hq⟩,by omega⟩
  ·right;rw[show decide (((V/65536^m%65536:Nat):Int)<((W/65536^m%65536:Nat):Int))=true by rw[decide_eq_true_eq];omega,fy];exact⟨_,Y,.inr (by rw[qi hlt])⟩
  right;rw[show decide (((V/65536^m%65536:Nat):Int)<((W/65536^m%65536:Nat):Int))=false by rw[decide_eq_false_iff_not];omega,fL,bF,bF,show decide (((W/65536^m%65536:Nat):Int)<((V/65536^m%65536:Nat):Int))=true by rw[decide_eq_true_eq];omega,fy];exact⟨_,Y,.inr (by rw[sL hlt])⟩
 rintro e (⟨c,rfl,rfl⟩|rfl)
 ·rw[vL]
 rfl
theorem Qp(l k:List Nat)(hl:GJ l)(hk:GJ k):jY (zl l) (zl k)=some (zl (can 65536 (nP l+nP k))):=by
 unfold jY;have h1:nP l<65536^(max l.length k.length):=Nat.lt_of_lt_of_le (uN hl) (Nat.pow_le_pow_right (by decide) (by omega));have h2:nP k<65536^(max l.length k.length):=Nat.lt_of_lt_of_le (uN hk) (Nat.pow_le_pow_right (by decide) (by omega));have hm:max l.length k.length<=100000000000:=by have:=hl.2;have:=hk.2;omega
 have a1:=yw hl.1;have a2:=yw hk.1;rw[dV,dV];generalize nP l=V at*;generalize nP k=W at*;refine gR (λs=>∃i:Nat,s=(((zj 65536 V W i:Nat):Int),(i:Int),zl (dR 65536 i (V+W)))/\i<=max l.length k.length+1) (λe=>∃i,e=zl (dR 65536 i (V+W))/\V+W<65536^i/\i<=max l.length k.length+1) (λs=>max l.length k.length+1-s.2.1.toNat) ?_ ⟨0,by rw[A4];rfl,by omega⟩ ?_
 ·rintro _ ⟨i,rfl,hi⟩;have hc:=A0 (B:=65536) (by decide) V W i;have KI:=A3 (B:=65536) (by decide) V W i;have Cd:=zk (B:=65536) (by decide) V W i;have d1:=Nat.mod_lt (V/65536^i) (show 0<65536 by decide);have d2:=Nat.mod_lt (W/65536^i) (show 0<65536 by decide);simp only[bF,cm];have uU:∀(K:Bool->Option ((Int×Int×List Int)⊕List Int)),(((bif decide ((i:Int)<(l.length:Int))then some true else some (decide ((i:Int)<(k.length:Int)))):Option Bool).bind λc=>((bif c then some true else some (decide ((0:Int)<((zj 65536 V W i:Nat):Int)))):Option Bool).bind K)=K (decide (i<max l.length k.length\/0<zj 65536 V W i)):=by
   intro K;by_cases q1:i<l.length
   ·have:i<max l.length k.length:=by omega
    simp[q1,this]
   by_cases q2:i<k.length
   ·have:i<max l.length k.length:=by omega
    simp[q1,q2,this]
   have:¬i<max l.length k.length:=by omega
   simp[q1,q2,this]
  rw[uU];by_cases GD:i<max l.length k.length\/0<zj 65536 V W i
  ·left;have hi':i<max l.length k.length+1:=by
    rcases Nat.lt_or_ge i (max l.length k.length+1)with h|h
    ·exact h
    have hie:i=max l.length k.length+1:=by omega
    have hp:65536^i=65536^(max l.length k.length)*65536:=by rw[hie,Nat.pow_succ]
    have g3:=Ec (B:=65536) (V:=V) (W:=W) (k:=i) (by omega) (by omega);rw[Nat.div_eq_of_lt (by omega)]at g3;omega
   rw[show decide (i<max l.length k.length\/0<zj 65536 V W i)=true by rw[decide_eq_true_eq];exact GD,fy,a1,bF,a2,bF,kL (by omega),kL (by omega),tm,td,KI,Cd,uI (by decide) (by rw[dV,bB];omega),bF,gD (by have:=A0 (B:=65536) (by decide) V W (i+1);omega),bZ (by omega)];refine⟨_,Y,⟨i+1,?_,by omega⟩,by simp only[];omega⟩;rw[gS,El,Ic]
  right;rw[show decide (i<max l.length k.length\/0<zj 65536 V W i)=false by rw[decide_eq_false_iff_not];exact GD,fL];refine⟨_,Y,i,Y,?_,hi⟩;have g1:V<65536^i:=Nat.lt_of_lt_of_le h1 (Nat.pow_le_pow_right (by decide) (by omega));have g2:W<65536^i:=Nat.lt_of_lt_of_le h2 (Nat.pow_le_pow_right (by decide) (by omega));have g3:=Ec (B:=65536) g1 g2;rcases Nat.lt_or_ge (V+W) (65536^i)with h|h
  ·exact h
  have:=Nat.div_pos h (Nat.pow_pos (by decide));omega
 rintro _ ⟨i,rfl,hlt,hi⟩;rw[jD _ (by rw[bB];omega),bF,mc (by decide) hlt]
theorem JA(l k:List Nat)(hl:GJ l)(hk:GJ k)(hle:nP k<=nP l):gW (zl l) (zl k)=some (zl (can 65536 (nP l-nP k))):=by
 unfold gW;have h1:=uN hl;have hm:=hl.2;have a1:=yw hl.1;have a2:=yw hk.1;rw[dV];generalize nP l=V at*;generalize nP k=W at*;refine bH (λi=>(((1-xh 65536 V W i:Nat):Int),(i:Int),zl (dR 65536 i (V-W)))) l.length (zl (dR 65536 l.length (V-W))) ?_ (λi hi=>?_) ?_ ?_
 ·rw[A5];rfl
 ·have hc:=HZ (B:=65536) (by decide) V W i;have KI:=A6 (B:=65536) (by decide) V W i;have Cd:=Ed (B:=65536) (by decide) hle i;have d1:=Nat.mod_lt (V/65536^i) (show 0<65536 by decide);have d2:=Nat.mod_lt (W/65536^i) (show 0<65536 by decide);simp only[bF,cm];rw[show decide ((i:Int)<(l.length:Int))=true by simp[hi],fy,a1,bF,a2,bF];rw[<-KI,gS,El,Ic,<-Cd];generalize V/65536^i%65536=a at*;generalize W/65536^i%65536=b at*;generalize xh 65536 V W i=c at*;rw[ct (x:=(a:Int)-(b:Int)) (by omega) (by omega),ct (x:=(a:Int)-(b:Int)-((1-c:Nat):Int)) (by omega) (by omega)];by_cases hn:(a:Int)-(b:Int)-((1-c:Nat):Int)<0
  ·rw[show decide ((a:Int)-(b:Int)-((1-c:Nat):Int)<0)=true by rw[decide_eq_true_eq];exact hn,fy,ct (by omega) (by omega),uI (by decide) (by rw[dV,bB];omega),bF,bZ (by omega)];rw[show(a:Int)-(b:Int)-((1-c:Nat):Int)+65536=(((a+(65536-1-b)+c)%65536:Nat):Int) by omega,show(1-(a+(65536-1-b)+c)/65536)=1 by omega];rfl
  rw[show decide ((a:Int)-(b:Int)-((1-c:Nat):Int)<0)=false by rw[decide_eq_false_iff_not];exact hn,fL,uI (by decide) (by rw[dV,bB];omega),bF,bZ (by omega)];rw[show(a:Int)-(b:Int)-((1-c:Nat):Int)=(((a+(65536-1-b)+c)%65536:Nat):Int) by omega,show(1-(a+(65536-1-b)+c)/65536)=0 by omega];rfl
 ·simp
 rw[jD _ (by rw[bB];omega),bF,mc (by decide) (by omega)]
theorem CP(l:List Nat)(hl:∀x∈l,x<65536)(hn:l.length<=3):fm (zl l)=some ((nP l:Nat):Int):=by
 unfold fm;simp only[bF];have hV:nP l<65536^l.length:=eT l hl;have hp:65536^l.length<=65536^3:=Nat.pow_le_pow_right (by decide) hn;rw[show(65536:Nat)^3=281474976710656 by decide]at hp;rw[dV,ct (by omega) (by omega)];refine bH (λj=>(((nP l/65536^(l.length-j):Nat):Int),(l.length:Int)-1-(j:Int))) l.length ((nP l:Nat):Int) ?_ (λj hj=>?_) ?_ Y
 ·rw[show l.length-0=l.length by omega,Nat.div_eq_of_lt hV];simp
 ·obtain⟨m,hm⟩:∃m,l.length=m+j+1:=⟨l.length-j-1,by omega⟩;have hg:=kN hl (i:=m) (by omega);have hst:=A7 65536 (nP l) m;have UN:nP l/65536^m<=nP l:=Nat.div_le_self _ _;rw[show l.length-j=m+1 by omega,show l.length-(j+1)=m by omega,show(l.length:Int)-1-(j:Int)=(m:Int) by omega,show(l.length:Int)-1-((j+1:Nat):Int)=(m:Int)-1 by omega];have hd:=Nat.mod_lt (nP l/65536^m) (show 0<65536 by decide);simp only[];rw[show decide ((0:Int)<=(m:Int))=true by simp,fy,bP (xl hg),bF];generalize nP l/65536^(m+1)=c at*;generalize nP l/65536^m=d at*;rw[ct (x:=(c:Int)*65536) (by omega) (by omega),ct (x:=(c:Int)*65536+((d%65536:Nat):Int)) (by omega) (by omega),ct (x:=(m:Int)-1) (by omega) (by omega),show(c:Int)*65536+((d%65536:Nat):Int)=(d:Int) by omega]
 simp only[];rw[show decide ((0:Int)<=(l.length:Int)-1-(l.length:Int))=false by rw[decide_eq_false_iff_not];omega,fL,Nat.sub_self,Nat.pow_zero,Nat.div_one]
theorem Gp(x:Nat)(hx:x<281474976710656):jl (x:Int)=some (zl (can 65536 x)):=by
 unfold jl;simp only[bF];rw[tm,td,gD (by omega),tm,td,gD (by omega)];have:[((x%65536:Nat):Int),((x/65536%65536:Nat):Int),((x/65536/65536:Nat):Int)]=zl [x%65536,x/65536%65536,x/65536/65536]:=rfl;rw[this,jD _ (by simp),bF,jd (B:=65536) (by decide) (by intro y hy;simp at hy;omega)];congr 3;simp[val];omega
theorem CQ(l:List Nat)(f:Nat)(hl:GJ l)(hf:f<65536):fo (zl l) (f:Int)=some (zl (can 65536 (nP l*f))):=by
 unfold fo;have h1:=uN hl;have hm:=hl.2;have a1:=yw hl.1;rw[dV];generalize nP l=V at*;have tX:=λi=>NL (B:=65536) (V:=V) (f:=f) (e:=0) (by decide) hf (by decide) i;refine gR (λs=>∃i:Nat,s=(((sC 65536 V f 0 i:Nat):Int),(i:Int),zl (dR 65536 i (V*f)))/\i<=l.length+1) (λe=>∃i,e=zl (dR 65536 i (V*f))/\V*f<65536^i/\i<=l.length+1) (λs=>l.length+1-s.2.1.toNat) ?_ ⟨0,by rw[Ef];rfl,by omega⟩ ?_
 ·rintro _ ⟨i,rfl,hi⟩;have hc:=tX i;have hc1:=tX (i+1);have KI:=Eg (B:=65536) (by decide) V f 0 i;have Cd:=H8 (B:=65536) (by decide) V f 0 i;have d1:=Nat.mod_lt (V/65536^i) (show 0<65536 by decide);have hp:V/65536^i%65536*f<=65535*65535:=Nat.mul_le_mul (by omega) (by omega);rw[Nat.add_zero]at Cd;simp only[bF,cm];have uU:∀(K:Bool->Option ((Int×Int×List Int)⊕List Int)),(((bif decide ((i:Int)<(l.length:Int))then some true else some (decide ((0:Int)<((sC 65536 V f 0 i:Nat):Int)))):Option Bool).bind K)=K (decide (i<l.length\/0<sC 65536 V f 0 i)):=by
   intro K;by_cases q1:i<l.length
   ·simp[q1]
   simp[q1]
  rw[uU];by_cases GD:i<l.length\/0<sC 65536 V f 0 i
  ·left;have hi':i<l.length+1:=by
    rcases Nat.lt_or_ge i (l.length+1)with h|h
    ·exact h
    have hie:i=l.length+1:=by omega
    have g3:=H9 (B:=65536) (V:=V) (f:=f) (e:=0) (i:=i) (Nat.lt_of_lt_of_le h1 (Nat.pow_le_pow_right (by decide) (by omega)));rw[Nat.add_zero,Nat.div_eq_of_lt]at g3
    ·omega
    rw[hie,Nat.pow_succ];exact Nat.mul_lt_mul'' h1 hf
   rw[show decide (i<l.length\/0<sC 65536 V f 0 i)=true by rw[decide_eq_true_eq];exact GD,fy,a1,bF,<-Int.natCast_mul,gD (by omega),kL (by omega),tm,td,KI,Cd,uI (by decide) (by rw[dV,bB];omega),bF,gD (by omega),bZ (by omega)];refine⟨_,Y,⟨i+1,?_,by omega⟩,by simp only[];omega⟩;rw[gS,El,Ic]
  right;rw[show decide (i<l.length\/0<sC 65536 V f 0 i)=false by rw[decide_eq_false_iff_not];exact GD,fL];refine⟨_,Y,i,Y,?_,hi⟩;have g3:=H9 (B:=65536) (V:=V) (f:=f) (e:=0) (i:=i) (Nat.lt_of_lt_of_le h1 (Nat.pow_le_pow_right (by decide) (by omega)));rw[Nat.add_zero]at g3;rcases Nat.lt_or_ge (V*f) (65536^i)with h|h
  ·exact h
  have:=Nat.div_pos h (Nat.pow_pos (by decide));omega
 rintro _ ⟨i,rfl,hlt,hi⟩;rw[jD _ (by rw[bB];omega),bF,mc (by decide) hlt]
end
section
open Go.Fw
theorem ff(v:Nat):nP (can 65536 v)=v:=jo (by decide) v
theorem JB{v n:Nat}(h:v<65536^n)(hn:n<=100000000000):GJ (can 65536 v):=⟨λ_ hx=>eJ (by decide) hx,Nat.le_trans ((bR (by decide)).2 h) hn⟩
end
section
open Go.Fw
theorem td2{a:Nat}:Int.tdiv (a:Int) 2=((a/2:Nat):Int):=by
 rw[Int.tdiv_eq_ediv_of_nonneg (by omega)];omega
theorem Qq(a b:Nat):decide (xj a b<=0)=decide (a<=b):=by
 rcases Nat.lt_trichotomy a b with h|h|h
 ·rw[qi h];simp;omega
 ·rw[h,vL];simp
 rw[sL h];simp;omega
theorem N6{B:Nat}(hB:0<B){d:Nat}(hd:0<d)(V m:Nat):(V/B^(m+1)%d*B+V/B^m%B)/d=V/d/B^m%B:=by
 have h1:=Sv (B:=B) hd V m;have h2:=P1 (B:=B) hB hd V m;rw[Nat.div_div_eq_div_mul V d,Nat.mul_comm d,<-Nat.div_div_eq_div_mul,h1,Nat.mul_add_mod];symm;apply Nat.mod_eq_of_lt;rw[Nat.div_lt_iff_lt_mul hd,Nat.mul_comm B d];exact h2
theorem Gq{a b:Nat}(h:b≠0)(ha:a<=9223372036854775807):qB (a:Int) (b:Int)=some ((a/b:Nat):Int):=by
 unfold qB;rw[if_neg (by omega),Int.tdiv_eq_ediv_of_nonneg (by omega),<-Int.natCast_ediv,gD (Nat.le_trans (Nat.div_le_self _ _) ha)]
theorem Gr{a b:Nat}(h:b≠0):Bv (a:Int) (b:Int)=some ((a%b:Nat):Int):=by
 unfold Bv;rw[if_neg (by omega),Int.tmod_eq_emod_of_nonneg (by omega),<-Int.natCast_emod]
theorem N7(n:Nat):List.replicate n (0:Int)=zl (dR 65536 n 0):=by rw[o4,zl,List.map_replicate];rfl
theorem Gs{W X:Nat}(hW:0<W){k:List Nat}(hk:GJ k)(hkv:nP k=W){xs:List Nat}(hx:GJ xs)(hxv:nP xs=X)(H:Nat)(hH:0<H)(hH2:H<=65536)(hXH:X<H*W){R:Type}(f:Int->Option R)(r:R)(hf:f ((X/W:Nat):Int)=some r)(It:k.length<=90000000000):
  (b8 (λ(Sf:Int×Int)=>
               match Sf with
               |⟨kE,ny⟩=>
                (show Option ((Int×Int)⊕(Int))from
                 (bif(decide ((1:Int)<(IntKind.i64.wrap (ny-kE))))then
                   (fo (zl k) (IntKind.i64.wrap (Int.tdiv (IntKind.i64.wrap (kE+ny)) 2))).bind λHf=>
                   (jb Hf (zl xs)).bind λBD=>
                   (bif(decide ((BD:Int)<=0))then
                     some (.inl (IntKind.i64.wrap (Int.tdiv (IntKind.i64.wrap (kE+ny)) 2),ny))
                    else
                     some (.inl (kE,IntKind.i64.wrap (Int.tdiv (IntKind.i64.wrap (kE+ny)) 2))))
                  else
                   some (.inr kE)))) ((0:Int),(H:Int))).bind f=some r:=by
 refine gR (λs=>∃lo hi:Nat,s=((lo:Int),(hi:Int))/\lo<hi/\hi<=65536/\lo*W<=X/\X<hi*W) (λe=>e=((X/W:Nat):Int)) (λs=>(s.2-s.1).toNat) ?_ ⟨0,H,Y,hH,hH2,by simp,hXH⟩ (λe he=>by rw[he];exact hf);rintro _ ⟨lo,hi,rfl,h1,h2,h3,h4⟩;simp only[];rw[ct (x:=(hi:Int)-(lo:Int)) (by omega) (by omega)];by_cases GD:1<hi-lo
 ·left;obtain⟨mid,afk⟩:∃mid,(lo+hi)/2=mid:=⟨_,Y⟩;have hml:nP k*mid<65536^(k.length+1):=by rw[Nat.pow_succ];exact Nat.mul_lt_mul'' (uN hk) (by omega)
  rw[show decide ((1:Int)<(hi:Int)-(lo:Int))=true by rw[decide_eq_true_eq];omega,fy,kL (by omega),td2,afk,gD (by omega),CQ _ _ hk (by omega),bF,Jz _ _ (JB hml (by omega)) hx,bF,Qq,ff,hkv,hxv];by_cases hle:W*mid<=X
  ·rw[show decide (W*mid<=X)=true by simp[hle],fy];exact⟨_,Y,⟨mid,hi,Y,by omega,h2,by rw[Nat.mul_comm];exact hle,h4⟩,by simp only[];omega⟩
  rw[show decide (W*mid<=X)=false by simp;omega,fL];exact⟨_,Y,⟨lo,mid,Y,by omega,by omega,h3,by rw[Nat.mul_comm];omega⟩,by simp only[];omega⟩
 right;rw[show decide ((1:Int)<(hi:Int)-(lo:Int))=false by rw[decide_eq_false_iff_not];omega,fL];refine⟨_,Y,?_⟩;have:hi=lo+1:=by omega
 subst this;have:X/W=lo:=by
  rw[Nat.div_eq_iff hW];rw[Nat.add_mul,Nat.one_mul]at h4;omega
 rw[this]
theorem JC(V W:Nat)(hW:W≠0)(hV:(can 65536 V).length<=80000000000)(hWl:(can 65536 W).length<=80000000000):jZ (zl (can 65536 V)) (zl (can 65536 W))=some (zl (can 65536 (V/W)),zl (can 65536 (V%W))):=by
 have HQ:GJ (can 65536 V):=⟨λ_ hx=>eJ (by decide) hx,by omega⟩;have Qs:GJ (can 65536 W):=⟨λ_ hx=>eJ (by decide) hx,by omega⟩;have Ye:=cj (B:=65536) (by decide) V;have Qt:=cj (B:=65536) (by decide) W;have Qu:0<W:=by omega
 unfold jZ;simp only[bF,cm,dV];obtain⟨n,hn⟩:∃n,(can 65536 V).length=n:=⟨_,Y⟩;by_cases h3:n<=3/\(can 65536 W).length<=3
 ·rw[hn,show decide ((n:Int)<=3)=true by rw[decide_eq_true_eq];omega,fy,bF,show decide (((can 65536 W).length:Int)<=3)=true by rw[decide_eq_true_eq];omega,fy,CP _ HQ.1 (by omega),bF,CP _ Qs.1 (by omega),bF,ff,ff];have hp:V<281474976710656:=by
   rw[hn]at Ye;have h2:65536^n<=65536^3:=Nat.pow_le_pow_right (by decide) h3.1;rw[show(65536:Nat)^3=281474976710656 by decide]at h2;omega
  have hq:V/W<=V:=Nat.div_le_self _ _;have hr:V%W<=V:=Nat.mod_le _ _;rw[Gq hW (by omega),bF,Gp _ (by omega),bF,bF,bF,Gr hW,bF,Gp _ (by omega),bF]
 have uU:(((bif decide ((n:Int)<=3)then some (decide (((can 65536 W).length:Int)<=3))else some false):Option Bool))=some false:=by
  by_cases q1:n<=3
  ·have q2:¬(can 65536 W).length<=3:=λh=>h3 ⟨q1,h⟩;rw[show decide (((can 65536 W).length:Int)<=3)=false by rw[decide_eq_false_iff_not];omega];exact vR _ _
  rw[show decide ((n:Int)<=3)=false by rw[decide_eq_false_iff_not];omega,fL]
 rw[hn]at Ye hV;have hQ:V/W<65536^n:=Nat.lt_of_le_of_lt (Nat.div_le_self _ _) Ye;rw[hn,uU,bF,fL,qc (by decide) (by omega),bF,N7];have hlen:(can 65536 W).length≠0:=λe=>hW (vK (by decide) (List.length_eq_zero_iff.1 e));by_cases h1:(can 65536 W).length=1
 ·have hWs:W<65536:=by rw[h1]at Qt;simpa using Qt
  have hg0:(can 65536 W)[0]? =some W:=by rw[sJ (by decide) (by omega)];simp;exact hWs
  have XP:=sI (xl hg0);rw[h1,show decide (((1:Nat):Int)=1)=true by simp,fy,ct (by omega) (by omega)];refine bH (λj=>(((V/65536^(n-j)%W:Nat):Int),(n:Int)-1-(j:Int),zl (dR 65536 n (V/W/65536^(n-j)*65536^(n-j))))) n (((V%W:Nat):Int),zl (dR 65536 n (V/W))) ?_ (λj hj=>?_) ?_ ?_
  ·rw[Nat.sub_zero,Nat.div_eq_of_lt Ye,Nat.div_eq_of_lt hQ];simp
  ·obtain⟨m,hm⟩:∃m,n=m+j+1:=⟨n-j-1,by omega⟩;have hg:(can 65536 V)[m]? =some (V/65536^m%65536):=sJ (by decide) (by omega);have H7:=N6 (B:=65536) (by decide) Qu V m;have F9:=NM (B:=65536) (d:=W) V m;have hrl:=Nat.mod_lt (V/65536^(m+1)) Qu;have UN:=Nat.mod_lt (V/65536^m) (show 0<65536 by decide);have hput:=Ek (B:=65536) (by decide) (N:=n) (k:=m) (by omega) (V/W);rw[show n-j=m+1 by omega,show n-(j+1)=m by omega,show(n:Int)-1-(j:Int)=(m:Int) by omega,show(n:Int)-1-((j+1:Nat):Int)=(m:Int)-1 by omega];simp only[];rw[show decide ((0:Int)<=(m:Int))=true by simp,fy,bP (xl hg),bF,XP,bF];rw[<-H7]at hput;rw[F9,<-hput];generalize V/65536^(m+1)%W=r at*;generalize V/65536^m%65536=d at*;rw[ct (x:=(r:Int)*65536) (by omega) (by omega),ct (x:=(r:Int)*65536+(d:Int)) (by omega) (by omega),show(r:Int)*65536+(d:Int)=((r*65536+d:Nat):Int) by omega,Gq hW (by omega),bF,bF,Gr hW,bF,fe (by rw[dV,bB];omega),bF,iH (by rw[dV,bB];omega),bF,ct (x:=(m:Int)-1) (by omega) (by omega),N1]
  ·simp only[];rw[show decide ((0:Int)<=(n:Int)-1-(n:Int))=false by rw[decide_eq_false_iff_not];omega,fL,Nat.sub_self,Nat.pow_zero,Nat.mul_one,Nat.div_one,Nat.div_one]
  simp only[];rw[jD _ (by rw[bB];omega),bF,mc (by decide) hQ,show[((V%W:Nat):Int)]=zl [V%W]from Y,jD _ (by simp),bF];have hr:=Nat.mod_lt V Qu;rw[jd (B:=65536) (l:=[V%W]) (by decide) (by intro y hy;simp at hy;omega)];simp[val]
 rw[show decide (((can 65536 W).length:Int)=1)=false by rw[decide_eq_false_iff_not];omega,fL,ct (by omega) (by omega)];refine bH (λj=>(zl (can 65536 (V/65536^(n-j)%W)),(n:Int)-1-(j:Int),zl (dR 65536 n (V/W/65536^(n-j)*65536^(n-j))))) n (zl (can 65536 (V%W)),zl (dR 65536 n (V/W))) ?_ (λj hj=>?_) ?_ ?_
 ·rw[Nat.sub_zero,Nat.div_eq_of_lt Ye,Nat.div_eq_of_lt hQ];simp[nD,zl]
 ·obtain⟨m,hm⟩:∃m,n=m+j+1:=⟨n-j-1,by omega⟩;have hg:(can 65536 V)[m]? =some (V/65536^m%65536):=sJ (by decide) (by omega);have H7:=N6 (B:=65536) (by decide) Qu V m;have F9:=NM (B:=65536) (d:=W) V m;have hrl:=Nat.mod_lt (V/65536^(m+1)) Qu;have UN:=Nat.mod_lt (V/65536^m) (show 0<65536 by decide);have Zz:=P1 (B:=65536) (by decide) Qu V m;have hput:=Ek (B:=65536) (by decide) (N:=n) (k:=m) (by omega) (V/W);rw[show n-j=m+1 by omega,show n-(j+1)=m by omega,show(n:Int)-1-(j:Int)=(m:Int) by omega,show(n:Int)-1-((j+1:Nat):Int)=(m:Int)-1 by omega];simp only[];rw[<-H7]at hput;rw[F9,<-hput,show decide ((0:Int)<=(m:Int))=true by simp,fy,bP (xl hg),bF];generalize V/65536^(m+1)%W=r at*;generalize V/65536^m%65536=d at*;obtain⟨X,hX⟩:∃X,r*65536+d=X:=⟨_,Y⟩;rw[hX]at Zz⊢;have hrc:(can 65536 r).length<=(can 65536 W).length:=(bR (by decide)).2 (Nat.lt_trans hrl Qt);have Vj:(can 65536 X).length<=(can 65536 W).length+1:=(bR (by decide)).2 (by rw[Nat.pow_succ];exact Nat.lt_trans Zz (Nat.mul_lt_mul_of_pos_right Qt (by decide)));have hval:val 65536 (d::can 65536 r)=X:=by
   show d+65536*val 65536 (can 65536 r)=X;rw[jo (by decide)];omega
  have DR:GJ (can 65536 X):=⟨λ_ hx=>eJ (by decide) hx,by omega⟩;rw[Uw (by decide) (by rw[dV];simp;omega),bF,show[(d:Int)]++zl (can 65536 r)=zl (d::can 65536 r)from rfl,jD _ (by simp;omega),bF,jd (B:=65536) (by decide) (by intro y hy;simp at hy;rcases hy with rfl|hy;exact UN;exact eJ (by decide) hy),hval];have hqW:W*(X/W)<=X:=Nat.mul_div_le X W;have afl:X/W<65536:=by rw[Nat.div_lt_iff_lt_mul Qu,Nat.mul_comm];exact Zz
  have NV:((fo (zl (can 65536 W)) ((X/W:Nat):Int)).bind λHg=>(gW (zl (can 65536 X)) Hg).bind λFR=>(tB (zl (dR 65536 n (V/W/65536^(m+1)*65536^(m+1)))) (m:Int)).bind λPs=>(stM (zl (dR 65536 n (V/W/65536^(m+1)*65536^(m+1)))) Ps ((X/W:Nat):Int)).bind λXi=>(some (.inl (FR,IntKind.i64.wrap ((m:Int)-1),Xi)):Option ((List Int×Int×List Int)⊕(List Int×List Int))))=some (.inl (zl (can 65536 (X%W)),(m:Int)-1,zl ((dR 65536 n (V/W/65536^(m+1)*65536^(m+1))).set m (X/W)))):=by
   rw[CQ _ _ Qs afl,bF,ff,JA _ _ DR (JB (Nat.lt_of_le_of_lt hqW (cj (by decide) X)) (by omega)) (by rw[ff,ff];exact hqW),bF,ff,ff,fe (by rw[dV,bB];omega),bF,iH (by rw[dV,bB];omega),bF,ct (x:=(m:Int)-1) (by omega) (by omega),N1,<-Nat.mod_eq_sub_mul_div]
  rw[dV];by_cases hsh:(can 65536 X).length<(can 65536 W).length
  ·rw[show decide (((can 65536 X).length:Int)<((can 65536 W).length:Int))=true by rw[decide_eq_true_eq];omega,fy];exact Gs Qu Qs (ff W) DR (ff X) 1 (by decide) (by decide) (by rw[Nat.one_mul];exact uK (by decide) hsh) _ _ NV (by omega)
  rw[show decide (((can 65536 X).length:Int)<((can 65536 W).length:Int))=false by rw[decide_eq_false_iff_not];omega,fL];exact Gs Qu Qs (ff W) DR (ff X) 65536 (by decide) (by decide) (by rw[Nat.mul_comm];exact Zz) _ _ NV (by omega)
 ·simp only[];rw[show decide ((0:Int)<=(n:Int)-1-(n:Int))=false by rw[decide_eq_false_iff_not];omega,fL,Nat.sub_self,Nat.pow_zero,Nat.mul_one,Nat.div_one,Nat.div_one]
 simp only[];rw[jD _ (by rw[bB];omega),bF,mc (by decide) hQ]
end
section
open Go.Fw
theorem vW{v:Nat}:(can 65536 v).length=0↔v=0:=by
 constructor
 ·intro h;exact vK (by decide) (List.length_eq_zero_iff.1 h)
 intro h;rw[h,nD];rfl
theorem N8{v:Nat}(h:(can 65536 v).length<=100000000000):GJ (can 65536 v):=⟨λ_ hx=>eJ (by decide) hx,h⟩
theorem Be{x:Zr}(h:Wr x):dQ x=some (zi x).sign:=by
 unfold dQ;simp only[iF h,bF,dV];have hz:=vW (v:=(zi x).natAbs);have hneg:x.neg=true->zi x<=0:=λe=>by unfold zi;rw[e];simp[sv]
 have hpos:x.neg=false->0<=zi x:=λe=>by unfold zi;rw[e];simp[sv]
 by_cases h0:zi x=0
 ·rw[h0];rfl
 rw[show decide (((can 65536 (zi x).natAbs).length:Int)=0)=false by rw[decide_eq_false_iff_not];omega,fL];cases hn:x.neg
 ·have:=hpos hn;rw[fL,Int.sign_eq_one_of_pos (by omega)]
 have:=hneg hn;rw[fy,Int.sign_eq_neg_one_of_neg (by omega)]
theorem Qv{x y:Zr}(hx:Wr x)(hy:Wr y):lW x y=some (jO (zi x) (zi y)):=by
 have cx:=hx.Qf;have cy:=hy.Qf;unfold lW;simp only[zeta',Be hx,Be hy,bF,iF hx,iF hy];rw[Jz _ _ (N8 (by omega)) (N8 (by omega)),ff,ff];simp only[bF];generalize zi x=i;generalize zi y=j;rw[A9];rcases Int.lt_trichotomy i 0 with h1|h1|h1<;>rcases Int.lt_trichotomy j 0 with h2|h2|h2
 ·rw[Int.sign_eq_neg_one_of_neg h1,Int.sign_eq_neg_one_of_neg h2,show(i.natAbs:Int)=-i by omega,show(j.natAbs:Int)=-j by omega,Gb];show some (IntKind.i64.wrap (0-jO j i))=_;rw[KA]
 ·rw[Int.sign_eq_neg_one_of_neg h1,show Int.sign j=0 by rw[h2];rfl,show jO i j=-1 from gE (by omega)];rfl
 ·rw[Int.sign_eq_neg_one_of_neg h1,Int.sign_eq_one_of_pos h2,show jO i j=-1 from gE (by omega)];rfl
 ·rw[show Int.sign i=0 by rw[h1];rfl,Int.sign_eq_neg_one_of_neg h2,show jO i j=1 from gG (by omega)];rfl
 ·rw[h1,h2];rfl
 ·rw[show Int.sign i=0 by rw[h1];rfl,Int.sign_eq_one_of_pos h2,show jO i j=-1 from gE (by omega)];rfl
 ·rw[Int.sign_eq_one_of_pos h1,Int.sign_eq_neg_one_of_neg h2,show jO i j=1 from gG (by omega)];rfl
 ·rw[Int.sign_eq_one_of_pos h1,show Int.sign j=0 by rw[h2];rfl,show jO i j=1 from gG (by omega)];rfl
 rw[Int.sign_eq_one_of_pos h1,Int.sign_eq_one_of_pos h2,show(i.natAbs:Int)=i by omega,show(j.natAbs:Int)=j by omega];rfl
theorem svz(x:Zr):sv x.neg (zi x).natAbs=zi x:=by rw[rZ];rfl
theorem Qw{x:Zr}(hx:Wr x):lX x=some (zn (-zi x)):=by
 have cx:=hx.Qf;unfold lX;simp only[bF,iF hx];rw[r6 _ _ (by omega),bF,A8,svz]
theorem Qx{x:Zr}(hx:Wr x):lY x=some (zn ((zi x).natAbs:Int)):=by
 have cx:=hx.Qf;unfold lY;simp only[bF,iF hx];rw[r6 _ _ (by omega),bF,je]
theorem JD{x y:Zr}(hx:Wr x)(hy:Wr y):j0 x y=some (Gc (zi x) (zi y)):=by
 have cx:=hx.Qf;have cy:=hy.Qf;unfold j0;simp only[bF,cm,iF hx,iF hy,dV];have ex:=svz x;have ey:=svz y;generalize (zi x).natAbs=a at*;generalize (zi y).natAbs=b at*;rw[<-ex,<-ey];generalize x.neg=n;generalize y.neg=m;by_cases h0:b=0
 ·subst h0;rw[show sv m 0=0 by cases m<;>rfl];rfl
 have tG:(can 65536 b).length≠0:=λh=>h0 (vW.1 h);have hm:a%b<b:=Nat.mod_lt _ (by omega);have la:=cj (B:=65536) (by decide) a;have lb:=cj (B:=65536) (by decide) b;obtain⟨e1,e2⟩:=NZ n m (a:=a) (show 0<b by omega);have hj:sv m b≠0:=by cases m<;>simp[sv]<;>omega
 have hq:(can 65536 (a/b)).length<=(can 65536 a).length:=(bR (by decide)).2 (Nat.lt_of_le_of_lt (Nat.div_le_self _ _) la);have hr:(can 65536 (a%b)).length<=(can 65536 b).length:=(bR (by decide)).2 (Nat.lt_trans hm lb);rw[show decide (((can 65536 b).length:Int)=0)=false by rw[decide_eq_false_iff_not];omega,fL,JC a b h0 (by omega) (by omega),bF,Gc,if_neg hj,e1,e2];simp only[dV];have hz:=vW (v:=a%b);have hK:∀c:Bool,(decide (n=true/\0<a%b)=c)->(bif c then(jY (zl (can 65536 (a/b))) [1]).bind λwc=>(gW (zl (can 65536 b)) (zl (can 65536 (a%b)))).bind λmL=>(dH (!(n==m)) wc).bind λx=>(dH false mL).bind λx_1=>some ((⟨x.neg,x.w⟩:Zr),(⟨x_1.neg,x_1.w⟩:Zr),(0:Int))
   else(dH (!(n==m)) (zl (can 65536 (a/b)))).bind λx=>(dH false (zl (can 65536 (a%b)))).bind λx_1=>some ((⟨x.neg,x.w⟩:Zr),(⟨x_1.neg,x_1.w⟩:Zr),(0:Int)))=
   some (zn (if n=true/\0<a%b then sv (!(n==m)) (a/b+1)else sv (!(n==m)) (a/b)),zn (if n=true/\0<a%b then((b-a%b:Nat):Int)else((a%b:Nat):Int)),0):=by
  intro c hc;cases c
  ·have N0:=of_decide_eq_false hc;rw[fL,if_neg N0,if_neg N0,r6 _ _ (by omega),bF,r6 _ _ (by omega),bF,je]
  have N0:=of_decide_eq_true hc;have X8:(can 65536 (a/b+1)).length<=(can 65536 a).length+1:=by
   apply(bR (by decide)).2;have:a/b<=a:=Nat.div_le_self _ _;rw[Nat.pow_succ];omega
  have hbr:(can 65536 (b-a%b)).length<=(can 65536 b).length:=(bR (by decide)).2 (by omega);rw[fy,if_pos N0,if_pos N0,show[(1:Int)]=zl [1]from Y,Qp _ _ (N8 (by omega)) ⟨by simp,by simp⟩,bF,ff,show nP [1]=1 by decide,JA _ _ (N8 (by omega)) (N8 (by omega)) (by rw[ff,ff];omega),bF,ff,ff,r6 _ _ (by omega),bF,r6 _ _ (by omega),bF,je]
 cases n
 ·rw[fL,bF];exact hK false (by simp)
 rw[fy,bF];refine hK _ ?_;simp only[true_and];by_cases h:0<a%b
 ·rw[show decide (0<a%b)=true by simp[h],show decide ((0:Int)<((can 65536 (a%b)).length:Int))=true by rw[decide_eq_true_eq];omega]
 rw[show decide (0<a%b)=false by simp[h],show decide ((0:Int)<((can 65536 (a%b)).length:Int))=false by rw[decide_eq_false_iff_not];omega]
end
section
open Go.Fw
theorem Qy{x y:Zr}(hx:Wr x)(hy:Wr y):lZ x y=some (zn (Int.gcd (zi x) (zi y):Int)):=by
 have cx:=hx.Qf;have cy:=hy.Qf;unfold lZ;simp only[bF,iF hx,iF hy];rw[Int.gcd];generalize (zi x).natAbs=a at*;generalize (zi y).natAbs=b at*;refine gR (λs=>∃c d,s=(zl (can 65536 c),zl (can 65536 d))/\Nat.gcd c d=Nat.gcd a b/\(can 65536 c).length<=20000000000/\(can 65536 d).length<=20000000000)
  (λe=>e=zl (can 65536 (Nat.gcd a b))/\(can 65536 (Nat.gcd a b)).length<=20000000000) (λs=>val 65536 (s.2.map Int.toNat)) ?_ ⟨a,b,Y,Y,cx,cy⟩ ?_
 ·rintro _ ⟨c,d,rfl,hg,hc,hd⟩;simp only[dV];have hzl:∀l:List Nat,(zl l).map Int.toNat=l:=λl=>by
   rw[zl,List.map_map];have:(Int.toNat∘λ(n:Nat)=>(n:Int))=id:=by funext n;simp
   rw[this,List.map_id]
  by_cases h0:d=0
  ·right;subst h0;rw[Nat.gcd_zero_right]at hg;subst hg;exact⟨_,Y,Y,hc⟩
  left;have tG:(can 65536 d).length≠0:=λh=>h0 (vW.1 h);have hm:c%d<d:=Nat.mod_lt _ (by omega);rw[show decide ((0:Int)<((can 65536 d).length:Int))=true by rw[decide_eq_true_eq];omega,fy,JC c d h0 (by omega) (by omega),bF];refine⟨_,Y,⟨d,c%d,Y,?_,hd,?_⟩,?_⟩
  ·rw[<-hg,Nat.gcd_comm d,<-Nat.gcd_rec,Nat.gcd_comm]
  ·exact Nat.le_trans ((bR (by decide)).2 (Nat.lt_trans hm (cj (by decide) d))) hd
  simp only[];rw[hzl,hzl,jo (by decide),jo (by decide)];exact hm
 rintro _ ⟨rfl,hl⟩;rw[r6 _ _ (by omega),bF,je]
end
section
open Go.Fw
theorem JE:ke=some (zn 1):=by
 unfold ke;simp only[zeta',bF,from_eq (x:=1) (by decide)]
section ops
variable {L M:Nat}{a b:Qr}{x y:Rat}
theorem KC(h:ik L a x)(hL:L<=10000000000):∃n d:Int,l7 a=some (zn n)/\l6 a=some (zn d)/\0<d/\Rat.divInt n d=x/\Fit L n/\Fit L d:=by
 have wn:Wr a.num:=⟨h.n,Nat.le_trans h.ln hL⟩;have wd:Wr a.den:=⟨h.d,Nat.le_trans h.ld hL⟩;have hv:=h.v;unfold l7 l6;simp only[zeta',bF,Be wd,JE,Qw wn,Qx wd,Gg wn];unfold qv qd at hv;rcases Int.lt_trichotomy (zi a.den) 0 with h1|h1|h1
 ·refine⟨-zi a.num,-zi a.den,?_,?_,by omega,?_,h.fn.neg,h.fd.neg⟩
  ·rw[Int.sign_eq_neg_one_of_neg h1];rfl
  ·rw[Int.sign_eq_neg_one_of_neg h1,show((zi a.den).natAbs:Int)=-zi a.den by omega];rfl
  rw[Rat.neg_divInt_neg,<-hv,if_neg (by omega)]
 ·refine⟨zi a.num,1,?_,?_,by decide,?_,h.fn,vS h.l1⟩
  ·rw[h1];rfl
  ·rw[h1];rfl
  rw[<-hv,if_pos h1]
 refine⟨zi a.num,zi a.den,?_,?_,h1,?_,h.fn,h.fd⟩
 ·rw[Int.sign_eq_one_of_pos h1];rfl
 ·rw[Int.sign_eq_one_of_pos h1,show((zi a.den).natAbs:Int)=zi a.den by omega];rfl
 rw[<-hv,if_neg (by omega)]
theorem Qz{n d:Int}(hn:Fit L n)(hd:Fit L d)(hL:L<=10000000000)(h:0<d):kG (zn n) (zn d)=some (qn (Rat.divInt n d)):=by
 have wn:=Ge hn hL;have wd:=Ge hd hL;have g0:(Int.gcd n d:Int)≠0:=by
  have:0<Int.gcd n d:=Int.gcd_pos_of_ne_zero_right _ (by omega);omega
 have wg:Wr (zn (Int.gcd n d:Int)):=Ge (hd.le (by
  have:=Nat.le_of_dvd (Int.natAbs_pos.2 (show d≠0 by omega)) (Int.gcd_dvd_natAbs_right n d);simpa using this)) hL
 have wq:Wr (zn (d/(Int.gcd n d:Int))):=Ge (hd.le (Int.natAbs_ediv_le_natAbs _ _)) hL;have one:dj 1:=by decide
 unfold kG;simp only[zeta',bF,Qy wn wd,JD wn wg,JD wd wg,JE,eX];rw[Gc,if_neg g0,Gc,if_neg g0];simp only[];rw[Qv wq (N2 one),bF,eX,eX,xm h];by_cases e:d/(Int.gcd n d:Int)=1
 ·rw[e,m9,if_pos rfl];rfl
 have:jO (d/(Int.gcd n d:Int)) 1≠0:=by
  rcases Int.lt_trichotomy (d/(Int.gcd n d:Int)) 1 with q|q|q
  ·rw[gE q];decide
  ·exact absurd q e
  rw[gG q];decide
 rw[decide_eq_false this,fL,if_neg e]
theorem ik.US(ha:ik L a x)(h:L<=10000000000):jB a=some (qn x):=by
 obtain⟨n,d,e1,e2,h1,h2,f1,f2⟩:=KC ha h;unfold jB;simp only[zeta',qw,qx,e1,e2,bF,Qz f1 f2 h h1,h2]
theorem QA{n:Int}(hn:dj n):l8 n=some (qn (n:Rat)):=by
 unfold l8;simp only[zeta',bF,from_eq hn];rw[N4]
theorem UT{n d:Int}(hn:dj n)(hd:dj d)(h0:d≠0):nA n d=some (qn (Rat.divInt n d)):=by
 unfold nA;simp only[zeta',qw,qx,bF,from_eq hn,from_eq hd,(Gm h0 (nc hn) (nc hd) (by decide)).US (by decide)]
end ops
end
section
open Go.Fw
theorem cD{J R:Type}{f:J->Option R}{g:(J->Option R)->Option R}{r:Option R}(h:g f=r):cm f g=r:=h
section ops
variable {K L M:Nat}{c:Qr}{a b:List Qr}{k:Rat}{f g:Nat->Rat}
theorem Gt(ha:cC L a f)(h:L<=35184372088788)(m:Nat)(hm:m<=65536){body:Int×List Qr->Option ((Int×List Qr)⊕List Qr)}
  (hb:∀s,body s=(some (decide (s.1<((min a.length m:Nat):Int)))).bind λfK=>(bif fK then(cY a s.1).bind λq=>(c8 q).bind λw=>(tB s.2 s.1).bind λgx=>(stM s.2 gx w).bind λqC=>(some (IntKind.i64.wrap (s.1+1))).bind λmm=>some (.inl (mm,qC))else some (.inr s.2))):
  (b8 body (0,List.replicate m qz)).bind (λr=>some r)=some (vq m f):=by
 refine bH (λj=>((j:Int),vq j f++List.replicate (m-j) qz)) (min a.length m) (vq m f) Y (λj hj=>?_) ?_ Y
 ·obtain⟨q,hq,rq⟩:=ha.get (show j<a.length by omega);rw[hb];refine aA Y<|bX (decide_eq_true (by show(j:Int)<_;omega))<|aA (bP hq)<|aA (rq.canon h).1<|aA (fe (by rw[sP (by omega)];omega))<|aA (iH (by rw[sP (by omega)];omega))<|aA Y ?_;rw[Ih (by omega),bZ (by omega)]
 rw[hb];refine aA Y<|bQ (decide_eq_false (by show ¬((min a.length m:Nat):Int)<_;omega)) ?_;rw[UR (by omega) (λi h1 h2=>ha.z i (by omega))]
theorem QB(ha:cC L a f)(h:L<=35184372088788)(la:a.length<=1000000)(n:Int):ji a n=some (vq (min n 65536).toNat f):=by
 unfold ji;refine aA Y ?_;by_cases hn:n<1
 ·refine bX (decide_eq_true hn) ?_;rw[show(min n 65536).toNat=0 by omega];rfl
 refine bQ (decide_eq_false hn) ?_;obtain⟨m,hm⟩:∃m:Nat,min n 65536=(m:Int):=⟨(min n 65536).toNat,by omega⟩;rw[hm];refine aA Y<|aA (qc (by omega) (by omega))<|aA Y<|aA Y<|aA (congrArg some (Jx a _)) ?_;rw[List.length_replicate];refine Gt ha h m (by omega) (λs=>?_);obtain⟨i,l⟩:=s;rfl
theorem yx{l:List Int}(hl:∀x∈l,dj x)(h:l.length<=1000000):cU l=some (vq l.length λi=>((l.getD i 0:Int):Rat))/\cC 2 (vq l.length λi=>((l.getD i 0:Int):Rat)) (λi=>((l.getD i 0:Int):Rat)):=by
 have hx:∀i,dj (l.getD i 0):=λi=>by
  by_cases hi:i<l.length
  ·rw[List.getD_eq_getElem?_getD,List.getElem?_eq_getElem hi];exact hl _ (List.getElem_mem hi)
  rw[List.getD_eq_getElem?_getD,List.getElem?_eq_none (by omega)];decide
 refine⟨?_,oF (λi _=>(mY (hx i)).2.fq) (λi hi=>?_) (by decide)⟩
 ·unfold cU;refine aA Y<|aA (qc (by omega) (by omega))<|aA Y ?_;refine bH (λj=>((j:Int),vq j (λi=>((l.getD i 0:Int):Rat))++List.replicate (l.length-j) qz)) l.length (vq l.length λi=>((l.getD i 0:Int):Rat)) Y (λj hj=>?_) ?_ Y
  ·have e3:=(mY (hx j)).1;have h4:=Ih (h:=λi=>((l.getD i 0:Int):Rat)) hj;obtain⟨q3,h3⟩:∃q,qn ((l.getD j 0:Int):Rat)=q:=⟨_,Y⟩;rw[h3]at e3 h4;obtain⟨⟨_,_⟩,⟨_,_⟩⟩:=q3;refine aA Y<|bX (decide_eq_true (by omega))<|aA (bP (cH hj))<|aA e3<|aA (fe (by rw[sP (by omega)];exact hj))<|aA (iH (by rw[sP (by omega)];exact hj))<|aA Y ?_;rw[bZ (by omega),h4]
  refine aA Y<|bQ (decide_eq_false (by omega)) ?_;simp
 show((l.getD i 0:Int):Rat)=0;rw[eE hi];rfl
end ops
end
section
open Go.Fw
theorem Gu(l:List Qr)(hl:l.length<=1000000):∃b,jm l=some b/\(b=false->∀q∈l,q.num.w.length<=6/\q.den.w.length<=6):=by
 unfold jm;simp only[bF];refine mX (λy=>∃i:Nat,y=(i:Int)/\i<=l.length/\∀z∈l.take i,z.num.w.length<=6/\z.den.w.length<=6) (λe=>(∃c,e=.inl c/\∀z∈l,z.num.w.length<=6/\z.den.w.length<=6)\/e=.inr true) (λy=>l.length-y.toNat) ?_ ⟨0,Y,by omega,by simp⟩ ?_
 ·rintro _ ⟨i,rfl,hi,ht⟩;by_cases hlt:i<l.length
  ·have g:l[i]? =some l[i]:=by simp
   obtain⟨q,hq⟩:∃q,l[i]=q:=⟨_,Y⟩;rw[hq]at g;obtain⟨z,w⟩:=q;obtain⟨b,hb,-⟩:=Qg [z,w] (by simp);rw[show decide ((i:Int)<(l.length:Int))=true by simp[hlt],fy];simp only[bP g,bF,zeta',cm,hb];cases b
   ·rw[fL,bF];by_cases h1:6<z.w.length
    ·right;rw[decide_eq_true (by omega),fy,bF,fy];exact⟨_,Y,.inr Y⟩
    rw[decide_eq_false (by omega),fL,bF];by_cases h2:6<w.w.length
    ·right;rw[decide_eq_true (by omega),fy];exact⟨_,Y,.inr Y⟩
    left;rw[decide_eq_false (by omega),fL,bZ (by omega)];refine⟨_,Y,⟨i+1,Y,hlt,?_⟩,by omega⟩;rw[List.take_add_one,g];intro u hu;rcases List.mem_append.1 hu with h|h
    ·exact ht u h
    simp at h;rw[h];exact⟨by simp only[];omega,by simp only[];omega⟩
   right;exact⟨_,Y,.inr Y⟩
  right;rw[show decide ((i:Int)<(l.length:Int))=false by simp;omega,fL];rw[List.take_of_length_le (by omega)]at ht;exact⟨_,Y,.inl ⟨_,Y,ht⟩⟩
 rintro e (⟨c,rfl,he⟩|rfl)
 ·exact⟨false,Y,λ_=>he⟩
 exact⟨true,rfl,λh=>by cases h⟩
abbrev ZA(q:Qr):Prop:=OkZ q.num/\OkZ q.den
theorem En{q:Qr}{L:Nat}(h:ZA q)(h1:q.num.w.length<=L)(h2:q.den.w.length<=L)(hL:1<=L):ik L q (qv q):=⟨h.1.2.2,h.2.2.2,h1,h2,hL,Y⟩
end
section
open Go.Fw
theorem UU(x y:Rat):x<y\/x=y\/y<x:=by grind
end
section
open Go.Fw
theorem dT{p:Prop}[Decidable p](h:p):(some (decide p):Option Bool)=some true:=congrArg some (decide_eq_true h)
theorem dF{p:Prop}[Decidable p](h:¬p):(some (decide p):Option Bool)=some false:=congrArg some (decide_eq_false h)
theorem Bf{β:Type}{x:Option Bool}{f:Bool->Option β}{r:Option β}{y:Option Bool}(h:x=some true)(hf:f true=r):(bif true then x else y).bind f=r:=by rw[fy,h];exact hf
theorem Ii{β:Type}{b c:Bool}{x:Option Bool}{f:Bool->Option β}{r:Option β}(h:b=false->x=some c)(hf:f (b||c)=r):(bif b then some true else x).bind f=r:=by
 cases b
 ·rw[fL,h rfl];exact hf
 rw[fy];exact hf
theorem QC{β:Type}{b c:Bool}{x:Option Bool}{f:Bool->Option β}{r:Option β}(h:b=true->x=some c)(hf:f (b&&c)=r):(bif b then x else some false).bind f=r:=by
 cases b
 ·rw[fL];exact hf
 rw[fy,h rfl];exact hf
section ops
variable {K L M:Nat}{a b c:Qr}{x y z:Rat}
theorem int'{n:Int}(hn:dj n):∃q,c7 n=some q/\ik 2 q (n:Rat):=⟨_,mY hn⟩
end ops
theorem cC.val{L:Nat}{v:List Qr}{f:Nat->Rat}(h:cC L v f)(i:Nat):f i=xo v i:=(h.at i).v.symm
abbrev SD(v:List Qr):Prop:=v.length*64<=140737488351232/\∀q∈v,ZA q
theorem afn{q:Qr}(h:ZA q):ik 35184372087808 q (qv q):=En h (by have:=h.1.2.1;omega) (by have:=h.2.2.1;omega) (by decide)
theorem Yf{v:List Qr}(h:SD v):cC 35184372087808 v (xo v):=Em (λq hq=>afn (h.2 q hq)) (by decide)
end
section
open Go.Fw
def jE{α:Type}(f:Nat->α)(n k:Nat)(z:α):List α:=(List.range k).map f++List.replicate (n-k) z
theorem sQ{α:Type}{f:Nat->α}{n k:Nat}{z:α}(hk:k<=n):(jE f n k z).length=n:=by simp[jE];omega
theorem qj{α:Type}{f:Nat->α}{n:Nat}{z:α}:jE f n 0 z=List.replicate n z:=by simp[jE]
theorem sS{α:Type}{f:Nat->α}{n:Nat}{z:α}:jE f n n z=(List.range n).map f:=by simp[jE]
theorem sV{α:Type}{f:Nat->α}{n k:Nat}{z:α}(hk:k<n):(jE f n k z).set k (f k)=jE f n (k+1) z:=by
 unfold jE;rw[show n-k=(n-(k+1))+1 by omega,List.replicate_succ,List.set_append_right _ _ (by simp),List.length_map,List.length_range,Nat.sub_self,List.range_succ,List.map_append,List.append_assoc];rfl
def mq(n:Nat)(ln:Nat->Nat)(F:Nat->Nat->Rat):List (List Qr):=(List.range n).map λi=>vq (ln i) (F i)
theorem fg(n:Nat)(ln:Nat->Nat)(F:Nat->Nat->Rat):(mq n ln F).length=n:=by simp[mq]
theorem N9{n i:Nat}{ln:Nat->Nat}{F:Nat->Nat->Rat}(hi:i<n):(mq n ln F)[i]? =some (vq (ln i) (F i)):=by simp[mq,hi]
theorem Gv{n:Nat}{ln ln':Nat->Nat}{F G:Nat->Nat->Rat}(h:∀i,i<n->ln i=ln' i/\∀k,k<ln i->F i k=G i k):mq n ln F=mq n ln' G:=by
 unfold mq;apply List.map_congr_left;intro i hi;obtain⟨h1,h2⟩:=h i (List.mem_range.1 hi);rw[r8 h2,h1]
structure gp (L:Nat) (m:List (List Qr)) (F:Nat->Nat->Rat):Prop where
 e:∀i v,m[i]? =some v->cC L v (F i)
 z:∀i,m.length<=i->∀k,F i k=0
 l1:1<=L
theorem gp.row{L:Nat}{m:List (List Qr)}{F:Nat->Nat->Rat}(h:gp L m F)(i:Nat):cC L (m.getD i []) (F i):=by
 by_cases hi:i<m.length
 ·rw[List.getD_eq_getElem?_getD,List.getElem?_eq_getElem hi];exact h.e i _ (List.getElem?_eq_getElem hi)
 rw[List.getD_eq_getElem?_getD,List.getElem?_eq_none (by omega)];exact(cC.nil h.l1).congr (λk=>(h.z i (by omega) k).symm)
theorem gp.mono{L M:Nat}{m:List (List Qr)}{F:Nat->Nat->Rat}(h:gp L m F)(hl:L<=M):gp M m F:=⟨λi v e=>(h.e i v e).mono hl,h.z,Nat.le_trans h.l1 hl⟩
theorem Eo{L n:Nat}{ln:Nat->Nat}{F:Nat->Nat->Rat}(hf:∀i,i<n->∀k,k<ln i->FQ L (F i k))(hz:∀i,i<n->∀k,ln i<=k->F i k=0)(hz':∀i,n<=i->∀k,F i k=0)(h1:1<=L):gp L (mq n ln F) F:=by
 refine⟨λi v e=>?_,λi hi=>hz' i (by rwa[fg]at hi),h1⟩;have hi:i<n:=by have:=(List.getElem?_eq_some_iff.1 e).1;rwa[fg]at this
 rw[N9 hi]at e;cases e;exact oF (hf i hi) (hz i hi) h1
def Ij(m:List (List Qr))(i:Nat):Nat->Rat:=xo (m.getD i [])
theorem QD{L:Nat}{m:List (List Qr)}(h:∀v∈m,cC L v (xo v))(h1:1<=L):gp L m (Ij m):=by
 refine⟨λi v e=>?_,λi hi k=>?_,h1⟩
 ·have:Ij m i=xo v:=by unfold Ij;rw[List.getD_eq_getElem?_getD,e];rfl
  rw[this];exact h v (List.mem_of_getElem? e)
 unfold Ij;rw[List.getD_eq_getElem?_getD,List.getElem?_eq_none hi];exact(cC.nil (L:=1) (by decide)).val k |>.symm
theorem Oa{L:Nat}{v:List Qr}{f:Nat->Rat}(h:cC L v f):gp L [v] (λi k=>if i=0 then f k else 0):=by
 refine⟨λi u e=>?_,λi hi k=>if_neg (by simp at hi;omega),h.l1⟩
 match i,e with
 |0,e=>cases e;exact h.congr (λk=>(if_pos rfl).symm)
theorem mkm{n:Nat}(h:n<=1000000):Ce 24 ((n:Nat):Int) ([]:List Qr)=some (List.replicate n []):=qc (by decide) (by omega)
theorem Yg(n:Nat)(h:n<=1000000):Ce 64 ((n:Nat):Int) (⟨⟨false,[]⟩,⟨false,[]⟩⟩:Qr)=some (List.replicate n ⟨⟨false,[]⟩,⟨false,[]⟩⟩):=qc (by omega) (by omega)
theorem zq{L M N:Nat}{a b:List Qr}{f g:Nat->Rat}(ha:cC L a f)(hb:cC M b g)(h:min a.length b.length<=N):cu (λi=>f i*g i) (min a.length b.length)=cu (λi=>f i*g i) N:=by
 rw[N5 h (λi h1 _=>by
  rcases Nat.lt_or_ge i a.length with q|q
  ·rw[hb.z i (by omega)];grind
  rw[ha.z i q];grind)]
theorem Bg{E:Type}{body:Nat->Unit->Option (Unit⊕E)}{n:Nat}{p:Nat->Prop}[DecidablePred p]{e:E}(h:∀k,k<n->body k ()=some (if p k then .inl ()else .inr e)):ko body n ()=some (if ∀k,k<n->p k then .inl ()else .inr e):=by
 induction n with
 |zero=>rw[ko,if_pos (λk hk=>by omega)]
 |succ n ih=>
  rw[ko,ih (λk hk=>h k (by omega))];by_cases h1:∀k,k<n->p k
  ·rw[if_pos h1];show body n ()=_;rw[h n (by omega)];by_cases h2:p n
   ·rw[if_pos h2,if_pos];intro k hk;rcases Nat.lt_or_ge k n with q|q
    ·exact h1 k q
    obtain rfl:k=n:=by omega
    exact h2
   rw[if_neg h2,if_neg (λq=>h2 (q n (by omega)))]
  rw[if_neg h1,if_neg (λq=>h1 (λk hk=>q k (by omega)))];rfl
section ops
variable {K L M:Nat}{c:Qr}{k:Rat}{a b:List (List Qr)}{F G:Nat->Nat->Rat}{x:List Qr}{f:Nat->Rat}
theorem QE(a:List (List Qr))(i:Nat):lp a (i:Int)=some (a.getD i []):=by
 unfold lp;refine cD<|aA (dF (by omega)) ?_;by_cases h:i<a.length
 ·exact aA (a:=false) (bQ Y<|aA Y<|aA (dF (by omega)) Y)<|bQ Y<|aA (bP (cH h)) Y
 rw[eE (by omega)];exact aA (a:=true) (bQ Y<|aA Y<|aA (dT (by omega)) Y)<|bX Y Y
def jF(m:List (List Qr)):Nat:=m.foldl (λn v=>max n v.length) 0
theorem iz{m:List (List Qr)}{n:Nat}:jF m<=n↔∀v∈m,v.length<=n:=by
 have key:∀(l:List (List Qr)) (s:Nat),l.foldl (λn v=>max n v.length) s<=n↔s<=n/\∀v∈l,v.length<=n:=by
  intro l
  induction l with
  |nil=>intro s;simp
  |cons v l ih=>
   intro s;rw[List.foldl_cons,ih];simp only[List.mem_cons,forall_eq_or_imp];constructor
   ·rintro⟨h1,h2⟩;exact⟨by omega,by omega,h2⟩
   rintro⟨h1,h2,h3⟩;exact⟨by omega,h3⟩
 unfold jF;rw[key];simp
theorem SE(m:List (List Qr))(h:m.length<=9223372036854775806):lq m=some (jF m:Int):=by
 unfold lq;refine aA Y ?_;refine bH (λj=>(((m.take j).foldl (λn v=>max n v.length) 0:Nat),(j:Int))) m.length ((jF m:Nat):Int) (by simp) (λj hj=>?_) ?_ Y
 ·refine aA (dT (by omega))<|bX Y<|aA (bP (List.getElem?_eq_getElem hj))<|aA Y<|aA Y<|aA (congrArg some (bZ (by omega))) ?_;rw[List.take_add_one,List.getElem?_eq_getElem hj,List.foldl_append];simp only[Option.toList_some,List.foldl_cons,List.foldl_nil];congr 3;omega
 refine aA (dF (by omega))<|bQ Y ?_;rw[List.take_length];rfl
theorem Ob(h:gp L a F)(hL:L<=35184372088788)(i j:Nat):oT a (i:Int) (j:Int)=some (qn (F i j)):=by
 unfold oT;refine aA (QE a i)<|cD<|aA (dF (by omega)) ?_;have hr:=h.row i;generalize a.getD i []=v at hr;by_cases hj:j<v.length
 ·obtain⟨q,e1,r1⟩:=hr.get hj;have e2:=(r1.canon hL).1;exact aA (a:=false) (bQ Y<|aA Y<|aA (dF (by omega)) Y)<|bQ Y<|aA (bP e1)<|aA e2 Y
 rw[hr.z j (by omega)];exact aA (a:=true) (bQ Y<|aA Y<|aA (dT (by omega)) Y)<|bX Y Y
theorem Od(hc:ik K c k)(h:gp L a F)(hL:K+L<=35184372088768)(hn:a.length<=1000000)(hw:∀v∈a,v.length<=1000000):
  lT c a=some (mq a.length (λi=>(a.getD i []).length) (λi j=>k*F i j))/\gp (K+L) (mq a.length (λi=>(a.getD i []).length) (λi j=>k*F i j)) (λi j=>k*F i j):=by
 have hw':∀i,(a.getD i []).length<=1000000:=λi=>by
  by_cases hi:i<a.length
  ·exact hw _ (List.mem_of_getElem? (cH (d:=[]) hi))
  rw[eE (by omega)];decide
 constructor
 ·unfold lT;refine aA Y<|aA (mkm hn)<|aA Y ?_;refine bH (λj=>((j:Int),jE (λi=>vq (a.getD i []).length (λj=>k*F i j)) a.length j [])) a.length (mq a.length (λi=>(a.getD i []).length) (λi j=>k*F i j)) (by rw[qj];rfl) (λj hj=>?_) ?_ Y
  ·have e1:=(Bd hc (h.row j) hL (hw' j)).1;have hl:(jE (λi=>vq (a.getD i []).length (λj=>k*F i j)) a.length j []).length=a.length:=sQ (by omega);refine aA (dT (by omega))<|bX Y<|aA (bP (cH (d:=[]) hj))<|aA e1<|aA (fe (show j<_ by rw[hl];exact hj))<|aA (iH (show j<_ by rw[hl];exact hj))<|aA (congrArg some (bZ (by omega))) ?_;rw[<-sV hj]
  refine aA (dF (by omega))<|bQ Y ?_;rw[sS];rfl
 refine Eo (λi hi j hj=>?_) (λi hi j hj=>by rw[(h.row i).z j hj];grind) (λi hi j=>by rw[h.z i hi j];grind) (by have:=h.l1;omega);exact(Bd hc (h.row i) hL (hw' i)).2.fq j
theorem afo(h:gp L a F)(hx:cC M x f){N:Nat}(hN:∀v∈a,min v.length x.length<=N)(hL:(N+2)*(L+M+1)<=35184372088768)(hn:a.length<=1000000):
  kC a x=some (vq a.length (λi=>cu (λj=>F i j*f j) N))/\cC (N*(L+M+1)+1) (vq a.length (λi=>cu (λj=>F i j*f j) N)) (λi=>cu (λj=>F i j*f j) N):=by
 have row:∀i,i<a.length->gO (a.getD i []) x=some (qn (cu (λj=>F i j*f j) N))/\ik (N*(L+M+1)+1) (qn (cu (λj=>F i j*f j) N)) (cu (λj=>F i j*f j) N):=λi hi=>by
  have hm:=hN _ (List.mem_of_getElem? (cH (d:=[]) hi));have h1:=Qn (h.row i) hx (Nat.le_trans (Nat.mul_le_mul_right _ (by omega)) hL);rw[zq (h.row i) hx hm]at h1;exact⟨h1.1,h1.2.mono (Nat.add_le_add_right (Nat.mul_le_mul_right _ hm) 1)⟩
 constructor
 ·unfold kC;refine aA Y<|aA (Yg _ hn)<|aA Y ?_;refine bH (λj=>((j:Int),jE (λi=>qn (cu (λj=>F i j*f j) N)) a.length j ⟨⟨false,[]⟩,⟨false,[]⟩⟩)) a.length (vq a.length (λi=>cu (λj=>F i j*f j) N)) (by rw[qj];rfl) (λj hj=>?_) ?_ Y
  ·have e1:=(row j hj).1;have hl:(jE (λi=>qn (cu (λj=>F i j*f j) N)) a.length j ⟨⟨false,[]⟩,⟨false,[]⟩⟩).length=a.length:=sQ (by omega);have hst:∀q,qn (cu (λi=>F j i*f i) N)=q->(jE (λi=>qn (cu (λj=>F i j*f j) N)) a.length j ⟨⟨false,[]⟩,⟨false,[]⟩⟩).set j q=jE (λi=>qn (cu (λj=>F i j*f j) N)) a.length (j+1) ⟨⟨false,[]⟩,⟨false,[]⟩⟩:=by rintro q rfl;exact sV hj
   generalize hq:qn (cu (λi=>F j i*f i) N)=q at e1;have hst:=hst q hq;refine aA (dT (by omega))<|bX Y<|aA (bP (cH (d:=[]) hj))<|aA e1<|aA (fe (show j<_ by rw[hl];exact hj))<|aA (iH (show j<_ by rw[hl];exact hj))<|aA (congrArg some (bZ (by omega))) ?_;rw[<-hst]
  refine aA (dF (by omega))<|bQ Y ?_;rw[sS];rfl
 refine oF (λi hi=>(row i hi).2.fq) (λi hi=>?_) (by omega);rw[uM (k:=λ_=>0) (λj _=>by rw[h.z i hi j];grind),CO]
theorem UW(ha:gp L a F)(hb:gp M b G)(h:L+M<=35184372088768):iZ a b=some (decide (∀i,i<max a.length b.length->∀j,j<max (a.getD i []).length (b.getD i []).length->F i j=G i j)):=by
 unfold iZ;refine aA (Bg (p:=λi=>∀j,j<max (a.getD i []).length (b.getD i []).length->F i j=G i j) (e:=false) (λi hi=>?_)) ?_
 ·have e1:=Yd (ha.row i) (hb.row i) h;refine aA Y<|aA Y<|aA e1<|aA Y ?_;by_cases q:∀j,j<max (a.getD i []).length (b.getD i []).length->F i j=G i j
  ·rw[if_pos q];exact bQ (by rw[decide_eq_true q];rfl) Y
  rw[if_neg q];exact bX (by rw[decide_eq_false q];rfl) Y
 by_cases q:∀i,i<max a.length b.length->∀j,j<max (a.getD i []).length (b.getD i []).length->F i j=G i j
 ·rw[if_pos q,decide_eq_true q]
 rw[if_neg q,decide_eq_false q]
theorem JF(ha:gp L a F)(hb:gp M b G)(h:L+M<=35184372088768)(e:∀i j,F i j=G i j):iZ a b=some true:=by
 rw[UW ha hb h,decide_eq_true (λi _ j _=>e i j)]
theorem JG{l:List (List Int)}(hl:∀v∈l,v.length<=1000/\∀y∈v,dj y)(hn:l.length<=1000):eH l=some (mq l.length (λi=>(l.getD i []).length) (λi j=>(((l.getD i []).getD j 0:Int):Rat)))/\gp 2 (mq l.length (λi=>(l.getD i []).length) (λi j=>(((l.getD i []).getD j 0:Int):Rat))) (λi j=>(((l.getD i []).getD j 0:Int):Rat)):=by
 have hw:∀i,(l.getD i []).length<=1000/\∀y∈l.getD i [],dj y:=λi=>by
  by_cases hi:i<l.length
  ·exact hl _ (List.mem_of_getElem? (cH (d:=[]) hi))
  rw[eE (by omega)];simp
 constructor
 ·unfold eH;refine aA Y<|aA (mkm (by omega))<|aA Y ?_;refine bH (λj=>((j:Int),jE (λi=>vq (l.getD i []).length (λj=>(((l.getD i []).getD j 0:Int):Rat))) l.length j [])) l.length (mq l.length (λi=>(l.getD i []).length) (λi j=>(((l.getD i []).getD j 0:Int):Rat))) (by rw[qj];rfl) (λj hj=>?_) ?_ Y
  ·have e1:=(yx (hw j).2 (by have:=(hw j).1;omega)).1;have hl:(jE (λi=>vq (l.getD i []).length (λj=>(((l.getD i []).getD j 0:Int):Rat))) l.length j []).length=l.length:=sQ (by omega);refine aA (dT (by omega))<|bX Y<|aA (bP (cH (d:=[]) hj))<|aA e1<|aA (fe (show j<_ by rw[hl];exact hj))<|aA (iH (show j<_ by rw[hl];exact hj))<|aA (congrArg some (bZ (by omega))) ?_;rw[<-sV hj]
  refine aA (dF (by omega))<|bQ Y ?_;rw[sS];rfl
 refine Eo (λi hi j hj=>(yx (hw i).2 (by have:=(hw i).1;omega)).2.fq j) (λi hi j hj=>by rw[eE hj];rfl) (λi hi j=>by rw[eE hi];rfl) (by decide)
end ops
end
section
open Go.Fw
theorem Gw{α:Type}{b:Bool}{x y r:α}(ht:b=true->x=r)(hf:b=false->y=r):(bif b then x else y)=r:=by
 cases b
 ·rw[fL];exact hf Y
 rw[fy];exact ht Y
theorem xp{E:Type}{body:Int->Option (Int⊕(Unit⊕E))}{n:Nat}{p:Nat->Prop}[DecidablePred p]{e:E}(h:∀k:Nat,k<n->body (k:Int)=some (if p k then .inl ((k+1:Nat):Int)else .inr (.inr e)))(hn:body (n:Int)=some (.inr (.inl ()))):
  b8 body 0=some (if ∀k,k<n->p k then .inl ()else .inr e):=by
 obtain⟨r,h1,h2⟩:=wJ (body:=body) (s:=0) (λs=>∃k:Nat,s=(k:Int)/\k<=n/\∀i,i<k->p i) (λr=>(r=.inl ()/\∀k,k<n->p k)\/(r=.inr e/\¬∀k,k<n->p k)) (λs=>n-s.toNat) (by
  rintro _ ⟨k,rfl,hk,hp⟩;by_cases hlt:k<n
  ·by_cases hpk:p k
   ·refine .inl ⟨_,by rw[h k hlt,if_pos hpk],⟨k+1,Y,hlt,λi hi=>?_⟩,by simp only[Int.toNat_natCast];omega⟩;rcases Nat.lt_or_ge i k with q|q
    ·exact hp i q
    obtain rfl:i=k:=by omega
    exact hpk
   exact .inr ⟨_,by rw[h k hlt,if_neg hpk],.inr ⟨Y,λq=>hpk (q k hlt)⟩⟩
  obtain rfl:k=n:=by omega
  exact .inr ⟨_,hn,.inl ⟨Y,hp⟩⟩) ⟨0,Y,by omega,λi hi=>by omega⟩
 rw[h1];rcases h2 with⟨rfl,h2⟩|⟨rfl,h2⟩
 ·rw[if_pos h2]
 rw[if_neg h2]
def KD(n:Nat)(f:Nat->Rat)(i:Nat):Rat:=if i<n then f i else 0
theorem vX{n i:Nat}{f:Nat->Rat}(h:i<n):KD n f i=f i:=if_pos h
theorem QF{n i:Nat}{f:Nat->Rat}(h:n<=i):KD n f i=0:=if_neg (by omega)
theorem UX(n:Nat)(f:Nat->Rat):vq n f=vq n (KD n f):=r8 (λi hi=>(vX hi).symm)
theorem Ep{L n:Nat}{f:Nat->Rat}(h:∀i,i<n->FQ L (f i))(h1:1<=L):cC L (vq n f) (KD n f):=by
 rw[UX];exact oF (λi hi=>by rw[vX hi];exact h i hi) (λi hi=>QF hi) h1
def zu(n:Int)(ob rw:List (List Qr))(bd:List Qr):Prop:=0<=n/\n<=64/\1<=ob.length/\ob.length<=4/\rw.length<=128/\bd.length=rw.length/\(jF ob:Int)<=n/\(jF rw:Int)<=n
instance(n:Int)(ob rw:List (List Qr))(bd:List Qr):Decidable (zu n ob rw bd):=by unfold zu;exact inferInstance
theorem vY{n:Int}{ob rw:List (List Qr)}{bd:List Qr}(h1:ob.length<=9223372036854775806)(h2:rw.length<=9223372036854775806):ja ⟨n,ob,rw,bd⟩=some (decide (zu n ob rw bd)):=by
 unfold ja ic;refine aA (aA Y<|aA Y<|aA Y Y)<|cD<|aA Y<|Ii (λ_=>aA Y Y)<|Ii (λ_=>aA Y Y)<|Ii (λ_=>aA Y Y)<|Gw (λh=>?_) (λh=>cD<|aA Y<|Ii (λ_=>aA Y Y)<|Gw (λh'=>?_) (λh'=>cD<|aA (SE ob h1)<|aA Y<|QC (λ_=>aA (SE rw h2)<|aA Y Y) ?_))
 ·congr 1;symm;rw[decide_eq_false_iff_not];simp only[Bool.or_eq_true,decide_eq_true_eq]at h;unfold zu;omega
 ·congr 1;symm;rw[decide_eq_false_iff_not];simp only[Bool.or_eq_true,decide_eq_true_eq]at h';unfold zu;omega
 congr 1;simp only[Bool.or_eq_false_iff,decide_eq_false_iff_not]at h h';rw[<-Bool.decide_and,decide_eq_decide];unfold zu;omega
def KE(n:Int)(ob rw:List (List Qr))(bd x:List Qr)(F:Nat->Nat->Rat)(g f:Nat->Rat)(N:Nat):Prop:=zu n ob rw bd/\(x.length:Int)<=n/\(∀i,i<x.length->0<=f i)/\∀i,i<rw.length->cu (λj=>F i j*f j) N<=g i
instance(n:Int)(ob rw:List (List Qr))(bd x:List Qr)(F:Nat->Nat->Rat)(g f:Nat->Rat)(N:Nat):Decidable (KE n ob rw bd x F g f N):=by unfold KE;exact inferInstance
section lps
variable {K L M N:Nat}{n:Int}{ob rw:List (List Qr)}{bd x y:List Qr}{O F:Nat->Nat->Rat}{g f:Nat->Rat}
theorem zw(hr:gp L rw F)(hb:cC K bd g)(hx:cC M x f)(hN:∀v∈rw,min v.length x.length<=N)(hL:(N+2)*(L+M+1)<=2000000000)(hK:K<=35184372088658)(h1:ob.length<=9223372036854775806)(h2:rw.length<=9223372036854775806)(h3:x.length<=1000000):
  cK ⟨n,ob,rw,bd⟩ x=some (decide (KE n ob rw bd x F g f N)):=by
 have row:∀i,i<rw.length->∃q,gO (rw.getD i []) x=some q/\ik (N*(L+M+1)+1) q (cu (λj=>F i j*f j) N):=λi hi=>by
  have hm:=hN _ (List.mem_of_getElem? (cH (d:=[]) hi));have h1:=Qn (hr.row i) hx (Nat.le_trans (Nat.mul_le_mul_right _ (show min (rw.getD i []).length x.length+2<=N+2 by omega)) (by omega));rw[zq (hr.row i) hx hm]at h1;exact⟨_,h1.1,h1.2.mono (Nat.add_le_add_right (Nat.mul_le_mul_right _ hm) 1)⟩
 have hsz:N*(L+M+1)+1<=35184372088788:=by rw[Nat.add_mul]at hL;omega
 unfold cK;refine cD<|aA (vY h1 h2)<|aA Y<|Ii (λ_=>aA Y<|aA Y Y)<|Gw (λh=>?_) (λh=>aA Y ?_)
 ·congr 1;symm;rw[decide_eq_false_iff_not];simp only[Bool.or_eq_true,Bool.not_eq_true',decide_eq_true_eq,decide_eq_false_iff_not]at h;unfold KE;rintro⟨q1,q2,_⟩;rcases h with h|h
  ·exact h q1
  omega
 simp only[Bool.or_eq_false_iff,Bool.not_eq_false',decide_eq_true_eq,decide_eq_false_iff_not]at h;refine aA (xp (p:=λi=>0<=f i) (e:=false) (n:=x.length) (λi hi=>?_) (aA (dF (by omega))<|bQ Y Y)) ?_
 ·obtain⟨q,e1,r1⟩:=hx.get hi;have e2:=r1.sign (by have:=Nat.mul_le_mul_right (L+M+1) (show 1<=N+2 by omega);omega);refine aA (dT (by omega))<|bX Y<|aA (bP e1)<|aA e2<|aA Y ?_;by_cases hp:0<=f i
  ·rw[if_pos hp];exact bQ (decide_eq_false (λq=>Rat.not_lt.2 hp (Gl.1 q)))<|aA (congrArg some (bZ (by omega))) Y
  rw[if_neg hp];exact bX (decide_eq_true (Gl.2 (Rat.not_le.1 hp))) Y
 by_cases hp:∀i,i<x.length->0<=f i
 ·rw[if_pos hp];show(ko _ _ ()).bind _=_;refine aA (Bg (p:=λi=>cu (λj=>F i j*f j) N<=g i) (e:=false) (λi hi=>?_)) ?_
  ·obtain⟨q,e1,r1⟩:=row i hi;have rb:=hb.gd i;have e2:=r1.UQ rb hsz (by omega);generalize hbq:bd.getD i (⟨⟨false,[]⟩,⟨false,[]⟩⟩:Qr)=bq at e2;refine aA Y<|aA (a:=bq) (by first|rfl|exact congrArg some hbq)<|aA e1<|aA e2<|aA Y ?_;by_cases hs:cu (λj=>F i j*f j) N<=g i
   ·rw[if_pos hs];refine bQ (decide_eq_false (λq=>?_)) Y;exact Rat.not_lt.2 hs (Bb.1 (by omega))
   rw[if_neg hs];exact bX (decide_eq_true (vT (Rat.not_le.1 hs))) Y
  by_cases hq:∀i,i<rw.length->cu (λj=>F i j*f j) N<=g i
  ·rw[if_pos hq,decide_eq_true (show KE n ob rw bd x F g f N from⟨h.1,by omega,hp,hq⟩)]
  rw[if_neg hq,decide_eq_false (show ¬KE n ob rw bd x F g f N from λq=>hq q.2.2.2)]
 rw[if_neg hp,decide_eq_false (show ¬KE n ob rw bd x F g f N from λq=>hp q.2.2.1)]
theorem eval_eq(ho:gp L ob O)(hx:cC M x f)(hN:∀v∈ob,min v.length x.length<=N)(hL:(N+2)*(L+M+1)<=35184372088768)(hn:ob.length<=1000000):
  eC ⟨n,ob,rw,bd⟩ x=some (vq ob.length (λi=>cu (λj=>O i j*f j) N))/\cC (N*(L+M+1)+1) (vq ob.length (λi=>cu (λj=>O i j*f j) N)) (λi=>cu (λj=>O i j*f j) N):=by
 obtain⟨h1,h2⟩:=afo ho hx hN hL hn;exact⟨aA h1 Y,h2⟩
theorem Gx(hr:gp L rw F)(hb:cC K bd g)(hx:cC M x f)(hN:∀v∈rw,min v.length x.length<=N)(hL:(N+2)*(L+M+1)<=2000000000)(hK:K+(N*(L+M+1)+1)<=35184372088768)(h2:rw.length<=1000000):
  lu ⟨n,ob,rw,bd⟩ x=some (vq rw.length (λi=>g i-cu (λj=>F i j*f j) N))/\∀i,i<rw.length->FQ (K+(N*(L+M+1)+1)+1) (g i-cu (λj=>F i j*f j) N):=by
 have row:∀i,i<rw.length->∃q,gO (rw.getD i []) x=some q/\ik (N*(L+M+1)+1) q (cu (λj=>F i j*f j) N):=λi hi=>by
  have hm:=hN _ (List.mem_of_getElem? (cH (d:=[]) hi));have h1:=Qn (hr.row i) hx (Nat.le_trans (Nat.mul_le_mul_right _ (show min (rw.getD i []).length x.length+2<=N+2 by omega)) (by omega));rw[zq (hr.row i) hx hm]at h1;exact⟨_,h1.1,h1.2.mono (Nat.add_le_add_right (Nat.mul_le_mul_right _ hm) 1)⟩
 have hsz:=hK;refine⟨?_,λi hi=>?_⟩
 ·unfold lu;refine qf (λj=>vq j (λi=>g i-cu (λj=>F i j*f j) N)) Y (λi hi=>?_) Y;obtain⟨q,e1,r1⟩:=row i hi;have rb:=hb.gd i;have e2:=(rb.sub r1 hsz).1;generalize hbq:bd.getD i (⟨⟨false,[]⟩,⟨false,[]⟩⟩:Qr)=bq at e2;have e3:sX 64 (vq i (λi=>g i-cu (λj=>F i j*f j) N)) [qn (g i-cu (λj=>F i j*f j) N)]=some (vq (i+1) (λi=>g i-cu (λj=>F i j*f j) N)):=by rw[uI (by decide) (by rw[dc];have:i<rw.length:=hi;omega),vV]
  generalize qn (g i-cu (λj=>F i j*f j) N)=q2 at e2 e3;exact aA Y<|aA (a:=bq) (by first|rfl|exact congrArg some hbq)<|aA e1<|aA e2<|aA e3 Y
 obtain⟨q,e1,r1⟩:=row i hi;exact((hb.gd i).sub r1 hsz).2.fq
def SF(n:Int)(rw:List (List Qr))(bd:List Qr)(O F:Nat->Nat->Rat)(g:Nat->Rat):Lr:=
 ⟨(rw.length:Int),[vq bd.length (λi=>-g i)],mq n.toNat (λ_=>rw.length) (λk i=>-F i k),vq n.toNat (λk=>-O 0 k)⟩
theorem QG(ho:gp M ob O)(hr:gp L rw F)(hb:cC K bd g)(hM:M<=35184372088768)(hL:L<=35184372088768)(hK:K<=35184372088708)(hv:zu n ob rw bd)(Xw:rw.length<=64):oV ⟨n,ob,rw,bd⟩=some (SF n rw bd O F g,0):=by
 have pE:=hv;unfold zu at pE;obtain⟨m,rfl⟩:∃m:Nat,n=(m:Int):=⟨n.toNat,by omega⟩;have hneg:∀i,(((-1:Int):Rat))*g i=-g i:=λi=>by
  have:(((-1:Int):Rat))=-1:=by decide
  rw[this];grind
 obtain⟨c,e1,r1⟩:=int' (n:=-1) (by decide);have e2:=(Bd r1 hb (by omega) (by omega)).1;rw[r8 (k:=λi=>-g i) (λi _=>hneg i)]at e2;unfold oV;refine cD<|aA (vY (by omega) (by omega))<|aA Y<|Ii (λ_=>aA Y<|aA Y Y)<|Ii (λ_=>aA Y Y)<|bQ ?_<|aA Y<|aA e1<|aA e2 ?_
 ·simp only[Bool.or_eq_false_iff,Bool.not_eq_false',decide_eq_true_eq,decide_eq_false_iff_not];exact⟨⟨hv,by omega⟩,by omega⟩
 refine bH (λk=>((k:Int),mq k (λ_=>rw.length) (λk i=>-F i k),vq k (λk=>-O 0 k))) m (mq m (λ_=>rw.length) (λk i=>-F i k),vq m (λk=>-O 0 k)) Y (λk hk=>?_) (aA (dF (by omega))<|bQ Y Y) Y;refine aA (dT (by omega))<|bX Y<|aA (Yg _ (by omega))<|aA Y ?_;have agK:∀q x,ik M q x->∃p,iY q=some p/\p=qn (-x):=λq x h=>⟨_,(h.neg (by omega)).1,Y⟩;refine bH (λj=>((j:Int),jE (λi=>qn (-F i k)) rw.length j ⟨⟨false,[]⟩,⟨false,[]⟩⟩)) rw.length (vq rw.length (λi=>-F i k)) (by rw[qj];rfl) (λj hj=>?_) ?_ ?_
 ·have e3:=Ob hr (by omega) j k;have e4:=(((hr.row j).fq k).rep hr.l1).neg (by omega);have e4:=e4.1;have hl:(jE (λi=>qn (-F i k)) rw.length j ⟨⟨false,[]⟩,⟨false,[]⟩⟩).length=rw.length:=sQ (by omega);have hst:∀q,qn (-F j k)=q->(jE (λi=>qn (-F i k)) rw.length j ⟨⟨false,[]⟩,⟨false,[]⟩⟩).set j q=jE (λi=>qn (-F i k)) rw.length (j+1) ⟨⟨false,[]⟩,⟨false,[]⟩⟩:=by rintro q rfl;exact sV hj
  generalize qn (F j k)=q at e3 e4;generalize hq:qn (-F j k)=q2 at e4;have hst:=hst q2 hq;refine aA (dT (by rw[List.length_replicate];omega))<|bX Y<|aA e3<|aA e4<|aA (fe (show j<_ by rw[hl];exact hj))<|aA (iH (show j<_ by rw[hl];exact hj))<|aA (congrArg some (bZ (by omega))) ?_;rw[<-hst]
 ·refine aA (dF (by rw[List.length_replicate];omega))<|bQ Y ?_;rw[sS];rfl
 have e3:=Ob ho (by omega) 0 k;have e4:=((((ho.row 0).fq k).rep ho.l1).neg (by omega)).1;have e5:sX 24 (mq k (λ_=>rw.length) (λk i=>-F i k)) [vq rw.length (λi=>-F i k)]=some (mq (k+1) (λ_=>rw.length) (λk i=>-F i k)):=by
  rw[uI (by decide) (by rw[fg];omega)];unfold mq;rw[List.range_succ,List.map_append];rfl
 have e6:sX 64 (vq k (λk=>-O 0 k)) [qn (-O 0 k)]=some (vq (k+1) (λk=>-O 0 k)):=by rw[uI (by decide) (by rw[dc];omega),vV]
 generalize qn (O 0 k)=q at e3 e4;generalize qn (-O 0 k)=q2 at e4 e6;exact aA e5<|aA e3<|aA e4<|aA e6<|aA (congrArg some (bZ (by omega))) Y
end lps
theorem UY{L M K L' M' K':Nat}{n n':Int}{ob ob' rw rw':List (List Qr)}{bd bd':List Qr}{O O' F F':Nat->Nat->Rat}{g g':Nat->Rat}(ho:gp M ob O)(hr:gp L rw F)(hb:cC K bd g)(ho':gp M' ob' O')(hr':gp L' rw' F')(hb':cC K' bd' g')
  (s1:M+M'<=35184372088768) (s2:L+L'<=35184372088768) (s3:K<=35184372088788/\K'<=35184372088788) (h0:n=n') (h1:ob.length=ob'.length) (h2:rw.length=rw'.length) (h3:bd.length=bd'.length) (e1:∀i j,O i j=O' i j) (e2:∀i j,F i j=F' i j) (e3:∀i,g i=g' i):nx ⟨n,ob,rw,bd⟩ ⟨n',ob',rw',bd'⟩=some true:=by
 unfold nx ic;refine aA (aA Y<|aA Y<|aA Y Y)<|aA (aA Y<|aA Y<|aA Y Y)<|aA Y<|bQ ?_<|cD<|aA (JF ho ho' s1 e1)<|Bf (aA (JF hr hr' s2 e2) Y)<|Bf (aA (Yc hb hb' s3.1 s3.2 e3) Y) Y;simp[h0,h1,h2,h3]
end
section
open Go.Fw
theorem QH{α:Type}{l:List α}{i:Nat}{a:α}(h:l[i]? =some a):a∈l:=List.mem_of_getElem? h
theorem Oe{l:List (List Qr)}{i:Nat}{P:List Qr->Prop}(hi:i<l.length)(ht:∀v∈l.take i,P v)(hp:P l[i]):∀v∈l.take (i+1),P v:=by
 rw[List.take_add_one,List.getElem?_eq_getElem hi];intro u hu;rcases List.mem_append.1 hu with h|h
 ·exact ht u h
 simp at h;rw[h];exact hp
abbrev Yh(v:List Qr):Prop:=v.length<=20/\∀q∈v,q.num.w.length<=6/\q.den.w.length<=6
abbrev ZB(v:List Qr):Prop:=v.length<=8/\∀q∈v,q.num.w.length<=6/\q.den.w.length<=6
theorem Bh(l:List (List Qr))(hl:l.length<=9223372036854775807):∃b,ij l=some b/\(b=false->∀v∈l,Yh v):=by
 unfold ij;refine mX (λy=>∃i:Nat,y=(i:Int)/\i<=l.length/\∀v∈l.take i,Yh v) (λe=>(∃c,e=.inl c/\∀v∈l,Yh v)\/e=.inr true) (λy=>l.length-y.toNat) ?_ ⟨0,Y,by omega,by simp⟩ ?_
 ·rintro _ ⟨i,rfl,hi,ht⟩;by_cases hlt:i<l.length
  ·have g:=List.getElem?_eq_getElem hlt;by_cases h1:20<l[i].length
   ·exact .inr ⟨.inr true,aA Y<|aA (dT (by omega))<|bX Y<|cD<|aA (bP g)<|aA Y<|aA (dT (by omega))<|aA (a:=true) (bX Y Y) Y,.inr Y⟩
   obtain⟨b,hb,hs⟩:=Gu l[i] (by omega);cases b
   ·refine .inl ⟨((i+1:Nat):Int),?_,⟨i+1,Y,hlt,Oe hlt ht ⟨by omega,hs Y⟩⟩,by simp only[Int.toNat_natCast];omega⟩;exact aA Y<|aA (dT (by omega))<|bX Y<|cD<|aA (bP g)<|aA Y<|aA (dF (by omega))<|aA (a:=false) (bQ Y<|aA (bP g)<|aA hb Y)<|bQ Y<|aA (congrArg some (bZ (by omega))) Y
   exact .inr ⟨.inr true,aA Y<|aA (dT (by omega))<|bX Y<|cD<|aA (bP g)<|aA Y<|aA (dF (by omega))<|aA (a:=true) (bQ Y<|aA (bP g)<|aA hb Y) Y,.inr Y⟩
  refine .inr ⟨.inl (),?_,.inl ⟨(),Y,?_⟩⟩
  ·exact aA Y<|aA (dF (by omega))<|bQ Y Y
  rw[List.take_of_length_le (by omega)]at ht;exact ht
 rintro e (⟨c,rfl,he⟩|rfl)
 ·exact⟨false,Y,λ_=>he⟩
 exact⟨true,rfl,λh=>by cases h⟩
theorem Of(m:List (List Qr))(h:m.length<=9223372036854775806):kH m=some (jF m:Int):=by
 unfold kH;refine bH (λj=>(((m.take j).foldl (λn v=>max n v.length) 0:Nat),(j:Int))) m.length ((jF m:Nat):Int) (by simp) (λj hj=>?_) ?_ Y
 ·refine aA Y<|aA (dT (by omega))<|bX Y<|aA (bP (List.getElem?_eq_getElem hj))<|aA Y<|aA Y<|aA (congrArg some (bZ (by omega))) ?_;rw[List.take_add_one,List.getElem?_eq_getElem hj,List.foldl_append];simp only[Option.toList_some,List.foldl_cons,List.foldl_nil];congr 3;omega
 refine aA Y<|aA (dF (by omega))<|bQ Y ?_;rw[List.take_length];rfl
theorem Gy(m:List (List Qr)):∃b,jn [m]=some b/\(b=false->m.length<=8/\∀v∈m,ZB v):=by
 unfold jn;have hg:cY [m] (0:Int)=some m:=rfl;by_cases h8:8<m.length
 ·refine⟨true,?_,λh=>by cases h⟩;refine bH (λj=>(j:Int)) 0 (.inr true) Y (λj hj=>by omega) ?_ Y;exact aA Y<|aA (dT (by simp))<|bX Y<|cD<|aA hg<|aA Y<|aA (dT (by omega))<|aA (a:=true) (bX Y Y)<|aA (a:=true) (bX Y Y) Y
 by_cases hc:8<jF m
 ·refine⟨true,?_,λh=>by cases h⟩;refine bH (λj=>(j:Int)) 0 (.inr true) Y (λj hj=>by omega) ?_ Y;exact aA Y<|aA (dT (by simp))<|bX Y<|cD<|aA hg<|aA Y<|aA (dF (by omega))<|aA (a:=true) (bQ Y<|aA hg<|aA (Of m (by omega))<|aA (dT (by omega)) Y)<|aA (a:=true) (bX Y Y) Y
 obtain⟨b,hb,hs⟩:=Bh m (by omega);cases b
 ·refine⟨false,?_,λ_=>⟨by omega,λv hv=>⟨?_,(hs Y v hv).2⟩⟩⟩
  ·refine bH (λj=>(j:Int)) 1 (.inl ()) Y (λj hj=>?_) (aA Y<|aA (dF (by simp))<|bQ Y Y) Y;obtain rfl:j=0:=by omega
   exact aA Y<|aA (dT (by simp))<|bX Y<|cD<|aA hg<|aA Y<|aA (dF (by omega))<|aA (a:=false) (bQ Y<|aA hg<|aA (Of m (by omega))<|aA (dF (by omega)) Y)<|aA (a:=false) (bQ Y<|aA hg<|aA hb Y)<|bQ Y<|aA (congrArg some (bZ (by omega))) Y
  have:=iz.1 (Nat.le_refl (jF m)) v hv;omega
 refine⟨true,?_,λh=>by cases h⟩;refine bH (λj=>(j:Int)) 0 (.inr true) Y (λj hj=>by omega) ?_ Y;exact aA Y<|aA (dT (by simp))<|bX Y<|cD<|aA hg<|aA Y<|aA (dF (by omega))<|aA (a:=false) (bQ Y<|aA hg<|aA (Of m (by omega))<|aA (dF (by omega)) Y)<|aA (a:=true) (bQ Y<|aA hg<|aA hb Y)<|bX Y Y
theorem QI(m:List (List Qr))(h:m.length<=1000):kJ m=some (decide (∀i,i<m.length->(m.getD i []).length=0)):=by
 unfold kJ;refine aA (xp (p:=λi=>(m.getD i []).length=0) (e:=false) (n:=m.length) (λi hi=>?_) (aA Y<|aA (dF (by omega))<|bQ Y Y)) ?_
 ·refine aA Y<|aA (dT (by omega))<|bX Y<|aA (bP (cH (d:=[]) hi))<|aA Y<|aA Y ?_;by_cases hz:(m.getD i []).length=0
  ·rw[if_pos hz];exact bQ (decide_eq_false (by omega))<|aA (congrArg some (bZ (by omega))) Y
  rw[if_neg hz];exact bX (decide_eq_true (by omega)) Y
 by_cases hp:∀i,i<m.length->(m.getD i []).length=0
 ·rw[if_pos hp,decide_eq_true hp]
 rw[if_neg hp,decide_eq_false hp]
structure Sm6 (ob rw:List (List Qr)) (bd:List Qr):Prop where
 lo:ob.length<=6
 lr:rw.length<=140
 lb:bd.length<=140
 so:∀v∈ob,ZB v
 sr:∀v∈rw,ZB v
 sb:Yh (bd.take (min bd.length 20))
theorem Og{n:Int}{ob rw:List (List Qr)}{bd:List Qr}:∃b,kK ⟨n,ob,rw,bd⟩=some b/\(b=false->Sm6 ob rw bd):=by
 unfold kK;obtain⟨b1,e1,s1⟩:=Gy rw;obtain⟨b2,e2,s2⟩:=Gy ob;have Yi:l9 bd=some (bd.take (min bd.length 20)):=by
  unfold l9;have hm:min (bd.length:Int) 20=((min bd.length 20:Nat):Int):=by omega
  refine aA Y<|aA (congrArg some hm)<|aA (m8 (by omega)) Y
 obtain⟨b3,e3,s3⟩:=Bh [bd.take (min bd.length 20)] (by simp);by_cases c1:6<ob.length
 ·exact⟨true,cD<|aA rfl<|aA (dT (by omega))<|aA (a:=true) (bX rfl rfl)<|aA (a:=true) (bX rfl rfl)<|aA (a:=true) (bX rfl rfl)<|aA (a:=true) (bX rfl rfl)<|aA (a:=true) (bX rfl rfl)<|aA (a:=true) (bX rfl rfl) rfl,λh=>by cases h⟩
 by_cases c2:140<rw.length
 ·exact⟨true,cD<|aA rfl<|aA (dF (by omega))<|aA (a:=true) (bQ rfl<|aA rfl<|aA (dT (by omega)) rfl)<|aA (a:=true) (bX rfl rfl)<|aA (a:=true) (bX rfl rfl)<|aA (a:=true) (bX rfl rfl)<|aA (a:=true) (bX rfl rfl)<|aA (a:=true) (bX rfl rfl) rfl,λh=>by cases h⟩
 by_cases c3:140<bd.length
 ·exact⟨true,cD<|aA rfl<|aA (dF (by omega))<|aA (a:=false) (bQ rfl<|aA rfl<|aA (dF (by omega)) rfl)<|aA (a:=true) (bQ rfl<|aA rfl<|aA (dT (by omega)) rfl)<|aA (a:=true) (bX rfl rfl)<|aA (a:=true) (bX rfl rfl)<|aA (a:=true) (bX rfl rfl)<|aA (a:=true) (bX rfl rfl) rfl,λh=>by cases h⟩
 have eb:=QI rw (by omega);by_cases c4:8<rw.length
 ·by_cases c5:∀i,i<rw.length->(rw.getD i []).length=0
  ·rw[decide_eq_true c5]at eb;refine⟨_,cD<|aA Y<|aA (dF (by omega))<|aA (a:=false) (bQ Y<|aA Y<|aA (dF (by omega)) Y)<|aA (a:=false) (bQ Y<|aA Y<|aA (dF (by omega)) Y)<|aA (a:=false) (bQ Y<|aA Y<|aA (dT (by omega))<|aA (a:=false) (bX Y<|aA eb<|aA Y Y) Y)<|aA (a:=false) (bQ Y<|aA Y<|aA (dF (by omega))<|aA (a:=false) (bQ Y Y) Y)<|Ii (λ_=>aA e2 Y)<|Ii (λ_=>aA Yi<|aA e3 Y) Y,λh=>?_⟩;simp only[Bool.false_or,Bool.or_eq_false_iff]at h;refine⟨by omega,by omega,by omega,(s2 h.1).2,λv hv=>?_,s3 h.2 _ (by simp)⟩;obtain⟨i,hi,rfl⟩:=List.getElem_of_mem hv;have:=c5 i hi;rw[List.getD_eq_getElem?_getD,List.getElem?_eq_getElem hi]at this;have h0:rw[i]=[]:=List.eq_nil_of_length_eq_zero this;rw[h0];exact⟨by decide,by simp⟩
  rw[decide_eq_false c5]at eb;exact⟨true,cD<|aA rfl<|aA (dF (by omega))<|aA (a:=false) (bQ rfl<|aA rfl<|aA (dF (by omega)) rfl)<|aA (a:=false) (bQ rfl<|aA rfl<|aA (dF (by omega)) rfl)<|aA (a:=true) (bQ rfl<|aA rfl<|aA (dT (by omega))<|aA (a:=true) (bX rfl<|aA eb<|aA rfl rfl) rfl)<|aA (a:=true) (bX rfl rfl)<|aA (a:=true) (bX rfl rfl)<|aA (a:=true) (bX rfl rfl) rfl,λh=>by cases h⟩
 refine⟨_,cD<|aA Y<|aA (dF (by omega))<|aA (a:=false) (bQ Y<|aA Y<|aA (dF (by omega)) Y)<|aA (a:=false) (bQ Y<|aA Y<|aA (dF (by omega)) Y)<|aA (a:=false) (bQ Y<|aA Y<|aA (dF (by omega))<|aA (a:=false) (bQ Y Y) Y)<|Ii (c:=b1) (λ_=>aA Y<|aA (dT (by omega))<|aA (a:=b1) (bX Y<|aA e1 Y) Y)<|Ii (λ_=>aA e2 Y)<|Ii (λ_=>aA Yi<|aA e3 Y) Y,λh=>?_⟩;simp only[Bool.false_or,Bool.or_eq_false_iff]at h;exact⟨by omega,by omega,by omega,(s2 h.1.2).2,(s1 h.1.1).2,s3 h.2 _ (by simp)⟩
end
section
open Go.Fw
theorem FQ.neg'{L:Nat}{x:Rat}(h:FQ L x)(h1:1<=L)(hL:L<=35184372088788):FQ L (-x):=((h.rep h1).neg hL).2.fq
theorem CR{L:Nat}{m:List (List Qr)}{F:Nat->Nat->Rat}(h:gp L m F){n:Nat}(hn:jF m<=n)(i:Nat){k:Nat}(hk:n<=k):F i k=0:=by
 refine(h.row i).z k ?_;by_cases hi:i<m.length
 ·have:=iz.1 hn _ (QH (cH (d:=[]) hi));omega
 rw[eE (by omega)];exact Nat.zero_le _
theorem JH: -(0:Rat)=0:=by decide
section afs
variable {K L M:Nat}{n:Int}{ob rw:List (List Qr)}{bd:List Qr}{O F:Nat->Nat->Rat}{g:Nat->Rat}
theorem UZ(hb:cC K bd g)(hK:K<=35184372088788):gp K [vq bd.length (λi=>-g i)] (λi j=>if i=0 then-g j else 0):=
 Oa (oF (λi _=>(hb.fq i).neg' hb.l1 hK) (λi hi=>by rw[hb.z i hi];exact JH) hb.l1)
theorem U0(hr:gp L rw F)(hL:L<=35184372088788)(hv:zu n ob rw bd):gp L (mq n.toNat (λ_=>rw.length) (λk i=>-F i k)) (λk i=>-F i k):=by
 unfold zu at hv;refine Eo (λk _ i _=>((hr.row i).fq k).neg' hr.l1 hL) (λk _ i hi=>by rw[hr.z i hi k];exact JH) (λk hk i=>?_) hr.l1;rw[CR hr (n:=n.toNat) (by omega) i hk];exact JH
theorem U1(ho:gp M ob O)(hM:M<=35184372088788)(hv:zu n ob rw bd):cC M (vq n.toNat (λk=>-O 0 k)) (λk=>-O 0 k):=by
 unfold zu at hv;refine oF (λk _=>((ho.row 0).fq k).neg' ho.l1 hM) (λk hk=>?_) ho.l1;rw[CR ho (n:=n.toNat) (by omega) 0 hk];exact JH
theorem U3(hv:zu n ob rw bd)(Xw:rw.length<=64):zu (rw.length:Int) [vq bd.length (λi=>-g i)] (mq n.toNat (λ_=>rw.length) (λk i=>-F i k)) (vq n.toNat (λk=>-O 0 k)):=by
 unfold zu at hv⊢;refine⟨by omega,by omega,by simp,by simp,by rw[fg];omega,by rw[dc,fg],?_,?_⟩
 ·have:jF [vq bd.length (λi=>-g i)]<=rw.length:=iz.2 (λv h=>by rw[List.mem_singleton.1 h,dc];omega);omega
 have:jF (mq n.toNat (λ_=>rw.length) (λk i=>-F i k))<=rw.length:=iz.2 (λv h=>by
  obtain⟨i,hi,rfl⟩:=List.mem_map.1 h;rw[dc];exact Nat.le_refl _)
 omega
end afs
theorem xq{L:Nat}{v:List Qr}{f:Nat->Rat}{q:Qr}{x:Rat}(h:cC L v f)(hq:ik L q x):cC L (q::v) (λi=>match i with|0=>x|i+1=>f i):=by
 refine⟨λi hi=>?_,λi hi=>?_,h.l1⟩
 ·match i,hi with
  |0,_=>exact hq
  |i+1,hi=>exact h.e i (by simpa using hi)
 match i,hi with
 |0,hi=>simp at hi
 |i+1,hi=>exact h.z i (by simpa using hi)
theorem QJ{n d:Int}(hn:dj n)(hd:dj d)(h0:d≠0):ik 2 (qn (Rat.divInt n d)) (Rat.divInt n d):=(Gm h0 (nc hn) (nc hd) (by decide)).fq.rep (by decide)
theorem U4:fu=some true:=by
 obtain⟨eo,ro⟩:=JG (l:=[[3,5]]) (by decide) (by decide);obtain⟨er,rr⟩:=JG (l:=[[1,0],[0,2],[3,2]]) (by decide) (by decide);obtain⟨eb,rb⟩:=yx (l:=[4,12,18]) (by decide) (by decide);obtain⟨eo',ro'⟩:=JG (l:=[[-4,-12,-18]]) (by decide) (by decide);obtain⟨er',rr'⟩:=JG (l:=[[-1,0,-3],[0,-2,-2]]) (by decide) (by decide);obtain⟨eb',rb'⟩:=yx (l:=[-3,-5]) (by decide) (by decide);obtain⟨ex,rx⟩:=yx (l:=[2,6]) (by decide) (by decide);obtain⟨Ws,r36⟩:=yx (l:=[36]) (by decide) (by decide);obtain⟨afu,afv⟩:=yx (l:=[-36]) (by decide) (by decide);obtain⟨es,rs⟩:=yx (l:=[2,0,0]) (by decide) (by decide);have e32:=UT (n:=3) (d:=2) (by decide) (by decide) (by decide);have e1:=QA (n:=1) (by decide);have r32:ik 2 (qn (Rat.divInt 3 2)) (Rat.divInt 3 2):=QJ (by decide) (by decide) (by decide);have r1:ik 2 (qn ((1:Int):Rat)) ((1:Int):Rat):=(mY (by decide)).2;have ry:=xq (xq (xq (cC.nil (L:=2) (by decide)) r1) r32) (Bc (L:=2) (by decide));generalize hmo:mq [[(3:Int),5]].length _ _=mo at eo ro;generalize hmr:mq [[(1:Int),0],[0,2],[3,2]].length _ _=mr at er rr;generalize hvb:vq [(4:Int),12,18].length _=vb at eb rb;have lo:mo.length=1:=by rw[<-hmo,fg];rfl
 have lr:mr.length=3:=by rw[<-hmr,fg];rfl
 have lb:vb.length=3:=by rw[<-hvb,dc];rfl
 have wo:∀v∈mo,v.length<=2:=by rw[<-hmo];decide+kernel
 have wr:∀v∈mr,v.length<=2:=by rw[<-hmr];decide+kernel
 have co:jF mo<=2:=iz.2 wo;have cr:jF mr<=2:=iz.2 wr;have hv:zu 2 mo mr vb:=⟨by decide,by decide,by omega,by omega,by omega,by omega,by omega,by omega⟩;have ed:=QG (n:=2) ro rr rb (by decide) (by decide) (by decide) hv (by omega);have do_:=UZ rb (by decide);have dr:=U0 rr (by decide) hv;have db:=U1 ro (by decide) hv;have dv:=U3 (O:=λi j=>((([[3,5]]:List (List Int)).getD i []).getD j 0:Rat)) (F:=λi j=>((([[1,0],[0,2],[3,2]]:List (List Int)).getD i []).getD j 0:Rat)) (g:=λi=>(([4,12,18]:List Int).getD i 0:Rat)) hv (by omega);unfold SF at ed;have ev:=vY (n:=2) (ob:=mo) (rw:=mr) (bd:=vb) (by omega) (by omega);rw[decide_eq_true hv]at ev;have lx:(vq [(2:Int),6].length (λi=>(([2,6]:List Int).getD i 0:Rat))).length=2:=dc _ _;generalize vq [(2:Int),6].length _=vx at ex rx lx;have ef:=zw (n:=2) (ob:=mo) (N:=2) rr rb rx (λv hv=>by have:=wr v hv;omega) (by decide) (by decide) (by omega) (by omega) (by omega);rw[decide_eq_true (show KE 2 mo mr vb vx _ _ _ 2 from⟨hv,by omega,by rw[lx];decide+kernel,by rw[lr];decide+kernel⟩)]at ef;obtain⟨ee,re⟩:=eval_eq (n:=2) (rw:=mr) (bd:=vb) (N:=2) ro rx (λv hv=>by have:=wo v hv;omega) (by decide) (by omega);rw[lo]at ee re;have c1:=Yd re r36 (by decide)
 rw[dc,dc,decide_eq_true (by decide+kernel)]at c1;obtain⟨VA,Yj⟩:=Gx (n:=2) (ob:=mo) (N:=2) rr rb rx (λv hv=>by have:=wr v hv;omega) (by decide) (by decide) (by omega);rw[lr]at VA Yj;have kY:=Ep Yj (by decide);have c2:=Yd kY rs (by decide);rw[dc,dc,decide_eq_true (by decide+kernel)]at c2;rw[lb,lr]at ed;rw[lb]at do_;rw[lr]at dr;rw[lb,lr]at dv;have c3:=UY (n:=3) (n':=3) do_ dr db ro' rr' rb' (by decide) (by decide) (by decide) Y (by rw[fg];rfl) (by rw[fg,fg];rfl) (by rw[dc,dc];rfl) (λi j=>?_) (λi j=>?_) (λi=>?_)
 ·have ly:([qz,qn (Rat.divInt 3 2),qn ((1:Int):Rat)]:List Qr).length=3:=rfl;have eg:=zw (n:=3) (N:=3) dr db ry (ob:=[vq 3 (λi=>-(([4,12,18]:List Int).getD i 0:Rat))]) (λv hv=>by rw[ly];omega) (by decide) (by decide) (by simp) (by rw[fg];decide) (by rw[ly];decide);rw[decide_eq_true (show KE 3 _ _ _ _ _ _ _ 3 from⟨dv,by rw[ly];decide,by rw[ly];decide+kernel,by rw[fg];decide+kernel⟩)]at eg;obtain⟨eh,rh⟩:=eval_eq (n:=3) (rw:=mq 2 (λ_=>3) (λk i=>-((([[1,0],[0,2],[3,2]]:List (List Int)).getD i []).getD k 0:Rat))) (bd:=vq 2 (λk=>-((([[3,5]]:List (List Int)).getD 0 []).getD k 0:Rat))) (N:=3) do_ ry (λv hv=>by rw[ly];omega) (by decide) (by simp);have c4:=Yd rh afv (by decide);rw[dc,dc,decide_eq_true (by decide+kernel)]at c4;unfold fu lG;generalize qn (Rat.divInt 3 2)=q32 at*;generalize qn ((1:Int):Rat)=q1 at*;refine aA (aA eo<|aA er<|aA eb Y)<|aA ed<|aA eo'<|aA er'<|aA eb'<|aA ex<|aA e32<|aA e1<|cD ?_;exact aA ev<|Bf (aA ef Y)<|Bf (aA ee<|aA Ws<|aA c1 Y)<|Bf (aA VA<|aA es<|aA c2 Y)<|Bf (aA (dT Y) Y)<|Bf (aA c3 Y)<|Bf (aA eg Y)<|Bf (aA eh<|aA afu<|aA c4 Y) Y
 ·match i with
  |0=>
   match j with
   |0=>decide+kernel
   |1=>decide+kernel
   |2=>decide+kernel
   |j+3=>simp only[List.getD_cons_succ,List.getD_cons_zero,List.getD_nil,if_true];decide
  |i+1=>simp only[List.getD_cons_succ,List.getD_nil];rw[if_neg (by omega)];rfl
 ·match j with
  |0=>
   match i with
   |0=>decide+kernel
   |1=>decide+kernel
   |i+2=>simp only[List.getD_cons_succ,List.getD_cons_zero,List.getD_nil];decide
  |1=>
   match i with
   |0=>decide+kernel
   |1=>decide+kernel
   |i+2=>simp only[List.getD_cons_succ,List.getD_cons_zero,List.getD_nil];decide
  |2=>
   match i with
   |0=>decide+kernel
   |1=>decide+kernel
   |i+2=>simp only[List.getD_cons_succ,List.getD_cons_zero,List.getD_nil];decide
  |j+3=>
   match i with
   |0=>simp only[List.getD_cons_succ,List.getD_cons_zero,List.getD_nil];decide
   |1=>simp only[List.getD_cons_succ,List.getD_cons_zero,List.getD_nil];decide
   |i+2=>simp only[List.getD_cons_succ,List.getD_cons_zero,List.getD_nil];decide
 match i with
 |0=>decide+kernel
 |1=>decide+kernel
 |i+2=>simp only[List.getD_cons_succ,List.getD_cons_zero,List.getD_nil];decide
end
section
open Go.Fw
abbrev Yk(m:List (List Qr)):Prop:=m.length*24<=140737488351232/\∀v∈m,SD v
abbrev OkL(p:Lr):Prop:=dj p.vars/\Yk p.ud/\Yk p.rows/\SD p.bounds
theorem SG{m:List (List Qr)}(h:Yk m)(s:∀v∈m,ZB v):gp 6 m (Ij m):=
 QD (λv hv=>Em (λq hq=>En ((h.2 v hv).2 q hq) ((s v hv).2 q hq).1 ((s v hv).2 q hq).2 (by decide)) (by decide)) (by decide)
theorem Oh{v:List Qr}(h:SD v)(s:Yh v):cC 6 v (xo v):=Em (λq hq=>En (h.2 q hq) (s.2 q hq).1 (s.2 q hq).2 (by decide)) (by decide)
theorem al6:(fu.bind λx=>some x)=some true:=aA U4 Y
theorem Oi(h:Nat->Rat)(n:Nat):cu (λi=>-h i) n=-cu h n:=by
 rw[uM (k:=λi=>(-1:Rat)*h i) (λi _=>by grind),Gn];grind
section made
variable {K L M:Nat}{n:Int}{ob rw:List (List Qr)}{bd x:List Qr}{O F:Nat->Nat->Rat}{g f:Nat->Rat}
end made
end
section
open Go.Fw
theorem Bi(f g:Nat->Rat):∀n,jg f g n=-1\/jg f g n=0\/jg f g n=1
 |0=>.inr (.inl Y)
 |n+1=>by
  rw[jg];split
  ·exact Bi f g n
  rcases UU (f n) (g n)with h|h|h
  ·exact .inl (zo h)
  ·rw[h,o8];exact .inr (.inl Y)
  exact .inr (.inr (vT h))
theorem xu(f g:Nat->Rat):∀n,jg g f n=-jg f g n
 |0=>rfl
 |n+1=>by
  have ih:=xu f g n;rw[jg,jg];by_cases h:jg g f n=0
  ·have h':jg f g n=0:=by omega
   rw[if_neg (by simpa using h),if_neg (by simpa using h')];rcases UU (f n) (g n)with q|q|q
   ·rw[zo q,vT q];rfl
   ·rw[q,o8];rfl
   rw[zo q,vT q]
  have h':jg f g n≠0:=by omega
  rw[if_pos h,if_pos h',ih]
theorem afy{L:Nat}{v:List Qr}{f:Nat->Rat}(h:cC L v f)(hL:L<=35184372088788)(hn:v.length<=1000):ji v (v.length:Int)=some (vq v.length f):=by
 rw[QB h hL (by omega)];rw[show(min (v.length:Int) 65536).toNat=v.length by omega]
theorem Oj{L:Nat}{m m':List (List Qr)}{F G:Nat->Nat->Rat}(h:gp L m F)(k:gp L m' G):gp L (m++m') (λi=>if i<m.length then F i else G (i-m.length)):=by
 refine⟨λi v e=>?_,λi hi j=>?_,h.l1⟩
 ·show cC L v (if i<m.length then F i else G (i-m.length));by_cases hi:i<m.length
  ·rw[if_pos hi];rw[List.getElem?_append_left hi]at e;exact h.e i v e
  rw[if_neg hi];rw[List.getElem?_append_right (by omega)]at e;exact k.e _ v e
 show(if i<m.length then F i else G (i-m.length)) j=0;rw[List.length_append]at hi;rw[if_neg (by omega)];exact k.z _ (by omega) j
theorem Ol{L:Nat}{u v:List Qr}{f h:Nat->Rat}(hu:cC L u f)(hv:cC L v h):cC L (u++v) (λi=>if i<u.length then f i else h (i-u.length)):=by
 refine⟨λi hi=>?_,λi hi=>?_,hu.l1⟩
 ·show ik L (u++v)[i] (if i<u.length then f i else h (i-u.length));by_cases q:i<u.length
  ·rw[if_pos q,List.getElem_append_left q];exact hu.e i q
  rw[if_neg q,List.getElem_append_right (by omega)];exact hv.e _ (by rw[List.length_append]at hi;omega)
 show(if i<u.length then f i else h (i-u.length))=0;rw[List.length_append]at hi;rw[if_neg (by omega)];exact hv.z _ (by omega)
section ext
variable {K L M N:Nat}{n:Int}{ob rw:List (List Qr)}{bd x:List Qr}{O F:Nat->Nat->Rat}{g f:Nat->Rat}
theorem Om(ho:gp M ob O)(hr:gp L rw F)(hb:cC K bd g)(hM:M<=35184372088708)(hL:L<=35184372088708)(hK:K<=35184372088708)(l1:ob.length<=1000000)(l2:rw.length<=1000000)(l3:bd.length<=1000000)(w1:∀v∈ob,v.length<=1000000)(w2:∀v∈rw,v.length<=1000000):
  kD ⟨n,ob,rw,bd⟩=some (n,mq ob.length (λi=>(ob.getD i []).length) O,mq rw.length (λi=>(rw.getD i []).length) F,vq bd.length g):=by
 have hone:∀x:Rat,(((1:Int):Rat))*x=x:=λx=>by
  have:(((1:Int):Rat))=1:=by decide
  rw[this];grind
 obtain⟨c,e1,r1⟩:=int' (n:=1) (by decide);have e2:=(Od r1 ho (by omega) l1 w1).1;have e3:=(Od r1 hr (by omega) l2 w2).1;have e4:=(Bd r1 hb (by omega) l3).1;rw[Gv (G:=O) (λi _=>⟨Y,λk _=>hone _⟩)]at e2;rw[Gv (G:=F) (λi _=>⟨Y,λk _=>hone _⟩)]at e3;rw[r8 (λi _=>hone _)]at e4;have Z0:mS c rw=some (mq rw.length (λi=>(rw.getD i []).length) F):=by rw[<-e3];rfl
 have e4':mU c bd=some (vq bd.length g):=by rw[<-e4];rfl
 unfold kD;exact aA e1<|aA e2<|aA Z0<|aA e4' Y
structure Cons (l:List Cn) (ln:Nat->Nat) (R:Nat->Nat->Rat) (b:Nat->Rat):Prop where
 c:∀i y,l[i]? =some y->y.row.length=ln i/\cC 12 y.row (R i)/\ik 12 y.most (b i)/\ln i<=1000
 n:l.length<=2
def B7(n:Int)(ob rw:List (List Qr))(bd:List Qr)(l:List Cn)(ln:Nat->Nat):Prop:=zu n ob rw bd/\rw.length+l.length<=128/\∀i,i<l.length->(ln i:Int)<=n
instance(n:Int)(ob rw:List (List Qr))(bd:List Qr)(l:List Cn)(ln:Nat->Nat):Decidable (B7 n ob rw bd l ln):=by unfold B7;exact inferInstance
def Er(n:Int)(ob rw:List (List Qr))(bd:List Qr)(O F:Nat->Nat->Rat)(g:Nat->Rat)(m:Nat)(ln:Nat->Nat)(R:Nat->Nat->Rat)(b:Nat->Rat):Lr:=
 ⟨n,mq ob.length (λi=>(ob.getD i []).length) O,mq rw.length (λi=>(rw.getD i []).length) F++mq m ln R,vq bd.length g++vq m b⟩
theorem ext_eq{l:List Cn}{ln:Nat->Nat}{R:Nat->Nat->Rat}{b:Nat->Rat}(hc:Cons l ln R b)(ho:gp M ob O)(hr:gp L rw F)(hb:cC K bd g)(hM:M<=35184372088708)(hL:L<=35184372088708)(hK:K<=35184372088708)(l1:ob.length<=1000)(l2:rw.length<=1000):
  jX ⟨n,ob,rw,bd⟩ l=some (if B7 n ob rw bd l ln then(Er n ob rw bd O F g l.length ln R b,0)else(⟨0,[],[],[]⟩,1)):=by
 have hn:=hc.n;have hw:IntKind.i64.wrap ((rw.length:Int)+(l.length:Int))=((rw.length+l.length:Nat):Int):=kL (by omega);unfold jX;refine cD<|aA (vY (by omega) (by omega))<|aA Y<|Ii (λ_=>aA Y<|aA Y<|aA (congrArg some hw)<|aA Y Y)<|Gw (λh=>?_) (λh=>?_)
 ·simp only[Bool.or_eq_true,Bool.not_eq_true',decide_eq_true_eq,decide_eq_false_iff_not]at h;rw[if_neg (λq=>?_)];unfold B7 at q;rcases h with h|h
  ·exact h q.1
  omega
 simp only[Bool.or_eq_false_iff,Bool.not_eq_false',decide_eq_true_eq,decide_eq_false_iff_not]at h;obtain⟨hv,h128⟩:=h;have pE:=hv;unfold zu at pE;have Yx:∀v∈ob,v.length<=64:=λv hm=>by have:=iz.1 (Nat.le_refl (jF ob)) v hm;omega
 have Wd:∀v∈rw,v.length<=64:=λv hm=>by have:=iz.1 (Nat.le_refl (jF rw)) v hm;omega
 refine aA Y ?_;have scan:=xp (body:=λ(yh:Int)=>(show Option ((Int)⊕((Unit)⊕(Lr×Int)))from(some (decide ((yh:Int)<(l.length:Int)))).bind λgx=>(bif gx then(cY l yh).bind λ⟨Az,⟨⟨FG,FH⟩,⟨FI,R7⟩⟩⟩=>(some (Az.length:Int)).bind λir=>(some (decide ((n:Int)<ir))).bind λsu=>(bif su then some (.inr (.inr (⟨0,[],[],[]⟩,1)))else(some (IntKind.i64.wrap (yh+1))).bind λwc=>some (.inl wc))else some (.inr (.inl ()))))) (n:=l.length) (p:=λi=>(ln i:Int)<=n) (e:=(⟨0,[],[],[]⟩,1)) (λk hk=>by
  have gk:=List.getElem?_eq_getElem hk;obtain⟨q1,-,-,-⟩:=hc.c k _ gk;generalize l[k]=y at gk q1;by_cases hp:(ln k:Int)<=n
  ·rw[if_pos hp];exact aA (dT (by omega))<|bX Y<|aA (bP gk)<|aA Y<|aA (dF (by omega))<|bQ Y<|aA (congrArg some (bZ (by omega))) Y
  rw[if_neg hp];exact aA (dT (by omega))<|bX Y<|aA (bP gk)<|aA Y<|aA (dT (by omega))<|bX Y Y) (aA (dF (by omega))<|bQ Y Y)
 refine aA scan ?_;by_cases hp:∀i,i<l.length->(ln i:Int)<=n
 ·rw[if_pos hp,if_pos (show B7 n ob rw bd l ln from⟨hv,by omega,hp⟩)];have ec:=Om (n:=n) ho hr hb hM hL hK (by omega) (by omega) (by omega) (λv hm=>by have:=Yx v hm;omega) (λv hm=>by have:=Wd v hm;omega);refine aA ec<|aA Y ?_;have lR:(mq rw.length (λi=>(rw.getD i []).length) F).length=rw.length:=fg _ _ _;have lB:(vq bd.length g).length=bd.length:=dc _ _;unfold Er;generalize mq rw.length (λi=>(rw.getD i []).length) F=A at*;generalize vq bd.length g=B at*;refine bH (λj=>((j:Int),A++mq j ln R,B++vq j b)) l.length (A++mq l.length ln R,B++vq l.length b) (by simp[mq,Qj]) (λj hj=>?_) ?_ Y
  ·have gk:=List.getElem?_eq_getElem hj;obtain⟨q1,q2,q3,q4⟩:=hc.c j _ gk;generalize l[j]=y at gk q1 q2 q3;have k1:=afy q2 (by decide) (by omega);have k2:=(q3.canon (by decide)).1;rw[q1]at k1;have a1:sX 24 (A++mq j ln R) [vq (ln j) (R j)]=some (A++mq (j+1) ln R):=by
    rw[uI (by decide) (by rw[List.length_append,fg];omega),List.append_assoc];unfold mq;rw[List.range_succ,List.map_append];rfl
   have a2:sX 64 (B++vq j b) [qn (b j)]=some (B++vq (j+1) b):=by
    rw[uI (by decide) (by rw[List.length_append,dc];omega),List.append_assoc,vV]
   have hlen:((y.row.length:Nat):Int)=((ln j:Nat):Int):=by rw[q1]
   clear q2 q3;generalize qn (b j)=q at*;exact aA (dT (by omega))<|bX Y<|aA (bP gk)<|aA (congrArg some hlen)<|aA k1<|aA a1<|aA k2<|aA a2<|aA (congrArg some (bZ (by omega))) Y
  exact aA (dF (by omega))<|bQ Y Y
 rw[if_neg hp,if_neg (λq=>hp q.2.2)]
theorem QK{l:List Cn}{ln:Nat->Nat}{R:Nat->Nat->Rat}{b:Nat->Rat}(h:B7 n ob rw bd l ln):zu n (Er n ob rw bd O F g l.length ln R b).ud (Er n ob rw bd O F g l.length ln R b).rows (Er n ob rw bd O F g l.length ln R b).bounds:=by
 obtain⟨hv,h1,h2⟩:=h;unfold zu at hv;show zu n (mq ob.length (λi=>(ob.getD i []).length) O) (mq rw.length (λi=>(rw.getD i []).length) F++mq l.length ln R) (vq bd.length g++vq l.length b);have c1:jF (mq ob.length (λi=>(ob.getD i []).length) O)<=n.toNat:=iz.2 λv hm=>by
  obtain⟨i,hi,rfl⟩:=List.mem_map.1 hm;rw[dc];show(ob.getD i []).length<=n.toNat;have:=iz.1 (Nat.le_refl (jF ob)) _ (List.mem_of_getElem? (cH (d:=[]) (List.mem_range.1 hi)));omega
 have c2:jF (mq rw.length (λi=>(rw.getD i []).length) F++mq l.length ln R)<=n.toNat:=iz.2 λv hm=>by
  rcases List.mem_append.1 hm with hm|hm
  ·obtain⟨i,hi,rfl⟩:=List.mem_map.1 hm;rw[dc];show(rw.getD i []).length<=n.toNat;have:=iz.1 (Nat.le_refl (jF rw)) _ (List.mem_of_getElem? (cH (d:=[]) (List.mem_range.1 hi)));omega
  obtain⟨i,hi,rfl⟩:=List.mem_map.1 hm;rw[dc];have:=h2 i (List.mem_range.1 hi);omega
 unfold zu;rw[fg,List.length_append,fg,fg,List.length_append,dc,dc];omega
theorem Gz{l:List Cn}{ln:Nat->Nat}{R:Nat->Nat->Rat}{b:Nat->Rat}(hc:Cons l ln R b)(h:B7 n ob rw bd l ln)(hr:gp L rw F)(hb:cC K bd g)(hx:cC 6 x f)(hL:L<=2000000)(hK:K<=35184372087818)(hx2:x.length<=20)(afz:12<=L)(afA:12<=K):
  cK (Er n ob rw bd O F g l.length ln R b) x=some (decide (KE n ob rw bd x F g f 20/\∀i,i<l.length->cu (λj=>R i j*f j) 20<=b i)):=by
 have hv2:=QK (O:=O) (F:=F) (g:=g) (R:=R) (b:=b) h;obtain⟨hv,h1,h2⟩:=h;have pE:=hv;unfold zu at pE;have rA:gp L (mq rw.length (λi=>(rw.getD i []).length) F) F:=Eo (λi _ k _=>(hr.row i).fq k) (λi _=>(hr.row i).z) hr.z hr.l1;have hcR:∀i,i<l.length->cC 12 (vq (ln i) (R i)) (R i):=λi hi=>by
  obtain⟨q1,q2,-,-⟩:=hc.c i _ (List.getElem?_eq_getElem hi);exact oF (λj _=>q2.fq j) (λj hj=>q2.z j (by omega)) (by decide)
 have hcB:∀i,i<l.length->FQ 12 (b i):=λi hi=>(hc.c i _ (List.getElem?_eq_getElem hi)).2.2.1.fq;have rB:gp L (mq l.length ln R) (λi=>if i<l.length then R i else λ_=>0):=by
  refine⟨λi v e=>?_,λi hi k=>?_,hr.l1⟩
  ·have hi:i<l.length:=by have:=(List.getElem?_eq_some_iff.1 e).1;rw[fg]at this;exact this
   rw[N9 hi]at e;rw[<-Option.some.inj e];show cC L _ (if i<l.length then R i else λ_=>0);rw[if_pos hi];exact(hcR i hi).mono afz
  rw[fg]at hi;show(if i<l.length then R i else λ_=>0) k=0;rw[if_neg (by omega)]
 have sA:cC K (vq bd.length g) g:=oF (λi _=>hb.fq i) hb.z hb.l1;have sB:cC K (vq l.length b) (KD l.length b):=Ep (λi hi=>(hcB i hi).mono afA) hb.l1;have rr:=Oj rA rB;have ss:=Ol sA sB;unfold Er at hv2⊢;have e:=zw (n:=n) (ob:=mq ob.length (λi=>(ob.getD i []).length) O) (N:=20) rr ss hx (λv _=>by omega) (by omega) (by omega) (by rw[fg];omega) (by rw[List.length_append,fg,fg];omega) (by omega);rw[e];congr 1;rw[decide_eq_decide];unfold KE;rw[List.length_append,fg,fg,dc];constructor
 ·rintro⟨-,k1,k2,k3⟩;refine⟨⟨hv,k1,k2,λi hi=>?_⟩,λi hi=>?_⟩
  ·have:=k3 i (by omega);dsimp only at this;rw[if_pos hi,if_pos (by omega)]at this;exact this
  have:=k3 (rw.length+i) (by omega);dsimp only at this;rw[if_neg (show ¬rw.length+i<rw.length by omega),show rw.length+i-rw.length=i by omega,if_pos hi,if_neg (show ¬rw.length+i<bd.length by omega),show rw.length+i-bd.length=i by omega,vX hi]at this;exact this
 rintro⟨⟨-,k1,k2,k3⟩,k4⟩;refine⟨hv2,k1,k2,λi hi=>?_⟩;dsimp only;by_cases q:i<rw.length
 ·rw[if_pos q,if_pos (by omega)];exact k3 i q
 rw[if_neg q,if_pos (show i-rw.length<l.length by omega),if_neg (show ¬i<bd.length by omega),show i-bd.length=i-rw.length by omega,vX (show i-rw.length<l.length by omega)];exact k4 _ (by omega)
end ext
theorem GA{f g:Nat->Rat}:∀{n:Nat},(∀i,i<n->f i<=g i)->Qm f g n=none
 |0,_=>rfl
 |n+1,h=>by
  rw[Qm,GA (λi hi=>h i (by omega))];have:=h n (by omega);show(if g n<f n then some n else none)=none;rw[if_neg (by grind)]
theorem KF{P:Prop}[Decidable P]{r f:Nat->Rat}{m:Rat}{k:Nat}(hk:k=1):decide (P/\∀i,i<k->cu (λj=>(λ_=>r) i j*f j) 20<=(λ_=>m) i)=(decide P&&decide (cu (λj=>r j*f j) 20<=m)):=by
 rw[<-Bool.decide_and,decide_eq_decide,hk];exact⟨λq=>⟨q.1,q.2 0 (by decide)⟩,λq=>⟨q.1,λi hi=>q.2⟩⟩
theorem KG{P:Prop}[Decidable P]{r f:Nat->Rat}{m:Rat}{k:Nat}(hk:k=2):decide (P/\∀i,i<k->cu (λj=>(λi=>if i=0 then r else λj=>-r j) i j*f j) 20<=(λi=>if i=0 then m else-m) i)=(decide P&&decide (cu (λj=>r j*f j) 20=m)):=by
 rw[<-Bool.decide_and,decide_eq_decide,hk];have hneg:cu (λj=>-r j*f j) 20=-cu (λj=>r j*f j) 20:=by
  rw[<-Oi];congr 1;funext j;grind
 constructor
 ·rintro⟨q1,q2⟩;have a:cu (λj=>r j*f j) 20<=m:=q2 0 (by decide);have b:cu (λj=>-r j*f j) 20<=-m:=q2 1 (by decide);rw[hneg]at b;exact⟨q1,by grind⟩
 rintro⟨q1,q2⟩;refine⟨q1,λi hi=>?_⟩;have:i=0\/i=1:=by omega
 rcases this with rfl|rfl
 ·show cu (λj=>r j*f j) 20<=m;grind
 show cu (λj=>-r j*f j) 20<=-m;rw[hneg];grind
theorem Cc(b:Bool):(some (!(b==b)):Option Bool)=some false:=by cases b<;>rfl
theorem U5{x y:Rat}:decide (nI x y<=0)=decide (x<=y):=by
 rw[decide_eq_decide];rcases UU x y with q|q|q
 ·rw[zo q];exact⟨λ_=>by grind,λ_=>by decide⟩
 ·rw[q,o8];exact⟨λ_=>by grind,λ_=>by decide⟩
 rw[vT q];exact⟨λe=>absurd e (by decide),λe=>by grind⟩
theorem yR(p:Lr)(x y row:List Qr)(most:Qr)(op:OkL p)(ox:SD x)(oy:SD y)(orw:SD row)(om:ZA most):fJ p x y row most=some true:=by
 obtain⟨n,ob,rw,bd⟩:=p;obtain⟨on,oo,Yl,Ym⟩:=op;replace oo:Yk ob:=oo;replace Yl:Yk rw:=Yl;replace Ym:SD bd:=Ym;have z1:=oo.1;have z2:=Yl.1;have z3:=Ym.1;obtain⟨b1,e1,s1⟩:=Og (n:=n) (ob:=ob) (rw:=rw) (bd:=bd);obtain⟨b2,e2,s2⟩:=Bh [x,y,row] (by simp);obtain⟨b3,e3,s3⟩:=Gu [most] (by simp);unfold fJ;refine cD<|aA e1<|Ii (λ_=>aA e2 Y)<|Ii (λ_=>aA e3 Y)<|Gw (λ_=>al6) (λhb=>?_);simp only[Bool.or_eq_false_iff]at hb;obtain⟨⟨wE,Bs⟩,Yq⟩:=hb;have s1:=s1 wE;have sx:=s2 Bs x (by simp);have sy:=s2 Bs y (by simp);have srw:=s2 Bs row (by simp);have sm:=s3 Yq most (by simp);have ro:=SG oo s1.so;have rr:=SG Yl s1.sr;have rb:=Yf Ym;have rx:=Oh ox sx;have ry:=Oh oy sy;have SH:=Oh orw srw;have rm:ik 6 most (qv most):=En om sm.1 sm.2 (by decide);have lx:=sx.1;have ly:=sy.1;have lr:=srw.1;have lo:=s1.lo;have lrw:=s1.lr;have lbd:=s1.lb;clear s1 s2 s3 sx sy srw sm oo Yl Ym ox oy orw om e1 e2 e3;generalize Ij ob=O at ro;generalize Ij rw=F at rr;generalize xo bd=g at rb;generalize xo x=f at rx;generalize xo y=h at ry;generalize xo row=r at SH;generalize qv most=m at rm;obtain⟨c,em1,rc⟩:=int' (n:=-1) (by decide);have ZH:∀x:Rat,(((-1:Int):Rat))*x=-x:=λx=>by
  have:(((-1:Int):Rat))=-1:=by decide
  rw[this];grind
 obtain⟨es,rs⟩:=Bd rc SH (by decide) (by omega);obtain⟨en,rn⟩:=rm.neg (by decide);rw[r8 (λi _=>ZH _)]at es;have rs':cC 12 (vq row.length λi=>-r i) (λi=>-r i):=oF (λi _=>((SH.fq i).neg).mono (by decide)) (λi hi=>by rw[SH.z i hi];decide) (by decide);have c1:Cons [⟨row,most⟩] (λ_=>row.length) (λ_=>r) (λ_=>m):=⟨λi y e=>by
  have:i=0:=by have:=(List.getElem?_eq_some_iff.1 e).1;simp at this;exact this
  subst this;have:y=⟨row,most⟩:=by simpa using e.symm
  subst this;exact⟨Y,SH.mono (by decide),rm.mono (by decide),by omega⟩,by simp⟩
 have c2:Cons [⟨row,most⟩,⟨vq row.length λi=>-r i,qn (-m)⟩] (λ_=>row.length) (λi=>if i=0 then r else λj=>-r j) (λi=>if i=0 then m else-m):=⟨λi y e=>by
  have:i=0\/i=1:=by have:=(List.getElem?_eq_some_iff.1 e).1;simp at this;omega
  rcases this with rfl|rfl
  ·have:y=⟨row,most⟩:=by simpa using e.symm
   subst this;exact⟨Y,SH.mono (by decide),rm.mono (by decide),by omega⟩
  have:y=⟨vq row.length λi=>-r i,qn (-m)⟩:=by simpa using e.symm
  subst this;exact⟨dc _ _,rs',rn.mono (by decide),by omega⟩,by simp⟩
 have x1:=ext_eq (n:=n) c1 ro rr rb (by decide) (by decide) (by decide) (by omega) (by omega);have x2:=ext_eq (n:=n) c2 ro rr rb (by decide) (by decide) (by decide) (by omega) (by omega);have Yn:gp 12 rw F:=rr.mono (by decide);have f1:=λhE=>Gz (O:=O) c1 (n:=n) (ob:=ob) (rw:=rw) (bd:=bd) hE Yn rb rx (by decide) (by decide) (by omega) (by decide) (by decide);have f2:=λhE=>Gz (O:=O) c2 (n:=n) (ob:=ob) (rw:=rw) (bd:=bd) hE Yn rb rx (by decide) (by decide) (by omega) (by decide) (by decide);have fp:=zw (n:=n) (ob:=ob) (N:=20) rr rb rx (λv _=>by omega) (by decide) (by decide) (by omega) (by omega) (by omega);obtain⟨ed,rd⟩:=Qn SH rx (Nat.le_trans (Nat.mul_le_mul_right _ (show min row.length x.length+2<=22 by omega)) (by decide));rw[zq SH rx (show min row.length x.length<=20 by omega)]at ed rd;replace rd:=rd.mono (show _<=300 from Nat.le_trans (Nat.add_le_add_right (Nat.mul_le_mul_right _ (show min row.length x.length<=20 by omega)) 1) (by decide));have ecm:=rd.cmp rm (by decide);have eeq:=rd.eq rm (by decide);have f1:=λhE=>(f1 hE).trans (congrArg some (KF Y));have f2:=λhE=>(f2 hE).trans (congrArg some (KG Y));have hle:=U5 (x:=cu (λi=>r i*f i) 20) (y:=m)
 obtain⟨VA,Yj⟩:=Gx (n:=n) (ob:=ob) (N:=20) rr rb rx (λv _=>by omega) (by decide) (by decide) (by omega);have kY:=Ep (L:=35184372088070) (λi hi=>(Yj i hi).mono (by decide)) (by decide);have ZC:=vgt (cC.nil (L:=1) (by decide)) kY (by decide) (by simp) (by rw[dc];omega);have hnone:KE n ob rw bd x F g f 20->Qm (λ_=>0) (KD rw.length (λi=>g i-cu (λj=>F i j*f j) 20)) (max ([]:List Qr).length (vq rw.length (λi=>g i-cu (λj=>F i j*f j) 20)).length)=none:=λhF=>GA λi hi=>by
  rw[dc]at hi;have hi:i<rw.length:=by simpa using hi
  rw[vX hi];have:=hF.2.2.2 i hi;grind
 obtain⟨ex,rex⟩:=eval_eq (n:=n) (rw:=rw) (bd:=bd) (N:=20) ro rx (λv _=>by omega) (by decide) (by omega);obtain⟨ey,rey⟩:=eval_eq (n:=n) (rw:=rw) (bd:=bd) (N:=20) ro ry (λv _=>by omega) (by decide) (by omega);have ev:=Qo rex rey (by decide);have ev':=Qo rey rex (by decide);have eyx:=Qo ry rx (by decide);have Yo:=Qo rx ry (by decide);have ZD:=Yd rx ry (by decide);rw[dc,dc,Nat.max_self]at ev ev';rw[xu (λi=>cu (λj=>O i j*f j) 20) (λi=>cu (λj=>O i j*h j) 20)]at ev';rw[Nat.max_comm,xu h f]at Yo;have hz:(∀i,i<max x.length y.length->f i=h i)↔jg h f (max y.length x.length)=0:=by
  rw[r9,Nat.max_comm];exact⟨λq i hi=>(q i hi).symm,λq i hi=>(q i hi).symm⟩
 have Ow:jg h f (max y.length x.length)=0->jg (λi=>cu (λj=>O i j*f j) 20) (λi=>cu (λj=>O i j*h j) 20) ob.length=0:=λq=>by
  rw[r9];intro i _;have:f=h:=by
   funext k;by_cases hk:k<max x.length y.length
   ·exact hz.2 q k hk
   rw[rx.z k (by omega),ry.z k (by omega)]
  rw[this]
 have rV:=Bi (λi=>cu (λj=>O i j*f j) 20) (λi=>cu (λj=>O i j*h j) 20) ob.length;have rC:=Bi h f (max y.length x.length);have dz:decide (∀i,i<max x.length y.length->f i=h i)=decide (jg h f (max y.length x.length)=0):=by rw[decide_eq_decide];exact hz
 rw[dz]at ZD;clear hz dz kY Yj rex rey;generalize vq ob.length (λi=>cu (λj=>O i j*f j) 20)=ux at*;generalize vq ob.length (λi=>cu (λj=>O i j*h j) 20)=uy at*;generalize jg (λi=>cu (λj=>O i j*f j) 20) (λi=>cu (λj=>O i j*h j) 20) ob.length=V at*;generalize jg h f (max y.length x.length)=C at*;obtain⟨w,JW⟩:∃w:Int,w=if V=0 then C else V:=⟨_,Y⟩;have kc:fT ⟨n,ob,rw,bd⟩ x y=some w:=by
  unfold fT;refine aA ex<|aA ey<|aA ev ?_;by_cases hV:V=0
  ·rw[JW,if_pos hV];exact aA (dF (λe=>e hV))<|bQ Y<|aA eyx Y
  rw[JW,if_neg hV];exact aA (dT hV)<|bX Y Y
 have kc':fT ⟨n,ob,rw,bd⟩ y x=some (-w):=by
  unfold fT;refine aA ey<|aA ex<|aA ev' ?_;by_cases hV:V=0
  ·rw[JW,if_pos hV];exact aA (dF (by omega))<|bQ Y<|aA Yo Y
  rw[JW,if_neg hV];exact aA (dT (by omega))<|bX Y Y
 have hw:IntKind.i64.wrap (0- -w)=w:=by rw[ct (by split at JW<;>omega) (by split at JW<;>omega)];omega
 have heq:(some (!(decide (w=0)==decide (C=0))):Option Bool)=some false:=by
  have:decide (w=0)=decide (C=0):=by
   rw[decide_eq_decide];split at JW
   ·rw[JW]
   rename_i hV;exact⟨λq=>by omega,λq=>absurd (Ow q) hV⟩
  rw[this];exact Cc _
 have k2:((bif decide (V≠0)then(some (decide (w≠V))).bind λNA=>some NA else some false).bind λAJ=>some AJ)=some false:=by
  by_cases hV:V=0
  ·rw[decide_eq_false (λe=>e hV)];rfl
  rw[decide_eq_true hV,JW,if_neg hV];exact aA (a:=false) (bX Y<|aA (dF (λe=>e Y)) Y) Y
 have k3:((bif decide (V=0)then(dy y x).bind λBE=>(some (decide (w≠BE))).bind λzZ=>some zZ else some false).bind λAK=>some AK)=some false:=by
  by_cases hV:V=0
  ·rw[decide_eq_true hV,JW,if_pos hV];exact aA (a:=false) (bX Y<|aA eyx<|aA (dF (λe=>e Y)) Y) Y
  rw[decide_eq_false hV];rfl
 have k4:((dB [] (vq rw.length (λi=>g i-cu (λj=>F i j*f j) 20))).bind λ⟨So,I1⟩=>cm (λ(D8:Bool)=>some D8) λK94=>(cK ⟨n,ob,rw,bd⟩ x).bind λPC=>(some (!PC)).bind λNy=>(bif Ny then some true else(some (!I1)).bind λNz=>some Nz).bind λze=>(bif ze then(fu).bind λHX=>some HX else some false).bind λD9=>K94 D9)=some true:=by
  by_cases hF:KE n ob rw bd x F g f 20
  ·rw[hnone hF]at ZC;rw[decide_eq_true hF]at fp;exact aA ZC<|cD<|aA fp<|aA Y<|aA (a:=true) (bQ Y<|aA Y Y)<|Bf al6 Y
  rw[decide_eq_false hF]at fp;obtain⟨z,ez⟩:∃z,dB [] (vq rw.length (λi=>g i-cu (λj=>F i j*f j) 20))=some z:=⟨_,ZC⟩;obtain⟨z1,z2⟩:=z;exact aA ez<|cD<|aA fp<|aA Y<|aA (a:=true) (bX Y Y)<|Bf al6 Y
 clear ZC hnone JW rV rC Ow;generalize cu (λi=>r i*f i) 20=D at*;generalize qn D=dq at*;by_cases ZE:B7 n ob rw bd [⟨row,most⟩] (λ_=>row.length)
 ·rw[if_pos ZE]at x1;have f1:=f1 ZE;generalize Er n ob rw bd O F g [(⟨row,most⟩:Cn)].length (λ_=>row.length) (λ_=>r) (λ_=>m)=w1 at*;have eA:dD ⟨n,ob,rw,bd⟩ row most=some (w1,0):=by unfold dD;exact aA x1 Y
  by_cases VB:B7 n ob rw bd [⟨row,most⟩,⟨vq row.length λi=>-r i,qn (-m)⟩] (λ_=>row.length)
  ·rw[if_pos VB]at x2;have f2:=f2 VB;generalize Er n ob rw bd O F g [(⟨row,most⟩:Cn),⟨vq row.length λi=>-r i,qn (-m)⟩].length (λ_=>row.length) (λi=>if i=0 then r else λj=>-r j) (λi=>if i=0 then m else-m)=w2 at*;have eB:c9 ⟨n,ob,rw,bd⟩ row most=some (w2,0):=by
    unfold c9;clear rn c2 f2;generalize qn (-m)=mq at*;exact aA em1<|aA es<|aA en<|aA x2 Y
   exact aA eA<|aA eB<|aA ed<|cD<|aA (dT Y)<|aA (a:=false) (bX Y<|aA f1<|aA fp<|QC (λ_=>aA ecm<|aA (congrArg some hle) Y)<|aA (Cc _) Y)<|aA (a:=false) (bQ Y<|aA (dT Y)<|aA (a:=false) (bX Y<|aA f2<|aA fp<|QC (λ_=>aA eeq Y)<|aA (Cc _) Y) Y)<|aA (a:=false) (bQ Y<|aA (dT Y)<|aA (a:=false) (bX Y<|aA (dF (by decide)) Y) Y)<|bQ Y<|aA kc<|aA ex<|aA ey<|aA ev<|cD<|aA kc'<|aA (congrArg some hw)<|aA (dF (λe=>e Y))<|aA (a:=false) (bQ Y<|aA Y<|aA ZD<|aA heq Y)<|aA (a:=false) (bQ Y<|aA Y<|k2)<|aA (a:=false) (bQ Y<|aA Y<|k3)<|bQ Y<|aA VA<|k4
  rw[if_neg VB]at x2;have eB:c9 ⟨n,ob,rw,bd⟩ row most=some (⟨0,[],[],[]⟩,1):=by
   unfold c9;clear rn c2 f2;generalize qn (-m)=mq at*;exact aA em1<|aA es<|aA en<|aA x2 Y
  exact aA eA<|aA eB<|aA ed<|cD<|aA (dT Y)<|aA (a:=false) (bX Y<|aA f1<|aA fp<|QC (λ_=>aA ecm<|aA (congrArg some hle) Y)<|aA (Cc _) Y)<|aA (a:=false) (bQ Y<|aA (dF (by decide))<|aA (a:=false) (bQ Y Y) Y)<|aA (a:=false) (bQ Y<|aA (dF (by decide))<|aA (a:=false) (bQ Y Y) Y)<|bQ Y<|aA kc<|aA ex<|aA ey<|aA ev<|cD<|aA kc'<|aA (congrArg some hw)<|aA (dF (λe=>e Y))<|aA (a:=false) (bQ Y<|aA Y<|aA ZD<|aA heq Y)<|aA (a:=false) (bQ Y<|aA Y<|k2)<|aA (a:=false) (bQ Y<|aA Y<|k3)<|bQ Y<|aA VA<|k4
 rw[if_neg ZE]at x1;have VB:¬B7 n ob rw bd [⟨row,most⟩,⟨vq row.length λi=>-r i,qn (-m)⟩] (λ_=>row.length):=λq=>ZE ⟨q.1,by have:=q.2.1;simp only[List.length_cons,List.length_nil]at this⊢;omega,λi hi=>q.2.2 0 (by simp)⟩;rw[if_neg VB]at x2;have eA:dD ⟨n,ob,rw,bd⟩ row most=some (⟨0,[],[],[]⟩,1):=by unfold dD;exact aA x1 Y
 have eB:c9 ⟨n,ob,rw,bd⟩ row most=some (⟨0,[],[],[]⟩,1):=by
  unfold c9;clear rn c2 f2 VB;generalize qn (-m)=mq at*;exact aA em1<|aA es<|aA en<|aA x2 Y
 exact aA eA<|aA eB<|aA ed<|cD<|aA (dF (by decide))<|aA (a:=false) (bQ Y Y)<|aA (a:=false) (bQ Y<|aA (dF (by decide))<|aA (a:=false) (bQ Y Y) Y)<|aA (a:=false) (bQ Y<|aA (dF (by decide))<|aA (a:=false) (bQ Y Y) Y)<|bQ Y<|aA kc<|aA ex<|aA ey<|aA ev<|cD<|aA kc'<|aA (congrArg some hw)<|aA (dF (λe=>e Y))<|aA (a:=false) (bQ Y<|aA Y<|aA ZD<|aA heq Y)<|aA (a:=false) (bQ Y<|aA Y<|k2)<|aA (a:=false) (bQ Y<|aA Y<|k3)<|bQ Y<|aA VA<|k4
end
section
open Go.Fw Go.RowKit Go.ChangeShapes Go.WideShapes Go.ChangeAt
set_option linter.unusedVariables false
set_option maxRecDepth 100000 in
theorem qk(H:Type)(enc:TypeId×Value->H)(W:World)(base:Nat)(args:Array Value)(ds gs:List (DataW H))(before:List MemPlace)
  (hval:∀(j:Nat) t v,Tryz.f8.params[j]? =some t->args[j]? =some v->Value.okWide ah W .any base t v)
  (hW:DataW.Whole enc ah Tryz.f8.params.toList Rows.lpConstraintsSpec.vars false W args.toList ds gs before) (hz:(DataW.weightsEach ah (Tryz.f8.params.toList++Rows.lpConstraintsSpec.plain.varTypes ah) (ds++gs)).all (· <=reachBytes)=true):
  Calls ah 8 args W λe W'=>∃v,e=.returned v/\Rows.lpConstraintsSpec.post enc ah Tryz.f8 false true false false W args v W':=by
 have hW':=hW;obtain⟨p,q,X2,hV,rfl,hfz,hnd⟩:=hW;have hA:DataW.TrodAll enc ah W 0 (λ_=>true) true Tryz.f8.params.toList args.toList ds p:=X2;rw[Tryz.params8]at hA hval hz;obtain⟨v0,OH,d0,ds0,p0,q0,hargs,rfl,rfl,h0,r0⟩:=trodAll_cons hA;obtain⟨v1,vs1,d1,ds1,p1,q1,rfl,rfl,rfl,h1,r1⟩:=trodAll_cons r0;obtain⟨v2,vs2,d2,ds2,p2,q2,rfl,rfl,rfl,h2,r2⟩:=trodAll_cons r1;obtain⟨v3,vs3,d3,ds3,p3,q3,rfl,rfl,rfl,h3,r3⟩:=trodAll_cons r2;obtain⟨v4,vs4,d4,ds4,p4,q4,rfl,rfl,rfl,h4,r4⟩:=trodAll_cons r3;obtain⟨rfl,rfl,rfl⟩:=trodAll_nil r4;obtain rfl:args=#[v0,v1,v2,v3,v4]:=by cases args;simp_all
 obtain⟨rfl,rfl⟩:=trodVars_none hV;have lt0:∀x∈p0,x.block<W.heap.size:=by obtain⟨m,hm⟩:=h0;exact DataW.trod_lt m _ _ _ hm
 obtain⟨x0,ok0,sz0,al0⟩:=ID (P:=ah) (T:=26) (e:=zR) (hval 0 26 v0 Y Y) h0 (jT (t:=26) (d:=d0) 0 hz Y Y);have lt1:∀x∈p1,x.block<W.heap.size:=by obtain⟨m,hm⟩:=h1;exact DataW.trod_lt m _ _ _ hm
 obtain⟨x1,ok1,sz1,al1⟩:=Di (P:=ah) (T:=24) (e:=(eS 4 eQ)) (hval 1 24 v1 Y Y) h1 (jT (t:=24) (d:=d1) 1 hz Y Y);have lt2:∀x∈p2,x.block<W.heap.size:=by obtain⟨m,hm⟩:=h2;exact DataW.trod_lt m _ _ _ hm
 obtain⟨x2,ok2,sz2,al2⟩:=Di (P:=ah) (T:=24) (e:=(eS 4 eQ)) (hval 2 24 v2 Y Y) h2 (jT (t:=24) (d:=d2) 2 hz Y Y);have lt3:∀x∈p3,x.block<W.heap.size:=by obtain⟨m,hm⟩:=h3;exact DataW.trod_lt m _ _ _ hm
 obtain⟨x3,ok3,sz3,al3⟩:=Di (P:=ah) (T:=24) (e:=(eS 4 eQ)) (hval 3 24 v3 Y Y) h3 (jT (t:=24) (d:=d3) 3 hz Y Y);have lt4:∀x∈p4,x.block<W.heap.size:=by obtain⟨m,hm⟩:=h4;exact DataW.trod_lt m _ _ _ hm
 obtain⟨x4,ok4,sz4,al4⟩:=ID (P:=ah) (T:=36) (e:=eQ) (hval 4 36 v4 Y Y) h4 (jT (t:=36) (d:=d4) 4 hz Y Y);clear X2;refine(O5 (qb (yR x0 x1 x2 x3 x4 ok0 ok1 ok2 ok3 ok4)) (W:=W) (vs:=[v0,v1,v2,v3,v4]) ⟨al0,al1.1,al2.1,al3.1,al4,aq⟩).mono λe W' ⟨he,VC⟩=>?_;subst he;exact⟨_,rfl,_,_,_,[],_,[],hW',trodAll_mk1 (shut_bool Tryz.underlying4 _),(trodAll_cons_mk (Below.trod qS (by kernel_rfl) (of_decide_eq_true (by kernel_rfl)) h0 VC lt0) (trodAll_cons_mk (Below.trod qS (by kernel_rfl) (of_decide_eq_true (by kernel_rfl)) h1 VC lt1) (trodAll_cons_mk (Below.trod qS (by kernel_rfl) (of_decide_eq_true (by kernel_rfl)) h2 VC lt2) (trodAll_cons_mk (Below.trod qS (by kernel_rfl) (of_decide_eq_true (by kernel_rfl)) h3 VC lt3) (trodAll_cons_mk (Below.trod qS (by kernel_rfl) (of_decide_eq_true (by kernel_rfl)) h4 VC lt4) trodAll_mk0))))),rfl,VC.frame _,λh=>by cases h⟩
set_option maxRecDepth 100000 in
theorem sg(os:Os)(started:os.Started)(H:Type)(enc:TypeId×Value->H):
  ReturnsInHanded {} Tryz.checked os 8 .any (Rows.lpConstraintsSpec.pre6 enc ah Tryz.f8 Rows.lpConstraintsRow.domain false) (Rows.lpConstraintsSpec.post enc ah Tryz.f8 false true false false):=by
 refine returnsInHanded_of_change_sized (C:=Tryz.checked) aaw started (by kernel_rfl) Tryz.func8
  (ChangeSpec.witness6 (enc:=enc) (C:=Tryz.checked) false ⟨#[],#[.agg #[.int .i64 0,.slice none 0 0,.slice none 0 0,.slice none 0 0],.slice none 0 0,.slice none 0 0,.slice none 0 0,.agg #[.bool false,.slice none 0 0,.bool false,.slice none 0 0]],[]⟩ 8 (by kernel_rfl) (by kernel_rfl) (by kernel_rfl) (by kernel_rfl)) ?_
 intro W base args ds gs before hval hW _ hz _;exact qk H enc W base args ds gs before hval hW hz
theorem lpConstraints_holds:Rows.LpConstraintsSaid:=
 OpenClaim.holds_of_wide 8 Tryz.f8 Y Y Y Y Y Y Y ⟨Y,Y,Y,Y,Y⟩ Y Y Y Y Y (by kernel_rfl) Tryz.func8 (by kernel_rfl)
  (of_decide_eq_true (by kernel_rfl)) (by unfold Func.isWrapper;first|(rw[if_pos (by decide+kernel)];kernel_rfl)|(rw[if_neg (by decide+kernel)];exact⟨Y,Y⟩))
  (λos started H enc _=>sg os started H enc)
end
end Go.Proofs.YtfoldppidpmchaaGreat
