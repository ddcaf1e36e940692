/- A part of the proof: the framework, the plain functions, the followed functions, the plain laws. -/
import Derived.Test.YtningmnklfpfjaaGreatPSA4
set_option linter.unusedVariables false
set_option linter.unusedSimpArgs false
set_option linter.unusedSectionVars false
namespace Go.Proofs.YtningmnklfpfjaaGreat
section
open Go.Fw
theorem abc{a b s:Nat}(h:a<2^s):b*2^s ||| a=b*2^s+a:=by rw[Nat.or_comm,YC h,Nat.add_comm]
theorem TA{a b:Nat}(h:a<4294967296):b*4294967296 ||| a=b*4294967296+a:=abc (s:=32) h
theorem P7(a:List Nat)(d:Nat)(ha:NF a)(hd:0<d)(hd2:d<=4294967296):lO a d=some (vl a%d,gN 4294967296 a.length (vl a/d)):=by
 obtain⟨hA,hla⟩:=ha;unfold lO;simp only[Option.bind_some];rw[cG (by omega) (by omega)];refine bH (λi=>(vl a/4294967296^(a.length-i)%d,((a.length-i:Nat):Int)-1,gN 4294967296 a.length (qU 4294967296 (vl a) d (a.length-i)))) a.length (vl a%d,gN 4294967296 a.length (vl a/d)) ?_ (λi hi=>?_) (by simp[aa5]) ?_
 ·simp only[Nat.sub_zero];rw[agL (ju a hA),Hx a hA,Nat.div_eq_of_lt (ju a hA),Nat.zero_mod]
 ·obtain⟨m,hm⟩:∃m,a.length-i=m+1:=⟨a.length-i-1,by omega⟩;have hm':a.length-(i+1)=m:=by omega
  have hml:m<a.length:=by omega
  rw[hm,hm'];have hy:vl a/4294967296^m%4294967296<4294967296:=Nat.mod_lt _ (by decide);have hr:vl a/4294967296^(m+1)%d<d:=Nat.mod_lt _ hd;have hq:=aa7 (B:=4294967296) (by decide) hd (vl a) m;have hqd:(vl a/4294967296^(m+1)%d*4294967296+vl a/4294967296^m%4294967296)/d<4294967296:=by rw[Nat.div_lt_iff_lt_mul hd,Nat.mul_comm 4294967296 d];exact hq
  have hg:=agM (B:=4294967296) (by decide) (V:=vl a) (d:=d) (m:=m) (N:=a.length) hml;have hlt:vl a/4294967296^(m+1)%d*4294967296+vl a/4294967296^m%4294967296<18446744073709551616:=by omega
  have Vm:vl a/4294967296^(m+1)%d*4294967296<18446744073709551616:=Nat.lt_of_le_of_lt (Nat.le_add_right _ _) hlt;have ES:vl a/4294967296^m%4294967296<18446744073709551616:=Nat.lt_of_le_of_lt (Nat.le_add_left _ _) hlt;have hi1:((m+1:Nat):Int)-1=(m:Int):=by omega
  simp only[hi1,show decide ((0:Int)<=(m:Int))=true by simp,cond_true,Option.bind_some];rw[b9 (by rw[cf];omega),Option.bind_some,hg];simp only[Option.bind_some];rw[show(2:Nat)^32=4294967296 from rfl];rw[Nat.mod_eq_of_lt (a:=vl a/4294967296^(m+1)%d*4294967296) Vm,Nat.mod_eq_of_lt (a:=vl a/4294967296^m%4294967296) (b:=18446744073709551616) ES,TA hy,Nat.mod_eq_of_lt (a:=vl a/4294967296^(m+1)%d*4294967296+vl a/4294967296^m%4294967296) hlt,Nx (by omega) hlt,Hw (by omega)];simp only[Option.bind_some];rw[Nat.mod_eq_of_lt (b:=4294967296) (a:=(vl a/4294967296^(m+1)%d*4294967296+vl a/4294967296^m%4294967296)/d) hqd,dS (by rw[cf];omega),Option.bind_some,cG (by omega) (by omega)];rw[aa9 (B:=4294967296) (by decide) hd hml,<-Yz (B:=4294967296) (d:=d) (vl a) m]
 simp only;rw[y4 (by rw[cf]),Option.bind_some]
theorem shiftLeft_eq(a:List Nat)(s:Nat)(ha:NF a)(hs:s<32):iW a s=some (gN 4294967296 (a.length+1) (vl a*2^s)):=by
 obtain⟨hA,hla⟩:=ha;have hf:2^s<4294967296:=by
  have:2^s<2^32:=Nat.pow_lt_pow_right (by decide) hs;omega
 unfold iW;simp only[Option.bind_some];rw[bM (by omega),Jv (by decide) (by omega),Option.bind_some];refine bH (λi=>((i:Int),sC 4294967296 (vl a) (2^s) 0 i,gN 4294967296 i (vl a*2^s+0))) a.length (sC 4294967296 (vl a) (2^s) 0 a.length,gN 4294967296 a.length (vl a*2^s+0)) (by simp[NC,gN]) (λi hi=>?_) (by simp) ?_
 ·have hx:vl a/4294967296^i%4294967296<4294967296:=Nat.mod_lt _ (by decide);have hc:=Yy (B:=4294967296) (by decide) (V:=vl a) hf (show(0:Nat)<4294967296 by decide) i;have hxf:vl a/4294967296^i%4294967296*2^s<=4294967295*4294967295:=Nat.mul_le_mul (by omega) (by omega);have hg:a[i]? =some (vl a/4294967296^i%4294967296):=pP hA hi;simp only[show decide ((i:Int)<(a.length:Int))=true by simp;omega,cond_true];rw[bz hg];simp only[Option.bind_some];rw[show min s 64=s by omega,Nat.mod_eq_of_lt (a:=vl a/4294967296^i%4294967296) (b:=18446744073709551616) (by omega),Nat.mod_eq_of_lt (b:=18446744073709551616) (by omega),lp _ _ (by omega)];simp only[Option.bind_some];rw[nQ (by decide) (by rw[cf];omega),Option.bind_some,ND (B:=4294967296) (by decide),Sj (B:=4294967296) (by decide),bM (by omega),<-mw]
 have hc:=Yy (B:=4294967296) (by decide) (V:=vl a) hf (show(0:Nat)<4294967296 by decide) a.length;simp only;rw[lp _ _ (by omega)];simp only[Option.bind_some];rw[nQ (by decide) (by rw[cf];omega),Option.bind_some,Nat.zero_add,Sk (ju a hA),<-mw];simp
theorem KQ(a:List Nat)(s:Nat):mM a s=iW a s:=rfl
def Dq:Zx:=[0,1,2,2,3,3,3,3,4,4,4,4,4,4,4,4,5,5,5,5,5,5,5,5,5,5,5,5,5,5,5,5]++List.replicate 32 6++List.replicate 64 7++List.replicate 128 8
theorem agN:∀y:Nat,y<256->Cr Dq (y:Int)=some ((Cr Dq (y:Int)).getD 0)/\(Cr Dq (y:Int)).getD 0<=8/\y<2^(Cr Dq (y:Int)).getD 0/\(y=0\/2^(Cr Dq (y:Int)).getD 0<=2*y):=by decide+kernel
set_option maxRecDepth 20000 in
theorem YD(x:Nat)(h:x<4294967296):∃n:Nat,kx x=some (n:Int)/\n<=32/\x<2^n/\(x=0\/2^n<=2*x):=by
 have key:∀(y k:Nat),y<256->y=x/2^k->k<=24->(x≠0->y≠0)->∃n:Nat,(((Cr Dq ((y%256:Nat):Int)).bind λfB=>(some (IntKind.i64.wrap (fB:Int))).bind λdX=>(some (IntKind.i64.wrap ((k:Int)+dX))).bind λeX=>some eX)=some (n:Int))/\n<=32/\x<2^n/\(x=0\/2^n<=2*x):=by
  intro y k hy hyx hk hnz;obtain⟨h1,h2,h3,h4⟩:=agN y hy;rw[Nat.mod_eq_of_lt hy,h1];generalize (Cr Dq (y:Int)).getD 0=t at*;have hp:0<2^k:=Nat.two_pow_pos _;have e1:2^(k+t)=2^k*2^t:=Nat.pow_add ..;have e2:=Nat.div_add_mod x (2^k);have e3:=Nat.mod_lt x hp;rw[<-hyx]at e2;refine⟨k+t,?_,by omega,?_,?_⟩
  ·simp only[Option.bind_some];rw[j1 (by omega),rO (by omega)]
  ·rw[e1];have:2^k*(y+1)<=2^k*2^t:=Nat.mul_le_mul_left _ h3;rw[Nat.mul_add]at this;omega
  rcases h4 with h4|h4
  ·left;cases Nat.eq_zero_or_pos x with
   |inl h=>exact h
   |inr h=>exact absurd h4 (hnz (by omega))
  right;rw[e1];have:2^k*2^t<=2^k*(2*y):=Nat.mul_le_mul_left _ h4;rw[show 2^k*(2*y)=2*(2^k*y) by rw[Nat.mul_left_comm]]at this;omega
 unfold kx;simp only[cE,Option.bind_some];by_cases c1:65536<=x
 ·rw[show decide (65536<=x)=true by simpa using c1];simp only[cond_true];by_cases c2:256<=x/2^16
  ·rw[show decide (256<=x/2^16)=true by simpa using c2];simp only[cond_true];rw[show IntKind.i64.wrap (16+8)=((24:Nat):Int) by decide];exact key (x/2^16/2^8) 24 (by omega) (by omega) (by omega) (by omega)
  rw[show decide (256<=x/2^16)=false by simpa using c2];simp only[cond_false];exact key (x/2^16) 16 (by omega) Y (by omega) (by omega)
 rw[show decide (65536<=x)=false by simpa using c1];simp only[cond_false];by_cases c2:256<=x
 ·rw[show decide (256<=x)=true by simpa using c2];simp only[cond_true];rw[show IntKind.i64.wrap (0+8)=((8:Nat):Int) by decide];exact key (x/2^8) 8 (by omega) Y (by omega) (by omega)
 rw[show decide (256<=x)=false by simpa using c2];simp only[cond_false];exact key x 0 (by omega) (by simp) (by omega) (λh=>h)
theorem akf(x:Nat)(h:x<4294967296)(h0:x≠0):∃s:Nat,ff x=some (s:Int)/\s<32/\2147483648<=x*2^s/\x*2^s<4294967296:=by
 obtain⟨n,h1,h2,h3,h4⟩:=YD x h;have h4:2^n<=2*x:=h4.resolve_left h0;have hn:n≠0:=by rintro rfl;simp at h3;omega
 refine⟨32-n,?_,by omega,?_,?_⟩
 ·unfold ff;rw[h1];simp only[Option.bind_some];rw[cG (by omega) (by omega)];congr 1;omega
 ·have:2^n*2^(32-n)<=2*x*2^(32-n):=Nat.mul_le_mul_right _ h4;rw[<-Nat.pow_add,show n+(32-n)=32 by omega,Nat.mul_assoc]at this;omega
 have:x*2^(32-n)<2^n*2^(32-n):=Nat.mul_lt_mul_of_pos_right h3 (Nat.two_pow_pos _);rw[<-Nat.pow_add,show n+(32-n)=32 by omega]at this;omega
end
end Go.Proofs.YtningmnklfpfjaaGreat
namespace Go.Fw
section
section akg
variable {B V U W:Nat}
theorem agO{P F T:Nat}(hP:0<P)(hF:0<F)(hV:F*P<=V)(hU:U<(T+1)*P):U/V<=T/F:=by
 have hV0:0<V:=Nat.lt_of_lt_of_le (Nat.mul_pos hF hP) hV;rw[Nat.le_div_iff_mul_le hF];rcases Nat.lt_or_ge T (U/V*F)with h|h
 ·exfalso;have h1:U/V*V<=U:=Nat.div_mul_le_self U V;have h2:U/V*(F*P)<=U/V*V:=Nat.mul_le_mul_left _ hV;have h3:(T+1)*P<=U/V*F*P:=Nat.mul_le_mul_right _ h;rw[Nat.mul_assoc]at h3;omega
 exact h
theorem abd{P F S T u g r:Nat}(hV:(F*B+S)*P<=V)(hU:U<(T*B+u+1)*P)(hgr:g*F+r=T)(h:r*B+u<g*S):U<g*V:=by
 have h1:g*((F*B+S)*P)<=g*V:=Nat.mul_le_mul_left _ hV;have h2:(T*B+u+1)*P<=g*(F*B+S)*P:=by
  apply Nat.mul_le_mul_right;rw[Nat.mul_add,<-Nat.mul_assoc,<-hgr,Nat.add_mul];omega
 rw[Nat.mul_assoc]at h2;omega
theorem agQ{P V2 U2 g:Nat}(hV:V<(V2+1)*P)(hU:U2*P<=U)(hq:U/V<B)(hB:B<=V2)(hV0:0<V)(h:g*V2<=U2):g<=U/V+1:=by
 rcases Nat.lt_or_ge (U/V+1) g with h'|h'
 ·exfalso;have h1:U<(U/V+1)*V:=by have:=Nat.lt_div_mul_add (a:=U) hV0;rw[Nat.add_mul,Nat.one_mul];exact this
  have h2:(U/V+1)*V<=(U/V+1)*((V2+1)*P):=Nat.mul_le_mul_left _ (Nat.le_of_lt hV);have h3:g*V2*P<=U2*P:=Nat.mul_le_mul_right _ h;have h4:(U/V+2)*V2<=g*V2:=Nat.mul_le_mul_right _ h';have h5:(U/V+2)*V2*P<=g*V2*P:=Nat.mul_le_mul_right _ h4;have h6:(U/V+1)*((V2+1)*P)<=(U/V+2)*V2*P:=by
   rw[<-Nat.mul_assoc];apply Nat.mul_le_mul_right;rw[Nat.mul_add,Nat.add_mul (U/V) 2 V2,Nat.add_mul (U/V) 1 V2];omega
  omega
 exact h'
end akg
def mix(B o i X U A:Nat):Nat:=A%B^o+B^o*(X%B^i+B^i*(U/B^i))
theorem TB(B o i X U A:Nat):mix B o i X U A%B^o=A%B^o:=by rw[mix,Nat.add_mul_mod_self_left,Nat.mod_mod]
section mix
variable {B:Nat}(hB:0<B)(o i X U A:Nat)
include hB
theorem EA:mix B o i X U A/B^o=X%B^i+B^i*(U/B^i):=by
 rw[mix,Nat.add_mul_div_left _ _ (Nat.pow_pos hB),Nat.div_eq_of_lt (Nat.mod_lt _ (Nat.pow_pos hB)),Nat.zero_add]
theorem EB:mix B o i X U A/B^(o+i)=U/B^i:=by
 rw[Nat.pow_add,<-Nat.div_div_eq_div_mul,EA hB,Nat.add_mul_div_left _ _ (Nat.pow_pos hB),Nat.div_eq_of_lt (Nat.mod_lt _ (Nat.pow_pos hB)),Nat.zero_add]
theorem abe:mix B o i X U A%B^(o+i)=A%B^o+B^o*(X%B^i):=by
 rw[Nat.pow_add,Nat.mod_mul,TB,EA hB,Nat.add_mul_mod_self_left,Nat.mod_mod]
theorem NG{N:Nat}(h:o+i<N):(gN B N (mix B o i X U A)).set (o+i) (X/B^i%B)=gN B N (mix B o (i+1) X U A):=by
 apply B3 hB h (Nat.mod_lt _ hB)
 ·rw[abe hB,Nat.pow_add,Nat.mod_mul,TB,EA hB,Nat.pow_succ B i,Nat.mul_assoc,Nat.add_mul_mod_self_left,Nat.mod_mul,Nat.add_mul_mod_self_left,Nat.mod_mod]
 ·rw[Nat.pow_add,<-Nat.div_div_eq_div_mul,EA hB,Nat.pow_succ B i,Nat.mod_mul,Nat.mul_assoc,Nat.add_assoc,<-Nat.mul_add,Nat.add_mul_div_left _ _ (Nat.pow_pos hB),Nat.div_eq_of_lt (Nat.mod_lt _ (Nat.pow_pos hB)),Nat.zero_add,Nat.add_mul_mod_self_left,Nat.mod_mod]
 have h1:=EB hB o (i+1) X U A;have h2:=EB hB o i X U A;rw[show o+i+1=o+(i+1) by omega,h1,show o+(i+1)=(o+i)+1 by omega,Nat.pow_succ B (o+i),<-Nat.div_div_eq_div_mul,h2,Nat.pow_succ,<-Nat.div_div_eq_div_mul]
end mix
theorem P8{B o m X U A:Nat}(hU:U<B^m):mix B o m X U A=A%B^o+B^o*(X%B^m):=by rw[mix,Nat.div_eq_of_lt hU];simp
theorem P9{B:Nat}(o X A:Nat):mix B o 0 X (A/B^o) A=A:=by
 simp only[mix,Nat.pow_zero,Nat.mod_one,Nat.zero_add,Nat.one_mul,Nat.div_one];exact Nat.mod_add_div A (B^o)
theorem U0{B U U' T i:Nat}(h:U%B^i=U'%B^i):FI B U T i=FI B U' T i:=by rw[FI,FI,h]
theorem YE{B:Nat}(hB:0<B){U T m i:Nat}(hi:i<m)(hT:T<=U+B^m):(U/B^i%B+(B-1-T/B^i%B)+FI B U T i)%B=(U+B^m-T)/B^i%B:=by
 have e:B^m=B^i*(B*B^(m-i-1)):=by rw[<-Nat.pow_succ',<-Nat.pow_add];congr 1;omega
 have h1:(U+B^m)%B^i=U%B^i:=by rw[e,Nat.add_mul_mod_self_left]
 have h2:(U+B^m)/B^i%B=U/B^i%B:=by rw[e,Nat.add_mul_div_left _ _ (Nat.pow_pos hB),Nat.add_mul_mod_self_left]
 rw[<-h2,U0 (U':=U+B^m) h1.symm,NA hB hT]
theorem abf{B m U T:Nat}(hB:0<B)(hU:U<B^m)(hT:T<B^m):FI B U T m=if U<T then 0 else 1:=by
 rw[FI,Nat.mod_eq_of_lt hU,Nat.mod_eq_of_lt hT];have hp:0<B^m:=Nat.pow_pos hB;split
 ·exact Nat.div_eq_of_lt (by omega)
 rw[show U+B^m-T=(U-T)+B^m by omega,Nat.add_div_right _ hp,Nat.div_eq_of_lt (by omega)]
end
end Go.Fw
namespace Go.Proofs.YtningmnklfpfjaaGreat
section
open Go.Fw
theorem uD{N A j:Nat}(h:j<N):(gN 4294967296 N A)[j]? =some (A/4294967296^j%4294967296):=Ex N A j h
theorem two32:(2:Nat)^32=4294967296:=rfl
theorem akh:(2:Nat)^63=9223372036854775808:=rfl
theorem NH(A o j:Nat):A/4294967296^(o+j)=A/4294967296^o/4294967296^j:=by rw[Nat.pow_add,Nat.div_div_eq_div_mul]
theorem Qa{N A o n:Nat}{v:List Nat}(hv:NF v)(hn:v.length=n+2)(hN:N<=100000000001)(ho:o+(n+2)<N)
  (hU:A/4294967296^o<4294967296*vl v) (YF:2147483648*4294967296^(n+1)<=vl v):
  ∃r,lP (gN 4294967296 N A) o (n+3) v=some r/\r.2=gN 4294967296 N A/\A/4294967296^o/vl v<=r.1/\r.1<=A/4294967296^o/vl v+1:=by
 obtain⟨hV,hlv⟩:=hv;obtain⟨U,ZK⟩:∃U,A/4294967296^o=U:=⟨_,Y⟩;obtain⟨V,ZL⟩:∃V,vl v=V:=⟨_,Y⟩;have GX:V<4294967296^(n+2):=by rw[<-ZL,<-hn];exact ju v hV
 have hP1:0<4294967296^(n+1):=Nat.pow_pos (by decide);have hP:0<4294967296^n:=Nat.pow_pos (by decide);have agR:4294967296^(n+1)=4294967296^n*4294967296:=Nat.pow_succ ..;have Qb:4294967296^(n+2)=4294967296^(n+1)*4294967296:=Nat.pow_succ ..;rw[ZK,ZL]at hU⊢;rw[ZL]at YF;have aki:U<4294967296^(n+1)*4294967296*4294967296:=by
  have:4294967296*V<4294967296*4294967296^(n+2):=Nat.mul_lt_mul_of_pos_left GX (by decide);rw[Qb]at this;omega
 obtain⟨F,hF⟩:∃F,V/4294967296^(n+1)=F:=⟨_,Y⟩;obtain⟨S,hS⟩:∃S,V/4294967296^n%4294967296=S:=⟨_,Y⟩;obtain⟨T,hT⟩:∃T,U/4294967296^(n+1)=T:=⟨_,Y⟩;obtain⟨u,hu⟩:∃u,U/4294967296^n%4294967296=u:=⟨_,Y⟩;have aqD:F<4294967296:=by rw[<-hF,Nat.div_lt_iff_lt_mul hP1];rw[Qb,Nat.mul_comm]at GX;exact GX
 have at9:2147483648<=F:=by rw[<-hF,Nat.le_div_iff_mul_le hP1];exact YF
 have aua:S<4294967296:=by rw[<-hS];exact Nat.mod_lt _ (by decide)
 have akj:u<4294967296:=by rw[<-hu];exact Nat.mod_lt _ (by decide)
 have aqE:T<4294967296*4294967296:=by rw[<-hT,Nat.div_lt_iff_lt_mul hP1];rw[Nat.mul_comm,<-Nat.mul_assoc];exact aki
 have hV2:V/4294967296^n=F*4294967296+S:=by rw[<-hF,<-hS,agR,<-Nat.div_div_eq_div_mul,Nat.mul_comm,Nat.div_add_mod]
 have hU2:U/4294967296^n=T*4294967296+u:=by rw[<-hT,<-hu,agR,<-Nat.div_div_eq_div_mul,Nat.mul_comm,Nat.div_add_mod]
 have hq:U/V<4294967296:=by rw[Nat.div_lt_iff_lt_mul (by omega)];exact hU
 have akk:(F*4294967296+S)*4294967296^n<=V:=by rw[<-hV2];exact Nat.div_mul_le_self _ _
 have akl:V<(F*4294967296+S+1)*4294967296^n:=by rw[<-hV2,Nat.add_mul,Nat.one_mul];exact Nat.lt_div_mul_add hP
 have akm:(T*4294967296+u)*4294967296^n<=U:=by rw[<-hU2];exact Nat.div_mul_le_self _ _
 have akn:U<(T*4294967296+u+1)*4294967296^n:=by rw[<-hU2,Nat.add_mul,Nat.one_mul];exact Nat.lt_div_mul_add hP
 have ad0:F*4294967296^(n+1)<=V:=by rw[<-hF];exact Nat.div_mul_le_self _ _
 have ad1:U<(T+1)*4294967296^(n+1):=by rw[<-hT,Nat.add_mul,Nat.one_mul];exact Nat.lt_div_mul_add hP1
 have ad2:V<(F+1)*4294967296^(n+1):=by rw[<-hF,Nat.add_mul,Nat.one_mul];exact Nat.lt_div_mul_add hP1
 have hTF:T<4294967296*(F+1):=by
  rw[<-hT,Nat.div_lt_iff_lt_mul hP1];have:4294967296*V<4294967296*((F+1)*4294967296^(n+1)):=Nat.mul_lt_mul_of_pos_left ad2 (by decide);rw[Nat.mul_assoc];omega
 have g1:(gN 4294967296 N A)[o+(n+2)]? =some (U/4294967296^(n+2)%4294967296):=by rw[uD (by omega),NH,ZK]
 have g2:(gN 4294967296 N A)[o+(n+1)]? =some (U/4294967296^(n+1)%4294967296):=by rw[uD (by omega),NH,ZK]
 have g3:(gN 4294967296 N A)[o+n]? =some u:=by rw[uD (by omega),NH,ZK,hu]
 have g4:v[n+1]? =some F:=by rw[pP hV (by omega),show val 4294967296 v=V from ZL,hF,Nat.mod_eq_of_lt aqD]
 have g5:v[n]? =some S:=by rw[pP hV (by omega),show val 4294967296 v=V from ZL,hS]
 have hun:U/4294967296^(n+2)<4294967296:=by rw[Qb,<-Nat.div_div_eq_div_mul,hT,Nat.div_lt_iff_lt_mul (by decide)];exact aqE
 have Sl:U/4294967296^(n+2)%4294967296*4294967296+U/4294967296^(n+1)%4294967296=T:=by
  rw[Nat.mod_eq_of_lt hun,Qb,<-Nat.div_div_eq_div_mul,hT,Nat.mul_comm,Nat.div_add_mod]
 obtain⟨t1,ht1⟩:∃t,U/4294967296^(n+2)%4294967296=t:=⟨_,Y⟩;obtain⟨t2,ht2⟩:∃t,U/4294967296^(n+1)%4294967296=t:=⟨_,Y⟩;have l1:t1<4294967296:=by rw[<-ht1];exact Nat.mod_lt _ (by decide)
 have l2:t2<4294967296:=by rw[<-ht2];exact Nat.mod_lt _ (by decide)
 rw[ht1]at g1 Sl;rw[ht2]at g2 Sl;clear ht1 ht2 hU2 hV2;have c1:((n+2:Nat):Int)-1=((n+1:Nat):Int):=by omega
 have c2:((n+2:Nat):Int)-2=(n:Int):=by omega
 unfold lP;simp only[Option.bind_some,hn,c1,c2];rw[j1 (by omega),j1 (by omega),Hv (by omega),Hv (by omega),Hv (by omega)];simp only[Option.bind_some];rw[g1,g2,bz g4,bz g5];simp only[Option.bind_some,two32];rw[Nat.mod_eq_of_lt (a:=t1) (by omega),Nat.mod_eq_of_lt (a:=t2) (by omega),Nat.mod_eq_of_lt (a:=t1*4294967296) (by omega),TA l2,Sl,Nat.mod_eq_of_lt (a:=T) (by omega),Nat.mod_eq_of_lt (a:=F) (by omega),Nat.mod_eq_of_lt (a:=S) (by omega),Nx (by omega) (by omega),Hw (by omega)];simp only[Option.bind_some];have aqH:=agO (V:=V) (U:=U) hP1 (show 0<F by omega) ad0 ad1;have hle:∀g,g*(F*4294967296+S)<=T*4294967296+u->g<=U/V+1:=λg h=>agQ (B:=4294967296) akl akm hq (by omega) (by omega) h;have aqI:∀g r,g*F+r=T->r*4294967296+u<g*S->U/V<g:=λg r i1 ht=>(Nat.div_lt_iff_lt_mul (by omega)).2 (abd akk akn i1 ht);have hg0:T/F<=4294967297:=by
  have:T/F<4294967298:=by
   rw[Nat.div_lt_iff_lt_mul (by omega)];omega
  omega
 generalize U/V=q at*;clear akk akl akm akn ad0 ad1 ad2 hTF aki YF GX agR Qb hP hP1 hF hS hT hu ZK ZL hU;have hdm:=Nat.div_add_mod T F;have hml:=Nat.mod_lt T (show 0<F by omega);have aqK:T/F*F+T%F=T:=by rw[Nat.mul_comm];exact hdm
 clear hdm;refine mX (λx=>x.1*F+x.2=T/\q<=x.1/\x.2<4294967296/\x.1<=4294967297) (λe=>q<=e/\e<=q+1) (λx=>x.1) ?_ ⟨aqK,aqH,by show T%F<_;omega,hg0⟩ ?_
 ·rintro⟨g,r⟩ ⟨i1,i2,i3,i4⟩;simp only at i1 i2 i3 i4;have down:q<g->(∃s',(bif decide ((r+F)%18446744073709551616/4294967296≠0)then some (.inr (we 18446744073709551616 g 1))else some (.inl (we 18446744073709551616 g 1,(r+F)%18446744073709551616)):Option ((Nat×Nat)⊕Nat))=some (.inl s')/\(s'.1*F+s'.2=T/\q<=s'.1/\s'.2<4294967296/\s'.1<=4294967297)/\s'.1<g)\/
    (∃e,(bif decide ((r+F)%18446744073709551616/4294967296≠0)then some (.inr (we 18446744073709551616 g 1))else some (.inl (we 18446744073709551616 g 1,(r+F)%18446744073709551616)):Option ((Nat×Nat)⊕Nat))=some (.inr e)/\q<=e/\e<=q+1):=by
   intro hlt;have e1:(g-1)*F+(r+F)=T:=by
    obtain⟨k,rfl⟩:∃k,g=k+1:=⟨g-1,by omega⟩;rw[Nat.add_sub_cancel];rw[Nat.add_mul]at i1;omega
   rw[z2 (by omega) (by omega),Nat.mod_eq_of_lt (a:=r+F) (by omega)];by_cases hb:r+F<4294967296
   ·left;refine⟨(g-1,r+F),by simp[Nat.div_eq_of_lt hb],⟨e1,by simp only;omega,hb,by simp only;omega⟩,by simp only;omega⟩
   right;have hne:(r+F)/4294967296≠0:=by omega
   refine⟨g-1,by simp[hne],by omega,?_⟩;refine hle _ ?_;have m1:(g-1)*S<=4294967296*4294967295:=Nat.mul_le_mul (by omega) (by omega);rw[Nat.mul_add,<-Nat.mul_assoc];have m2:((g-1)*F+(r+F))*4294967296=T*4294967296:=by rw[e1]
   rw[Nat.add_mul]at m2;omega
  simp only[cE,cc];by_cases hg:g<4294967296
  ·rw[show decide (g/4294967296≠0)=false by simp;omega];have hgS:g*S<=4294967295*4294967295:=Nat.mul_le_mul (by omega) (by omega);simp only[iy];rw[g3];simp only[cc];rw[Nat.mod_eq_of_lt (a:=g*S) (by omega),Nat.mod_eq_of_lt (a:=r*4294967296) (by omega),Nat.mod_eq_of_lt (a:=u) (by omega),TA akj,Nat.mod_eq_of_lt (a:=r*4294967296+u) (by omega)];by_cases ht:r*4294967296+u<g*S
   ·rw[show decide (r*4294967296+u<g*S)=true by simpa using ht];simp only[cc,gV];exact down (aqI _ _ i1 ht)
   rw[show decide (r*4294967296+u<g*S)=false by simpa using ht];right;refine⟨g,by simp,i2,?_⟩;refine hle _ ?_;rw[Nat.mul_add,<-Nat.mul_assoc,<-i1,Nat.add_mul];omega
  rw[show decide (g/4294967296≠0)=true by simp;omega];simp only[cc,gV];exact down (by omega)
 rintro e ⟨h2,h3⟩;exact⟨(e,gN 4294967296 N A),by rw[y4 Y,Option.bind_some],Y,h2,h3⟩
end
section
open Go.Fw
theorem Cm{N A o n f:Nat}{v:List Nat}(hv:NF v)(hn:v.length=n)(hN:N<=100000000001)(ho:o+n<N)(hf:f<=4294967296)
  (hU:A/4294967296^o<4294967296^(n+1)):
  eK (gN 4294967296 N A) o (n+1) v f=some (decide (A/4294967296^o<vl v*f),gN 4294967296 N (A%4294967296^o+4294967296^o*((A/4294967296^o+4294967296^(n+1)-vl v*f)%4294967296^(n+1)))):=by
 obtain⟨hV,hlv⟩:=hv;obtain⟨U,ZK⟩:∃U,A/4294967296^o=U:=⟨_,Y⟩;obtain⟨V,ZL⟩:∃V,vl v=V:=⟨_,Y⟩;have GX:V<4294967296^n:=by rw[<-ZL,<-hn];exact ju v hV
 have VM:4294967296^(n+1)=4294967296^n*4294967296:=Nat.pow_succ ..;have hT:V*f<4294967296^(n+1):=by
  rw[VM]
  calc V*f<=V*4294967296:=Nat.mul_le_mul_left _ hf
   _<4294967296^n*4294967296:=Nat.mul_lt_mul_of_pos_right GX (by decide)
 rw[ZK]at hU⊢;rw[ZL];obtain⟨X,hX⟩:∃X,U+4294967296^(n+1)-V*f=X:=⟨_,Y⟩;rw[hX];unfold eK;simp only[cc];have agS:∀i,FI 4294967296 U (V*f) i<=1:=λi=>Sg (by decide) _ _ _;refine bH (λi=>(1-FI 4294967296 U (V*f) i,(i:Int),sC 4294967296 V f 0 i,gN 4294967296 N (mix 4294967296 o i X U A))) (n+1) (1-FI 4294967296 U (V*f) (n+1),gN 4294967296 N (mix 4294967296 o (n+1) X U A)) ?_ (λi hi=>?_) ?_ ?_
 ·rw[JB,NC,<-ZK,P9];rfl
 ·
  obtain⟨t,ht⟩:∃t,V*f/4294967296^i%4294967296=t:=⟨_,Y⟩;obtain⟨c,hc⟩:∃c,sC 4294967296 V f 0 i=c:=⟨_,Y⟩;obtain⟨p,hp⟩:∃p,V/4294967296^i%4294967296*f=p:=⟨_,Y⟩;have auc:c<4294967296:=by
   rw[<-hc,sC,sT,Nat.add_zero,Nat.div_lt_iff_lt_mul (Nat.pow_pos (by decide))]
   calc V%4294967296^i*f<=V%4294967296^i*4294967296:=Nat.mul_le_mul_left _ hf
    _<4294967296*4294967296^i:=by rw[Nat.mul_comm];exact Nat.mul_lt_mul_of_pos_left (Nat.mod_lt _ (Nat.pow_pos (by decide))) (by decide)
  have aud:p<=4294967295*4294967296:=by
   rw[<-hp];exact Nat.mul_le_mul (by have:=Nat.mod_lt (V/4294967296^i) (show 0<4294967296 by decide);omega) hf
  have Si:(p+c)%4294967296=t:=by rw[<-hp,<-hc,Sj (B:=4294967296) (by decide),Nat.add_zero,ht]
  have hstep:(p+c)/4294967296=sC 4294967296 V f 0 (i+1):=by rw[<-hp,<-hc,ND (B:=4294967296) (by decide)]
  have aue:t<4294967296:=by rw[<-ht];exact Nat.mod_lt _ (by decide)
  obtain⟨u,hu⟩:∃u,U/4294967296^i%4294967296=u:=⟨_,Y⟩;have akj:u<4294967296:=by rw[<-hu];exact Nat.mod_lt _ (by decide)
  have hg:(gN 4294967296 N (mix 4294967296 o i X U A))[o+i]? =some u:=by rw[uD (by omega),EB (by decide),hu]
  have hl:=agS i;obtain⟨l,hle⟩:∃l,FI 4294967296 U (V*f) i=l:=⟨_,Y⟩;have hxd:(u+(4294967296-1-t)+l)%4294967296=X/4294967296^i%4294967296:=by rw[<-hu,<-ht,<-hle,YE (B:=4294967296) (by decide) hi (by omega),hX]
  have hls:(u+(4294967296-1-t)+l)/4294967296=FI 4294967296 U (V*f) (i+1):=by rw[<-hu,<-ht,<-hle,JC (B:=4294967296) (by decide)]
  rw[hle]at hl;have hput:=NG (B:=4294967296) (by decide) o i X U A (N:=N) (by omega);rw[hle,hc,<-hls];simp only[show decide ((i:Int)<((n+1:Nat):Int))=true by simp;omega,gV,cc,cE];rw[Hv (by omega)];simp only[cc,hg];have way:∀k:Nat->Option ((Nat×Int×Nat×List Nat)⊕(Nat×List Nat)),(bif decide ((i:Int)<(v.length:Int))then(cL v (i:Int)).bind λgX=>k (gX%18446744073709551616*f%18446744073709551616)else k 0)=k p:=by
   intro k;by_cases hin:i<v.length
   ·rw[show decide ((i:Int)<(v.length:Int))=true by simp;omega,gV];have NZ:v[i]? =some (V/4294967296^i%4294967296):=by rw[<-ZL];exact pP hV hin
    rw[bz NZ,cc,Nat.mod_eq_of_lt (a:=V/4294967296^i%4294967296) (b:=18446744073709551616) (by have:=Nat.mod_lt (V/4294967296^i) (show 0<4294967296 by decide);omega),hp,Nat.mod_eq_of_lt (a:=p) (by omega)]
   rw[show decide ((i:Int)<(v.length:Int))=false by simp;omega,iy];have:V/4294967296^i=0:=Nat.div_eq_of_lt (Nat.lt_of_lt_of_le GX (Nat.pow_le_pow_right (by decide) (by omega)));rw[<-hp,this];simp
  refine(way (λy=>(cK y c).bind _)).trans ?_;rw[lp _ _ (by omega)];simp only[cc];rw[Si,hstep,Nat.mod_eq_of_lt (a:=u) (by omega),Nat.mod_eq_of_lt (a:=t) (by omega)];rw[dS (by rw[cf];omega),cc,bM (by omega),akh];by_cases aew:u<t+(1-l)
  ·have e1:we 18446744073709551616 (we 18446744073709551616 u t) (1-l)=18446744073709551616+u-t-(1-l):=by
    by_cases h1:u<t
    ·rw[Ew h1 (by omega),z2 (by omega) (by omega)]
    rw[z2 (a:=u) (b:=t) (by omega) (by omega),Ew (by omega) (by omega)];omega
   rw[e1];have e2:(18446744073709551616+u-t-(1-l))%4294967296=X/4294967296^i%4294967296:=by rw[<-hxd];omega
   have e3:(18446744073709551616+u-t-(1-l))/9223372036854775808=1-(u+(4294967296-1-t)+l)/4294967296:=by omega
   rw[e2,e3,hput]
  have e1:we 18446744073709551616 (we 18446744073709551616 u t) (1-l)=u-t-(1-l):=by
   rw[z2 (a:=u) (b:=t) (by omega) (by omega),z2 (by omega) (by omega)]
  rw[e1];have e2:(u-t-(1-l))%4294967296=X/4294967296^i%4294967296:=by rw[<-hxd];omega
  have e3:(u-t-(1-l))/9223372036854775808=1-(u+(4294967296-1-t)+l)/4294967296:=by omega
  rw[e2,e3,hput]
 ·simp
 simp only[cc];rw[y4 (by rw[cf,cf]),cc,P8 hU,abf (by decide) hU hT];congr 2;by_cases h:U<V*f<;>simp[h]
end
section
open Go.Fw
theorem akp{B V:Nat}(hB:0<B)(hV:0<V)(A k:Nat):A%(V*B^(k+1))/B^k<B*V:=by
 rw[Nat.div_lt_iff_lt_mul (Nat.pow_pos hB)];have:V*B^(k+1)=B*V*B^k:=by rw[Nat.pow_succ,Nat.mul_comm (B^k),<-Nat.mul_assoc,Nat.mul_comm V]
 rw[<-this];exact Nat.mod_lt _ (Nat.mul_pos hV (Nat.pow_pos hB))
theorem agT{B V:Nat}(A k:Nat):A%(V*B^(k+1))%B^k+B^k*(A%(V*B^(k+1))/B^k%V)=A%(V*B^k):=by
 rw[<-Nat.mod_mul,Nat.mul_comm (B^k),Nat.mod_mod_of_dvd];rw[Nat.pow_succ,<-Nat.mul_assoc];exact Nat.dvd_mul_right _ _
theorem agU{B V:Nat}(A k:Nat):A%(V*B^(k+1))/B^k/V=A/V/B^k%B:=by
 rw[Nat.div_div_eq_div_mul,Nat.mul_comm (B^k),Nat.pow_succ,<-Nat.mul_assoc,Nat.mod_mul_right_div_self,Nat.div_div_eq_div_mul]
theorem NI{B:Nat}(hB:0<B){N k:Nat}(h:k<N)(Q:Nat):(gN B N (Q/B^(k+1)*B^(k+1))).set k (Q/B^k%B)=gN B N (Q/B^k*B^k):=by
 have hP:0<B^k:=Nat.pow_pos hB;refine B3 hB h (Nat.mod_lt _ hB) ?_ ?_ ?_
 ·rw[Nat.mul_mod_left,Nat.pow_succ,Nat.mul_comm (B^k),<-Nat.mul_assoc,Nat.mul_mod_left]
 ·rw[Nat.mul_div_cancel _ hP]
 rw[Nat.mul_div_cancel _ (Nat.pow_pos hB),Nat.pow_succ,<-Nat.div_div_eq_div_mul,Nat.mul_div_cancel _ hP,Nat.div_div_eq_div_mul]
theorem TC{α:Type}{l:List α}{o n:Nat}(h:o<l.length)(h':o+n<=l.length):ckS l (o:Int) ((o+n:Nat):Int)=some (o,n):=by
 unfold ckS;rw[if_pos (by omega)];congr 2;omega
theorem abg{U V g M:Nat}(hV:0<V)(h1:U/V<=g)(h2:g<=U/V+1)(hM:U<M)(hVM:V<=M):
  (V*g<=U/\g=U/V/\(U+M-V*g)%M=U%V)\/(U<V*g/\g=U/V+1/\U+M-V*g<M/\(U+M-V*g+V)%M=U%V):=by
 have hd:=Nat.div_add_mod U V;have hm:=Nat.mod_lt U hV
 revert h1 h2 hd hm
 generalize U/V=q;generalize U%V=r;intro h1 h2 hd hm;rcases Nat.lt_or_ge q g with h|h
 ·obtain rfl:g=q+1:=by omega
  have e:V*(q+1)=V*q+V:=Nat.mul_succ ..;right;refine⟨by omega,Y,by omega,?_⟩;rw[show U+M-V*(q+1)+V=r+M by omega,Nat.add_mod_right,Nat.mod_eq_of_lt (by omega)]
 obtain rfl:g=q:=by omega
 left;refine⟨by omega,Y,?_⟩;rw[show U+M-V*g=r+M by omega,Nat.add_mod_right,Nat.mod_eq_of_lt (by omega)]
theorem abh{R D e i:Nat}(hD:0<D)(he:4294967296=D*e):(R*D/4294967296^(i+1)%4294967296*4294967296+R*D/4294967296^i%4294967296)/D%4294967296=R/4294967296^i%4294967296:=by
 have h1:R*D/4294967296^(i+1)%4294967296*4294967296+R*D/4294967296^i%4294967296=R*D/4294967296^i%(4294967296*4294967296):=by
  rw[Nat.mod_mul,Nat.div_div_eq_div_mul,show 4294967296^i*4294967296=4294967296^(i+1)from(Nat.pow_succ ..).symm,Nat.add_comm,Nat.mul_comm 4294967296]
 have h2:(4294967296*4294967296:Nat)=D*(e*4294967296):=by
  rw[<-Nat.mul_assoc,<-he]
 rw[h1,h2,Nat.mod_mul_right_div_self,Nat.mod_mul_left_mod,Nat.div_div_eq_div_mul,Nat.mul_comm (4294967296^i) D,<-Nat.div_div_eq_div_mul,Nat.mul_div_cancel _ hD]
theorem agV{B:Nat}(hB:0<B){N i R:Nat}(h:i<N):(gN B N (R%B^i)).set i (R/B^i%B)=gN B N (R%B^(i+1)):=by
 refine B3 hB h (Nat.mod_lt _ hB) ?_ ?_ ?_
 ·rw[Nat.mod_mod,Nat.mod_mod_of_dvd _ (Nat.pow_dvd_pow _ (Nat.le_succ i))]
 ·rw[Nat.pow_succ,Nat.mod_mul_right_div_self,Nat.mod_mod]
 rw[Nat.div_eq_of_lt (Nat.mod_lt _ (Nat.pow_pos hB)),Nat.div_eq_of_lt];exact Nat.lt_of_lt_of_le (Nat.mod_lt _ (Nat.pow_pos hB)) (Nat.pow_le_pow_right hB (Nat.le_succ i))
theorem Sn(a b:List Nat)(ha:NF a)(hb:NF b){n:Nat}(hn:b.length=n+2)(hl:b.length<=a.length)(Sl:b[n+1]? ≠some 0):
  m8 a b=some (gN 4294967296 (a.length-b.length+1) (vl a/vl b),gN 4294967296 b.length (vl a%vl b)):=by
 obtain⟨hA,hla⟩:=ha;obtain⟨hB,hlb⟩:=hb;have hP:∀k,0<4294967296^k:=λk=>Nat.pow_pos (by decide);obtain⟨Va,hVa⟩:∃V,vl a=V:=⟨_,Y⟩;obtain⟨Vb,hVb⟩:∃V,vl b=V:=⟨_,Y⟩;have agW:Vb<4294967296^(n+2):=by rw[<-hVb,<-hn];exact ju b hB
 have halt:Va<4294967296^a.length:=by rw[<-hVa];exact ju a hA
 have Qb:4294967296^(n+2)=4294967296^(n+1)*4294967296:=Nat.pow_succ ..;obtain⟨x,hx⟩:∃x,Vb/4294967296^(n+1)=x:=⟨_,Y⟩;have akq:x<4294967296:=by rw[<-hx,Nat.div_lt_iff_lt_mul (hP _)];rw[Qb,Nat.mul_comm]at agW;exact agW
 have hgx:b[n+1]? =some x:=by rw[pP hB (by omega),show val 4294967296 b=Vb from hVb,hx,Nat.mod_eq_of_lt akq]
 have hx0:x≠0:=λe=>Sl (by rw[hgx,e]);obtain⟨s,Vm,ES,hs3,hs4⟩:=akf x akq hx0;have hp2:0<2^s:=Nat.two_pow_pos s;have aks:2^s<4294967296:=by
  have:2^s<2^32:=Nat.pow_lt_pow_right (by decide) ES;rw[two32]at this;exact this
 obtain⟨D,hD⟩:∃D,2^s=D:=⟨_,Y⟩;rw[hD]at hs3 hs4 hp2 aks;obtain⟨V,hV⟩:∃V,Vb*D=V:=⟨_,Y⟩;obtain⟨A,hAe⟩:∃A,Va*D=A:=⟨_,Y⟩;have GX:V<4294967296^(n+2):=by
  have h1:Vb<(x+1)*4294967296^(n+1):=by rw[<-hx,Nat.add_mul,Nat.one_mul];exact Nat.lt_div_mul_add (hP _)
  have h2:(x+1)*D<=4294967296:=by
   obtain⟨e,he⟩:∃e,4294967296=D*e:=⟨2^(32-s),by rw[<-hD,<-Nat.pow_add,show s+(32-s)=32 by omega,two32]⟩;have h3:x<e:=by
    apply Nat.lt_of_mul_lt_mul_left (a:=D);rw[<-he,Nat.mul_comm];exact hs4
   calc (x+1)*D<=e*D:=Nat.mul_le_mul_right _ h3
    _=4294967296:=by rw[Nat.mul_comm,<-he]
  rw[<-hV,Qb]
  calc Vb*D<(x+1)*4294967296^(n+1)*D:=Nat.mul_lt_mul_of_pos_right h1 hp2
   _=4294967296^(n+1)*((x+1)*D):=by rw[Nat.mul_comm (x+1),Nat.mul_assoc]
   _<=4294967296^(n+1)*4294967296:=Nat.mul_le_mul_left _ h2
 have YG:2147483648*4294967296^(n+1)<=V:=by
  have h1:x*4294967296^(n+1)<=Vb:=by rw[<-hx];exact Nat.div_mul_le_self _ _
  rw[<-hV]
  calc 2147483648*4294967296^(n+1)<=x*D*4294967296^(n+1):=Nat.mul_le_mul_right _ hs3
   _=x*4294967296^(n+1)*D:=by rw[Nat.mul_assoc,Nat.mul_comm D,<-Nat.mul_assoc]
   _<=Vb*D:=Nat.mul_le_mul_right _ h1
 have hV0:0<V:=Nat.lt_of_lt_of_le (Nat.mul_pos (by decide) (hP _)) YG;have hb0:0<Vb:=by
  rcases Nat.eq_zero_or_pos Vb with h|h
  ·rw[<-hV,h,Nat.zero_mul]at hV0;omega
  exact h
 have hAV:A/V=Va/Vb:=by rw[<-hAe,<-hV,Nat.mul_div_mul_right _ _ hp2]
 have aqM:A%V=Va%Vb*D:=by rw[<-hAe,<-hV,Nat.mul_mod_mul_right]
 obtain⟨K,hK⟩:∃K,a.length=K+(n+2):=⟨a.length-(n+2),by omega⟩;have hA0:A<V*4294967296^(K+1):=by
  have h1:4294967296^(n+1)<=Vb:=by
   have:1*4294967296^(n+1)<=x*4294967296^(n+1):=Nat.mul_le_mul_right _ (by omega);have h2:x*4294967296^(n+1)<=Vb:=by rw[<-hx];exact Nat.div_mul_le_self _ _
   omega
  rw[<-hAe,<-hV]
  calc Va*D<4294967296^a.length*D:=Nat.mul_lt_mul_of_pos_right halt hp2
   _=4294967296^(n+1)*4294967296^(K+1)*D:=by rw[hK,<-Nat.pow_add];congr 2;omega
   _<=Vb*4294967296^(K+1)*D:=Nat.mul_le_mul_right _ (Nat.mul_le_mul_right _ h1)
   _=Vb*D*4294967296^(K+1):=by rw[Nat.mul_assoc,Nat.mul_comm _ D,<-Nat.mul_assoc]
 obtain⟨v,hve⟩:∃v,gN 4294967296 (n+2) V=v:=⟨_,Y⟩;have hvl:v.length=n+2:=by rw[<-hve,cf]
 have hvW:NF v:=⟨λy hy=>by rw[<-hve]at hy;exact uU (by decide) _ _ _ hy,by omega⟩;have hvv:vl v=V:=by rw[<-hve];show val _ _=_;rw[rP,Nat.mod_eq_of_lt GX]
 have akv:List.take b.length (gN 4294967296 (b.length+1) (Vb*2^s))=v:=by
  rw[hD,hV,hn,mw,List.take_append_of_le_length (by rw[cf];omega),List.take_of_length_le (by rw[cf];omega),hve]
 unfold m8;simp only[cc];rw[show((b.length:Nat):Int)-1=((n+1:Nat):Int) by omega,j1 (by omega),bz hgx,cc,Vm,cc];rw[show((s:Int)%18446744073709551616).toNat=s by rw[Int.emod_eq_of_lt (by omega) (by omega)];simp];rw[KQ,shiftLeft_eq a s ⟨hA,hla⟩ ES,cc,shiftLeft_eq b s ⟨hB,hlb⟩ ES,cc,yZ (by rw[cf];omega),cc];obtain⟨Q,hQ⟩:∃Q,A/V=Q:=⟨_,Y⟩;have aqO:Q<4294967296^(K+1):=by rw[<-hQ,Nat.div_lt_iff_lt_mul hV0,Nat.mul_comm];exact hA0
 rw[hVa,hVb,<-hAV,hQ,akv,hD,hAe,hn];rw[show a.length-(n+2)+1=K+1 by omega];rw[cG (x:=(a.length:Int)-((n+2:Nat):Int)) (by omega) (by omega),cG (x:=(a.length:Int)-((n+2:Nat):Int)+1) (by omega) (by omega),show(a.length:Int)-((n+2:Nat):Int)+1=((K+1:Nat):Int) by omega,sV (by decide) (by omega),cc,show(a.length:Int)-((n+2:Nat):Int)=(K:Int) by omega];refine bH (λj=>((K:Int)-(j:Int),gN 4294967296 (K+1) (Q/4294967296^(K+1-j)*4294967296^(K+1-j)),gN 4294967296 (a.length+1) (A%(V*4294967296^(K+1-j))))) (K+1) (gN 4294967296 (K+1) Q,gN 4294967296 (a.length+1) (A%V)) ?_ (λj hj=>?_) ?_ ?_
 ·rw[show K+1-0=K+1 by omega,Nat.mod_eq_of_lt hA0,Nat.div_eq_of_lt aqO,Nat.zero_mul,y5];simp
 ·
  obtain⟨k,hk⟩:∃k,K=k+j:=⟨K-j,by omega⟩;rw[show K+1-j=k+1 by omega,show K+1-(j+1)=k by omega,show(K:Int)-(j:Int)=(k:Int) by omega,show(K:Int)-((j+1:Nat):Int)=(k:Int)-1 by omega];have hU:=akp (B:=4294967296) (by decide) hV0 A k;have Qc:=agT (B:=4294967296) (V:=V) A k;have hdg:=agU (B:=4294967296) (V:=V) A k;obtain⟨N,hN⟩:∃N,a.length+1=N:=⟨_,Y⟩;obtain⟨A1,hA1⟩:∃A1,A%(V*4294967296^(k+1))=A1:=⟨_,Y⟩;rw[hN];rw[hA1]at hU Qc hdg⊢;rw[hQ]at hdg;obtain⟨⟨g,lg⟩,hge,hgl,hg1,ZE⟩:=Qa (N:=N) (A:=A1) (o:=k) (n:=n) (v:=v) hvW hvl (by omega) (by omega) (by rw[hvv];exact hU) (by rw[hvv];exact YG);simp only at hgl hg1 ZE;rw[hvv]at hg1 ZE;subst hgl;have hsub:=Cm (N:=N) (A:=A1) (o:=k) (n:=n+2) (v:=v) (f:=g) hvW hvl (by omega) (by omega) ?_ ?_
  ·rw[hvv]at hsub;obtain⟨U,ZK⟩:∃U,A1/4294967296^k=U:=⟨_,Y⟩;rw[ZK]at hU Qc hdg hg1 ZE hsub;have abi:4294967296^(n+2+1)=4294967296^(n+2)*4294967296:=Nat.pow_succ ..;have hUM:U<4294967296^(n+2+1):=by
    have:4294967296*V<4294967296*4294967296^(n+2):=Nat.mul_lt_mul_of_pos_left GX (by decide);rw[abi];omega
   have YH:=abg (M:=4294967296^(n+2+1)) hV0 hg1 ZE hUM (by rw[abi];omega);have hql:U/V<4294967296:=by rw[hdg];exact Nat.mod_lt _ (by decide)
   rw[show decide ((0:Int)<=(k:Int))=true by simp,gV];rw[rO (by omega),bM (by omega),show k+(n+2)+1=k+(n+3) by omega,TC (by rw[cf];omega) (by rw[cf];omega),cc,hge,cc,y4 Y,cc,TC (by rw[cf];omega) (by rw[cf];omega),cc];show(Option.bind (eK _ k (n+2+1) v g) _)=_;rw[hsub,cc,y4 (by rw[cf,cf]),cc];simp only[cE];rcases YH with⟨hc1,N9,hc3⟩|⟨hc1,N9,hc3,hc4⟩
   ·rw[show decide (U<V*g)=false by simp;omega,iy,hc3,Qc,N9,Nat.mod_eq_of_lt hql,hdg,b9 (by rw[cf];omega),cc,dS (by rw[cf];omega),cc,NI (by decide) (by omega),cG (by omega) (by omega)]
   rw[show decide (U<V*g)=true by simp;omega,gV,z2 (by omega) (by omega),show g-1=U/V by omega,Nat.mod_eq_of_lt hql,hdg];rw[Nat.mod_eq_of_lt hc3];obtain⟨aa,hY⟩:∃aa,U+4294967296^(n+2+1)-V*g=aa:=⟨_,Y⟩;rw[hY]at hc3 hc4⊢;obtain⟨A2,hA2⟩:∃A2,A1%4294967296^k+4294967296^k*aa=A2:=⟨_,Y⟩;rw[hA2];have hw2:A2/4294967296^k=aa:=by rw[<-hA2,Nat.add_mul_div_left _ _ (hP k),Nat.div_eq_of_lt (Nat.mod_lt _ (hP k)),Nat.zero_add]
   have Vy:A2%4294967296^k=A1%4294967296^k:=by rw[<-hA2,Nat.add_mul_mod_self_left,Nat.mod_mod]
   have hcr:∀i,Hy 4294967296 aa V i<=1:=λi=>Jy (by decide) _ _ _;refine bH (λi=>((i:Int),Hy 4294967296 aa V i,gN 4294967296 N (mix 4294967296 k i (aa+V) aa A2))) (n+2) (Hy 4294967296 aa V (n+2),gN 4294967296 N (mix 4294967296 k (n+2) (aa+V) aa A2)) ?_ (λi hi=>?_) ?_ ?_
   ·rw[JA,<-hw2,P9];rfl
   ·have NZ:v[i]? =some (V/4294967296^i%4294967296):=by rw[<-hvv];exact pP hvW.1 (by omega)
    have hgu:(gN 4294967296 N (mix 4294967296 k i (aa+V) aa A2))[k+i]? =some (aa/4294967296^i%4294967296):=by rw[uD (by omega),EB (by decide)]
    have Vm:=Jz (B:=4294967296) (by decide) aa V i;have ES:=Hz (B:=4294967296) (by decide) aa V i;have hput:=NG (B:=4294967296) (by decide) k i (aa+V) aa A2 (N:=N) (by omega);have hci:=hcr i;have hv1:=Nat.mod_lt (V/4294967296^i) (show 0<4294967296 by decide);have hy1:=Nat.mod_lt (aa/4294967296^i) (show 0<4294967296 by decide);simp only[show decide ((i:Int)<(v.length:Int))=true by simp;omega,gV];rw[bz NZ,cc,rO (by omega),b9 (by rw[cf];omega),cc,hgu,cc,Nat.mod_eq_of_lt (a:=aa/4294967296^i%4294967296) (b:=18446744073709551616) (by omega),Nat.mod_eq_of_lt (a:=V/4294967296^i%4294967296) (b:=18446744073709551616) (by omega),Nat.mod_eq_of_lt (b:=18446744073709551616) (by omega),lp _ _ (by omega),cc,cc,dS (by rw[cf];omega),cc,bM (by omega)];rw[Vm,ES,hput]
   ·simp[hvl]
   have hgu:(gN 4294967296 N (mix 4294967296 k (n+2) (aa+V) aa A2))[k+(n+2)]? =some (aa/4294967296^(n+2)%4294967296):=by rw[uD (by omega),EB (by decide)]
   have ES:=Hz (B:=4294967296) (by decide) aa V (n+2);have hput:=NG (B:=4294967296) (by decide) k (n+2) (aa+V) aa A2 (N:=N) (by omega);have hci:=hcr (n+2);have hy1:=Nat.mod_lt (aa/4294967296^(n+2)) (show 0<4294967296 by decide);rw[Nat.div_eq_of_lt GX,Nat.zero_mod,Nat.add_zero]at ES;simp only[];rw[b9 (by rw[cf];omega),cc,hgu,cc,Nat.mod_eq_of_lt (a:=aa/4294967296^(n+2)%4294967296) (b:=18446744073709551616) (by omega),lp _ _ (by omega),cc,cc,dS (by rw[cf];omega),cc,ES,hput,P8 hc3,Vy,hc4,Qc,b9 (by rw[cf];omega),cc,dS (by rw[cf];omega),cc,NI (by decide) (by omega),cG (by omega) (by omega)]
  ·
   have hql:A1/4294967296^k/V<4294967296:=by rw[hdg];exact Nat.mod_lt _ (by decide)
   omega
  have abi:4294967296^(n+2+1)=4294967296^(n+2)*4294967296:=Nat.pow_succ ..;have:4294967296*V<4294967296*4294967296^(n+2):=Nat.mul_lt_mul_of_pos_left GX (by decide);rw[abi];omega
 ·rw[show K+1-(K+1)=0 by omega,Nat.pow_zero,Nat.mul_one,Nat.mul_one,Nat.div_one,show decide (0<=(K:Int)-((K+1:Nat):Int))=false by simp;omega,iy]
 obtain⟨R,hR⟩:∃R,Va%Vb=R:=⟨_,Y⟩;rw[aqM,hR];have aqS:R<4294967296^(n+2):=by rw[<-hR];exact Nat.lt_trans (Nat.mod_lt _ hb0) agW
 rw[sV (by decide) (by omega),cc];refine bH (λi=>((i:Int),gN 4294967296 (n+2) (R%4294967296^i))) (n+2) (gN 4294967296 (n+2) R) ?_ (λi hi=>?_) ?_ Y
 ·rw[Nat.pow_zero,Nat.mod_one,y5];rfl
 ·obtain⟨e,he⟩:∃e,4294967296=D*e:=⟨2^(32-s),by rw[<-hD,<-Nat.pow_add,show s+(32-s)=32 by omega,two32]⟩;have YI:=abh (R:=R) (i:=i) hp2 he;obtain⟨u,hu⟩:∃u,R*D/4294967296^i%4294967296=u:=⟨_,Y⟩;obtain⟨w,hw⟩:∃w,R*D/4294967296^(i+1)%4294967296=w:=⟨_,Y⟩;have hu1:u<4294967296:=by rw[<-hu];exact Nat.mod_lt _ (by decide)
  have hw1:w<4294967296:=by rw[<-hw];exact Nat.mod_lt _ (by decide)
  rw[hu,hw]at YI;simp only[show decide ((i:Int)<((n+2:Nat):Int))=true by simp;omega,gV];rw[b9 (by rw[cf];omega),cc,uD (by omega),cc,hu,bM (by omega),b9 (by rw[cf];omega),cc,uD (by omega),cc,hw,Nat.mod_eq_of_lt (a:=u) (by omega),Nat.mod_eq_of_lt (a:=w) (by omega),two32,Nat.mod_eq_of_lt (a:=w*4294967296) (by omega),Nat.or_comm,TA hu1,Nat.mod_eq_of_lt (a:=w*4294967296+u) (by omega),show min s 64=s by omega,hD,YI,b9 (by rw[cf];omega),cc,dS (by rw[cf];omega),cc];rw[agV (by decide) hi]
 rw[Nat.mod_eq_of_lt aqS];simp
end
section
open Go.Fw
def sv(n:Bool)(v:Nat):Int:=bif n then-(v:Int)else v
def zi(z:Zr):Int:=sv z.neg (vl z.w)
def zn(i:Int):Zr:=⟨decide (i<0),can 4294967296 i.natAbs⟩
def Wl(z:Zr):Prop:=(∀x∈z.w,x<4294967296)/\z.w.length<=10000000000
def Fit(L:Nat)(i:Int):Prop:=i.natAbs<4294967296^L
theorem YJ(n:Bool)(v:Nat):(sv n v).natAbs=v:=by cases n<;>simp[sv]
theorem BA(z:Zr):(zi z).natAbs=vl z.w:=YJ _ _
theorem agY(n:Bool)(v:Nat):decide (sv n v<0)=(n&&v != 0):=by
 cases n
 ·have:¬((v:Int)<0):=by omega
  simp[sv,this]
 rcases v with _|v
 ·simp[sv]
 simp[sv]
theorem xg(n:Bool)(v:Nat):zc n v=zn (sv n v):=by rw[zc,zn,agY,YJ]
theorem abj(i:Int):sv (decide (i<0)) i.natAbs=i:=by
 by_cases h:i<0
 ·rw[show decide (i<0)=true by simp[h]];simp[sv];omega
 rw[show decide (i<0)=false by simp[h]];simp[sv];omega
theorem gz(i:Int):zi (zn i)=i:=by
 show sv (decide (i<0)) (vl (can 4294967296 i.natAbs))=i;rw[show vl (can 4294967296 i.natAbs)=i.natAbs from oU (by decide) _,abj]
theorem JD(n:Bool)(v:Nat):sv (!n) v=-sv n v:=by cases n<;>simp[sv]
theorem oA(v:Nat):sv false v=v:=rfl
theorem Fit.mono{L M:Nat}{i:Int}(h:Fit L i)(hl:L<=M):Fit M i:=Nat.lt_of_lt_of_le h (Nat.pow_le_pow_right (by decide) hl)
theorem Fit.neg{L:Nat}{i:Int}(h:Fit L i):Fit L (-i):=by unfold Fit at*;rw[Int.natAbs_neg];exact h
theorem Fit.add{L:Nat}{i j:Int}(h:Fit L i)(h':Fit L j):Fit (L+1) (i+j):=by
 unfold Fit at*;have:=Int.natAbs_add_le i j;rw[Nat.pow_succ];omega
theorem Fit.sub{L:Nat}{i j:Int}(h:Fit L i)(h':Fit L j):Fit (L+1) (i-j):=by
 rw[Int.sub_eq_add_neg];exact h.add h'.neg
theorem Fit.mul{L M:Nat}{i j:Int}(h:Fit L i)(h':Fit M j):Fit (L+M) (i*j):=by
 unfold Fit at*;rw[Int.natAbs_mul,Nat.pow_add];exact Nat.mul_lt_mul'' h h'
theorem Fit.i64{i:Int}(h: -9223372036854775808<=i)(h':i<=9223372036854775807):Fit 2 i:=by
 unfold Fit;rw[show(4294967296:Nat)^2=18446744073709551616 by decide];omega
theorem Fit.le{L:Nat}{i j:Int}(h:Fit L i)(h':j.natAbs<=i.natAbs):Fit L j:=Nat.lt_of_le_of_lt h' h
theorem gA{L:Nat}{i:Int}(h:Fit L i)(hL:L<=10000000000):Wl (zn i):=
 ⟨λ_ hx=>jd (by decide) hx,Nat.le_trans ((cH (by decide)).2 h) hL⟩
theorem Wl.fit{z:Zr}(h:Wl z):Fit z.w.length (zi z):=by
 unfold Fit;rw[BA];exact ju z.w h.1
theorem Wl.lt{z:Zr}(h:Wl z):vl z.w<4294967296^z.w.length:=ju z.w h.1
theorem Wl.cl{z:Zr}(h:Wl z):(can 4294967296 (vl z.w)).length<=10000000000:=
 Nat.le_trans ((cH (by decide)).2 (Wl.lt h)) h.2
theorem Wl.trim{z:Zr}(h:Wl z):bP z.w=some (can 4294967296 (vl z.w)):=by
 rw[HA _ (by have:=h.2;omega),oz (by decide) h.1]
theorem kP{v:Nat}(h:(can 4294967296 v).length<=10000000001):NF (can 4294967296 v):=⟨λ_ hx=>jd (by decide) hx,by omega⟩
theorem ia(v:Nat):vl (can 4294967296 v)=v:=oU (by decide) v
theorem jX{v:Nat}:((can 4294967296 v).length:Int)<=2↔v<18446744073709551616:=by
 have:=cH (B:=4294967296) (by decide) (v:=v) (n:=2);rw[show(4294967296:Nat)^2=18446744073709551616 by decide]at this;omega
theorem rQ{v:Nat}:((can 4294967296 v).length:Int)<=1↔v<4294967296:=by
 have:=cH (B:=4294967296) (by decide) (v:=v) (n:=1);rw[show(4294967296:Nat)^1=4294967296 by decide]at this;omega
theorem xh{v:Nat}:(can 4294967296 v).length=0↔v=0:=by
 constructor
 ·intro h;exact Ey (by decide) (List.length_eq_zero_iff.1 h)
 intro h;rw[h,xe];rfl
theorem EC(l:List Nat)(h:l.length<=1000000000000):gH l=some l:=by
 unfold gH;rw[Yu (by decide) (by simp;omega)];simp
end
section
open Go.Fw
theorem Qd(a b:Nat):decide (Dn a b<0)=decide (a<b):=by
 rcases Nat.lt_trichotomy a b with h|h|h
 ·rw[xU h];simp[h]
 ·rw[h,B4];simp
 rw[z6 h];simp;omega
theorem Gq(a b:Nat)(ha:(can 4294967296 a).length<=10000000000)(hb:(can 4294967296 b).length<=10000000000)(h0:b≠0):
  ∃q r,jJ (can 4294967296 a) (can 4294967296 b)=some (q,r)/\NF q/\vl q=a/b/\NF r/\vl r=a%b/\q.length<=10000000001/\r.length<=10000000001:=by
 unfold jJ;rw[pQ a b (by omega) (by omega)];simp only[cc];by_cases hlt:a<b
 ·rw[xU hlt];simp only[show decide ((-1:Int)<0)=true by decide,gV];rw[EC _ (by omega)];refine⟨_,_,Y,⟨by simp,by simp⟩,?_,kP (by omega),?_,by simp,by omega⟩
  ·rw[Nat.div_eq_of_lt hlt];rfl
  rw[ia,Nat.mod_eq_of_lt hlt]
 rw[Qd,show decide (a<b)=false by simp[hlt]];simp only[iy];by_cases h2:a<18446744073709551616
 ·rw[show decide (((can 4294967296 a).length:Int)<=2)=true by rw[decide_eq_true_eq];exact jX.2 h2];have J8:b<18446744073709551616:=by omega
  simp only[gV];have l1:=low_eq (can 4294967296 a) (λ_ hx=>jd (by decide) hx) (by have:=jX.2 h2;omega);have l2:=low_eq (can 4294967296 b) (λ_ hx=>jd (by decide) hx) (by have:=jX.2 J8;omega);rw[ia]at l1 l2;rw[l1,cc,l2,cc,Nx h0 h2,cc,za _ _ (Nat.lt_of_le_of_lt (Nat.div_le_self _ _) h2),cc,Hw h0,cc,za _ _ (Nat.lt_of_le_of_lt (Nat.mod_le _ _) h2),cc];have hq:a/b<18446744073709551616:=Nat.lt_of_le_of_lt (Nat.div_le_self _ _) h2;have hr:a%b<18446744073709551616:=Nat.lt_of_le_of_lt (Nat.mod_le _ _) h2;have c1:=jX.2 hq;have c2:=jX.2 hr;exact⟨_,_,Y,kP (by omega),ia _,kP (by omega),ia _,by show(can _ _).length<=_;omega,by show(can _ _).length<=_;omega⟩
 rw[show decide (((can 4294967296 a).length:Int)<=2)=false by rw[decide_eq_false_iff_not];exact λh=>h2 (jX.1 h)];simp only[iy];have Cu:(can 4294967296 b).length≠0:=λh=>h0 (xh.1 h);by_cases h1:b<4294967296
 ·have h1':=rQ.2 h1;rw[show decide (((can 4294967296 b).length:Int)=1)=true by simp;omega,gV];have hg:(can 4294967296 b)[0]? =some b:=by rw[B0 (by decide) (by omega)];simp;exact h1
  rw[EC _ (by omega),cc,BZ hg,cc,Nat.mod_eq_of_lt (b:=18446744073709551616) (by omega),P7 _ _ (kP (by omega)) (by omega) (by omega),cc,ia];simp only[];rw[y4 (by rw[cf]),cc];have hm:a%b<b:=Nat.mod_lt _ (by omega);rw[Nat.mod_eq_of_lt (a:=a%b) (by omega)];refine⟨_,_,Y,⟨λx hx=>uU (by decide) _ _ _ hx,by rw[cf];omega⟩,?_,⟨?_,by simp⟩,?_,by rw[cf];omega,by simp⟩
  ·show val _ _=_;rw[rP,Nat.mod_eq_of_lt (Nat.lt_of_le_of_lt (Nat.div_le_self _ _) (c6 (by decide) a))]
  ·intro x hx;simp at hx;omega
  simp[vl,val]
 have h1':¬(((can 4294967296 b).length:Int)<=1):=λh=>h1 (rQ.1 h);rw[show decide (((can 4294967296 b).length:Int)=1)=false by simp;omega,iy];obtain⟨n,hn⟩:∃n,(can 4294967296 b).length=n+2:=⟨(can 4294967296 b).length-2,by omega⟩;have hl:(can 4294967296 b).length<=(can 4294967296 a).length:=(cH (by decide)).2 (Nat.lt_of_le_of_lt (by omega) (c6 (by decide) a));obtain⟨l,x,hx,he⟩:=P5 (B:=4294967296) (by decide) h0;have Sl:(can 4294967296 b)[n+1]? ≠some 0:=by
  have:l.length=n+1:=by rw[he]at hn;simp at hn;omega
  rw[he,<-this];simp;exact hx
 rw[Sn _ _ (kP (by omega)) (kP (by omega)) hn hl Sl,cc,ia,ia];have hbp:0<b:=by omega
 have e1:a<4294967296^(can 4294967296 a).length:=c6 (by decide) a;have e2:b<4294967296^(can 4294967296 b).length:=c6 (by decide) b;have e3:4294967296^(n+1)<=b:=yu (by decide) (by omega);refine⟨_,_,Y,⟨λx hx=>uU (by decide) _ _ _ hx,by rw[cf];omega⟩,?_,⟨λx hx=>uU (by decide) _ _ _ hx,by rw[cf];omega⟩,?_,by rw[cf];omega,by rw[cf];omega⟩
 ·show val _ _=_;rw[rP,Nat.mod_eq_of_lt];rw[Nat.div_lt_iff_lt_mul hbp];have:4294967296^((can 4294967296 a).length-(can 4294967296 b).length+1)*4294967296^(n+1)=4294967296^(can 4294967296 a).length:=by rw[<-Nat.pow_add];congr 1;omega
  calc a<4294967296^((can 4294967296 a).length-(can 4294967296 b).length+1)*4294967296^(n+1):=by rw[this];exact e1
   _<=_:=Nat.mul_le_mul_left _ e3
 show val _ _=_;rw[rP,Nat.mod_eq_of_lt (Nat.lt_trans (Nat.mod_lt _ hbp) e2)]
end
section
open Go.Fw
theorem sW{x:Int}(h1: -9223372036854775808<=x)(h2:x<=9223372036854775807):cW x=some (zn x):=by
 unfold cW;simp only[cc,cE];by_cases hx:x<0
 ·have e:(x%18446744073709551616).toNat=18446744073709551616-x.natAbs:=by omega
  rw[show decide (x<0)=true by simp[hx],gV,e,Ew (by omega) (by omega),show 18446744073709551616+0-(18446744073709551616-x.natAbs)=x.natAbs by omega,za _ _ (by omega),cc,xg,show sv true x.natAbs=x by simp[sv];omega]
 have e:(x%18446744073709551616).toNat=x.natAbs:=by omega
 rw[show decide (x<0)=false by simp[hx],iy,e,za _ _ (by omega),cc,xg,show sv false x.natAbs=x by simp[sv];omega]
def gB(i:Int):Prop:=-9223372036854775808<=i/\i<=9223372036854775807
instance(i:Int):Decidable (gB i):=by unfold gB;infer_instance
def BB(i:Int):Int×Bool:=if gB i then(i,true)else(0,false)
theorem xj{z:Zr}(h:Wl z):fj z=some (BB (zi z)):=by
 obtain⟨n,w⟩:=z;unfold fj;have ht:=h.trim;have aqT:vl w<18446744073709551616->fI (can 4294967296 (vl w))=some (vl w):=λh2=>by
  rw[low_eq _ (λ_ hx=>jd (by decide) hx) (by have:=jX.2 h2;omega),ia]
 show(bP w).bind _=some (BB (sv n (vl w)));rw[show bP w=some (can 4294967296 (vl w))from ht];simp only[cc];generalize vl w=v at*;by_cases h2:v<18446744073709551616
 ·have:=jX.2 h2;rw[show decide ((2:Int)<((can 4294967296 v).length:Int))=false by simp;omega,iy,aqT h2,cc];cases n
  ·rw[iy,oA];by_cases h3:v<9223372036854775808
   ·rw[show decide (9223372036854775808<=v)=false by simp;omega,iy,j1 (by omega),BB,if_pos (by unfold gB;omega)]
   rw[show decide (9223372036854775808<=v)=true by simp;omega,gV,BB,if_neg (by unfold gB;omega)]
  rw[gV,show sv true v=-(v:Int)from rfl];by_cases h3:9223372036854775808<v
  ·rw[show decide (9223372036854775808<v)=true by simp;omega,gV,BB,if_neg (by unfold gB;omega)]
  rw[show decide (9223372036854775808<v)=false by simp;omega,iy,BB,if_pos (by unfold gB;omega)];by_cases h0:v=0
  ·subst h0;rfl
  rw[Ew (by omega) (by omega)];rw[show IntKind.i64.wrap ((18446744073709551616+0-v:Nat):Int)=-(v:Int) by
   rw[IntKind.wrap];simp[IntKind.signed,IntKind.bits];omega]
 have:¬(((can 4294967296 v).length:Int)<=2):=λh=>h2 (jX.1 h);rw[show decide ((2:Int)<((can 4294967296 v).length:Int))=true by simp;omega,gV,BB,if_neg (by unfold gB;cases n<;>simp[sv]<;>omega)]
theorem sign_eq{z:Zr}(h:Wl z):dY z=some (zi z).sign:=by
 obtain⟨n,w⟩:=z;unfold dY;show(bP w).bind _=some (sv n (vl w)).sign;rw[show bP w=some (can 4294967296 (vl w))from h.trim];simp only[cc];generalize vl w=v;by_cases h0:v=0
 ·subst h0;cases n<;>rfl
 have:(can 4294967296 v).length≠0:=λh=>h0 (xh.1 h);rw[show decide (((can 4294967296 v).length:Int)=0)=false by simp;intro e;rw[e]at this;exact this Y,iy];cases n
 ·rw[iy,oA,Int.sign_eq_one_of_pos (by omega)]
 rw[gV,show sv true v=-(v:Int)from Y,Int.sign_eq_neg_one_of_neg (by omega)]
def qm(i j:Int):Int:=if i<j then-1 else if i=j then 0 else 1
theorem lH{i j:Int}(h:i<j):qm i j=-1:=by simp[qm,h]
theorem lI{i j:Int}(h:j<i):qm i j=1:=by
 have h1:¬i<j:=by omega
 have h2:¬i=j:=by omega
 simp[qm,h1,h2]
theorem vX(i:Int):qm i i=0:=by simp[qm]
theorem JE(v w:Nat):Dn v w=qm (v:Int) (w:Int):=by
 rcases Nat.lt_trichotomy v w with h|h|h
 ·rw[xU h,lH (by omega)]
 ·rw[h,B4,vX]
 rw[z6 h,lI (by omega)]
theorem Qe(i j:Int):qm (-i) (-j)=qm j i:=by
 rcases Int.lt_trichotomy i j with h|h|h
 ·rw[lI h,lI (by omega)]
 ·rw[h,vX,vX]
 rw[lH h,lH (by omega)]
theorem agZ{x y:Zr}(hx:Wl x)(hy:Wl y):tW x y=some (qm (zi x) (zi y)):=by
 obtain⟨n,w⟩:=x;obtain⟨m,u⟩:=y;unfold tW;show(dY ⟨n,w⟩).bind _=_;rw[sign_eq hx,cc];show(dY ⟨m,u⟩).bind _=_;rw[sign_eq hy,cc,show bP w=some (can 4294967296 (vl w))from hx.trim,show bP u=some (can 4294967296 (vl u))from hy.trim];simp only[cc];rw[pQ _ _ (Nat.le_trans hx.cl (by decide)) (Nat.le_trans hy.cl (by decide)),pQ _ _ (Nat.le_trans hy.cl (by decide)) (Nat.le_trans hx.cl (by decide))];simp only[cc];rw[show zi ⟨n,w⟩=sv n (vl w)from Y,show zi ⟨m,u⟩=sv m (vl u)from rfl];generalize vl w=a;generalize vl u=b;rw[JE,JE];obtain⟨i,hi⟩:∃i,sv n a=i:=⟨_,Y⟩;obtain⟨j,hj⟩:∃j,sv m b=j:=⟨_,Y⟩;have hia:(i<0->i=-(a:Int))/\(0<=i->i=a):=by rw[<-hi];cases n<;>simp[sv]<;>omega
 have hjb:(j<0->j=-(b:Int))/\(0<=j->j=b):=by rw[<-hj];cases m<;>simp[sv]<;>omega
 rw[hi,hj];rcases Int.lt_trichotomy i 0 with h1|h1|h1<;>rcases Int.lt_trichotomy j 0 with h2|h2|h2
 ·rw[Int.sign_eq_neg_one_of_neg h1,Int.sign_eq_neg_one_of_neg h2,hia.1 h1,hjb.1 h2,Qe];rfl
 ·rw[Int.sign_eq_neg_one_of_neg h1,show Int.sign j=0 by rw[h2];rfl,show qm i j=-1 from lH (by omega)];rfl
 ·rw[Int.sign_eq_neg_one_of_neg h1,Int.sign_eq_one_of_pos h2,show qm i j=-1 from lH (by omega)];rfl
 ·rw[show Int.sign i=0 by rw[h1];rfl,Int.sign_eq_neg_one_of_neg h2,show qm i j=1 from lI (by omega)];rfl
 ·rw[show Int.sign i=0 by rw[h1];rfl,show Int.sign j=0 by rw[h2];rfl,<-hia.2 (by omega),<-hjb.2 (by omega)];rfl
 ·rw[show Int.sign i=0 by rw[h1];rfl,Int.sign_eq_one_of_pos h2,show qm i j=-1 from lH (by omega)];rfl
 ·rw[Int.sign_eq_one_of_pos h1,Int.sign_eq_neg_one_of_neg h2,show qm i j=1 from lI (by omega)];rfl
 ·rw[Int.sign_eq_one_of_pos h1,show Int.sign j=0 by rw[h2];rfl,show qm i j=1 from lI (by omega)];rfl
 rw[Int.sign_eq_one_of_pos h1,Int.sign_eq_one_of_pos h2,<-hia.2 (by omega),<-hjb.2 (by omega)];rfl
theorem neg_eq{x:Zr}(hx:Wl x):jw x=some (zn (-zi x)):=by
 obtain⟨n,w⟩:=x;unfold jw;have hc:(can 4294967296 (vl w)).length<=10000000000:=hx.cl;simp only[cc];rw[show bP w=some (can 4294967296 (vl w))from hx.trim,cc,EC _ (by omega),cc,pG _ _ (kP (by omega)),cc,ia,xg,JD];rfl
end
section
open Go.Fw
theorem ED(n m:Bool)(a b:Nat)(ha:(can 4294967296 a).length<=10000000000)(hb:(can 4294967296 b).length<=10000000000):
  eY n (can 4294967296 a) m (can 4294967296 b)=some (zn (sv n a+sv m b)):=by
 have la:=c6 (B:=4294967296) (by decide) a;have lb:=c6 (B:=4294967296) (by decide) b;unfold eY;simp only[cc];by_cases hnm:n=m
 ·subst hnm;rw[show(n==n)=true by simp,gV,Gn _ _ (kP (by omega)) (kP (by omega)),cc,ia,ia,pG _ _ ⟨λx hx=>uU (by decide) _ _ _ hx,by rw[cf];omega⟩,cc];have hv:vl (gN 4294967296 (max (can 4294967296 a).length (can 4294967296 b).length+1) (a+b))=a+b:=by
   show val _ _=_;rw[rP,Nat.mod_eq_of_lt];have h1:a<4294967296^(max (can 4294967296 a).length (can 4294967296 b).length):=Nat.lt_of_lt_of_le la (Nat.pow_le_pow_right (by decide) (by omega));have h2:b<4294967296^(max (can 4294967296 a).length (can 4294967296 b).length):=Nat.lt_of_lt_of_le lb (Nat.pow_le_pow_right (by decide) (by omega));rw[Nat.pow_succ];omega
  rw[hv,xg,show sv n (a+b)=sv n a+sv n b by cases n<;>simp[sv];omega]
 rw[show(n==m)=false by simp[hnm],iy,pQ _ _ (by omega) (by omega),cc,Qd];have hm:m= !n:=by cases n<;>cases m<;>simp_all
 subst hm;have hv:∀c d,d<=c->(can 4294967296 c).length<=10000000000->eJ (can 4294967296 c) (can 4294967296 d)=some (gN 4294967296 (can 4294967296 c).length (c-d))/\vl (gN 4294967296 (can 4294967296 c).length (c-d))=c-d:=by
  intro c d hdc nO;have lc:=c6 (B:=4294967296) (by decide) c;have hdl:(can 4294967296 d).length<=(can 4294967296 c).length:=(cH (by decide)).2 (by omega);constructor
  ·rw[Gp _ _ (kP (by omega)) (kP (by omega)) hdl (by rw[ia,ia];exact hdc),ia,ia]
  show val _ _=_;rw[rP,Nat.mod_eq_of_lt (by omega)]
 by_cases hlt:a<b
 ·obtain⟨h1,h2⟩:=hv b a (by omega) hb;rw[show decide (a<b)=true by simp[hlt],gV,h1,cc,pG _ _ ⟨λx hx=>uU (by decide) _ _ _ hx,by rw[cf];omega⟩,cc,h2,xg,show sv (!n) (b-a)=sv n a+sv (!n) b by cases n<;>simp[sv]<;>omega]
 obtain⟨h1,h2⟩:=hv a b (by omega) ha;rw[show decide (a<b)=false by simp[hlt],iy,h1,cc,pG _ _ ⟨λx hx=>uU (by decide) _ _ _ hx,by rw[cf];omega⟩,cc,h2,xg,show sv n (a-b)=sv n a+sv (!n) b by cases n<;>simp[sv]<;>omega]
theorem TD(v:BitVec 64):IntKind.i64.wrap (v.toNat:Int)=v.toInt:=by
 rw[BitVec.toInt_eq_toNat_cond];have:=v.isLt;rw[show(2:Nat)^64=18446744073709551616 by decide]at this⊢;split
 ·rw[j1 (by omega)]
 rw[IntKind.wrap];simp[IntKind.signed,IntKind.bits];omega
theorem TE(v:BitVec 64):BitVec.ofInt 64 (IntKind.i64.wrap (v.toNat:Int))=v:=by rw[TD,BitVec.ofInt_toInt]
theorem FJ{x:Int}(h:gB x):(BitVec.ofInt 64 x).msb=decide (x<0):=by
 rw[BitVec.msb_eq_toInt,BitVec.toInt_ofInt];unfold gB at h;have:x.bmod (2^64)=x:=by
  rw[Int.bmod_def];simp only[show((2^64:Nat):Int)=18446744073709551616 by decide];split<;>omega
 rw[this]
theorem LN(v:BitVec 64):decide ((0:Int)<=IntKind.i64.wrap (v.toNat:Int))= !v.msb:=by
 rw[TD,BitVec.msb_eq_toInt];by_cases h:v.toInt<0
 ·simp[h]
 simp[h];omega
theorem zb(x:Int):gB (IntKind.i64.wrap x):=by
 unfold gB;rw[IntKind.wrap];simp[IntKind.signed,IntKind.bits];split<;>omega
theorem EE{α:Type}(b:Bool)(x:α):(bif b then x else x)=x:=by cases b<;>rfl
theorem ni{i:Int}(h:gB i):BB i=(i,true):=if_pos h
theorem xk{i:Int}(h:¬gB i):BB i=(0,false):=if_neg h
theorem add_eq{x y:Zr}(hx:Wl x)(hy:Wl y):tN x y=some (zn (zi x+zi y)):=by
 obtain⟨n,w⟩:=x;obtain⟨m,u⟩:=y;unfold tN;simp only[xj hx,xj hy,cc,cE];have hK:((bP w).bind λyE=>(bP u).bind λvg=>(eY n yE m vg).bind λx=>some x)=some (zn (zi ⟨n,w⟩+zi ⟨m,u⟩)):=by
  rw[show bP w=some (can 4294967296 (vl w))from hx.trim,show bP u=some (can 4294967296 (vl u))from hy.trim,cc,cc,ED _ _ _ _ hx.cl hy.cl,cc];rfl
 have hK':((bP w).bind λyE=>(bP u).bind λvg=>(eY n yE m vg).bind λx=>some ⟨x.neg,x.w⟩)=some (zn (zi ⟨n,w⟩+zi ⟨m,u⟩)):=hK;rw[hK'];generalize zi ⟨n,w⟩=i;generalize zi ⟨m,u⟩=j;by_cases h1:gB i
 ·by_cases h2:gB j
  ·rw[ni h1,ni h2,gV,cc,gV,TE,TE,LN,BitVec.msb_and,BitVec.msb_xor,BitVec.msb_xor,FJ h1,FJ h2,FJ (zb _),sW (zb _).1 (zb _).2,cc];by_cases hr:gB (i+j)
   ·rw[cG hr.1 hr.2];exact EE _ _
   have:(!((decide (i<0)^^decide (IntKind.i64.wrap (i+j)<0))&&(decide (j<0)^^decide (IntKind.i64.wrap (i+j)<0))))=false:=by
    unfold gB at*;by_cases hs:i<0
    ·have e:IntKind.i64.wrap (i+j)=i+j+18446744073709551616:=by rw[IntKind.wrap];simp[IntKind.signed,IntKind.bits];omega
     rw[e,show decide (i<0)=true by simp[hs],show decide (j<0)=true by simp;omega,show decide (i+j+18446744073709551616<0)=false by simp;omega];rfl
    have e:IntKind.i64.wrap (i+j)=i+j-18446744073709551616:=by rw[IntKind.wrap];simp[IntKind.signed,IntKind.bits];omega
    rw[e,show decide (i<0)=false by simp[hs],show decide (j<0)=false by simp;omega,show decide (i+j-18446744073709551616<0)=true by simp;omega];rfl
   rw[this,iy]
  rw[ni h1,xk h2,gV,cc,iy]
 rw[xk h1,iy,cc,iy]
theorem sub_eq{x y:Zr}(hx:Wl x)(hy:Wl y):tQ x y=some (zn (zi x-zi y)):=by
 obtain⟨n,w⟩:=x;obtain⟨m,u⟩:=y;unfold tQ;simp only[xj hx,xj hy,cc,cE];have hK':((bP w).bind λyE=>(bP u).bind λvg=>(eY n yE (!m) vg).bind λx=>some ⟨x.neg,x.w⟩)=some (zn (zi ⟨n,w⟩-zi ⟨m,u⟩)):=by
  rw[show bP w=some (can 4294967296 (vl w))from hx.trim,show bP u=some (can 4294967296 (vl u))from hy.trim,cc,cc,ED _ _ _ _ hx.cl hy.cl,cc,JD,<-Int.sub_eq_add_neg];rfl
 rw[hK'];generalize zi ⟨n,w⟩=i;generalize zi ⟨m,u⟩=j;by_cases h1:gB i
 ·by_cases h2:gB j
  ·rw[ni h1,ni h2,gV,cc,gV,TE,TE,LN,BitVec.msb_and,BitVec.msb_xor,BitVec.msb_xor,FJ h1,FJ h2,FJ (zb _),sW (zb _).1 (zb _).2,cc];by_cases hr:gB (i-j)
   ·rw[cG hr.1 hr.2];exact EE _ _
   have:(!((decide (i<0)^^decide (j<0))&&(decide (i<0)^^decide (IntKind.i64.wrap (i-j)<0))))=false:=by
    unfold gB at*;by_cases hs:i<0
    ·have e:IntKind.i64.wrap (i-j)=i-j+18446744073709551616:=by rw[IntKind.wrap];simp[IntKind.signed,IntKind.bits];omega
     rw[e,show decide (i<0)=true by simp[hs],show decide (j<0)=false by simp;omega,show decide (i-j+18446744073709551616<0)=false by simp;omega];rfl
    have e:IntKind.i64.wrap (i-j)=i-j-18446744073709551616:=by rw[IntKind.wrap];simp[IntKind.signed,IntKind.bits];omega
    rw[e,show decide (i<0)=false by simp[hs],show decide (j<0)=true by simp;omega,show decide (i-j-18446744073709551616<0)=true by simp;omega];rfl
   rw[this,iy]
  rw[ni h1,xk h2,gV,cc,iy]
 rw[xk h1,iy,cc,iy]
theorem So(n m:Bool)(a b:Nat):sv (!(n==m)) (a*b)=sv n a*sv m b:=by
 cases n<;>cases m<;>simp[sv,Int.neg_mul,Int.mul_neg]
theorem mul_eq{x y:Zr}(hx:Wl x)(hy:Wl y):dV x y=some (zn (zi x*zi y)):=by
 obtain⟨n,w⟩:=x;obtain⟨m,u⟩:=y;unfold dV;have hcx:(can 4294967296 (vl w)).length<=10000000000:=hx.cl;have hcy:(can 4294967296 (vl u)).length<=10000000000:=hy.cl;simp only[];rw[show bP w=some (can 4294967296 (vl w))from hx.trim,show bP u=some (can 4294967296 (vl u))from hy.trim,cc,cc,show zi ⟨n,w⟩=sv n (vl w)from Y,show zi ⟨m,u⟩=sv m (vl u)from rfl];simp only[cc,cE];generalize vl w=a at*;generalize vl u=b at*;have la:=c6 (B:=4294967296) (by decide) a;have lb:=c6 (B:=4294967296) (by decide) b;have hK:((jI (can 4294967296 a) (can 4294967296 b)).bind λvW=>(dr (!(n==m)) vW).bind λx=>some ⟨x.neg,x.w⟩)=some (zn (sv n a*sv m b)):=by
  rw[P6 _ _ (kP (by omega)) (kP (by omega)),cc,ia,ia,pG _ _ ⟨λx hx=>uU (by decide) _ _ _ hx,by rw[cf];omega⟩,cc,xg];have hv:vl (gN 4294967296 ((can 4294967296 a).length+(can 4294967296 b).length) (a*b))=a*b:=by
   show val _ _=_;rw[rP,Nat.mod_eq_of_lt];rw[Nat.pow_add];exact Nat.mul_lt_mul'' la lb
  rw[hv,So]
 rw[hK];by_cases h1:a<4294967296
 ·by_cases h2:b<4294967296
  ·have l1:=low_eq (can 4294967296 a) (λ_ hx=>jd (by decide) hx) (by have:=rQ.2 h1;omega);have l2:=low_eq (can 4294967296 b) (λ_ hx=>jd (by decide) hx) (by have:=rQ.2 h2;omega);rw[ia]at l1 l2;have hlt:a*b<18446744073709551616:=Nat.mul_lt_mul'' h1 h2;rw[show decide (((can 4294967296 a).length:Int)<=1)=true by rw[decide_eq_true_eq];exact rQ.2 h1,gV,cc,show decide (((can 4294967296 b).length:Int)<=1)=true by rw[decide_eq_true_eq];exact rQ.2 h2,gV,l1,l2,cc,cc,Nat.mod_eq_of_lt hlt,za _ _ hlt,cc,xg,So]
  rw[show decide (((can 4294967296 a).length:Int)<=1)=true by rw[decide_eq_true_eq];exact rQ.2 h1,gV,cc,show decide (((can 4294967296 b).length:Int)<=1)=false by rw[decide_eq_false_iff_not];exact λh=>h2 (rQ.1 h),iy]
 rw[show decide (((can 4294967296 a).length:Int)<=1)=false by rw[decide_eq_false_iff_not];exact λh=>h1 (rQ.1 h),iy,cc,iy]
end
section
open Go.Fw
theorem YK(n m:Bool){a b:Nat}(hb:0<b):
  sv n a/sv m b=(if n=true/\0<a%b then sv (!(n==m)) (a/b+1)else sv (!(n==m)) (a/b))/\
  sv n a%sv m b=(if n=true/\0<a%b then((b-a%b:Nat):Int)else((a%b:Nat):Int)):=by
 have hd:=Nat.div_add_mod a b;have hm:=Nat.mod_lt a hb
 revert hd hm
 generalize a/b=q;generalize a%b=r;intro hd hm;have hd':(b:Int)*q+r=a:=by exact_mod_cast hd
 have pos:∀n,sv n a/(b:Int)=(if n=true/\0<r then sv n (q+1)else sv n q)/\sv n a%(b:Int)=(if n=true/\0<r then((b-r:Nat):Int)else(r:Int)):=by
  intro n;apply(Int.ediv_emod_unique (by omega)).2;cases n
  ·simp[sv];omega
  by_cases hr:0<r
  ·simp only[hr,and_self,if_true,sv,cond_true];have:(b:Int)* -((q+1:Nat):Int)=-((b:Int)*q)-b:=by
    rw[Int.mul_neg,Int.natCast_add,Int.mul_add];simp;omega
   rw[this];omega
  have:r=0:=by omega
  subst this;simp[sv,Int.mul_neg];omega
 cases m
 ·have:=pos n;rw[oA,show(!(n==false))=n by cases n<;>rfl];exact this
 have:=pos n;rw[show sv true b=-(b:Int)from rfl,Int.ediv_neg,Int.emod_neg,this.1,this.2,show(!(n==true))= !n by cases n<;>rfl,JD,JD];refine⟨?_,Y⟩;split<;>rfl
theorem ag0{a b:Nat}(hba:b<=a)(nO:(can 4294967296 a).length<=10000000000):eJ (can 4294967296 a) (can 4294967296 b)=some (gN 4294967296 (can 4294967296 a).length (a-b))/\vl (gN 4294967296 (can 4294967296 a).length (a-b))=a-b:=by
 have lc:=c6 (B:=4294967296) (by decide) a;have hdl:(can 4294967296 b).length<=(can 4294967296 a).length:=(cH (by decide)).2 (by omega);constructor
 ·rw[Gp _ _ (kP (by omega)) (kP (by omega)) hdl (by rw[ia,ia];exact hba),ia,ia]
 show val _ _=_;rw[rP,Nat.mod_eq_of_lt (by omega)]
def Qf(i j:Int):Zr×Zr×Int:=if j=0 then(⟨false,[]⟩,⟨false,[]⟩,7)else(zn (i/j),zn (i%j),0)
theorem divMod_eq{x y:Zr}(hx:Wl x)(hy:Wl y):iE x y=some (Qf (zi x) (zi y)):=by
 obtain⟨n,w⟩:=x;obtain⟨m,u⟩:=y;unfold iE;have hcx:(can 4294967296 (vl w)).length<=10000000000:=hx.cl;have hcy:(can 4294967296 (vl u)).length<=10000000000:=hy.cl;simp only[];rw[show bP w=some (can 4294967296 (vl w))from hx.trim,show bP u=some (can 4294967296 (vl u))from hy.trim,cc,cc,show zi ⟨n,w⟩=sv n (vl w)from Y,show zi ⟨m,u⟩=sv m (vl u)from rfl];simp only[cc,cE];generalize vl w=a at*;generalize vl u=b at*;by_cases h0:b=0
 ·subst h0;rw[show sv m 0=0 by cases m<;>rfl];rfl
 have Cu:(can 4294967296 b).length≠0:=λh=>h0 (xh.1 h);rw[show decide (((can 4294967296 b).length:Int)=0)=false by simp;intro e;rw[e]at Cu;exact Cu Y,iy];obtain⟨q,r,TF,hq1,hq2,hr1,hr2,hq3,hr3⟩:=Gq a b hcx hcy h0;have hm:a%b<b:=Nat.mod_lt _ (by omega);obtain⟨e1,e2⟩:=YK n m (a:=a) (show 0<b by omega);have hj:sv m b≠0:=by cases m<;>simp[sv]<;>omega
 rw[TF,cc];simp only[];rw[HA r (by have:=hr1.2;omega),oz (by decide) hr1.1,show val 4294967296 r=a%b from hr2,cc,Qf,if_neg hj,e1,e2];have QD:(can 4294967296 (a%b)).length<=(can 4294967296 b).length:=(cH (by decide)).2 (Nat.lt_trans hm (c6 (by decide) b));have hK:∀c:Bool,(decide (n=true/\0<a%b)=c)->(bif c then(gW q [1]).bind λvW=>(eJ (can 4294967296 b) (can 4294967296 (a%b))).bind λnF=>(dr (!(n==m)) vW).bind λx=>(dr false nF).bind λx_1=>some ((⟨x.neg,x.w⟩:Zr),(⟨x_1.neg,x_1.w⟩:Zr),(0:Int))
   else(dr (!(n==m)) q).bind λx=>(dr false (can 4294967296 (a%b))).bind λx_1=>some ((⟨x.neg,x.w⟩:Zr),(⟨x_1.neg,x_1.w⟩:Zr),(0:Int)))=
   some (zn (if n=true/\0<a%b then sv (!(n==m)) (a/b+1)else sv (!(n==m)) (a/b)),zn (if n=true/\0<a%b then((b-a%b:Nat):Int)else((a%b:Nat):Int)),0):=by
  intro c hc;cases c
  ·have YL:=of_decide_eq_false hc;rw[iy,if_neg YL,if_neg YL,pG _ _ hq1,cc,pG _ _ (kP (by omega)),cc,ia,hq2,xg,xg,oA]
  have YL:=of_decide_eq_true hc;obtain⟨s1,s2⟩:=ag0 (a:=b) (b:=a%b) (by omega) hcy;have w1:NF [1]:=⟨by simp,by simp⟩;rw[gV,if_pos YL,if_pos YL,Gn _ _ hq1 w1,cc,s1,cc,pG _ _ ⟨λx hx=>uU (by decide) _ _ _ hx,by rw[cf];simp;omega⟩,cc,pG _ _ ⟨λx hx=>uU (by decide) _ _ _ hx,by rw[cf];omega⟩,cc,s2,xg,xg,oA];have:vl (gN 4294967296 (max q.length [1].length+1) (vl q+vl [1]))=a/b+1:=by
   show val _ _=_;rw[rP,show vl [1]=1 by decide,hq2,Nat.mod_eq_of_lt];have h1:vl q<4294967296^q.length:=ju q hq1.1;rw[hq2]at h1;have h2:4294967296^q.length<=4294967296^(max q.length [1].length):=Nat.pow_le_pow_right (by decide) (by omega);have h3:0<4294967296^(max q.length [1].length):=Nat.pow_pos (by decide);rw[Nat.pow_succ];omega
  rw[this]
 have hz:(0<(can 4294967296 (a%b)).length)↔0<a%b:=by
  have:=xh (v:=a%b);omega
 cases n
 ·rw[iy,cc];exact hK false (by simp)
 rw[gV,cc];refine hK _ ?_;simp only[true_and];by_cases h:0<a%b
 ·simp[h,hz.2 h]
 have h':¬0<(can 4294967296 (a%b)).length:=λe=>h (hz.1 e);have h'':¬((0:Int)<((can 4294967296 (a%b)).length:Int)):=by omega
 simp only[h,h'',decide_false]
theorem ag2{x y:Zr}(hx:Wl x)(hy:Wl y):qx x y=some (zn (Int.gcd (zi x) (zi y):Int)):=by
 obtain⟨n,w⟩:=x;obtain⟨m,u⟩:=y;unfold qx;have hcx:(can 4294967296 (vl w)).length<=10000000000:=hx.cl;have hcy:(can 4294967296 (vl u)).length<=10000000000:=hy.cl;simp only[];rw[show bP w=some (can 4294967296 (vl w))from hx.trim,show bP u=some (can 4294967296 (vl u))from hy.trim,cc,cc,Int.gcd,BA,BA];show _=some (zn ((Nat.gcd (vl w) (vl u):Nat):Int));generalize vl w=a at*;generalize vl u=b at*;refine fM (λs=>∃c d,s=(can 4294967296 c,can 4294967296 d)/\Nat.gcd c d=Nat.gcd a b/\(can 4294967296 c).length<=10000000000/\(can 4294967296 d).length<=10000000000)
  (λs=>∃c d,s=(can 4294967296 c,can 4294967296 d)/\Nat.gcd c d=Nat.gcd a b/\(can 4294967296 c).length<=10000000000/\(d=0\/(c<18446744073709551616/\d<18446744073709551616))) (λs=>vl s.2) ?_ ⟨a,b,Y,Y,hcx,hcy⟩ ?_
 ·rintro _ ⟨c,d,rfl,hg,hc,hd⟩;simp only[cc,cE];by_cases h0:d=0
  ·right;subst h0;exact⟨_,Y,c,0,Y,hg,hc,.inl Y⟩
  have Cu:(can 4294967296 d).length≠0:=λh=>h0 (xh.1 h);rw[show decide ((0:Int)<((can 4294967296 d).length:Int))=true by simp;omega,gV];by_cases h2:c<18446744073709551616/\d<18446744073709551616
  ·right;have c1:=jX.2 h2.1;have c2:=jX.2 h2.2;rw[show decide ((2:Int)<((can 4294967296 c).length:Int))=false by simp;omega,iy,show decide ((2:Int)<((can 4294967296 d).length:Int))=false by simp;omega];exact⟨_,Y,c,d,Y,hg,hc,.inr h2⟩
  left;have hm:c%d<d:=Nat.mod_lt _ (by omega);obtain⟨q,r,TF,hq1,hq2,hr1,hr2,-,-⟩:=Gq c d hc hd h0;have DA:((bif decide ((2:Int)<((can 4294967296 c).length:Int))then some true else some (decide ((2:Int)<((can 4294967296 d).length:Int)))):Option Bool)=some true:=by
   by_cases N9:c<18446744073709551616
   ·have hd2:¬d<18446744073709551616:=λh=>h2 ⟨N9,h⟩;have:¬(((can 4294967296 d).length:Int)<=2):=λh=>hd2 (jX.1 h);rw[show decide ((2:Int)<((can 4294967296 d).length:Int))=true by simp;omega];exact EE _ _
   have:¬(((can 4294967296 c).length:Int)<=2):=λh=>N9 (jX.1 h);rw[show decide ((2:Int)<((can 4294967296 c).length:Int))=true by simp;omega,gV]
  rw[DA,cc,cc,gV,TF,cc];simp only[];rw[HA r (by have:=hr1.2;omega),oz (by decide) hr1.1,show val 4294967296 r=c%d from hr2,cc];refine⟨_,Y,⟨d,c%d,Y,?_,hd,?_⟩,?_⟩
  ·rw[<-hg,Nat.gcd_comm d,<-Nat.gcd_rec,Nat.gcd_comm]
  ·exact Nat.le_trans ((cH (by decide)).2 (Nat.lt_trans hm (c6 (by decide) d))) hd
  simp only[ia];exact hm
 rintro _ ⟨c,d,rfl,hg,hc,YH⟩;simp only[cc];by_cases h0:d=0
 ·subst h0;rw[show decide (((can 4294967296 0).length:Int)=0)=true by simp[xe],gV,EC _ (by omega),cc,pG _ _ (kP (by omega)),cc,ia,xg,oA,<-hg,Nat.gcd_zero_right]
 have h2:=YH.resolve_left h0;have Cu:(can 4294967296 d).length≠0:=λh=>h0 (xh.1 h);have c1:=jX.2 h2.1;have c2:=jX.2 h2.2;rw[show decide (((can 4294967296 d).length:Int)=0)=false by simp;intro e;rw[e]at Cu;exact Cu Y,iy,low_eq _ (λ_ hx=>jd (by decide) hx) (by omega),cc,low_eq _ (λ_ hx=>jd (by decide) hx) (by omega),cc,ia,ia];refine fM (λs=>Nat.gcd s.1 s.2=Nat.gcd a b/\s.1<18446744073709551616/\s.2<18446744073709551616) (λe=>e=Nat.gcd a b/\e<18446744073709551616) (λs=>s.2) ?_ ⟨hg,h2.1,h2.2⟩ ?_
 ·rintro⟨s,t⟩ ⟨i1,i2,i3⟩;simp only at i1 i2 i3⊢;by_cases ht:0<t
  ·left;rw[show decide (0<t)=true by simp[ht],gV,Hw (by omega),cc];refine⟨_,Y,⟨?_,i3,?_⟩,Nat.mod_lt _ ht⟩
   ·rw[<-i1,Nat.gcd_comm t,<-Nat.gcd_rec,Nat.gcd_comm]
   exact Nat.lt_trans (Nat.mod_lt _ ht) i3
  right;rw[show decide (0<t)=false by simp[ht],iy];refine⟨_,Y,?_,i2⟩;rw[<-i1,show t=0 by omega,Nat.gcd_zero_right]
 rintro e ⟨rfl,he⟩;rw[za _ _ he,cc,xg,oA]
end
section
open Go.Fw
def zl(l:List Nat):List Int:=l.map (λ(n:Nat)=>(n:Int))
theorem gb(l:List Nat):(zl l).length=l.length:=by simp[zl]
theorem Dr{l:List Nat}{i x:Nat}(h:l[i]? =some x):(zl l)[i]? =some (x:Int):=by simp[zl,h]
theorem NJ(l k:List Nat):zl (l++k)=zl l++zl k:=by simp[zl]
theorem Sq(x:Nat):zl [x]=[(x:Int)]:=rfl
theorem abk(l:List Nat)(n:Nat):(zl l).take n=zl (l.take n):=by simp[zl,List.map_take]
theorem YM(l:List Nat)(i x:Nat):(zl l).set i (x:Int)=zl (l.set i x):=by simp[zl,List.map_set]
def NK(l:List Nat):Prop:=(∀x∈l,x<65536)/\l.length<=100000000000
abbrev jT(l:List Nat):Nat:=val 65536 l
theorem oB(l:List Nat)(hl:l.length<=1000000000000):ee (zl l)=some (zl (ow l)):=by
 unfold ee;simp only[cc];refine fM (λy=>∃n:Nat,y=(n:Int)/\n<=l.length/\ow (l.take n)=ow l) (λy=>∃n:Nat,y=(n:Int)/\n<=l.length/\l.take n=ow l) (λy=>y.toNat) ?_ ⟨l.length,by rw[gb],Nat.le_refl _,by rw[List.take_length]⟩ ?_
 ·rintro _ ⟨n,rfl,hn,ht⟩;simp only[cE];rcases n with _|n
  ·right;refine⟨_,Y,0,Y,by omega,?_⟩;rw[<-ht];rfl
  have hi:∃x,l[n]? =some x:=⟨l[n],by simp⟩;obtain⟨x,hx⟩:=hi;have htk:l.take (n+1)=l.take n++[x]:=by
   rw[List.take_add_one,hx];rfl
  rw[show decide ((0:Int)<((n+1:Nat):Int))=true by rw[decide_eq_true_eq];omega,gV,Ju (by omega),bz (Dr hx),cc];by_cases h0:x=0
  ·left;subst h0;rw[show decide (((0:Nat):Int)=0)=true by simp,cc,gV];refine⟨_,Y,⟨n,Y,by omega,?_⟩,by omega⟩;rw[<-ht,htk,xd]
  right;rw[show decide (((x:Nat):Int)=0)=false by simp;omega,cc,iy];refine⟨_,Y,n+1,Y,hn,?_⟩;rw[<-ht,htk,z5 _ h0]
 rintro _ ⟨n,rfl,hn,ht⟩;rw[yZ (by rw[gb];exact hn),cc,abk,ht]
theorem Gr{l:List Nat}(h:∀x∈l,x<65536)(i:Nat):ga (zl l) (i:Int)=some ((jT l/65536^i%65536:Nat):Int):=by
 unfold ga;simp only[cc];rw[gb];by_cases hi:i<l.length
 ·rw[show decide ((i:Int)<(l.length:Int))=true by simp[hi],gV,bz (Dr (pP h hi)),cc]
 rw[show decide ((i:Int)<(l.length:Int))=false by simp;omega,iy];have:jT l/65536^i=0:=Nat.div_eq_of_lt (Nat.lt_of_lt_of_le (ju l h) (Nat.pow_le_pow_right (by decide) (by omega)));rw[this];rfl
theorem Sr(V k:Nat):gN 65536 (2*k) V++[V/4294967296^k%4294967296%65536,V/4294967296^k%4294967296/65536]=gN 65536 (2*(k+1)) V:=by
 have e:65536^(2*k)=4294967296^k:=by rw[Nat.pow_mul]
 rw[show 2*(k+1)=2*k+1+1 by omega,mw,mw,Nat.pow_succ,e,<-Nat.div_div_eq_div_mul,List.append_assoc];generalize V/4294967296^k=x;rw[show x%4294967296%65536=x%65536 by omega,show x%4294967296/65536=x/65536%65536 by omega];rfl
theorem U1(w:List Nat)(hw:NF w):cP w=some (zl (can 65536 (vl w))):=by
 obtain⟨hl,hn⟩:=hw;unfold cP;refine bH (λi=>((i:Int),zl (gN 65536 (2*i) (vl w)))) w.length (zl (gN 65536 (2*w.length) (vl w))) ?_ (λk hk=>?_) ?_ ?_
 ·rfl
 ·have hg:=pP hl hk;have hlt:=Nat.mod_lt (val 4294967296 w/4294967296^k) (show 0<4294967296 by decide);have hv:=Sr (vl w) k;simp only[cc];rw[show decide ((k:Int)<(w.length:Int))=true by simp[hk],gV,bz hg,cc,cc,j1 (by omega),j1 (by omega),Yu (by decide) (by rw[gb,cf];simp;omega),cc,bM (by omega)];rw[<-hv,NJ];rw[show val 4294967296 w/4294967296^k%4294967296/65536%4294967296=val 4294967296 w/4294967296^k%4294967296/65536 by omega];rfl
 ·simp
 rw[oB _ (by rw[cf];omega),cc,uC (by decide)];rw[Nat.pow_mul];exact ju w hl
theorem Qg(k:Nat):65536^(2*k)=4294967296^k:=by rw[Nat.pow_mul]
theorem Ss(v:Nat):can 4294967296 v=gN 4294967296 (((can 65536 v).length+1)/2) v:=by
 have h1:=c6 (B:=65536) (by decide) v;obtain⟨n,hn⟩:∃n,(can 65536 v).length=n:=⟨_,Y⟩;rw[hn]at h1⊢;have h2:v<4294967296^((n+1)/2):=by
  rw[<-Qg];exact Nat.lt_of_lt_of_le h1 (Nat.pow_le_pow_right (by decide) (by omega))
 rw[Tu (by decide) v];congr 1;have h3:=(cH (B:=4294967296) (by decide)).2 h2;refine Nat.le_antisymm h3 ?_;rcases n with _|n
 ·simp
 have h4:65536^n<=v:=yu (by decide) (by omega);obtain⟨m,hm⟩:∃m,(n+1+1)/2=m+1:=⟨n/2,by omega⟩;rw[hm];rcases Nat.lt_or_ge m (can 4294967296 v).length with h|h
 ·exact h
 have h5:=(cH (B:=4294967296) (by decide)).1 h;rw[<-Qg]at h5;have:65536^(2*m)<=65536^n:=Nat.pow_le_pow_right (by decide) (by omega);omega
theorem of_eq(n:Bool)(l:List Nat)(hl:NK l):ef n (zl l)=some (zc n (jT l)):=by
 obtain⟨h,hn⟩:=hl;unfold ef;rw[oB _ (by omega),cc,oz (by decide) h];have hc:(can 65536 (val 65536 l)).length<=l.length:=(cH (by decide)).2 (ju l h);show _=some (zc n (val 65536 l));generalize val 65536 l=v at*;have nO:∀x∈can 65536 v,x<65536:=λ_ hx=>jd (by decide) hx;have hat:=λi=>Gr nO i;refine bH (λi=>(((2*i:Nat):Int),gN 4294967296 i v)) (((can 65536 v).length+1)/2) (can 4294967296 v) ?_ (λk hk=>?_) ?_ ?_
 ·rfl
 ·have a1:=hat (2*k);have a2:=hat (2*k+1);rw[show jT (can 65536 v)=v from oU (by decide) v]at a1 a2;rw[Qg]at a1;rw[Nat.pow_succ,Qg,<-Nat.div_div_eq_div_mul]at a2;simp only[cc];rw[gb,show decide (((2*k:Nat):Int)<((can 65536 v).length:Int))=true by simp;omega,gV,a1,cc,bM (by omega),a2,cc];rw[mw];have e:((((v/4294967296^k%65536:Nat):Int)%4294967296).toNat+(((v/4294967296^k/65536%65536:Nat):Int)%4294967296).toNat*65536%4294967296)%4294967296=v/4294967296^k%4294967296:=by
   generalize v/4294967296^k=x;omega
  rw[e,nQ (by decide) (by rw[cf];omega),cc,show((2*k:Nat):Int)+2=((2*(k+1):Nat):Int) by omega,j1 (by omega)]
 ·simp only[cc];rw[gb,show decide (((2*(((can 65536 v).length+1)/2):Nat):Int)<((can 65536 v).length:Int))=false by simp;omega,iy,<-Ss]
 simp only[cE];rw[zc];have hz:=xh (v:=v);cases n
 ·rw[iy,cc];rfl
 rw[gV,cc,cc,cc];congr 2;by_cases h0:v=0
 ·rw[h0];rfl
 have:¬(can 4294967296 v).length=0:=λe=>h0 (hz.1 e);rw[show decide ((0:Int)<((can 4294967296 v).length:Int))=true by rw[decide_eq_true_eq];omega,show(true&&v != 0)=true by simp[h0]]
theorem uV(n:Bool)(v:Nat)(hl:(can 65536 v).length<=100000000000):ef n (zl (can 65536 v))=some (zn (sv n v)):=by
 rw[of_eq n _ ⟨λ_ hx=>jd (by decide) hx,hl⟩,show jT (can 65536 v)=v from oU (by decide) v,xg]
theorem U3{w:List Nat}(hw:∀x∈w,x<4294967296):(can 65536 (vl w)).length<=2*w.length:=by
 apply(cH (by decide)).2;rw[Qg];exact ju w hw
theorem iZ{x:Zr}(h:Wl x):cP x.w=some (zl (can 65536 (zi x).natAbs)):=by
 rw[BA];exact U1 _ ⟨h.1,by have:=h.2;omega⟩
theorem Wl.U4{x:Zr}(h:Wl x):(can 65536 (zi x).natAbs).length<=20000000000:=by
 rw[BA];have:=U3 h.1;have:=h.2;omega
theorem Qh{x:Zr}(h:Wl x):k7 x=some (zn (zi x)):=by
 obtain⟨n,w⟩:=x;have h1:=iZ h;have h2:=h.U4;unfold k7;simp only[];rw[show cP w=_ from h1,cc,uV _ _ (by omega),cc,BA];rfl
theorem TG{x y:Zr}(h:x.w.length<=100000000000):∃b,oL x y=some b/\(b=true↔x=y):=by
 obtain⟨n,w⟩:=x;obtain⟨m,u⟩:=y;unfold oL;simp only[cc,cE];by_cases hnm:n=m
 ·subst hnm;rw[show(!(n==n))=false by simp,iy,cc];by_cases hl:w.length=u.length
  ·rw[show decide ((w.length:Int)≠(u.length:Int))=false by simp[hl],iy];refine mX (λy=>∃i:Nat,y=(i:Int)/\i<=w.length/\w.take i=u.take i) (λe=>(∃c,e=.inl c/\w=u)\/(e=.inr false/\w≠u)) (λy=>w.length-y.toNat) ?_ ⟨0,Y,by omega,Y⟩ ?_
   ·rintro _ ⟨i,rfl,hi,ht⟩;by_cases hlt:i<w.length
    ·have g1:w[i]? =some w[i]:=by simp
     have g2:u[i]? =some (u[i]'(by omega)):=by simp
     rw[show decide ((i:Int)<(w.length:Int))=true by simp[hlt],gV,bz g1,cc,bz g2,cc];by_cases he:w[i]=u[i]'(by omega)
     ·left;rw[show decide (w[i]≠u[i]'(by omega))=false by simp[he],iy,bM (by simp at h;omega)];refine⟨_,Y,⟨i+1,Y,hlt,?_⟩,by omega⟩;rw[List.take_add_one,List.take_add_one,ht,g1,g2,he]
     right;rw[show decide (w[i]≠u[i]'(by omega))=true by simp[he],gV];refine⟨_,Y,.inr ⟨Y,?_⟩⟩;rintro rfl;exact he rfl
    right;rw[show decide ((i:Int)<(w.length:Int))=false by simp;omega,iy];refine⟨_,Y,.inl ⟨_,Y,?_⟩⟩;rw[List.take_of_length_le (by omega),List.take_of_length_le (by omega)]at ht;exact ht
   rintro e (⟨c,rfl,he⟩|⟨rfl,he⟩)
   ·exact⟨true,Y,by simp[he]⟩
   exact⟨false,Y,by simp[he]⟩
  rw[show decide ((w.length:Int)≠(u.length:Int))=true by simp;omega,gV];refine⟨_,Y,?_⟩;simp only[Bool.false_eq_true,false_iff];intro e;have:w=u:=congrArg Zr.w e;exact hl (by rw[this])
 rw[show(!(n==m))=true by simp[hnm],gV,cc,gV];refine⟨_,Y,?_⟩;simp only[Bool.false_eq_true,false_iff];intro e;exact hnm (congrArg Zr.neg e)
theorem from_eq{x:Int}(h:gB x):oM x=some (zn x):=by
 unfold gB at h;have key:∀(v:Nat) (n:Bool),v<18446744073709551616->((k7 ⟨n,[v%4294967296%4294967296,v/4294967296%18446744073709551616%4294967296]⟩).bind λx=>some (⟨x.neg,x.w⟩:Zr))=some (zn (sv n v)):=by
  intro v n hv;rw[Qh ⟨by simp;omega,by simp⟩,cc];show some (zn (sv n (vl _)))=_;congr 3;simp only[vl,val];omega
 unfold oM;simp only[cc,cE];by_cases hx:x<0
 ·have e:(x%18446744073709551616).toNat=18446744073709551616-x.natAbs:=by omega
  rw[show decide (x<0)=true by simp[hx],gV,e,Ew (by omega) (by omega),show 18446744073709551616+0-(18446744073709551616-x.natAbs)=x.natAbs by omega,key _ _ (by omega),show sv true x.natAbs=x by simp[sv];omega]
 have e:(x%18446744073709551616).toNat=x.natAbs:=by omega
 rw[show decide (x<0)=false by simp[hx],iy,e,key _ _ (by omega),show sv false x.natAbs=x by simp[sv];omega]
end
section
open Go.Fw
theorem p9(k:Nat):10^(9*(k+1))=10^(9*k)*1000000000:=by
 rw[show 9*(k+1)=9*k+9 by omega,Nat.pow_add]
end
section
open Go.Fw
def body(s:Zx):Zx:=if s.head?=some 45 then s.tail else s
def dv(s:Zx):Nat:=s.foldl (λa c=>a*10+(c.toNat-48)) 0
def z0:Zr:=⟨false,[]⟩
end
section
open Go.Fw
theorem zeta'(z:Zr):(⟨z.neg,z.w⟩:Zr)=z:=by cases z;rfl
theorem LO{i:Int}(h:gB i):Fit 2 i:=Fit.i64 h.1 h.2
theorem YN{i:Int}(h:gB i):Wl (zn i):=gA (LO h) (by decide)
end
section
open Go.Fw
theorem abl(l:List Zr)(hl:l.length<=100):∃b,rE l=some b/\(b=false->∀z∈l,z.w.length<=12):=by
 unfold rE;simp only[cc];refine mX (λy=>∃i:Nat,y=(i:Int)/\i<=l.length/\∀z∈l.take i,z.w.length<=12) (λe=>(∃c,e=.inl c/\∀z∈l,z.w.length<=12)\/e=.inr true) (λy=>l.length-y.toNat) ?_ ⟨0,Y,by omega,by simp⟩ ?_
 ·rintro _ ⟨i,rfl,hi,ht⟩;by_cases hlt:i<l.length
  ·have g:l[i]? =some l[i]:=by simp
   rw[show decide ((i:Int)<(l.length:Int))=true by simp[hlt],gV,bz g,cc];by_cases fC:l[i].w.length<=12
   ·left;rw[show decide ((12:Int)<(l[i].w.length:Int))=false by rw[decide_eq_false_iff_not];omega,iy,bM (by omega)];refine⟨_,Y,⟨i+1,Y,hlt,?_⟩,by omega⟩;rw[List.take_add_one,g];intro z hz;rcases List.mem_append.1 hz with h|h
    ·exact ht z h
    simp at h;rw[h];exact fC
   right;rw[show decide ((12:Int)<(l[i].w.length:Int))=true by rw[decide_eq_true_eq];omega,gV];exact⟨_,Y,.inr Y⟩
  right;rw[show decide ((i:Int)<(l.length:Int))=false by simp;omega,iy];rw[List.take_of_length_le (by omega)]at ht;exact⟨_,Y,.inl ⟨_,Y,ht⟩⟩
 rintro e (⟨c,rfl,he⟩|rfl)
 ·exact⟨false,Y,λ_=>he⟩
 exact⟨true,rfl,λh=>by cases h⟩
theorem YO(i j:Int):(i-j).sign=qm i j:=by
 rcases Int.lt_trichotomy i j with h|h|h
 ·rw[lH h,Int.sign_eq_neg_one_of_neg (by omega)]
 ·rw[h,vX,Int.sub_self];rfl
 rw[lI h,Int.sign_eq_one_of_pos (by omega)]
theorem U5(i j:Int):IntKind.i64.wrap (0-qm j i)=qm i j:=by
 rcases Int.lt_trichotomy i j with h|h|h
 ·rw[lH h,lI h];rfl
 ·rw[h,vX];rfl
 rw[lI h,lH h];rfl
abbrev OkZ(z:Zr):Prop:=True/\(z.w.length<=9223372036854775807/\∀x∈z.w,x<4294967296)
end
section
open Go.Fw
def qd(q:Qr):Int:=if zi q.den=0 then 1 else zi q.den
def qv(q:Qr):Rat:=Rat.divInt (zi q.num) (qd q)
def qn(r:Rat):Qr:=⟨zn r.num,if r.den=1 then⟨false,[]⟩else zn (r.den:Int)⟩
def FQ(L:Nat)(r:Rat):Prop:=Fit L r.num/\Fit L (r.den:Int)
structure kQ (L:Nat) (q:Qr) (r:Rat):Prop where
 n:∀x∈q.num.w,x<4294967296
 d:∀x∈q.den.w,x<4294967296
 ln:q.num.w.length<=L
 ld:q.den.w.length<=L
 l1:1<=L
 v:qv q=r
theorem akz(q:Qr):qd q≠0:=by
 unfold qd;by_cases h:zi q.den=0
 ·rw[if_pos h];decide
 rw[if_neg h];exact h
theorem akA(r:Rat):qv (qn r)=r:=by
 unfold qv qd qn;by_cases h:r.den=1
 ·rw[if_pos h];show Rat.divInt (zi (zn r.num)) (if zi ⟨false,[]⟩=0 then 1 else zi ⟨false,[]⟩)=r;rw[if_pos (show zi ⟨false,[]⟩=0 from rfl),gz];have:=Rat.num_divInt_den r;rw[h]at this;exact this
 rw[if_neg h];show Rat.divInt (zi (zn r.num)) (if zi (zn (r.den:Int))=0 then 1 else zi (zn (r.den:Int)))=r;have:=r.den_nz;rw[gz,gz,if_neg (by omega),Rat.num_divInt_den]
theorem TH{w:List Nat}{n:Bool}{L:Nat}(h:∀x∈w,x<4294967296)(hl:w.length<=L):Fit L (zi ⟨n,w⟩):=by
 unfold Fit;rw[BA];exact Nat.lt_of_lt_of_le (ju w h) (Nat.pow_le_pow_right (by decide) hl)
theorem B5{L:Nat}(h:1<=L):Fit L 1:=by
 unfold Fit;exact Nat.lt_of_lt_of_le (show(1:Int).natAbs<4294967296^1 by decide) (Nat.pow_le_pow_right (by decide) h)
theorem FQ.rep{L:Nat}{r:Rat}(h:FQ L r)(h1:1<=L):kQ L (qn r) r:=by
 refine⟨λx hx=>jd (by decide) hx,?_,(cH (by decide)).2 h.1,?_,h1,akA r⟩
 ·unfold qn;by_cases e:r.den=1
  ·rw[if_pos e];simp
  rw[if_neg e];exact λx hx=>jd (by decide) hx
 unfold qn;by_cases e:r.den=1
 ·rw[if_pos e];simp
 rw[if_neg e];exact(cH (by decide)).2 h.2
theorem kQ.wn{L:Nat}{q:Qr}{r:Rat}(h:kQ L q r)(hL:L<=10000000000):Wl q.num:=⟨h.n,Nat.le_trans h.ln hL⟩
theorem kQ.wd{L:Nat}{q:Qr}{r:Rat}(h:kQ L q r)(hL:L<=10000000000):Wl q.den:=⟨h.d,Nat.le_trans h.ld hL⟩
theorem kQ.fn{L:Nat}{q:Qr}{r:Rat}(h:kQ L q r):Fit L (zi q.num):=TH (n:=q.num.neg) h.n h.ln
theorem kQ.fd{L:Nat}{q:Qr}{r:Rat}(h:kQ L q r):Fit L (zi q.den):=TH (n:=q.den.neg) h.d h.ld
theorem kQ.fqd{L:Nat}{q:Qr}{r:Rat}(h:kQ L q r):Fit L (qd q):=by
 unfold qd;by_cases e:zi q.den=0
 ·rw[if_pos e];exact B5 h.l1
 rw[if_neg e];exact h.fd
theorem kQ.mono{L M:Nat}{q:Qr}{r:Rat}(h:kQ L q r)(hl:L<=M):kQ M q r:=⟨h.n,h.d,Nat.le_trans h.ln hl,Nat.le_trans h.ld hl,Nat.le_trans h.l1 hl,h.v⟩
theorem FQ.mono{L M:Nat}{r:Rat}(h:FQ L r)(hl:L<=M):FQ M r:=⟨h.1.mono hl,h.2.mono hl⟩
theorem ze{L:Nat}{a d:Int}(h0:d≠0)(ha:Fit L a)(hd:Fit L d):FQ L (Rat.divInt a d):=by
 generalize hr:Rat.divInt a d=r;obtain⟨n',d',z',c⟩:=r;obtain⟨m,hm,h1,h2⟩:=Rat.divInt_num_den h0 hr;have hm':0<m.natAbs:=Int.natAbs_pos.2 hm;refine⟨ha.le ?_,hd.le ?_⟩
 ·rw[h1,Int.natAbs_mul];exact Nat.le_mul_of_pos_right _ hm'
 rw[h2,Int.natAbs_mul];exact Nat.le_mul_of_pos_right _ hm'
theorem kQ.fq{L:Nat}{q:Qr}{r:Rat}(h:kQ L q r):FQ L r:=by rw[<-h.v];exact ze (akz q) h.fn h.fqd
theorem B6(r:Rat):r=Rat.divInt r.num (r.den:Int):=(Rat.num_divInt_den r).symm
theorem yw(r:Rat):(r.den:Int)≠0:=by have:=r.den_nz;omega
theorem FQ.add{L M:Nat}{x y:Rat}(hx:FQ L x)(hy:FQ M y):FQ (L+M+1) (x+y):=by
 have e:x+y=Rat.divInt (x.num*y.den+y.num*x.den) (x.den*y.den):=by
  conv=>lhs;rw[B6 x,B6 y,Rat.divInt_add_divInt _ _ (yw x) (yw y)]
 rw[e];refine ze (Int.mul_ne_zero (yw x) (yw y)) ?_ ?_
 ·exact(hx.1.mul hy.2).add (by rw[Nat.add_comm L M];exact hy.1.mul hx.2)
 exact(hx.2.mul hy.2).mono (by omega)
theorem FQ.sub{L M:Nat}{x y:Rat}(hx:FQ L x)(hy:FQ M y):FQ (L+M+1) (x-y):=by
 have e:x-y=Rat.divInt (x.num*y.den-y.num*x.den) (x.den*y.den):=by
  conv=>lhs;rw[B6 x,B6 y,Rat.divInt_sub_divInt _ _ (yw x) (yw y)]
 rw[e];refine ze (Int.mul_ne_zero (yw x) (yw y)) ?_ ?_
 ·exact(hx.1.mul hy.2).sub (by rw[Nat.add_comm L M];exact hy.1.mul hx.2)
 exact(hx.2.mul hy.2).mono (by omega)
theorem FQ.mul{L M:Nat}{x y:Rat}(hx:FQ L x)(hy:FQ M y):FQ (L+M) (x*y):=by
 have e:x*y=Rat.divInt (x.num*y.num) (x.den*y.den):=by
  conv=>lhs;rw[B6 x,B6 y,Rat.divInt_mul_divInt]
 rw[e];exact ze (Int.mul_ne_zero (yw x) (yw y)) (hx.1.mul hy.1) (hx.2.mul hy.2)
theorem FQ.neg{L:Nat}{x:Rat}(hx:FQ L x):FQ L (-x):=⟨hx.1.neg,hx.2⟩
theorem FQ.inv{L:Nat}{x:Rat}(hx:FQ L x)(h:x≠0):FQ L x⁻¹:=by
 have hn:x.num≠0:=λe=>h (Rat.num_eq_zero.1 e);rw[Rat.inv_def];exact ze hn hx.2 hx.1
theorem FQ.div{L M:Nat}{x y:Rat}(hx:FQ L x)(hy:FQ M y)(h:y≠0):FQ (L+M) (x/y):=by rw[Rat.div_def];exact hx.mul (hy.inv h)
theorem FQ.int{L:Nat}{i:Int}(h:Fit L i)(h1:1<=L):FQ L (i:Rat):=⟨h,B5 h1⟩
def oV(x y:Rat):Int:=if x<y then-1 else if x=y then 0 else 1
theorem FK(x:Rat):oV x x=0:=by unfold oV;rw[if_neg Rat.lt_irrefl,if_pos rfl]
theorem U6{a b c d:Int}(hb:0<b)(hd:0<d):Rat.divInt a b<Rat.divInt c d↔a*d<c*b:=by
 have hb':(0:Rat)<(b:Rat):=Rat.intCast_pos.2 hb;have hd':(0:Rat)<(d:Rat):=Rat.intCast_pos.2 hd;rw[Rat.divInt_eq_div,Rat.divInt_eq_div,Rat.div_lt_iff hb',Rat.div_def,Rat.mul_assoc,Rat.mul_comm (d:Rat)⁻¹,<-Rat.mul_assoc,<-Rat.div_def,Rat.lt_div_iff hd',<-Rat.intCast_mul,<-Rat.intCast_mul,Rat.intCast_lt_intCast]
theorem Qi{a b c d:Int}(hb:0<b)(hd:0<d):oV (Rat.divInt a b) (Rat.divInt c d)=qm (a*d) (c*b):=by
 unfold oV qm;have e1:=U6 (a:=a) (c:=c) hb hd;have e2:=Rat.divInt_eq_divInt_iff (n₁:=a) (d₁:=b) (n₂:=c) (d₂:=d) (by omega) (by omega);by_cases h1:a*d<c*b
 ·rw[if_pos (e1.2 h1),if_pos h1]
 rw[if_neg (λh=>h1 (e1.1 h)),if_neg h1];by_cases h2:a*d=c*b
 ·rw[if_pos (e2.2 h2),if_pos h2]
 rw[if_neg (λh=>h2 (e2.1 h)),if_neg h2]
theorem xV{a b:Int}(hb:0<b):a.sign=oV (Rat.divInt a b) 0:=by
 have:(0:Rat)=Rat.divInt 0 1:=rfl;rw[this,Qi hb (by decide),Int.mul_one,Int.zero_mul,<-YO,Int.sub_zero]
theorem FL{a d:Int}(hd:0<d):qn (Rat.divInt a d)=⟨zn (a/(Int.gcd a d:Int)),if d/(Int.gcd a d:Int)=1 then⟨false,[]⟩else zn (d/(Int.gcd a d:Int))⟩:=by
 have h1:(Rat.divInt a d).num=a/(Int.gcd a d:Int):=by rw[Rat.num_divInt,Int.sign_eq_one_of_pos hd,Int.one_mul,Int.gcd_comm]
 have h2:((Rat.divInt a d).den:Int)=d/(Int.gcd a d:Int):=by
  rw[Rat.den_divInt,if_neg (by omega),Int.gcd_comm];have:(d.natAbs:Int)=d:=by omega
  rw[Int.natCast_ediv,this]
 unfold qn;rw[h1,h2];by_cases e:(Rat.divInt a d).den=1
 ·rw[if_pos e,if_pos (by omega)]
 rw[if_neg e,if_neg (by omega)]
theorem abm(k:Int):((bif(BB k).2 then some (decide ((BB k).1=1))else some false):Option Bool)=some (decide (k=1)):=by
 by_cases h:gB k
 ·rw[ni h];rfl
 rw[xk h];have:¬k=1:=by rintro rfl;exact h (by decide)
 rw[decide_eq_false this];rfl
theorem JF{n d:Zr}(hn:Wl n)(hd:Wl d)(h:0<zi d):((qx n d).bind λg=>(iE n g).bind λa=>(iE d g).bind λb=>(fj b.1).bind λc=>
  (bif c.2 then some (decide (c.1=1))else some false).bind λe=>bif e then some (⟨a.1,⟨false,[]⟩⟩:Qr)else some ⟨a.1,b.1⟩)=some (qn (Rat.divInt (zi n) (zi d))):=by
 have g0:(Int.gcd (zi n) (zi d):Int)≠0:=by
  have:0<Int.gcd (zi n) (zi d):=Int.gcd_pos_of_ne_zero_right _ (by omega);omega
 have wg:Wl (zn (Int.gcd (zi n) (zi d):Int)):=gA ((Wl.fit hd).le (by
  have:=Nat.le_of_dvd (Int.natAbs_pos.2 (show zi d≠0 by omega)) (Int.gcd_dvd_natAbs_right (zi n) (zi d));simpa using this)) hd.2
 have wq:Wl (zn (zi d/(Int.gcd (zi n) (zi d):Int))):=gA ((Wl.fit hd).le (Int.natAbs_ediv_le_natAbs _ _)) hd.2;rw[ag2 hn hd,cc,divMod_eq hn wg,cc,divMod_eq hd wg,cc,gz,Qf,if_neg g0,Qf,if_neg g0];simp only[];rw[xj wq,cc,gz,abm,cc,FL h];by_cases e:zi d/(Int.gcd (zi n) (zi d):Int)=1
 ·rw[decide_eq_true e,gV,if_pos e]
 rw[decide_eq_false e,iy,if_neg e]
theorem reduce_eq{x y:Zr}(hx:Wl x)(hy:Wl y)(h0:zi y≠0):iq x y=some (qn (Rat.divInt (zi x) (zi y))):=by
 unfold iq;simp only[cE,cc,zeta',sign_eq hy];by_cases h:zi y<0
 ·rw[show decide ((zi y).sign<0)=true by rw[Int.sign_eq_neg_one_of_neg h];rfl,gV,neg_eq hx,cc,neg_eq hy,cc];have hp:=JF (gA (Wl.fit hx).neg hx.2) (gA (Wl.fit hy).neg hy.2) (by rw[gz];omega);rw[gz,gz,Rat.neg_divInt_neg]at hp;exact hp
 rw[show decide ((zi y).sign<0)=false by rw[Int.sign_eq_one_of_pos (by omega)];rfl,iy];exact JF hx hy (by omega)
end
section
open Go.Fw
theorem rR(q:Qr):(⟨⟨q.num.neg,q.num.w⟩,⟨q.den.neg,q.den.w⟩⟩:Qr)=q:=by cases q;rfl
theorem pH(q:Qr):(⟨q.num,q.den⟩:Qr)=q:=by cases q;rfl
theorem parts_eq{L:Nat}{q:Qr}{r:Rat}(h:kQ L q r)(hL:L<=10000000000):∃n d:Zr,dZ q=some (n,d)/\Wl n/\Wl d/\0<zi d/\Rat.divInt (zi n) (zi d)=r/\Fit L (zi n)/\Fit L (zi d):=by
 have wn:=h.wn hL;have wd:=h.wd hL;have hv:=h.v;unfold dZ;simp only[zeta',cc,sign_eq wd,sW (x:=1) (by decide) (by decide),neg_eq wn,neg_eq wd];unfold qv qd at hv;rcases Int.lt_trichotomy (zi q.den) 0 with h1|h1|h1
 ·refine⟨_,_,?_,gA h.fn.neg hL,gA h.fd.neg hL,by rw[gz];omega,?_,by rw[gz];exact h.fn.neg,by rw[gz];exact h.fd.neg⟩
  ·rw[Int.sign_eq_neg_one_of_neg h1];rfl
  rw[gz,gz,Rat.neg_divInt_neg,<-hv,if_neg (by omega)]
 ·refine⟨_,_,?_,wn,gA (B5 h.l1) hL,by rw[gz];decide,?_,h.fn,by rw[gz];exact B5 h.l1⟩
  ·rw[h1];rfl
  rw[gz,<-hv,if_pos h1]
 refine⟨_,_,?_,wn,wd,h1,?_,h.fn,h.fd⟩
 ·rw[Int.sign_eq_one_of_pos h1];rfl
 rw[<-hv,if_neg (by omega)]
def Sm(a:Int):Prop:=-2147483648<a/\a<2147483648
theorem Sm.ok{a:Int}(h:Sm a):gB a:=by unfold Sm at h;unfold gB;omega
theorem rS{L:Nat}{q:Qr}{r:Rat}(h:kQ L q r)(hL:L<=10000000000):∃a b c,fk q=some (a,b,c)/\(c=true->Sm a/\0<b/\Sm b/\Rat.divInt a b=r):=by
 have wn:=h.wn hL;have wd:=h.wd hL;have hv:=h.v;unfold fk;simp only[zeta',cc,cE,xj wn,xj wd];unfold qv qd at hv;generalize zi q.num=n at*;generalize zi q.den=d at*;by_cases hs:Sm n/\Sm d
 ·obtain⟨h1,h2⟩:=hs;rw[ni h1.ok,ni h2.ok];unfold Sm at h1 h2;simp only[];rw[decide_eq_false (show ¬n<=-2147483648 by omega),decide_eq_false (show ¬2147483648<=n by omega),decide_eq_false (show ¬d<=-2147483648 by omega),decide_eq_false (show ¬2147483648<=d by omega)];simp only[Bool.not_true,iy,cc];by_cases h0:d=0
  ·rw[decide_eq_true h0,gV];refine⟨_,_,_,Y,λ_=>⟨h1,by decide,⟨by decide,by decide⟩,?_⟩⟩;rw[<-hv,if_pos h0]
  rw[decide_eq_false h0,iy];rw[if_neg h0]at hv;by_cases hneg:d<0
  ·rw[decide_eq_true hneg,gV,cG (by omega) (by omega),cG (by omega) (by omega)];refine⟨_,_,_,Y,λ_=>⟨⟨by omega,by omega⟩,by omega,⟨by omega,by omega⟩,?_⟩⟩;rw[Int.zero_sub,Int.zero_sub,Rat.neg_divInt_neg,hv]
  rw[decide_eq_false hneg,iy];exact⟨_,_,_,Y,λ_=>⟨h1,by omega,h2,hv⟩⟩
 refine⟨0,0,false,?_,λe=>by cases e⟩;by_cases o1:gB n
 ·by_cases o2:gB d
  ·rw[ni o1,ni o2];simp only[Bool.not_true,iy,cc];unfold Sm at hs;by_cases c1:n<=-2147483648
   ·rw[decide_eq_true c1];simp only[cc,gV]
   rw[decide_eq_false c1];simp only[cc,iy];by_cases c2:2147483648<=n
   ·rw[decide_eq_true c2];simp only[cc,gV]
   rw[decide_eq_false c2];simp only[cc,iy];by_cases c3:d<=-2147483648
   ·rw[decide_eq_true c3];simp only[cc,gV]
   rw[decide_eq_false c3];simp only[cc,iy];rw[decide_eq_true (show 2147483648<=d by omega)];simp only[gV]
  rw[ni o1,xk o2];simp only[Bool.not_true,Bool.not_false,iy,cc,gV]
 rw[xk o1];simp only[Bool.not_false,cc,gV]
theorem Qj{a g:Int}(hg:0<g)(h:g∣a):Int.tdiv a g=a/g:=by
 obtain⟨k,rfl⟩:=h;rw[Int.mul_tdiv_cancel_left _ (by omega),Int.mul_ediv_cancel_left _ (by omega)]
theorem zf{n d:Int}(hd:0<d)(hd':d<=9223372036854775807)(hn: -9223372036854775807<=n)(hn':n<=9223372036854775807):ir n d=some (qn (Rat.divInt n d)):=by
 unfold ir;simp only[cc,cE];refine fM (λs=>Int.gcd s.1 s.2=Int.gcd n d/\s.1.natAbs<=9223372036854775807/\s.2.natAbs<=9223372036854775807) (λe=>e.natAbs=Int.gcd n d/\e.natAbs<=9223372036854775807) (λs=>s.2.natAbs) ?_ ⟨Y,by simp only[];omega,by simp only[];omega⟩ ?_
 ·rintro⟨a,b⟩ ⟨i1,i2,i3⟩;simp only at i1 i2 i3⊢;by_cases hb:b=0
  ·right;subst hb;refine⟨a,by simp,?_,i2⟩;rw[<-i1];simp[Int.gcd]
  left;rw[decide_eq_true hb,gV,Ka,if_neg hb,cc];have hm:(Int.tmod a b).natAbs=a.natAbs%b.natAbs:=Int.natAbs_tmod a b;have hlt:=Nat.mod_lt a.natAbs (Int.natAbs_pos.2 hb);refine⟨_,Y,⟨?_,i3,by simp only[];omega⟩,by simp only[];omega⟩;simp only[];rw[<-i1,Int.gcd,Int.gcd,hm,Nat.gcd_comm b.natAbs,<-Nat.gcd_rec,Nat.gcd_comm]
 rintro e ⟨he,hle⟩;obtain⟨g,hg⟩:∃g:Int,(Int.gcd n d:Int)=g:=⟨_,Y⟩;have hgp:0<g:=by have:=Int.gcd_pos_of_ne_zero_right n (show d≠0 by omega);omega
 have hgn:g∣n:=hg▸Int.gcd_dvd_left ..;have hgd:g∣d:=hg▸Int.gcd_dvd_right ..;have hK:∀m:Int,m=g->(bif decide (m=d)then(At n m).bind λgX=>(cW gX).bind λx=>some (⟨⟨x.neg,x.w⟩,⟨false,[]⟩⟩:Qr)else(At n m).bind λgI=>(cW gI).bind λx=>(At d m).bind λoD=>(cW oD).bind λy=>some ⟨⟨x.neg,x.w⟩,⟨y.neg,y.w⟩⟩)=some (qn (Rat.divInt n d)):=by
  rintro m rfl;have b1:(n/m).natAbs<=n.natAbs:=Int.natAbs_ediv_le_natAbs _ _;have b2:(d/m).natAbs<=d.natAbs:=Int.natAbs_ediv_le_natAbs _ _;have q1:At n m=some (n/m):=by
   rw[At,if_neg (by omega),Qj hgp hgn,cG (by omega) (by omega)]
  have q2:At d m=some (d/m):=by
   rw[At,if_neg (by omega),Qj hgp hgd,cG (by omega) (by omega)]
  rw[FL hd,hg,q1,q2];simp only[cc,sW (x:=n/m) (by omega) (by omega),sW (x:=d/m) (by omega) (by omega),zeta'];by_cases e1:m=d
  ·rw[decide_eq_true e1,gV,if_pos (by rw[e1];exact Int.ediv_self (by omega))]
  rw[decide_eq_false e1,iy,if_neg];intro e2;have:=Int.ediv_mul_cancel hgd;rw[e2]at this;omega
 by_cases hneg:e<0
 ·rw[decide_eq_true hneg,gV,cG (by omega) (by omega)];exact hK _ (by omega)
 rw[decide_eq_false hneg,iy];exact hK _ (by omega)
theorem nB{a b:Int}(ha:Sm a)(hb:Sm b): -4611686018427387904<a*b/\a*b<4611686018427387904:=by
 unfold Sm at ha hb;have h1:(a*b).natAbs=a.natAbs*b.natAbs:=Int.natAbs_mul a b;have h2:a.natAbs*b.natAbs<=2147483647*2147483647:=Nat.mul_le_mul (by omega) (by omega);omega
theorem xW{a b:Int}(ha:0<a)(hb:0<b):0<a*b:=Int.mul_pos ha hb
section ops
variable {L M:Nat}{a b:Qr}{x y:Rat}
theorem kQ.add(ha:kQ L a x)(hb:kQ M b y)(h:L+M<=4000000000):wD a b=some (qn (x+y))/\kQ (L+M+1) (qn (x+y)) (x+y):=by
 refine⟨?_,(ha.fq.add hb.fq).rep (by omega)⟩;obtain⟨n1,d1,c1,e1,k1⟩:=rS ha (by omega);obtain⟨n2,d2,c2,e2,k2⟩:=rS hb (by omega);obtain⟨p1,q1,f1,w1,w2,g1,v1,t1,t2⟩:=parts_eq ha (by omega);obtain⟨p2,q2,f2,w3,w4,g2,v2,t3,t4⟩:=parts_eq hb (by omega);have JG:nZ a b=some (qn (x+y)):=by
  unfold nZ lC;have u1:=gA (t1.mul t4) (by omega);have u2:=gA (t3.mul t2) (by omega);have u3:=gA (t2.mul t4) (by omega);have u4:=gA ((t1.mul t4).add ((t3.mul t2).mono (by omega))) (by omega);simp only[zeta',rR,pH,f1,f2,cc,mul_eq w1 w4,mul_eq w3 w2,add_eq u1 u2,mul_eq w2 w4,gz];rw[reduce_eq u4 u3 (by rw[gz];have:=xW g1 g2;omega),cc,gz,gz,<-v1,<-v2,Rat.divInt_add_divInt _ _ (by omega) (by omega)]
 unfold wD;simp only[zeta',rR,pH,e1,e2,cc,cE,JG];cases c1
 ·rw[iy,cc,iy]
 cases c2
 ·rw[gV,cc,iy]
 obtain⟨s1,s2,s3,s4⟩:=k1 Y;obtain⟨s5,s6,s7,s8⟩:=k2 Y;have m1:=nB s1 s7;have m2:=nB s5 s3;have m3:=nB s3 s7;have m4:=xW s2 s6;rw[gV,cc,gV,cG (x:=n1*d2) (by omega) (by omega),cG (x:=n2*d1) (by omega) (by omega),cG (x:=d1*d2) (by omega) (by omega),cG (by omega) (by omega),zf m4 (by omega) (by omega) (by omega),cc,<-s4,<-s8,Rat.divInt_add_divInt _ _ (by omega) (by omega)]
theorem kQ.sub(ha:kQ L a x)(hb:kQ M b y)(h:L+M<=4000000000):wE a b=some (qn (x-y))/\kQ (L+M+1) (qn (x-y)) (x-y):=by
 refine⟨?_,(ha.fq.sub hb.fq).rep (by omega)⟩;obtain⟨n1,d1,c1,e1,k1⟩:=rS ha (by omega);obtain⟨n2,d2,c2,e2,k2⟩:=rS hb (by omega);obtain⟨p1,q1,f1,w1,w2,g1,v1,t1,t2⟩:=parts_eq ha (by omega);obtain⟨p2,q2,f2,w3,w4,g2,v2,t3,t4⟩:=parts_eq hb (by omega);have JG:n9 a b=some (qn (x-y)):=by
  unfold n9 lD;have u1:=gA (t1.mul t4) (by omega);have u2:=gA (t3.mul t2) (by omega);have u3:=gA (t2.mul t4) (by omega);have u4:=gA ((t1.mul t4).sub ((t3.mul t2).mono (by omega))) (by omega);simp only[zeta',rR,pH,f1,f2,cc,mul_eq w1 w4,mul_eq w3 w2,sub_eq u1 u2,mul_eq w2 w4,gz];rw[reduce_eq u4 u3 (by rw[gz];have:=xW g1 g2;omega),cc,gz,gz,<-v1,<-v2,Rat.divInt_sub_divInt _ _ (by omega) (by omega)]
 unfold wE;simp only[zeta',rR,pH,e1,e2,cc,cE,JG];cases c1
 ·rw[iy,cc,iy]
 cases c2
 ·rw[gV,cc,iy]
 obtain⟨s1,s2,s3,s4⟩:=k1 Y;obtain⟨s5,s6,s7,s8⟩:=k2 Y;have m1:=nB s1 s7;have m2:=nB s5 s3;have m3:=nB s3 s7;have m4:=xW s2 s6;rw[gV,cc,gV,cG (x:=n1*d2) (by omega) (by omega),cG (x:=n2*d1) (by omega) (by omega),cG (x:=d1*d2) (by omega) (by omega),cG (by omega) (by omega),zf m4 (by omega) (by omega) (by omega),cc,<-s4,<-s8,Rat.divInt_sub_divInt _ _ (by omega) (by omega)]
theorem kQ.mul(ha:kQ L a x)(hb:kQ M b y)(h:L+M<=4000000000):sH a b=some (qn (x*y))/\kQ (L+M) (qn (x*y)) (x*y):=by
 have l1:=ha.l1;refine⟨?_,(ha.fq.mul hb.fq).rep (by omega)⟩;obtain⟨n1,d1,c1,e1,k1⟩:=rS ha (by omega);obtain⟨n2,d2,c2,e2,k2⟩:=rS hb (by omega);obtain⟨p1,q1,f1,w1,w2,g1,v1,t1,t2⟩:=parts_eq ha (by omega);obtain⟨p2,q2,f2,w3,w4,g2,v2,t3,t4⟩:=parts_eq hb (by omega);have JG:oa a b=some (qn (x*y)):=by
  unfold oa lF;have u1:=gA (t1.mul t3) (by omega);have u3:=gA (t2.mul t4) (by omega);simp only[zeta',rR,pH,f1,f2,cc,mul_eq w1 w3,mul_eq w2 w4];rw[reduce_eq u1 u3 (by rw[gz];have:=xW g1 g2;omega),cc,gz,gz,<-v1,<-v2,Rat.divInt_mul_divInt]
 unfold sH;simp only[zeta',rR,pH,e1,e2,cc,cE,JG];cases c1
 ·rw[iy,cc,iy]
 cases c2
 ·rw[gV,cc,iy]
 obtain⟨s1,s2,s3,s4⟩:=k1 Y;obtain⟨s5,s6,s7,s8⟩:=k2 Y;have m1:=nB s1 s5;have m3:=nB s3 s7;have m4:=xW s2 s6;rw[gV,cc,gV,cG (by omega) (by omega),cG (x:=d1*d2) (by omega) (by omega),zf m4 (by omega) (by omega) (by omega),cc,<-s4,<-s8,Rat.divInt_mul_divInt]
theorem kQ.sign(ha:kQ L a x)(h:L<=10000000000):fg a=some (oV x 0):=by
 unfold fg;have wn:=ha.wn h;have wd:=ha.wd h;have hv:=ha.v;simp only[zeta',cc,sign_eq wn,sign_eq wd];unfold qv qd at hv;rcases Int.lt_trichotomy (zi a.den) 0 with h1|h1|h1
 ·rw[Int.sign_eq_neg_one_of_neg h1];rw[if_neg (by omega),<-Rat.neg_divInt_neg]at hv;rw[<-hv,<-xV (by omega),Int.sign_neg];show some (IntKind.i64.wrap (0-(zi a.num).sign))=_;have:(zi a.num).sign=-1\/(zi a.num).sign=0\/(zi a.num).sign=1:=by
   rcases Int.lt_trichotomy (zi a.num) 0 with e|e|e
   ·left;exact Int.sign_eq_neg_one_of_neg e
   ·right;left;rw[e];rfl
   right;right;exact Int.sign_eq_one_of_pos e
  rw[cG (by omega) (by omega),Int.zero_sub]
 ·rw[if_pos h1]at hv;rw[<-hv,<-xV (by omega),h1];rfl
 rw[if_neg (by omega)]at hv;rw[Int.sign_eq_one_of_pos h1,<-hv,<-xV h1];rfl
theorem oW{x:Rat}:oV x 0=0↔x=0:=by
 unfold oV;by_cases h:x<0
 ·rw[if_pos h];refine⟨λe=>absurd e (by decide),λe=>?_⟩;rw[e]at h;exact absurd h Rat.lt_irrefl
 rw[if_neg h];by_cases h2:x=0
 ·rw[if_pos h2];simp[h2]
 rw[if_neg h2];simp[h2]
theorem kQ.div(ha:kQ L a x)(hb:kQ M b y)(h:L+M<=4000000000)(h0:y≠0):wF a b=some (qn (x/y),0)/\kQ (L+M) (qn (x/y)) (x/y):=by
 have l1:=ha.l1;refine⟨?_,(ha.fq.div hb.fq h0).rep (by omega)⟩;obtain⟨n1,d1,c1,e1,k1⟩:=rS ha (by omega);obtain⟨n2,d2,c2,e2,k2⟩:=rS hb (by omega);obtain⟨p1,q1,f1,w1,w2,g1,v1,t1,t2⟩:=parts_eq ha (by omega);obtain⟨p2,q2,f2,w3,w4,g2,v2,t3,t4⟩:=parts_eq hb (by omega);have hdiv:∀a b c d:Int,Rat.divInt a b/Rat.divInt c d=Rat.divInt (a*d) (b*c):=λa b c d=>by rw[Rat.div_def,Rat.inv_divInt,Rat.divInt_mul_divInt]
 have hnz:∀a b:Int,Rat.divInt a b=y->a≠0:=λa b e e'=>h0 (by rw[<-e,e',Rat.zero_divInt]);have JG:lX a b=some (qn (x/y)):=by
  unfold lX lG;have u1:=gA (t1.mul t4) (by omega);have u3:=gA (t2.mul t3) (by omega);simp only[zeta',rR,pH,f1,f2,cc,mul_eq w1 w4,mul_eq w2 w3];rw[reduce_eq u1 u3 (by rw[gz];exact Int.mul_ne_zero (by omega) (hnz _ _ v2)),cc,gz,gz,<-v1,<-v2,hdiv]
 unfold wF;simp only[zeta',rR,pH,hb.sign (by omega),e1,e2,cc,cE,JG];rw[decide_eq_false (λe=>h0 (oW.1 e)),iy];cases c1
 ·rw[iy,cc,iy]
 cases c2
 ·rw[gV,cc,iy]
 obtain⟨s1,s2,s3,s4⟩:=k1 Y;obtain⟨s5,s6,s7,s8⟩:=k2 Y;have hn2:=hnz _ _ s8;have m1:=nB s1 s7;have m3:=nB s3 s5;rw[gV,cc,gV];unfold Sm at s1 s3 s5 s7;by_cases hneg:n2<0
 ·have m4:=xW s2 (show 0< -n2 by omega);have m5:(-n1)*d2=-(n1*d2):=Int.neg_mul _ _;have m6:d1*(-n2)=-(d1*n2):=Int.mul_neg _ _;rw[decide_eq_true hneg,gV,cG (x:=0-n1) (by omega) (by omega),cG (x:=0-n2) (by omega) (by omega),Int.zero_sub,Int.zero_sub,cG (by omega) (by omega),cG (by omega) (by omega),zf m4 (by omega) (by omega) (by omega),cc,m5,m6,Rat.neg_divInt_neg,<-s4,<-s8,hdiv]
 have m4:=xW s2 (show 0<n2 by omega);rw[decide_eq_false hneg,iy,cG (by omega) (by omega),cG (by omega) (by omega),zf m4 (by omega) (by omega) (by omega),cc,<-s4,<-s8,hdiv]
theorem kQ.canon(ha:kQ L a x)(h:L<=10000000000):dQ a=some (qn x)/\kQ L (qn x) x:=by
 refine⟨?_,ha.fq.rep ha.l1⟩;obtain⟨n1,d1,c1,e1,k1⟩:=rS ha (by omega);obtain⟨p1,q1,f1,w1,w2,g1,v1,t1,t2⟩:=parts_eq ha (by omega);unfold dQ;simp only[zeta',rR,pH,e1,cc,f1];cases c1
 ·rw[iy,reduce_eq w1 w2 (by omega),cc,v1]
 obtain⟨s1,s2,s3,s4⟩:=k1 Y;unfold Sm at s1 s3;rw[gV,zf s2 (by omega) (by omega) (by omega),cc,s4]
end ops
end
section
open Go.Fw
theorem LP{p q u v:Int}(hq:0<q)(hv:0<v)(h:p.sign≠u.sign\/p.sign=0):xI (IntKind.i64.wrap (p.sign-u.sign))=some (qm (p*v) (u*q)):=by
 have pv:0<p->0<p*v:=λh=>Int.mul_pos h hv;have pv':p<0->p*v<0:=λh=>Int.mul_neg_of_neg_of_pos h hv;have uq:0<u->0<u*q:=λh=>Int.mul_pos h hq;have uq':u<0->u*q<0:=λh=>Int.mul_neg_of_neg_of_pos h hq;rcases Int.lt_trichotomy p 0 with e1|e1|e1<;>rcases Int.lt_trichotomy u 0 with e2|e2|e2
 ·rw[Int.sign_eq_neg_one_of_neg e1,Int.sign_eq_neg_one_of_neg e2]at h;simp at h
 ·have:=pv' e1;rw[Int.sign_eq_neg_one_of_neg e1,e2,Int.zero_mul,lH this];rfl
 ·have:=pv' e1;have:=uq e2;rw[Int.sign_eq_neg_one_of_neg e1,Int.sign_eq_one_of_pos e2,lH (by omega)];rfl
 ·have:=uq' e2;rw[Int.sign_eq_neg_one_of_neg e2,e1,Int.zero_mul,lI this];rfl
 ·rw[e1,e2,Int.zero_mul,Int.zero_mul];rfl
 ·have:=uq e2;rw[Int.sign_eq_one_of_pos e2,e1,Int.zero_mul,lH this];rfl
 ·have:=pv e1;have:=uq' e2;rw[Int.sign_eq_one_of_pos e1,Int.sign_eq_neg_one_of_neg e2,lI (by omega)];rfl
 ·have:=pv e1;rw[Int.sign_eq_one_of_pos e1,e2,Int.zero_mul,lI this];rfl
 rw[Int.sign_eq_one_of_pos e1,Int.sign_eq_one_of_pos e2]at h;simp at h
theorem YP{x y:Rat}:oV x y=0↔x=y:=by
 unfold oV;by_cases h:x<y
 ·rw[if_pos h];refine⟨λe=>absurd e (by decide),λe=>?_⟩;rw[e]at h;exact absurd h Rat.lt_irrefl
 rw[if_neg h];by_cases h2:x=y
 ·rw[if_pos h2];simp[h2]
 rw[if_neg h2];simp[h2]
theorem EF{x y:Rat}:oV x y<0↔x<y:=by
 unfold oV;by_cases h:x<y
 ·rw[if_pos h];simp[h]
 rw[if_neg h];by_cases h2:x=y
 ·rw[if_pos h2];simp[h2,Rat.lt_irrefl]
 rw[if_neg h2];simp[h]
theorem YQ(i:Int):qn (i:Rat)=⟨zn i,⟨false,[]⟩⟩:=by
 unfold qn;rw[Rat.den_intCast,if_pos Y,Rat.num_intCast]
section ops
variable {L M:Nat}{a b:Qr}{x y:Rat}
theorem kQ.neg(ha:kQ L a x)(h:L<=10000000000):sI a=some (qn (-x))/\kQ L (qn (-x)) (-x):=by
 refine⟨?_,ha.fq.neg.rep ha.l1⟩;unfold sI;have r:=(ha.canon h).2;simp only[zeta',rR,pH,(ha.canon h).1,cc,neg_eq (r.wn h)];show some (⟨zn (-zi (zn x.num)),_⟩:Qr)=some (qn (-x));rw[gz];rfl
theorem kQ.cmp(ha:kQ L a x)(hb:kQ M b y)(h:L+M<=4000000000):wG a b=some (oV x y):=by
 obtain⟨p1,q1,f1,w1,w2,g1,v1,t1,t2⟩:=parts_eq ha (by omega);obtain⟨p2,q2,f2,w3,w4,g2,v2,t3,t4⟩:=parts_eq hb (by omega);unfold wG;have u1:=gA (t1.mul t4) (by omega);have u2:=gA (t3.mul t2) (by omega);simp only[zeta',rR,pH,f1,f2,cc,cE,sign_eq w1,sign_eq w3,mul_eq w1 w4,mul_eq w3 w2,agZ u1 u2,gz];rw[<-v1,<-v2,Qi g1 g2];by_cases e1:(zi p1).sign=(zi p2).sign
 ·rw[show decide ((zi p1).sign≠(zi p2).sign)=false by simp[e1],iy,cc];by_cases e2:(zi p1).sign=0
  ·rw[decide_eq_true e2,gV,LP g1 g2 (.inr e2),cc]
  rw[decide_eq_false e2,iy]
 rw[show decide ((zi p1).sign≠(zi p2).sign)=true by simp[e1],gV,cc,gV,LP g1 g2 (.inl e1),cc]
theorem kR{n:Int}(hn:gB n):dP n=some (qn (n:Rat))/\kQ 2 (qn (n:Rat)) (n:Rat):=by
 refine⟨?_,(FQ.int (LO hn) (by decide)).rep (by decide)⟩;unfold dP;simp only[zeta',cc,sW hn.1 hn.2];rw[YQ]
theorem YR{n d:Int}(h0:d≠0)(hn:Fit L n)(hd:Fit L d)(h:1<=L):kQ L ⟨zn n,zn d⟩ (Rat.divInt n d):=by
 refine⟨λx hx=>jd (by decide) hx,λx hx=>jd (by decide) hx,(cH (by decide)).2 hn,(cH (by decide)).2 hd,h,?_⟩;unfold qv qd;simp only[gz];rw[if_neg h0]
end ops
end
section
open Go.Fw
def vq(n:Nat)(h:Nat->Rat):List Qr:=(List.range n).map λi=>qn (h i)
structure ek (L:Nat) (v:List Qr) (f:Nat->Rat):Prop where
 e:∀i (h:i<v.length),kQ L v[i] (f i)
 z:∀i,v.length<=i->f i=0
 l1:1<=L
theorem bY(n:Nat)(h:Nat->Rat):(vq n h).length=n:=by simp[vq]
theorem iM{n i:Nat}{h:Nat->Rat}(hi:i<n):(vq n h)[i]? =some (qn (h i)):=by simp[vq,hi]
theorem abn{n i:Nat}{h:Nat->Rat}(hi:i<(vq n h).length):(vq n h)[i]=qn (h i):=by simp[vq]
theorem mY(n:Nat)(h:Nat->Rat):vq (n+1) h=vq n h++[qn (h n)]:=by simp[vq,List.range_succ]
theorem dG{n:Nat}{h k:Nat->Rat}(e:∀i,i<n->h i=k i):vq n h=vq n k:=by
 unfold vq;apply List.map_congr_left;intro i hi;rw[e i (List.mem_range.1 hi)]
theorem qo{L n:Nat}{h:Nat->Rat}(hf:∀i,i<n->FQ L (h i))(hz:∀i,n<=i->h i=0)(h1:1<=L):ek L (vq n h) h:=by
 refine⟨λi hi=>?_,λi hi=>hz i (by rwa[bY]at hi),h1⟩;rw[abn hi];exact(hf i (by rwa[bY]at hi)).rep h1
def qz:Qr:=⟨⟨false,[]⟩,⟨false,[]⟩⟩
theorem TI:qn 0=qz:=rfl
theorem Qk{L:Nat}(h:1<=L):kQ L qz 0:=⟨by simp[qz],by simp[qz],by simp[qz],by simp[qz],h,by decide⟩
theorem nN{L:Nat}(h:1<=L):FQ L 0:=(Qk h).fq
def qat(v:List Qr)(i:Nat):Qr:=v.getD i qz
theorem ek.at{L:Nat}{v:List Qr}{f:Nat->Rat}(h:ek L v f)(i:Nat):kQ L (qat v i) (f i):=by
 unfold qat;by_cases hi:i<v.length
 ·rw[List.getD_eq_getElem?_getD,List.getElem?_eq_getElem hi];exact h.e i hi
 rw[List.getD_eq_getElem?_getD,List.getElem?_eq_none (by omega),h.z i (by omega)];exact Qk h.l1
theorem ek.fq{L:Nat}{v:List Qr}{f:Nat->Rat}(h:ek L v f)(i:Nat):FQ L (f i):=(h.at i).fq
theorem ek.mono{L M:Nat}{v:List Qr}{f:Nat->Rat}(h:ek L v f)(hl:L<=M):ek M v f:=⟨λi hi=>(h.e i hi).mono hl,h.z,Nat.le_trans h.l1 hl⟩
theorem ek.nil{L:Nat}(h:1<=L):ek L [] (λ_=>0):=⟨λi hi=>by simp at hi,λ_ _=>Y,h⟩
theorem ek.get{L:Nat}{v:List Qr}{f:Nat->Rat}(h:ek L v f){i:Nat}(hi:i<v.length):∃q,v[i]? =some q/\kQ L q (f i):=⟨v[i],by simp,h.e i hi⟩
theorem ek.congr{L:Nat}{v:List Qr}{f g:Nat->Rat}(h:ek L v f)(e:∀i,f i=g i):ek L v g:=by
 have:f=g:=funext e;rw[<-this];exact h
def NL(v:List Qr)(i:Nat):Rat:=qv (qat v i)
theorem TJ{L:Nat}{v:List Qr}(h:∀q∈v,kQ L q (qv q))(h1:1<=L):ek L v (NL v):=by
 refine⟨λi hi=>?_,λi hi=>?_,h1⟩
 ·have e:qat v i=v[i]:=by unfold qat;rw[List.getD_eq_getElem?_getD,List.getElem?_eq_getElem hi];rfl
  unfold NL;rw[e];exact h _ (List.getElem_mem hi)
 unfold NL qat;rw[List.getD_eq_getElem?_getD,List.getElem?_eq_none hi];decide
def cw(h:Nat->Rat):Nat->Rat
 |0=>0
 |n+1=>cw h n+h n
theorem cY{h k:Nat->Rat}:∀{n:Nat},(∀i,i<n->h i=k i)->cw h n=cw k n
 |0,_=>rfl
 |n+1,e=>by rw[cw,cw,cY (λi hi=>e i (by omega)),e n (by omega)]
theorem EG(h k:Nat->Rat):∀n,cw (λi=>h i+k i) n=cw h n+cw k n
 |0=>by simp only[cw];grind
 |n+1=>by rw[cw,cw,cw,EG h k n];grind
theorem zg(h k:Nat->Rat):∀n,cw (λi=>h i-k i) n=cw h n-cw k n
 |0=>by simp only[cw];grind
 |n+1=>by rw[cw,cw,cw,zg h k n];grind
theorem pI(c:Rat)(h:Nat->Rat):∀n,cw (λi=>c*h i) n=c*cw h n
 |0=>by simp[cw]
 |n+1=>by rw[cw,cw,pI c h n];grind
theorem qM:∀n,cw (λ_=>0) n=0
 |0=>rfl
 |n+1=>by rw[cw,qM n];grind
theorem YS{h:Nat->Rat}{n m:Nat}(hnm:n<=m)(hz:∀i,n<=i->i<m->h i=0):cw h m=cw h n:=by
 induction m with
 |zero=>rw[show n=0 by omega]
 |succ m ih=>
  rcases Nat.lt_or_ge m n with q|q
  ·rw[show n=m+1 by omega]
  rw[cw,ih q (λi h1 h2=>hz i h1 (by omega)),hz m q (by omega)];grind
theorem NM{L:Nat}{h:Nat->Rat}:∀{n:Nat},(∀i,i<n->FQ L (h i))->FQ (n*(L+1)+1) (cw h n)
 |0,_=>nN (by omega)
 |n+1,e=>by
  rw[cw];exact((NM (λi hi=>e i (by omega))).add (e n (by omega))).mono (by rw[Nat.add_mul];omega)
theorem gj{h:Nat->Rat}{n k:Nat}(hk:k<n)(hz:∀i,i<n->i≠k->h i=0):cw h n=h k:=by
 induction n with
 |zero=>omega
 |succ n ih=>
  rw[cw];rcases Nat.lt_or_ge k n with q|q
  ·rw[ih q (λi h1 h2=>hz i (by omega) h2),hz n (by omega) (by omega)];grind
  obtain rfl:k=n:=by omega
  rw[cY (k:=λ_=>0) (λi hi=>hz i (by omega) (by omega)),qM];grind
end
section
open Go.Fw
theorem TK{α β:Type}(a:List α)(b:List β):max (a.length:Int) (b.length:Int)=((max a.length b.length:Nat):Int):=by omega
theorem abo{α β:Type}(a:List α)(b:List β):min (a.length:Int) (b.length:Int)=((min a.length b.length:Nat):Int):=by omega
theorem ek.gd{L:Nat}{v:List Qr}{f:Nat->Rat}(h:ek L v f)(k:Nat):kQ L (v.getD k (⟨⟨false,[]⟩,⟨false,[]⟩⟩:Qr)) (f k):=h.at k
theorem NN{n k:Nat}{h:Nat->Rat}(hk:k<n):(vq k h++List.replicate (n-k) qz).set k (qn (h k))=vq (k+1) h++List.replicate (n-(k+1)) qz:=by
 rw[show n-k=(n-(k+1))+1 by omega,List.replicate_succ,List.set_append_right _ _ (by rw[bY];exact Nat.le_refl _),bY,Nat.sub_self,mY,List.append_assoc];rfl
theorem ag3{n c:Nat}{h:Nat->Rat}(hc:c<=n)(hz:∀i,c<=i->i<n->h i=0):vq c h++List.replicate (n-c) qz=vq n h:=by
 induction n with
 |zero=>rw[show c=0 by omega];rfl
 |succ n ih=>
  rcases Nat.lt_or_ge n c with q|q
  ·rw[show c=n+1 by omega,Nat.sub_self];simp
  rw[show n+1-c=(n-c)+1 by omega,List.replicate_succ',<-List.append_assoc,ih q (λi h1 h2=>hz i h1 (by omega)),mY,hz n q (by omega),TI]
theorem z7{n k:Nat}{h:Nat->Rat}(hk:k<=n):(vq k h++List.replicate (n-k) qz).length=n:=by rw[List.length_append,bY,List.length_replicate];omega
section ops
variable {K L M:Nat}{c:Qr}{a b:List Qr}{k:Rat}{f g:Nat->Rat}
theorem aqW(ha:ek L a f)(hb:ek M b g)(h:L+M<=4000000000)(la:a.length<=1000000)(lb:b.length<=1000000):yN a b=some (vq (max a.length b.length) λi=>f i-g i)/\ek (L+M+1) (vq (max a.length b.length) λi=>f i-g i) (λi=>f i-g i):=by
 refine⟨?_,qo (λi _=>(ha.fq i).sub (hb.fq i)) (λi hi=>?_) (by omega)⟩
 ·unfold yN sZ;refine aB (a:=vq (max a.length b.length) (λi=>f i-g i)) ?_ Y;refine aB Y<|aB Y<|aB (congrArg some (TK a b))<|aB (Jv (by omega) (by omega)) ?_;refine z3 (λk=>vq k (λi=>f i-g i)) Y (λk hk=>?_) Y;have e3:=((ha.gd k).sub (hb.gd k) h).1;generalize a.getD k (⟨⟨false,[]⟩,⟨false,[]⟩⟩:Qr)=q1 at e3⊢;generalize b.getD k (⟨⟨false,[]⟩,⟨false,[]⟩⟩:Qr)=q2 at e3⊢;obtain⟨⟨_,_⟩,⟨_,_⟩⟩:=q1;obtain⟨⟨_,_⟩,⟨_,_⟩⟩:=q2;obtain⟨q3,h3⟩:∃q,qn (f k-g k)=q:=⟨_,Y⟩;rw[mY,h3];rw[h3]at e3;obtain⟨⟨_,_⟩,⟨_,_⟩⟩:=q3;refine aB Y<|aB Y<|aB e3<|aB (nQ (by omega) (by rw[bY];omega)) Y
 rw[ha.z i (by omega),hb.z i (by omega)];grind
theorem ad4(hc:kQ K c k)(ha:ek L a f)(hb:ek M b g)(h:K+L+M<=4000000000)(la:a.length<=1000000)(lb:b.length<=1000000):ja c a b=some (vq (max a.length b.length) λi=>k*f i+g i)/\ek (K+L+M+1) (vq (max a.length b.length) λi=>k*f i+g i) (λi=>k*f i+g i):=by
 refine⟨?_,qo (λi _=>(hc.fq.mul (ha.fq i)).add (hb.fq i)) (λi hi=>?_) (by omega)⟩
 ·unfold ja oI;obtain⟨⟨_,_⟩,⟨_,_⟩⟩:=c;refine aB (a:=vq (max a.length b.length) (λi=>k*f i+g i)) ?_ Y;refine aB Y<|aB Y<|aB (congrArg some (TK a b))<|aB (Jv (by omega) (by omega)) ?_;refine z3 (λj=>vq j (λi=>k*f i+g i)) Y (λj hj=>?_) Y;have e1:=hc.mul (ha.gd j) (by omega);have e3:=(e1.2.add (hb.gd j) (by omega)).1;replace e1:=e1.1;generalize a.getD j (⟨⟨false,[]⟩,⟨false,[]⟩⟩:Qr)=q1 at e1⊢;generalize b.getD j (⟨⟨false,[]⟩,⟨false,[]⟩⟩:Qr)=q2 at e3⊢;obtain⟨⟨_,_⟩,⟨_,_⟩⟩:=q1;obtain⟨⟨_,_⟩,⟨_,_⟩⟩:=q2;generalize qn (k*f j)=q4 at e1 e3;obtain⟨⟨_,_⟩,⟨_,_⟩⟩:=q4;obtain⟨q3,h3⟩:∃q,qn (k*f j+g j)=q:=⟨_,Y⟩;rw[mY,h3];rw[h3]at e3;obtain⟨⟨_,_⟩,⟨_,_⟩⟩:=q3;refine aB Y<|aB Y<|aB (aB e1<|aB e3 Y)<|aB (nQ (by omega) (by rw[bY];omega)) Y
 rw[ha.z i (by omega),hb.z i (by omega)];grind
theorem ag4(hc:kQ K c k)(ha:ek L a f)(h:K+L<=4000000000)(la:a.length<=1000000):qC c a=some (vq a.length λi=>k*f i)/\ek (K+L) (vq a.length λi=>k*f i) (λi=>k*f i):=by
 have ZS:=ha.l1;refine⟨?_,qo (λi _=>hc.fq.mul (ha.fq i)) (λi hi=>?_) (by omega)⟩
 ·unfold qC;obtain⟨⟨_,_⟩,⟨_,_⟩⟩:=c;refine aB Y<|aB (sV (by omega) (by omega))<|aB Y ?_;refine bH (λj=>((j:Int),vq j (λi=>k*f i)++List.replicate (a.length-j) qz)) a.length (vq a.length λi=>k*f i) Y (λj hj=>?_) ?_ Y
  ·obtain⟨q,hq,rq⟩:=ha.get hj;have e3:=(hc.mul rq h).1;obtain⟨q3,h3⟩:∃q,qn (k*f j)=q:=⟨_,Y⟩;have h4:=NN (h:=λi=>k*f i) hj;rw[h3]at e3 h4;obtain⟨⟨_,_⟩,⟨_,_⟩⟩:=q;obtain⟨⟨_,_⟩,⟨_,_⟩⟩:=q3;refine aB Y<|bO (decide_eq_true (by omega))<|aB (bz hq)<|aB e3<|aB (b9 (by rw[z7 (by omega)];exact hj))<|aB (dS (by rw[z7 (by omega)];exact hj))<|aB Y ?_;rw[bM (by omega),h4]
  refine aB Y<|bG (decide_eq_false (by omega)) ?_;simp
 rw[ha.z i hi];grind
end ops
end
section
open Go.Fw
def oC(f g:Nat->Rat):Nat->Int
 |0=>0
 |n+1=>if oC f g n≠0 then oC f g n else oV (f n) (g n)
theorem U7{f g:Nat->Rat}{i n:Nat}(h0:oC f g i=0)(hi:i<n)(hc:oV (f i) (g i)≠0):oC f g n=oV (f i) (g i):=by
 induction n with
 |zero=>omega
 |succ n ih=>
  rw[oC];rcases Nat.lt_or_ge i n with q|q
  ·rw[ih q,if_pos hc]
  obtain rfl:i=n:=by omega
  rw[h0];simp
theorem JH{f g:Nat->Rat}:∀{n:Nat},oC f g n=0↔∀i,i<n->f i=g i
 |0=>by simp[oC]
 |n+1=>by
  rw[oC];by_cases h:oC f g n=0
  ·rw[if_neg (by simpa using h),YP];have:=JH.1 h;refine⟨λe i hi=>?_,λe=>e n (by omega)⟩;rcases Nat.lt_or_ge i n with q|q
   ·exact this i q
   obtain rfl:i=n:=by omega
   exact e
  rw[if_pos h];refine⟨λe=>absurd e h,λe=>absurd (JH.2 (λi hi=>e i (by omega))) h⟩
section ops
variable {K L M:Nat}{c:Qr}{a b:List Qr}{k:Rat}{f g:Nat->Rat}
theorem Ca(q:Qr):(⟨⟨(q.num.neg,q.num.w,q.den.neg,q.den.w).1,(q.num.neg,q.num.w,q.den.neg,q.den.w).2.1⟩,⟨(q.num.neg,q.num.w,q.den.neg,q.den.w).2.2.1,(q.num.neg,q.num.w,q.den.neg,q.den.w).2.2.2⟩⟩:Qr)=q:=by cases q;rfl
theorem akB(ha:ek L a f)(hb:ek M b g)(h:L+M<=4000000000):nm a b=some (oC f g (max a.length b.length)):=by
 unfold nm;generalize max a.length b.length=n;refine aB (a:=if oC f g n≠0 then .inr (oC f g n)else .inl ()) ?_ ?_
 ·induction n with
  |zero=>rfl
  |succ n ih=>
   rw[wj];refine aB ih ?_;by_cases h0:oC f g n=0
   ·have hl:oC f g (n+1)=oV (f n) (g n):=by rw[oC,if_neg (by simpa using h0)]
    rw[hl,if_neg (show ¬oC f g n≠0 by simpa using h0)];have e1:=(ha.gd n).cmp (hb.gd n) h;generalize a.getD n (⟨⟨false,[]⟩,⟨false,[]⟩⟩:Qr)=q1 at e1⊢;generalize b.getD n (⟨⟨false,[]⟩,⟨false,[]⟩⟩:Qr)=q2 at e1⊢;obtain⟨⟨_,_⟩,⟨_,_⟩⟩:=q1;obtain⟨⟨_,_⟩,⟨_,_⟩⟩:=q2;refine aB Y<|aB Y<|aB e1<|aB Y ?_;by_cases h1:oV (f n) (g n)=0
    ·rw[if_neg (by simpa using h1)];exact bG (decide_eq_false (by simpa using h1)) Y
    rw[if_pos h1];exact bO (decide_eq_true h1) Y
   have hl:oC f g (n+1)=oC f g n:=by rw[oC,if_pos h0]
   rw[hl,if_pos h0]
 by_cases h0:oC f g n=0
 ·rw[if_neg (by simpa using h0),h0]
 rw[if_pos h0]
theorem akC(ha:ek L a f)(h:L+1<=4000000000):wL a=some (oC f (λ_=>0) a.length):=by
 unfold wL;refine aB (akB ha (ek.nil (L:=1) (by omega)) h) ?_;simp
theorem veq(ha:ek L a f)(hb:ek M b g)(h:L+M<=4000000000):gP a b=some (decide (∀i,i<max a.length b.length->f i=g i)):=by
 unfold gP;refine aB (akB ha hb h)<|aB Y ?_;congr 1;rw[decide_eq_decide];exact JH
end ops
end
section
open Go.Fw
theorem z8{l:List Nat}(h:NK l):jT l<65536^l.length:=ju l h.1
theorem tm{a:Nat}:Int.tmod (a:Int) 65536=((a%65536:Nat):Int):=by
 rw[Int.tmod_eq_emod_of_nonneg (by omega)];omega
theorem td{a:Nat}:Int.tdiv (a:Int) 65536=((a/65536:Nat):Int):=by
 rw[Int.tdiv_eq_ediv_of_nonneg (by omega)];omega
theorem NO(l k:List Nat)(hl:NK l)(hk:NK k):mE (zl l) (zl k)=some (Dn (jT l) (jT k)):=by
 unfold mE;simp only[cc];rw[gb,gb,show max (l.length:Int) (k.length:Int)=((max l.length k.length:Nat):Int) by omega,cG (by have:=hl.2;have:=hk.2;omega) (by have:=hl.2;have:=hk.2;omega)];have h1:jT l<65536^(max l.length k.length):=Nat.lt_of_lt_of_le (z8 hl) (Nat.pow_le_pow_right (by decide) (by omega));have h2:jT k<65536^(max l.length k.length):=Nat.lt_of_lt_of_le (z8 hk) (Nat.pow_le_pow_right (by decide) (by omega));have hm:max l.length k.length<=100000000000:=by have:=hl.2;have:=hk.2;omega
 have a1:=Gr hl.1;have a2:=Gr hk.1;generalize jT l=V at*;generalize jT k=W at*;generalize max l.length k.length=n at*;refine fM (λy=>∃m:Nat,y=(m:Int)-1/\m<=n/\V/65536^m=W/65536^m) (λe=>(∃c,e=.inl c/\V=W)\/e=.inr (Dn V W)) (λy=>(y+1).toNat) ?_ ⟨n,Y,Nat.le_refl _,by rw[Nat.div_eq_of_lt h1,Nat.div_eq_of_lt h2]⟩ ?_
 ·rintro _ ⟨m,rfl,hmn,he⟩;rcases m with _|m
  ·right;refine⟨_,Y,.inl ⟨_,Y,?_⟩⟩;simpa using he
  rw[show((m+1:Nat):Int)-1=(m:Int) by omega,show decide ((0:Int)<=(m:Int))=true by simp,gV,a1,cc,a2,cc];rcases LM he with⟨hd,hq⟩|⟨hd,hlt⟩|⟨hd,hlt⟩
  ·left;rw[hd,show decide (((W/65536^m%65536:Nat):Int)<((W/65536^m%65536:Nat):Int))=false by simp,iy,cc,cc,show decide (((W/65536^m%65536:Nat):Int)<((W/65536^m%65536:Nat):Int))=false by simp,iy,cG (by omega) (by omega)];exact⟨_,Y,⟨m,Y,by omega,hq⟩,by omega⟩
  ·right;rw[show decide (((V/65536^m%65536:Nat):Int)<((W/65536^m%65536:Nat):Int))=true by rw[decide_eq_true_eq];omega,gV];exact⟨_,Y,.inr (by rw[xU hlt])⟩
  right;rw[show decide (((V/65536^m%65536:Nat):Int)<((W/65536^m%65536:Nat):Int))=false by rw[decide_eq_false_iff_not];omega,iy,cc,cc,show decide (((W/65536^m%65536:Nat):Int)<((V/65536^m%65536:Nat):Int))=true by rw[decide_eq_true_eq];omega,gV];exact⟨_,Y,.inr (by rw[z6 hlt])⟩
 rintro e (⟨c,rfl,rfl⟩|rfl)
 ·rw[B4]
 rfl
theorem NP(l k:List Nat)(hl:NK l)(hk:NK k):kD (zl l) (zl k)=some (zl (can 65536 (jT l+jT k))):=by
 unfold kD;have h1:jT l<65536^(max l.length k.length):=Nat.lt_of_lt_of_le (z8 hl) (Nat.pow_le_pow_right (by decide) (by omega));have h2:jT k<65536^(max l.length k.length):=Nat.lt_of_lt_of_le (z8 hk) (Nat.pow_le_pow_right (by decide) (by omega));have hm:max l.length k.length<=100000000000:=by have:=hl.2;have:=hk.2;omega
 have a1:=Gr hl.1;have a2:=Gr hk.1;rw[gb,gb];generalize jT l=V at*;generalize jT k=W at*;refine fM (λs=>∃i:Nat,s=(((Hy 65536 V W i:Nat):Int),(i:Int),zl (gN 65536 i (V+W)))/\i<=max l.length k.length+1) (λe=>∃i,e=zl (gN 65536 i (V+W))/\V+W<65536^i/\i<=max l.length k.length+1) (λs=>max l.length k.length+1-s.2.1.toNat) ?_ ⟨0,by rw[JA];rfl,by omega⟩ ?_
 ·rintro _ ⟨i,rfl,hi⟩;have hc:=Jy (B:=65536) (by decide) V W i;have Vm:=Jz (B:=65536) (by decide) V W i;have ES:=Hz (B:=65536) (by decide) V W i;have d1:=Nat.mod_lt (V/65536^i) (show 0<65536 by decide);have d2:=Nat.mod_lt (W/65536^i) (show 0<65536 by decide);simp only[cc,cE];have DA:∀(K:Bool->Option ((Int×Int×List Int)⊕List Int)),(((bif decide ((i:Int)<(l.length:Int))then some true else some (decide ((i:Int)<(k.length:Int)))):Option Bool).bind λc=>((bif c then some true else some (decide ((0:Int)<((Hy 65536 V W i:Nat):Int)))):Option Bool).bind K)=K (decide (i<max l.length k.length\/0<Hy 65536 V W i)):=by
   intro K;by_cases q1:i<l.length
   ·have:i<max l.length k.length:=by omega
    simp[q1,this]
   by_cases q2:i<k.length
   ·have:i<max l.length k.length:=by omega
    simp[q1,q2,this]
   have:¬i<max l.length k.length:=by omega
   simp[q1,q2,this]
  rw[DA];by_cases QB:i<max l.length k.length\/0<Hy 65536 V W i
  ·left;have hi':i<max l.length k.length+1:=by
    rcases Nat.lt_or_ge i (max l.length k.length+1)with h|h
    ·exact h
    have hie:i=max l.length k.length+1:=by omega
    have hp:65536^i=65536^(max l.length k.length)*65536:=by rw[hie,Nat.pow_succ]
    have g3:=Nz (B:=65536) (V:=V) (W:=W) (k:=i) (by omega) (by omega);rw[Nat.div_eq_of_lt (by omega)]at g3;omega
   rw[show decide (i<max l.length k.length\/0<Hy 65536 V W i)=true by rw[decide_eq_true_eq];exact QB,gV,a1,cc,a2,cc,rO (by omega),rO (by omega),tm,td,Vm,ES,nQ (by decide) (by rw[gb,cf];omega),cc,j1 (by have:=Jy (B:=65536) (by decide) V W (i+1);omega),bM (by omega)];refine⟨_,Y,⟨i+1,?_,by omega⟩,by simp only[];omega⟩;rw[mw,NJ,Sq]
  right;rw[show decide (i<max l.length k.length\/0<Hy 65536 V W i)=false by rw[decide_eq_false_iff_not];exact QB,iy];refine⟨_,Y,i,Y,?_,hi⟩;have g1:V<65536^i:=Nat.lt_of_lt_of_le h1 (Nat.pow_le_pow_right (by decide) (by omega));have g2:W<65536^i:=Nat.lt_of_lt_of_le h2 (Nat.pow_le_pow_right (by decide) (by omega));have g3:=Nz (B:=65536) g1 g2;rcases Nat.lt_or_ge (V+W) (65536^i)with h|h
  ·exact h
  have:=Nat.div_pos h (Nat.pow_pos (by decide));omega
 rintro _ ⟨i,rfl,hlt,hi⟩;rw[oB _ (by rw[cf];omega),cc,uC (by decide) hlt]
theorem HC(l k:List Nat)(hl:NK l)(hk:NK k)(hle:jT k<=jT l):jz (zl l) (zl k)=some (zl (can 65536 (jT l-jT k))):=by
 unfold jz;have h1:=z8 hl;have hm:=hl.2;have a1:=Gr hl.1;have a2:=Gr hk.1;rw[gb];generalize jT l=V at*;generalize jT k=W at*;refine bH (λi=>(((1-FI 65536 V W i:Nat):Int),(i:Int),zl (gN 65536 i (V-W)))) l.length (zl (gN 65536 l.length (V-W))) ?_ (λi hi=>?_) ?_ ?_
 ·rw[JB];rfl
 ·have hc:=Sg (B:=65536) (by decide) V W i;have Vm:=JC (B:=65536) (by decide) V W i;have ES:=NA (B:=65536) (by decide) hle i;have d1:=Nat.mod_lt (V/65536^i) (show 0<65536 by decide);have d2:=Nat.mod_lt (W/65536^i) (show 0<65536 by decide);simp only[cc,cE];rw[show decide ((i:Int)<(l.length:Int))=true by simp[hi],gV,a1,cc,a2,cc];rw[<-Vm,mw,NJ,Sq,<-ES];generalize V/65536^i%65536=a at*;generalize W/65536^i%65536=b at*;generalize FI 65536 V W i=c at*;rw[cG (x:=(a:Int)-(b:Int)) (by omega) (by omega),cG (x:=(a:Int)-(b:Int)-((1-c:Nat):Int)) (by omega) (by omega)];by_cases hn:(a:Int)-(b:Int)-((1-c:Nat):Int)<0
  ·rw[show decide ((a:Int)-(b:Int)-((1-c:Nat):Int)<0)=true by rw[decide_eq_true_eq];exact hn,gV,cG (by omega) (by omega),nQ (by decide) (by rw[gb,cf];omega),cc,bM (by omega)];rw[show(a:Int)-(b:Int)-((1-c:Nat):Int)+65536=(((a+(65536-1-b)+c)%65536:Nat):Int) by omega,show(1-(a+(65536-1-b)+c)/65536)=1 by omega];rfl
  rw[show decide ((a:Int)-(b:Int)-((1-c:Nat):Int)<0)=false by rw[decide_eq_false_iff_not];exact hn,iy,nQ (by decide) (by rw[gb,cf];omega),cc,bM (by omega)];rw[show(a:Int)-(b:Int)-((1-c:Nat):Int)=(((a+(65536-1-b)+c)%65536:Nat):Int) by omega,show(1-(a+(65536-1-b)+c)/65536)=0 by omega];rfl
 ·simp
 rw[oB _ (by rw[cf];omega),cc,uC (by decide) (by omega)]
theorem B7(l:List Nat)(hl:∀x∈l,x<65536)(hn:l.length<=3):gE (zl l)=some ((jT l:Nat):Int):=by
 unfold gE;simp only[cc];have hV:jT l<65536^l.length:=ju l hl;have hp:65536^l.length<=65536^3:=Nat.pow_le_pow_right (by decide) hn;rw[show(65536:Nat)^3=281474976710656 by decide]at hp;rw[gb,cG (by omega) (by omega)];refine bH (λj=>(((jT l/65536^(l.length-j):Nat):Int),(l.length:Int)-1-(j:Int))) l.length ((jT l:Nat):Int) ?_ (λj hj=>?_) ?_ Y
 ·rw[show l.length-0=l.length by omega,Nat.div_eq_of_lt hV];simp
 ·obtain⟨m,hm⟩:∃m,l.length=m+j+1:=⟨l.length-j-1,by omega⟩;have hg:=pP hl (i:=m) (by omega);have hst:=Ez 65536 (jT l) m;have hdl:jT l/65536^m<=jT l:=Nat.div_le_self _ _;rw[show l.length-j=m+1 by omega,show l.length-(j+1)=m by omega,show(l.length:Int)-1-(j:Int)=(m:Int) by omega,show(l.length:Int)-1-((j+1:Nat):Int)=(m:Int)-1 by omega];have hd:=Nat.mod_lt (jT l/65536^m) (show 0<65536 by decide);simp only[];rw[show decide ((0:Int)<=(m:Int))=true by simp,gV,bz (Dr hg),cc];generalize jT l/65536^(m+1)=c at*;generalize jT l/65536^m=d at*;rw[cG (x:=(c:Int)*65536) (by omega) (by omega),cG (x:=(c:Int)*65536+((d%65536:Nat):Int)) (by omega) (by omega),cG (x:=(m:Int)-1) (by omega) (by omega),show(c:Int)*65536+((d%65536:Nat):Int)=(d:Int) by omega]
 simp only[];rw[show decide ((0:Int)<=(l.length:Int)-1-(l.length:Int))=false by rw[decide_eq_false_iff_not];omega,iy,Nat.sub_self,Nat.pow_zero,Nat.div_one]
theorem JI(x:Nat)(hx:x<281474976710656):mR (x:Int)=some (zl (can 65536 x)):=by
 unfold mR;simp only[cc];rw[tm,td,j1 (by omega),tm,td,j1 (by omega)];have:[((x%65536:Nat):Int),((x/65536%65536:Nat):Int),((x/65536/65536:Nat):Int)]=zl [x%65536,x/65536%65536,x/65536/65536]:=rfl;rw[this,oB _ (by simp),cc,oz (B:=65536) (by decide) (by intro y hy;simp at hy;omega)];congr 3;simp[val];omega
theorem FM(l:List Nat)(f:Nat)(hl:NK l)(hf:f<65536):gG (zl l) (f:Int)=some (zl (can 65536 (jT l*f))):=by
 unfold gG;have h1:=z8 hl;have hm:=hl.2;have a1:=Gr hl.1;rw[gb];generalize jT l=V at*;have nO:=λi=>Yy (B:=65536) (V:=V) (f:=f) (e:=0) (by decide) hf (by decide) i;refine fM (λs=>∃i:Nat,s=(((sC 65536 V f 0 i:Nat):Int),(i:Int),zl (gN 65536 i (V*f)))/\i<=l.length+1) (λe=>∃i,e=zl (gN 65536 i (V*f))/\V*f<65536^i/\i<=l.length+1) (λs=>l.length+1-s.2.1.toNat) ?_ ⟨0,by rw[NC];rfl,by omega⟩ ?_
 ·rintro _ ⟨i,rfl,hi⟩;have hc:=nO i;have hc1:=nO (i+1);have Vm:=ND (B:=65536) (by decide) V f 0 i;have ES:=Sj (B:=65536) (by decide) V f 0 i;have d1:=Nat.mod_lt (V/65536^i) (show 0<65536 by decide);have hp:V/65536^i%65536*f<=65535*65535:=Nat.mul_le_mul (by omega) (by omega);rw[Nat.add_zero]at ES;simp only[cc,cE];have DA:∀(K:Bool->Option ((Int×Int×List Int)⊕List Int)),(((bif decide ((i:Int)<(l.length:Int))then some true else some (decide ((0:Int)<((sC 65536 V f 0 i:Nat):Int)))):Option Bool).bind K)=K (decide (i<l.length\/0<sC 65536 V f 0 i)):=by
   intro K;by_cases q1:i<l.length
   ·simp[q1]
   simp[q1]
  rw[DA];by_cases QB:i<l.length\/0<sC 65536 V f 0 i
  ·left;have hi':i<l.length+1:=by
    rcases Nat.lt_or_ge i (l.length+1)with h|h
    ·exact h
    have hie:i=l.length+1:=by omega
    have g3:=Sk (B:=65536) (V:=V) (f:=f) (e:=0) (i:=i) (Nat.lt_of_lt_of_le h1 (Nat.pow_le_pow_right (by decide) (by omega)));rw[Nat.add_zero,Nat.div_eq_of_lt]at g3
    ·omega
    rw[hie,Nat.pow_succ];exact Nat.mul_lt_mul'' h1 hf
   rw[show decide (i<l.length\/0<sC 65536 V f 0 i)=true by rw[decide_eq_true_eq];exact QB,gV,a1,cc,<-Int.natCast_mul,j1 (by omega),rO (by omega),tm,td,Vm,ES,nQ (by decide) (by rw[gb,cf];omega),cc,j1 (by omega),bM (by omega)];refine⟨_,Y,⟨i+1,?_,by omega⟩,by simp only[];omega⟩;rw[mw,NJ,Sq]
  right;rw[show decide (i<l.length\/0<sC 65536 V f 0 i)=false by rw[decide_eq_false_iff_not];exact QB,iy];refine⟨_,Y,i,Y,?_,hi⟩;have g3:=Sk (B:=65536) (V:=V) (f:=f) (e:=0) (i:=i) (Nat.lt_of_lt_of_le h1 (Nat.pow_le_pow_right (by decide) (by omega)));rw[Nat.add_zero]at g3;rcases Nat.lt_or_ge (V*f) (65536^i)with h|h
  ·exact h
  have:=Nat.div_pos h (Nat.pow_pos (by decide));omega
 rintro _ ⟨i,rfl,hlt,hi⟩;rw[oB _ (by rw[cf];omega),cc,uC (by decide) hlt]
end
section
open Go.Fw
theorem dL(v:Nat):jT (can 65536 v)=v:=oU (by decide) v
theorem NQ{v n:Nat}(h:v<65536^n)(hn:n<=100000000000):NK (can 65536 v):=⟨λ_ hx=>jd (by decide) hx,Nat.le_trans ((cH (by decide)).2 h) hn⟩
theorem abp(l k:List Nat)(hl:NK l)(hk:NK k)(hs:l.length+k.length<=90000000000):ug (zl l) (zl k)=some (zl (can 65536 (jT l*jT k))):=by
 unfold ug;have hV:=z8 hl;have hW:=z8 hk;simp only[cc];rw[gb,gb,rO (by omega)];by_cases h3:l.length+k.length<=3
 ·rw[show decide (((l.length+k.length:Nat):Int)<=3)=true by rw[decide_eq_true_eq];omega,gV,B7 l hl.1 (by omega),cc,B7 k hk.1 (by omega),cc,<-Int.natCast_mul];have hlt:jT l*jT k<281474976710656:=by
   have h1:jT l*jT k<65536^l.length*65536^k.length:=Nat.mul_lt_mul'' hV hW;rw[<-Nat.pow_add]at h1;have h2:65536^(l.length+k.length)<=65536^3:=Nat.pow_le_pow_right (by decide) h3;rw[show(65536:Nat)^3=281474976710656 by decide]at h2;omega
  rw[j1 (by omega),JI _ hlt,cc]
 rw[show decide (((l.length+k.length:Nat):Int)<=3)=false by rw[decide_eq_false_iff_not];omega,iy,cG (by omega) (by omega)];refine fM (λs=>∃(u:List Nat) (m:Nat),s=(zl u,(m:Int)-1)/\m<=l.length/\(∀x∈u,x<65536)/\jT u=jT l/65536^m*jT k/\u.length+m<=l.length+k.length) (λe=>∃u:List Nat,e=zl u/\(∀x∈u,x<65536)/\jT u=jT l*jT k/\u.length<=l.length+k.length) (λs=>(s.2+1).toNat) ?_ ⟨[],l.length,Y,Nat.le_refl _,by simp,by rw[Nat.div_eq_of_lt hV];simp[jT,val],by simp⟩ ?_
 ·rintro _ ⟨u,m,rfl,hm,hu,huv,hul⟩;simp only[];rcases m with _|m
  ·right;refine⟨_,Y,u,Y,hu,?_,by omega⟩;rw[huv,Nat.pow_zero,Nat.div_one]
  left;have hg:=pP hl.1 (i:=m) (by omega);obtain⟨d,hd⟩:∃d,jT l/65536^m%65536=d:=⟨_,Y⟩;have hdl:d<65536:=by rw[<-hd];exact Nat.mod_lt _ (by decide)
  rw[show val 65536 l/65536^m%65536=d from hd]at hg;have hst:=Ez 65536 (jT l) m;rw[hd]at hst;have hgi:=bz (Dr hg);have hA:jT l/65536^m<65536^(l.length-m):=by
   rw[Nat.div_lt_iff_lt_mul (Nat.pow_pos (by decide)),<-Nat.pow_add,show l.length-m+m=l.length by omega];exact hV
  have hAW:jT l/65536^m*jT k<65536^(l.length-m+k.length):=by rw[Nat.pow_add];exact Nat.mul_lt_mul'' hA hW
  rw[show((m+1:Nat):Int)-1=(m:Int) by omega,show decide ((0:Int)<=(m:Int))=true by simp,gV,Yu (by decide) (by rw[gb];simp;omega),cc];have h0:[(0:Int)]++zl u=zl (0::u):=rfl;have hv0:jT (0::u)=65536*(jT l/65536^(m+1))*jT k:=by
   show 0+65536*jT u=_;rw[huv,Nat.zero_add,Nat.mul_assoc]
  rw[h0];refine(show ∀(X:Option ((List Int×Int)⊕List Int)),(∃w:List Nat,X=some (.inl (zl w,IntKind.i64.wrap ((m:Int)-1)))/\(∀x∈w,x<65536)/\jT w=jT l/65536^m*jT k/\w.length+m<=l.length+k.length)->∃s',X=some (.inl s')/\(∃(u:List Nat) (m:Nat),s'=(zl u,(m:Int)-1)/\m<=l.length/\(∀x∈u,x<65536)/\jT u=jT l/65536^m*jT k/\u.length+m<=l.length+k.length)/\(s'.2+1).toNat<((m:Int)+1).toNat from ?_) _ ?_
  ·rintro X ⟨w,rfl,hw,hwv,hwl⟩;rw[cG (by omega) (by omega)];exact⟨_,Y,⟨w,m,Y,by omega,hw,hwv,hwl⟩,by simp only[];omega⟩
  have akE:=mX (body:=λ(AB:(List Int)×Int)=>
      match AB with
      |⟨I1,sy⟩=>
       (show Option (((List Int)×Int)⊕((List Int)))from
        (cL (zl l) (m:Int)).bind λoD=>
        (bif decide ((sy:Int)<oD)then
          (cL (zl l) (m:Int)).bind λnF=>
          (gG (zl k) (min (1024:Int) (IntKind.i64.wrap (nF-sy)))).bind λsF=>
          (kD I1 sF).bind λsj=>
          some (.inl (sj,IntKind.i64.wrap (sy+1024)))
         else
          some (.inr I1)))) (s:=(zl (0::u),(0:Int))) (f:=λEd=>(some (.inl (Ed,IntKind.i64.wrap ((m:Int)-1))):Option ((List Int×Int)⊕List Int)))
   (Q:=λr=>∃w:List Nat,r=.inl (zl w,IntKind.i64.wrap ((m:Int)-1))/\(∀x∈w,x<65536)/\jT w=jT l/65536^m*jT k/\w.length+m<=l.length+k.length)
   (λs=>∃(w:List Nat) (j:Nat),s=(zl w,(j:Int))/\(∀x∈w,x<65536)/\j<=70000/\jT w=(65536*(jT l/65536^(m+1))+min j d)*jT k/\w.length+m<=l.length+k.length)
   (λe=>∃w:List Nat,e=zl w/\(∀x∈w,x<65536)/\jT w=jT l/65536^m*jT k/\w.length+m<=l.length+k.length) (λs=>(70000-s.2).toNat) ?_ ⟨0::u,0,Y,by simp;exact hu,by omega,by rw[hv0];simp,by simp;omega⟩ ?_
  ·obtain⟨r,h1,w,rfl,h2,h3,h4⟩:=akE;exact⟨w,h1,h2,h3,h4⟩
  ·rintro _ ⟨w,j,rfl,hw,hj,hwv,hwl⟩;simp only[];rw[hgi,cc];by_cases T9:j<d
   ·left;rw[show decide ((j:Int)<(d:Int))=true by simp[T9],gV,cc,cG (by omega) (by omega)];obtain⟨f,hf⟩:∃f,min 1024 (d-j)=f:=⟨_,Y⟩;obtain⟨j',hj',hj2⟩:∃j':Nat,(j:Int)+1024=(j':Int)/\j'=j+1024:=⟨j+1024,by omega,Y⟩;have hmu:(70000-(j':Int)).toNat<(70000-(j:Int)).toNat:=by omega
    have hwH:NK w:=⟨hw,by omega⟩;have aqZ:65536*(jT l/65536^(m+1))+min j d+f<=jT l/65536^m:=by omega
    have aq0:jT w+jT k*f<=jT l/65536^m*jT k:=by
     rw[hwv,Nat.mul_comm (jT k),<-Nat.add_mul];exact Nat.mul_le_mul_right _ aqZ
    have htl:jT k*f<65536^(k.length+1):=by rw[Nat.pow_succ];exact Nat.mul_lt_mul'' hW (by omega)
    rw[show min (1024:Int) ((d:Int)-(j:Int))=(f:Int) by omega,FM _ _ hk (by omega),cc,NP _ _ hwH (NQ htl (by omega)),cc,dL,hj',j1 (by omega)];refine⟨_,Y,⟨_,j',Y,λ_ hx=>jd (by decide) hx,by omega,?_,?_⟩,hmu⟩
    ·rw[dL,hwv,Nat.mul_comm (jT k),<-Nat.add_mul];congr 1;omega
    have:=(cH (B:=65536) (by decide)).2 (Nat.lt_of_le_of_lt aq0 hAW);omega
   right;rw[show decide ((j:Int)<(d:Int))=false by rw[decide_eq_false_iff_not];omega,iy];refine⟨_,Y,w,Y,hw,?_,hwl⟩;rw[hwv,show min j d=d by omega,<-hst]
  rintro _ ⟨w,rfl,h1,h2,h3⟩;exact⟨_,Y,w,Y,h1,h2,h3⟩
 rintro _ ⟨u,rfl,hu,huv,hul⟩;rw[oB _ (by omega),cc,oz (by decide) hu,show val 65536 u=jT l*jT k from huv]
end
section
open Go.Fw
theorem td2{a:Nat}:Int.tdiv (a:Int) 2=((a/2:Nat):Int):=by
 rw[Int.tdiv_eq_ediv_of_nonneg (by omega)];omega
theorem abq(a b:Nat):decide (Dn a b<=0)=decide (a<=b):=by
 rcases Nat.lt_trichotomy a b with h|h|h
 ·rw[xU h];simp;omega
 ·rw[h,B4];simp
 rw[z6 h];simp;omega
theorem YT{B:Nat}(hB:0<B){d:Nat}(hd:0<d)(V m:Nat):(V/B^(m+1)%d*B+V/B^m%B)/d=V/d/B^m%B:=by
 have h1:=adY (B:=B) hd V m;have h2:=aa7 (B:=B) hB hd V m;rw[Nat.div_div_eq_div_mul V d,Nat.mul_comm d,<-Nat.div_div_eq_div_mul,h1,Nat.mul_add_mod];symm;apply Nat.mod_eq_of_lt;rw[Nat.div_lt_iff_lt_mul hd,Nat.mul_comm B d];exact h2
theorem Ql{a b:Nat}(h:b≠0)(ha:a<=9223372036854775807):At (a:Int) (b:Int)=some ((a/b:Nat):Int):=by
 unfold At;rw[if_neg (by omega),Int.tdiv_eq_ediv_of_nonneg (by omega),<-Int.natCast_ediv,j1 (Nat.le_trans (Nat.div_le_self _ _) ha)]
theorem Qm{a b:Nat}(h:b≠0):Ka (a:Int) (b:Int)=some ((a%b:Nat):Int):=by
 unfold Ka;rw[if_neg (by omega),Int.tmod_eq_emod_of_nonneg (by omega),<-Int.natCast_emod]
theorem YU(n:Nat):List.replicate n (0:Int)=zl (gN 65536 n 0):=by rw[y5,zl,List.map_replicate];rfl
theorem Qn{W X:Nat}(hW:0<W){k:List Nat}(hk:NK k)(hkv:jT k=W){xs:List Nat}(hx:NK xs)(hxv:jT xs=X)(H:Nat)(hH:0<H)(hH2:H<=65536)(hXH:X<H*W){R:Type}(f:Int->Option R)(r:R)(hf:f ((X/W:Nat):Int)=some r)(JS:k.length<=90000000000):
  (bX (λ(s54:Int×Int)=>
               match s54 with
               |⟨rB,wV⟩=>
                (show Option ((Int×Int)⊕(Int))from
                 (bif(decide ((1:Int)<(IntKind.i64.wrap (wV-rB))))then
                   (gG (zl k) (IntKind.i64.wrap (Int.tdiv (IntKind.i64.wrap (rB+wV)) 2))).bind λKh=>
                   (mE Kh (zl xs)).bind λKj=>
                   (bif(decide ((Kj:Int)<=0))then
                     some (.inl (IntKind.i64.wrap (Int.tdiv (IntKind.i64.wrap (rB+wV)) 2),wV))
                    else
                     some (.inl (rB,IntKind.i64.wrap (Int.tdiv (IntKind.i64.wrap (rB+wV)) 2))))
                  else
                   some (.inr rB)))) ((0:Int),(H:Int))).bind f=some r:=by
 refine fM (λs=>∃lo hi:Nat,s=((lo:Int),(hi:Int))/\lo<hi/\hi<=65536/\lo*W<=X/\X<hi*W) (λe=>e=((X/W:Nat):Int)) (λs=>(s.2-s.1).toNat) ?_ ⟨0,H,Y,hH,hH2,by simp,hXH⟩ (λe he=>by rw[he];exact hf);rintro _ ⟨lo,hi,rfl,h1,h2,h3,h4⟩;simp only[];rw[cG (x:=(hi:Int)-(lo:Int)) (by omega) (by omega)];by_cases QB:1<hi-lo
 ·left;obtain⟨mid,aq1⟩:∃mid,(lo+hi)/2=mid:=⟨_,Y⟩;have hml:jT k*mid<65536^(k.length+1):=by rw[Nat.pow_succ];exact Nat.mul_lt_mul'' (z8 hk) (by omega)
  rw[show decide ((1:Int)<(hi:Int)-(lo:Int))=true by rw[decide_eq_true_eq];omega,gV,rO (by omega),td2,aq1,j1 (by omega),FM _ _ hk (by omega),cc,NO _ _ (NQ hml (by omega)) hx,cc,abq,dL,hkv,hxv];by_cases hle:W*mid<=X
  ·rw[show decide (W*mid<=X)=true by simp[hle],gV];exact⟨_,Y,⟨mid,hi,Y,by omega,h2,by rw[Nat.mul_comm];exact hle,h4⟩,by simp only[];omega⟩
  rw[show decide (W*mid<=X)=false by simp;omega,iy];exact⟨_,Y,⟨lo,mid,Y,by omega,by omega,h3,by rw[Nat.mul_comm];omega⟩,by simp only[];omega⟩
 right;rw[show decide ((1:Int)<(hi:Int)-(lo:Int))=false by rw[decide_eq_false_iff_not];omega,iy];refine⟨_,Y,?_⟩;have:hi=lo+1:=by omega
 subst this;have:X/W=lo:=by
  rw[Nat.div_eq_iff hW];rw[Nat.add_mul,Nat.one_mul]at h4;omega
 rw[this]
theorem TL(V W:Nat)(hW:W≠0)(hV:(can 65536 V).length<=80000000000)(hWl:(can 65536 W).length<=80000000000):qD (zl (can 65536 V)) (zl (can 65536 W))=some (zl (can 65536 (V/W)),zl (can 65536 (V%W))):=by
 have wU:NK (can 65536 V):=⟨λ_ hx=>jd (by decide) hx,by omega⟩;have abr:NK (can 65536 W):=⟨λ_ hx=>jd (by decide) hx,by omega⟩;have hVl:=c6 (B:=65536) (by decide) V;have abt:=c6 (B:=65536) (by decide) W;have hW0:0<W:=by omega
 unfold qD;simp only[cc,cE,gb];obtain⟨n,hn⟩:∃n,(can 65536 V).length=n:=⟨_,Y⟩;by_cases h3:n<=3/\(can 65536 W).length<=3
 ·rw[hn,show decide ((n:Int)<=3)=true by rw[decide_eq_true_eq];omega,gV,cc,show decide (((can 65536 W).length:Int)<=3)=true by rw[decide_eq_true_eq];omega,gV,B7 _ wU.1 (by omega),cc,B7 _ abr.1 (by omega),cc,dL,dL];have hp:V<281474976710656:=by
   rw[hn]at hVl;have h2:65536^n<=65536^3:=Nat.pow_le_pow_right (by decide) h3.1;rw[show(65536:Nat)^3=281474976710656 by decide]at h2;omega
  have hq:V/W<=V:=Nat.div_le_self _ _;have hr:V%W<=V:=Nat.mod_le _ _;rw[Ql hW (by omega),cc,JI _ (by omega),cc,cc,cc,Qm hW,cc,JI _ (by omega),cc]
 have DA:(((bif decide ((n:Int)<=3)then some (decide (((can 65536 W).length:Int)<=3))else some false):Option Bool))=some false:=by
  by_cases q1:n<=3
  ·have q2:¬(can 65536 W).length<=3:=λh=>h3 ⟨q1,h⟩;rw[show decide (((can 65536 W).length:Int)<=3)=false by rw[decide_eq_false_iff_not];omega];exact EE _ _
  rw[show decide ((n:Int)<=3)=false by rw[decide_eq_false_iff_not];omega,iy]
 rw[hn]at hVl hV;have hQ:V/W<65536^n:=Nat.lt_of_le_of_lt (Nat.div_le_self _ _) hVl;rw[hn,DA,cc,iy,sV (by decide) (by omega),cc,YU];have hlen:(can 65536 W).length≠0:=λe=>hW (Ey (by decide) (List.length_eq_zero_iff.1 e));by_cases h1:(can 65536 W).length=1
 ·have hWs:W<65536:=by rw[h1]at abt;simpa using abt
  have hg0:(can 65536 W)[0]? =some W:=by rw[B0 (by decide) (by omega)];simp;exact hWs
  have hgw:=BZ (Dr hg0);rw[h1,show decide (((1:Nat):Int)=1)=true by simp,gV,cG (by omega) (by omega)];refine bH (λj=>(((V/65536^(n-j)%W:Nat):Int),(n:Int)-1-(j:Int),zl (gN 65536 n (V/W/65536^(n-j)*65536^(n-j))))) n (((V%W:Nat):Int),zl (gN 65536 n (V/W))) ?_ (λj hj=>?_) ?_ ?_
  ·rw[Nat.sub_zero,Nat.div_eq_of_lt hVl,Nat.div_eq_of_lt hQ];simp
  ·obtain⟨m,hm⟩:∃m,n=m+j+1:=⟨n-j-1,by omega⟩;have hg:(can 65536 V)[m]? =some (V/65536^m%65536):=B0 (by decide) (by omega);have Si:=YT (B:=65536) (by decide) hW0 V m;have Qc:=Yz (B:=65536) (d:=W) V m;have QD:=Nat.mod_lt (V/65536^(m+1)) hW0;have hdl:=Nat.mod_lt (V/65536^m) (show 0<65536 by decide);have hput:=NI (B:=65536) (by decide) (N:=n) (k:=m) (by omega) (V/W);rw[show n-j=m+1 by omega,show n-(j+1)=m by omega,show(n:Int)-1-(j:Int)=(m:Int) by omega,show(n:Int)-1-((j+1:Nat):Int)=(m:Int)-1 by omega];simp only[];rw[show decide ((0:Int)<=(m:Int))=true by simp,gV,bz (Dr hg),cc,hgw,cc];rw[<-Si]at hput;rw[Qc,<-hput];generalize V/65536^(m+1)%W=r at*;generalize V/65536^m%65536=d at*;rw[cG (x:=(r:Int)*65536) (by omega) (by omega),cG (x:=(r:Int)*65536+(d:Int)) (by omega) (by omega),show(r:Int)*65536+(d:Int)=((r*65536+d:Nat):Int) by omega,Ql hW (by omega),cc,cc,Qm hW,cc,b9 (by rw[gb,cf];omega),cc,dS (by rw[gb,cf];omega),cc,cG (x:=(m:Int)-1) (by omega) (by omega),YM]
  ·simp only[];rw[show decide ((0:Int)<=(n:Int)-1-(n:Int))=false by rw[decide_eq_false_iff_not];omega,iy,Nat.sub_self,Nat.pow_zero,Nat.mul_one,Nat.div_one,Nat.div_one]
  simp only[];rw[oB _ (by rw[cf];omega),cc,uC (by decide) hQ,show[((V%W:Nat):Int)]=zl [V%W]from Y,oB _ (by simp),cc];have hr:=Nat.mod_lt V hW0;rw[oz (B:=65536) (l:=[V%W]) (by decide) (by intro y hy;simp at hy;omega)];simp[val]
 rw[show decide (((can 65536 W).length:Int)=1)=false by rw[decide_eq_false_iff_not];omega,iy,cG (by omega) (by omega)];refine bH (λj=>(zl (can 65536 (V/65536^(n-j)%W)),(n:Int)-1-(j:Int),zl (gN 65536 n (V/W/65536^(n-j)*65536^(n-j))))) n (zl (can 65536 (V%W)),zl (gN 65536 n (V/W))) ?_ (λj hj=>?_) ?_ ?_
 ·rw[Nat.sub_zero,Nat.div_eq_of_lt hVl,Nat.div_eq_of_lt hQ];simp[xe,zl]
 ·obtain⟨m,hm⟩:∃m,n=m+j+1:=⟨n-j-1,by omega⟩;have hg:(can 65536 V)[m]? =some (V/65536^m%65536):=B0 (by decide) (by omega);have Si:=YT (B:=65536) (by decide) hW0 V m;have Qc:=Yz (B:=65536) (d:=W) V m;have QD:=Nat.mod_lt (V/65536^(m+1)) hW0;have hdl:=Nat.mod_lt (V/65536^m) (show 0<65536 by decide);have hXW:=aa7 (B:=65536) (by decide) hW0 V m;have hput:=NI (B:=65536) (by decide) (N:=n) (k:=m) (by omega) (V/W);rw[show n-j=m+1 by omega,show n-(j+1)=m by omega,show(n:Int)-1-(j:Int)=(m:Int) by omega,show(n:Int)-1-((j+1:Nat):Int)=(m:Int)-1 by omega];simp only[];rw[<-Si]at hput;rw[Qc,<-hput,show decide ((0:Int)<=(m:Int))=true by simp,gV,bz (Dr hg),cc];generalize V/65536^(m+1)%W=r at*;generalize V/65536^m%65536=d at*;obtain⟨X,hX⟩:∃X,r*65536+d=X:=⟨_,Y⟩;rw[hX]at hXW⊢;have hrc:(can 65536 r).length<=(can 65536 W).length:=(cH (by decide)).2 (Nat.lt_trans QD abt);have hxl:(can 65536 X).length<=(can 65536 W).length+1:=(cH (by decide)).2 (by rw[Nat.pow_succ];exact Nat.lt_trans hXW (Nat.mul_lt_mul_of_pos_right abt (by decide)));have hval:val 65536 (d::can 65536 r)=X:=by
   show d+65536*val 65536 (can 65536 r)=X;rw[oU (by decide)];omega
  have uS:NK (can 65536 X):=⟨λ_ hx=>jd (by decide) hx,by omega⟩;rw[Yu (by decide) (by rw[gb];simp;omega),cc,show[(d:Int)]++zl (can 65536 r)=zl (d::can 65536 r)from rfl,oB _ (by simp;omega),cc,oz (B:=65536) (by decide) (by intro y hy;simp at hy;rcases hy with rfl|hy;exact hdl;exact jd (by decide) hy),hval];have hqW:W*(X/W)<=X:=Nat.mul_div_le X W;have aq2:X/W<65536:=by rw[Nat.div_lt_iff_lt_mul hW0,Nat.mul_comm];exact hXW
  have YI:((gG (zl (can 65536 W)) ((X/W:Nat):Int)).bind λQ8=>(jz (zl (can 65536 X)) Q8).bind λXt=>(kW (zl (gN 65536 n (V/W/65536^(m+1)*65536^(m+1)))) (m:Int)).bind λaaI=>(stM (zl (gN 65536 n (V/W/65536^(m+1)*65536^(m+1)))) aaI ((X/W:Nat):Int)).bind λl58=>(some (.inl (Xt,IntKind.i64.wrap ((m:Int)-1),l58)):Option ((List Int×Int×List Int)⊕(List Int×List Int))))=some (.inl (zl (can 65536 (X%W)),(m:Int)-1,zl ((gN 65536 n (V/W/65536^(m+1)*65536^(m+1))).set m (X/W)))):=by
   rw[FM _ _ abr aq2,cc,dL,HC _ _ uS (NQ (Nat.lt_of_le_of_lt hqW (c6 (by decide) X)) (by omega)) (by rw[dL,dL];exact hqW),cc,dL,dL,b9 (by rw[gb,cf];omega),cc,dS (by rw[gb,cf];omega),cc,cG (x:=(m:Int)-1) (by omega) (by omega),YM,<-Nat.mod_eq_sub_mul_div]
  rw[gb];by_cases hsh:(can 65536 X).length<(can 65536 W).length
  ·rw[show decide (((can 65536 X).length:Int)<((can 65536 W).length:Int))=true by rw[decide_eq_true_eq];omega,gV];exact Qn hW0 abr (dL W) uS (dL X) 1 (by decide) (by decide) (by rw[Nat.one_mul];exact Dp (by decide) hsh) _ _ YI (by omega)
  rw[show decide (((can 65536 X).length:Int)<((can 65536 W).length:Int))=false by rw[decide_eq_false_iff_not];omega,iy];exact Qn hW0 abr (dL W) uS (dL X) 65536 (by decide) (by decide) (by rw[Nat.mul_comm];exact hXW) _ _ YI (by omega)
 ·simp only[];rw[show decide ((0:Int)<=(n:Int)-1-(n:Int))=false by rw[decide_eq_false_iff_not];omega,iy,Nat.sub_self,Nat.pow_zero,Nat.mul_one,Nat.div_one,Nat.div_one]
 simp only[];rw[oB _ (by rw[cf];omega),cc,uC (by decide) hQ]
end
section
open Go.Fw
theorem EH{v:Nat}:(can 65536 v).length=0↔v=0:=by
 constructor
 ·intro h;exact Ey (by decide) (List.length_eq_zero_iff.1 h)
 intro h;rw[h,xe];rfl
theorem Ds{v:Nat}(h:(can 65536 v).length<=100000000000):NK (can 65536 v):=⟨λ_ hx=>jd (by decide) hx,h⟩
theorem EI{x:Zr}(h:Wl x):fV x=some (zi x).sign:=by
 unfold fV;simp only[iZ h,cc,gb];have hz:=EH (v:=(zi x).natAbs);have hneg:x.neg=true->zi x<=0:=λe=>by unfold zi;rw[e];simp[sv]
 have hpos:x.neg=false->0<=zi x:=λe=>by unfold zi;rw[e];simp[sv]
 by_cases h0:zi x=0
 ·rw[h0];rfl
 rw[show decide (((can 65536 (zi x).natAbs).length:Int)=0)=false by rw[decide_eq_false_iff_not];omega,iy];cases hn:x.neg
 ·have:=hpos hn;rw[iy,Int.sign_eq_one_of_pos (by omega)]
 have:=hneg hn;rw[gV,Int.sign_eq_neg_one_of_neg (by omega)]
theorem abv{x y:Zr}(hx:Wl x)(hy:Wl y):uh x y=some (qm (zi x) (zi y)):=by
 have cx:=hx.U4;have cy:=hy.U4;unfold uh;simp only[zeta',EI hx,EI hy,cc,iZ hx,iZ hy];rw[NO _ _ (Ds (by omega)) (Ds (by omega)),dL,dL];simp only[cc];generalize zi x=i;generalize zi y=j;rw[JE];rcases Int.lt_trichotomy i 0 with h1|h1|h1<;>rcases Int.lt_trichotomy j 0 with h2|h2|h2
 ·rw[Int.sign_eq_neg_one_of_neg h1,Int.sign_eq_neg_one_of_neg h2,show(i.natAbs:Int)=-i by omega,show(j.natAbs:Int)=-j by omega,Qe];show some (IntKind.i64.wrap (0-qm j i))=_;rw[U5]
 ·rw[Int.sign_eq_neg_one_of_neg h1,show Int.sign j=0 by rw[h2];rfl,show qm i j=-1 from lH (by omega)];rfl
 ·rw[Int.sign_eq_neg_one_of_neg h1,Int.sign_eq_one_of_pos h2,show qm i j=-1 from lH (by omega)];rfl
 ·rw[show Int.sign i=0 by rw[h1];rfl,Int.sign_eq_neg_one_of_neg h2,show qm i j=1 from lI (by omega)];rfl
 ·rw[h1,h2];rfl
 ·rw[show Int.sign i=0 by rw[h1];rfl,Int.sign_eq_one_of_pos h2,show qm i j=-1 from lH (by omega)];rfl
 ·rw[Int.sign_eq_one_of_pos h1,Int.sign_eq_neg_one_of_neg h2,show qm i j=1 from lI (by omega)];rfl
 ·rw[Int.sign_eq_one_of_pos h1,show Int.sign j=0 by rw[h2];rfl,show qm i j=1 from lI (by omega)];rfl
 rw[Int.sign_eq_one_of_pos h1,Int.sign_eq_one_of_pos h2,show(i.natAbs:Int)=i by omega,show(j.natAbs:Int)=j by omega];rfl
theorem svz(x:Zr):sv x.neg (zi x).natAbs=zi x:=by rw[BA];rfl
theorem TM{x:Zr}(hx:Wl x):qE x=some (zn (-zi x)):=by
 have cx:=hx.U4;unfold qE;simp only[cc,iZ hx];rw[uV _ _ (by omega),cc,JD,svz]
theorem abw{x:Zr}(hx:Wl x):uj x=some (zn ((zi x).natAbs:Int)):=by
 have cx:=hx.U4;unfold uj;simp only[cc,iZ hx];rw[uV _ _ (by omega),cc,oA]
theorem abx{x y:Zr}(hx:Wl x)(hy:Wl y):uo x y=some (zn (zi x+zi y)):=by
 have cx:=hx.U4;have cy:=hy.U4;unfold uo;simp only[cc,iZ hx,iZ hy];have ex:=svz x;have ey:=svz y;generalize (zi x).natAbs=a at*;generalize (zi y).natAbs=b at*;have la:=c6 (B:=65536) (by decide) a;have lb:=c6 (B:=65536) (by decide) b;rw[<-ex,<-ey];generalize x.neg=n;generalize y.neg=m;by_cases hnm:n=m
 ·subst hnm;have hl:(can 65536 (a+b)).length<=max (can 65536 a).length (can 65536 b).length+1:=by
   apply(cH (by decide)).2;have h1:a<65536^max (can 65536 a).length (can 65536 b).length:=Nat.lt_of_lt_of_le la (Nat.pow_le_pow_right (by decide) (by omega));have h2:b<65536^max (can 65536 a).length (can 65536 b).length:=Nat.lt_of_lt_of_le lb (Nat.pow_le_pow_right (by decide) (by omega));rw[Nat.pow_succ];omega
  rw[show(n==n)=true by simp,gV,NP _ _ (Ds (by omega)) (Ds (by omega)),cc,dL,dL,uV _ _ (by omega),cc,show sv n (a+b)=sv n a+sv n b by cases n<;>simp[sv];omega]
 have hm:m= !n:=by cases n<;>cases m<;>simp_all
 subst hm;rw[show(n== !n)=false by cases n<;>rfl,iy,NO _ _ (Ds (by omega)) (Ds (by omega)),cc,dL,dL];by_cases hlt:b<=a
 ·have hc:decide ((0:Int)<=Dn a b)=true:=by
   rw[decide_eq_true_eq];rcases Nat.lt_or_ge b a with h|h
   ·rw[z6 h];decide
   rw[show a=b by omega,B4];decide
  have hl:(can 65536 (a-b)).length<=(can 65536 a).length:=(cH (by decide)).2 (by omega);rw[hc,gV,HC _ _ (Ds (by omega)) (Ds (by omega)) (by rw[dL,dL];exact hlt),cc,dL,dL,uV _ _ (by omega),cc,show sv n (a-b)=sv n a+sv (!n) b by cases n<;>simp[sv]<;>omega]
 have hc:decide ((0:Int)<=Dn a b)=false:=by rw[xU (by omega)];decide
 have hl:(can 65536 (b-a)).length<=(can 65536 b).length:=(cH (by decide)).2 (by omega);rw[hc,iy,HC _ _ (Ds (by omega)) (Ds (by omega)) (by rw[dL,dL];omega),cc,dL,dL,uV _ _ (by omega),cc,show sv (!n) (b-a)=sv n a+sv (!n) b by cases n<;>simp[sv]<;>omega]
theorem EJ{x y:Zr}(hx:Wl x)(hy:Wl y):kE x y=some (zn (zi x*zi y)):=by
 have cx:=hx.U4;have cy:=hy.U4;unfold kE;simp only[cc,iZ hx,iZ hy];have ex:=svz x;have ey:=svz y;generalize (zi x).natAbs=a at*;generalize (zi y).natAbs=b at*;have la:=c6 (B:=65536) (by decide) a;have lb:=c6 (B:=65536) (by decide) b;have hl:(can 65536 (a*b)).length<=(can 65536 a).length+(can 65536 b).length:=by
  apply(cH (by decide)).2;rw[Nat.pow_add];exact Nat.mul_lt_mul'' la lb
 rw[abp _ _ (Ds (by omega)) (Ds (by omega)) (by omega),cc,dL,dL,uV _ _ (by omega),cc,So,ex,ey]
theorem TN{x y:Zr}(hx:Wl x)(hy:Wl y):qF x y=some (Qf (zi x) (zi y)):=by
 have cx:=hx.U4;have cy:=hy.U4;unfold qF;simp only[cc,cE,iZ hx,iZ hy,gb];have ex:=svz x;have ey:=svz y;generalize (zi x).natAbs=a at*;generalize (zi y).natAbs=b at*;rw[<-ex,<-ey];generalize x.neg=n;generalize y.neg=m;by_cases h0:b=0
 ·subst h0;rw[show sv m 0=0 by cases m<;>rfl];rfl
 have Cu:(can 65536 b).length≠0:=λh=>h0 (EH.1 h);have hm:a%b<b:=Nat.mod_lt _ (by omega);have la:=c6 (B:=65536) (by decide) a;have lb:=c6 (B:=65536) (by decide) b;obtain⟨e1,e2⟩:=YK n m (a:=a) (show 0<b by omega);have hj:sv m b≠0:=by cases m<;>simp[sv]<;>omega
 have hq:(can 65536 (a/b)).length<=(can 65536 a).length:=(cH (by decide)).2 (Nat.lt_of_le_of_lt (Nat.div_le_self _ _) la);have hr:(can 65536 (a%b)).length<=(can 65536 b).length:=(cH (by decide)).2 (Nat.lt_trans hm lb);rw[show decide (((can 65536 b).length:Int)=0)=false by rw[decide_eq_false_iff_not];omega,iy,TL a b h0 (by omega) (by omega),cc,Qf,if_neg hj,e1,e2];simp only[gb];have hz:=EH (v:=a%b);have hK:∀c:Bool,(decide (n=true/\0<a%b)=c)->(bif c then(kD (zl (can 65536 (a/b))) [1]).bind λuG=>(jz (zl (can 65536 b)) (zl (can 65536 (a%b)))).bind λnk=>(ef (!(n==m)) uG).bind λx=>(ef false nk).bind λx_1=>some ((⟨x.neg,x.w⟩:Zr),(⟨x_1.neg,x_1.w⟩:Zr),(0:Int))
   else(ef (!(n==m)) (zl (can 65536 (a/b)))).bind λx=>(ef false (zl (can 65536 (a%b)))).bind λx_1=>some ((⟨x.neg,x.w⟩:Zr),(⟨x_1.neg,x_1.w⟩:Zr),(0:Int)))=
   some (zn (if n=true/\0<a%b then sv (!(n==m)) (a/b+1)else sv (!(n==m)) (a/b)),zn (if n=true/\0<a%b then((b-a%b:Nat):Int)else((a%b:Nat):Int)),0):=by
  intro c hc;cases c
  ·have YL:=of_decide_eq_false hc;rw[iy,if_neg YL,if_neg YL,uV _ _ (by omega),cc,uV _ _ (by omega),cc,oA]
  have YL:=of_decide_eq_true hc;have hq1:(can 65536 (a/b+1)).length<=(can 65536 a).length+1:=by
   apply(cH (by decide)).2;have:a/b<=a:=Nat.div_le_self _ _;rw[Nat.pow_succ];omega
  have hbr:(can 65536 (b-a%b)).length<=(can 65536 b).length:=(cH (by decide)).2 (by omega);rw[gV,if_pos YL,if_pos YL,show[(1:Int)]=zl [1]from Y,NP _ _ (Ds (by omega)) ⟨by simp,by simp⟩,cc,dL,show jT [1]=1 by decide,HC _ _ (Ds (by omega)) (Ds (by omega)) (by rw[dL,dL];omega),cc,dL,dL,uV _ _ (by omega),cc,uV _ _ (by omega),cc,oA]
 cases n
 ·rw[iy,cc];exact hK false (by simp)
 rw[gV,cc];refine hK _ ?_;simp only[true_and];by_cases h:0<a%b
 ·rw[show decide (0<a%b)=true by simp[h],show decide ((0:Int)<((can 65536 (a%b)).length:Int))=true by rw[decide_eq_true_eq];omega]
 rw[show decide (0<a%b)=false by simp[h],show decide ((0:Int)<((can 65536 (a%b)).length:Int))=false by rw[decide_eq_false_iff_not];omega]
end
section
open Go.Fw
theorem aby{x y:Zr}(hx:Wl x)(hy:Wl y):ur x y=some (zn (Int.gcd (zi x) (zi y):Int)):=by
 have cx:=hx.U4;have cy:=hy.U4;unfold ur;simp only[cc,iZ hx,iZ hy];rw[Int.gcd];generalize (zi x).natAbs=a at*;generalize (zi y).natAbs=b at*;refine fM (λs=>∃c d,s=(zl (can 65536 c),zl (can 65536 d))/\Nat.gcd c d=Nat.gcd a b/\(can 65536 c).length<=20000000000/\(can 65536 d).length<=20000000000)
  (λe=>e=zl (can 65536 (Nat.gcd a b))/\(can 65536 (Nat.gcd a b)).length<=20000000000) (λs=>val 65536 (s.2.map Int.toNat)) ?_ ⟨a,b,Y,Y,cx,cy⟩ ?_
 ·rintro _ ⟨c,d,rfl,hg,hc,hd⟩;simp only[gb];have hzl:∀l:List Nat,(zl l).map Int.toNat=l:=λl=>by
   rw[zl,List.map_map];have:(Int.toNat∘λ(n:Nat)=>(n:Int))=id:=by funext n;simp
   rw[this,List.map_id]
  by_cases h0:d=0
  ·right;subst h0;rw[Nat.gcd_zero_right]at hg;subst hg;exact⟨_,Y,Y,hc⟩
  left;have Cu:(can 65536 d).length≠0:=λh=>h0 (EH.1 h);have hm:c%d<d:=Nat.mod_lt _ (by omega);rw[show decide ((0:Int)<((can 65536 d).length:Int))=true by rw[decide_eq_true_eq];omega,gV,TL c d h0 (by omega) (by omega),cc];refine⟨_,Y,⟨d,c%d,Y,?_,hd,?_⟩,?_⟩
  ·rw[<-hg,Nat.gcd_comm d,<-Nat.gcd_rec,Nat.gcd_comm]
  ·exact Nat.le_trans ((cH (by decide)).2 (Nat.lt_trans hm (c6 (by decide) d))) hd
  simp only[];rw[hzl,hzl,oU (by decide),oU (by decide)];exact hm
 rintro _ ⟨rfl,hl⟩;rw[uV _ _ (by omega),cc,oA]
end
section
open Go.Fw
theorem TO:qG=some (zn 1):=by
 unfold qG;simp only[zeta',cc,from_eq (x:=1) (by decide)]
section ops
variable {L M:Nat}{a b:Qr}{x y:Rat}
theorem qN(h:kQ L a x)(hL:L<=10000000000):∃n d:Int,gQ a=some (zn n)/\gh a=some (zn d)/\0<d/\Rat.divInt n d=x/\Fit L n/\Fit L d:=by
 have wn:=h.wn hL;have wd:=h.wd hL;have hv:=h.v;unfold gQ gh;simp only[zeta',cc,EI wd,TO,TM wn,abw wd,Qh wn];unfold qv qd at hv;rcases Int.lt_trichotomy (zi a.den) 0 with h1|h1|h1
 ·refine⟨-zi a.num,-zi a.den,?_,?_,by omega,?_,h.fn.neg,h.fd.neg⟩
  ·rw[Int.sign_eq_neg_one_of_neg h1];rfl
  ·rw[Int.sign_eq_neg_one_of_neg h1,show((zi a.den).natAbs:Int)=-zi a.den by omega];rfl
  rw[Rat.neg_divInt_neg,<-hv,if_neg (by omega)]
 ·refine⟨zi a.num,1,?_,?_,by decide,?_,h.fn,B5 h.l1⟩
  ·rw[h1];rfl
  ·rw[h1];rfl
  rw[<-hv,if_pos h1]
 refine⟨zi a.num,zi a.den,?_,?_,h1,?_,h.fn,h.fd⟩
 ·rw[Int.sign_eq_one_of_pos h1];rfl
 ·rw[Int.sign_eq_one_of_pos h1,show((zi a.den).natAbs:Int)=zi a.den by omega];rfl
 rw[<-hv,if_neg (by omega)]
theorem HD{n d:Int}(hn:Fit L n)(hd:Fit L d)(hL:L<=10000000000)(h:0<d):kF (zn n) (zn d)=some (qn (Rat.divInt n d)):=by
 have wn:=gA hn hL;have wd:=gA hd hL;have g0:(Int.gcd n d:Int)≠0:=by
  have:0<Int.gcd n d:=Int.gcd_pos_of_ne_zero_right _ (by omega);omega
 have wg:Wl (zn (Int.gcd n d:Int)):=gA (hd.le (by
  have:=Nat.le_of_dvd (Int.natAbs_pos.2 (show d≠0 by omega)) (Int.gcd_dvd_natAbs_right n d);simpa using this)) hL
 have wq:Wl (zn (d/(Int.gcd n d:Int))):=gA (hd.le (Int.natAbs_ediv_le_natAbs _ _)) hL;have one:gB 1:=by decide
 unfold kF;simp only[zeta',cc,aby wn wd,TN wn wg,TN wd wg,TO,gz];rw[Qf,if_neg g0,Qf,if_neg g0];simp only[];rw[abv wq (YN one),cc,gz,gz,FL h];by_cases e:d/(Int.gcd n d:Int)=1
 ·rw[e,vX,if_pos rfl];rfl
 have:qm (d/(Int.gcd n d:Int)) 1≠0:=by
  rcases Int.lt_trichotomy (d/(Int.gcd n d:Int)) 1 with q|q|q
  ·rw[lH q];decide
  ·exact absurd q e
  rw[lI q];decide
 rw[decide_eq_false this,iy,if_neg e]
theorem kQ.YV(ha:kQ L a x)(h:L<=10000000000):nu a=some (qn x):=by
 obtain⟨n,d,e1,e2,h1,h2,f1,f2⟩:=qN ha h;unfold nu;simp only[zeta',rR,pH,e1,e2,cc,HD f1 f2 h h1,h2]
theorem ag6(h1:a.num.w.length<=100000000000)(h2:a.den.w.length<=100000000000):∃c,wX a b=some c/\(c=true↔a=b):=by
 obtain⟨c1,e1,k1⟩:=TG (x:=a.num) (y:=b.num) h1;obtain⟨c2,e2,k2⟩:=TG (x:=a.den) (y:=b.den) h2;unfold wX;simp only[zeta',cc,cE,e1,e2];have hab:a=b↔a.num=b.num/\a.den=b.den:=by
  constructor
  ·rintro rfl;exact⟨rfl,rfl⟩
  rintro⟨e1,e2⟩;rw[<-pH a,<-pH b,e1,e2]
 rw[hab,<-k1,<-k2];cases c1
 ·exact⟨false,Y,by simp⟩
 exact⟨c2,Y,by simp⟩
theorem EK{n:Int}(hn:gB n):iL n=some (qn (n:Rat)):=by
 unfold iL;simp only[zeta',cc,from_eq hn];rw[YQ]
theorem kQ.ag7(ha:kQ L a x)(h:L<=10000000000):oh a=some (qn (-x)):=by
 obtain⟨n,d,e1,e2,h1,h2,f1,f2⟩:=qN ha h;unfold oh;simp only[zeta',rR,pH,e1,e2,cc,TM (gA f1 h),gz,HD f1.neg f2 h h1];rw[<-Rat.neg_divInt,h2]
theorem kQ.abz(ha:kQ L a x)(hb:kQ M b y)(h:L+M<=4000000000):mF a b=some (qn (x+y)):=by
 obtain⟨n,d,e1,e2,h1,h2,f1,f2⟩:=qN ha (by omega);obtain⟨m,c,e3,e4,h3,h4,f3,f4⟩:=qN hb (by omega);unfold mF;have u1:=(f1.mul f4);have u2:=(f3.mul f2).mono (show M+L<=L+M by omega);simp only[zeta',rR,pH,e1,e2,e3,e4,cc,EJ (gA f1 (by omega)) (gA f4 (by omega)),EJ (gA f3 (by omega)) (gA f2 (by omega)),gz,abx (gA u1 (by omega)) (gA u2 (by omega)),EJ (gA f2 (by omega)) (gA f4 (by omega)),HD (u1.add u2) ((f2.mul f4).mono (by omega)) (show L+M+1<=10000000000 by omega) (Int.mul_pos h1 h3)];rw[<-h2,<-h4,Rat.divInt_add_divInt _ _ (by omega) (by omega)]
theorem kQ.aq3(ha:kQ L a x)(hb:kQ M b y)(h:L+M<=4000000000):uu a b=some (qn (x-y)):=by
 unfold uu;have r:kQ M (qn (-y)) (-y):=hb.fq.neg.rep hb.l1;simp only[zeta',rR,pH,hb.ag7 (by omega),cc,ha.abz r h];rw[<-Rat.sub_eq_add_neg]
theorem kQ.YW(ha:kQ L a x)(hb:kQ M b y)(h:L+M<=4000000000):kG a b=some (qn (x*y)):=by
 obtain⟨n,d,e1,e2,h1,h2,f1,f2⟩:=qN ha (by omega);obtain⟨m,c,e3,e4,h3,h4,f3,f4⟩:=qN hb (by omega);unfold kG;simp only[zeta',rR,pH,e1,e2,e3,e4,cc,EJ (gA f1 (by omega)) (gA f3 (by omega)),gz,EJ (gA f2 (by omega)) (gA f4 (by omega)),HD (f1.mul f3) (f2.mul f4) (show L+M<=10000000000 by omega) (Int.mul_pos h1 h3)];rw[<-h2,<-h4,Rat.divInt_mul_divInt]
theorem kQ.TP(ha:kQ L a x)(h:L<=10000000000):kH a=some (oV x 0):=by
 obtain⟨n,d,e1,e2,h1,h2,f1,f2⟩:=qN ha h;unfold kH;simp only[zeta',rR,pH,e1,cc,EI (gA f1 h),gz];rw[<-h2,<-xV h1]
theorem YX(x y:Rat):oV (x-y) 0=oV x y:=by
 unfold oV;by_cases h:x<y
 ·rw[if_pos h,if_pos (by grind)]
 rw[if_neg h,if_neg (by grind)];by_cases h2:x=y
 ·rw[if_pos h2,if_pos (by grind)]
 rw[if_neg h2,if_neg (by grind)]
theorem kQ.aq4(ha:kQ L a x)(hb:kQ M b y)(h:L+M<=4000000000):ux a b=some (oV x y):=by
 unfold ux;have r:kQ (L+M+1) (qn (x-y)) (x-y):=(ha.fq.sub hb.fq).rep (by omega);simp only[zeta',rR,pH,ha.aq3 hb h,cc,r.TP (by omega),YX]
theorem kQ.aq5(ha:kQ L a x)(hb:kQ M b y)(h:L+M<=4000000000)(h0:y≠0):uw a b=some (qn (x/y),0):=by
 obtain⟨m,c,e3,e4,h3,h4,f3,f4⟩:=qN hb (by omega);have hm:m≠0:=λe=>h0 (by rw[<-h4,e,Rat.zero_divInt]);have rp:=YR hm f4 f3 hb.l1;have r:=rp.fq.rep hb.l1;unfold uw;simp only[zeta',rR,pH,hb.TP (show M<=10000000000 by omega),e3,e4,cc,rp.YV (show M<=10000000000 by omega),ha.YW r h];rw[decide_eq_false (λe=>h0 (oW.1 e)),iy,Rat.div_def,<-h4,Rat.inv_divInt]
end ops
end
section
open Go.Fw
theorem bW{J R:Type}{f:J->Option R}{g:(J->Option R)->Option R}{r:Option R}(h:g f=r):cE f g=r:=h
theorem xX{J R:Type}(f:J->Option R)(g:(J->Option R)->Option R):cE f g=g f:=rfl
section ops
variable {K L M:Nat}{c:Qr}{a b:List Qr}{k:Rat}{f g:Nat->Rat}
theorem Qo(ha:ek L a f)(h:L<=10000000000)(m:Nat)(hm:m<=65536){body:Int×List Qr->Option ((Int×List Qr)⊕List Qr)}
  (hb:∀s,body s=(some (decide (s.1<((min a.length m:Nat):Int)))).bind λeX=>(bif eX then(cL a s.1).bind λq=>(dQ q).bind λw=>(kW s.2 s.1).bind λiO=>(stM s.2 iO w).bind λDH=>(some (IntKind.i64.wrap (s.1+1))).bind λkT=>some (.inl (kT,DH))else some (.inr s.2))):
  (bX body (0,List.replicate m qz)).bind (λr=>some r)=some (vq m f):=by
 refine bH (λj=>((j:Int),vq j f++List.replicate (m-j) qz)) (min a.length m) (vq m f) Y (λj hj=>?_) ?_ Y
 ·obtain⟨q,hq,rq⟩:=ha.get (show j<a.length by omega);rw[hb];refine aB Y<|bO (decide_eq_true (by show(j:Int)<_;omega))<|aB (bz hq)<|aB (rq.canon h).1<|aB (b9 (by rw[z7 (by omega)];omega))<|aB (dS (by rw[z7 (by omega)];omega))<|aB Y ?_;rw[NN (by omega),bM (by omega)]
 rw[hb];refine aB Y<|bG (decide_eq_false (by show ¬((min a.length m:Nat):Int)<_;omega)) ?_;rw[ag3 (by omega) (λi h1 h2=>ha.z i (by omega))]
theorem TQ(ha:ek L a f)(h:L<=10000000000)(la:a.length<=1000000)(n:Int):mP a n=some (vq (min n 65536).toNat f):=by
 unfold mP;refine aB Y ?_;by_cases hn:n<1
 ·refine bO (decide_eq_true hn) ?_;rw[show(min n 65536).toNat=0 by omega];rfl
 refine bG (decide_eq_false hn) ?_;obtain⟨m,hm⟩:∃m:Nat,min n 65536=(m:Int):=⟨(min n 65536).toNat,by omega⟩;rw[hm];refine aB Y<|aB (sV (by omega) (by omega))<|aB Y<|aB Y<|aB (congrArg some (abo a _)) ?_;rw[List.length_replicate];refine Qo ha h m (by omega) (λs=>?_);obtain⟨i,l⟩:=s;rfl
theorem EM{l:List Int}(hl:∀x∈l,gB x)(h:l.length<=1000000):dR l=some (vq l.length λi=>((l.getD i 0:Int):Rat))/\ek 2 (vq l.length λi=>((l.getD i 0:Int):Rat)) (λi=>((l.getD i 0:Int):Rat)):=by
 have hx:∀i,gB (l.getD i 0):=λi=>by
  by_cases hi:i<l.length
  ·rw[List.getD_eq_getElem?_getD,List.getElem?_eq_getElem hi];exact hl _ (List.getElem_mem hi)
  rw[List.getD_eq_getElem?_getD,List.getElem?_eq_none (by omega)];decide
 refine⟨?_,qo (λi _=>(kR (hx i)).2.fq) (λi hi=>?_) (by decide)⟩
 ·unfold dR;refine aB Y<|aB (sV (by omega) (by omega))<|aB Y ?_;refine bH (λj=>((j:Int),vq j (λi=>((l.getD i 0:Int):Rat))++List.replicate (l.length-j) qz)) l.length (vq l.length λi=>((l.getD i 0:Int):Rat)) Y (λj hj=>?_) ?_ Y
  ·have e3:=(kR (hx j)).1;have h4:=NN (h:=λi=>((l.getD i 0:Int):Rat)) hj;obtain⟨q3,h3⟩:∃q,qn ((l.getD j 0:Int):Rat)=q:=⟨_,Y⟩;rw[h3]at e3 h4;obtain⟨⟨_,_⟩,⟨_,_⟩⟩:=q3;refine aB Y<|bO (decide_eq_true (by omega))<|aB (bz (jF hj))<|aB e3<|aB (b9 (by rw[z7 (by omega)];exact hj))<|aB (dS (by rw[z7 (by omega)];exact hj))<|aB Y ?_;rw[bM (by omega),h4]
  refine aB Y<|bG (decide_eq_false (by omega)) ?_;simp
 show((l.getD i 0:Int):Rat)=0;rw[mB hi];rfl
theorem Qp(m:Nat)(k:Int)(hk:0<=k->k<m):ek 1 (vq m λi=>if(i:Int)=k then 1 else 0) (λi=>if(i:Int)=k then 1 else 0):=by
 refine qo (λi _=>?_) (λi hi=>?_) (by omega)
 ·show FQ 1 (if(i:Int)=k then 1 else 0);split
  ·exact FQ.int (i:=1) (B5 (by omega)) (by omega)
  exact nN (by omega)
 show(if(i:Int)=k then(1:Rat)else 0)=0;rw[if_neg (by omega)]
theorem BC(a:List Qr)(i:Nat):g9 a (i:Int)=some (a.getD i (⟨⟨false,[]⟩,⟨false,[]⟩⟩:Qr)):=by
 unfold g9;rw[xX];refine aB Y<|aB (a:=decide ((i:Int)<(a.length:Int))) ?_ ?_
 ·exact bO (decide_eq_true (show(0:Int)<=(i:Int) by omega)) Y
 by_cases h:i<a.length
 ·refine bO (decide_eq_true (by omega)) ?_;have:=jF (l:=a) (d:=(⟨⟨false,[]⟩,⟨false,[]⟩⟩:Qr)) h;generalize a.getD i (⟨⟨false,[]⟩,⟨false,[]⟩⟩:Qr)=q at this⊢;obtain⟨⟨_,_⟩,⟨_,_⟩⟩:=q;exact aB (bz this) Y
 refine bG (decide_eq_false (by omega)) ?_;rw[mB (by omega)]
theorem abA{a:List Qr}(h:∀q∈a,q.num.w.length<=100000000000/\q.den.w.length<=100000000000)(hl:a.length<=100000000000):k8 a a=some true:=by
 unfold k8;refine aB Y<|aB Y<|aB Y<|bG (decide_eq_false (by simp)) ?_;refine bH (λj=>(j:Int)) a.length (.inl ()) Y (λj hj=>?_) ?_ Y
 ·have hq:=List.getElem?_eq_getElem hj;have hm:=h _ (List.getElem_mem hj);generalize a[j]=q at hq hm;obtain⟨c,e,k⟩:=ag6 (a:=q) (b:=q) hm.1 hm.2;rw[k.2 rfl]at e;obtain⟨⟨_,_⟩,⟨_,_⟩⟩:=q;refine aB Y<|aB Y<|bO (decide_eq_true (by omega))<|aB (bz hq)<|aB (bz hq)<|aB e<|aB Y<|bG Y<|aB Y ?_;rw[bM (by omega)]
 exact aB Y<|aB Y<|bG (decide_eq_false (by omega)) Y
theorem ek.ris(ha:ek L a f)(h:L<=100000000000)(hl:a.length<=100000000000):k8 a a=some true:=by
 refine abA (λq hq=>?_) hl;obtain⟨i,hi,rfl⟩:=List.mem_iff_getElem.1 hq;have:=ha.e i hi;exact⟨Nat.le_trans this.ln h,Nat.le_trans this.ld h⟩
theorem JJ{α β:Type}(a:List α)(b:List β)(j:Nat):((bif decide ((j:Int)<(a.length:Int))then some true else(some (b.length:Int)).bind λfB=>(some (decide ((j:Int)<fB))).bind λdX=>some dX):Option Bool)=some (decide (j<max a.length b.length)):=by
 rw[cc,cc];by_cases h:j<a.length
 ·rw[decide_eq_true (show(j:Int)<a.length by omega),gV,decide_eq_true (by omega)]
 rw[decide_eq_false (show ¬(j:Int)<a.length by omega),iy];by_cases h':j<b.length
 ·rw[decide_eq_true (show(j:Int)<b.length by omega),decide_eq_true (by omega)]
 rw[decide_eq_false (show ¬(j:Int)<b.length by omega),decide_eq_false (by omega)]
theorem TS(hc:kQ K c k)(ha:ek L a f)(hb:ek M b g)(h:K+L+M<=4000000000)(la:a.length<=1000000)(lb:b.length<=1000000):gR c a b=some (vq (max a.length b.length) λi=>k*f i+g i):=by
 unfold gR;obtain⟨⟨_,_⟩,⟨_,_⟩⟩:=c;refine bH (λj=>((j:Int),vq j (λi=>k*f i+g i))) (max a.length b.length) (vq (max a.length b.length) λi=>k*f i+g i) Y (λj hj=>?_) ?_ Y
 ·refine aB (JJ a b j) ?_;refine bO (decide_eq_true hj) ?_;have a1:=BC a j;have a2:=BC b j;have e1:=hc.YW (ha.gd j) (by omega);have e3:=((hc.mul (ha.gd j) (by omega)).2.abz (hb.gd j) (by omega));generalize a.getD j (⟨⟨false,[]⟩,⟨false,[]⟩⟩:Qr)=q1 at e1 a1;generalize b.getD j (⟨⟨false,[]⟩,⟨false,[]⟩⟩:Qr)=q2 at e3 a2;obtain⟨⟨_,_⟩,⟨_,_⟩⟩:=q1;obtain⟨⟨_,_⟩,⟨_,_⟩⟩:=q2;generalize qn (k*f j)=q4 at e1 e3;obtain⟨⟨_,_⟩,⟨_,_⟩⟩:=q4;obtain⟨q3,h3⟩:∃q,qn (k*f j+g j)=q:=⟨_,Y⟩;rw[mY,h3];rw[h3]at e3;obtain⟨⟨_,_⟩,⟨_,_⟩⟩:=q3;refine aB a1<|aB e1<|aB a2<|aB e3<|aB (nQ (by omega) (by rw[bY];omega))<|aB Y ?_;rw[bM (by omega)]
 refine aB (JJ a b _) ?_;exact bG (decide_eq_false (by omega)) Y
theorem YY(ha:ek L a f)(hb:ek M b g)(h:L+M+2<=4000000000)(la:a.length<=1000000)(lb:b.length<=1000000):qH a b=some (vq (max a.length b.length) λi=>f i-g i):=by
 unfold qH;have e:=EK (n:=-1) (by decide);have r:=(kR (n:=-1) (by decide)).2;have e2:=TS r hb ha (by omega) lb la;generalize qn ((-1:Int):Rat)=q at e r e2;obtain⟨⟨_,_⟩,⟨_,_⟩⟩:=q;refine aB e<|aB e2 ?_;rw[Nat.max_comm,dG (k:=λi=>f i-g i) (λi _=>by show((-1:Int):Rat)*g i+f i=_;grind)]
theorem St(hc:kQ K c k)(ha:ek L a f)(h:K+L+1<=4000000000)(la:a.length<=1000000):pC c a=some (vq a.length λi=>k*f i):=by
 unfold pC;have e2:=TS hc ha (ek.nil (L:=1) (by omega)) (by omega) la (by simp);obtain⟨⟨_,_⟩,⟨_,_⟩⟩:=c;refine aB e2 ?_;rw[show max a.length ([]:List Qr).length=a.length by simp,dG (k:=λi=>k*f i) (λi _=>by grind)]
end ops
end
section
open Go.Fw
theorem YZ(l:List Qr)(hl:l.length<=1000000):∃b,rF l=some b/\(b=false->∀q∈l,q.num.w.length<=6/\q.den.w.length<=6):=by
 unfold rF;simp only[cc];refine mX (λy=>∃i:Nat,y=(i:Int)/\i<=l.length/\∀z∈l.take i,z.num.w.length<=6/\z.den.w.length<=6) (λe=>(∃c,e=.inl c/\∀z∈l,z.num.w.length<=6/\z.den.w.length<=6)\/e=.inr true) (λy=>l.length-y.toNat) ?_ ⟨0,Y,by omega,by simp⟩ ?_
 ·rintro _ ⟨i,rfl,hi,ht⟩;by_cases hlt:i<l.length
  ·have g:l[i]? =some l[i]:=by simp
   obtain⟨q,hq⟩:∃q,l[i]=q:=⟨_,Y⟩;rw[hq]at g;obtain⟨z,w⟩:=q;obtain⟨b,hb,-⟩:=abl [z,w] (by simp);rw[show decide ((i:Int)<(l.length:Int))=true by simp[hlt],gV];simp only[bz g,cc,zeta',cE,hb];cases b
   ·rw[iy,cc];by_cases h1:6<z.w.length
    ·right;rw[decide_eq_true (by omega),gV,cc,gV];exact⟨_,Y,.inr Y⟩
    rw[decide_eq_false (by omega),iy,cc];by_cases h2:6<w.w.length
    ·right;rw[decide_eq_true (by omega),gV];exact⟨_,Y,.inr Y⟩
    left;rw[decide_eq_false (by omega),iy,bM (by omega)];refine⟨_,Y,⟨i+1,Y,hlt,?_⟩,by omega⟩;rw[List.take_add_one,g];intro u hu;rcases List.mem_append.1 hu with h|h
    ·exact ht u h
    simp at h;rw[h];exact⟨by simp only[];omega,by simp only[];omega⟩
   right;exact⟨_,Y,.inr Y⟩
  right;rw[show decide ((i:Int)<(l.length:Int))=false by simp;omega,iy];rw[List.take_of_length_le (by omega)]at ht;exact⟨_,Y,.inl ⟨_,Y,ht⟩⟩
 rintro e (⟨c,rfl,he⟩|rfl)
 ·exact⟨false,Y,λ_=>he⟩
 exact⟨true,rfl,λh=>by cases h⟩
abbrev OkQ(q:Qr):Prop:=OkZ q.num/\OkZ q.den
theorem Y0{q:Qr}{L:Nat}(h:OkQ q)(h1:q.num.w.length<=L)(h2:q.den.w.length<=L)(hL:1<=L):kQ L q (qv q):=⟨h.1.2.2,h.2.2.2,h1,h2,hL,Y⟩
end
section
open Go.Fw
theorem dT{p:Prop}[Decidable p](h:p):(some (decide p):Option Bool)=some true:=congrArg some (decide_eq_true h)
theorem dF{p:Prop}[Decidable p](h:¬p):(some (decide p):Option Bool)=some false:=congrArg some (decide_eq_false h)
theorem Y1{β:Type}{x:Option Bool}{f:Bool->Option β}{r:Option β}{y:Option Bool}(h:x=some true)(hf:f true=r):(bif true then x else y).bind f=r:=by rw[gV,h];exact hf
theorem LQ{β:Type}{b c:Bool}{x:Option Bool}{f:Bool->Option β}{r:Option β}(h:b=false->x=some c)(hf:f (b||c)=r):(bif b then some true else x).bind f=r:=by
 cases b
 ·rw[iy,h rfl];exact hf
 rw[gV];exact hf
theorem Y2{β:Type}{b c:Bool}{x:Option Bool}{f:Bool->Option β}{r:Option β}(h:b=true->x=some c)(hf:f (b&&c)=r):(bif b then x else some false).bind f=r:=by
 cases b
 ·rw[iy];exact hf
 rw[gV,h rfl];exact hf
section ops
variable {K L M:Nat}{a b c:Qr}{x y z:Rat}
end ops
theorem ek.val{L:Nat}{v:List Qr}{f:Nat->Rat}(h:ek L v f)(i:Nat):f i=NL v i:=(h.at i).v.symm
abbrev OkV(v:List Qr):Prop:=v.length<=9223372036854775807/\∀q∈v,OkQ q
abbrev OkI(l:List Int):Prop:=l.length<=9223372036854775807/\∀x∈l,gB x
end
section
open Go.Fw
def BD{α:Type}(f:Nat->α)(n k:Nat)(z:α):List α:=(List.range k).map f++List.replicate (n-k) z
theorem U8{α:Type}{f:Nat->α}{n k:Nat}{z:α}(hk:k<=n):(BD f n k z).length=n:=by simp[BD];omega
theorem Su{α:Type}{f:Nat->α}{n:Nat}{z:α}:BD f n 0 z=List.replicate n z:=by simp[BD]
theorem U9{α:Type}{f:Nat->α}{n:Nat}{z:α}:BD f n n z=(List.range n).map f:=by simp[BD]
theorem Vc{α:Type}{f:Nat->α}{n k:Nat}{z:α}(hk:k<n):(BD f n k z).set k (f k)=BD f n (k+1) z:=by
 unfold BD;rw[show n-k=(n-(k+1))+1 by omega,List.replicate_succ,List.set_append_right _ _ (by simp),List.length_map,List.length_range,Nat.sub_self,List.range_succ,List.map_append,List.append_assoc];rfl
def mq(n:Nat)(ln:Nat->Nat)(F:Nat->Nat->Rat):List (List Qr):=(List.range n).map λi=>vq (ln i) (F i)
theorem cM(n:Nat)(ln:Nat->Nat)(F:Nat->Nat->Rat):(mq n ln F).length=n:=by simp[mq]
theorem fu{n i:Nat}{ln:Nat->Nat}{F:Nat->Nat->Rat}(hi:i<n):(mq n ln F)[i]? =some (vq (ln i) (F i)):=by simp[mq,hi]
theorem kS{n:Nat}{ln ln':Nat->Nat}{F G:Nat->Nat->Rat}(h:∀i,i<n->ln i=ln' i/\∀k,k<ln i->F i k=G i k):mq n ln F=mq n ln' G:=by
 unfold mq;apply List.map_congr_left;intro i hi;obtain⟨h1,h2⟩:=h i (List.mem_range.1 hi);rw[dG h2,h1]
structure jk (L:Nat) (m:List (List Qr)) (F:Nat->Nat->Rat):Prop where
 e:∀i v,m[i]? =some v->ek L v (F i)
 z:∀i,m.length<=i->∀k,F i k=0
 l1:1<=L
theorem jk.row{L:Nat}{m:List (List Qr)}{F:Nat->Nat->Rat}(h:jk L m F)(i:Nat):ek L (m.getD i []) (F i):=by
 by_cases hi:i<m.length
 ·rw[List.getD_eq_getElem?_getD,List.getElem?_eq_getElem hi];exact h.e i _ (List.getElem?_eq_getElem hi)
 rw[List.getD_eq_getElem?_getD,List.getElem?_eq_none (by omega)];exact(ek.nil h.l1).congr (λk=>(h.z i (by omega) k).symm)
theorem BE{L n:Nat}{ln:Nat->Nat}{F:Nat->Nat->Rat}(hf:∀i,i<n->∀k,k<ln i->FQ L (F i k))(hz:∀i,i<n->∀k,ln i<=k->F i k=0)(hz':∀i,n<=i->∀k,F i k=0)(h1:1<=L):jk L (mq n ln F) F:=by
 refine⟨λi v e=>?_,λi hi=>hz' i (by rwa[cM]at hi),h1⟩;have hi:i<n:=by have:=(List.getElem?_eq_some_iff.1 e).1;rwa[cM]at this
 rw[fu hi]at e;cases e;exact qo (hf i hi) (hz i hi) h1
def Sv(m:List (List Qr))(i:Nat):Nat->Rat:=NL (m.getD i [])
theorem abB{L:Nat}{m:List (List Qr)}(h:∀v∈m,ek L v (NL v))(h1:1<=L):jk L m (Sv m):=by
 refine⟨λi v e=>?_,λi hi k=>?_,h1⟩
 ·have:Sv m i=NL v:=by unfold Sv;rw[List.getD_eq_getElem?_getD,e];rfl
  rw[this];exact h v (List.mem_of_getElem? e)
 unfold Sv;rw[List.getD_eq_getElem?_getD,List.getElem?_eq_none hi];exact(ek.nil (L:=1) (by decide)).val k |>.symm
theorem mkm{n:Nat}(h:n<=1000000):G5 24 ((n:Nat):Int) ([]:List Qr)=some (List.replicate n []):=sV (by decide) (by omega)
theorem Y3(n:Nat)(h:n<=1000000):G5 64 ((n:Nat):Int) (⟨⟨false,[]⟩,⟨false,[]⟩⟩:Qr)=some (List.replicate n ⟨⟨false,[]⟩,⟨false,[]⟩⟩):=sV (by omega) (by omega)
theorem Sw{E:Type}{body:Nat->Unit->Option (Unit⊕E)}{n:Nat}{p:Nat->Prop}[DecidablePred p]{e:E}(h:∀k,k<n->body k ()=some (if p k then .inl ()else .inr e)):wj body n ()=some (if ∀k,k<n->p k then .inl ()else .inr e):=by
 induction n with
 |zero=>rw[wj,if_pos (λk hk=>by omega)]
 |succ n ih=>
  rw[wj,ih (λk hk=>h k (by omega))];by_cases h1:∀k,k<n->p k
  ·rw[if_pos h1];show body n ()=_;rw[h n (by omega)];by_cases h2:p n
   ·rw[if_pos h2,if_pos];intro k hk;rcases Nat.lt_or_ge k n with q|q
    ·exact h1 k q
    obtain rfl:k=n:=by omega
    exact h2
   rw[if_neg h2,if_neg (λq=>h2 (q n (by omega)))]
  rw[if_neg h1,if_neg (λq=>h1 (λk hk=>q k (by omega)))];rfl
section ops
variable {K L M:Nat}{c:Qr}{k:Rat}{a b:List (List Qr)}{F G:Nat->Nat->Rat}{x:List Qr}{f:Nat->Rat}
theorem abC(a:List (List Qr))(i:Nat):yR a (i:Int)=some (a.getD i []):=by
 unfold yR;refine bW<|aB (dF (by omega)) ?_;by_cases h:i<a.length
 ·exact aB (a:=false) (bG Y<|aB Y<|aB (dF (by omega)) Y)<|bG Y<|aB (bz (jF h)) Y
 rw[mB (by omega)];exact aB (a:=true) (bG Y<|aB Y<|aB (dT (by omega)) Y)<|bO Y Y
def oZ(m:List (List Qr)):Nat:=m.foldl (λn v=>max n v.length) 0
theorem xl{m:List (List Qr)}{n:Nat}:oZ m<=n↔∀v∈m,v.length<=n:=by
 have key:∀(l:List (List Qr)) (s:Nat),l.foldl (λn v=>max n v.length) s<=n↔s<=n/\∀v∈l,v.length<=n:=by
  intro l
  induction l with
  |nil=>intro s;simp
  |cons v l ih=>
   intro s;rw[List.foldl_cons,ih];simp only[List.mem_cons,forall_eq_or_imp];constructor
   ·rintro⟨h1,h2⟩;exact⟨by omega,by omega,h2⟩
   rintro⟨h1,h2,h3⟩;exact⟨by omega,h3⟩
 unfold oZ;rw[key];simp
theorem TT(m:List (List Qr))(h:m.length<=9223372036854775806):sK m=some (oZ m:Int):=by
 unfold sK;refine aB Y ?_;refine bH (λj=>(((m.take j).foldl (λn v=>max n v.length) 0:Nat),(j:Int))) m.length ((oZ m:Nat):Int) (by simp) (λj hj=>?_) ?_ Y
 ·refine aB (dT (by omega))<|bO Y<|aB (bz (List.getElem?_eq_getElem hj))<|aB Y<|aB Y<|aB (congrArg some (bM (by omega))) ?_;rw[List.take_add_one,List.getElem?_eq_getElem hj,List.foldl_append];simp only[Option.toList_some,List.foldl_cons,List.foldl_nil];congr 3;omega
 refine aB (dF (by omega))<|bG Y ?_;rw[List.take_length];rfl
theorem ag8(h:jk L a F)(hL:L<=10000000000)(i j:Nat):Be a (i:Int) (j:Int)=some (qn (F i j)):=by
 unfold Be;refine aB (abC a i)<|bW<|aB (dF (by omega)) ?_;have hr:=h.row i;generalize a.getD i []=v at hr;by_cases hj:j<v.length
 ·obtain⟨q,e1,r1⟩:=hr.get hj;have e2:=(r1.canon hL).1;exact aB (a:=false) (bG Y<|aB Y<|aB (dF (by omega)) Y)<|bG Y<|aB (bz e1)<|aB e2 Y
 rw[hr.z j (by omega)];exact aB (a:=true) (bG Y<|aB Y<|aB (dT (by omega)) Y)<|bO Y Y
theorem ad5{l:List (List Int)}(hl:∀v∈l,v.length<=1000/\∀y∈v,gB y)(hn:l.length<=1000):lY l=some (mq l.length (λi=>(l.getD i []).length) (λi j=>(((l.getD i []).getD j 0:Int):Rat)))/\jk 2 (mq l.length (λi=>(l.getD i []).length) (λi j=>(((l.getD i []).getD j 0:Int):Rat))) (λi j=>(((l.getD i []).getD j 0:Int):Rat)):=by
 have hw:∀i,(l.getD i []).length<=1000/\∀y∈l.getD i [],gB y:=λi=>by
  by_cases hi:i<l.length
  ·exact hl _ (List.mem_of_getElem? (jF (d:=[]) hi))
  rw[mB (by omega)];simp
 constructor
 ·unfold lY;refine aB Y<|aB (mkm (by omega))<|aB Y ?_;refine bH (λj=>((j:Int),BD (λi=>vq (l.getD i []).length (λj=>(((l.getD i []).getD j 0:Int):Rat))) l.length j [])) l.length (mq l.length (λi=>(l.getD i []).length) (λi j=>(((l.getD i []).getD j 0:Int):Rat))) (by rw[Su];rfl) (λj hj=>?_) ?_ Y
  ·have e1:=(EM (hw j).2 (by have:=(hw j).1;omega)).1;have hl:(BD (λi=>vq (l.getD i []).length (λj=>(((l.getD i []).getD j 0:Int):Rat))) l.length j []).length=l.length:=U8 (by omega);refine aB (dT (by omega))<|bO Y<|aB (bz (jF (d:=[]) hj))<|aB e1<|aB (b9 (show j<_ by rw[hl];exact hj))<|aB (dS (show j<_ by rw[hl];exact hj))<|aB (congrArg some (bM (by omega))) ?_;rw[<-Vc hj]
  refine aB (dF (by omega))<|bG Y ?_;rw[U9];rfl
 refine BE (λi hi j hj=>(EM (hw i).2 (by have:=(hw i).1;omega)).2.fq j) (λi hi j hj=>by rw[mB hj];rfl) (λi hi j=>by rw[mB hi];rfl) (by decide)
end ops
end
section
open Go.Fw
theorem Qq{α:Type}{b:Bool}{x y r:α}(ht:b=true->x=r)(hf:b=false->y=r):(bif b then x else y)=r:=by
 cases b
 ·rw[iy];exact hf Y
 rw[gV];exact ht Y
theorem zh{E:Type}{body:Int->Option (Int⊕(Unit⊕E))}{n:Nat}{p:Nat->Prop}[DecidablePred p]{e:E}(h:∀k:Nat,k<n->body (k:Int)=some (if p k then .inl ((k+1:Nat):Int)else .inr (.inr e)))(hn:body (n:Int)=some (.inr (.inl ()))):
  bX body 0=some (if ∀k,k<n->p k then .inl ()else .inr e):=by
 obtain⟨r,h1,h2⟩:=yC (body:=body) (s:=0) (λs=>∃k:Nat,s=(k:Int)/\k<=n/\∀i,i<k->p i) (λr=>(r=.inl ()/\∀k,k<n->p k)\/(r=.inr e/\¬∀k,k<n->p k)) (λs=>n-s.toNat) (by
  rintro _ ⟨k,rfl,hk,hp⟩;by_cases hlt:k<n
  ·by_cases hpk:p k
   ·refine .inl ⟨_,by rw[h k hlt,if_pos hpk],⟨k+1,Y,hlt,λi hi=>?_⟩,by simp only[Int.toNat_natCast];omega⟩;rcases Nat.lt_or_ge i k with q|q
    ·exact hp i q
    obtain rfl:i=k:=by omega
    exact hpk
   exact .inr ⟨_,by rw[h k hlt,if_neg hpk],.inr ⟨Y,λq=>hpk (q k hlt)⟩⟩
  obtain rfl:k=n:=by omega
  exact .inr ⟨_,hn,.inl ⟨Y,hp⟩⟩) ⟨0,Y,by omega,λi hi=>by omega⟩
 rw[h1];rcases h2 with⟨rfl,h2⟩|⟨rfl,h2⟩
 ·rw[if_pos h2]
 rw[if_neg h2]
def abD(n:Nat)(f:Nat->Rat)(i:Nat):Rat:=if i<n then f i else 0
theorem NR{n i:Nat}{f:Nat->Rat}(h:i<n):abD n f i=f i:=if_pos h
theorem abE{n i:Nat}{f:Nat->Rat}(h:n<=i):abD n f i=0:=if_neg (by omega)
theorem ag9(n:Nat)(f:Nat->Rat):vq n f=vq n (abD n f):=dG (λi hi=>(NR hi).symm)
theorem NS{L n:Nat}{f:Nat->Rat}(h:∀i,i<n->FQ L (f i))(h1:1<=L):ek L (vq n f) (abD n f):=by
 rw[ag9];exact qo (λi hi=>by rw[NR hi];exact h i hi) (λi hi=>abE hi) h1
def Gs(n:Int)(ob rw:List (List Qr))(bd:List Qr):Prop:=0<=n/\n<=64/\1<=ob.length/\ob.length<=4/\rw.length<=128/\bd.length=rw.length/\(oZ ob:Int)<=n/\(oZ rw:Int)<=n
instance(n:Int)(ob rw:List (List Qr))(bd:List Qr):Decidable (Gs n ob rw bd):=by unfold Gs;exact inferInstance
theorem JK{n:Int}{ob rw:List (List Qr)}{bd:List Qr}(h1:ob.length<=9223372036854775806)(h2:rw.length<=9223372036854775806):kZ ⟨n,ob,rw,bd⟩=some (decide (Gs n ob rw bd)):=by
 unfold kZ ry;refine aB (aB Y<|aB Y<|aB Y Y)<|bW<|aB Y<|LQ (λ_=>aB Y Y)<|LQ (λ_=>aB Y Y)<|LQ (λ_=>aB Y Y)<|Qq (λh=>?_) (λh=>bW<|aB Y<|LQ (λ_=>aB Y Y)<|Qq (λh'=>?_) (λh'=>bW<|aB (TT ob h1)<|aB Y<|Y2 (λ_=>aB (TT rw h2)<|aB Y Y) ?_))
 ·congr 1;symm;rw[decide_eq_false_iff_not];simp only[Bool.or_eq_true,decide_eq_true_eq]at h;unfold Gs;omega
 ·congr 1;symm;rw[decide_eq_false_iff_not];simp only[Bool.or_eq_true,decide_eq_true_eq]at h';unfold Gs;omega
 congr 1;simp only[Bool.or_eq_false_iff,decide_eq_false_iff_not]at h h';rw[<-Bool.decide_and,decide_eq_decide];unfold Gs;omega
theorem Y4{n:Int}{ob rw:List (List Qr)}{bd:List Qr}:kZ ⟨n,ob,rw,bd⟩=some (decide (Gs n ob rw bd)):=by
 unfold kZ ry;refine aB (aB Y<|aB Y<|aB Y Y)<|bW<|aB Y<|LQ (λ_=>aB Y Y)<|LQ (λ_=>aB Y Y)<|LQ (λ_=>aB Y Y)<|Qq (λh=>?_) (λh=>bW<|aB Y<|LQ (λ_=>aB Y Y)<|Qq (λh'=>?_) (λh'=>bW<|aB (TT ob (by simp only[Bool.or_eq_false_iff,decide_eq_false_iff_not]at h h';omega))<|aB Y<|Y2 (λ_=>aB (TT rw (by simp only[Bool.or_eq_false_iff,decide_eq_false_iff_not]at h h';omega))<|aB Y Y) ?_))
 ·congr 1;symm;rw[decide_eq_false_iff_not];simp only[Bool.or_eq_true,decide_eq_true_eq]at h;unfold Gs;omega
 ·congr 1;symm;rw[decide_eq_false_iff_not];simp only[Bool.or_eq_true,decide_eq_true_eq]at h';unfold Gs;omega
 congr 1;simp only[Bool.or_eq_false_iff,decide_eq_false_iff_not]at h h';rw[<-Bool.decide_and,decide_eq_decide];unfold Gs;omega
section lps
variable {K L M N:Nat}{n:Int}{ob rw:List (List Qr)}{bd x y:List Qr}{O F:Nat->Nat->Rat}{g f:Nat->Rat}
end lps
end
section
open Go.Fw
def bq(m:Nat)(b:Nat->Nat):List Int:=(List.range m).map λj=>((b j:Nat):Int)
theorem mZ(m:Nat)(b:Nat->Nat):(bq m b).length=m:=by simp[bq]
theorem o9{m j:Nat}{b:Nat->Nat}(h:j<m):(bq m b)[j]? =some ((b j:Nat):Int):=by simp[bq,h]
theorem TU(m:Nat)(b:Nat->Nat):bq (m+1) b=bq m b++[((b m:Nat):Int)]:=by simp[bq,List.range_succ]
theorem aha{m r c:Nat}{b:Nat->Nat}(hr:r<m):(bq m b).set r (c:Int)=bq m (λj=>if j=r then c else b j):=by
 apply List.ext_getElem?;intro j;rw[List.getElem?_set,mZ];by_cases hj:j<m
 ·rw[o9 hj];by_cases e:r=j
  ·subst e;rw[if_pos Y,if_pos hr,o9 hr,if_pos rfl]
  rw[if_neg e,o9 hj,if_neg (λq=>e q.symm)]
 rw[List.getElem?_eq_none (l:=bq m _) (by rw[mZ];omega),List.getElem?_eq_none (l:=bq m _) (by rw[mZ];omega)];by_cases e:r=j
 ·rw[if_pos e,if_neg (by omega)]
 rw[if_neg e]
abbrev LR(n m p:Nat)(O F:Nat->Nat->Rat)(b:Nat->Nat):Tb:=⟨true,(n:Int),mq p (λ_=>n) O,bq m b,mq m (λ_=>n+m+1) F⟩
structure vv (L n m p:Nat) (O F:Nat->Nat->Rat) (b:Nat->Nat):Prop where
 f:∀i,i<m->∀k,FQ L (F i k)
 o:∀i,i<p->∀k,FQ L (O i k)
 z:∀i,i<m->∀k,n+m+1<=k->F i k=0
 l1:1<=L
 hn:n<=64
 hm:m<=128
 hp:p<=4
 hb:∀j,j<m->b j<n+m
section tab
variable {L n m p:Nat}{O F:Nat->Nat->Rat}{b:Nat->Nat}
theorem pJ(n m p:Nat)(O F:Nat->Nat->Rat)(b:Nat->Nat):dB (LR n m p O F b)=some false:=by
 unfold dB;exact bW<|aB (a:=false) (bG Y<|aB Y Y) Y
theorem NT(hn:n<=64)(hm:m<=128):iI (LR n m p O F b)=some ((n+m:Nat):Int):=by
 unfold iI;refine aB Y<|aB (congrArg some ?_) Y;rw[cM,cG (by omega) (by omega)];omega
theorem ahc{i:Nat}(h:vv L n m p O F b)(hi:i<m):ek L (vq (n+m+1) (F i)) (F i):=qo (λk _=>h.f i hi k) (λk hk=>h.z i hi k hk) h.l1
theorem TV(h:vv L n m p O F b)(hL:L<=4000000000){c:Nat}(hc:c<n+m+1):oJ (LR n m p O F b) (c:Int)=some (vq m (λi=>F i c)):=by
 have hm:=h.hm;unfold oJ;show(some ((mq m (λ_=>n+m+1) F).length:Int)).bind _=_;refine aB Y ?_;rw[cM];refine aB (Y3 m (by omega))<|aB Y ?_;refine bH (λk=>((k:Int),vq k (λi=>F i c)++List.replicate (m-k) qz)) m (vq m (λi=>F i c)) Y (λk hk=>?_) ?_ Y
 ·have g1:(mq m (λ_=>n+m+1) F)[k]? =some (vq (n+m+1) (F k)):=fu hk;have g2:(vq (n+m+1) (F k))[c]? =some (qn (F k c)):=iM hc;have e:=(((h.f k hk c).rep h.l1).canon (by omega)).1;have s:=NN (h:=λi=>F i c) hk;have hl:(vq k (λi=>F i c)++List.replicate (m-k) qz).length=m:=z7 (by omega);rw[<-s];generalize vq k (λi=>F i c)++List.replicate (m-k) qz=l at*;clear s;show(some (decide ((k:Int)<(m:Int)))).bind _=_;generalize qn (F k c)=q at*;obtain⟨⟨_,_⟩,⟨_,_⟩⟩:=q;exact aB (dT (by omega))<|bO Y<|aB (bz g1)<|aB (bz g2)<|aB e<|aB (b9 (by omega))<|aB (dS (by omega))<|aB (congrArg some (bM (by omega))) Y
 simp only[Nat.sub_self,List.replicate_zero,List.append_nil];exact aB (dF (by omega))<|bG Y Y
def r8(n p:Nat)(O:Nat->Nat->Rat)(c:Nat)(i:Nat):Rat:=if c<n then(if i<p then O i c else if i=p+c then-1 else 0)else 0
theorem uE{k j:Nat}{h:Nat->Rat}{x:Rat}(hj:j<k):(vq k h).set j (qn x)=vq k (λi=>if i=j then x else h i):=by
 apply List.ext_getElem?;intro i;rw[List.getElem?_set,bY];by_cases hi:i<k
 ·rw[iM hi];by_cases e:j=i
  ·subst e;rw[if_pos Y,if_pos hj,iM hj,if_pos rfl]
  rw[if_neg e,iM hi,if_neg (λq=>e q.symm)]
 rw[List.getElem?_eq_none (l:=vq k _) (by rw[bY];omega),List.getElem?_eq_none (l:=vq k _) (by rw[bY];omega)];by_cases e:j=i
 ·rw[if_pos e,if_neg (by omega)]
 rw[if_neg e]
theorem HE(k:Nat):List.replicate k (⟨⟨false,[]⟩,⟨false,[]⟩⟩:Qr)=vq k (λ_=>0):=by
 apply List.ext_getElem?;intro i;by_cases hi:i<k
 ·rw[iM hi,List.getElem?_replicate,if_pos hi];rfl
 rw[List.getElem?_eq_none (by simp;omega),List.getElem?_eq_none (by rw[bY];omega)]
theorem abF:dP (-1)=some (qn (-1)):=(kR (n:=-1) (by decide)).1
theorem one_eq:dP 1=some (qn 1)/\kQ 2 (qn 1) 1:=kR (n:=1) (by decide)
theorem Y5(h:vv L n m p O F b){c:Nat}(hc:c<n+m):nn (LR n m p O F b) (c:Int)=some (vq (p+n) (r8 n p O c)):=by
 have hm:=h.hm;have hn:=h.hn;have hp:=h.hp;unfold nn;show(some ((mq p (λ_=>n) O).length:Int)).bind _=_;refine aB Y ?_;rw[cM];refine aB (congrArg some (show IntKind.i64.wrap ((p:Int)+(n:Int))=((p+n:Nat):Int) by rw[cG (by omega) (by omega)];omega))<|aB (Y3 (p+n) (by omega))<|aB Y<|bW ?_;rw[HE];by_cases hcn:c<n
 ·refine bO (decide_eq_true (show(c:Int)<(n:Int) by omega))<|aB Y ?_;refine bH (λk=>((k:Int),vq (p+n) (λi=>if i<k then O i c else 0))) p (vq (p+n) (λi=>if i<p then O i c else 0)) (by simp) (λk hk=>?_) ?_ ?_
  ·have g1:(mq p (λ_=>n) O)[k]? =some (vq n (O k)):=fu hk;have g2:(vq n (O k))[c]? =some (qn (O k c)):=iM hcn;have s:=uE (k:=p+n) (j:=k) (h:=λi=>if i<k then O i c else 0) (x:=O k c) (by omega);have s2:vq (p+n) (λi=>if i=k then O k c else if i<k then O i c else 0)=vq (p+n) (λi=>if i<k+1 then O i c else 0):=dG (λi _=>by
    by_cases e:i=k
    ·subst e;simp
    rw[if_neg e];by_cases e2:i<k
    ·rw[if_pos e2,if_pos (by omega)]
    rw[if_neg e2,if_neg (by omega)])
   rw[s2]at s;have hl:=bY (p+n) (λi=>if i<k then O i c else 0);rw[<-s];generalize vq (p+n) (λi=>if i<k then O i c else 0)=l at*;clear s s2;show(some (decide ((k:Int)<(p:Int)))).bind _=_;generalize qn (O k c)=q at*;obtain⟨⟨_,_⟩,⟨_,_⟩⟩:=q;exact aB (dT (by omega))<|bO Y<|aB (bz g1)<|aB (bz g2)<|aB (b9 (by omega))<|aB (dS (by omega))<|aB (congrArg some (bM (by omega))) Y
  ·exact aB (dF (by omega))<|bG Y Y
  have s:=uE (k:=p+n) (j:=p+c) (h:=λi=>if i<p then O i c else 0) (x:=-1) (by omega);have s2:vq (p+n) (λi=>if i=p+c then(-1:Rat)else if i<p then O i c else 0)=vq (p+n) (r8 n p O c):=dG (λi _=>by
   unfold r8;rw[if_pos hcn];by_cases e:i=p+c
   ·rw[if_pos e,if_neg (by omega),if_pos e]
   rw[if_neg e,if_neg e])
  rw[s2]at s;have hl:=bY (p+n) (λi=>if i<p then O i c else 0);have e1:=abF;rw[<-s];generalize vq (p+n) (λi=>if i<p then O i c else 0)=l at*;clear s s2;generalize qn (-1)=q at*;obtain⟨⟨_,_⟩,⟨_,_⟩⟩:=q;exact aB Y<|aB (congrArg some (show IntKind.i64.wrap ((p:Int)+(c:Int))=((p+c:Nat):Int) by rw[cG (by omega) (by omega)];omega))<|aB e1<|aB (b9 (by omega))<|aB (dS (by omega)) Y
 refine bG (decide_eq_false (show ¬(c:Int)<(n:Int) by omega)) ?_;exact congrArg some (dG (λi _=>by unfold r8;rw[if_neg hcn]))
theorem Y6(h:vv L n m p O F b)(c i:Nat):FQ L (r8 n p O c i):=by
 unfold r8;have hl:=h.l1;split
 ·split
  ·exact h.o _ (by assumption) _
  split
  ·exact(FQ.int (i:=-1) (L:=L) (by unfold Fit;exact Nat.lt_of_lt_of_le (by decide:(-1:Int).natAbs<4294967296^1) (Nat.pow_le_pow_right (by decide) hl)) hl)
  exact nN hl
 exact nN hl
theorem HF(h:vv L n m p O F b)(c:Nat):ek L (vq (p+n) (r8 n p O c)) (r8 n p O c):=qo (λi _=>Y6 h c i) (λi hi=>by
 unfold r8;split
 ·rw[if_neg (by omega),if_neg (by omega)]
 rfl) h.l1
def pK(n p:Nat)(O:Nat->Nat->Rat)(b:Nat->Nat)(g:Nat->Rat)(m:Nat)(i:Nat):Rat:=cw (λj=>g j*r8 n p O (b j) i) m
theorem ahd{g:Nat->Rat}{k i:Nat}(hi:p+n<=i):pK n p O b g k i=0:=by
 unfold pK;rw[cY (k:=λ_=>0) (λj _=>?_),qM];unfold r8;split
 ·rw[if_neg (by omega),if_neg (by omega)];grind
 grind
theorem HG(h:vv L n m p O F b){g:Nat->Rat}(hg:∀j,j<m->FQ L (g j)):∀k,k<=m->∀i,FQ (k*(L+L+1)+1) (pK n p O b g k i)
 |0,_,i=>by show FQ (0*(L+L+1)+1) (0:Rat);rw[Nat.zero_mul];exact nN (by decide)
 |k+1,hk,i=>by
  have e:=(HG h hg k (by omega) i).add ((hg k (by omega)).mul (Y6 h (b k) i));exact e.mono (by rw[Nat.succ_mul];generalize k*(L+L+1)=q;omega)
theorem BF(h:vv L n m p O F b){g:Nat->Rat}(hg:∀j,j<m->FQ L (g j)){k:Nat}(hk:k<=m):ek (k*(L+L+1)+1) (vq (p+n) (pK n p O b g k)) (pK n p O b g k):=qo (λi _=>HG h hg k hk i) (λi hi=>ahd hi) (by omega)
theorem LS(h:vv L n m p O F b)(hL:(m+1)*(L+L+1)<=2000000000){g:Nat->Rat}(hg:∀j,j<m->FQ L (g j)):lZ (LR n m p O F b) (vq m g)=some (vq (p+n) (pK n p O b g m)):=by
 have hX:m*(L+L+1)+(L+L+1)<=2000000000:=by rw[<-Nat.succ_mul];exact hL
 have hm:=h.hm;have hn:=h.hn;have hp:=h.hp;have h1:=h.l1;unfold lZ;show(some ((mq p (λ_=>n) O).length:Int)).bind _=_;refine aB Y ?_;rw[cM];refine aB (congrArg some (show IntKind.i64.wrap ((p:Int)+(n:Int))=((p+n:Nat):Int) by rw[cG (by omega) (by omega)];omega))<|aB (Y3 (p+n) (by omega))<|aB (congrArg some (show((vq m g).length:Int)=(m:Int) by rw[bY])) ?_;rw[HE];refine bH (λk=>(vq (p+n) (pK n p O b g k),(k:Int))) m (vq (p+n) (pK n p O b g m)) Y (λk hk=>?_) ?_ Y
 ·have g1:(vq m g)[k]? =some (qn (g k)):=iM hk;have g2:=o9 (b:=b) hk;have rg:=(hg k hk).rep h1;have sg:=rg.sign (by omega);have hbk:=h.hb k hk;have tv:=Y5 h hbk;have va:=ad4 rg (HF h (b k)) (BF h hg (Nat.le_of_lt hk)) (by have:=Nat.mul_le_mul_right (L+L+1) (show k<=m by omega);omega) (by rw[bY];omega) (by rw[bY];omega);have e0:vq (max (vq (p+n) (r8 n p O (b k))).length (vq (p+n) (pK n p O b g k)).length) (λi=>g k*r8 n p O (b k) i+pK n p O b g k i)=vq (p+n) (pK n p O b g (k+1)):=by
   rw[bY,bY,Nat.max_self];refine dG (λi _=>?_);show _=cw _ k+_;unfold pK;grind
  rw[e0]at va;have same:g k*r8 n p O (b k) 0=g k*r8 n p O (b k) 0:=rfl;have skip:(¬(b k<n)\/g k=0)->vq (p+n) (pK n p O b g k)=vq (p+n) (pK n p O b g (k+1)):=λq=>dG (λi _=>by
   show pK n p O b g k i=cw _ k+_;have:g k*r8 n p O (b k) i=0:=by
    rcases q with q|q
    ·unfold r8;rw[if_neg q];grind
    rw[q];grind
   show pK n p O b g k i=pK n p O b g k i+g k*r8 n p O (b k) i;rw[this];grind)
  replace va:=va.1;show(some (decide ((k:Int)<(m:Int)))).bind _=_;have sgd:(some (decide (oV (g k) 0≠0)):Option Bool)=some (decide (g k≠0)):=by
   congr 1;by_cases q:g k=0
   ·rw[decide_eq_false (by rw[q,FK];simp),decide_eq_false (by simp[q])]
   rw[decide_eq_true (show oV (g k) 0≠0 from λe=>q (oW.1 e)),decide_eq_true q]
  generalize hq:qn (g k)=q at*;obtain⟨⟨q1,q2⟩,⟨q3,q4⟩⟩:=q;refine aB (dT (by omega))<|bO Y<|aB (bz g1)<|bW<|aB (bz g2)<|aB Y ?_;by_cases VU:b k<n
  ·refine aB (a:=decide (g k≠0)) (bO (decide_eq_true (show((b k:Nat):Int)<(n:Int) by omega))<|aB sg<|aB sgd Y)<|bW ?_;by_cases h0:g k=0
   ·refine bG (by simp[h0]) ?_;rw[skip (.inr h0)];exact aB (congrArg some (bM (by omega))) Y
   refine bO (by simp[h0]) ?_;exact aB (bz g2)<|aB tv<|aB va<|aB (congrArg some (bM (by omega))) Y
  refine aB (a:=false) (bG (decide_eq_false (show ¬((b k:Nat):Int)<(n:Int) by omega)) Y)<|bW<|bG Y ?_;rw[skip (.inl VU)];exact aB (congrArg some (bM (by omega))) Y
 exact aB (dF (by omega))<|bG Y Y
theorem Sx(h:vv L n m p O F b)(hL:L<=4000000000):jL (LR n m p O F b)=some (vq m (λi=>F i (n+m))):=by
 unfold jL;exact aB (pJ n m p O F b)<|bG Y<|aB (NT h.hn h.hm)<|aB (TV h hL (by omega)) Y
def r9(n m p:Nat)(O F:Nat->Nat->Rat)(b:Nat->Nat)(c:Nat)(i:Nat):Rat:=pK n p O b (λj=>F j c) m i-r8 n p O c i
theorem LU(h:vv L n m p O F b)(hL:(m+1)*(L+L+1)<=2000000000){c:Nat}(hc:c<n+m):e5 (LR n m p O F b) (c:Int)=some (vq (p+n) (r9 n m p O F b c))/\ek (m*(L+L+1)+1+L+1) (vq (p+n) (r9 n m p O F b c)) (r9 n m p O F b c):=by
 have hX:m*(L+L+1)+(L+L+1)<=2000000000:=by rw[<-Nat.succ_mul];exact hL
 have hm:=h.hm;have hn:=h.hn;have hp:=h.hp;have w:=LS h hL (g:=λj=>F j c) (λj hj=>h.f j hj c);have s:=aqW (BF h (g:=λj=>F j c) (λj hj=>h.f j hj c) (Nat.le_refl m)) (HF h c) (by omega) (by rw[bY];omega) (by rw[bY];omega);rw[bY,bY,Nat.max_self]at s;refine⟨?_,s.2⟩;unfold e5;exact bW<|aB (pJ n m p O F b)<|aB (a:=false) (bG Y<|aB (dF (by omega)) Y)<|aB (a:=false) (bG Y<|aB (NT hn hm)<|aB (dF (by omega)) Y)<|bG Y<|aB (TV h (by omega) (by omega))<|aB w<|aB (Y5 h hc)<|aB s.1 Y
theorem NU(h:vv L n m p O F b)(hL:(m+1)*(L+L+1)<=2000000000):kC (LR n m p O F b)=some (vq (p+n) (pK n p O b (λj=>F j (n+m)) m)):=by
 have hX:m*(L+L+1)+(L+L+1)<=2000000000:=by rw[<-Nat.succ_mul];exact hL
 unfold kC;exact aB (pJ n m p O F b)<|bG Y<|aB (Sx h (by omega))<|aB (LS h hL (g:=λj=>F j (n+m)) (λj hj=>h.f j hj _)) Y
def rT(n m:Nat)(F:Nat->Nat->Rat)(b:Nat->Nat):Nat->Nat->Rat
 |0,_=>0
 |j+1,i=>if b j<n/\i=b j then F j (n+m)else rT n m F b j i
theorem LV(h:vv L n m p O F b)(hL:L<=4000000000):iJ (LR n m p O F b)=some (vq n (rT n m F b m)):=by
 have hm:=h.hm;have hn:=h.hn;unfold iJ;refine aB (pJ n m p O F b)<|bG Y<|aB (Y3 n (by omega))<|aB (Sx h hL)<|aB (congrArg some (show((vq m _).length:Int)=(m:Int) by rw[bY])) ?_;rw[HE];refine bH (λk=>((k:Int),vq n (rT n m F b k))) m (vq n (rT n m F b m)) Y (λk hk=>?_) ?_ Y
 ·have g1:(vq m (λi=>F i (n+m)))[k]? =some (qn (F k (n+m))):=iM hk;have g2:=o9 (b:=b) hk;have hl:=bY n (rT n m F b k);show(some (decide ((k:Int)<(m:Int)))).bind _=_;by_cases VU:b k<n
  ·have s:=uE (k:=n) (j:=b k) (h:=rT n m F b k) (x:=F k (n+m)) VU;have s2:vq n (λi=>if i=b k then F k (n+m)else rT n m F b k i)=vq n (rT n m F b (k+1)):=dG (λi _=>by
    show _=if b k<n/\i=b k then _ else _;by_cases e:i=b k
    ·rw[if_pos e,if_pos ⟨VU,e⟩]
    rw[if_neg e,if_neg (λq=>e q.2)])
   rw[s2]at s;rw[<-s];clear s s2;generalize vq n (rT n m F b k)=l at*;generalize qn (F k (n+m))=q at*;obtain⟨⟨_,_⟩,⟨_,_⟩⟩:=q;exact aB (dT (by omega))<|bO Y<|aB (bz g1)<|aB (bz g2)<|aB Y<|bW<|bO (decide_eq_true (show((b k:Nat):Int)<(n:Int) by omega))<|aB (bz g2)<|aB (b9 (by omega))<|aB (dS (by omega))<|aB (congrArg some (bM (by omega))) Y
  have s2:vq n (rT n m F b k)=vq n (rT n m F b (k+1)):=dG (λi _=>by
   show _=if b k<n/\i=b k then _ else _;rw[if_neg (λq=>VU q.1)])
  rw[<-s2];generalize qn (F k (n+m))=q at*;obtain⟨⟨_,_⟩,⟨_,_⟩⟩:=q;exact aB (dT (by omega))<|bO Y<|aB (bz g1)<|aB (bz g2)<|aB Y<|bW<|bG (decide_eq_false (show ¬((b k:Nat):Int)<(n:Int) by omega))<|aB (congrArg some (bM (by omega))) Y
 exact aB (dF (by omega))<|bG Y Y
theorem LW(h:vv L n m p O F b)(hL:L<=4000000000):jS (LR n m p O F b)=some (decide (∀i,i<m->0<=F i (n+m))):=by
 have hm:=h.hm;unfold jS;refine aB (pJ n m p O F b)<|bG Y<|aB (Sx h hL)<|aB (congrArg some (show((vq m _).length:Int)=(m:Int) by rw[bY])) ?_;refine aB (zh (n:=m) (p:=λi=>0<=F i (n+m)) (e:=false) (λk hk=>?_) (aB (dF (by omega))<|bG Y Y)) ?_
 ·have g1:(vq m (λi=>F i (n+m)))[k]? =some (qn (F k (n+m))):=iM hk;have sg:=((h.f k hk (n+m)).rep h.l1).sign (by omega);generalize qn (F k (n+m))=q at*;obtain⟨⟨_,_⟩,⟨_,_⟩⟩:=q;refine aB (dT (by omega))<|bO Y<|aB (bz g1)<|aB sg<|aB Y ?_;by_cases q:F k (n+m)<0
  ·rw[if_neg (by grind)];exact bO (decide_eq_true (EF.2 q)) Y
  rw[if_pos (by grind)];exact bG (decide_eq_false (λe=>q (EF.1 e)))<|aB (congrArg some (bM (by omega))) Y
 by_cases q:∀i,i<m->0<=F i (n+m)
 ·rw[if_pos q,decide_eq_true q]
 rw[if_neg q,decide_eq_false q]
theorem JM(h:vv L n m p O F b)(hL:(m+1)*(L+L+1)<=2000000000):jy (LR n m p O F b)=some (decide (∀c,c<n+m->0<=oC (r9 n m p O F b c) (λ_=>0) (p+n))):=by
 have hX:m*(L+L+1)+(L+L+1)<=2000000000:=by rw[<-Nat.succ_mul];exact hL
 have hm:=h.hm;have hn:=h.hn;unfold jy;refine aB (pJ n m p O F b)<|bG Y ?_;have hw:(IntKind.i64.wrap (Tb.vars (LR n m p O F b)+((Tb.rows (LR n m p O F b)).length:Int))).toNat=n+m:=by
  show(IntKind.i64.wrap ((n:Int)+((mq m (λ_=>n+m+1) F).length:Int))).toNat=_;rw[cM,cG (by omega) (by omega)];omega
 refine aB (a:=if ∀c,c<n+m->0<=oC (r9 n m p O F b c) (λ_=>0) (p+n)then .inl ()else .inr false) ?_ ?_
 ·refine Eq.trans (congrArg (λk=>wj _ k ()) hw) ?_;refine Sw (n:=n+m) (p:=λc=>0<=oC (r9 n m p O F b c) (λ_=>0) (p+n)) (e:=false) (λk hk=>?_);obtain⟨e,r⟩:=LU h hL hk;have sg:=akC r (by omega);rw[bY]at sg;refine aB Y<|aB e<|aB sg<|aB Y ?_;by_cases q:0<=oC (r9 n m p O F b k) (λ_=>0) (p+n)
  ·rw[if_pos q];exact bG (decide_eq_false (by omega)) Y
  rw[if_neg q];exact bO (decide_eq_true (by omega)) Y
 by_cases q:∀c,c<n+m->0<=oC (r9 n m p O F b c) (λ_=>0) (p+n)
 ·rw[if_pos q,decide_eq_true q]
 rw[if_neg q,decide_eq_false q]
end tab
end
section
open Go.Fw
def jM(F:Nat->Nat->Rat)(r c i k:Nat):Rat:=if i=r then F r k/F r c else F i k-F i c*(F r k/F r c)
section tab
variable {L n m p:Nat}{O F:Nat->Nat->Rat}{b:Nat->Nat}
theorem Y7(h:vv L n m p O F b){r c:Nat}(hr:r<m)(h0:F r c≠0){i:Nat}(hi:i<m)(k:Nat):FQ (4*L+1) (jM F r c i k):=by
 have e:=(h.f r hr k).div (h.f r hr c) h0;unfold jM;split
 ·exact e.mono (by omega)
 exact((h.f i hi k).sub ((h.f i hi c).mul e)).mono (by omega)
theorem ad6(h:vv L n m p O F b){r i:Nat}(hr:r<m)(c:Nat)(hi:i<m){k:Nat}(hk:n+m+1<=k):jM F r c i k=0:=by
 unfold jM;rw[h.z r hr k hk,h.z i hi k hk];have e:(0:Rat)/F r c=0:=by rw[Rat.div_def,Rat.zero_mul]
 rw[e];split
 ·rfl
 grind
theorem JN(h:vv L n m p O F b){r c:Nat}(hr:r<m)(hc:c<n+m)(h0:F r c≠0):vv (4*L+1) n m p O (jM F r c) (λj=>if j=r then c else b j):=
 ⟨λi hi k=>Y7 h hr h0 hi k,λi hi k=>(h.o i hi k).mono (by omega),λi hi k hk=>ad6 h hr c hi hk,by omega,h.hn,h.hm,h.hp,λj hj=>by
  show(if j=r then c else b j)<n+m;split
  ·exact hc
  exact h.hb j hj⟩
theorem abG(h:vv L n m p O F b)(hL:L<=100000000){r c:Nat}(hr:r<m)(hc:c<n+m+1)(h0:F r c≠0){o0:Bool}{o1:Int}{o2 rows:List (List Qr)}{o3:List Int}(hrow:rows[r]? =some (vq (n+m+1) (jM F r c r))){i:Nat}(hi:i<m)(hne:i≠r):
  oK o0 o1 o2 o3 rows (vq (n+m+1) (F i)) c r=some (vq (n+m+1) (jM F r c i)):=by
 have hm:=h.hm;have hn:=h.hn;have h1:=h.l1;have g1:(vq (n+m+1) (F i))[c]? =some (qn (F i c)):=iM hc;have rq:=(h.f i hi c).rep h1;have sg:=rq.sign (by omega);have ng:=rq.neg (by omega);have QD:r<rows.length:=(List.getElem?_eq_some_iff.1 hrow).1;have va:=ad4 ng.2 (qo (n:=n+m+1) (h:=jM F r c r) (λk _=>Y7 h hr h0 hr k) (λk hk=>ad6 h hr c hr hk) (show 1<=4*L+1 by omega)) (ahc h hi) (by omega) (by rw[bY];omega) (by rw[bY];omega);have e0:vq (max (vq (n+m+1) (jM F r c r)).length (vq (n+m+1) (F i)).length) (λk=>-F i c*jM F r c r k+F i k)=vq (n+m+1) (jM F r c i):=by
  rw[bY,bY,Nat.max_self];refine dG (λk _=>?_);unfold jM;rw[if_pos Y,if_neg hne];grind
 rw[e0]at va;replace va:=va.1;have same:F i c=0->vq (n+m+1) (F i)=vq (n+m+1) (jM F r c i):=λq=>dG (λk _=>by
  unfold jM;rw[if_neg hne,q];grind)
 have sgd:(some (decide (oV (F i c) 0=0)):Option Bool)=some (decide (F i c=0)):=by
  congr 1;by_cases q:F i c=0
  ·rw[decide_eq_true (show oV (F i c) 0=0 from oW.2 q),decide_eq_true q]
  rw[decide_eq_false (show ¬oV (F i c) 0=0 from λe=>q (oW.1 e)),decide_eq_false q]
 unfold oK;replace ng:=ng.1;generalize qn (F i c)=q at*;generalize qn (-F i c)=q' at*;obtain⟨⟨_,_⟩,⟨_,_⟩⟩:=q;obtain⟨⟨_,_⟩,⟨_,_⟩⟩:=q';refine aB (bz g1)<|aB sg<|aB sgd ?_;by_cases q:F i c=0
 ·rw[<-same q];exact bO (decide_eq_true q) Y
 exact bG (decide_eq_false q)<|aB (bz g1)<|aB ng<|aB (b9 QD)<|aB hrow<|aB va Y
theorem Y8{w r:Nat}{G:Nat->Nat->Rat}{f:Nat->Rat}(hr:r<m):(mq m (λ_=>w) G).set r (vq w f)=mq m (λ_=>w) (λi=>if i=r then f else G i):=by
 apply List.ext_getElem?;intro j;rw[List.getElem?_set,cM];by_cases hj:j<m
 ·rw[fu hj];by_cases e:r=j
  ·subst e;rw[if_pos Y,if_pos hr,fu hr,if_pos rfl]
  rw[if_neg e,fu hj,if_neg (λq=>e q.symm)]
 rw[List.getElem?_eq_none (l:=mq m _ _) (by rw[cM];omega),List.getElem?_eq_none (l:=mq m _ _) (by rw[cM];omega)];by_cases e:r=j
 ·rw[if_pos e,if_neg (by omega)]
 rw[if_neg e]
theorem Sy(h:vv L n m p O F b)(hL:L<=100000000){r c:Nat}(hr:r<m)(hc:c<n+m+1)(h0:F r c≠0){o0:Bool}{o1:Int}{o2:List (List Qr)}{o3:List Int}:
  cX o0 o1 o2 o3 (mq m (λ_=>n+m+1) F) r c=some (o2,o3,mq m (λ_=>n+m+1) (jM F r c)):=by
 have hm:=h.hm;have hn:=h.hn;have h1:=h.l1;have g1:(mq m (λ_=>n+m+1) F)[r]? =some (vq (n+m+1) (F r)):=fu hr;have QD:r<(mq m (λ_=>n+m+1) F).length:=by rw[cM];exact hr
 have g2:(vq (n+m+1) (F r))[c]? =some (qn (F r c)):=iM hc;have dv:=one_eq.2.div ((h.f r hr c).rep h1) (by omega) h0;have sc:=(ag4 dv.2 (ahc h hr) (by omega) (by rw[bY];omega)).1;rw[bY]at sc;have e0:vq (n+m+1) (λk=>1/F r c*F r k)=vq (n+m+1) (jM F r c r):=dG (λk _=>by
  unfold jM;rw[if_pos Y,Rat.div_def,Rat.div_def];grind)
 rw[e0]at sc;have st:=dS (y:=vq (n+m+1) (jM F r c r)) QD;rw[Y8 hr]at st;have e1:=one_eq.1;replace dv:=dv.1;have loop:∀(o:List (List Qr)->Option ((List (List Qr))×(List Int)×(List (List Qr)))),o (mq m (λ_=>n+m+1) (jM F r c))=some (o2,o3,mq m (λ_=>n+m+1) (jM F r c))->((bX (λ(z9:Int×(List (List Qr)))=>match z9 with|⟨xP,jZ⟩=>(show Option ((Int×(List (List Qr)))⊕((List (List Qr))))from(some (decide ((xP:Int)<(m:Int)))).bind λKv=>(bif Kv then(kW jZ xP).bind λAA=>(jZ[AA]?).bind λJZ=>(some (decide ((xP:Int)≠(r:Int)))).bind λUk=>cE (λ(Bi:(List (List Qr)))=>(some (IntKind.i64.wrap (xP+1))).bind λJ0=>some (.inl (J0,Bi))) λXa=>(bif Uk then(oK o0 o1 o2 o3 jZ JZ c r).bind λQ5=>(kW jZ xP).bind λWe=>(stM jZ We Q5).bind λl17=>Xa l17 else Xa jZ)else some (.inr jZ)))) (0,mq m (λ_=>n+m+1) (λi=>if i=r then jM F r c r else F i))).bind o)=some (o2,o3,mq m (λ_=>n+m+1) (jM F r c)):=λo ho=>by
  refine bH (λk=>((k:Int),mq m (λ_=>n+m+1) (λi=>if i=r\/i<k then jM F r c i else F i))) m (mq m (λ_=>n+m+1) (jM F r c)) ?_ (λk hk=>?_) ?_ ho
  ·refine Prod.ext Y (kS (λi hi=>⟨Y,λk _=>?_⟩));by_cases e:i=r
   ·subst e;simp
   simp[e]
  ·have gk:(mq m (λ_=>n+m+1) (λi=>if i=r\/i<k then jM F r c i else F i))[k]? =some (vq (n+m+1) (if k=r then jM F r c k else F k)):=by
    rw[fu hk];congr 2;by_cases e:k=r
    ·rw[if_pos (.inl e),if_pos e]
    rw[if_neg (by omega),if_neg e]
   have hl:(mq m (λ_=>n+m+1) (λi=>if i=r\/i<k then jM F r c i else F i)).length=m:=cM _ _ _;have gr:(mq m (λ_=>n+m+1) (λi=>if i=r\/i<k then jM F r c i else F i))[r]? =some (vq (n+m+1) (jM F r c r)):=by
    rw[fu hr,if_pos (.inl Y)]
   by_cases e:k=r
   ·have s:mq m (λ_=>n+m+1) (λi=>if i=r\/i<k then jM F r c i else F i)=mq m (λ_=>n+m+1) (λi=>if i=r\/i<k+1 then jM F r c i else F i):=kS (λi _=>⟨Y,λ_ _=>by
     by_cases q:i=r\/i<k
     ·rw[if_pos q,if_pos (by omega)]
     rw[if_neg q,if_neg (by omega)]⟩)
    show(some (decide ((k:Int)<(m:Int)))).bind _=_;refine aB (dT (by omega))<|bO Y<|aB (b9 (by omega))<|aB gk<|aB (dF (by omega))<|bW<|bG Y<|aB (congrArg some (bM (by omega))) ?_;rw[s]
   rw[if_neg e]at gk;have rm:=abG h hL hr hc h0 (o0:=o0) (o1:=o1) (o2:=o2) (o3:=o3) gr hk e;have s:(mq m (λ_=>n+m+1) (λi=>if i=r\/i<k then jM F r c i else F i)).set k (vq (n+m+1) (jM F r c k))=mq m (λ_=>n+m+1) (λi=>if i=r\/i<k+1 then jM F r c i else F i):=by
    rw[Y8 hk];refine kS (λi _=>⟨Y,λ_ _=>?_⟩);by_cases q:i=k
    ·subst q;rw[if_pos Y,if_pos (.inr (by omega))]
    rw[if_neg q];by_cases q2:i=r\/i<k
    ·rw[if_pos q2,if_pos (by omega)]
    rw[if_neg q2,if_neg (by omega)]
   rw[<-s];generalize mq m (λ_=>n+m+1) (λi=>if i=r\/i<k then jM F r c i else F i)=rows at*;show(some (decide ((k:Int)<(m:Int)))).bind _=_;exact aB (dT (by omega))<|bO Y<|aB (b9 (by omega))<|aB gk<|aB (dT (by omega))<|bW<|bO Y<|aB rm<|aB (b9 (by omega))<|aB (dS (by omega))<|aB (congrArg some (bM (by omega))) Y
  have s:mq m (λ_=>n+m+1) (λi=>if i=r\/i<m then jM F r c i else F i)=mq m (λ_=>n+m+1) (jM F r c):=kS (λi hi=>⟨Y,λ_ _=>by rw[if_pos (.inr hi)]⟩);show(some (decide ((m:Int)<(m:Int)))).bind _=_;rw[s];exact aB (dF (by omega))<|bG Y Y
 unfold cX;have scM:ue (vq (n+m+1) (F r)) (qn (1/F r c))=some (vq (n+m+1) (jM F r c r)):=by
  unfold ue;generalize qn (1/F r c)=q at*;obtain⟨⟨_,_⟩,⟨_,_⟩⟩:=q;exact aB sc Y
 generalize qn (1/F r c)=q3 at*;generalize qn (F r c)=q2 at*;generalize qn 1=q1 at*;obtain⟨⟨_,_⟩,⟨_,_⟩⟩:=q1;obtain⟨⟨_,_⟩,⟨_,_⟩⟩:=q2;obtain⟨⟨_,_⟩,⟨_,_⟩⟩:=q3;refine aB e1<|aB (b9 QD)<|aB g1<|aB (bz g2)<|aB dv<|aB (b9 QD)<|aB g1<|aB scM<|aB (b9 QD)<|aB st<|aB (congrArg some (by rw[cM])) ?_;refine Eq.trans (congrArg (λG=>(bX _ ((0:Int),mq m (λ_=>n+m+1) G)).bind _) ?_) (loop _ Y);funext i;by_cases e:i=r
 ·rw[if_pos e]
 rw[if_neg e]
theorem Y9(h:vv L n m p O F b)(hL:L<=100000000){r c:Nat}(hr:r<m)(hc:c<n+m)(hb:∀j,j<m->b j≠c)(h0:F r c≠0):
  dA true n (mq p (λ_=>n) O) (bq m b) (mq m (λ_=>n+m+1) F) r c=some (0,mq p (λ_=>n) O,bq m (λj=>if j=r then c else b j),mq m (λ_=>n+m+1) (jM F r c)):=by
 have hm:=h.hm;have hn:=h.hn;have sv:=Sy h hL hr (show c<n+m+1 by omega) h0 (o0:=true) (o1:=(n:Int)) (o2:=mq p (λ_=>n) O) (o3:=bq m b);have g1:(mq m (λ_=>n+m+1) F)[r]? =some (vq (n+m+1) (F r)):=fu hr;have g2:(vq (n+m+1) (F r))[c]? =some (qn (F r c)):=iM (by omega);have sg:=((h.f r hr c).rep h.l1).sign (by omega);have QD:r<(mq m (λ_=>n+m+1) F).length:=by rw[cM];exact hr
 have Mb:=mZ m b;have bs:=aha (b:=b) (c:=c) hr;have bg:∀j,j<m->(bq m b)[j]? =some ((b j:Nat):Int):=λj hj=>o9 hj;have wd:iI (⟨true,(n:Int),mq p (λ_=>n) O,bq m b,mq m (λ_=>n+m+1) F⟩:Tb)=some ((n+m:Nat):Int):=NT hn hm;have ms:dB (⟨true,(n:Int),mq p (λ_=>n) O,bq m b,mq m (λ_=>n+m+1) F⟩:Tb)=some false:=pJ n m p O F b;have rl:=cM m (λ_=>n+m+1) F;unfold dA;rw[<-bs];generalize bq m b=B at*;generalize mq m (λ_=>n+m+1) F=rows at*;refine aB ms<|bG Y<|bW<|aB (dF (by omega))<|aB (a:=false) (bG Y<|aB Y<|aB (dF (by omega)) Y)<|aB (a:=false) (bG Y<|aB (dF (by omega)) Y)<|aB (a:=false) (bG Y<|aB wd<|aB (dF (by omega)) Y)<|bG Y<|aB Y ?_;refine bH (λk=>(k:Int)) m (.inl ()) Y (λk hk=>?_) ?_ ?_
 ·exact aB (dT (by omega))<|bO Y<|aB (b9 (by omega))<|aB (bg k hk)<|aB (dF (by have:=hb k hk;omega))<|bG Y<|aB (congrArg some (bM (by omega))) Y
 ·exact aB (dF (by omega))<|bG Y Y
 generalize qn (F r c)=q at*;obtain⟨⟨_,_⟩,⟨_,_⟩⟩:=q;exact aB (b9 QD)<|aB g1<|aB (bz g2)<|aB sg<|aB (dF (λe=>h0 (oW.1 e)))<|bG Y<|aB sv<|aB (b9 (by omega))<|aB (dS (by omega)) Y
end tab
def pL(n m:Nat)(R:Nat->Nat->Rat)(g:Nat->Rat)(i k:Nat):Rat:=if k<n then R i k else if k=n+i then 1 else if k=n+m then g i else 0
theorem tw(k w:Nat)(G:Nat->Nat->Rat):mq (k+1) (λ_=>w) G=mq k (λ_=>w) G++[vq w (G k)]:=by simp[mq,List.range_succ]
section new
variable {L M K n:Nat}{ob rw:List (List Qr)}{bd:List Qr}{O R:Nat->Nat->Rat}{g:Nat->Rat}
theorem Za{m i:Nat}(hi:i<m):(λj=>if j=n+m then g i else if j=n+i then(1:Rat)else if j<n then R i j else 0)=pL n m R g i:=by
 funext j;unfold pL;by_cases h1:j<n
 ·rw[if_neg (by omega),if_neg (by omega),if_pos h1,if_pos h1]
 rw[if_neg h1,if_neg h1];by_cases h2:j=n+i
 ·rw[if_neg (by omega),if_pos h2,if_pos h2]
 rw[if_neg h2,if_neg h2]
theorem ahe(ho:jk M ob O)(hr:jk L rw R)(hb:ek K bd g)(hM:M<=4000000000)(hL:L<=4000000000)(hK:K<=4000000000)(hv:Gs n ob rw bd):
  dW ⟨(n:Int),ob,rw,bd⟩=some (true,(n:Int),mq ob.length (λ_=>n) O,bq rw.length (λj=>n+j),mq rw.length (λ_=>n+rw.length+1) (pL n rw.length R g)):=by
 obtain⟨v1,v2,v3,v4,v5,v6,v7,v8⟩:=hv;have n64:n<=64:=by omega
 have aq8:∀v∈ob,v.length<=n:=xl.1 (by omega);unfold dW;refine aB Y ?_;refine bH (λk=>((k:Int),mq k (λ_=>n) O)) ob.length (mq ob.length (λ_=>n) O) Y (λk hk=>?_) ?_ ?_
 ·have g1:=jF (d:=[]) hk;have rs:=TQ (ho.row k) (by omega) (by have:=aq8 _ (List.mem_of_getElem? g1);omega) (n:Int);rw[show(min (n:Int) 65536).toNat=n by omega]at rs;refine aB (dT (by omega))<|bO Y<|aB (bz g1)<|aB rs<|aB (nQ (by decide) (by rw[cM];omega))<|aB (congrArg some (bM (by omega))) ?_;rw[tw]
 ·exact aB (dF (by omega))<|bG Y Y
 refine aB Y ?_;refine bH (λk=>((k:Int),bq k (λj=>n+j),mq k (λ_=>n+rw.length+1) (pL n rw.length R g))) rw.length (bq rw.length (λj=>n+j),mq rw.length (λ_=>n+rw.length+1) (pL n rw.length R g)) Y (λi hi=>?_) (aB (dF (by omega))<|bG Y Y) Y;obtain⟨q,hq,rq⟩:=hb.get (i:=i) (by omega);have cn:=(rq.canon (by omega)).1;have e1:=one_eq.1;have wl:IntKind.i64.wrap ((n:Int)+(rw.length:Int))=((n+rw.length:Nat):Int):=by rw[cG (by omega) (by omega)];omega
 have wl2:IntKind.i64.wrap (((n+rw.length:Nat):Int)+1)=((n+rw.length+1:Nat):Int):=bM (by omega);have wi:IntKind.i64.wrap ((n:Int)+(i:Int))=((n+i:Nat):Int):=by rw[cG (by omega) (by omega)];omega
 refine aB (dT (by omega))<|bO Y<|aB Y<|aB (congrArg some wl)<|aB (congrArg some wl2)<|aB (Y3 (n+rw.length+1) (by omega)) ?_;rw[HE];refine bH (λk=>((k:Int),vq (n+rw.length+1) (λj=>if j<k then R i j else 0))) n (vq (n+rw.length+1) (λj=>if j<n then R i j else 0)) (by simp) (λk hk=>?_) (aB (dF (by omega))<|bG Y Y) ?_
 ·have at_:=ag8 hr (by omega) i k;have s:=uE (k:=n+rw.length+1) (j:=k) (h:=λj=>if j<k then R i j else 0) (x:=R i k) (by omega);have s2:vq (n+rw.length+1) (λj=>if j=k then R i k else if j<k then R i j else 0)=vq (n+rw.length+1) (λj=>if j<k+1 then R i j else 0):=dG (λj _=>by
   by_cases e:j=k
   ·subst e;simp
   rw[if_neg e];by_cases e2:j<k
   ·rw[if_pos e2,if_pos (by omega)]
   rw[if_neg e2,if_neg (by omega)])
  rw[s2]at s;have hl:=bY (n+rw.length+1) (λj=>if j<k then R i j else 0);rw[<-s];generalize vq (n+rw.length+1) (λj=>if j<k then R i j else 0)=l at*;clear s s2;generalize qn (R i k)=q at*;obtain⟨⟨_,_⟩,⟨_,_⟩⟩:=q;exact aB (dT (by omega))<|bO Y<|aB at_<|aB (b9 (by omega))<|aB (dS (by omega))<|aB (congrArg some (bM (by omega))) Y
 have s1:=uE (k:=n+rw.length+1) (j:=n+i) (h:=λj=>if j<n then R i j else 0) (x:=1) (by omega);have s2:=uE (k:=n+rw.length+1) (j:=n+rw.length) (h:=λj=>if j=n+i then 1 else if j<n then R i j else 0) (x:=g i) (by omega);rw[Za hi]at s2;have ZS:=bY (n+rw.length+1) (λj=>if j<n then R i j else 0);have hl2:=bY (n+rw.length+1) (λj=>if j=n+i then 1 else if j<n then R i j else 0);have b1:=mZ i (λj=>n+j);have b2:=TU i (λj=>n+j);have m1:=cM i (λ_=>n+rw.length+1) (pL n rw.length R g);have m2:=tw i (n+rw.length+1) (pL n rw.length R g);have st1:=dS (y:=qn 1) (show n+i<(vq (n+rw.length+1) (λj=>if j<n then R i j else 0)).length by omega);have st2:=dS (y:=qn (g i)) (show n+rw.length<(vq (n+rw.length+1) (λj=>if j=n+i then 1 else if j<n then R i j else 0)).length by omega);rw[s1]at st1;rw[s2]at st2;generalize vq (n+rw.length+1) (λj=>if j<n then R i j else 0)=l1 at*;generalize vq (n+rw.length+1) (λj=>if j=n+i then 1 else if j<n then R i j else 0)=l2 at*;generalize vq (n+rw.length+1) (pL n rw.length R g i)=l3 at*;generalize qn (g i)=q' at*;generalize qn 1=q1 at*;obtain⟨⟨_,_⟩,⟨_,_⟩⟩:=q;obtain⟨⟨_,_⟩,⟨_,_⟩⟩:=q';obtain⟨⟨_,_⟩,⟨_,_⟩⟩:=q1
 refine aB (congrArg some wi)<|aB e1<|aB (b9 (by omega))<|aB st1<|aB Y<|aB (congrArg some (show IntKind.i64.wrap ((l2.length:Int)-1)=((n+rw.length:Nat):Int) by rw[hl2,cG (by omega) (by omega)];omega))<|aB (bz hq)<|aB cn<|aB (b9 (by omega))<|aB st2<|aB (nQ (by decide) (by omega))<|aB (congrArg some wi)<|aB (nQ (by decide) (by omega))<|aB (congrArg some (bM (by omega))) ?_;rw[b2,m2]
theorem HH(ho:jk L ob O)(hr:jk L rw R)(hb:ek L bd g)(hL:2<=L)(hv:Gs n ob rw bd):vv L n rw.length ob.length O (pL n rw.length R g) (λj=>n+j):=by
 obtain⟨v1,v2,v3,v4,v5,v6,v7,v8⟩:=hv;refine⟨λi hi k=>?_,λi hi k=>(ho.row i).fq k,λi hi k hk=>?_,by omega,by omega,by omega,by omega,λj hj=>by show n+j<_;omega⟩
 ·unfold pL;split
  ·exact(hr.row i).fq k
  split
  ·exact one_eq.2.fq.mono hL
  split
  ·exact hb.fq i
  exact nN (by omega)
 unfold pL;rw[if_neg (by omega),if_neg (by omega),if_neg (by omega)]
theorem aq9(ho:jk M ob O)(hr:jk L rw R)(hb:ek K bd g)(hM:M<=4000000000)(hL:L<=4000000000)(hK:K<=4000000000)(hv:Gs n ob rw bd):
  nq ⟨(n:Int),ob,rw,bd⟩=some (true,(n:Int),mq ob.length (λ_=>n) O,bq rw.length (λj=>n+j),mq rw.length (λ_=>n+rw.length+1) (pL n rw.length R g)):=by
 have v:=JK (n:=(n:Int)) (ob:=ob) (rw:=rw) (bd:=bd) (by obtain⟨_,_,_,h,_⟩:=hv;omega) (by obtain⟨_,_,_,_,h,_⟩:=hv;omega);rw[decide_eq_true hv]at v;unfold nq;exact aB v<|aB Y<|bG Y<|aB (ahe ho hr hb hM hL hK hv) Y
end new
end
section
open Go.Fw
theorem zj(h:Nat->Nat->Rat)(m:Nat):∀n,cw (λi=>cw (λj=>h i j) m) n=cw (λj=>cw (λi=>h i j) n) m
 |0=>by
  show(0:Rat)=cw (λj=>(0:Rat)) m;rw[qM]
 |n+1=>by
  show cw (λi=>cw (λj=>h i j) m) n+cw (λj=>h n j) m=cw (λj=>cw (λi=>h i j) n+h n j) m;rw[zj h m n,EG]
def CF(n m:Nat)(F:Nat->Nat->Rat)(z:Nat->Rat):Prop:=∀i,i<m->cw (λk=>F i k*z k) (n+m)=F i (n+m)
def Uc(m:Nat)(F:Nat->Nat->Rat)(b:Nat->Nat):Prop:=∀i j,i<m->j<m->F i (b j)=if i=j then 1 else 0
section jM
variable {n m r c:Nat}{F:Nat->Nat->Rat}{b:Nat->Nat}{z:Nat->Rat}
theorem B8(N:Nat):cw (λk=>jM F r c r k*z k) N=(F r c)⁻¹*cw (λk=>F r k*z k) N:=by
 rw[<-pI];refine cY (λk _=>?_);unfold jM;rw[if_pos Y,Rat.div_def];grind
theorem B9{i:Nat}(hne:i≠r)(N:Nat):cw (λk=>jM F r c i k*z k) N=cw (λk=>F i k*z k) N-F i c*((F r c)⁻¹*cw (λk=>F r k*z k) N):=by
 rw[<-pI,<-pI,<-zg];refine cY (λk _=>?_);unfold jM;rw[if_neg hne,Rat.div_def];grind
theorem NV(hr:r<m)(h0:F r c≠0):CF n m (jM F r c) z↔CF n m F z:=by
 have hi:F r c*(F r c)⁻¹=1:=Rat.mul_inv_cancel _ h0;have pr:jM F r c r (n+m)=(F r c)⁻¹*F r (n+m):=by unfold jM;rw[if_pos Y,Rat.div_def];grind
 have pi:∀i,i≠r->jM F r c i (n+m)=F i (n+m)-F i c*((F r c)⁻¹*F r (n+m)):=λi h=>by unfold jM;rw[if_neg h,Rat.div_def];grind
 constructor
 ·intro h;have e:=h r hr;rw[B8,pr]at e;have er:cw (λk=>F r k*z k) (n+m)=F r (n+m):=by
   have:=congrArg (λx=>F r c*x) e;simp only[<-Rat.mul_assoc,hi,Rat.one_mul]at this;exact this
  intro i hi';by_cases q:i=r
  ·subst q;exact er
  have e2:=h i hi';rw[B9 q,pi i q,er]at e2;grind
 intro h i hi';by_cases q:i=r
 ·subst q;rw[B8,pr,h _ hi']
 rw[B9 q,pi i q,h i hi',h r hr]
theorem JO(hr:r<m)(h0:F r c≠0)(hu:Uc m F b):Uc m (jM F r c) (λj=>if j=r then c else b j):=by
 have hi:F r c*(F r c)⁻¹=1:=Rat.mul_inv_cancel _ h0;intro i j hi' hj;show jM F r c i (if j=r then c else b j)=_;by_cases e:j=r
 ·subst e;rw[if_pos rfl];unfold jM;by_cases q:i=j
  ·subst q;rw[if_pos Y,if_pos Y,Rat.div_def];exact hi
  rw[if_neg q,if_neg q,Rat.div_def,hi];grind
 rw[if_neg e];have z0:F r (b j)=0:=by rw[hu r j hr hj,if_neg (λq=>e q.symm)]
 unfold jM;rw[z0];by_cases q:i=r
 ·subst q;rw[if_pos Y,if_neg (λq=>e q.symm),Rat.div_def];grind
 rw[if_neg q,hu i j hi' hj,Rat.div_def];grind
end jM
theorem vv.mono{L M n m p:Nat}{O F:Nat->Nat->Rat}{b:Nat->Nat}(h:vv L n m p O F b)(hl:L<=M):vv M n m p O F b:=
 ⟨λi hi k=>(h.f i hi k).mono hl,λi hi k=>(h.o i hi k).mono hl,h.z,Nat.le_trans h.l1 hl,h.hn,h.hm,h.hp,h.hb⟩
end
section
open Go.Fw
theorem Zb(k:List Int):JW (List.replicate k.length 0) k=k:=by unfold JW;simp
theorem Zc{n m p:Nat}{O F:Nat->Nat->Rat}{b:Nat->Nat}(hm:m<=128):kA (LR n m p O F b)=some (bq m b):=by
 unfold kA;refine aB (pJ n m p O F b)<|bG Y<|aB Y<|aB (sV (n:=(bq m b).length) (by decide) (by rw[mZ];omega)) ?_;show some (JW (List.replicate (bq m b).length 0) (bq m b))=_;rw[Zb]
theorem LX(l:List Int)(h:l.length<=1000000):oS l l=some true:=by
 unfold oS;refine aB Y<|aB Y<|aB (dF (by simp))<|bG Y ?_;refine bH (λk=>(k:Int)) l.length (.inl ()) Y (λk hk=>?_) (aB Y<|aB (dF (by omega))<|bG Y Y) Y;have g:=List.getElem?_eq_getElem hk;exact aB Y<|aB (dT (by omega))<|bO Y<|aB (bz g)<|aB (bz g)<|aB (dF (by simp))<|bG Y<|aB (congrArg some (bM (by omega))) Y
def exO(i j:Nat):Rat:=(((([[3,5]]:List (List Int)).getD i []).getD j 0:Int):Rat)
def exR(i j:Nat):Rat:=(((([[1,0],[0,2],[3,2]]:List (List Int)).getD i []).getD j 0:Int):Rat)
def exG(i:Nat):Rat:=((([4,12,18]:List Int).getD i 0:Int):Rat)
def Vd:Nat->Nat->Rat:=pL 2 3 exR exG
def Zd:Nat->Nat->Rat:=jM Vd 1 1
def ahf:Nat->Nat->Rat:=jM Zd 2 0
def Ze(j:Nat):Nat:=2+j
def abI(j:Nat):Nat:=if j=1 then 1 else Ze j
def ahg(j:Nat):Nat:=if j=2 then 0 else abI j
theorem ve{L n:Nat}{f:Nat->Rat}{v:List Qr}{k:Nat->Rat}(h:∀i,i<n->FQ L (f i))(h1:1<=L)(hL:L<=1000000000)(hv:ek 2 v k)(hn:v.length=n)(e:∀i,i<n->f i=k i):gP (vq n f) v=some true:=by
 have:=veq (NS h h1) hv (by omega);rw[this,bY,hn,Nat.max_self,decide_eq_true (λi hi=>by rw[NR hi];exact e i hi)]
set_option maxRecDepth 100000 in
theorem ahh:eP=some true:=by
 obtain⟨eo,ro⟩:=ad5 (l:=[[3,5]]) (by decide) (by decide);obtain⟨er,rr⟩:=ad5 (l:=[[1,0],[0,2],[3,2]]) (by decide) (by decide);obtain⟨eb,rb⟩:=EM (l:=[4,12,18]) (by decide) (by decide);obtain⟨i1,q1⟩:=EM (l:=[-3,1,0]) (by decide) (by decide);obtain⟨i2,q2⟩:=EM (l:=[4,6,6]) (by decide) (by decide);obtain⟨i3,q3⟩:=EM (l:=[30,0,-6]) (by decide) (by decide);obtain⟨i4,q4⟩:=EM (l:=[2,6,2]) (by decide) (by decide);obtain⟨i5,q5⟩:=EM (l:=[2,6]) (by decide) (by decide);obtain⟨i6,q6⟩:=EM (l:=[36,-2,-6]) (by decide) (by decide);have l0:(vq [(4:Int),12,18].length (λi=>(([(4:Int),12,18].getD i 0:Int):Rat))).length=3:=bY _ _;have l1:(vq [(-3:Int),1,0].length (λi=>(([(-3:Int),1,0].getD i 0:Int):Rat))).length=3:=bY _ _;have l2:(vq [(4:Int),6,6].length (λi=>(([(4:Int),6,6].getD i 0:Int):Rat))).length=3:=bY _ _;have l3:(vq [(30:Int),0,-6].length (λi=>(([(30:Int),0,-6].getD i 0:Int):Rat))).length=3:=bY _ _;have l4:(vq [(2:Int),6,2].length (λi=>(([(2:Int),6,2].getD i 0:Int):Rat))).length=3:=bY _ _;have l5:(vq [(2:Int),6].length (λi=>(([(2:Int),6].getD i 0:Int):Rat))).length=2:=bY _ _;have l6:(vq [(36:Int),-2,-6].length (λi=>(([(36:Int),-2,-6].getD i 0:Int):Rat))).length=3:=bY _ _
 generalize hmo:mq [[(3:Int),5]].length _ _=mo at eo ro;generalize hmr:mq [[(1:Int),0],[0,2],[3,2]].length _ _=mr at er rr;generalize vq [(4:Int),12,18].length _=vb at eb rb l0;generalize vq [(-3:Int),1,0].length _=v1 at i1 q1 l1;generalize vq [(4:Int),6,6].length _=v2 at i2 q2 l2;generalize vq [(30:Int),0,-6].length _=v3 at i3 q3 l3;generalize vq [(2:Int),6,2].length _=v4 at i4 q4 l4;generalize vq [(2:Int),6].length _=v5 at i5 q5 l5;generalize vq [(36:Int),-2,-6].length _=v6 at i6 q6 l6;have lo:mo.length=1:=by rw[<-hmo,cM];rfl
 have lr:mr.length=3:=by rw[<-hmr,cM];rfl
 have wo:∀v∈mo,v.length<=2:=by rw[<-hmo];decide+kernel
 have wr:∀v∈mr,v.length<=2:=by rw[<-hmr];decide+kernel
 have co:oZ mo<=2:=xl.2 wo;have cr:oZ mr<=2:=xl.2 wr;have hv:Gs ((2:Nat):Int) mo mr vb:=⟨by decide,by decide,by omega,by omega,by omega,by omega,by omega,by omega⟩;have eN:=aq9 (n:=2) ro rr rb (by decide) (by decide) (by decide) hv;have k0:=HH (n:=2) ro rr rb (by decide) hv;rw[lo,lr]at eN k0;have k0:vv 2 2 3 1 exO Vd Ze:=k0;have eN:nq ⟨2,mo,mr,vb⟩=some (true,2,mq 1 (λ_=>2) exO,bq 3 Ze,mq 3 (λ_=>6) Vd):=eN;have p1:Vd 1 1≠0:=by decide+kernel
 have p2:Zd 2 0≠0:=by decide+kernel
 have k1:vv 9 2 3 1 exO Zd abI:=JN k0 (r:=1) (c:=1) (by decide) (by decide) p1;have k2:vv 37 2 3 1 exO ahf ahg:=JN k1 (r:=2) (c:=0) (by decide) (by decide) p2;have t1:dA true 2 (mq 1 (λ_=>2) exO) (bq 3 Ze) (mq 3 (λ_=>6) Vd) 1 1=some (0,mq 1 (λ_=>2) exO,bq 3 abI,mq 3 (λ_=>6) Zd):=Y9 k0 (by decide) (r:=1) (c:=1) (by decide) (by decide) (by decide+kernel) p1;have t2:dA true 2 (mq 1 (λ_=>2) exO) (bq 3 abI) (mq 3 (λ_=>6) Zd) 2 0=some (0,mq 1 (λ_=>2) exO,bq 3 ahg,mq 3 (λ_=>6) ahf):=Y9 k1 (by decide) (r:=2) (c:=0) (by decide) (by decide) (by decide+kernel) p2;have a0:kA (LR 2 3 1 exO Vd Ze)=some [2,3,4]:=Zc (by decide);have a0':=LX [2,3,4] (by decide);have a1:=Sx k0 (by decide);have b1:=ve (λi hi=>k0.f i hi 5) (by decide) (by decide) rb l0 (by decide+kernel);have a2:=(LU k0 (by decide) (c:=0) (by decide)).1;have b2:=ve (λi (_:i<3)=>(LU k0 (by decide) (c:=0) (by decide)).2.fq i) (by decide) (by decide) q1 l1 (by decide+kernel);have a3:=Sx k1 (by decide);have b3:=ve (λi hi=>k1.f i hi 5) (by decide) (by decide) q2 l2 (by decide+kernel);have a4:=NU k1 (by decide);have b4:=ve (λi (_:i<3)=>HG k1 (λj hj=>k1.f j hj 5) 3 (Nat.le_refl _) i) (by decide) (by decide) q3 l3 (by decide+kernel)
 have a5:=JM k1 (by decide);rw[decide_eq_false (by decide+kernel)]at a5;have a6:=Sx k2 (by decide);have b6:=ve (λi hi=>k2.f i hi 5) (by decide) (by decide) q4 l4 (by decide+kernel);have a7:=LV k2 (by decide);have s7:∀i,i<2->FQ 37 (rT 2 3 ahf ahg 3 i):=λi hi=>by
  match i,hi with
  |0,_=>exact k2.f 2 (by decide) 5
  |1,_=>exact k2.f 1 (by decide) 5
 have b7:=ve s7 (by decide) (by decide) q5 l5 (by decide+kernel);have a8:=NU k2 (by decide);have b8:=ve (λi (_:i<3)=>HG k2 (λj hj=>k2.f j hj 5) 3 (Nat.le_refl _) i) (by decide) (by decide) q6 l6 (by decide+kernel);have a9:=JM k2 (by decide);rw[decide_eq_true (by decide+kernel)]at a9;have a10:=LW k2 (by decide);rw[decide_eq_true (by decide+kernel)]at a10;unfold eP tq;refine aB (aB eo<|aB er<|aB eb Y)<|aB eN<|bW ?_;refine aB (a:=false) (bG Y Y)<|aB (a:=false) (bG Y<|aB a0<|aB a0'<|aB Y Y)<|aB (a:=false) (bG Y<|aB a1<|aB eb<|aB b1<|aB Y Y)<|aB (a:=false) (bG Y<|aB a2<|aB i1<|aB b2<|aB Y Y)<|bG Y<|aB t1<|bW ?_;refine aB (dF (by decide))<|aB (a:=false) (bG Y<|aB a3<|aB i2<|aB b3<|aB Y Y)<|aB (a:=false) (bG Y<|aB a4<|aB i3<|aB b4<|aB Y Y)<|aB (a:=false) (bG Y<|aB a5 Y)<|bG Y<|aB t2<|bW ?_;exact aB (dT Y)<|Y1 (aB a6<|aB i4<|aB b6 Y)<|Y1 (aB a7<|aB i5<|aB b7 Y)<|Y1 (aB a8<|aB i6<|aB b8 Y)<|Y1 (aB a9 Y)<|Y1 (aB a10 Y) Y
end
section
open Go.Fw
theorem Zf{l:List (List Qr)}{i:Nat}{P:List Qr->Prop}(hi:i<l.length)(ht:∀v∈l.take i,P v)(hp:P l[i]):∀v∈l.take (i+1),P v:=by
 rw[List.take_add_one,List.getElem?_eq_getElem hi];intro u hu;rcases List.mem_append.1 hu with h|h
 ·exact ht u h
 simp at h;rw[h];exact hp
abbrev Sml(v:List Qr):Prop:=v.length<=20/\∀q∈v,q.num.w.length<=6/\q.den.w.length<=6
abbrev Sm8(v:List Qr):Prop:=v.length<=8/\∀q∈v,q.num.w.length<=6/\q.den.w.length<=6
theorem Qs(l:List (List Qr))(hl:l.length<=9223372036854775807):∃b,oQ l=some b/\(b=false->∀v∈l,Sml v):=by
 unfold oQ;refine mX (λy=>∃i:Nat,y=(i:Int)/\i<=l.length/\∀v∈l.take i,Sml v) (λe=>(∃c,e=.inl c/\∀v∈l,Sml v)\/e=.inr true) (λy=>l.length-y.toNat) ?_ ⟨0,Y,by omega,by simp⟩ ?_
 ·rintro _ ⟨i,rfl,hi,ht⟩;by_cases hlt:i<l.length
  ·have g:=List.getElem?_eq_getElem hlt;by_cases h1:20<l[i].length
   ·exact .inr ⟨.inr true,aB Y<|aB (dT (by omega))<|bO Y<|bW<|aB (bz g)<|aB Y<|aB (dT (by omega))<|aB (a:=true) (bO Y Y) Y,.inr Y⟩
   obtain⟨b,hb,hs⟩:=YZ l[i] (by omega);cases b
   ·refine .inl ⟨((i+1:Nat):Int),?_,⟨i+1,Y,hlt,Zf hlt ht ⟨by omega,hs Y⟩⟩,by simp only[Int.toNat_natCast];omega⟩;exact aB Y<|aB (dT (by omega))<|bO Y<|bW<|aB (bz g)<|aB Y<|aB (dF (by omega))<|aB (a:=false) (bG Y<|aB (bz g)<|aB hb Y)<|bG Y<|aB (congrArg some (bM (by omega))) Y
   exact .inr ⟨.inr true,aB Y<|aB (dT (by omega))<|bO Y<|bW<|aB (bz g)<|aB Y<|aB (dF (by omega))<|aB (a:=true) (bG Y<|aB (bz g)<|aB hb Y) Y,.inr Y⟩
  refine .inr ⟨.inl (),?_,.inl ⟨(),Y,?_⟩⟩
  ·exact aB Y<|aB (dF (by omega))<|bG Y Y
  rw[List.take_of_length_le (by omega)]at ht;exact ht
 rintro e (⟨c,rfl,he⟩|rfl)
 ·exact⟨false,Y,λ_=>he⟩
 exact⟨true,rfl,λh=>by cases h⟩
theorem vw(m:List (List Qr))(h:m.length<=9223372036854775806):cS m=some (oZ m:Int):=by
 unfold cS;refine bH (λj=>(((m.take j).foldl (λn v=>max n v.length) 0:Nat),(j:Int))) m.length ((oZ m:Nat):Int) (by simp) (λj hj=>?_) ?_ Y
 ·refine aB Y<|aB (dT (by omega))<|bO Y<|aB (bz (List.getElem?_eq_getElem hj))<|aB Y<|aB Y<|aB (congrArg some (bM (by omega))) ?_;rw[List.take_add_one,List.getElem?_eq_getElem hj,List.foldl_append];simp only[Option.toList_some,List.foldl_cons,List.foldl_nil];congr 3;omega
 refine aB Y<|aB (dF (by omega))<|bG Y ?_;rw[List.take_length];rfl
theorem Qt(m:List (List Qr)):∃b,oR [m]=some b/\(b=false->m.length<=8/\∀v∈m,Sm8 v):=by
 unfold oR;have hg:cL [m] (0:Int)=some m:=rfl;by_cases h8:8<m.length
 ·refine⟨true,?_,λh=>by cases h⟩;refine bH (λj=>(j:Int)) 0 (.inr true) Y (λj hj=>by omega) ?_ Y;exact aB Y<|aB (dT (by simp))<|bO Y<|bW<|aB hg<|aB Y<|aB (dT (by omega))<|aB (a:=true) (bO Y Y)<|aB (a:=true) (bO Y Y) Y
 by_cases hc:8<oZ m
 ·refine⟨true,?_,λh=>by cases h⟩;refine bH (λj=>(j:Int)) 0 (.inr true) Y (λj hj=>by omega) ?_ Y;exact aB Y<|aB (dT (by simp))<|bO Y<|bW<|aB hg<|aB Y<|aB (dF (by omega))<|aB (a:=true) (bG Y<|aB hg<|aB (vw m (by omega))<|aB (dT (by omega)) Y)<|aB (a:=true) (bO Y Y) Y
 obtain⟨b,hb,hs⟩:=Qs m (by omega);cases b
 ·refine⟨false,?_,λ_=>⟨by omega,λv hv=>⟨?_,(hs Y v hv).2⟩⟩⟩
  ·refine bH (λj=>(j:Int)) 1 (.inl ()) Y (λj hj=>?_) (aB Y<|aB (dF (by simp))<|bG Y Y) Y;obtain rfl:j=0:=by omega
   exact aB Y<|aB (dT (by simp))<|bO Y<|bW<|aB hg<|aB Y<|aB (dF (by omega))<|aB (a:=false) (bG Y<|aB hg<|aB (vw m (by omega))<|aB (dF (by omega)) Y)<|aB (a:=false) (bG Y<|aB hg<|aB hb Y)<|bG Y<|aB (congrArg some (bM (by omega))) Y
  have:=xl.1 (Nat.le_refl (oZ m)) v hv;omega
 refine⟨true,?_,λh=>by cases h⟩;refine bH (λj=>(j:Int)) 0 (.inr true) Y (λj hj=>by omega) ?_ Y;exact aB Y<|aB (dT (by simp))<|bO Y<|bW<|aB hg<|aB Y<|aB (dF (by omega))<|aB (a:=false) (bG Y<|aB hg<|aB (vw m (by omega))<|aB (dF (by omega)) Y)<|aB (a:=true) (bG Y<|aB hg<|aB hb Y)<|bO Y Y
theorem abJ(m:List (List Qr))(h:m.length<=1000):rG m=some (decide (∀i,i<m.length->(m.getD i []).length=0)):=by
 unfold rG;refine aB (zh (p:=λi=>(m.getD i []).length=0) (e:=false) (n:=m.length) (λi hi=>?_) (aB Y<|aB (dF (by omega))<|bG Y Y)) ?_
 ·refine aB Y<|aB (dT (by omega))<|bO Y<|aB (bz (jF (d:=[]) hi))<|aB Y<|aB Y ?_;by_cases hz:(m.getD i []).length=0
  ·rw[if_pos hz];exact bG (decide_eq_false (by omega))<|aB (congrArg some (bM (by omega))) Y
  rw[if_neg hz];exact bO (decide_eq_true (by omega)) Y
 by_cases hp:∀i,i<m.length->(m.getD i []).length=0
 ·rw[if_pos hp,decide_eq_true hp]
 rw[if_neg hp,decide_eq_false hp]
structure Sm6 (ob rw:List (List Qr)) (bd:List Qr):Prop where
 lo:ob.length<=6
 lr:rw.length<=140
 lb:bd.length<=140
 so:∀v∈ob,Sm8 v
 sr:∀v∈rw,Sm8 v
 sb:Sml (bd.take (min bd.length 20))
theorem Zg{n:Int}{ob rw:List (List Qr)}{bd:List Qr}:∃b,rH ⟨n,ob,rw,bd⟩=some b/\(b=false->Sm6 ob rw bd):=by
 unfold rH;obtain⟨b1,e1,s1⟩:=Qt rw;obtain⟨b2,e2,s2⟩:=Qt ob;have akH:uy bd=some (bd.take (min bd.length 20)):=by
  unfold uy;have hm:min (bd.length:Int) 20=((min bd.length 20:Nat):Int):=by omega
  refine aB Y<|aB (congrArg some hm)<|aB (yZ (by omega)) Y
 obtain⟨b3,e3,s3⟩:=Qs [bd.take (min bd.length 20)] (by simp);by_cases c1:6<ob.length
 ·exact⟨true,bW<|aB rfl<|aB (dT (by omega))<|aB (a:=true) (bO rfl rfl)<|aB (a:=true) (bO rfl rfl)<|aB (a:=true) (bO rfl rfl)<|aB (a:=true) (bO rfl rfl)<|aB (a:=true) (bO rfl rfl)<|aB (a:=true) (bO rfl rfl) rfl,λh=>by cases h⟩
 by_cases c2:140<rw.length
 ·exact⟨true,bW<|aB rfl<|aB (dF (by omega))<|aB (a:=true) (bG rfl<|aB rfl<|aB (dT (by omega)) rfl)<|aB (a:=true) (bO rfl rfl)<|aB (a:=true) (bO rfl rfl)<|aB (a:=true) (bO rfl rfl)<|aB (a:=true) (bO rfl rfl)<|aB (a:=true) (bO rfl rfl) rfl,λh=>by cases h⟩
 by_cases c3:140<bd.length
 ·exact⟨true,bW<|aB rfl<|aB (dF (by omega))<|aB (a:=false) (bG rfl<|aB rfl<|aB (dF (by omega)) rfl)<|aB (a:=true) (bG rfl<|aB rfl<|aB (dT (by omega)) rfl)<|aB (a:=true) (bO rfl rfl)<|aB (a:=true) (bO rfl rfl)<|aB (a:=true) (bO rfl rfl)<|aB (a:=true) (bO rfl rfl) rfl,λh=>by cases h⟩
 have eb:=abJ rw (by omega);by_cases c4:8<rw.length
 ·by_cases c5:∀i,i<rw.length->(rw.getD i []).length=0
  ·rw[decide_eq_true c5]at eb;refine⟨_,bW<|aB Y<|aB (dF (by omega))<|aB (a:=false) (bG Y<|aB Y<|aB (dF (by omega)) Y)<|aB (a:=false) (bG Y<|aB Y<|aB (dF (by omega)) Y)<|aB (a:=false) (bG Y<|aB Y<|aB (dT (by omega))<|aB (a:=false) (bO Y<|aB eb<|aB Y Y) Y)<|aB (a:=false) (bG Y<|aB Y<|aB (dF (by omega))<|aB (a:=false) (bG Y Y) Y)<|LQ (λ_=>aB e2 Y)<|LQ (λ_=>aB akH<|aB e3 Y) Y,λh=>?_⟩;simp only[Bool.false_or,Bool.or_eq_false_iff]at h;refine⟨by omega,by omega,by omega,(s2 h.1).2,λv hv=>?_,s3 h.2 _ (by simp)⟩;obtain⟨i,hi,rfl⟩:=List.getElem_of_mem hv;have:=c5 i hi;rw[List.getD_eq_getElem?_getD,List.getElem?_eq_getElem hi]at this;have h0:rw[i]=[]:=List.eq_nil_of_length_eq_zero this;rw[h0];exact⟨by decide,by simp⟩
  rw[decide_eq_false c5]at eb;exact⟨true,bW<|aB rfl<|aB (dF (by omega))<|aB (a:=false) (bG rfl<|aB rfl<|aB (dF (by omega)) rfl)<|aB (a:=false) (bG rfl<|aB rfl<|aB (dF (by omega)) rfl)<|aB (a:=true) (bG rfl<|aB rfl<|aB (dT (by omega))<|aB (a:=true) (bO rfl<|aB eb<|aB rfl rfl) rfl)<|aB (a:=true) (bO rfl rfl)<|aB (a:=true) (bO rfl rfl)<|aB (a:=true) (bO rfl rfl) rfl,λh=>by cases h⟩
 refine⟨_,bW<|aB Y<|aB (dF (by omega))<|aB (a:=false) (bG Y<|aB Y<|aB (dF (by omega)) Y)<|aB (a:=false) (bG Y<|aB Y<|aB (dF (by omega)) Y)<|aB (a:=false) (bG Y<|aB Y<|aB (dF (by omega))<|aB (a:=false) (bG Y Y) Y)<|LQ (c:=b1) (λ_=>aB Y<|aB (dT (by omega))<|aB (a:=b1) (bO Y<|aB e1 Y) Y)<|LQ (λ_=>aB e2 Y)<|LQ (λ_=>aB akH<|aB e3 Y) Y,λh=>?_⟩;simp only[Bool.false_or,Bool.or_eq_false_iff]at h;exact⟨by omega,by omega,by omega,(s2 h.1.2).2,(s1 h.1.1).2,s3 h.2 _ (by simp)⟩
end
section
open Go.Fw
abbrev OkM(m:List (List Qr)):Prop:=m.length<=9223372036854775807/\∀v∈m,OkV v
abbrev OkL(p:Lr):Prop:=gB p.vars/\OkM p.Kc/\OkM p.rows/\OkV p.bounds
theorem ad7{m:List (List Qr)}(h:OkM m)(s:∀v∈m,Sm8 v):jk 6 m (Sv m):=
 abB (λv hv=>TJ (λq hq=>Y0 ((h.2 v hv).2 q hq) ((s v hv).2 q hq).1 ((s v hv).2 q hq).2 (by decide)) (by decide)) (by decide)
theorem akJ{v:List Qr}(h:OkV v)(s:Sml v):ek 6 v (NL v):=TJ (λq hq=>Y0 (h.2 q hq) (s.2 q hq).1 (s.2 q hq).2 (by decide)) (by decide)
section refs
variable {n:Int}{ob rw:List (List Qr)}{bd:List Qr}
theorem akK:kK ⟨n,ob,rw,bd⟩=some (decide (Gs n ob rw bd)):=by
 have sh:∀(m:List (List Qr)),m.length<=9223372036854775806->nv m n=some (decide ((oZ m:Int)<=n)):=λm hm=>by
  unfold nv;exact aB (vw m hm)<|aB Y Y
 unfold kK;refine bW<|aB Y<|LQ (λ_=>aB Y Y)<|LQ (λ_=>aB Y<|aB Y Y)<|LQ (λ_=>aB Y<|aB Y Y)<|LQ (λ_=>aB Y<|aB Y Y)<|LQ (λ_=>aB Y<|aB Y<|aB Y Y)<|Qq (λh=>?_) (λh=>bW<|aB (sh ob (by simp only[Bool.or_eq_false_iff,decide_eq_false_iff_not]at h;omega))<|Y2 (λ_=>aB (sh rw (by simp only[Bool.or_eq_false_iff,decide_eq_false_iff_not]at h;omega)) Y) ?_)
 ·congr 1;symm;rw[decide_eq_false_iff_not];simp only[Bool.or_eq_true,decide_eq_true_eq]at h;unfold Gs;omega
 congr 1;simp only[Bool.or_eq_false_iff,decide_eq_false_iff_not]at h;rw[<-Bool.decide_and,decide_eq_decide];unfold Gs;omega
end refs
end
section
open Go.Fw
section sol
variable {L n m p:Nat}{O F:Nat->Nat->Rat}{b:Nat->Nat}{z:Nat->Rat}
theorem Qu:∀j k,n<=k->rT n m F b j k=0
 |0,_,_=>rfl
 |j+1,k,hk=>by
  show(if b j<n/\k=b j then F j (n+m)else rT n m F b j k)=0;rw[if_neg (by omega),Qu j k hk]
theorem TW(h:vv L n m p O F b):∀j,j<=m->∀k,FQ L (rT n m F b j k)
 |0,_,_=>nN h.l1
 |j+1,hj,k=>by
  show FQ L (if b j<n/\k=b j then F j (n+m)else rT n m F b j k);split
  ·exact h.f j (by omega) _
  exact TW h j (by omega) k
theorem FN{R:Nat->Nat->Rat}{g:Nat->Rat}:Uc m (pL n m R g) (λj=>n+j):=λi j hi hj=>by
 show pL n m R g i (n+j)=_;unfold pL;rw[if_neg (by omega)];by_cases e:i=j
 ·rw[if_pos (by omega),if_pos e]
 rw[if_neg (by omega),if_neg (by omega),if_neg e]
end sol
def Vr:Nat->Nat
 |0=>6
 |k+1=>4*Vr k+1
theorem ad8:∀k,k<12->Vr k<=100000000:=by decide
theorem al7:(eP.bind λx=>some x)=some true:=aB ahh Y
theorem Zh{n:Int}{ob rw:List (List Qr)}{bd:List Qr}:∃b,mU ⟨n,ob,rw,bd⟩=some b/\(b=false->Sm6 ob rw bd/\(Gs n ob rw bd->rw.length<=5/\n<=6)):=by
 obtain⟨b1,e1,s1⟩:=Zg (n:=n) (ob:=ob) (rw:=rw) (bd:=bd);have my:=akK (n:=n) (ob:=ob) (rw:=rw) (bd:=bd);unfold mU;refine⟨_,bW<|aB e1<|LQ (c:=decide (5<rw.length)&&decide (Gs n ob rw bd)) (λ_=>aB Y<|aB (congrArg some (decide_eq_decide.2 (show(5:Int)<(rw.length:Int)↔5<rw.length by omega)))<|Y2 (λ_=>aB my Y) Y)<|LQ (c:=decide (6<n)&&decide (Gs n ob rw bd)) (λ_=>aB Y<|Y2 (λ_=>aB my Y) Y) Y,λh=>?_⟩;simp only[Bool.or_eq_false_iff,Bool.and_eq_false_iff,decide_eq_false_iff_not]at h;refine⟨s1 h.1.1,λhv=>⟨?_,?_⟩⟩
 ·rcases h.1.2 with q|q
  ·omega
  exact absurd hv q
 rcases h.2 with q|q
 ·omega
 exact absurd hv q
end
section
open Go.Fw
section two
variable {L K n m p:Nat}{O F G:Nat->Nat->Rat}{b c:Nat->Nat}
theorem xY(hb:∀j,j<m->b j<n+m)(f h:Nat->Rat):cw (λl=>f l*cw (λj=>if b j=l then h j else 0) m) (n+m)=cw (λj=>f (b j)*h j) m:=by
 rw[show(λl=>f l*cw (λj=>if b j=l then h j else 0) m)=λl=>cw (λj=>f l*(if b j=l then h j else 0)) m from funext λl=>(pI _ _ _).symm,zj];refine cY (λj hj=>?_);rw[gj (hb j hj) (λi _ hne=>by rw[if_neg (λq=>hne q.symm)];grind),if_pos rfl]
theorem FO(hb:∀j,j<m->b j<n+m)(hu:Uc m F b)(hs:∀z,CF n m F z->CF n m G z){i k:Nat}(hi:i<m)(hk:k<=n+m):G i k=cw (λs=>G i (b s)*F s k) m:=by
 have one:∀(h:Nat->Rat) (i:Nat),i<m->cw (λj=>F i (b j)*h j) m=h i:=λh i hi=>by
  rw[gj hi (λj hj hne=>by rw[hu i j hi hj,if_neg (λq=>hne q.symm)];grind),hu i i hi hi,if_pos rfl];grind
 have s0:CF n m F (λl=>cw (λj=>if b j=l then F j (n+m)else 0) m):=λi hi=>by rw[xY hb,one _ i hi]
 have g0:=hs _ s0 i hi;rw[xY hb]at g0;by_cases e:k=n+m
 ·rw[e,<-g0]
 have hk':k<n+m:=by omega
 have pt:∀(f:Nat->Rat),cw (λl=>f l*(cw (λj=>if b j=l then F j (n+m)else 0) m+((if l=k then 1 else 0)-cw (λj=>if b j=l then F j k else 0) m))) (n+m)=cw (λj=>f (b j)*F j (n+m)) m+(f k-cw (λj=>f (b j)*F j k) m):=λf=>by
  rw[<-xY hb f (λj=>F j (n+m)),<-xY hb f (λj=>F j k)];have e1:f k=cw (λl=>f l*(if l=k then 1 else 0)) (n+m):=by
   rw[gj hk' (λi _ hne=>by rw[if_neg hne];grind),if_pos rfl];grind
  rw[e1,<-zg,<-EG];exact cY (λl _=>by grind)
 have s1:CF n m F (λl=>cw (λj=>if b j=l then F j (n+m)else 0) m+((if l=k then 1 else 0)-cw (λj=>if b j=l then F j k else 0) m)):=λi hi=>by
  rw[pt (F i),one _ i hi,one _ i hi];grind
 have g1:=hs _ s1 i hi;rw[pt (G i),g0]at g1;grind
end two
end
section
open Go.Fw
def sp(i q r:Nat):Nat:=if r=i then q else if r=q then i else r
theorem TX(i q r:Nat):sp i q (sp i q r)=r:=by
 unfold sp;by_cases h1:r=i
 ·rw[if_pos h1];by_cases h2:q=i
  ·rw[if_pos h2];omega
  rw[if_neg h2,if_pos rfl];exact h1.symm
 rw[if_neg h1];by_cases h2:r=q
 ·rw[if_pos h2,if_pos rfl];exact h2.symm
 rw[if_neg h2,if_neg h1,if_neg h2]
theorem xm{i q r m:Nat}(hi:i<m)(hq:q<m)(hr:r<m):sp i q r<m:=by
 unfold sp;split
 ·exact hq
 split
 ·exact hi
 exact hr
theorem ahi{i q r s:Nat}(h:sp i q r=sp i q s):r=s:=by rw[<-TX i q r,h,TX]
theorem Zi{m w i q:Nat}{F:Nat->Nat->Rat}(hi:i<m)(hq:q<m):((mq m (λ_=>w) F).set i (vq w (F q))).set q (vq w (F i))=mq m (λ_=>w) (λr=>F (sp i q r)):=by
 apply List.ext_getElem?;intro j;rw[List.getElem?_set,List.getElem?_set,List.length_set,cM];by_cases hj:j<m
 ·rw[fu hj,fu hj];show _=some (vq w (F (sp i q j)));unfold sp;by_cases e1:q=j
  ·rw[if_pos e1,if_pos hq];by_cases e2:j=i
   ·rw[if_pos e2,e1,e2]
   rw[if_neg e2,if_pos e1.symm]
  rw[if_neg e1];by_cases e2:i=j
  ·rw[if_pos e2,if_pos hi,if_pos e2.symm]
  rw[if_neg e2,if_neg (λe=>e2 e.symm),if_neg (λe=>e1 e.symm)]
 rw[List.getElem?_eq_none (l:=mq m _ _) (by rw[cM];omega),List.getElem?_eq_none (l:=mq m _ _) (by rw[cM];omega),if_neg (by omega),if_neg (by omega)]
section sw
variable {L n m p i q:Nat}{O F:Nat->Nat->Rat}{b:Nat->Nat}
theorem vv.sw(h:vv L n m p O F b)(hi:i<m)(hq:q<m):vv L n m p O (λr=>F (sp i q r)) (λr=>b (sp i q r)):=
 ⟨λr hr k=>h.f _ (xm hi hq hr) k,h.o,λr hr k hk=>h.z _ (xm hi hq hr) k hk,h.l1,h.hn,h.hm,h.hp,λj hj=>h.hb _ (xm hi hq hj)⟩
theorem Zj(hu:Uc m F b)(hi:i<m)(hq:q<m):Uc m (λr=>F (sp i q r)) (λr=>b (sp i q r)):=λr s hr hs=>by
 show F (sp i q r) (b (sp i q s))=_;rw[hu _ _ (xm hi hq hr) (xm hi hq hs)];by_cases e:r=s
 ·rw[if_pos e,if_pos (by rw[e])]
 rw[if_neg e,if_neg (λw=>e (ahi w))]
theorem SA{z:Nat->Rat}(hi:i<m)(hq:q<m):CF n m (λr=>F (sp i q r)) z↔CF n m F z:=
 ⟨λh r hr=>by have:=h (sp i q r) (xm hi hq hr);simp only[TX]at this;exact this,λh r hr=>h _ (xm hi hq hr)⟩
end sw
section from_
variable {n:Nat}{ob rw:List (List Qr)}{bd:List Qr}{O R F:Nat->Nat->Rat}{g:Nat->Rat}{b c:Nat->Nat}
theorem Ve{m p:Nat}(hm:rw.length=m)(hp:ob.length=p)(ro:jk 6 ob O)(rr:jk 6 rw R)(rb:ek 6 bd g)(hv:Gs (n:Int) ob rw bd)(hm5:m<=5)(nO:∀i,i<m->c i<n+m)(hinj:∀i j,i<m->j<m->c i=c j->i=j)
  (hu:Uc m F b) (hz:∀z,CF n m F z↔CF n m (pL n m R g) z) (hc:∀i,i<m->∃j,j<m/\b j=c i):
  ∃G,ji ⟨(n:Int),ob,rw,bd⟩ (bq m c)=some (true,(n:Int),mq p (λ_=>n) O,bq m c,mq m (λ_=>n+m+1) G)/\vv 6485 n m p O G c/\Uc m G c/\∀z,CF n m F z↔CF n m G z:=by
 have v:=JK (n:=(n:Int)) (ob:=ob) (rw:=rw) (bd:=bd) (by obtain⟨_,_,_,h,_⟩:=hv;omega) (by omega);rw[decide_eq_true hv]at v;have eN:=ahe (n:=n) ro rr rb (by decide) (by decide) (by decide) hv;have k0:=HH (n:=n) ro rr rb (by decide) hv;have hn:=k0.hn;rw[hm,hp]at k0 eN;have u0:Uc m (pL n m R g) (λj=>n+j):=FN;generalize pL n m R g=F0 at*;have bl:=mZ m c;have bg:∀j,j<m->(bq m c)[j]? =some ((c j:Nat):Int):=λj hj=>o9 hj
 have fin:∃e,(bX (λ(EU:Int×(List (List Qr))×(List Int)×(List (List Qr)))=>match EU with|⟨c7,fJ,fK,ct⟩=>(show Option ((Int×(List (List Qr))×(List Int)×(List (List Qr)))⊕(((List (List Qr))×(List Int)×(List (List Qr)))⊕(Bool×Int×(List (List Qr))×(List Int)×(List (List Qr)))))from(some (decide ((c7:Int)<(m:Int)))).bind λDt=>(bif Dt then(cL (bq m c) c7).bind λDu=>(bX (λ(fE:Int)=>(show Option ((Int)⊕(Int))from cE (λ(qk:Bool)=>(bif qk then(some (IntKind.i64.wrap (fE+1))).bind λIe=>some (.inl Ie)else some (.inr fE))) λK80=>(some (ct.length:Int)).bind λJ0=>(some (decide ((fE:Int)<J0))).bind λHo=>(bif Ho then(kW ct fE).bind λJ2=>(ct[J2]?).bind λF3=>(cL F3 Du).bind λ⟨⟨Ao,Ap⟩,⟨Aq,Ar⟩⟩=>(fg ⟨⟨Ao,Ap⟩,⟨Aq,Ar⟩⟩).bind λN3=>(some (decide ((N3:Int)=0))).bind λJ1=>some J1 else some false).bind λuT=>K80 uT)) c7).bind λfG=>(some (ct.length:Int)).bind λOB=>(some (decide ((fG:Int)=OB))).bind λLD=>(bif LD then none else(kW ct fG).bind λEn=>(ct[En]?).bind λAR=>(kW ct c7).bind λDN=>(ct[DN]?).bind λCj=>(kW ct c7).bind λKH=>(stM ct KH AR).bind λTq=>(kW Tq fG).bind λKI=>(stM Tq KI Cj).bind λTr=>(cX true (n:Int) fJ fK Tr c7 Du).bind λ⟨UQ,UR,US⟩=>(some (IntKind.i64.wrap (c7+1))).bind λAT=>some (.inl (AT,UQ,UR,US)))else some (.inr (.inl (fJ,fK,ct)))))) (0,mq p (λ_=>n) O,bq m (λj=>n+j),mq m (λ_=>n+m+1) F0))=some e/\∃G,e=.inl (mq p (λ_=>n) O,bq m (λj=>n+j),mq m (λ_=>n+m+1) G)/\vv 6485 n m p O G c/\Uc m G c/\∀z,CF n m F z↔CF n m G z:=by
  refine yC (λs=>∃(k:Nat) (H:Nat->Nat->Rat) (d:Nat->Nat),s=((k:Int),mq p (λ_=>n) O,bq m (λj=>n+j),mq m (λ_=>n+m+1) H)/\k<=m/\vv (Vr k) n m p O H d/\Uc m H d/\(∀z,CF n m F z↔CF n m H z)/\∀s,s<k->d s=c s) (λe=>∃G,e=Sum.inl (mq p (λ_=>n) O,bq m (λj=>n+j),mq m (λ_=>n+m+1) G)/\vv 6485 n m p O G c/\Uc m G c/\∀z,CF n m F z↔CF n m G z) (λs=>m-s.1.toNat) ?_ ⟨0,F0,λj=>n+j,Y,Nat.zero_le _,(show vv (Vr 0) n m p O F0 (λj=>n+j)from k0),u0,hz,λs hs=>by omega⟩;rintro _ ⟨k,H,d,rfl,hk,ht,hd,hs,hdc⟩;by_cases hlt:k<m
  ·left;obtain⟨t,htm,et⟩:=hc k hlt;have ex:∃q,k<=q/\q<m/\H q (c k)≠0:=by
    refine Classical.byContradiction (λno=>?_);have e:=FO ht.hb hd (λz=>(hs z).2) (i:=t) (k:=c k) htm (Nat.le_of_lt (nO k hlt));rw[<-et,hu t t htm htm,if_pos Y,cY (k:=λ_=>0) (λs hs'=>?_),qM]at e
    ·exact absurd e (by decide)
    by_cases w:s<k
    ·obtain⟨j,hj,ej⟩:=hc s hs';rw[hdc s w,<-ej,hu t j htm hj,if_neg (λq=>?_)]
     ·grind
     have:=hinj s k hs' hlt (by rw[<-ej,<-et,q]);omega
    have:H s (b t)=0:=Classical.byContradiction (λw2=>no ⟨s,by omega,hs',by rw[<-et];exact w2⟩);rw[this];grind
   have szk:Vr k<=100000000:=ad8 k (by omega);have hck:=nO k hlt;have QD:=cM m (λ_=>n+m+1) H;have fl:∃y,(bX (λ(fE:Int)=>(show Option ((Int)⊕(Int))from cE (λ(qk:Bool)=>(bif qk then(some (IntKind.i64.wrap (fE+1))).bind λIe=>some (.inl Ie)else some (.inr fE))) λK80=>(some ((mq m (λ_=>n+m+1) H).length:Int)).bind λJ0=>(some (decide ((fE:Int)<J0))).bind λHo=>(bif Ho then(kW (mq m (λ_=>n+m+1) H) fE).bind λJ2=>((mq m (λ_=>n+m+1) H)[J2]?).bind λF3=>(cL F3 ((c k:Nat):Int)).bind λ⟨⟨Ao,Ap⟩,⟨Aq,Ar⟩⟩=>(fg ⟨⟨Ao,Ap⟩,⟨Aq,Ar⟩⟩).bind λN3=>(some (decide ((N3:Int)=0))).bind λJ1=>some J1 else some false).bind λuT=>K80 uT)) (k:Int))=some y/\∃q:Nat,y=(q:Int)/\k<=q/\q<m/\H q (c k)≠0:=by
    refine yC (λy=>∃t q:Nat,y=(t:Int)/\k<=t/\t<=q/\q<m/\H q (c k)≠0) (λy=>∃q:Nat,y=(q:Int)/\k<=q/\q<m/\H q (c k)≠0) (λy=>m-y.toNat) ?_ (by obtain⟨q,h1,h2,h3⟩:=ex;exact⟨k,q,Y,Nat.le_refl _,h1,h2,h3⟩);rintro _ ⟨t,q,rfl,h1,h2,h3,h4⟩;have g1:(mq m (λ_=>n+m+1) H)[t]? =some (vq (n+m+1) (H t)):=fu (by omega);have g2:(vq (n+m+1) (H t))[c k]? =some (qn (H t (c k))):=iM (by omega);have sg:=((ht.f t (by omega) (c k)).rep ht.l1).sign (by omega);have zz:oV (H t (c k)) 0=0↔H t (c k)=0:=oW;generalize mq m (λ_=>n+m+1) H=rows at*;generalize qn (H t (c k))=w at*;obtain⟨⟨_,_⟩,⟨_,_⟩⟩:=w;by_cases e:H t (c k)=0
    ·left;have:t≠q:=λw=>h4 (w▸e);refine⟨((t+1:Nat):Int),?_,⟨t+1,q,Y,by omega,by omega,h3,h4⟩,by simp only[Int.toNat_natCast];omega⟩;exact bW<|aB Y<|aB (dT (by omega))<|aB (a:=true) (bO Y<|aB (b9 (by omega))<|aB g1<|aB (bz g2)<|aB sg<|aB (dT (zz.2 e)) Y)<|bO Y<|aB (congrArg some (bM (by omega))) Y
    right;refine⟨(t:Int),?_,t,Y,h1,by omega,e⟩;exact bW<|aB Y<|aB (dT (by omega))<|aB (a:=false) (bO Y<|aB (b9 (by omega))<|aB g1<|aB (bz g2)<|aB sg<|aB (dF (λw=>e (zz.1 w))) Y)<|bG Y Y
   obtain⟨y,fl,q,rfl,hkq,Vf,hq0⟩:=fl;have s1:=ht.sw hlt Vf;have h0:(λr=>H (sp k q r)) k (c k)≠0:=by
    show H (sp k q k) (c k)≠0;unfold sp;rw[if_pos rfl];exact hq0
   have sv:=Sy s1 szk hlt (show c k<n+m+1 by omega) h0 (o0:=true) (o1:=(n:Int)) (o2:=mq p (λ_=>n) O) (o3:=bq m (λj=>n+j));rw[<-Zi hlt Vf]at sv;have gq:(mq m (λ_=>n+m+1) H)[q]? =some (vq (n+m+1) (H q)):=fu Vf;have gk:(mq m (λ_=>n+m+1) H)[k]? =some (vq (n+m+1) (H k)):=fu hlt;refine⟨(((k+1:Nat):Int),mq p (λ_=>n) O,bq m (λj=>n+j),mq m (λ_=>n+m+1) (jM (λr=>H (sp k q r)) k (c k))),?_,⟨k+1,_,_,Y,hlt,JN s1 hlt hck h0,JO hlt h0 (Zj hd hlt Vf),λz=>((hs z).trans (SA hlt Vf).symm).trans (NV hlt h0).symm,λs hs'=>?_⟩,by simp only[Int.toNat_natCast];omega⟩
   ·generalize mq m (λ_=>n+m+1) (jM (λr=>H (sp k q r)) k (c k))=akL at*;refine aB (dT (by omega))<|bO Y<|aB (bz (bg k hlt))<|aB fl ?_;generalize mq m (λ_=>n+m+1) H=rows at*;exact aB Y<|aB (dF (by omega))<|bG Y<|aB (b9 (by omega))<|aB gq<|aB (b9 (by omega))<|aB gk<|aB (b9 (by omega))<|aB (dS (by omega))<|aB (b9 (by rw[List.length_set];omega))<|aB (dS (by rw[List.length_set];omega))<|aB sv<|aB (congrArg some (bM (by omega))) Y
   show(if s=k then c k else d (sp k q s))=c s;by_cases e:s=k
   ·rw[if_pos e,e]
   rw[if_neg e];unfold sp;rw[if_neg e,if_neg (by omega)];exact hdc s (by omega)
  right;obtain rfl:k=m:=by omega
  have sz:Vr k<=6485:=by
   have:∀k,k<6->Vr k<=6485:=by decide
   exact this k (by omega)
  have t1:=ht.mono sz;refine⟨_,aB (dF (by omega))<|bG Y Y,H,Y,⟨t1.f,t1.o,t1.z,t1.l1,t1.hn,t1.hm,t1.hp,nO⟩,λi j hi hj=>by rw[<-hdc j hj];exact hd i j hi hj,hs⟩
 obtain⟨e,hl,G,rfl,hG,hGu,hGs⟩:=fin;refine⟨G,?_,hG,hGu,hGs⟩;have cp:JW (bq m (λj=>n+j)) (bq m c)=bq m c:=by
  unfold JW;rw[mZ,mZ,List.drop_eq_nil_of_le (by rw[mZ];exact Nat.le_refl m),List.append_nil,List.take_of_length_le (by rw[mZ];exact Nat.le_refl m)]
 unfold ji;refine bW<|aB v<|aB Y<|aB (a:=false) (bG Y<|aB Y<|aB Y<|aB (dF (by omega)) Y)<|bG Y<|aB Y<|aB (congrArg some (show IntKind.i64.wrap ((n:Int)+(rw.length:Int))=((n+m:Nat):Int) by rw[cG (by omega) (by omega)];omega))<|aB (sV (by decide) (by omega))<|aB (congrArg some (show((bq m c).length:Int)=(m:Int) by rw[bl])) ?_;refine fM (λs=>∃(k:Nat) (u:List Bool),s=((k:Int),u)/\k<=m/\u.length=n+m/\∀l,u[l]? =some true->∃s,s<k/\c s=l) (λe=>e=.inl ()) (λs=>m-s.1.toNat) ?_ ⟨0,_,Y,Nat.zero_le _,by simp,λl hl=>by
  rw[List.getElem?_replicate]at hl;split at hl
  ·cases hl
  cases hl⟩ ?_
 ·rintro _ ⟨k,u,rfl,hk,hul,hut⟩;by_cases hlt:k<m
  ·left;have hck:=nO k hlt;obtain⟨w,hw⟩:∃w,u[c k]? =some w:=⟨u[c k]'(by omega),List.getElem?_eq_getElem (by omega)⟩;have hw2:w=false:=by
    cases w
    ·rfl
    obtain⟨s,hs,es⟩:=hut _ hw;have:=hinj s k (by omega) hlt es;omega
   subst hw2;refine⟨(((k+1:Nat):Int),u.set (c k) true),?_,⟨k+1,_,Y,hlt,by rw[List.length_set];exact hul,λl hl=>?_⟩,by simp only[Int.toNat_natCast];omega⟩
   ·exact aB (dT (by omega))<|bO Y<|aB (bz (bg k hlt))<|bW<|aB (dF (by omega))<|aB (a:=false) (bG Y<|aB Y<|aB (dF (by omega)) Y)<|aB (a:=false) (bG Y<|aB (b9 (by omega))<|aB hw Y)<|bG Y<|aB (b9 (by omega))<|aB (dS (by omega))<|aB (congrArg some (bM (by omega))) Y
   rw[List.getElem?_set]at hl;by_cases e:c k=l
   ·exact⟨k,by omega,e⟩
   rw[if_neg e]at hl;obtain⟨s,hs,es⟩:=hut l hl;exact⟨s,by omega,es⟩
  right;exact⟨_,aB (dF (by omega))<|bG Y Y,Y⟩
 rintro _ rfl;refine aB eN<|aB (congrArg some (show((bq m c).length:Int)=(m:Int) by rw[bl])) ?_;refine aB hl ?_;show some (true,(n:Int),mq p (λ_=>n) O,JW (bq m (λj=>n+j)) (bq m c),mq m (λ_=>n+m+1) G)=_;rw[cp]
end from_
end
section
open Go.Fw
theorem aea{α:Type}{l:List α}{x:α}(h:l.length<=1000):nD 24 l [x]=some (l++[x]):=nQ (by decide) (by omega)
section tab
variable {L n m p:Nat}{O F:Nat->Nat->Rat}{b:Nat->Nat}
theorem akM(h:vv L n m p O F b)(hL:L<=4000000000):sM (LR n m p O F b)=some (mq m (λ_=>n+m) F):=by
 have hm:=h.hm;have hn:=h.hn;unfold sM;refine aB (pJ n m p O F b)<|bG Y<|aB (congrArg some (show((mq m (λ_=>n+m+1) F).length:Int)=(m:Int) by rw[cM])) ?_;refine bH (λk=>((k:Int),mq k (λ_=>n+m) F)) m (mq m (λ_=>n+m) F) Y (λk hk=>?_) ?_ Y
 ·have g1:(mq m (λ_=>n+m+1) F)[k]? =some (vq (n+m+1) (F k)):=fu hk;have rs:=TQ (ahc h hk) (by omega) (by rw[bY];omega) ((n+m:Nat):Int);rw[show(min (((n+m:Nat):Int)) 65536).toNat=n+m by omega]at rs;have ap:=aea (l:=mq k (λ_=>n+m) F) (x:=vq (n+m) (F k)) (by rw[cM];omega);rw[<-tw]at ap;refine aB (dT (by omega))<|bO Y<|aB (bz g1)<|aB (NT hn hm)<|aB rs<|aB ap<|aB (congrArg some (bM (by omega))) Y
 exact aB (dF (by omega))<|bG Y Y
theorem ahk(h:vv L n m p O F b)(hL:(m+1)*(L+L+1)<=2000000000):gZ (LR n m p O F b)=some (mq (n+m) (λ_=>p+n) (r9 n m p O F b)):=by
 have hm:=h.hm;have hn:=h.hn;unfold gZ;refine aB (pJ n m p O F b)<|bG Y ?_;have hw:(IntKind.i64.wrap (Tb.vars (LR n m p O F b)+((Tb.rows (LR n m p O F b)).length:Int))).toNat=n+m:=by
  show(IntKind.i64.wrap ((n:Int)+((mq m (λ_=>n+m+1) F).length:Int))).toNat=_;rw[cM,cG (by omega) (by omega)];omega
 refine aB (a:=mq (n+m) (λ_=>p+n) (r9 n m p O F b)) ?_ Y;refine Eq.trans (congrArg (λk=>uM _ k []) hw) ?_;refine E8 (λk=>mq k (λ_=>p+n) (r9 n m p O F b)) (n+m) (λk hk=>?_);have ap:=aea (l:=mq k (λ_=>p+n) (r9 n m p O F b)) (x:=vq (p+n) (r9 n m p O F b k)) (by rw[cM];omega);rw[<-tw]at ap;exact aB Y<|aB (LU h hL hk).1<|aB ap Y
end tab
end
section
open Go.Fw
theorem BG{α β:Type}{x:Option α}{a:α}{f:α->Option β}{Q:β->Prop}(h:x=some a)(hf:∃r,f a=some r/\Q r):∃r,x.bind f=some r/\Q r:=by rw[h];exact hf
theorem exT{β:Type}{b:Bool}{x y:Option β}{Q:β->Prop}(hb:b=true)(h:∃r,x=some r/\Q r):∃r,(bif b then x else y)=some r/\Q r:=by rw[hb];exact h
theorem zk{S E R:Type}{body:S->Option (S⊕E)}{s:S}{f:E->Option R}{Q:R->Prop}(I:S->Prop)(Post:E->Prop)(μ:S->Nat)
  (step:∀s,I s->∃r,body s=some r/\((∃s',r=.inl s'/\I s'/\μ s'<μ s)\/(∃e,r=.inr e/\Post e))) (h:I s) (hf:∀e,Post e->∃r,f e=some r/\Q r):∃r,(bX body s).bind f=some r/\Q r:=
 mX I Post μ (λs hs=>by
  obtain⟨r,hr,h1⟩:=step s hs;rcases h1 with⟨s',rfl,h2⟩|⟨e,rfl,h2⟩
  ·exact .inl ⟨s',hr,h2⟩
  exact .inr ⟨e,hr,h2⟩) h hf
section tab
variable {L n m p:Nat}{O F G:Nat->Nat->Rat}{b c:Nat->Nat}
end tab
end
section
open Go.Fw
section arc
variable {L K M n:Nat}{rw rv:List (List Qr)}{F G:Nat->Nat->Rat}
theorem NW(h:jk L rw F)(hL:L<=10000000000)(i j:Nat):fD rw (i:Int) (j:Int)=some (qn (F i j)):=by
 unfold fD;rw[xX];by_cases hi:i<rw.length
 ·have g1:=jF (l:=rw) (d:=[]) hi;have e1:=BC (rw.getD i []) j;have e2:=((h.row i).gd j).YV hL;generalize (rw.getD i []).getD j (⟨⟨false,[]⟩,⟨false,[]⟩⟩:Qr)=q at*;generalize qn (F i j)=q2 at*;exact aB (dF (by omega))<|aB (a:=false) (bG Y<|aB Y<|aB (dF (by omega)) Y)<|bG Y<|aB (bz g1)<|aB e1<|aB e2 Y
 rw[h.z i (by omega) j];exact aB (dF (by omega))<|aB (a:=true) (bG Y<|aB Y<|aB (dT (by omega)) Y)<|bO Y Y
theorem LY{a b kd:Nat}{c:Qr}{F:Nat->Nat->Rat}(ha:a<=1024)(hb:b<=1024)(pl:∀i j:Nat,i<a->j<b->eL kd c rw rv (i:Int) (j:Int)=some (qn (F i j))):kJ (a:Int) (b:Int) kd c rw rv=some (mq a (λ_=>b) F):=by
 unfold kJ;obtain⟨⟨c1,c2⟩,⟨c3,c4⟩⟩:=c;refine bH (λi=>((i:Int),mq i (λ_=>b) F)) a (mq a (λ_=>b) F) Y (λi hi=>?_) ?_ Y
 ·refine aB (dT (by omega))<|bO Y ?_;refine bH (λj=>((j:Int),vq j (F i))) b (vq b (F i)) Y (λj hj=>?_) ?_ ?_
  ·have e1:=pl i j hi hj;have e2:nD 64 (vq j (F i)) [qn (F i j)]=some (vq (j+1) (F i)):=by rw[nQ (by decide) (by rw[bY];omega),mY]
   generalize qn (F i j)=q at*;exact aB (dT (by omega))<|bO Y<|aB e1<|aB e2<|aB (congrArg some (bM (by omega))) Y
  ·exact aB (dF (by omega))<|bG Y Y
  have e3:nD 24 (mq i (λ_=>b) F) [vq b (F i)]=some (mq (i+1) (λ_=>b) F):=by
   rw[nQ (by decide) (by rw[cM];omega),tw]
  exact aB e3<|aB (congrArg some (bM (by omega))) Y
 exact aB (dF (by omega))<|bG Y Y
theorem abK(x:List (List Qr))(a b:Int):vS x a b=qL x a b:=rfl
theorem EN{a:Nat}(h:a<=1024):jC (a:Int)=some (a:Int):=by
 unfold jC;exact aB Y<|aB (congrArg some (show min (max (a:Int) 0) 1024=(a:Int) by omega)) Y
theorem akN(h:jk L rw F)(hL:L<=1000000000){a b:Nat}(ha:a<=1024)(hb:b<=1024):qL rw (a:Int) (b:Int)=some (mq a (λ_=>b) F):=by
 have e1:=EK (n:=1) (by decide);have ZS:=h.l1;have r1:kQ 2 (qn ((1:Int):Rat)) ((1:Int):Rat):=(kR (by decide)).2;have hone:∀x:Rat,(((1:Int):Rat))*x=x:=λx=>by
  have:(((1:Int):Rat))=1:=by decide
  rw[this];grind
 have pl:∀i j:Nat,i<a->j<b->eL 0 (qn ((1:Int):Rat)) rw [] (i:Int) (j:Int)=some (qn (F i j)):=λi j _ _=>by
  have e1:=NW h (by omega) i j;have e2:=r1.YW (((h.row i).fq j).rep ZS) (by omega);rw[hone]at e2;unfold eL;generalize qn ((1:Int):Rat)=c at*;generalize qn (F i j)=q at*;exact aB (dF (by decide))<|bG Y<|aB (dF (by decide))<|bG Y<|aB (dF (by decide))<|bG Y<|aB e1<|aB e2 Y
 have e3:=LY (F:=F) ha hb pl;unfold qL;generalize qn ((1:Int):Rat)=c at*;obtain⟨⟨_,_⟩,⟨_,_⟩⟩:=c;exact aB (EN ha)<|aB (EN hb)<|aB e1<|aB e3 Y
end arc
def BH(L:Nat):Nat->Nat
 |0=>L
 |d+1=>4*BH L d+1
theorem Zk(L:Nat):∀d,BH L d<=BH L (d+1):=λd=>by show _<=4*BH L d+1;omega
theorem BI(L:Nat){d e:Nat}(h:d<=e):BH L d<=BH L e:=by
 induction e with
 |zero=>rw[show d=0 by omega];exact Nat.le_refl _
 |succ e ih=>
  by_cases q:d=e+1
  ·rw[q];exact Nat.le_refl _
  exact Nat.le_trans (ih (by omega)) (Zk L e)
theorem EO{L:Nat}(h:1<=L):∀d,1<=BH L d
 |0=>h
 |d+1=>by show 1<=4*BH L d+1;omega
def Nul(r w:Nat)(A:Nat->Nat->Rat)(z:Nat->Rat):Prop:=∀i,i<r->cw (λl=>A i l*z l) w=0
theorem abL{r w d k:Nat}{F:Nat->Nat->Rat}{z:Nat->Rat}(hd:d<r)(h0:F d k≠0):Nul r w (jM F d k) z↔Nul r w F z:=by
 have hi:F d k*(F d k)⁻¹=1:=Rat.mul_inv_cancel _ h0;constructor
 ·intro h;have e:=h d hd;rw[B8]at e;have er:cw (λl=>F d l*z l) w=0:=by
   have:=congrArg (λx=>F d k*x) e;simp only[<-Rat.mul_assoc,hi,Rat.one_mul]at this;rw[this];grind
  intro i hi';by_cases q:i=d
  ·rw[q];exact er
  have e2:=h i hi';rw[B9 q,er]at e2;grind
 intro h i hi';by_cases q:i=d
 ·rw[q,B8,h _ hd];grind
 rw[B9 q,h i hi',h d hd];grind
theorem ahm{r w i q:Nat}{F:Nat->Nat->Rat}{z:Nat->Rat}(hi:i<r)(hq:q<r):Nul r w (λs=>F (sp i q s)) z↔Nul r w F z:=
 ⟨λh s hs=>by have:=h (sp i q s) (xm hi hq hs);simp only[TX]at this;exact this,λh s hs=>h _ (xm hi hq hs)⟩
structure BJ (L r w:Nat) (A:Nat->Nat->Rat) (d k:Nat) (H:Nat->Nat->Rat) (pv:Nat->Nat):Prop where
 hd:d<=r
 f:∀i,i<r->∀l,FQ (BH L d) (H i l)
 z:∀i,i<r->∀l,w<=l->H i l=0
 pl:∀s,s<d->pv s<k
 pu:∀s,s<d->∀q,q<r->H q (pv s)=if q=s then 1 else 0
 el:∀s,s<d->∀l,l<pv s->H s l=0
 ez:∀q,d<=q->q<r->∀l,l<k->H q l=0
 ho:∀z,Nul r w H z↔Nul r w A z
 mo:∀s t,s<t->t<d->pv s<pv t
theorem BJ.skip{L r w d k:Nat}{A H:Nat->Nat->Rat}{pv:Nat->Nat}(h:BJ L r w A d k H pv)(h0:∀q,d<=q->q<r->H q k=0):BJ L r w A d (k+1) H pv:=
 ⟨h.hd,h.f,h.z,λs hs=>by have:=h.pl s hs;omega,h.pu,h.el,λq hq TF l hl=>by
  by_cases e:l=k
  ·rw[e];exact h0 q hq TF
  exact h.ez q hq TF l (by omega),h.ho,h.mo⟩
theorem BJ.step{L r w d k q:Nat}{A H:Nat->Nat->Rat}{pv:Nat->Nat}(h:BJ L r w A d k H pv)(hq:d<=q)(TF:q<r)(h0:H q k≠0):BJ L r w A (d+1) (k+1) (jM (λs=>H (sp d q s)) d k) (λs=>if s=d then k else pv s):=by
 have uF:d<r:=by omega
 have s0:sp d q d=q:=by unfold sp;rw[if_pos rfl]
 have s1:∀s,s<d->sp d q s=s:=λs hs=>by unfold sp;rw[if_neg (by omega),if_neg (by omega)]
 have s2:∀s,d<=s->d<=sp d q s:=λs hs=>by unfold sp;split<;>(try split)<;>omega
 have hk:(λs=>H (sp d q s)) d k≠0:=by show H (sp d q d) k≠0;rw[s0];exact h0
 have fq:∀i,i<r->∀l,FQ (BH L d) (H (sp d q i) l):=λi hi l=>h.f _ (xm uF TF hi) l;have hi:H q k*(H q k)⁻¹=1:=Rat.mul_inv_cancel _ h0;have pd:∀i l,jM (λs=>H (sp d q s)) d k i l=if i=d then H q l/H q k else H (sp d q i) l-H (sp d q i) k*(H q l/H q k):=λi l=>by
  show(if i=d then H (sp d q d) l/H (sp d q d) k else H (sp d q i) l-H (sp d q i) k*(H (sp d q d) l/H (sp d q d) k))=_;rw[s0]
 have keep:∀l,H q l=0->∀i,jM (λs=>H (sp d q s)) d k i l=H (sp d q i) l:=λl hl i=>by
  rw[pd,hl];have e:(0:Rat)/H q k=0:=by rw[Rat.div_def,Rat.zero_mul]
  rw[e];split
  ·rename_i w;rw[w,s0,hl]
  grind
 have zq:∀l,l<k->H q l=0:=λl hl=>h.ez q hq TF l hl;refine⟨by omega,λi hi l=>?_,λi hi l hl=>?_,λs hs=>?_,λs hs i hi'=>?_,λs hs l hl=>?_,λi hi2 hir l hl=>?_,λz=>(abL uF hk).trans ((ahm uF TF).trans (h.ho z)),λs t hst ht=>by
  show(if s=d then k else pv s)<(if t=d then k else pv t);rw[if_neg (by omega)];by_cases e:t=d
  ·rw[if_pos e];exact h.pl s (by omega)
  rw[if_neg e];exact h.mo s t hst (by omega)⟩
 ·have e:=(fq d uF l).div (fq d uF k) hk;show FQ (4*BH L d+1) _;unfold jM;split
  ·exact e.mono (by omega)
  exact((fq i hi l).sub ((fq i hi k).mul e)).mono (by omega)
 ·rw[keep l (h.z q TF l hl)];exact h.z _ (xm uF TF hi) l hl
 ·show(if s=d then k else pv s)<k+1;split
  ·omega
  have:=h.pl s (by omega);omega
 ·show jM (λs=>H (sp d q s)) d k i (if s=d then k else pv s)=_;by_cases e:s=d
  ·rw[if_pos e,e];rw[pd,Rat.div_def,hi];by_cases w:i=d
   ·rw[if_pos w,if_pos w]
   rw[if_neg w,if_neg w];grind
  rw[if_neg e];have hs':s<d:=by omega
  rw[keep (pv s) (zq _ (h.pl s hs')),h.pu s hs' _ (xm uF TF hi')];by_cases w:i=s
  ·rw[if_pos w,if_pos (by rw[w];exact s1 s hs')]
  rw[if_neg w,if_neg (λw2=>w (by
   by_cases v:i<d
   ·rw[s1 i v]at w2;exact w2
   have:=s2 i (by omega);omega))]
 ·replace hl:l<(if s=d then k else pv s):=hl;by_cases e:s=d
  ·rw[if_pos e]at hl;rw[keep l (zq l hl),e,s0];exact zq l hl
  rw[if_neg e]at hl;have hs':s<d:=by omega
  have:=h.pl s hs';rw[keep l (zq l (by omega)),s1 s hs'];exact h.el s hs' l hl
 by_cases e:l=k
 ·rw[e];rw[pd,if_neg (by omega),Rat.div_def,hi];grind
 rw[keep l (zq l (by omega))];exact h.ez _ (s2 i (by omega)) (xm uF TF hir) l (by omega)
end
section
open Go.Fw
theorem SB{S E R:Type}{body:S->Option (S⊕E)}{s:S}{f:E->Option R}{Q:R->Prop}(st:Nat->S)(n:Nat)(e:E)(h0:s=st 0)(hs:∀k,k<n->body (st k)=some (.inl (st (k+1))))(he:body (st n)=some (.inr e))(hf:∃r,f e=some r/\Q r):∃r,(bX body s).bind f=some r/\Q r:=by
 obtain⟨r,h1,h2⟩:=hf;exact⟨r,bH st n e h0 hs he h1,h2⟩
theorem exF{β:Type}{b:Bool}{x y:Option β}{Q:β->Prop}(hb:b=false)(h:∃r,y=some r/\Q r):∃r,(bif b then x else y)=some r/\Q r:=by rw[hb];exact h
theorem LZ{m w i:Nat}{F:Nat->Nat->Rat}{f:Nat->Rat}(hi:i<m):(mq m (λ_=>w) F).set i (vq w f)=mq m (λ_=>w) (λj=>if j=i then f else F j):=by
 apply List.ext_getElem?;intro j;rw[List.getElem?_set,cM];by_cases hj:j<m
 ·rw[fu hj,fu hj];by_cases e:i=j
  ·rw[if_pos e,if_pos hi,if_pos e.symm]
  rw[if_neg e,if_neg (λq=>e q.symm)]
 rw[List.getElem?_eq_none (l:=mq m _ _) (by rw[cM];omega),List.getElem?_eq_none (l:=mq m _ _) (by rw[cM];omega),if_neg (by omega)]
theorem rby{K L:Nat}{a b:Qr}{x y:Rat}(ha:kQ K a x)(hb:kQ L b y)(h:K+L<=4000000000)(h0:y≠0):w6 a b=some (qn (x/y)):=by
 have e:=ha.aq5 hb h h0;unfold w6;obtain⟨⟨_,_⟩,⟨_,_⟩⟩:=a;obtain⟨⟨_,_⟩,⟨_,_⟩⟩:=b;generalize qn (x/y)=q at*;obtain⟨⟨_,_⟩,⟨_,_⟩⟩:=q;exact aB e Y
theorem HI{L r w:Nat}{rows:List (List Qr)}{A:Nat->Nat->Rat}(h:jk L rows A)(hr:rows.length=r)(hc:oZ rows=w)(hr8:r<=100)(hw:w<=100)(hL:BH L (r+1)<=100000000):
  ∃res,jW rows=some res/\∃d H pv,res=(mq d (λ_=>w) H,bq d pv)/\BJ L r w A d w H pv:=by
 have L1:=h.l1;have sz:∀d,d<=r->BH L d<=100000000:=λd hd=>Nat.le_trans (BI L (show d<=r+1 by omega)) hL;have LL:L<=100000000:=sz 0 (by omega);have ft:=akN h (by omega) (a:=r) (b:=w) (by omega) (by omega);rw[<-abK]at ft;have az:∀i,i<r->∀l,w<=l->A i l=0:=λi hi l hl=>(h.row i).z l (by
  have:=xl.1 (Nat.le_of_eq hc) (rows.getD i []) (List.mem_of_getElem? (jF (d:=[]) (by omega)));omega)
 have rc:=vw rows (by omega);rw[hc]at rc;unfold jW;refine BG rc<|BG (congrArg some (show(rows.length:Int)=(r:Int) by rw[hr]))<|BG ft ?_;refine zk (λs=>∃(d k:Nat) (H:Nat->Nat->Rat) (pv:Nat->Nat),s=((d:Int),(k:Int),mq r (λ_=>w) H,bq d pv)/\k<=w/\BJ L r w A d k H pv) (λe=>∃(d:Nat) (H:Nat->Nat->Rat) (pv:Nat->Nat),e=((d:Int),mq r (λ_=>w) H,bq d pv)/\BJ L r w A d w H pv) (λs=>w-s.2.1.toNat) ?_ ⟨0,0,A,λ_=>0,Y,Nat.zero_le _,Nat.zero_le _,λi _ l=>(h.row i).fq l,az,λs hs=>by omega,λs hs=>by omega,λs hs=>by omega,λ_ _ _ l hl=>by omega,λ_=>Iff.rfl,λs t _ ht=>by omega⟩ ?_
 ·rintro _ ⟨d,k,H,pv,rfl,hk,inv⟩;by_cases hlt:k<w
  ·have QD:=cM r (λ_=>w) H;refine BG (dT (by omega))<|exT Y ?_;refine zk (λy=>∃t:Nat,y=(t:Int)/\d<=t/\t<=r/\∀q,d<=q->q<t->H q k=0) (λy=>∃t:Nat,y=(t:Int)/\d<=t/\t<=r/\(∀q,d<=q->q<t->H q k=0)/\(t<r->H t k≠0)) (λy=>r-y.toNat) ?_ ⟨d,Y,Nat.le_refl _,inv.hd,λq h1 h2=>by omega⟩ ?_
   ·rintro _ ⟨t,rfl,h1,h2,h3⟩;by_cases ht:t<r
    ·have g1:(mq r (λ_=>w) H)[t]? =some (vq w (H t)):=fu ht;have g2:(vq w (H t))[k]? =some (qn (H t k)):=iM hlt;have sg:=((inv.f t ht k).rep (EO L1 d)).TP (by have:=sz d inv.hd;omega);have zz:oV (H t k) 0=0↔H t k=0:=oW;generalize mq r (λ_=>w) H=R at*;generalize qn (H t k)=q at*;obtain⟨⟨_,_⟩,⟨_,_⟩⟩:=q;by_cases e:H t k=0
     ·exact⟨_,bW<|aB Y<|aB (dT (by omega))<|aB (a:=true) (bO Y<|aB (b9 (by omega))<|aB g1<|aB (bz g2)<|aB sg<|aB (dT (zz.2 e)) Y)<|bO Y<|aB (congrArg some (bM (by omega))) Y,.inl ⟨_,Y,⟨t+1,Y,by omega,by omega,λq q1 q2=>by
       by_cases w2:q=t
       ·rw[w2];exact e
       exact h3 q q1 (by omega)⟩,by simp only[Int.toNat_natCast];omega⟩⟩
     exact⟨_,bW<|aB Y<|aB (dT (by omega))<|aB (a:=false) (bO Y<|aB (b9 (by omega))<|aB g1<|aB (bz g2)<|aB sg<|aB (dF (λw=>e (zz.1 w))) Y)<|bG Y Y,.inr ⟨_,Y,t,Y,h1,h2,h3,λ_=>e⟩⟩
    exact⟨_,bW<|aB Y<|aB (dF (by omega))<|aB (a:=false) (bG Y Y)<|bG Y Y,.inr ⟨_,Y,t,Y,h1,h2,h3,λw=>by omega⟩⟩
   rintro _ ⟨t,rfl,h1,h2,h3,h4⟩;by_cases ht:t<r
   ·have h0:=h4 ht;have uF:d<r:=by omega
    have st:=inv.step h1 ht h0;have s0:sp d t d=t:=by unfold sp;rw[if_pos rfl]
    have szd:=sz d inv.hd;have g1:(mq r (λ_=>w) H)[t]? =some (vq w (H t)):=fu ht;have g2:(mq r (λ_=>w) H)[d]? =some (vq w (H d)):=fu uF;have esw:=Zi (w:=w) (F:=H) uF ht;obtain⟨F,hF⟩:∃F:Nat->Nat->Rat,F=λs=>H (sp d t s):=⟨_,Y⟩;rw[<-hF]at st esw;have fF:∀i,i<r->∀l,FQ (BH L d) (F i l):=λi hi l=>by rw[hF];exact inv.f _ (xm uF ht hi) l
    have zF:∀i,i<r->∀l,w<=l->F i l=0:=λi hi l hl=>by rw[hF];exact inv.z _ (xm uF ht hi) l hl
    have n0:F d k≠0:=by rw[hF];show H (sp d t d) k≠0;rw[s0];exact h0
    have akO:∀i,i<r->ek (BH L d) (vq w (F i)) (F i):=λi hi=>qo (λl _=>fF i hi l) (zF i hi) (EO L1 d);have one:=EK (n:=1) (by decide);have r1:kQ 2 (qn ((1:Int):Rat)) ((1:Int):Rat):=(kR (by decide)).2;have rx:=(fF d uF k).rep (EO L1 d);have eby:=rby r1 rx (by omega) n0;have rinv:kQ (BH L d+BH L d+2) (qn (((1:Int):Rat)/F d k)) (((1:Int):Rat)/F d k):=((((kR (n:=1) (by decide)).2.fq).div (fF d uF k) n0).mono (by have:=EO L1 d;omega)).rep (by omega);have esc:=St rinv (akO d uF) (by omega) (by rw[bY];omega);have o1:∀x:Rat,(((1:Int):Rat))/F d k*x=x/F d k:=λx=>by
     have:(((1:Int):Rat))=1:=by decide
     rw[this,Rat.div_def,Rat.div_def];grind
    have e6:vq w (λl=>((1:Int):Rat)/F d k*F d l)=vq w (jM F d k d):=dG (λl _=>by unfold jM;rw[if_pos rfl];exact o1 _);rw[bY,e6]at esc;have gd:(mq r (λ_=>w) F)[d]? =some (vq w (F d)):=fu uF;have gx:(vq w (F d))[k]? =some (qn (F d k)):=iM hlt;have are:=LZ (w:=w) (F:=F) (f:=jM F d k d) uF;have fl:=cM r (λ_=>w) F;have apk:nD 8 (bq d pv) [(k:Int)]=some (bq (d+1) (λs=>if s=d then k else pv s)):=by
     rw[nQ (by decide) (by rw[mZ];omega),TU,if_pos rfl];congr 2;unfold bq;exact List.map_congr_left (λs hs=>by
      have:=List.mem_range.1 hs;show((pv s:Nat):Int)=((if s=d then k else pv s:Nat):Int);rw[if_neg (by omega)])
    generalize qn ((1:Int):Rat)=q1 at*;generalize qn (((1:Int):Rat)/F d k)=q2 at*;obtain⟨⟨_,_⟩,⟨_,_⟩⟩:=q1;obtain⟨⟨_,_⟩,⟨_,_⟩⟩:=q2;generalize hq3:qn (F d k)=q3 at*;obtain⟨⟨_,_⟩,⟨_,_⟩⟩:=q3;refine BG Y<|BG (dF (by omega))<|exF Y<|BG (b9 (by omega))<|BG g1<|BG (b9 (by omega))<|BG g2<|BG (b9 (by omega))<|BG (dS (by omega))<|BG (b9 (by rw[List.length_set];omega))<|BG (dS (by rw[List.length_set];omega)) ?_;rw[esw];refine BG one<|BG (b9 (by omega))<|BG gd<|BG (bz gx)<|BG eby<|BG (b9 (by omega))<|BG gd<|BG esc<|BG (b9 (by omega))<|BG (dS (by omega)) ?_;rw[are];refine SB (λi=>((i:Int),mq r (λ_=>w) (λj=>if j=d\/j<i then jM F d k j else F j))) r (mq r (λ_=>w) (jM F d k)) ?_ (λi hi=>?_) ?_ ?_
    ·congr 1;refine kS (λj _=>⟨Y,λl _=>?_⟩);by_cases e:j=d
     ·rw[if_pos e,if_pos (.inl e),e]
     rw[if_neg e,if_neg (by omega)]
    ·have ln:=cM r (λ_=>w) (λj=>if j=d\/j<i then jM F d k j else F j);by_cases e:i=d
     ·have same:mq r (λ_=>w) (λj=>if j=d\/j<i then jM F d k j else F j)=mq r (λ_=>w) (λj=>if j=d\/j<i+1 then jM F d k j else F j):=kS (λj _=>⟨Y,λl _=>by
       by_cases c:j=d\/j<i
       ·rw[if_pos c,if_pos (by omega)]
       rw[if_neg c,if_neg (by omega)]⟩)
      rw[<-same];exact aB (congrArg some (show((mq r (λ_=>w) (λj=>if j=d\/j<i then jM F d k j else F j)).length:Int)=(r:Int) by rw[ln]))<|aB (dT (by omega))<|bO Y<|aB (dF (by omega))<|bW<|bG Y<|aB (congrArg some (bM (by omega))) Y
     have gi:(mq r (λ_=>w) (λj=>if j=d\/j<i then jM F d k j else F j))[i]? =some (vq w (F i)):=by rw[fu hi,if_neg (by omega)]
     have gd2:(mq r (λ_=>w) (λj=>if j=d\/j<i then jM F d k j else F j))[d]? =some (vq w (jM F d k d)):=by rw[fu uF,if_pos (.inl Y)]
     have gk:(vq w (F i))[k]? =some (qn (F i k)):=iM hlt;have ri:=(fF i hi k).rep (EO L1 d);have ng:=ri.ag7 (by omega);have rn:kQ (BH L d) (qn (-F i k)) (-F i k):=(ri.neg (by omega)).2;have rpd:ek (4*BH L d+1) (vq w (jM F d k d)) (jM F d k d):=qo (λl _=>st.f d uF l) (st.z d uF) (by omega);have cb:=TS rn rpd (akO i hi) (by omega) (by rw[bY];omega) (by rw[bY];omega);have e7:vq w (λl=>-F i k*jM F d k d l+F i l)=vq w (jM F d k i):=dG (λl _=>by unfold jM;rw[if_pos Y,if_neg e];grind);rw[bY,bY,Nat.max_self,e7]at cb;have es:=LZ (w:=w) (F:=λj=>if j=d\/j<i then jM F d k j else F j) (f:=jM F d k i) hi;have es2:mq r (λ_=>w) (λj=>if j=i then jM F d k i else(λj=>if j=d\/j<i then jM F d k j else F j) j)=mq r (λ_=>w) (λj=>if j=d\/j<i+1 then jM F d k j else F j):=kS (λj _=>⟨Y,λl _=>by
      show(if j=i then jM F d k i else if j=d\/j<i then jM F d k j else F j) l=(if j=d\/j<i+1 then jM F d k j else F j) l;by_cases c:j=i
      ·rw[if_pos c,if_pos (by omega),c]
      rw[if_neg c];by_cases c2:j=d\/j<i
      ·rw[if_pos c2,if_pos (by omega)]
      rw[if_neg c2,if_neg (by omega)]⟩)
     rw[es2]at es;rw[<-es];generalize mq r (λ_=>w) (λj=>if j=d\/j<i then jM F d k j else F j)=W at*;generalize qn (F i k)=q4 at*;generalize qn (-F i k)=q5 at*;obtain⟨⟨_,_⟩,⟨_,_⟩⟩:=q4;obtain⟨⟨_,_⟩,⟨_,_⟩⟩:=q5;exact aB Y<|aB (dT (by omega))<|bO Y<|aB (dT (by omega))<|bW<|bO Y<|aB (b9 (by omega))<|aB gi<|aB (bz gk)<|aB ng<|aB (b9 (by omega))<|aB gd2<|aB (b9 (by omega))<|aB gi<|aB cb<|aB (b9 (by omega))<|aB (dS (by omega))<|aB (congrArg some (bM (by omega))) Y
    ·have ln:=cM r (λ_=>w) (λj=>if j=d\/j<r then jM F d k j else F j);have all:mq r (λ_=>w) (λj=>if j=d\/j<r then jM F d k j else F j)=mq r (λ_=>w) (jM F d k):=kS (λj hj=>⟨Y,λl _=>by rw[if_pos (.inr hj)]⟩);rw[<-all];exact aB (congrArg some (show((mq r (λ_=>w) (λj=>if j=d\/j<r then jM F d k j else F j)).length:Int)=(r:Int) by rw[ln]))<|aB (dF (by omega))<|bG Y Y
    exact⟨_,aB apk<|aB (congrArg some (bM (by omega)))<|aB (congrArg some (bM (by omega))) Y,.inl ⟨_,Y,⟨d+1,k+1,_,_,Y,by omega,st⟩,by simp only[Int.toNat_natCast];omega⟩⟩
   obtain rfl:t=r:=by omega
   exact⟨_,aB (congrArg some (show((mq t (λ_=>w) H).length:Int)=(t:Int) by rw[QD]))<|aB (dT Y)<|bO Y<|aB (congrArg some (bM (by omega))) Y,.inl ⟨_,Y,⟨d,k+1,H,pv,Y,by omega,inv.skip h3⟩,by simp only[Int.toNat_natCast];omega⟩⟩
  obtain rfl:k=w:=by omega
  exact⟨_,aB (dF (by omega))<|bG Y Y,.inr ⟨_,Y,d,H,pv,Y,inv⟩⟩
 rintro _ ⟨d,H,pv,rfl,inv⟩;refine⟨_,aB (yZ (by rw[cM];exact inv.hd)) Y,d,H,pv,?_,inv⟩;rw[show(mq r (λ_=>w) H).take d=mq d (λ_=>w) H by unfold mq;rw[<-List.map_take,List.take_range,Nat.min_eq_left inv.hd]]
end
section
open Go.Fw
theorem rin{d:Nat}{pv:Nat->Nat}(k:Nat)(hd:d<=1000000):sP (bq d pv) (k:Int)=some (decide (∃s,s<d/\pv s=k)):=by
 unfold sP;have ln:=mZ d pv;refine aB (a:=if ∀s,s<d->pv s≠k then .inl ()else .inr true) (zh (n:=d) (p:=λs=>pv s≠k) (e:=true) (λs hs=>?_) (aB (congrArg some (show((bq d pv).length:Int)=(d:Int) by rw[ln]))<|aB (dF (by omega))<|bG Y Y)) ?_
 ·have g:(bq d pv)[s]? =some ((pv s:Nat):Int):=o9 hs;generalize bq d pv=B at*;refine aB Y<|aB (dT (by omega))<|bO Y<|aB (bz g)<|aB Y ?_;by_cases q:pv s=k
  ·rw[if_neg (λe=>e q)];exact bO (decide_eq_true (by omega)) Y
  rw[if_pos q];exact bG (decide_eq_false (by omega))<|aB (congrArg some (bM (by omega))) Y
 by_cases q:∀s,s<d->pv s≠k
 ·rw[if_pos q];exact congrArg some (decide_eq_false (λ⟨s,h1,h2⟩=>q s h1 h2)).symm
 rw[if_neg q];have:∃s,s<d/\pv s=k:=Classical.byContradiction (λw=>q (λs h1 h2=>w ⟨s,h1,h2⟩));exact congrArg some (decide_eq_true this).symm
def wide(w:Nat)(A:Nat->Nat->Rat)(y:Nat->Rat)(i l:Nat):Rat:=if l<w then A i l else if l=w then y i else 0
theorem aeb{L M r w:Nat}{rows:List (List Qr)}{b:List Qr}{A:Nat->Nat->Rat}{y:Nat->Rat}(h:jk L rows A)(hb:ek M b y)(hL:L<=1000000000)(hr:rows.length=r)(Mb:b.length=r)(hc:oZ rows=w)(hr8:r<=1000)(hw:w<=1000)(hcan:∀i,b.getD i (⟨⟨false,[]⟩,⟨false,[]⟩⟩:Qr)=qn (y i)):
  rL rows b=some (mq r (λ_=>w+1) (wide w A y)):=by
 have rc:=vw rows (by omega);rw[hc]at rc;unfold rL;refine aB rc ?_;refine bH (λi=>((i:Int),mq i (λ_=>w+1) (wide w A y))) r (mq r (λ_=>w+1) (wide w A y)) Y (λi hi=>?_) ?_ Y
 ·refine bW<|aB (congrArg some (show(rows.length:Int)=(r:Int) by rw[hr]))<|aB (dT (by omega))<|aB (a:=true) (bO Y Y)<|bO Y ?_;refine bH (λj=>((j:Int),vq j (wide w A y i))) w (vq w (wide w A y i)) Y (λj hj=>?_) (aB (dF (by omega))<|bG Y Y) ?_
  ·have e1:=NW h (by omega) i j;have e0:wide w A y i j=A i j:=if_pos hj;have e2:nD 64 (vq j (wide w A y i)) [qn (A i j)]=some (vq (j+1) (wide w A y i)):=by rw[nQ (by decide) (by rw[bY];omega),mY,e0]
   generalize qn (A i j)=q at*;exact aB (dT (by omega))<|bO Y<|aB e1<|aB e2<|aB (congrArg some (bM (by omega))) Y
  have e1:=BC b i;rw[hcan i]at e1;have e0:wide w A y i w=y i:=by unfold wide;rw[if_neg (by omega),if_pos rfl]
  have e2:nD 64 (vq w (wide w A y i)) [qn (y i)]=some (vq (w+1) (wide w A y i)):=by rw[nQ (by decide) (by rw[bY];omega),mY,e0]
  have e3:nD 24 (mq i (λ_=>w+1) (wide w A y)) [vq (w+1) (wide w A y i)]=some (mq (i+1) (λ_=>w+1) (wide w A y)):=by rw[nQ (by decide) (by rw[cM];omega),tw]
  generalize qn (y i)=q at*;exact aB e1<|aB e2<|aB e3<|aB (congrArg some (bM (by omega))) Y
 exact bW<|aB (congrArg some (show(rows.length:Int)=(r:Int) by rw[hr]))<|aB (dF (by omega))<|aB (a:=false) (bG Y<|aB (congrArg some (show(b.length:Int)=(r:Int) by rw[Mb]))<|aB (dF (by omega)) Y)<|bG Y Y
end
section
open Go.Fw
theorem Zl{d w:Nat}{pv:Nat->Nat}(hb:∀j,j<d->pv j<w)(f h:Nat->Rat):cw (λl=>f l*cw (λj=>if pv j=l then h j else 0) d) w=cw (λj=>f (pv j)*h j) d:=by
 rw[show(λl=>f l*cw (λj=>if pv j=l then h j else 0) d)=λl=>cw (λj=>f l*(if pv j=l then h j else 0)) d from funext λl=>(pI _ _ _).symm,zj];refine cY (λj hj=>?_);rw[gj (hb j hj) (λi _ hne=>by rw[if_neg (λq=>hne q.symm)];grind),if_pos rfl]
def L0(m r w:Nat)(A:Nat->Nat->Rat):Prop:=∀z:Nat->Rat,(∀l,m<=l->z l=0)->Nul r w A z->∀l,l<m->z l=0
section inv
variable {L r w d m:Nat}{A H:Nat->Nat->Rat}{pv:Nat->Nat}
theorem BJ.Zm(inv:BJ L r w A d w H pv)(hm:m<=w)(ind:L0 m r w A){k:Nat}(hk:k<m):∃s,s<d/\pv s=k:=by
 refine Classical.byContradiction (λno=>?_);have np:∀s,s<d->pv s≠k:=λs h1 h2=>no ⟨s,h1,h2⟩;have hz:∀s,s<d->k<pv s->H s k=0:=λs hs h=>inv.el s hs k h;have z0:=ind (λl=>(if l=k then 1 else 0)-cw (λs=>if pv s=l then H s k else 0) d) (λl hl=>by
  show(if l=k then(1:Rat)else 0)-_=0;rw[if_neg (by omega),cY (k:=λ_=>0) (λs hs=>?_),qM]
  ·grind
  by_cases e:pv s=l
  ·rw[if_pos e];exact hz s hs (by omega)
  rw[if_neg e]) ((inv.ho _).1 (λi hi=>?_)) k hk
 ·replace z0:(if k=k then(1:Rat)else 0)-cw (λs=>if pv s=k then H s k else 0) d=0:=z0;rw[if_pos Y,cY (k:=λ_=>0) (λs hs=>if_neg (np s hs)),qM]at z0;exact absurd (show(1:Rat)=0 by grind) (by decide)
 have hkw:k<w:=by omega
 have e1:H i k=cw (λl=>H i l*(if l=k then 1 else 0)) w:=by
  rw[gj hkw (λl _ hne=>by rw[if_neg hne];grind),if_pos rfl];grind
 rw[cY (h:=λl=>H i l*((if l=k then 1 else 0)-cw (λs=>if pv s=l then H s k else 0) d)) (k:=λl=>H i l*(if l=k then 1 else 0)-H i l*cw (λs=>if pv s=l then H s k else 0) d) (λl _=>by grind),zg,<-e1,Zl inv.pl (λl=>H i l) (λs=>H s k)];by_cases e:i<d
 ·rw[gj e (λs hs hne=>by rw[inv.pu s hs i hi,if_neg (λq=>hne q.symm)];grind),inv.pu i e i hi,if_pos rfl];grind
 rw[inv.ez i (by omega) hi k hkw,cY (k:=λ_=>0) (λs hs=>by rw[inv.pu s hs i hi,if_neg (by omega)];grind),qM];grind
theorem BJ.dep(inv:BJ L r w A d w H pv)(hm:m<=w)(hp:∀k,k<m->∃s,s<d/\pv s=k):L0 m r w A:=λz hz hn l hl=>by
 obtain⟨s,hs,rfl⟩:=hp l hl;have e:=(inv.ho z).2 hn s (by have:=inv.hd;omega);rw[gj (k:=pv s) (by omega) (λi hi hne=>?_),inv.pu s hs s (by have:=inv.hd;omega),if_pos rfl]at e
 ·grind
 by_cases q:i<m
 ·obtain⟨t,ht,rfl⟩:=hp i q;rw[inv.pu t ht s (by have:=inv.hd;omega),if_neg (λw=>hne (by rw[w]))];grind
 rw[hz i (by omega)];grind
end inv
end
section
open Go.Fw
theorem TY(j:Nat)(n:Int):((bif decide ((j:Int)<n)then(some (decide ((j:Int)<65536))).bind λc9=>some c9 else some false):Option Bool)=some (decide (j<(min n 65536).toNat)):=by
 by_cases h:(j:Int)<n
 ·rw[decide_eq_true h,gV,cc];by_cases h':(j:Int)<65536
  ·rw[decide_eq_true h',decide_eq_true (by omega)]
  rw[decide_eq_false h',decide_eq_false (by omega)]
 rw[decide_eq_false h,iy,decide_eq_false (by omega)]
section ops
variable {K L M:Nat}{c:Qr}{a b:List Qr}{k:Rat}{f g:Nat->Rat}
theorem Zn(ha:ek L a f)(hb:ek M b g)(h:(a.length+2)*(L+M+1)<=4000000000)(la:a.length<=1000000):qJ a b=some (qn (cw (λi=>f i*g i) (min a.length b.length))):=by
 have hs:∀n,FQ (n*(L+M+1)+1) (cw (λi=>f i*g i) n):=λn=>NM (λi _=>(ha.fq i).mul (hb.fq i));rw[<-YS (h:=λi=>f i*g i) (n:=min a.length b.length) (m:=a.length) (by omega) (λi h1 h2=>by show f i*g i=0;rw[hb.z i (by omega)];grind)];have hm:∀n:Nat,n<=a.length->n*(L+M+1)<=a.length*(L+M+1):=λn hn=>Nat.mul_le_mul_right _ hn;rw[Nat.add_mul]at h;unfold qJ;refine bH (λj=>((j:Int),(qn (cw (λi=>f i*g i) j)).num.neg,(qn (cw (λi=>f i*g i) j)).num.w,(qn (cw (λi=>f i*g i) j)).den.neg,(qn (cw (λi=>f i*g i) j)).den.w)) a.length
  ((qn (cw (λi=>f i*g i) a.length)).num.neg,(qn (cw (λi=>f i*g i) a.length)).num.w,(qn (cw (λi=>f i*g i) a.length)).den.neg,(qn (cw (λi=>f i*g i) a.length)).den.w) Y (λj hj=>?_) ?_ Y
 ·have hmj:=hm j (by omega);obtain⟨q1,hq1,rq1⟩:=ha.get hj;have a2:=BC b j;have e1:=rq1.YW (hb.gd j) (by omega);have e3:=((hs j).rep (by omega)).abz (rq1.mul (hb.gd j) (by omega)).2 (by omega);simp only[cw];generalize hq0:qn (cw (λi=>f i*g i) j)=q0 at e3⊢;generalize hq3:qn (cw (λi=>f i*g i) j+f j*g j)=q3 at e3⊢;generalize b.getD j (⟨⟨false,[]⟩,⟨false,[]⟩⟩:Qr)=q2 at e1 a2;generalize qn (f j*g j)=q4 at e1 e3;obtain⟨⟨_,_⟩,⟨_,_⟩⟩:=q0;obtain⟨⟨_,_⟩,⟨_,_⟩⟩:=q1;obtain⟨⟨_,_⟩,⟨_,_⟩⟩:=q2;obtain⟨⟨_,_⟩,⟨_,_⟩⟩:=q3;obtain⟨⟨_,_⟩,⟨_,_⟩⟩:=q4;refine aB Y<|aB Y<|bO (decide_eq_true (by omega))<|aB (bz hq1)<|aB a2<|aB e1<|aB e3<|aB Y ?_;rw[bM (by omega)]
 exact aB Y<|aB Y<|bG (decide_eq_false (by omega)) Y
theorem arh(ha:ek L a f)(hb:ek M b g)(h:L+M<=4000000000)(la:a.length<=1000000)(lb:b.length<=1000000):qK a b=some (oC f g (max a.length b.length)):=by
 unfold qK;refine fM (λs=>∃j:Nat,s=(j:Int)/\j<=max a.length b.length/\oC f g j=0) (λe=>(match e with|.inr v=>v|.inl _=>0)=oC f g (max a.length b.length)) (λs=>max a.length b.length-s.toNat) ?_ ⟨0,rfl,by omega,rfl⟩ ?_
 ·rintro s ⟨j,rfl,hj,h0⟩;by_cases hjn:j<max a.length b.length
  ·have a1:=BC a j;have a2:=BC b j;have e1:=(ha.gd j).aq4 (hb.gd j) h;generalize a.getD j (⟨⟨false,[]⟩,⟨false,[]⟩⟩:Qr)=q1 at e1 a1;generalize b.getD j (⟨⟨false,[]⟩,⟨false,[]⟩⟩:Qr)=q2 at e1 a2;obtain⟨⟨_,_⟩,⟨_,_⟩⟩:=q1;obtain⟨⟨_,_⟩,⟨_,_⟩⟩:=q2;by_cases hc:oV (f j) (g j)=0
   ·refine .inl ⟨((j+1:Nat):Int),?_,⟨j+1,Y,by omega,by rw[oC,if_neg (by simpa using h0),hc]⟩,by simp only[Int.toNat_natCast];omega⟩;rw[xX];refine aB Y<|aB Y<|aB (JJ a b j) ?_;refine bO (decide_eq_true hjn)<|aB a1<|aB a2<|aB e1<|aB Y<|bG (decide_eq_false (by simpa using hc))<|aB Y ?_;rw[bM (by omega)]
   refine .inr ⟨.inr (oV (f j) (g j)),?_,(U7 h0 hjn hc).symm⟩;rw[xX];refine aB Y<|aB Y<|aB (JJ a b j) ?_;exact bO (decide_eq_true hjn)<|aB a1<|aB a2<|aB e1<|aB Y<|bO (decide_eq_true hc) Y
  obtain rfl:j=max a.length b.length:=by omega
  refine .inr ⟨.inl (),?_,h0.symm⟩;rw[xX];refine aB Y<|aB Y<|aB (JJ a b _) ?_;exact bG (decide_eq_false hjn) Y
 intro e he;rw[<-he];cases e<;>rfl
theorem oX(n k:Int):jt n k=some (vq (min n 65536).toNat λi=>if(i:Int)=k then 1 else 0):=by
 unfold jt;refine bH (λj=>((j:Int),vq j (λi=>if(i:Int)=k then 1 else 0))) (min n 65536).toNat (vq (min n 65536).toNat (λi=>if(i:Int)=k then 1 else 0)) Y (λj hj=>?_) ?_ Y
 ·show cE _ _=_;rw[xX];refine aB Y<|aB (TY j n) ?_;refine bO (decide_eq_true hj)<|aB Y ?_;rw[xX,mY];by_cases hc:(j:Int)=k
  ·refine bO (decide_eq_true hc) ?_;have e1:=EK (n:=1) (by decide);rw[if_pos hc];have hq:qn ((1:Int):Rat)=qn 1:=rfl;rw[hq]at e1;generalize qn 1=q3 at e1⊢;obtain⟨⟨_,_⟩,⟨_,_⟩⟩:=q3;refine aB e1<|aB (nQ (by omega) (by rw[bY];omega))<|aB Y ?_;rw[bM (by omega)]
  refine bG (decide_eq_false hc) ?_;rw[if_neg hc,TI];refine aB (nQ (by omega) (by rw[bY];omega))<|aB Y ?_;rw[bM (by omega)];rfl
 show cE _ _=_;rw[xX];refine aB Y<|aB (TY _ n) ?_;exact bG (decide_eq_false (by omega)) Y
end ops
end
section
open Go.Fw
theorem EP(n k:Int):nA n k=jt n k:=rfl
theorem aec{L r w d:Nat}{rows:List (List Qr)}{A H:Nat->Nat->Rat}{pv:Nat->Nat}(hlen:rows.length<=1000)(hc:oZ rows=w)(hw:w<=1000)(h1:1<=L)(hS:BH L d<=1000000000)(hd6:d<=1000000)
  (ari:jW rows=some (mq d (λ_=>w) H,bq d pv)) (inv:BJ L r w A d w H pv):
  ∃N,rK rows=some N/\((∀k,k<w->∃s,s<d/\pv s=k)->N=[])/\((¬∀k,k<w->∃s,s<d/\pv s=k)->0<N.length):=by
 have rc:=vw rows (by omega);rw[hc]at rc;have uF:=inv.hd;unfold rK;refine BG ari<|BG rc ?_;refine zk (λs=>∃(k:Nat) (N:List (List Qr)),s=((k:Int),N)/\k<=w/\N.length<=k/\((∀j,j<k->∃s,s<d/\pv s=j)->N=[])/\((¬∀j,j<k->∃s,s<d/\pv s=j)->0<N.length)) (λN=>((∀j,j<w->∃s,s<d/\pv s=j)->N=[])/\((¬∀j,j<w->∃s,s<d/\pv s=j)->0<N.length)) (λs=>w-s.1.toNat) ?_ ⟨0,[],Y,Nat.zero_le _,Nat.le_refl _,λ_=>Y,λq=>absurd (λj hj=>by omega) q⟩ (λe he=>⟨e,Y,he⟩);rintro _ ⟨k,N,rfl,hk,hN,n1,n2⟩;by_cases hlt:k<w
 ·have ein:=rin (pv:=pv) k hd6;refine BG (dT (by omega))<|exT Y<|BG ein ?_;by_cases q:∃s,s<d/\pv s=k
  ·refine exT (decide_eq_true q) ⟨_,aB (congrArg some (bM (by omega))) Y,.inl ⟨_,Y,⟨k+1,N,Y,hlt,by omega,λhh=>n1 (λj hj=>hh j (by omega)),λhh=>n2 (λh2=>hh (λj hj=>by
    by_cases e:j=k
    ·rw[e];exact q
    exact h2 j (by omega)))⟩,by simp only[Int.toNat_natCast];omega⟩⟩
  refine exF (decide_eq_false q) ?_;have eu:=oX (w:Int) (k:Int);rw[<-EP]at eu;refine BG eu ?_;refine zk (λs=>∃(t:Nat) (xs:List Qr),s=((t:Int),xs)/\xs.length=w) (λxs=>xs.length=w) (λs=>d-s.1.toNat) ?_ ⟨0,_,Y,by rw[bY];omega⟩ ?_
  ·rintro _ ⟨t,xs,rfl,hx⟩;by_cases ht:t<d
   ·have g0:(bq d pv)[t]? =some ((pv t:Nat):Int):=o9 ht;have g1:(mq d (λ_=>w) H)[t]? =some (vq w (H t)):=fu ht;have g2:(vq w (H t))[k]? =some (qn (H t k)):=iM hlt;have ng:=((inv.f t (by omega) k).rep (EO h1 d)).ag7 (by omega);have hp:=inv.pl t ht;have ln:=cM d (λ_=>w) H;generalize qn (H t k)=q1 at*;generalize qn (-H t k)=q2 at*;obtain⟨⟨_,_⟩,⟨_,_⟩⟩:=q1;obtain⟨⟨_,_⟩,⟨_,_⟩⟩:=q2;exact⟨_,aB (congrArg some (show((mq d (λ_=>w) H).length:Int)=(d:Int) by rw[ln]))<|aB (dT (by omega))<|bO Y<|aB (bz g0)<|aB (bz g1)<|aB (bz g2)<|aB ng<|aB (b9 (by omega))<|aB (dS (by omega))<|aB (congrArg some (bM (by omega))) Y,.inl ⟨_,Y,⟨t+1,_,Y,by rw[List.length_set];exact hx⟩,by simp only[Int.toNat_natCast];omega⟩⟩
   have ln:=cM d (λ_=>w) H;exact⟨_,aB (congrArg some (show((mq d (λ_=>w) H).length:Int)=(d:Int) by rw[ln]))<|aB (dF (by omega))<|bG Y Y,.inr ⟨_,Y,hx⟩⟩
  intro xs hx;exact⟨_,aB (nQ (by decide) (by omega))<|aB (congrArg some (bM (by omega))) Y,.inl ⟨_,Y,⟨k+1,_,Y,hlt,by rw[List.length_append];simp;omega,λhh=>absurd (hh k (by omega)) q,λ_=>by rw[List.length_append];simp⟩,by simp only[Int.toNat_natCast];omega⟩⟩
 obtain rfl:k=w:=by omega
 exact⟨_,aB (dF (by omega))<|bG Y Y,.inr ⟨_,Y,n1,n2⟩⟩
end
section
open Go.Fw
theorem vT{r w:Nat}{F:Nat->Nat->Rat}(hr:1<=r):oZ (mq r (λ_=>w) F)=w:=by
 refine Nat.le_antisymm (xl.2 (λv hv=>?_)) ?_
 ·obtain⟨i,hi,rfl⟩:=List.getElem_of_mem hv;have:=fu (n:=r) (i:=i) (ln:=λ_=>w) (F:=F) (by rwa[cM]at hi);rw[List.getElem?_eq_getElem hi]at this;rw[Option.some.inj this,bY];exact Nat.le_refl _
 have:=xl.1 (Nat.le_refl (oZ (mq r (λ_=>w) F))) (vq w (F 0)) (List.mem_of_getElem? (fu (i:=0) (by omega)));rwa[bY]at this
theorem Qv{L M r w:Nat}{rows:List (List Qr)}{b:List Qr}{A:Nat->Nat->Rat}{y:Nat->Rat}(h:jk L rows A)(hb:ek M b y)(hr:rows.length=r)(Mb:b.length=r):jk (max L M) (mq r (λ_=>w+1) (wide w A y)) (wide w A y):=by
 have l1:=h.l1;refine BE (λi hi k hk=>?_) (λi hi k hk=>?_) (λi hi k=>?_) (by omega)
 ·show FQ (max L M) (if k<w then A i k else if k=w then y i else 0);split
  ·exact((h.row i).fq k).mono (by omega)
  split
  ·exact(hb.fq i).mono (by omega)
  exact nN (by omega)
 ·show(if k<w then A i k else if k=w then y i else 0)=0;rw[if_neg (by omega),if_neg (by omega)]
 show(if k<w then A i k else if k=w then y i else 0)=0;rw[h.z i (by omega) k,hb.z i (by omega)];split
 ·rfl
 split<;>rfl
theorem BJ.diag{L r w d m:Nat}{A H:Nat->Nat->Rat}{pv:Nat->Nat}(inv:BJ L r w A d w H pv)(hd:d<=m)(hp:∀k,k<m->∃s,s<d/\pv s=k):∀s,s<d->pv s=s:=by
 have ge:∀s,s<d->s<=pv s:=λs=>by
  induction s with
  |zero=>intro _;exact Nat.zero_le _
  |succ s ih=>intro hs;have:=ih (by omega);have:=inv.mo s (s+1) (by omega) hs;omega
 intro s
 induction s using Nat.strongRecOn with
 |_ s ih=>
  intro hs;have g:=ge s hs;by_cases e:pv s=s
  ·exact e
  obtain⟨t,ht,et⟩:=hp s (by omega);rcases Nat.lt_trichotomy t s with q|q|q
  ·have:=ih t q ht;omega
  ·rw[q]at et;exact et
  have:=inv.mo s t q ht;omega
end
section
open Go.Fw
theorem Zo{w:Nat}{A:Nat->Nat->Rat}{y:Nat->Rat}(ind:L0 w w w A):L0 w w (w+1) (wide w A y):=λz hz hn=>ind z hz (λi hi=>by
 have e:=hn i hi;show cw (λl=>A i l*z l) w=0;have e2:cw (λl=>wide w A y i l*z l) (w+1)=cw (λl=>wide w A y i l*z l) w+wide w A y i w*z w:=rfl;rw[e2,hz w (Nat.le_refl w),cY (h:=λl=>wide w A y i l*z l) (k:=λl=>A i l*z l) (λl hl=>by unfold wide;rw[if_pos hl])]at e;grind)
theorem Zp{L w d:Nat}{A H:Nat->Nat->Rat}{y:Nat->Rat}{pv:Nat->Nat}(inv:BJ L w (w+1) (wide w A y) d (w+1) H pv)(hd:d=w)(hpv:∀s,s<w->pv s=s):∀i,i<w->cw (λl=>A i l*H l w) w=y i:=by
 subst hd;have e:=(inv.ho (λl=>if l<d then H l d else if l=d then-1 else 0)).1 (λi hi=>by
  have s1:cw (λl=>H i l*(if l<d then H l d else if l=d then-1 else 0)) (d+1)=cw (λl=>H i l*(if l<d then H l d else if l=d then-1 else 0)) d+H i d*(if d<d then H d d else if d=d then-1 else 0):=rfl;rw[s1,if_neg (Nat.lt_irrefl d),if_pos Y,gj hi (λl hl hne=>by
   have:=inv.pu l hl i hi;rw[hpv l hl,if_neg (λq=>hne q.symm)]at this;rw[this];grind)]
  have:=inv.pu i hi i hi;rw[hpv i hi,if_pos rfl]at this;rw[this,if_pos hi];grind)
 intro i hi;have e:=e i hi;have s1:cw (λl=>wide d A y i l*(if l<d then H l d else if l=d then-1 else 0)) (d+1)=cw (λl=>wide d A y i l*(if l<d then H l d else if l=d then-1 else 0)) d+wide d A y i d*(if d<d then H d d else if d=d then-1 else 0):=rfl;rw[s1,if_neg (Nat.lt_irrefl d),if_pos Y,show wide d A y i d=y i by unfold wide;rw[if_neg (Nat.lt_irrefl d),if_pos rfl],cY (k:=λl=>A i l*H l d) (λl hl=>by unfold wide;rw[if_pos hl,if_pos hl])]at e;grind
end
end Go.Proofs.YtningmnklfpfjaaGreat
