/- The law LpBuildMatches answers true for every input, up to the size that the statement names. -/
import Derived.Test.YtfoldppidpmchaaGreatPPB4
set_option linter.unusedVariables false
set_option linter.unusedSimpArgs false
namespace Go.Proofs.YtfoldppidpmchaaGreat
open Go.Fw
theorem Tc{a b s:Nat}(h:a<2^s):b*2^s ||| a=b*2^s+a:=by rw[Nat.or_comm,Q2 h,Nat.add_comm]
theorem Mi{a b:Nat}(h:a<4294967296):b*4294967296 ||| a=b*4294967296+a:=Tc (s:=32) h
theorem IX(a:List Nat)(d:Nat)(ha:GB a)(hd:0<d)(hd2:d≤4294967296):gX a d=some (vl a%d,dy 4294967296 a.length (vl a/d)):=by
 obtain⟨hA,hla⟩:=ha
 unfold gX
 simp only[Option.bind_some]
 rw[bT (by omega) (by omega)]
 refine aJ (fun i=>(vl a/4294967296^(a.length-i)%d,((a.length-i:Nat):Int)-1,dy 4294967296 a.length (qU 4294967296 (vl a) d (a.length-i)))) a.length (vl a%d,dy 4294967296 a.length (vl a/d)) ?_ (fun i hi=>?_) (by simp[S5]) ?_
 ·simp only[Nat.sub_zero]
  rw[X9 (eY a hA),BE a hA,Nat.div_eq_of_lt (eY a hA),Nat.zero_mod]
 ·obtain⟨m,hm⟩:∃m,a.length-i=m+1:=⟨a.length-i-1,by omega⟩
  have hm':a.length-(i+1)=m:=by omega
  have hml:m<a.length:=by omega
  rw[hm,hm']
  have hy:vl a/4294967296^m%4294967296<4294967296:=Nat.mod_lt _ (by decide)
  have hr:vl a/4294967296^(m+1)%d<d:=Nat.mod_lt _ hd
  have hq:=S7 (B:=4294967296) (by decide) hd (vl a) m
  have hqd:(vl a/4294967296^(m+1)%d*4294967296+vl a/4294967296^m%4294967296)/d<4294967296:=by rw[Nat.div_lt_iff_lt_mul hd,Nat.mul_comm 4294967296 d];exact hq
  have hg:=Ya (B:=4294967296) (by decide) (V:=vl a) (d:=d) (m:=m) (N:=a.length) hml
  have hlt:vl a/4294967296^(m+1)%d*4294967296+vl a/4294967296^m%4294967296<18446744073709551616:=by omega
  have NL:vl a/4294967296^(m+1)%d*4294967296<18446744073709551616:=Nat.lt_of_le_of_lt (Nat.le_add_right _ _) hlt
  have Eo:vl a/4294967296^m%4294967296<18446744073709551616:=Nat.lt_of_le_of_lt (Nat.le_add_left _ _) hlt
  have hi1:((m+1:Nat):Int)-1=(m:Int):=by omega
  simp only[hi1,show decide ((0:Int)≤(m:Int))=true by simp,cond_true,Option.bind_some]
  rw[eX (by rw[aT];omega),Option.bind_some,hg]
  simp only[Option.bind_some]
  rw[show(2:Nat)^32=4294967296 from rfl]
  rw[Nat.mod_eq_of_lt (a:=vl a/4294967296^(m+1)%d*4294967296) NL,Nat.mod_eq_of_lt (a:=vl a/4294967296^m%4294967296) (b:=18446744073709551616) Eo,Mi hy,Nat.mod_eq_of_lt (a:=vl a/4294967296^(m+1)%d*4294967296+vl a/4294967296^m%4294967296) hlt,Gu (by omega) hlt,BD (by omega)]
  simp only[Option.bind_some]
  rw[Nat.mod_eq_of_lt (b:=4294967296) (a:=(vl a/4294967296^(m+1)%d*4294967296+vl a/4294967296^m%4294967296)/d) hqd,je (by rw[aT];omega),Option.bind_some,bT (by omega) (by omega)]
  rw[S9 (B:=4294967296) (by decide) hd hml,←QZ (B:=4294967296) (d:=d) (vl a) m]
 ·simp only
  rw[rP (by rw[aT]),Option.bind_some]
theorem shiftLeft_eq(a:List Nat)(s:Nat)(ha:GB a)(hs:s<32):eJ a s=some (dy 4294967296 (a.length+1) (vl a*2^s)):=by
 obtain⟨hA,hla⟩:=ha
 have hf:2^s<4294967296:=by
  have:2^s<2^32:=Nat.pow_lt_pow_right (by decide) hs
  omega
 unfold eJ
 simp only[Option.bind_some]
 rw[aW (by omega),KP (by decide) (by omega),Option.bind_some]
 refine aJ (fun i=>((i:Int),sC 4294967296 (vl a) (2^s) 0 i,dy 4294967296 i (vl a*2^s+0))) a.length (sC 4294967296 (vl a) (2^s) 0 a.length,dy 4294967296 a.length (vl a*2^s+0)) (by simp[Gz,dy]) (fun i hi=>?_) (by simp) ?_
 ·have hx:vl a/4294967296^i%4294967296<4294967296:=Nat.mod_lt _ (by decide)
  have hc:=QY (B:=4294967296) (by decide) (V:=vl a) hf (show(0:Nat)<4294967296 by decide) i
  have hxf:vl a/4294967296^i%4294967296*2^s≤4294967295*4294967295:=Nat.mul_le_mul (by omega) (by omega)
  have hg:a[i]? =some (vl a/4294967296^i%4294967296):=kH hA hi
  simp only[show decide ((i:Int)<(a.length:Int))=true by simp;omega,cond_true]
  rw[aQ hg]
  simp only[Option.bind_some]
  rw[show min s 64=s by omega,Nat.mod_eq_of_lt (a:=vl a/4294967296^i%4294967296) (b:=18446744073709551616) (by omega),Nat.mod_eq_of_lt (b:=18446744073709551616) (by omega),gI _ _ (by omega)]
  simp only[Option.bind_some]
  rw[n6 (by decide) (by rw[aT];omega),Option.bind_some,GA (B:=4294967296) (by decide),KT (B:=4294967296) (by decide),aW (by omega),←hG]
 ·have hc:=QY (B:=4294967296) (by decide) (V:=vl a) hf (show(0:Nat)<4294967296 by decide) a.length
  simp only
  rw[gI _ _ (by omega)]
  simp only[Option.bind_some]
  rw[n6 (by decide) (by rw[aT];omega),Option.bind_some,Nat.zero_add,KU (eY a hA),←hG]
  simp
theorem Ej(a:List Nat)(s:Nat):iD a s=eJ a s:=rfl
def xO:RI:=[0,1,2,2,3,3,3,3,4,4,4,4,4,4,4,4,5,5,5,5,5,5,5,5,5,5,5,5,5,5,5,5]++List.replicate 32 6++List.replicate 64 7++List.replicate 128 8
theorem Yb:∀y:Nat,y<256→wD xO (y:Int)=some ((wD xO (y:Int)).getD 0)∧(wD xO (y:Int)).getD 0≤8∧y<2^(wD xO (y:Int)).getD 0∧(y=0∨2^(wD xO (y:Int)).getD 0≤2*y):=by decide+kernel
set_option maxRecDepth 20000 in
theorem Q3(x:Nat)(h:x<4294967296):∃n:Nat,fV x=some (n:Int)∧n≤32∧x<2^n∧(x=0∨2^n≤2*x):=by
 have key:∀(y k:Nat),y<256→y=x/2^k→k≤24→(x≠0→y≠0)→∃n:Nat,(((wD xO ((y%256:Nat):Int)).bind fun dz=>(some (IntKind.i64.wrap (dz:Int))).bind fun cX=>(some (IntKind.i64.wrap ((k:Int)+cX))).bind fun c6=>some c6)=some (n:Int))∧n≤32∧x<2^n∧(x=0∨2^n≤2*x):=by
  intro y k hy hyx hk hnz
  obtain⟨h1,h2,h3,h4⟩:=Yb y hy
  rw[Nat.mod_eq_of_lt hy,h1]
  generalize (wD xO (y:Int)).getD 0=t at*
  have hp:0<2^k:=Nat.two_pow_pos _
  have e1:2^(k+t)=2^k*2^t:=Nat.pow_add ..
  have e2:=Nat.div_add_mod x (2^k)
  have e3:=Nat.mod_lt x hp
  rw[←hyx]at e2
  refine⟨k+t,?_,by omega,?_,?_⟩
  ·simp only[Option.bind_some]
   rw[fO (by omega),kG (by omega)]
  ·rw[e1]
   have:2^k*(y+1)≤2^k*2^t:=Nat.mul_le_mul_left _ h3
   rw[Nat.mul_add]at this
   omega
  ·rcases h4 with h4|h4
   ·left
    cases Nat.eq_zero_or_pos x with
    |inl h=>exact h
    |inr h=>exact absurd h4 (hnz (by omega))
   ·right
    rw[e1]
    have:2^k*2^t≤2^k*(2*y):=Nat.mul_le_mul_left _ h4
    rw[show 2^k*(2*y)=2*(2^k*y) by rw[Nat.mul_left_comm]]at this
    omega
 unfold fV
 simp only[bD,Option.bind_some]
 by_cases c1:65536≤x
 ·rw[show decide (65536≤x)=true by simpa using c1]
  simp only[cond_true]
  by_cases c2:256≤x/2^16
  ·rw[show decide (256≤x/2^16)=true by simpa using c2]
   simp only[cond_true]
   rw[show IntKind.i64.wrap (16+8)=((24:Nat):Int) by decide]
   exact key (x/2^16/2^8) 24 (by omega) (by omega) (by omega) (by omega)
  ·rw[show decide (256≤x/2^16)=false by simpa using c2]
   simp only[cond_false]
   exact key (x/2^16) 16 (by omega) rfl (by omega) (by omega)
 ·rw[show decide (65536≤x)=false by simpa using c1]
  simp only[cond_false]
  by_cases c2:256≤x
  ·rw[show decide (256≤x)=true by simpa using c2]
   simp only[cond_true]
   rw[show IntKind.i64.wrap (0+8)=((8:Nat):Int) by decide]
   exact key (x/2^8) 8 (by omega) rfl (by omega) (by omega)
  ·rw[show decide (256≤x)=false by simpa using c2]
   simp only[cond_false]
   exact key x 0 (by omega) (by simp) (by omega) (fun h=>h)
theorem aba(x:Nat)(h:x<4294967296)(h0:x≠0):∃s:Nat,cH x=some (s:Int)∧s<32∧2147483648≤x*2^s∧x*2^s<4294967296:=by
 obtain⟨n,h1,h2,h3,h4⟩:=Q3 x h
 have h4:2^n≤2*x:=h4.resolve_left h0
 have hn:n≠0:=by rintro rfl;simp at h3;omega
 refine⟨32-n,?_,by omega,?_,?_⟩
 ·unfold cH
  rw[h1]
  simp only[Option.bind_some]
  rw[bT (by omega) (by omega)]
  congr 1;omega
 ·have:2^n*2^(32-n)≤2*x*2^(32-n):=Nat.mul_le_mul_right _ h4
  rw[←Nat.pow_add,show n+(32-n)=32 by omega,Nat.mul_assoc]at this
  omega
 ·have:x*2^(32-n)<2^n*2^(32-n):=Nat.mul_lt_mul_of_pos_right h3 (Nat.two_pow_pos _)
  rw[←Nat.pow_add,show n+(32-n)=32 by omega]at this
  omega
end Go.Proofs.YtfoldppidpmchaaGreat
namespace Go.Fw
section abb
variable {B V U W:Nat}
theorem Yc{P F T:Nat}(hP:0<P)(hF:0<F)(hV:F*P≤V)(hU:U<(T+1)*P):U/V≤T/F:=by
 have Yd:0<V:=Nat.lt_of_lt_of_le (Nat.mul_pos hF hP) hV
 rw[Nat.le_div_iff_mul_le hF]
 rcases Nat.lt_or_ge T (U/V*F)with h|h
 ·exfalso
  have h1:U/V*V≤U:=Nat.div_mul_le_self U V
  have h2:U/V*(F*P)≤U/V*V:=Nat.mul_le_mul_left _ hV
  have h3:(T+1)*P≤U/V*F*P:=Nat.mul_le_mul_right _ h
  rw[Nat.mul_assoc]at h3
  omega
 ·exact h
theorem Td{P F S T u g r:Nat}(hV:(F*B+S)*P≤V)(hU:U<(T*B+u+1)*P)(Zm:g*F+r=T)(h:r*B+u<g*S):U<g*V:=by
 have h1:g*((F*B+S)*P)≤g*V:=Nat.mul_le_mul_left _ hV
 have h2:(T*B+u+1)*P≤g*(F*B+S)*P:=by
  apply Nat.mul_le_mul_right
  rw[Nat.mul_add,←Nat.mul_assoc,←Zm,Nat.add_mul]
  omega
 rw[Nat.mul_assoc]at h2
 omega
theorem Ye{P V2 U2 g:Nat}(hV:V<(V2+1)*P)(hU:U2*P≤U)(hq:U/V<B)(hB:B≤V2)(Yd:0<V)(h:g*V2≤U2):g≤U/V+1:=by
 rcases Nat.lt_or_ge (U/V+1) g with h'|h'
 ·exfalso
  have h1:U<(U/V+1)*V:=by have:=Nat.lt_div_mul_add (a:=U) Yd;rw[Nat.add_mul,Nat.one_mul];exact this
  have h2:(U/V+1)*V≤(U/V+1)*((V2+1)*P):=Nat.mul_le_mul_left _ (Nat.le_of_lt hV)
  have h3:g*V2*P≤U2*P:=Nat.mul_le_mul_right _ h
  have h4:(U/V+2)*V2≤g*V2:=Nat.mul_le_mul_right _ h'
  have h5:(U/V+2)*V2*P≤g*V2*P:=Nat.mul_le_mul_right _ h4
  have h6:(U/V+1)*((V2+1)*P)≤(U/V+2)*V2*P:=by
   rw[←Nat.mul_assoc]
   apply Nat.mul_le_mul_right
   rw[Nat.mul_add,Nat.add_mul (U/V) 2 V2,Nat.add_mul (U/V) 1 V2]
   omega
  omega
 ·exact h'
end abb
def mix(B o i X U A:Nat):Nat:=A%B^o+B^o*(X%B^i+B^i*(U/B^i))
theorem Mj(B o i X U A:Nat):mix B o i X U A%B^o=A%B^o:=by rw[mix,Nat.add_mul_mod_self_left,Nat.mod_mod]
section mix
variable {B:Nat}(hB:0<B)(o i X U A:Nat)
include hB
theorem zb:mix B o i X U A/B^o=X%B^i+B^i*(U/B^i):=by
 rw[mix,Nat.add_mul_div_left _ _ (Nat.pow_pos hB),Nat.div_eq_of_lt (Nat.mod_lt _ (Nat.pow_pos hB)),Nat.zero_add]
theorem ze:mix B o i X U A/B^(o+i)=U/B^i:=by
 rw[Nat.pow_add,←Nat.div_div_eq_div_mul,zb hB,Nat.add_mul_div_left _ _ (Nat.pow_pos hB),Nat.div_eq_of_lt (Nat.mod_lt _ (Nat.pow_pos hB)),Nat.zero_add]
theorem Te:mix B o i X U A%B^(o+i)=A%B^o+B^o*(X%B^i):=by
 rw[Nat.pow_add,Nat.mod_mul,Mj,zb hB,Nat.add_mul_mod_self_left,Nat.mod_mod]
theorem GC{N:Nat}(h:o+i<N):(dy B N (mix B o i X U A)).set (o+i) (X/B^i%B)=dy B N (mix B o (i+1) X U A):=by
 apply vK hB h (Nat.mod_lt _ hB)
 ·rw[Te hB,Nat.pow_add,Nat.mod_mul,Mj,zb hB,Nat.pow_succ B i,Nat.mul_assoc,Nat.add_mul_mod_self_left,Nat.mod_mul,Nat.add_mul_mod_self_left,Nat.mod_mod]
 ·rw[Nat.pow_add,←Nat.div_div_eq_div_mul,zb hB,Nat.pow_succ B i,Nat.mod_mul,Nat.mul_assoc,Nat.add_assoc,←Nat.mul_add,Nat.add_mul_div_left _ _ (Nat.pow_pos hB),Nat.div_eq_of_lt (Nat.mod_lt _ (Nat.pow_pos hB)),Nat.zero_add,Nat.add_mul_mod_self_left,Nat.mod_mod]
 ·have h1:=ze hB o (i+1) X U A
  have h2:=ze hB o i X U A
  rw[show o+i+1=o+(i+1) by omega,h1,show o+(i+1)=(o+i)+1 by omega,Nat.pow_succ B (o+i),←Nat.div_div_eq_div_mul,h2,Nat.pow_succ,←Nat.div_div_eq_div_mul]
end mix
theorem IY{B o m X U A:Nat}(hU:U<B^m):mix B o m X U A=A%B^o+B^o*(X%B^m):=by rw[mix,Nat.div_eq_of_lt hU];simp
theorem IZ{B:Nat}(o X A:Nat):mix B o 0 X (A/B^o) A=A:=by
 simp only[mix,Nat.pow_zero,Nat.mod_one,Nat.zero_add,Nat.one_mul,Nat.div_one]
 exact Nat.mod_add_div A (B^o)
theorem Nx{B U U' T i:Nat}(h:U%B^i=U'%B^i):Ai B U T i=Ai B U' T i:=by rw[Ai,Ai,h]
theorem Q4{B:Nat}(hB:0<B){U T m i:Nat}(hi:i<m)(hT:T≤U+B^m):(U/B^i%B+(B-1-T/B^i%B)+Ai B U T i)%B=(U+B^m-T)/B^i%B:=by
 have e:B^m=B^i*(B*B^(m-i-1)):=by rw[←Nat.pow_succ',←Nat.pow_add];congr 1;omega
 have h1:(U+B^m)%B^i=U%B^i:=by rw[e,Nat.add_mul_mod_self_left]
 have h2:(U+B^m)/B^i%B=U/B^i%B:=by rw[e,Nat.add_mul_div_left _ _ (Nat.pow_pos hB),Nat.add_mul_mod_self_left]
 rw[←h2,Nx (U':=U+B^m) h1.symm,Gx hB hT]
theorem Tf{B m U T:Nat}(hB:0<B)(hU:U<B^m)(hT:T<B^m):Ai B U T m=if U<T then 0 else 1:=by
 rw[Ai,Nat.mod_eq_of_lt hU,Nat.mod_eq_of_lt hT]
 have hp:0<B^m:=Nat.pow_pos hB
 split
 ·exact Nat.div_eq_of_lt (by omega)
 ·rw[show U+B^m-T=(U-T)+B^m by omega,Nat.add_div_right _ hp,Nat.div_eq_of_lt (by omega)]
end Go.Fw
namespace Go.Proofs.YtfoldppidpmchaaGreat
open Go.Fw
theorem n8{N A j:Nat}(h:j<N):(dy 4294967296 N A)[j]? =some (A/4294967296^j%4294967296):=y5 N A j h
theorem two32:(2:Nat)^32=4294967296:=rfl
theorem abc:(2:Nat)^63=9223372036854775808:=rfl
theorem GD(A o j:Nat):A/4294967296^(o+j)=A/4294967296^o/4294967296^j:=by rw[Nat.pow_add,Nat.div_div_eq_div_mul]
theorem I0{N A o n:Nat}{v:List Nat}(hv:GB v)(hn:v.length=n+2)(hN:N≤100000000001)(ho:o+(n+2)<N)
  (hU:A/4294967296^o<4294967296*vl v) (Q5:2147483648*4294967296^(n+1)≤vl v):
  ∃r,gY (dy 4294967296 N A) o (n+3) v=some r∧r.2=dy 4294967296 N A∧A/4294967296^o/vl v≤r.1∧r.1≤A/4294967296^o/vl v+1:=by
 obtain⟨hV,hlv⟩:=hv
 obtain⟨U,RL⟩:∃U,A/4294967296^o=U:=⟨_,rfl⟩
 obtain⟨V,RM⟩:∃V,vl v=V:=⟨_,rfl⟩
 have Bp:V<4294967296^(n+2):=by rw[←RM,←hn];exact eY v hV
 have VL:0<4294967296^(n+1):=Nat.pow_pos (by decide)
 have hP:0<4294967296^n:=Nat.pow_pos (by decide)
 have Yf:4294967296^(n+1)=4294967296^n*4294967296:=Nat.pow_succ ..
 have I1:4294967296^(n+2)=4294967296^(n+1)*4294967296:=Nat.pow_succ ..
 rw[RL,RM]at hU⊢
 rw[RM]at Q5
 have abd:U<4294967296^(n+1)*4294967296*4294967296:=by
  have:4294967296*V<4294967296*4294967296^(n+2):=Nat.mul_lt_mul_of_pos_left Bp (by decide)
  rw[I1]at this
  omega
 obtain⟨F,hF⟩:∃F,V/4294967296^(n+1)=F:=⟨_,rfl⟩
 obtain⟨S,hS⟩:∃S,V/4294967296^n%4294967296=S:=⟨_,rfl⟩
 obtain⟨T,hT⟩:∃T,U/4294967296^(n+1)=T:=⟨_,rfl⟩
 obtain⟨u,hu⟩:∃u,U/4294967296^n%4294967296=u:=⟨_,rfl⟩
 have ahV:F<4294967296:=by rw[←hF,Nat.div_lt_iff_lt_mul VL];rw[I1,Nat.mul_comm]at Bp;exact Bp
 have aln:2147483648≤F:=by rw[←hF,Nat.le_div_iff_mul_le VL];exact Q5
 have alo:S<4294967296:=by rw[←hS];exact Nat.mod_lt _ (by decide)
 have abe:u<4294967296:=by rw[←hu];exact Nat.mod_lt _ (by decide)
 have ahW:T<4294967296*4294967296:=by rw[←hT,Nat.div_lt_iff_lt_mul VL];rw[Nat.mul_comm,←Nat.mul_assoc];exact abd
 have hV2:V/4294967296^n=F*4294967296+S:=by rw[←hF,←hS,Yf,←Nat.div_div_eq_div_mul,Nat.mul_comm,Nat.div_add_mod]
 have hU2:U/4294967296^n=T*4294967296+u:=by rw[←hT,←hu,Yf,←Nat.div_div_eq_div_mul,Nat.mul_comm,Nat.div_add_mod]
 have hq:U/V<4294967296:=by rw[Nat.div_lt_iff_lt_mul (by omega)];exact hU
 have abf:(F*4294967296+S)*4294967296^n≤V:=by rw[←hV2];exact Nat.div_mul_le_self _ _
 have abg:V<(F*4294967296+S+1)*4294967296^n:=by rw[←hV2,Nat.add_mul,Nat.one_mul];exact Nat.lt_div_mul_add hP
 have abh:(T*4294967296+u)*4294967296^n≤U:=by rw[←hU2];exact Nat.div_mul_le_self _ _
 have abi:U<(T*4294967296+u+1)*4294967296^n:=by rw[←hU2,Nat.add_mul,Nat.one_mul];exact Nat.lt_div_mul_add hP
 have VM:F*4294967296^(n+1)≤V:=by rw[←hF];exact Nat.div_mul_le_self _ _
 have VN:U<(T+1)*4294967296^(n+1):=by rw[←hT,Nat.add_mul,Nat.one_mul];exact Nat.lt_div_mul_add VL
 have VO:V<(F+1)*4294967296^(n+1):=by rw[←hF,Nat.add_mul,Nat.one_mul];exact Nat.lt_div_mul_add VL
 have hTF:T<4294967296*(F+1):=by
  rw[←hT,Nat.div_lt_iff_lt_mul VL]
  have:4294967296*V<4294967296*((F+1)*4294967296^(n+1)):=Nat.mul_lt_mul_of_pos_left VO (by decide)
  rw[Nat.mul_assoc]
  omega
 have g1:(dy 4294967296 N A)[o+(n+2)]? =some (U/4294967296^(n+2)%4294967296):=by rw[n8 (by omega),GD,RL]
 have g2:(dy 4294967296 N A)[o+(n+1)]? =some (U/4294967296^(n+1)%4294967296):=by rw[n8 (by omega),GD,RL]
 have g3:(dy 4294967296 N A)[o+n]? =some u:=by rw[n8 (by omega),GD,RL,hu]
 have g4:v[n+1]? =some F:=by rw[kH hV (by omega),show val 4294967296 v=V from RM,hF,Nat.mod_eq_of_lt ahV]
 have g5:v[n]? =some S:=by rw[kH hV (by omega),show val 4294967296 v=V from RM,hS]
 have hun:U/4294967296^(n+2)<4294967296:=by rw[I1,←Nat.div_div_eq_div_mul,hT,Nat.div_lt_iff_lt_mul (by decide)];exact ahW
 have KV:U/4294967296^(n+2)%4294967296*4294967296+U/4294967296^(n+1)%4294967296=T:=by
  rw[Nat.mod_eq_of_lt hun,I1,←Nat.div_div_eq_div_mul,hT,Nat.mul_comm,Nat.div_add_mod]
 obtain⟨t1,ht1⟩:∃t,U/4294967296^(n+2)%4294967296=t:=⟨_,rfl⟩
 obtain⟨t2,ht2⟩:∃t,U/4294967296^(n+1)%4294967296=t:=⟨_,rfl⟩
 have l1:t1<4294967296:=by rw[←ht1];exact Nat.mod_lt _ (by decide)
 have l2:t2<4294967296:=by rw[←ht2];exact Nat.mod_lt _ (by decide)
 rw[ht1]at g1 KV
 rw[ht2]at g2 KV
 clear ht1 ht2 hU2 hV2
 have c1:((n+2:Nat):Int)-1=((n+1:Nat):Int):=by omega
 have c2:((n+2:Nat):Int)-2=(n:Int):=by omega
 unfold gY
 simp only[Option.bind_some,hn,c1,c2]
 rw[fO (by omega),fO (by omega),BC (by omega),BC (by omega),BC (by omega)]
 simp only[Option.bind_some]
 rw[g1,g2,aQ g4,aQ g5]
 simp only[Option.bind_some,two32]
 rw[Nat.mod_eq_of_lt (a:=t1) (by omega),Nat.mod_eq_of_lt (a:=t2) (by omega),Nat.mod_eq_of_lt (a:=t1*4294967296) (by omega),Mi l2,KV,Nat.mod_eq_of_lt (a:=T) (by omega),Nat.mod_eq_of_lt (a:=F) (by omega),Nat.mod_eq_of_lt (a:=S) (by omega),Gu (by omega) (by omega),BD (by omega)]
 simp only[Option.bind_some]
 have ah1:=Yc (V:=V) (U:=U) VL (show 0<F by omega) VM VN
 have hle:∀g,g*(F*4294967296+S)≤T*4294967296+u→g≤U/V+1:=fun g h=>Ye (B:=4294967296) abg abh hq (by omega) (by omega) h
 have ah2:∀g r,g*F+r=T→r*4294967296+u<g*S→U/V<g:=fun g r i1 ht=>(Nat.div_lt_iff_lt_mul (by omega)).2 (Td abf abi i1 ht)
 have hg0:T/F≤4294967297:=by
  have:T/F<4294967298:=by
   rw[Nat.div_lt_iff_lt_mul (by omega)]
   omega
  omega
 generalize U/V=q at*
 clear abf abg abh abi VM VN VO hTF abd Q5 Bp Yf I1 hP VL hF hS hT hu RL RM hU
 have hdm:=Nat.div_add_mod T F
 have hml:=Nat.mod_lt T (show 0<F by omega)
 have ah4:T/F*F+T%F=T:=by rw[Nat.mul_comm];exact hdm
 clear hdm
 refine j1 (fun x=>x.1*F+x.2=T∧q≤x.1∧x.2<4294967296∧x.1≤4294967297) (fun e=>q≤e∧e≤q+1) (fun x=>x.1) ?_ ⟨ah4,ah1,by show T%F<_;omega,hg0⟩ ?_
 ·rintro⟨g,r⟩ ⟨i1,i2,i3,i4⟩
  simp only at i1 i2 i3 i4
  have down:q<g→(∃s',(bif decide ((r+F)%18446744073709551616/4294967296≠0)then some (.inr (o5 18446744073709551616 g 1))else some (.inl (o5 18446744073709551616 g 1,(r+F)%18446744073709551616)):Option ((Nat×Nat)⊕Nat))=some (.inl s')∧(s'.1*F+s'.2=T∧q≤s'.1∧s'.2<4294967296∧s'.1≤4294967297)∧s'.1<g)∨
    (∃e,(bif decide ((r+F)%18446744073709551616/4294967296≠0)then some (.inr (o5 18446744073709551616 g 1))else some (.inl (o5 18446744073709551616 g 1,(r+F)%18446744073709551616)):Option ((Nat×Nat)⊕Nat))=some (.inr e)∧q≤e∧e≤q+1):=by
   intro hlt
   have e1:(g-1)*F+(r+F)=T:=by
    obtain⟨k,rfl⟩:∃k,g=k+1:=⟨g-1,by omega⟩
    rw[Nat.add_sub_cancel];rw[Nat.add_mul]at i1;omega
   rw[sS (by omega) (by omega),Nat.mod_eq_of_lt (a:=r+F) (by omega)]
   by_cases hb:r+F<4294967296
   ·left
    refine⟨(g-1,r+F),by simp[Nat.div_eq_of_lt hb],⟨e1,by simp only;omega,hb,by simp only;omega⟩,by simp only;omega⟩
   ·right
    have hne:(r+F)/4294967296≠0:=by omega
    refine⟨g-1,by simp[hne],by omega,?_⟩
    refine hle _ ?_
    have m1:(g-1)*S≤4294967296*4294967295:=Nat.mul_le_mul (by omega) (by omega)
    rw[Nat.mul_add,←Nat.mul_assoc]
    have m2:((g-1)*F+(r+F))*4294967296=T*4294967296:=by rw[e1]
    rw[Nat.add_mul]at m2
    omega
  simp only[bD,aU]
  by_cases hg:g<4294967296
  ·rw[show decide (g/4294967296≠0)=false by simp;omega]
   have hgS:g*S≤4294967295*4294967295:=Nat.mul_le_mul (by omega) (by omega)
   simp only[eO]
   rw[g3]
   simp only[aU]
   rw[Nat.mod_eq_of_lt (a:=g*S) (by omega),Nat.mod_eq_of_lt (a:=r*4294967296) (by omega),Nat.mod_eq_of_lt (a:=u) (by omega),Mi abe,Nat.mod_eq_of_lt (a:=r*4294967296+u) (by omega)]
   by_cases ht:r*4294967296+u<g*S
   ·rw[show decide (r*4294967296+u<g*S)=true by simpa using ht]
    simp only[aU,dR]
    exact down (ah2 _ _ i1 ht)
   ·rw[show decide (r*4294967296+u<g*S)=false by simpa using ht]
    right
    refine⟨g,by simp,i2,?_⟩
    refine hle _ ?_
    rw[Nat.mul_add,←Nat.mul_assoc,←i1,Nat.add_mul]
    omega
  ·rw[show decide (g/4294967296≠0)=true by simp;omega]
   simp only[aU,dR]
   exact down (by omega)
 ·rintro e ⟨h2,h3⟩
  exact⟨(e,dy 4294967296 N A),by rw[rP rfl,Option.bind_some],rfl,h2,h3⟩
end Go.Proofs.YtfoldppidpmchaaGreat
namespace Go.Proofs.YtfoldppidpmchaaGreat
open Go.Fw
theorem wv{N A o n f:Nat}{v:List Nat}(hv:GB v)(hn:v.length=n)(hN:N≤100000000001)(ho:o+n<N)(hf:f≤4294967296)
  (hU:A/4294967296^o<4294967296^(n+1)):
  ct (dy 4294967296 N A) o (n+1) v f=some (decide (A/4294967296^o<vl v*f),dy 4294967296 N (A%4294967296^o+4294967296^o*((A/4294967296^o+4294967296^(n+1)-vl v*f)%4294967296^(n+1)))):=by
 obtain⟨hV,hlv⟩:=hv
 obtain⟨U,RL⟩:∃U,A/4294967296^o=U:=⟨_,rfl⟩
 obtain⟨V,RM⟩:∃V,vl v=V:=⟨_,rfl⟩
 have Bp:V<4294967296^n:=by rw[←RM,←hn];exact eY v hV
 have R3:4294967296^(n+1)=4294967296^n*4294967296:=Nat.pow_succ ..
 have hT:V*f<4294967296^(n+1):=by
  rw[R3]
  calc V*f≤V*4294967296:=Nat.mul_le_mul_left _ hf
   _<4294967296^n*4294967296:=Nat.mul_lt_mul_of_pos_right Bp (by decide)
 rw[RL]at hU⊢
 rw[RM]
 obtain⟨X,hX⟩:∃X,U+4294967296^(n+1)-V*f=X:=⟨_,rfl⟩
 rw[hX]
 unfold ct
 simp only[aU]
 have Yg:∀i,Ai 4294967296 U (V*f) i≤1:=fun i=>KQ (by decide) _ _ _
 refine aJ (fun i=>(1-Ai 4294967296 U (V*f) i,(i:Int),sC 4294967296 V f 0 i,dy 4294967296 N (mix 4294967296 o i X U A))) (n+1) (1-Ai 4294967296 U (V*f) (n+1),dy 4294967296 N (mix 4294967296 o (n+1) X U A)) ?_ (fun i hi=>?_) ?_ ?_
 ·rw[Dr,Gz,←RL,IZ];rfl
 ·
  obtain⟨t,ht⟩:∃t,V*f/4294967296^i%4294967296=t:=⟨_,rfl⟩
  obtain⟨c,hc⟩:∃c,sC 4294967296 V f 0 i=c:=⟨_,rfl⟩
  obtain⟨p,hp⟩:∃p,V/4294967296^i%4294967296*f=p:=⟨_,rfl⟩
  have alq:c<4294967296:=by
   rw[←hc,sC,sT,Nat.add_zero,Nat.div_lt_iff_lt_mul (Nat.pow_pos (by decide))]
   calc V%4294967296^i*f≤V%4294967296^i*4294967296:=Nat.mul_le_mul_left _ hf
    _<4294967296*4294967296^i:=by rw[Nat.mul_comm];exact Nat.mul_lt_mul_of_pos_left (Nat.mod_lt _ (Nat.pow_pos (by decide))) (by decide)
  have alr:p≤4294967295*4294967296:=by
   rw[←hp];exact Nat.mul_le_mul (by have:=Nat.mod_lt (V/4294967296^i) (show 0<4294967296 by decide);omega) hf
  have KS:(p+c)%4294967296=t:=by rw[←hp,←hc,KT (B:=4294967296) (by decide),Nat.add_zero,ht]
  have hstep:(p+c)/4294967296=sC 4294967296 V f 0 (i+1):=by rw[←hp,←hc,GA (B:=4294967296) (by decide)]
  have als:t<4294967296:=by rw[←ht];exact Nat.mod_lt _ (by decide)
  obtain⟨u,hu⟩:∃u,U/4294967296^i%4294967296=u:=⟨_,rfl⟩
  have abe:u<4294967296:=by rw[←hu];exact Nat.mod_lt _ (by decide)
  have hg:(dy 4294967296 N (mix 4294967296 o i X U A))[o+i]? =some u:=by rw[n8 (by omega),ze (by decide),hu]
  have hl:=Yg i
  obtain⟨l,hle⟩:∃l,Ai 4294967296 U (V*f) i=l:=⟨_,rfl⟩
  have hxd:(u+(4294967296-1-t)+l)%4294967296=X/4294967296^i%4294967296:=by rw[←hu,←ht,←hle,Q4 (B:=4294967296) (by decide) hi (by omega),hX]
  have hls:(u+(4294967296-1-t)+l)/4294967296=Ai 4294967296 U (V*f) (i+1):=by rw[←hu,←ht,←hle,Ds (B:=4294967296) (by decide)]
  rw[hle]at hl
  have hput:=GC (B:=4294967296) (by decide) o i X U A (N:=N) (by omega)
  rw[hle,hc,←hls]
  simp only[show decide ((i:Int)<((n+1:Nat):Int))=true by simp;omega,dR,aU,bD]
  rw[BC (by omega)]
  simp only[aU,hg]
  have way:∀k:Nat→Option ((Nat×Int×Nat×List Nat)⊕(Nat×List Nat)),(bif decide ((i:Int)<(v.length:Int))then(bR v (i:Int)).bind fun eI=>k (eI%18446744073709551616*f%18446744073709551616)else k 0)=k p:=by
   intro k
   by_cases hin:i<v.length
   ·rw[show decide ((i:Int)<(v.length:Int))=true by simp;omega,dR]
    have Jo:v[i]? =some (V/4294967296^i%4294967296):=by rw[←RM];exact kH hV hin
    rw[aQ Jo,aU,Nat.mod_eq_of_lt (a:=V/4294967296^i%4294967296) (b:=18446744073709551616) (by have:=Nat.mod_lt (V/4294967296^i) (show 0<4294967296 by decide);omega),hp,Nat.mod_eq_of_lt (a:=p) (by omega)]
   ·rw[show decide ((i:Int)<(v.length:Int))=false by simp;omega,eO]
    have:V/4294967296^i=0:=Nat.div_eq_of_lt (Nat.lt_of_lt_of_le Bp (Nat.pow_le_pow_right (by decide) (by omega)))
    rw[←hp,this];simp
  refine(way (fun y=>(bj y c).bind _)).trans ?_
  rw[gI _ _ (by omega)]
  simp only[aU]
  rw[KS,hstep,Nat.mod_eq_of_lt (a:=u) (by omega),Nat.mod_eq_of_lt (a:=t) (by omega)]
  rw[je (by rw[aT];omega),aU,aW (by omega),abc]
  by_cases V7:u<t+(1-l)
  ·have e1:o5 18446744073709551616 (o5 18446744073709551616 u t) (1-l)=18446744073709551616+u-t-(1-l):=by
    by_cases h1:u<t
    ·rw[y4 h1 (by omega),sS (by omega) (by omega)]
    ·rw[sS (a:=u) (b:=t) (by omega) (by omega),y4 (by omega) (by omega)];omega
   rw[e1]
   have e2:(18446744073709551616+u-t-(1-l))%4294967296=X/4294967296^i%4294967296:=by rw[←hxd];omega
   have e3:(18446744073709551616+u-t-(1-l))/9223372036854775808=1-(u+(4294967296-1-t)+l)/4294967296:=by omega
   rw[e2,e3,hput]
  ·have e1:o5 18446744073709551616 (o5 18446744073709551616 u t) (1-l)=u-t-(1-l):=by
    rw[sS (a:=u) (b:=t) (by omega) (by omega),sS (by omega) (by omega)]
   rw[e1]
   have e2:(u-t-(1-l))%4294967296=X/4294967296^i%4294967296:=by rw[←hxd];omega
   have e3:(u-t-(1-l))/9223372036854775808=1-(u+(4294967296-1-t)+l)/4294967296:=by omega
   rw[e2,e3,hput]
 ·simp
 ·simp only[aU]
  rw[rP (by rw[aT,aT]),aU,IY hU,Tf (by decide) hU hT]
  congr 2
  by_cases h:U<V*f<;>simp[h]
end Go.Proofs.YtfoldppidpmchaaGreat
namespace Go.Proofs.YtfoldppidpmchaaGreat
open Go.Fw
theorem abj{B V:Nat}(hB:0<B)(hV:0<V)(A k:Nat):A%(V*B^(k+1))/B^k<B*V:=by
 rw[Nat.div_lt_iff_lt_mul (Nat.pow_pos hB)]
 have:V*B^(k+1)=B*V*B^k:=by rw[Nat.pow_succ,Nat.mul_comm (B^k),←Nat.mul_assoc,Nat.mul_comm V]
 rw[←this]
 exact Nat.mod_lt _ (Nat.mul_pos hV (Nat.pow_pos hB))
theorem Yh{B V:Nat}(A k:Nat):A%(V*B^(k+1))%B^k+B^k*(A%(V*B^(k+1))/B^k%V)=A%(V*B^k):=by
 rw[←Nat.mod_mul,Nat.mul_comm (B^k),Nat.mod_mod_of_dvd]
 rw[Nat.pow_succ,←Nat.mul_assoc];exact Nat.dvd_mul_right _ _
theorem Yi{B V:Nat}(A k:Nat):A%(V*B^(k+1))/B^k/V=A/V/B^k%B:=by
 rw[Nat.div_div_eq_div_mul,Nat.mul_comm (B^k),Nat.pow_succ,←Nat.mul_assoc,Nat.mod_mul_right_div_self,Nat.div_div_eq_div_mul]
theorem GF{B:Nat}(hB:0<B){N k:Nat}(h:k<N)(Q:Nat):(dy B N (Q/B^(k+1)*B^(k+1))).set k (Q/B^k%B)=dy B N (Q/B^k*B^k):=by
 have hP:0<B^k:=Nat.pow_pos hB
 refine vK hB h (Nat.mod_lt _ hB) ?_ ?_ ?_
 ·rw[Nat.mul_mod_left,Nat.pow_succ,Nat.mul_comm (B^k),←Nat.mul_assoc,Nat.mul_mod_left]
 ·rw[Nat.mul_div_cancel _ hP]
 ·rw[Nat.mul_div_cancel _ (Nat.pow_pos hB),Nat.pow_succ,←Nat.div_div_eq_div_mul,Nat.mul_div_cancel _ hP,Nat.div_div_eq_div_mul]
theorem Mk{α:Type}{l:List α}{o n:Nat}(h:o<l.length)(h':o+n≤l.length):Wh l (o:Int) ((o+n:Nat):Int)=some (o,n):=by
 unfold Wh
 rw[if_pos (by omega)]
 congr 2
 omega
theorem Tg{U V g M:Nat}(hV:0<V)(h1:U/V≤g)(h2:g≤U/V+1)(hM:U<M)(hVM:V≤M):
  (V*g≤U∧g=U/V∧(U+M-V*g)%M=U%V)∨(U<V*g∧g=U/V+1∧U+M-V*g<M∧(U+M-V*g+V)%M=U%V):=by
 have hd:=Nat.div_add_mod U V
 have hm:=Nat.mod_lt U hV
 revert h1 h2 hd hm
 generalize U/V=q
 generalize U%V=r
 intro h1 h2 hd hm
 rcases Nat.lt_or_ge q g with h|h
 ·obtain rfl:g=q+1:=by omega
  have e:V*(q+1)=V*q+V:=Nat.mul_succ ..
  right
  refine⟨by omega,rfl,by omega,?_⟩
  rw[show U+M-V*(q+1)+V=r+M by omega,Nat.add_mod_right,Nat.mod_eq_of_lt (by omega)]
 ·obtain rfl:g=q:=by omega
  left
  refine⟨by omega,rfl,?_⟩
  rw[show U+M-V*g=r+M by omega,Nat.add_mod_right,Nat.mod_eq_of_lt (by omega)]
theorem Th{R D e i:Nat}(hD:0<D)(he:4294967296=D*e):(R*D/4294967296^(i+1)%4294967296*4294967296+R*D/4294967296^i%4294967296)/D%4294967296=R/4294967296^i%4294967296:=by
 have h1:R*D/4294967296^(i+1)%4294967296*4294967296+R*D/4294967296^i%4294967296=R*D/4294967296^i%(4294967296*4294967296):=by
  rw[Nat.mod_mul,Nat.div_div_eq_div_mul,show 4294967296^i*4294967296=4294967296^(i+1)from(Nat.pow_succ ..).symm,Nat.add_comm,Nat.mul_comm 4294967296]
 have h2:(4294967296*4294967296:Nat)=D*(e*4294967296):=by
  rw[←Nat.mul_assoc,←he]
 rw[h1,h2,Nat.mod_mul_right_div_self,Nat.mod_mul_left_mod,Nat.div_div_eq_div_mul,Nat.mul_comm (4294967296^i) D,←Nat.div_div_eq_div_mul,Nat.mul_div_cancel _ hD]
theorem Yj{B:Nat}(hB:0<B){N i R:Nat}(h:i<N):(dy B N (R%B^i)).set i (R/B^i%B)=dy B N (R%B^(i+1)):=by
 refine vK hB h (Nat.mod_lt _ hB) ?_ ?_ ?_
 ·rw[Nat.mod_mod,Nat.mod_mod_of_dvd _ (Nat.pow_dvd_pow _ (Nat.le_succ i))]
 ·rw[Nat.pow_succ,Nat.mod_mul_right_div_self,Nat.mod_mod]
 ·rw[Nat.div_eq_of_lt (Nat.mod_lt _ (Nat.pow_pos hB)),Nat.div_eq_of_lt]
  exact Nat.lt_of_lt_of_le (Nat.mod_lt _ (Nat.pow_pos hB)) (Nat.pow_le_pow_right hB (Nat.le_succ i))
theorem KW(a b:List Nat)(ha:GB a)(hb:GB b){n:Nat}(hn:b.length=n+2)(hl:b.length≤a.length)(KV:b[n+1]? ≠some 0):
  iQ a b=some (dy 4294967296 (a.length-b.length+1) (vl a/vl b),dy 4294967296 b.length (vl a%vl b)):=by
 obtain⟨hA,hla⟩:=ha
 obtain⟨hB,hlb⟩:=hb
 have hP:∀k,0<4294967296^k:=fun k=>Nat.pow_pos (by decide)
 obtain⟨Va,hVa⟩:∃V,vl a=V:=⟨_,rfl⟩
 obtain⟨Vb,hVb⟩:∃V,vl b=V:=⟨_,rfl⟩
 have Yk:Vb<4294967296^(n+2):=by rw[←hVb,←hn];exact eY b hB
 have halt:Va<4294967296^a.length:=by rw[←hVa];exact eY a hA
 have I1:4294967296^(n+2)=4294967296^(n+1)*4294967296:=Nat.pow_succ ..
 obtain⟨x,hx⟩:∃x,Vb/4294967296^(n+1)=x:=⟨_,rfl⟩
 have abk:x<4294967296:=by rw[←hx,Nat.div_lt_iff_lt_mul (hP _)];rw[I1,Nat.mul_comm]at Yk;exact Yk
 have hgx:b[n+1]? =some x:=by rw[kH hB (by omega),show val 4294967296 b=Vb from hVb,hx,Nat.mod_eq_of_lt abk]
 have hx0:x≠0:=fun e=>KV (by rw[hgx,e])
 obtain⟨s,NL,Eo,hs3,hs4⟩:=aba x abk hx0
 have Xn:0<2^s:=Nat.two_pow_pos s
 have abl:2^s<4294967296:=by
  have:2^s<2^32:=Nat.pow_lt_pow_right (by decide) Eo
  rw[two32]at this;exact this
 obtain⟨D,hD⟩:∃D,2^s=D:=⟨_,rfl⟩
 rw[hD]at hs3 hs4 Xn abl
 obtain⟨V,hV⟩:∃V,Vb*D=V:=⟨_,rfl⟩
 obtain⟨A,hAe⟩:∃A,Va*D=A:=⟨_,rfl⟩
 have Bp:V<4294967296^(n+2):=by
  have h1:Vb<(x+1)*4294967296^(n+1):=by rw[←hx,Nat.add_mul,Nat.one_mul];exact Nat.lt_div_mul_add (hP _)
  have h2:(x+1)*D≤4294967296:=by
   obtain⟨e,he⟩:∃e,4294967296=D*e:=⟨2^(32-s),by rw[←hD,←Nat.pow_add,show s+(32-s)=32 by omega,two32]⟩
   have h3:x<e:=by
    apply Nat.lt_of_mul_lt_mul_left (a:=D)
    rw[←he,Nat.mul_comm];exact hs4
   calc (x+1)*D≤e*D:=Nat.mul_le_mul_right _ h3
    _=4294967296:=by rw[Nat.mul_comm,←he]
  rw[←hV,I1]
  calc Vb*D<(x+1)*4294967296^(n+1)*D:=Nat.mul_lt_mul_of_pos_right h1 Xn
   _=4294967296^(n+1)*((x+1)*D):=by rw[Nat.mul_comm (x+1),Nat.mul_assoc]
   _≤4294967296^(n+1)*4294967296:=Nat.mul_le_mul_left _ h2
 have Q6:2147483648*4294967296^(n+1)≤V:=by
  have h1:x*4294967296^(n+1)≤Vb:=by rw[←hx];exact Nat.div_mul_le_self _ _
  rw[←hV]
  calc 2147483648*4294967296^(n+1)≤x*D*4294967296^(n+1):=Nat.mul_le_mul_right _ hs3
   _=x*4294967296^(n+1)*D:=by rw[Nat.mul_assoc,Nat.mul_comm D,←Nat.mul_assoc]
   _≤Vb*D:=Nat.mul_le_mul_right _ h1
 have Yd:0<V:=Nat.lt_of_lt_of_le (Nat.mul_pos (by decide) (hP _)) Q6
 have hb0:0<Vb:=by
  rcases Nat.eq_zero_or_pos Vb with h|h
  ·rw[←hV,h,Nat.zero_mul]at Yd;omega
  ·exact h
 have hAV:A/V=Va/Vb:=by rw[←hAe,←hV,Nat.mul_div_mul_right _ _ Xn]
 have ah6:A%V=Va%Vb*D:=by rw[←hAe,←hV,Nat.mul_mod_mul_right]
 obtain⟨K,hK⟩:∃K,a.length=K+(n+2):=⟨a.length-(n+2),by omega⟩
 have hA0:A<V*4294967296^(K+1):=by
  have h1:4294967296^(n+1)≤Vb:=by
   have:1*4294967296^(n+1)≤x*4294967296^(n+1):=Nat.mul_le_mul_right _ (by omega)
   have h2:x*4294967296^(n+1)≤Vb:=by rw[←hx];exact Nat.div_mul_le_self _ _
   omega
  rw[←hAe,←hV]
  calc Va*D<4294967296^a.length*D:=Nat.mul_lt_mul_of_pos_right halt Xn
   _=4294967296^(n+1)*4294967296^(K+1)*D:=by rw[hK,←Nat.pow_add];congr 2;omega
   _≤Vb*4294967296^(K+1)*D:=Nat.mul_le_mul_right _ (Nat.mul_le_mul_right _ h1)
   _=Vb*D*4294967296^(K+1):=by rw[Nat.mul_assoc,Nat.mul_comm _ D,←Nat.mul_assoc]
 obtain⟨v,hve⟩:∃v,dy 4294967296 (n+2) V=v:=⟨_,rfl⟩
 have hvl:v.length=n+2:=by rw[←hve,aT]
 have hvW:GB v:=⟨fun y hy=>by rw[←hve]at hy;exact oq (by decide) _ _ _ hy,by omega⟩
 have hvv:vl v=V:=by rw[←hve];show val _ _=_;rw[mA,Nat.mod_eq_of_lt Bp]
 have abo:List.take b.length (dy 4294967296 (b.length+1) (Vb*2^s))=v:=by
  rw[hD,hV,hn,hG,List.take_append_of_le_length (by rw[aT];omega),List.take_of_length_le (by rw[aT];omega),hve]
 unfold iQ
 simp only[aU]
 rw[show((b.length:Nat):Int)-1=((n+1:Nat):Int) by omega,fO (by omega),aQ hgx,aU,NL,aU]
 rw[show((s:Int)%18446744073709551616).toNat=s by rw[Int.emod_eq_of_lt (by omega) (by omega)];simp]
 rw[Ej,shiftLeft_eq a s ⟨hA,hla⟩ Eo,aU,shiftLeft_eq b s ⟨hB,hlb⟩ Eo,aU,oV (by rw[aT];omega),aU]
 obtain⟨Q,hQ⟩:∃Q,A/V=Q:=⟨_,rfl⟩
 have ah8:Q<4294967296^(K+1):=by rw[←hQ,Nat.div_lt_iff_lt_mul Yd,Nat.mul_comm];exact hA0
 rw[hVa,hVb,←hAV,hQ,abo,hD,hAe,hn]
 rw[show a.length-(n+2)+1=K+1 by omega]
 rw[bT (x:=(a.length:Int)-((n+2:Nat):Int)) (by omega) (by omega),bT (x:=(a.length:Int)-((n+2:Nat):Int)+1) (by omega) (by omega),show(a.length:Int)-((n+2:Nat):Int)+1=((K+1:Nat):Int) by omega,sQ (by decide) (by omega),aU,show(a.length:Int)-((n+2:Nat):Int)=(K:Int) by omega]
 refine aJ (fun j=>((K:Int)-(j:Int),dy 4294967296 (K+1) (Q/4294967296^(K+1-j)*4294967296^(K+1-j)),dy 4294967296 (a.length+1) (A%(V*4294967296^(K+1-j))))) (K+1) (dy 4294967296 (K+1) Q,dy 4294967296 (a.length+1) (A%V)) ?_ (fun j hj=>?_) ?_ ?_
 ·rw[show K+1-0=K+1 by omega,Nat.mod_eq_of_lt hA0,Nat.div_eq_of_lt ah8,Nat.zero_mul,rQ];simp
 ·
  obtain⟨k,hk⟩:∃k,K=k+j:=⟨K-j,by omega⟩
  rw[show K+1-j=k+1 by omega,show K+1-(j+1)=k by omega,show(K:Int)-(j:Int)=(k:Int) by omega,show(K:Int)-((j+1:Nat):Int)=(k:Int)-1 by omega]
  have hU:=abj (B:=4294967296) (by decide) Yd A k
  have I2:=Yh (B:=4294967296) (V:=V) A k
  have Yl:=Yi (B:=4294967296) (V:=V) A k
  obtain⟨N,hN⟩:∃N,a.length+1=N:=⟨_,rfl⟩
  obtain⟨A1,hA1⟩:∃A1,A%(V*4294967296^(k+1))=A1:=⟨_,rfl⟩
  rw[hN]
  rw[hA1]at hU I2 Yl⊢
  rw[hQ]at Yl
  obtain⟨⟨g,lg⟩,hge,hgl,hg1,hg2⟩:=I0 (N:=N) (A:=A1) (o:=k) (n:=n) (v:=v) hvW hvl (by omega) (by omega) (by rw[hvv];exact hU) (by rw[hvv];exact Q6)
  simp only at hgl hg1 hg2
  rw[hvv]at hg1 hg2
  subst hgl
  have hsub:=wv (N:=N) (A:=A1) (o:=k) (n:=n+2) (v:=v) (f:=g) hvW hvl (by omega) (by omega) ?_ ?_
  ·rw[hvv]at hsub
   obtain⟨U,RL⟩:∃U,A1/4294967296^k=U:=⟨_,rfl⟩
   rw[RL]at hU I2 Yl hg1 hg2 hsub
   have Ti:4294967296^(n+2+1)=4294967296^(n+2)*4294967296:=Nat.pow_succ ..
   have hUM:U<4294967296^(n+2+1):=by
    have:4294967296*V<4294967296*4294967296^(n+2):=Nat.mul_lt_mul_of_pos_left Bp (by decide)
    rw[Ti];omega
   have Q7:=Tg (M:=4294967296^(n+2+1)) Yd hg1 hg2 hUM (by rw[Ti];omega)
   have hql:U/V<4294967296:=by rw[Yl];exact Nat.mod_lt _ (by decide)
   rw[show decide ((0:Int)≤(k:Int))=true by simp,dR]
   rw[kG (by omega),aW (by omega),show k+(n+2)+1=k+(n+3) by omega,Mk (by rw[aT];omega) (by rw[aT];omega),aU,hge,aU,rP rfl,aU,Mk (by rw[aT];omega) (by rw[aT];omega),aU]
   show(Option.bind (ct _ k (n+2+1) v g) _)=_
   rw[hsub,aU,rP (by rw[aT,aT]),aU]
   simp only[bD]
   rcases Q7 with⟨hc1,Jz,hc3⟩|⟨hc1,Jz,hc3,hc4⟩
   ·rw[show decide (U<V*g)=false by simp;omega,eO,hc3,I2,Jz,Nat.mod_eq_of_lt hql,Yl,eX (by rw[aT];omega),aU,je (by rw[aT];omega),aU,GF (by decide) (by omega),bT (by omega) (by omega)]
   ·rw[show decide (U<V*g)=true by simp;omega,dR,sS (by omega) (by omega),show g-1=U/V by omega,Nat.mod_eq_of_lt hql,Yl]
    rw[Nat.mod_eq_of_lt hc3]
    obtain⟨Y,hY⟩:∃Y,U+4294967296^(n+2+1)-V*g=Y:=⟨_,rfl⟩
    rw[hY]at hc3 hc4⊢
    obtain⟨A2,hA2⟩:∃A2,A1%4294967296^k+4294967296^k*Y=A2:=⟨_,rfl⟩
    rw[hA2]
    have Ym:A2/4294967296^k=Y:=by rw[←hA2,Nat.add_mul_div_left _ _ (hP k),Nat.div_eq_of_lt (Nat.mod_lt _ (hP k)),Nat.zero_add]
    have hm2:A2%4294967296^k=A1%4294967296^k:=by rw[←hA2,Nat.add_mul_mod_self_left,Nat.mod_mod]
    have hcr:∀i,BF 4294967296 Y V i≤1:=fun i=>Dn (by decide) _ _ _
    refine aJ (fun i=>((i:Int),BF 4294967296 Y V i,dy 4294967296 N (mix 4294967296 k i (Y+V) Y A2))) (n+2) (BF 4294967296 Y V (n+2),dy 4294967296 N (mix 4294967296 k (n+2) (Y+V) Y A2)) ?_ (fun i hi=>?_) ?_ ?_
    ·rw[Dq,←Ym,IZ];rfl
    ·have Jo:v[i]? =some (V/4294967296^i%4294967296):=by rw[←hvv];exact kH hvW.1 (by omega)
     have hgu:(dy 4294967296 N (mix 4294967296 k i (Y+V) Y A2))[k+i]? =some (Y/4294967296^i%4294967296):=by rw[n8 (by omega),ze (by decide)]
     have NL:=Dp (B:=4294967296) (by decide) Y V i
     have Eo:=BG (B:=4294967296) (by decide) Y V i
     have hput:=GC (B:=4294967296) (by decide) k i (Y+V) Y A2 (N:=N) (by omega)
     have hci:=hcr i
     have hv1:=Nat.mod_lt (V/4294967296^i) (show 0<4294967296 by decide)
     have Y9:=Nat.mod_lt (Y/4294967296^i) (show 0<4294967296 by decide)
     simp only[show decide ((i:Int)<(v.length:Int))=true by simp;omega,dR]
     rw[aQ Jo,aU,kG (by omega),eX (by rw[aT];omega),aU,hgu,aU,Nat.mod_eq_of_lt (a:=Y/4294967296^i%4294967296) (b:=18446744073709551616) (by omega),Nat.mod_eq_of_lt (a:=V/4294967296^i%4294967296) (b:=18446744073709551616) (by omega),Nat.mod_eq_of_lt (b:=18446744073709551616) (by omega),gI _ _ (by omega),aU,aU,je (by rw[aT];omega),aU,aW (by omega)]
     rw[NL,Eo,hput]
    ·simp[hvl]
    ·have hgu:(dy 4294967296 N (mix 4294967296 k (n+2) (Y+V) Y A2))[k+(n+2)]? =some (Y/4294967296^(n+2)%4294967296):=by rw[n8 (by omega),ze (by decide)]
     have Eo:=BG (B:=4294967296) (by decide) Y V (n+2)
     have hput:=GC (B:=4294967296) (by decide) k (n+2) (Y+V) Y A2 (N:=N) (by omega)
     have hci:=hcr (n+2)
     have Y9:=Nat.mod_lt (Y/4294967296^(n+2)) (show 0<4294967296 by decide)
     rw[Nat.div_eq_of_lt Bp,Nat.zero_mod,Nat.add_zero]at Eo
     simp only[]
     rw[eX (by rw[aT];omega),aU,hgu,aU,Nat.mod_eq_of_lt (a:=Y/4294967296^(n+2)%4294967296) (b:=18446744073709551616) (by omega),gI _ _ (by omega),aU,aU,je (by rw[aT];omega),aU,Eo,hput,IY hc3,hm2,hc4,I2,eX (by rw[aT];omega),aU,je (by rw[aT];omega),aU,GF (by decide) (by omega),bT (by omega) (by omega)]
  ·
   have hql:A1/4294967296^k/V<4294967296:=by rw[Yl];exact Nat.mod_lt _ (by decide)
   omega
  ·have Ti:4294967296^(n+2+1)=4294967296^(n+2)*4294967296:=Nat.pow_succ ..
   have:4294967296*V<4294967296*4294967296^(n+2):=Nat.mul_lt_mul_of_pos_left Bp (by decide)
   rw[Ti];omega
 ·rw[show K+1-(K+1)=0 by omega,Nat.pow_zero,Nat.mul_one,Nat.mul_one,Nat.div_one,show decide (0≤(K:Int)-((K+1:Nat):Int))=false by simp;omega,eO]
 ·
  obtain⟨R,hR⟩:∃R,Va%Vb=R:=⟨_,rfl⟩
  rw[ah6,hR]
  have aic:R<4294967296^(n+2):=by rw[←hR];exact Nat.lt_trans (Nat.mod_lt _ hb0) Yk
  rw[sQ (by decide) (by omega),aU]
  refine aJ (fun i=>((i:Int),dy 4294967296 (n+2) (R%4294967296^i))) (n+2) (dy 4294967296 (n+2) R) ?_ (fun i hi=>?_) ?_ rfl
  ·rw[Nat.pow_zero,Nat.mod_one,rQ];rfl
  ·obtain⟨e,he⟩:∃e,4294967296=D*e:=⟨2^(32-s),by rw[←hD,←Nat.pow_add,show s+(32-s)=32 by omega,two32]⟩
   have Q8:=Th (R:=R) (i:=i) Xn he
   obtain⟨u,hu⟩:∃u,R*D/4294967296^i%4294967296=u:=⟨_,rfl⟩
   obtain⟨w,hw⟩:∃w,R*D/4294967296^(i+1)%4294967296=w:=⟨_,rfl⟩
   have hu1:u<4294967296:=by rw[←hu];exact Nat.mod_lt _ (by decide)
   have Y3:w<4294967296:=by rw[←hw];exact Nat.mod_lt _ (by decide)
   rw[hu,hw]at Q8
   simp only[show decide ((i:Int)<((n+2:Nat):Int))=true by simp;omega,dR]
   rw[eX (by rw[aT];omega),aU,n8 (by omega),aU,hu,aW (by omega),eX (by rw[aT];omega),aU,n8 (by omega),aU,hw,Nat.mod_eq_of_lt (a:=u) (by omega),Nat.mod_eq_of_lt (a:=w) (by omega),two32,Nat.mod_eq_of_lt (a:=w*4294967296) (by omega),Nat.or_comm,Mi hu1,Nat.mod_eq_of_lt (a:=w*4294967296+u) (by omega),show min s 64=s by omega,hD,Q8,eX (by rw[aT];omega),aU,je (by rw[aT];omega),aU]
   rw[Yj (by decide) hi]
  ·rw[Nat.mod_eq_of_lt aic];simp
end Go.Proofs.YtfoldppidpmchaaGreat
namespace Go.Proofs.YtfoldppidpmchaaGreat
open Go.Fw
def sv(n:Bool)(v:Nat):Int:=bif n then-(v:Int)else v
def zi(z:Zr):Int:=sv z.neg (vl z.w)
def zn(i:Int):Zr:=⟨decide (i<0),can 4294967296 i.natAbs⟩
def Wl(z:Zr):Prop:=(∀x∈z.w,x<4294967296)∧z.w.length≤10000000000
def Fit(L:Nat)(i:Int):Prop:=i.natAbs<4294967296^L
theorem Q9(n:Bool)(v:Nat):(sv n v).natAbs=v:=by cases n<;>simp[sv]
theorem vo(z:Zr):(zi z).natAbs=vl z.w:=Q9 _ _
theorem Yn(n:Bool)(v:Nat):decide (sv n v<0)=(n&&v != 0):=by
 cases n
 ·have:¬((v:Int)<0):=by omega
  simp[sv,this]
 ·rcases v with _|v
  ·simp[sv]
  ·simp[sv]
theorem pR(n:Bool)(v:Nat):zc n v=zn (sv n v):=by rw[zc,zn,Yn,Q9]
theorem Tj(i:Int):sv (decide (i<0)) i.natAbs=i:=by
 by_cases h:i<0
 ·rw[show decide (i<0)=true by simp[h]];simp[sv];omega
 ·rw[show decide (i<0)=false by simp[h]];simp[sv];omega
theorem dJ(i:Int):zi (zn i)=i:=by
 show sv (decide (i<0)) (vl (can 4294967296 i.natAbs))=i
 rw[show vl (can 4294967296 i.natAbs)=i.natAbs from ke (by decide) _,Tj]
theorem Dt(n:Bool)(v:Nat):sv (!n) v=-sv n v:=by cases n<;>simp[sv]
theorem jQ(v:Nat):sv false v=v:=rfl
theorem Fit.mono{L M:Nat}{i:Int}(h:Fit L i)(hl:L≤M):Fit M i:=Nat.lt_of_lt_of_le h (Nat.pow_le_pow_right (by decide) hl)
theorem Fit.neg{L:Nat}{i:Int}(h:Fit L i):Fit L (-i):=by unfold Fit at*;rw[Int.natAbs_neg];exact h
theorem Fit.add{L:Nat}{i j:Int}(h:Fit L i)(h':Fit L j):Fit (L+1) (i+j):=by
 unfold Fit at*
 have:=Int.natAbs_add_le i j
 rw[Nat.pow_succ];omega
theorem Fit.sub{L:Nat}{i j:Int}(h:Fit L i)(h':Fit L j):Fit (L+1) (i-j):=by
 rw[Int.sub_eq_add_neg];exact h.add h'.neg
theorem Fit.mul{L M:Nat}{i j:Int}(h:Fit L i)(h':Fit M j):Fit (L+M) (i*j):=by
 unfold Fit at*
 rw[Int.natAbs_mul,Nat.pow_add]
 exact Nat.mul_lt_mul'' h h'
theorem Fit.i64{i:Int}(h: -9223372036854775808≤i)(h':i≤9223372036854775807):Fit 2 i:=by
 unfold Fit;rw[show(4294967296:Nat)^2=18446744073709551616 by decide];omega
theorem Fit.le{L:Nat}{i j:Int}(h:Fit L i)(h':j.natAbs≤i.natAbs):Fit L j:=Nat.lt_of_le_of_lt h' h
theorem dG{L:Nat}{i:Int}(h:Fit L i)(hL:L≤10000000000):Wl (zn i):=
 ⟨fun _ hx=>eP (by decide) hx,Nat.le_trans ((bg (by decide)).2 h) hL⟩
theorem Wl.fit{z:Zr}(h:Wl z):Fit z.w.length (zi z):=by
 unfold Fit;rw[vo];exact eY z.w h.1
theorem Wl.lt{z:Zr}(h:Wl z):vl z.w<4294967296^z.w.length:=eY z.w h.1
theorem Wl.cl{z:Zr}(h:Wl z):(can 4294967296 (vl z.w)).length≤10000000000:=
 Nat.le_trans ((bg (by decide)).2 (Wl.lt h)) h.2
theorem Wl.trim{z:Zr}(h:Wl z):aG z.w=some (can 4294967296 (vl z.w)):=by
 rw[BH _ (by have:=h.2;omega),jP (by decide) h.1]
theorem gz{v:Nat}(h:(can 4294967296 v).length≤10000000001):GB (can 4294967296 v):=⟨fun _ hx=>eP (by decide) hx,by omega⟩
theorem dS(v:Nat):vl (can 4294967296 v)=v:=ke (by decide) v
theorem fM{v:Nat}:((can 4294967296 v).length:Int)≤2↔v<18446744073709551616:=by
 have:=bg (B:=4294967296) (by decide) (v:=v) (n:=2)
 rw[show(4294967296:Nat)^2=18446744073709551616 by decide]at this
 omega
theorem mB{v:Nat}:((can 4294967296 v).length:Int)≤1↔v<4294967296:=by
 have:=bg (B:=4294967296) (by decide) (v:=v) (n:=1)
 rw[show(4294967296:Nat)^1=4294967296 by decide]at this
 omega
theorem pS{v:Nat}:(can 4294967296 v).length=0↔v=0:=by
 constructor
 ·intro h;exact y7 (by decide) (List.length_eq_zero_iff.1 h)
 ·intro h;rw[h,pQ];rfl
theorem zf(l:List Nat)(h:l.length≤1000000000000):cZ l=some l:=by
 unfold cZ;rw[SW (by decide) (by simp;omega)];simp
end Go.Proofs.YtfoldppidpmchaaGreat
namespace Go.Proofs.YtfoldppidpmchaaGreat
open Go.Fw
theorem I3(a b:Nat):decide (xM a b<0)=decide (a<b):=by
 rcases Nat.lt_trichotomy a b with h|h|h
 ·rw[qJ h];simp[h]
 ·rw[h,vL];simp
 ·rw[sY h];simp;omega
theorem A4(a b:Nat)(ha:(can 4294967296 a).length≤10000000000)(hb:(can 4294967296 b).length≤10000000000)(h0:b≠0):
  ∃q r,fB (can 4294967296 a) (can 4294967296 b)=some (q,r)∧GB q∧vl q=a/b∧GB r∧vl r=a%b∧q.length≤10000000001∧r.length≤10000000001:=by
 unfold fB
 rw[kI a b (by omega) (by omega)]
 simp only[aU]
 by_cases hlt:a<b
 ·rw[qJ hlt]
  simp only[show decide ((-1:Int)<0)=true by decide,dR]
  rw[zf _ (by omega)]
  refine⟨_,_,rfl,⟨by simp,by simp⟩,?_,gz (by omega),?_,by simp,by omega⟩
  ·rw[Nat.div_eq_of_lt hlt];rfl
  ·rw[dS,Nat.mod_eq_of_lt hlt]
 ·rw[I3,show decide (a<b)=false by simp[hlt]]
  simp only[eO]
  by_cases h2:a<18446744073709551616
  ·rw[show decide (((can 4294967296 a).length:Int)≤2)=true by rw[decide_eq_true_eq];exact fM.2 h2]
   have Ff:b<18446744073709551616:=by omega
   simp only[dR]
   have l1:=low_eq (can 4294967296 a) (fun _ hx=>eP (by decide) hx) (by have:=fM.2 h2;omega)
   have l2:=low_eq (can 4294967296 b) (fun _ hx=>eP (by decide) hx) (by have:=fM.2 Ff;omega)
   rw[dS]at l1 l2
   rw[l1,aU,l2,aU,Gu h0 h2,aU,rS _ _ (Nat.lt_of_le_of_lt (Nat.div_le_self _ _) h2),aU,BD h0,aU,rS _ _ (Nat.lt_of_le_of_lt (Nat.mod_le _ _) h2),aU]
   have hq:a/b<18446744073709551616:=Nat.lt_of_le_of_lt (Nat.div_le_self _ _) h2
   have hr:a%b<18446744073709551616:=Nat.lt_of_le_of_lt (Nat.mod_le _ _) h2
   have c1:=fM.2 hq
   have c2:=fM.2 hr
   exact⟨_,_,rfl,gz (by omega),dS _,gz (by omega),dS _,by show(can _ _).length≤_;omega,by show(can _ _).length≤_;omega⟩
  ·rw[show decide (((can 4294967296 a).length:Int)≤2)=false by rw[decide_eq_false_iff_not];exact fun h=>h2 (fM.1 h)]
   simp only[eO]
   have wG:(can 4294967296 b).length≠0:=fun h=>h0 (pS.1 h)
   by_cases h1:b<4294967296
   ·have h1':=mB.2 h1
    rw[show decide (((can 4294967296 b).length:Int)=1)=true by simp;omega,dR]
    have hg:(can 4294967296 b)[0]? =some b:=by rw[vJ (by decide) (by omega)];simp;exact h1
    rw[zf _ (by omega),aU,vI hg,aU,Nat.mod_eq_of_lt (b:=18446744073709551616) (by omega),IX _ _ (gz (by omega)) (by omega) (by omega),aU,dS]
    simp only[]
    rw[rP (by rw[aT]),aU]
    have hm:a%b<b:=Nat.mod_lt _ (by omega)
    rw[Nat.mod_eq_of_lt (a:=a%b) (by omega)]
    refine⟨_,_,rfl,⟨fun x hx=>oq (by decide) _ _ _ hx,by rw[aT];omega⟩,?_,⟨?_,by simp⟩,?_,by rw[aT];omega,by simp⟩
    ·show val _ _=_
     rw[mA,Nat.mod_eq_of_lt (Nat.lt_of_le_of_lt (Nat.div_le_self _ _) (bH (by decide) a))]
    ·intro x hx;simp at hx;omega
    ·simp[vl,val]
   ·have h1':¬(((can 4294967296 b).length:Int)≤1):=fun h=>h1 (mB.1 h)
    rw[show decide (((can 4294967296 b).length:Int)=1)=false by simp;omega,eO]
    obtain⟨n,hn⟩:∃n,(can 4294967296 b).length=n+2:=⟨(can 4294967296 b).length-2,by omega⟩
    have hl:(can 4294967296 b).length≤(can 4294967296 a).length:=(bg (by decide)).2 (Nat.lt_of_le_of_lt (by omega) (bH (by decide) a))
    obtain⟨l,x,hx,he⟩:=IV (B:=4294967296) (by decide) h0
    have KV:(can 4294967296 b)[n+1]? ≠some 0:=by
     have:l.length=n+1:=by rw[he]at hn;simp at hn;omega
     rw[he,←this];simp;exact hx
    rw[KW _ _ (gz (by omega)) (gz (by omega)) hn hl KV,aU,dS,dS]
    have hbp:0<b:=by omega
    have e1:a<4294967296^(can 4294967296 a).length:=bH (by decide) a
    have e2:b<4294967296^(can 4294967296 b).length:=bH (by decide) b
    have e3:4294967296^(n+1)≤b:=qY (by decide) (by omega)
    refine⟨_,_,rfl,⟨fun x hx=>oq (by decide) _ _ _ hx,by rw[aT];omega⟩,?_,⟨fun x hx=>oq (by decide) _ _ _ hx,by rw[aT];omega⟩,?_,by rw[aT];omega,by rw[aT];omega⟩
    ·show val _ _=_
     rw[mA,Nat.mod_eq_of_lt]
     rw[Nat.div_lt_iff_lt_mul hbp]
     have:4294967296^((can 4294967296 a).length-(can 4294967296 b).length+1)*4294967296^(n+1)=4294967296^(can 4294967296 a).length:=by rw[←Nat.pow_add];congr 1;omega
     calc a<4294967296^((can 4294967296 a).length-(can 4294967296 b).length+1)*4294967296^(n+1):=by rw[this];exact e1
      _≤_:=Nat.mul_le_mul_left _ e3
    ·show val _ _=_
     rw[mA,Nat.mod_eq_of_lt (Nat.lt_trans (Nat.mod_lt _ hbp) e2)]
end Go.Proofs.YtfoldppidpmchaaGreat
namespace Go.Proofs.YtfoldppidpmchaaGreat
open Go.Fw
theorem m9{x:Int}(h1: -9223372036854775808≤x)(h2:x≤9223372036854775807):bF x=some (zn x):=by
 unfold bF
 simp only[aU,bD]
 by_cases hx:x<0
 ·have e:(x%18446744073709551616).toNat=18446744073709551616-x.natAbs:=by omega
  rw[show decide (x<0)=true by simp[hx],dR,e,y4 (by omega) (by omega),show 18446744073709551616+0-(18446744073709551616-x.natAbs)=x.natAbs by omega,rS _ _ (by omega),aU,pR,show sv true x.natAbs=x by simp[sv];omega]
 ·have e:(x%18446744073709551616).toNat=x.natAbs:=by omega
  rw[show decide (x<0)=false by simp[hx],eO,e,rS _ _ (by omega),aU,pR,show sv false x.natAbs=x by simp[sv];omega]
def cP(i:Int):Prop:=-9223372036854775808≤i∧i≤9223372036854775807
instance(i:Int):Decidable (cP i):=by unfold cP;infer_instance
def vp(i:Int):Int×Bool:=if cP i then(i,true)else(0,false)
theorem pU{z:Zr}(h:Wl z):cL z=some (vp (zi z)):=by
 obtain⟨n,w⟩:=z
 unfold cL
 have ht:=h.trim
 have aid:vl w<18446744073709551616→cS (can 4294967296 (vl w))=some (vl w):=fun h2=>by
  rw[low_eq _ (fun _ hx=>eP (by decide) hx) (by have:=fM.2 h2;omega),dS]
 show(aG w).bind _=some (vp (sv n (vl w)))
 rw[show aG w=some (can 4294967296 (vl w))from ht]
 simp only[aU]
 generalize vl w=v at*
 by_cases h2:v<18446744073709551616
 ·have:=fM.2 h2
  rw[show decide ((2:Int)<((can 4294967296 v).length:Int))=false by simp;omega,eO,aid h2,aU]
  cases n
  ·rw[eO,jQ]
   by_cases h3:v<9223372036854775808
   ·rw[show decide (9223372036854775808≤v)=false by simp;omega,eO,fO (by omega),vp,if_pos (by unfold cP;omega)]
   ·rw[show decide (9223372036854775808≤v)=true by simp;omega,dR,vp,if_neg (by unfold cP;omega)]
  ·rw[dR,show sv true v=-(v:Int)from rfl]
   by_cases h3:9223372036854775808<v
   ·rw[show decide (9223372036854775808<v)=true by simp;omega,dR,vp,if_neg (by unfold cP;omega)]
   ·rw[show decide (9223372036854775808<v)=false by simp;omega,eO,vp,if_pos (by unfold cP;omega)]
    by_cases h0:v=0
    ·subst h0;rfl
    ·rw[y4 (by omega) (by omega)]
     rw[show IntKind.i64.wrap ((18446744073709551616+0-v:Nat):Int)=-(v:Int) by
      rw[IntKind.wrap];simp[IntKind.signed,IntKind.bits];omega]
 ·have:¬(((can 4294967296 v).length:Int)≤2):=fun h=>h2 (fM.1 h)
  rw[show decide ((2:Int)<((can 4294967296 v).length:Int))=true by simp;omega,dR,vp,if_neg (by unfold cP;cases n<;>simp[sv]<;>omega)]
theorem sign_eq{z:Zr}(h:Wl z):cg z=some (zi z).sign:=by
 obtain⟨n,w⟩:=z
 unfold cg
 show(aG w).bind _=some (sv n (vl w)).sign
 rw[show aG w=some (can 4294967296 (vl w))from h.trim]
 simp only[aU]
 generalize vl w=v
 by_cases h0:v=0
 ·subst h0;cases n<;>rfl
 ·have:(can 4294967296 v).length≠0:=fun h=>h0 (pS.1 h)
  rw[show decide (((can 4294967296 v).length:Int)=0)=false by simp;intro e;rw[e]at this;exact this rfl,eO]
  cases n
  ·rw[eO,jQ,Int.sign_eq_one_of_pos (by omega)]
  ·rw[dR,show sv true v=-(v:Int)from rfl,Int.sign_eq_neg_one_of_neg (by omega)]
def kR(i j:Int):Int:=if i<j then-1 else if i=j then 0 else 1
theorem gP{i j:Int}(h:i<j):kR i j=-1:=by simp[kR,h]
theorem gQ{i j:Int}(h:j<i):kR i j=1:=by
 have h1:¬i<j:=by omega
 have h2:¬i=j:=by omega
 simp[kR,h1,h2]
theorem oW(i:Int):kR i i=0:=by simp[kR]
theorem Du(v w:Nat):xM v w=kR (v:Int) (w:Int):=by
 rcases Nat.lt_trichotomy v w with h|h|h
 ·rw[qJ h,gP (by omega)]
 ·rw[h,vL,oW]
 ·rw[sY h,gQ (by omega)]
theorem I4(i j:Int):kR (-i) (-j)=kR j i:=by
 rcases Int.lt_trichotomy i j with h|h|h
 ·rw[gQ h,gQ (by omega)]
 ·rw[h,oW,oW]
 ·rw[gP h,gP (by omega)]
theorem Yo{x y:Zr}(hx:Wl x)(hy:Wl y):nE x y=some (kR (zi x) (zi y)):=by
 obtain⟨n,w⟩:=x
 obtain⟨m,u⟩:=y
 unfold nE
 show(cg ⟨n,w⟩).bind _=_
 rw[sign_eq hx,aU]
 show(cg ⟨m,u⟩).bind _=_
 rw[sign_eq hy,aU,show aG w=some (can 4294967296 (vl w))from hx.trim,show aG u=some (can 4294967296 (vl u))from hy.trim]
 simp only[aU]
 rw[kI _ _ (Nat.le_trans hx.cl (by decide)) (Nat.le_trans hy.cl (by decide)),kI _ _ (Nat.le_trans hy.cl (by decide)) (Nat.le_trans hx.cl (by decide))]
 simp only[aU]
 rw[show zi ⟨n,w⟩=sv n (vl w)from rfl,show zi ⟨m,u⟩=sv m (vl u)from rfl]
 generalize vl w=a
 generalize vl u=b
 rw[Du,Du]
 obtain⟨i,hi⟩:∃i,sv n a=i:=⟨_,rfl⟩
 obtain⟨j,hj⟩:∃j,sv m b=j:=⟨_,rfl⟩
 have RR:(i<0→i=-(a:Int))∧(0≤i→i=a):=by rw[←hi];cases n<;>simp[sv]<;>omega
 have hjb:(j<0→j=-(b:Int))∧(0≤j→j=b):=by rw[←hj];cases m<;>simp[sv]<;>omega
 rw[hi,hj]
 rcases Int.lt_trichotomy i 0 with h1|h1|h1<;>rcases Int.lt_trichotomy j 0 with h2|h2|h2
 ·rw[Int.sign_eq_neg_one_of_neg h1,Int.sign_eq_neg_one_of_neg h2,RR.1 h1,hjb.1 h2,I4];rfl
 ·rw[Int.sign_eq_neg_one_of_neg h1,show Int.sign j=0 by rw[h2];rfl,show kR i j=-1 from gP (by omega)];rfl
 ·rw[Int.sign_eq_neg_one_of_neg h1,Int.sign_eq_one_of_pos h2,show kR i j=-1 from gP (by omega)];rfl
 ·rw[show Int.sign i=0 by rw[h1];rfl,Int.sign_eq_neg_one_of_neg h2,show kR i j=1 from gQ (by omega)];rfl
 ·rw[show Int.sign i=0 by rw[h1];rfl,show Int.sign j=0 by rw[h2];rfl,←RR.2 (by omega),←hjb.2 (by omega)];rfl
 ·rw[show Int.sign i=0 by rw[h1];rfl,Int.sign_eq_one_of_pos h2,show kR i j=-1 from gP (by omega)];rfl
 ·rw[Int.sign_eq_one_of_pos h1,Int.sign_eq_neg_one_of_neg h2,show kR i j=1 from gQ (by omega)];rfl
 ·rw[Int.sign_eq_one_of_pos h1,show Int.sign j=0 by rw[h2];rfl,show kR i j=1 from gQ (by omega)];rfl
 ·rw[Int.sign_eq_one_of_pos h1,Int.sign_eq_one_of_pos h2,←RR.2 (by omega),←hjb.2 (by omega)];rfl
theorem neg_eq{x:Zr}(hx:Wl x):fW x=some (zn (-zi x)):=by
 obtain⟨n,w⟩:=x
 unfold fW
 have hc:(can 4294967296 (vl w)).length≤10000000000:=hx.cl
 simp only[aU]
 rw[show aG w=some (can 4294967296 (vl w))from hx.trim,aU,zf _ (by omega),aU,kC _ _ (gz (by omega)),aU,dS,pR,Dt]
 rfl
end Go.Proofs.YtfoldppidpmchaaGreat
namespace Go.Proofs.YtfoldppidpmchaaGreat
open Go.Fw
theorem zg(n m:Bool)(a b:Nat)(ha:(can 4294967296 a).length≤10000000000)(hb:(can 4294967296 b).length≤10000000000):
  cD n (can 4294967296 a) m (can 4294967296 b)=some (zn (sv n a+sv m b)):=by
 have la:=bH (B:=4294967296) (by decide) a
 have lb:=bH (B:=4294967296) (by decide) b
 unfold cD
 simp only[aU]
 by_cases hnm:n=m
 ·subst hnm
  rw[show(n==n)=true by simp,dR,AZ _ _ (gz (by omega)) (gz (by omega)),aU,dS,dS,kC _ _ ⟨fun x hx=>oq (by decide) _ _ _ hx,by rw[aT];omega⟩,aU]
  have hv:vl (dy 4294967296 (max (can 4294967296 a).length (can 4294967296 b).length+1) (a+b))=a+b:=by
   show val _ _=_
   rw[mA,Nat.mod_eq_of_lt]
   have h1:a<4294967296^(max (can 4294967296 a).length (can 4294967296 b).length):=Nat.lt_of_lt_of_le la (Nat.pow_le_pow_right (by decide) (by omega))
   have h2:b<4294967296^(max (can 4294967296 a).length (can 4294967296 b).length):=Nat.lt_of_lt_of_le lb (Nat.pow_le_pow_right (by decide) (by omega))
   rw[Nat.pow_succ];omega
  rw[hv,pR,show sv n (a+b)=sv n a+sv n b by cases n<;>simp[sv];omega]
 ·rw[show(n==m)=false by simp[hnm],eO,kI _ _ (by omega) (by omega),aU,I3]
  have hm:m= !n:=by cases n<;>cases m<;>simp_all
  subst hm
  have hv:∀c d,d≤c→(can 4294967296 c).length≤10000000000→cq (can 4294967296 c) (can 4294967296 d)=some (dy 4294967296 (can 4294967296 c).length (c-d))∧vl (dy 4294967296 (can 4294967296 c).length (c-d))=c-d:=by
   intro c d hdc vW
   have lc:=bH (B:=4294967296) (by decide) c
   have VP:(can 4294967296 d).length≤(can 4294967296 c).length:=(bg (by decide)).2 (by omega)
   constructor
   ·rw[A0 _ _ (gz (by omega)) (gz (by omega)) VP (by rw[dS,dS];exact hdc),dS,dS]
   ·show val _ _=_
    rw[mA,Nat.mod_eq_of_lt (by omega)]
  by_cases hlt:a<b
  ·obtain⟨h1,h2⟩:=hv b a (by omega) hb
   rw[show decide (a<b)=true by simp[hlt],dR,h1,aU,kC _ _ ⟨fun x hx=>oq (by decide) _ _ _ hx,by rw[aT];omega⟩,aU,h2,pR,show sv (!n) (b-a)=sv n a+sv (!n) b by cases n<;>simp[sv]<;>omega]
  ·obtain⟨h1,h2⟩:=hv a b (by omega) ha
   rw[show decide (a<b)=false by simp[hlt],eO,h1,aU,kC _ _ ⟨fun x hx=>oq (by decide) _ _ _ hx,by rw[aT];omega⟩,aU,h2,pR,show sv n (a-b)=sv n a+sv (!n) b by cases n<;>simp[sv]<;>omega]
theorem Ml(v:BitVec 64):IntKind.i64.wrap (v.toNat:Int)=v.toInt:=by
 rw[BitVec.toInt_eq_toNat_cond]
 have:=v.isLt
 rw[show(2:Nat)^64=18446744073709551616 by decide]at this⊢
 split
 ·rw[fO (by omega)]
 ·rw[IntKind.wrap];simp[IntKind.signed,IntKind.bits];omega
theorem Mm(v:BitVec 64):BitVec.ofInt 64 (IntKind.i64.wrap (v.toNat:Int))=v:=by rw[Ml,BitVec.ofInt_toInt]
theorem Aj{x:Int}(h:cP x):(BitVec.ofInt 64 x).msb=decide (x<0):=by
 rw[BitVec.msb_eq_toInt,BitVec.toInt_ofInt]
 unfold cP at h
 have:x.bmod (2^64)=x:=by
  rw[Int.bmod_def]
  simp only[show((2^64:Nat):Int)=18446744073709551616 by decide]
  split<;>omega
 rw[this]
theorem ER(v:BitVec 64):decide ((0:Int)≤IntKind.i64.wrap (v.toNat:Int))= !v.msb:=by
 rw[Ml,BitVec.msb_eq_toInt]
 by_cases h:v.toInt<0
 ·simp[h]
 ·simp[h];omega
theorem rT(x:Int):cP (IntKind.i64.wrap x):=by
 unfold cP
 rw[IntKind.wrap];simp[IntKind.signed,IntKind.bits];split<;>omega
theorem zh{α:Type}(b:Bool)(x:α):(bif b then x else x)=x:=by cases b<;>rfl
theorem iU{i:Int}(h:cP i):vp i=(i,true):=if_pos h
theorem pV{i:Int}(h:¬cP i):vp i=(0,false):=if_neg h
theorem add_eq{x y:Zr}(hx:Wl x)(hy:Wl y):nC x y=some (zn (zi x+zi y)):=by
 obtain⟨n,w⟩:=x
 obtain⟨m,u⟩:=y
 unfold nC
 simp only[pU hx,pU hy,aU,bD]
 have hK:((aG w).bind fun wI=>(aG u).bind fun q9=>(cD n wI m q9).bind fun x=>some x)=some (zn (zi ⟨n,w⟩+zi ⟨m,u⟩)):=by
  rw[show aG w=some (can 4294967296 (vl w))from hx.trim,show aG u=some (can 4294967296 (vl u))from hy.trim,aU,aU,zg _ _ _ _ hx.cl hy.cl,aU];rfl
 have hK':((aG w).bind fun wI=>(aG u).bind fun q9=>(cD n wI m q9).bind fun x=>some ⟨x.neg,x.w⟩)=some (zn (zi ⟨n,w⟩+zi ⟨m,u⟩)):=hK
 rw[hK']
 generalize zi ⟨n,w⟩=i
 generalize zi ⟨m,u⟩=j
 by_cases h1:cP i
 ·by_cases h2:cP j
  ·rw[iU h1,iU h2,dR,aU,dR,Mm,Mm,ER,BitVec.msb_and,BitVec.msb_xor,BitVec.msb_xor,Aj h1,Aj h2,Aj (rT _),m9 (rT _).1 (rT _).2,aU]
   by_cases hr:cP (i+j)
   ·rw[bT hr.1 hr.2]
    exact zh _ _
   ·have:(!((decide (i<0)^^decide (IntKind.i64.wrap (i+j)<0))&&(decide (j<0)^^decide (IntKind.i64.wrap (i+j)<0))))=false:=by
     unfold cP at*
     by_cases hs:i<0
     ·have e:IntKind.i64.wrap (i+j)=i+j+18446744073709551616:=by rw[IntKind.wrap];simp[IntKind.signed,IntKind.bits];omega
      rw[e,show decide (i<0)=true by simp[hs],show decide (j<0)=true by simp;omega,show decide (i+j+18446744073709551616<0)=false by simp;omega];rfl
     ·have e:IntKind.i64.wrap (i+j)=i+j-18446744073709551616:=by rw[IntKind.wrap];simp[IntKind.signed,IntKind.bits];omega
      rw[e,show decide (i<0)=false by simp[hs],show decide (j<0)=false by simp;omega,show decide (i+j-18446744073709551616<0)=true by simp;omega];rfl
    rw[this,eO]
  ·rw[iU h1,pV h2,dR,aU,eO]
 ·rw[pV h1,eO,aU,eO]
theorem sub_eq{x y:Zr}(hx:Wl x)(hy:Wl y):nD x y=some (zn (zi x-zi y)):=by
 obtain⟨n,w⟩:=x
 obtain⟨m,u⟩:=y
 unfold nD
 simp only[pU hx,pU hy,aU,bD]
 have hK':((aG w).bind fun wI=>(aG u).bind fun q9=>(cD n wI (!m) q9).bind fun x=>some ⟨x.neg,x.w⟩)=some (zn (zi ⟨n,w⟩-zi ⟨m,u⟩)):=by
  rw[show aG w=some (can 4294967296 (vl w))from hx.trim,show aG u=some (can 4294967296 (vl u))from hy.trim,aU,aU,zg _ _ _ _ hx.cl hy.cl,aU,Dt,←Int.sub_eq_add_neg];rfl
 rw[hK']
 generalize zi ⟨n,w⟩=i
 generalize zi ⟨m,u⟩=j
 by_cases h1:cP i
 ·by_cases h2:cP j
  ·rw[iU h1,iU h2,dR,aU,dR,Mm,Mm,ER,BitVec.msb_and,BitVec.msb_xor,BitVec.msb_xor,Aj h1,Aj h2,Aj (rT _),m9 (rT _).1 (rT _).2,aU]
   by_cases hr:cP (i-j)
   ·rw[bT hr.1 hr.2]
    exact zh _ _
   ·have:(!((decide (i<0)^^decide (j<0))&&(decide (i<0)^^decide (IntKind.i64.wrap (i-j)<0))))=false:=by
     unfold cP at*
     by_cases hs:i<0
     ·have e:IntKind.i64.wrap (i-j)=i-j+18446744073709551616:=by rw[IntKind.wrap];simp[IntKind.signed,IntKind.bits];omega
      rw[e,show decide (i<0)=true by simp[hs],show decide (j<0)=false by simp;omega,show decide (i-j+18446744073709551616<0)=false by simp;omega];rfl
     ·have e:IntKind.i64.wrap (i-j)=i-j-18446744073709551616:=by rw[IntKind.wrap];simp[IntKind.signed,IntKind.bits];omega
      rw[e,show decide (i<0)=false by simp[hs],show decide (j<0)=true by simp;omega,show decide (i-j-18446744073709551616<0)=true by simp;omega];rfl
    rw[this,eO]
  ·rw[iU h1,pV h2,dR,aU,eO]
 ·rw[pV h1,eO,aU,eO]
theorem KX(n m:Bool)(a b:Nat):sv (!(n==m)) (a*b)=sv n a*sv m b:=by
 cases n<;>cases m<;>simp[sv,Int.neg_mul,Int.mul_neg]
theorem mul_eq{x y:Zr}(hx:Wl x)(hy:Wl y):cU x y=some (zn (zi x*zi y)):=by
 obtain⟨n,w⟩:=x
 obtain⟨m,u⟩:=y
 unfold cU
 have hcx:(can 4294967296 (vl w)).length≤10000000000:=hx.cl
 have hcy:(can 4294967296 (vl u)).length≤10000000000:=hy.cl
 simp only[]
 rw[show aG w=some (can 4294967296 (vl w))from hx.trim,show aG u=some (can 4294967296 (vl u))from hy.trim,aU,aU,show zi ⟨n,w⟩=sv n (vl w)from rfl,show zi ⟨m,u⟩=sv m (vl u)from rfl]
 simp only[aU,bD]
 generalize vl w=a at*
 generalize vl u=b at*
 have la:=bH (B:=4294967296) (by decide) a
 have lb:=bH (B:=4294967296) (by decide) b
 have hK:((fz (can 4294967296 a) (can 4294967296 b)).bind fun nB=>(bM (!(n==m)) nB).bind fun x=>some ⟨x.neg,x.w⟩)=some (zn (sv n a*sv m b)):=by
  rw[IW _ _ (gz (by omega)) (gz (by omega)),aU,dS,dS,kC _ _ ⟨fun x hx=>oq (by decide) _ _ _ hx,by rw[aT];omega⟩,aU,pR]
  have hv:vl (dy 4294967296 ((can 4294967296 a).length+(can 4294967296 b).length) (a*b))=a*b:=by
   show val _ _=_
   rw[mA,Nat.mod_eq_of_lt]
   rw[Nat.pow_add];exact Nat.mul_lt_mul'' la lb
  rw[hv,KX]
 rw[hK]
 by_cases h1:a<4294967296
 ·by_cases h2:b<4294967296
  ·have l1:=low_eq (can 4294967296 a) (fun _ hx=>eP (by decide) hx) (by have:=mB.2 h1;omega)
   have l2:=low_eq (can 4294967296 b) (fun _ hx=>eP (by decide) hx) (by have:=mB.2 h2;omega)
   rw[dS]at l1 l2
   have hlt:a*b<18446744073709551616:=Nat.mul_lt_mul'' h1 h2
   rw[show decide (((can 4294967296 a).length:Int)≤1)=true by rw[decide_eq_true_eq];exact mB.2 h1,dR,aU,show decide (((can 4294967296 b).length:Int)≤1)=true by rw[decide_eq_true_eq];exact mB.2 h2,dR,l1,l2,aU,aU,Nat.mod_eq_of_lt hlt,rS _ _ hlt,aU,pR,KX]
  ·rw[show decide (((can 4294967296 a).length:Int)≤1)=true by rw[decide_eq_true_eq];exact mB.2 h1,dR,aU,show decide (((can 4294967296 b).length:Int)≤1)=false by rw[decide_eq_false_iff_not];exact fun h=>h2 (mB.1 h),eO]
 ·rw[show decide (((can 4294967296 a).length:Int)≤1)=false by rw[decide_eq_false_iff_not];exact fun h=>h1 (mB.1 h),eO,aU,eO]
end Go.Proofs.YtfoldppidpmchaaGreat
namespace Go.Proofs.YtfoldppidpmchaaGreat
open Go.Fw
theorem Ra(n m:Bool){a b:Nat}(hb:0<b):
  sv n a/sv m b=(if n=true∧0<a%b then sv (!(n==m)) (a/b+1)else sv (!(n==m)) (a/b))∧
  sv n a%sv m b=(if n=true∧0<a%b then((b-a%b:Nat):Int)else((a%b:Nat):Int)):=by
 have hd:=Nat.div_add_mod a b
 have hm:=Nat.mod_lt a hb
 revert hd hm
 generalize a/b=q
 generalize a%b=r
 intro hd hm
 have hd':(b:Int)*q+r=a:=by exact_mod_cast hd
 have pos:∀n,sv n a/(b:Int)=(if n=true∧0<r then sv n (q+1)else sv n q)∧sv n a%(b:Int)=(if n=true∧0<r then((b-r:Nat):Int)else(r:Int)):=by
  intro n
  apply(Int.ediv_emod_unique (by omega)).2
  cases n
  ·simp[sv];omega
  ·by_cases hr:0<r
   ·simp only[hr,and_self,if_true,sv,cond_true]
    have:(b:Int)* -((q+1:Nat):Int)=-((b:Int)*q)-b:=by
     rw[Int.mul_neg,Int.natCast_add,Int.mul_add];simp;omega
    rw[this];omega
   ·have:r=0:=by omega
    subst this
    simp[sv,Int.mul_neg];omega
 cases m
 ·have:=pos n
  rw[jQ,show(!(n==false))=n by cases n<;>rfl]
  exact this
 ·have:=pos n
  rw[show sv true b=-(b:Int)from rfl,Int.ediv_neg,Int.emod_neg,this.1,this.2,show(!(n==true))= !n by cases n<;>rfl,Dt,Dt]
  refine⟨?_,rfl⟩
  split<;>rfl
theorem Yp{a b:Nat}(hba:b≤a)(vW:(can 4294967296 a).length≤10000000000):cq (can 4294967296 a) (can 4294967296 b)=some (dy 4294967296 (can 4294967296 a).length (a-b))∧vl (dy 4294967296 (can 4294967296 a).length (a-b))=a-b:=by
 have lc:=bH (B:=4294967296) (by decide) a
 have VP:(can 4294967296 b).length≤(can 4294967296 a).length:=(bg (by decide)).2 (by omega)
 constructor
 ·rw[A0 _ _ (gz (by omega)) (gz (by omega)) VP (by rw[dS,dS];exact hba),dS,dS]
 ·show val _ _=_
  rw[mA,Nat.mod_eq_of_lt (by omega)]
def I5(i j:Int):Zr×Zr×Int:=if j=0 then(⟨false,[]⟩,⟨false,[]⟩,7)else(zn (i/j),zn (i%j),0)
theorem divMod_eq{x y:Zr}(hx:Wl x)(hy:Wl y):eu x y=some (I5 (zi x) (zi y)):=by
 obtain⟨n,w⟩:=x
 obtain⟨m,u⟩:=y
 unfold eu
 have hcx:(can 4294967296 (vl w)).length≤10000000000:=hx.cl
 have hcy:(can 4294967296 (vl u)).length≤10000000000:=hy.cl
 simp only[]
 rw[show aG w=some (can 4294967296 (vl w))from hx.trim,show aG u=some (can 4294967296 (vl u))from hy.trim,aU,aU,show zi ⟨n,w⟩=sv n (vl w)from rfl,show zi ⟨m,u⟩=sv m (vl u)from rfl]
 simp only[aU,bD]
 generalize vl w=a at*
 generalize vl u=b at*
 by_cases h0:b=0
 ·subst h0
  rw[show sv m 0=0 by cases m<;>rfl];rfl
 ·have wG:(can 4294967296 b).length≠0:=fun h=>h0 (pS.1 h)
  rw[show decide (((can 4294967296 b).length:Int)=0)=false by simp;intro e;rw[e]at wG;exact wG rfl,eO]
  obtain⟨q,r,hqr,hq1,hq2,Xl,hr2,hq3,hr3⟩:=A4 a b hcx hcy h0
  have hm:a%b<b:=Nat.mod_lt _ (by omega)
  obtain⟨e1,e2⟩:=Ra n m (a:=a) (show 0<b by omega)
  have hj:sv m b≠0:=by cases m<;>simp[sv]<;>omega
  rw[hqr,aU]
  simp only[]
  rw[BH r (by have:=Xl.2;omega),jP (by decide) Xl.1,show val 4294967296 r=a%b from hr2,aU,I5,if_neg hj,e1,e2]
  have hrl:(can 4294967296 (a%b)).length≤(can 4294967296 b).length:=(bg (by decide)).2 (Nat.lt_trans hm (bH (by decide) b))
  have hK:∀c:Bool,(decide (n=true∧0<a%b)=c)→(bif c then(dN q [1]).bind fun nB=>(cq (can 4294967296 b) (can 4294967296 (a%b))).bind fun rV=>(bM (!(n==m)) nB).bind fun x=>(bM false rV).bind fun x_1=>some ((⟨x.neg,x.w⟩:Zr),(⟨x_1.neg,x_1.w⟩:Zr),(0:Int))
    else(bM (!(n==m)) q).bind fun x=>(bM false (can 4294967296 (a%b))).bind fun x_1=>some ((⟨x.neg,x.w⟩:Zr),(⟨x_1.neg,x_1.w⟩:Zr),(0:Int)))=
    some (zn (if n=true∧0<a%b then sv (!(n==m)) (a/b+1)else sv (!(n==m)) (a/b)),zn (if n=true∧0<a%b then((b-a%b:Nat):Int)else((a%b:Nat):Int)),0):=by
   intro c hc
   cases c
   ·have Rb:=of_decide_eq_false hc
    rw[eO,if_neg Rb,if_neg Rb,kC _ _ hq1,aU,kC _ _ (gz (by omega)),aU,dS,hq2,pR,pR,jQ]
   ·have Rb:=of_decide_eq_true hc
    obtain⟨s1,s2⟩:=Yp (a:=b) (b:=a%b) (by omega) hcy
    have w1:GB [1]:=⟨by simp,by simp⟩
    rw[dR,if_pos Rb,if_pos Rb,AZ _ _ hq1 w1,aU,s1,aU,kC _ _ ⟨fun x hx=>oq (by decide) _ _ _ hx,by rw[aT];simp;omega⟩,aU,kC _ _ ⟨fun x hx=>oq (by decide) _ _ _ hx,by rw[aT];omega⟩,aU,s2,pR,pR,jQ]
    have:vl (dy 4294967296 (max q.length [1].length+1) (vl q+vl [1]))=a/b+1:=by
     show val _ _=_
     rw[mA,show vl [1]=1 by decide,hq2,Nat.mod_eq_of_lt]
     have h1:vl q<4294967296^q.length:=eY q hq1.1
     rw[hq2]at h1
     have h2:4294967296^q.length≤4294967296^(max q.length [1].length):=Nat.pow_le_pow_right (by decide) (by omega)
     have h3:0<4294967296^(max q.length [1].length):=Nat.pow_pos (by decide)
     rw[Nat.pow_succ];omega
    rw[this]
  have hz:(0<(can 4294967296 (a%b)).length)↔0<a%b:=by
   have:=pS (v:=a%b);omega
  cases n
  ·rw[eO,aU]
   exact hK false (by simp)
  ·rw[dR,aU]
   refine hK _ ?_
   simp only[true_and]
   by_cases h:0<a%b
   ·simp[h,hz.2 h]
   ·have h':¬0<(can 4294967296 (a%b)).length:=fun e=>h (hz.1 e)
    have h'':¬((0:Int)<((can 4294967296 (a%b)).length:Int)):=by omega
    simp only[h,h'',decide_false]
theorem Yq{x y:Zr}(hx:Wl x)(hy:Wl y):kY x y=some (zn (Int.gcd (zi x) (zi y):Int)):=by
 obtain⟨n,w⟩:=x
 obtain⟨m,u⟩:=y
 unfold kY
 have hcx:(can 4294967296 (vl w)).length≤10000000000:=hx.cl
 have hcy:(can 4294967296 (vl u)).length≤10000000000:=hy.cl
 simp only[]
 rw[show aG w=some (can 4294967296 (vl w))from hx.trim,show aG u=some (can 4294967296 (vl u))from hy.trim,aU,aU,Int.gcd,vo,vo]
 show _=some (zn ((Nat.gcd (vl w) (vl u):Nat):Int))
 generalize vl w=a at*
 generalize vl u=b at*
 refine fD (fun s=>∃c d,s=(can 4294967296 c,can 4294967296 d)∧Nat.gcd c d=Nat.gcd a b∧(can 4294967296 c).length≤10000000000∧(can 4294967296 d).length≤10000000000)
  (fun s=>∃c d,s=(can 4294967296 c,can 4294967296 d)∧Nat.gcd c d=Nat.gcd a b∧(can 4294967296 c).length≤10000000000∧(d=0∨(c<18446744073709551616∧d<18446744073709551616))) (fun s=>vl s.2) ?_ ⟨a,b,rfl,rfl,hcx,hcy⟩ ?_
 ·rintro _ ⟨c,d,rfl,hg,hc,hd⟩
  simp only[aU,bD]
  by_cases h0:d=0
  ·right
   subst h0
   exact⟨_,rfl,c,0,rfl,hg,hc,.inl rfl⟩
  ·have wG:(can 4294967296 d).length≠0:=fun h=>h0 (pS.1 h)
   rw[show decide ((0:Int)<((can 4294967296 d).length:Int))=true by simp;omega,dR]
   by_cases h2:c<18446744073709551616∧d<18446744073709551616
   ·right
    have c1:=fM.2 h2.1
    have c2:=fM.2 h2.2
    rw[show decide ((2:Int)<((can 4294967296 c).length:Int))=false by simp;omega,eO,show decide ((2:Int)<((can 4294967296 d).length:Int))=false by simp;omega]
    exact⟨_,rfl,c,d,rfl,hg,hc,.inr h2⟩
   ·left
    have hm:c%d<d:=Nat.mod_lt _ (by omega)
    obtain⟨q,r,hqr,hq1,hq2,Xl,hr2,-,-⟩:=A4 c d hc hd h0
    have yd:((bif decide ((2:Int)<((can 4294967296 c).length:Int))then some true else some (decide ((2:Int)<((can 4294967296 d).length:Int)))):Option Bool)=some true:=by
     by_cases Jz:c<18446744073709551616
     ·have hd2:¬d<18446744073709551616:=fun h=>h2 ⟨Jz,h⟩
      have:¬(((can 4294967296 d).length:Int)≤2):=fun h=>hd2 (fM.1 h)
      rw[show decide ((2:Int)<((can 4294967296 d).length:Int))=true by simp;omega]
      exact zh _ _
     ·have:¬(((can 4294967296 c).length:Int)≤2):=fun h=>Jz (fM.1 h)
      rw[show decide ((2:Int)<((can 4294967296 c).length:Int))=true by simp;omega,dR]
    rw[yd,aU,aU,dR,hqr,aU]
    simp only[]
    rw[BH r (by have:=Xl.2;omega),jP (by decide) Xl.1,show val 4294967296 r=c%d from hr2,aU]
    refine⟨_,rfl,⟨d,c%d,rfl,?_,hd,?_⟩,?_⟩
    ·rw[←hg,Nat.gcd_comm d,←Nat.gcd_rec,Nat.gcd_comm]
    ·exact Nat.le_trans ((bg (by decide)).2 (Nat.lt_trans hm (bH (by decide) d))) hd
    ·simp only[dS];exact hm
 ·rintro _ ⟨c,d,rfl,hg,hc,Q7⟩
  simp only[aU]
  by_cases h0:d=0
  ·subst h0
   rw[show decide (((can 4294967296 0).length:Int)=0)=true by simp[pQ],dR,zf _ (by omega),aU,kC _ _ (gz (by omega)),aU,dS,pR,jQ,←hg,Nat.gcd_zero_right]
  ·have h2:=Q7.resolve_left h0
   have wG:(can 4294967296 d).length≠0:=fun h=>h0 (pS.1 h)
   have c1:=fM.2 h2.1
   have c2:=fM.2 h2.2
   rw[show decide (((can 4294967296 d).length:Int)=0)=false by simp;intro e;rw[e]at wG;exact wG rfl,eO,low_eq _ (fun _ hx=>eP (by decide) hx) (by omega),aU,low_eq _ (fun _ hx=>eP (by decide) hx) (by omega),aU,dS,dS]
   refine fD (fun s=>Nat.gcd s.1 s.2=Nat.gcd a b∧s.1<18446744073709551616∧s.2<18446744073709551616) (fun e=>e=Nat.gcd a b∧e<18446744073709551616) (fun s=>s.2) ?_ ⟨hg,h2.1,h2.2⟩ ?_
   ·rintro⟨s,t⟩ ⟨i1,i2,i3⟩
    simp only at i1 i2 i3⊢
    by_cases ht:0<t
    ·left
     rw[show decide (0<t)=true by simp[ht],dR,BD (by omega),aU]
     refine⟨_,rfl,⟨?_,i3,?_⟩,Nat.mod_lt _ ht⟩
     ·rw[←i1,Nat.gcd_comm t,←Nat.gcd_rec,Nat.gcd_comm]
     ·exact Nat.lt_trans (Nat.mod_lt _ ht) i3
    ·right
     rw[show decide (0<t)=false by simp[ht],eO]
     refine⟨_,rfl,?_,i2⟩
     rw[←i1,show t=0 by omega,Nat.gcd_zero_right]
   ·rintro e ⟨rfl,he⟩
    rw[rS _ _ he,aU,pR,jQ]
end Go.Proofs.YtfoldppidpmchaaGreat
namespace Go.Proofs.YtfoldppidpmchaaGreat
open Go.Fw
def zl(l:List Nat):List Int:=l.map (fun(n:Nat)=>(n:Int))
theorem dc(l:List Nat):(zl l).length=l.length:=by simp[zl]
theorem xP{l:List Nat}{i x:Nat}(h:l[i]? =some x):(zl l)[i]? =some (x:Int):=by simp[zl,h]
theorem GG(l k:List Nat):zl (l++k)=zl l++zl k:=by simp[zl]
theorem KY(x:Nat):zl [x]=[(x:Int)]:=rfl
theorem Tk(l:List Nat)(n:Nat):(zl l).take n=zl (l.take n):=by simp[zl,List.map_take]
theorem Rc(l:List Nat)(i x:Nat):(zl l).set i (x:Int)=zl (l.set i x):=by simp[zl,List.map_set]
def GH(l:List Nat):Prop:=(∀x∈l,x<65536)∧l.length≤100000000000
abbrev fP(l:List Nat):Nat:=val 65536 l
theorem jR(l:List Nat)(hl:l.length≤1000000000000):cj (zl l)=some (zl (jO l)):=by
 unfold cj
 simp only[aU]
 refine fD (fun y=>∃n:Nat,y=(n:Int)∧n≤l.length∧jO (l.take n)=jO l) (fun y=>∃n:Nat,y=(n:Int)∧n≤l.length∧l.take n=jO l) (fun y=>y.toNat) ?_ ⟨l.length,by rw[dc],Nat.le_refl _,by rw[List.take_length]⟩ ?_
 ·rintro _ ⟨n,rfl,hn,ht⟩
  simp only[bD]
  rcases n with _|n
  ·right
   refine⟨_,rfl,0,rfl,by omega,?_⟩
   rw[←ht];rfl
  ·have hi:∃x,l[n]? =some x:=⟨l[n],by simp⟩
   obtain⟨x,hx⟩:=hi
   have htk:l.take (n+1)=l.take n++[x]:=by
    rw[List.take_add_one,hx];rfl
   rw[show decide ((0:Int)<((n+1:Nat):Int))=true by rw[decide_eq_true_eq];omega,dR,Dj (by omega),aQ (xP hx),aU]
   by_cases h0:x=0
   ·left
    subst h0
    rw[show decide (((0:Nat):Int)=0)=true by simp,aU,dR]
    refine⟨_,rfl,⟨n,rfl,by omega,?_⟩,by omega⟩
    rw[←ht,htk,pP]
   ·right
    rw[show decide (((x:Nat):Int)=0)=false by simp;omega,aU,eO]
    refine⟨_,rfl,n+1,rfl,hn,?_⟩
    rw[←ht,htk,sX _ h0]
 ·rintro _ ⟨n,rfl,hn,ht⟩
  rw[oV (by rw[dc];exact hn),aU,Tk,ht]
theorem A5{l:List Nat}(h:∀x∈l,x<65536)(i:Nat):da (zl l) (i:Int)=some ((fP l/65536^i%65536:Nat):Int):=by
 unfold da
 simp only[aU]
 rw[dc]
 by_cases hi:i<l.length
 ·rw[show decide ((i:Int)<(l.length:Int))=true by simp[hi],dR,aQ (xP (kH h hi)),aU]
 ·rw[show decide ((i:Int)<(l.length:Int))=false by simp;omega,eO]
  have:fP l/65536^i=0:=Nat.div_eq_of_lt (Nat.lt_of_lt_of_le (eY l h) (Nat.pow_le_pow_right (by decide) (by omega)))
  rw[this];rfl
theorem KZ(V k:Nat):dy 65536 (2*k) V++[V/4294967296^k%4294967296%65536,V/4294967296^k%4294967296/65536]=dy 65536 (2*(k+1)) V:=by
 have e:65536^(2*k)=4294967296^k:=by rw[Nat.pow_mul]
 rw[show 2*(k+1)=2*k+1+1 by omega,hG,hG,Nat.pow_succ,e,←Nat.div_div_eq_div_mul,List.append_assoc]
 generalize V/4294967296^k=x
 rw[show x%4294967296%65536=x%65536 by omega,show x%4294967296/65536=x/65536%65536 by omega]
 rfl
theorem Ny(w:List Nat)(hw:GB w):bp w=some (zl (can 65536 (vl w))):=by
 obtain⟨hl,hn⟩:=hw
 unfold bp
 refine aJ (fun i=>((i:Int),zl (dy 65536 (2*i) (vl w)))) w.length (zl (dy 65536 (2*w.length) (vl w))) ?_ (fun k hk=>?_) ?_ ?_
 ·rfl
 ·have hg:=kH hl hk
  have hlt:=Nat.mod_lt (val 4294967296 w/4294967296^k) (show 0<4294967296 by decide)
  have hv:=KZ (vl w) k
  simp only[aU]
  rw[show decide ((k:Int)<(w.length:Int))=true by simp[hk],dR,aQ hg,aU,aU,fO (by omega),fO (by omega),SW (by decide) (by rw[dc,aT];simp;omega),aU,aW (by omega)]
  rw[←hv,GG]
  rw[show val 4294967296 w/4294967296^k%4294967296/65536%4294967296=val 4294967296 w/4294967296^k%4294967296/65536 by omega]
  rfl
 ·simp
 ·rw[jR _ (by rw[aT];omega),aU,n7 (by decide)]
  rw[Nat.pow_mul];exact eY w hl
theorem I6(k:Nat):65536^(2*k)=4294967296^k:=by rw[Nat.pow_mul]
theorem K0(v:Nat):can 4294967296 v=dy 4294967296 (((can 65536 v).length+1)/2) v:=by
 have h1:=bH (B:=65536) (by decide) v
 obtain⟨n,hn⟩:∃n,(can 65536 v).length=n:=⟨_,rfl⟩
 rw[hn]at h1⊢
 have h2:v<4294967296^((n+1)/2):=by
  rw[←I6];exact Nat.lt_of_lt_of_le h1 (Nat.pow_le_pow_right (by decide) (by omega))
 rw[Mc (by decide) v]
 congr 1
 have h3:=(bg (B:=4294967296) (by decide)).2 h2
 refine Nat.le_antisymm h3 ?_
 rcases n with _|n
 ·simp
 ·have h4:65536^n≤v:=qY (by decide) (by omega)
  obtain⟨m,hm⟩:∃m,(n+1+1)/2=m+1:=⟨n/2,by omega⟩
  rw[hm]
  rcases Nat.lt_or_ge m (can 4294967296 v).length with h|h
  ·exact h
  ·have h5:=(bg (B:=4294967296) (by decide)).1 h
   rw[←I6]at h5
   have:65536^(2*m)≤65536^n:=Nat.pow_le_pow_right (by decide) (by omega)
   omega
theorem of_eq(n:Bool)(l:List Nat)(hl:GH l):cm n (zl l)=some (zc n (fP l)):=by
 obtain⟨h,hn⟩:=hl
 unfold cm
 rw[jR _ (by omega),aU,jP (by decide) h]
 have hc:(can 65536 (val 65536 l)).length≤l.length:=(bg (by decide)).2 (eY l h)
 show _=some (zc n (val 65536 l))
 generalize val 65536 l=v at*
 have vW:∀x∈can 65536 v,x<65536:=fun _ hx=>eP (by decide) hx
 have YL:=fun i=>A5 vW i
 refine aJ (fun i=>(((2*i:Nat):Int),dy 4294967296 i v)) (((can 65536 v).length+1)/2) (can 4294967296 v) ?_ (fun k hk=>?_) ?_ ?_
 ·rfl
 ·have a1:=YL (2*k)
  have a2:=YL (2*k+1)
  rw[show fP (can 65536 v)=v from ke (by decide) v]at a1 a2
  rw[I6]at a1
  rw[Nat.pow_succ,I6,←Nat.div_div_eq_div_mul]at a2
  simp only[aU]
  rw[dc,show decide (((2*k:Nat):Int)<((can 65536 v).length:Int))=true by simp;omega,dR,a1,aU,aW (by omega),a2,aU]
  rw[hG]
  have e:((((v/4294967296^k%65536:Nat):Int)%4294967296).toNat+(((v/4294967296^k/65536%65536:Nat):Int)%4294967296).toNat*65536%4294967296)%4294967296=v/4294967296^k%4294967296:=by
   generalize v/4294967296^k=x
   omega
  rw[e,n6 (by decide) (by rw[aT];omega),aU,show((2*k:Nat):Int)+2=((2*(k+1):Nat):Int) by omega,fO (by omega)]
 ·simp only[aU]
  rw[dc,show decide (((2*(((can 65536 v).length+1)/2):Nat):Int)<((can 65536 v).length:Int))=false by simp;omega,eO,←K0]
 ·simp only[bD]
  rw[zc]
  have hz:=pS (v:=v)
  cases n
  ·rw[eO,aU];rfl
  ·rw[dR,aU,aU,aU]
   congr 2
   by_cases h0:v=0
   ·rw[h0];rfl
   ·have:¬(can 4294967296 v).length=0:=fun e=>h0 (hz.1 e)
    rw[show decide ((0:Int)<((can 4294967296 v).length:Int))=true by rw[decide_eq_true_eq];omega,show(true&&v != 0)=true by simp[h0]]
theorem ot(n:Bool)(v:Nat)(hl:(can 65536 v).length≤100000000000):cm n (zl (can 65536 v))=some (zn (sv n v)):=by
 rw[of_eq n _ ⟨fun _ hx=>eP (by decide) hx,hl⟩,show fP (can 65536 v)=v from ke (by decide) v,pR]
theorem Nz{w:List Nat}(hw:∀x∈w,x<4294967296):(can 65536 (vl w)).length≤2*w.length:=by
 apply(bg (by decide)).2
 rw[I6];exact eY w hw
theorem eK{x:Zr}(h:Wl x):bp x.w=some (zl (can 65536 (zi x).natAbs)):=by
 rw[vo];exact Ny _ ⟨h.1,by have:=h.2;omega⟩
theorem Wl.NA{x:Zr}(h:Wl x):(can 65536 (zi x).natAbs).length≤20000000000:=by
 rw[vo];have:=Nz h.1;have:=h.2;omega
theorem I7{x:Zr}(h:Wl x):gE x=some (zn (zi x)):=by
 obtain⟨n,w⟩:=x
 have h1:=eK h
 have h2:=h.NA
 unfold gE
 simp only[]
 rw[show bp w=_ from h1,aU,ot _ _ (by omega),aU,vo]
 rfl
theorem Mn{x y:Zr}(h:x.w.length≤100000000000):∃b,jW x y=some b∧(b=true↔x=y):=by
 obtain⟨n,w⟩:=x
 obtain⟨m,u⟩:=y
 unfold jW
 simp only[aU,bD]
 by_cases hnm:n=m
 ·subst hnm
  rw[show(!(n==n))=false by simp,eO,aU]
  by_cases hl:w.length=u.length
  ·rw[show decide ((w.length:Int)≠(u.length:Int))=false by simp[hl],eO]
   refine j1 (fun y=>∃i:Nat,y=(i:Int)∧i≤w.length∧w.take i=u.take i) (fun e=>(∃c,e=.inl c∧w=u)∨(e=.inr false∧w≠u)) (fun y=>w.length-y.toNat) ?_ ⟨0,rfl,by omega,rfl⟩ ?_
   ·rintro _ ⟨i,rfl,hi,ht⟩
    by_cases hlt:i<w.length
    ·have g1:w[i]? =some w[i]:=by simp
     have g2:u[i]? =some (u[i]'(by omega)):=by simp
     rw[show decide ((i:Int)<(w.length:Int))=true by simp[hlt],dR,aQ g1,aU,aQ g2,aU]
     by_cases he:w[i]=u[i]'(by omega)
     ·left
      rw[show decide (w[i]≠u[i]'(by omega))=false by simp[he],eO,aW (by simp at h;omega)]
      refine⟨_,rfl,⟨i+1,rfl,hlt,?_⟩,by omega⟩
      rw[List.take_add_one,List.take_add_one,ht,g1,g2,he]
     ·right
      rw[show decide (w[i]≠u[i]'(by omega))=true by simp[he],dR]
      refine⟨_,rfl,.inr ⟨rfl,?_⟩⟩
      rintro rfl;exact he rfl
    ·right
     rw[show decide ((i:Int)<(w.length:Int))=false by simp;omega,eO]
     refine⟨_,rfl,.inl ⟨_,rfl,?_⟩⟩
     rw[List.take_of_length_le (by omega),List.take_of_length_le (by omega)]at ht
     exact ht
   ·rintro e (⟨c,rfl,he⟩|⟨rfl,he⟩)
    ·exact⟨true,rfl,by simp[he]⟩
    ·exact⟨false,rfl,by simp[he]⟩
  ·rw[show decide ((w.length:Int)≠(u.length:Int))=true by simp;omega,dR]
   refine⟨_,rfl,?_⟩
   simp only[Bool.false_eq_true,false_iff]
   intro e
   have:w=u:=congrArg Zr.w e
   exact hl (by rw[this])
 ·rw[show(!(n==m))=true by simp[hnm],dR,aU,dR]
  refine⟨_,rfl,?_⟩
  simp only[Bool.false_eq_true,false_iff]
  intro e
  exact hnm (congrArg Zr.neg e)
theorem from_eq{x:Int}(h:cP x):gh x=some (zn x):=by
 unfold cP at h
 have key:∀(v:Nat) (n:Bool),v<18446744073709551616→((gE ⟨n,[v%4294967296%4294967296,v/4294967296%18446744073709551616%4294967296]⟩).bind fun x=>some (⟨x.neg,x.w⟩:Zr))=some (zn (sv n v)):=by
  intro v n hv
  rw[I7 ⟨by simp;omega,by simp⟩,aU]
  show some (zn (sv n (vl _)))=_
  congr 3
  simp only[vl,val]
  omega
 unfold gh
 simp only[aU,bD]
 by_cases hx:x<0
 ·have e:(x%18446744073709551616).toNat=18446744073709551616-x.natAbs:=by omega
  rw[show decide (x<0)=true by simp[hx],dR,e,y4 (by omega) (by omega),show 18446744073709551616+0-(18446744073709551616-x.natAbs)=x.natAbs by omega,key _ _ (by omega),show sv true x.natAbs=x by simp[sv];omega]
 ·have e:(x%18446744073709551616).toNat=x.natAbs:=by omega
  rw[show decide (x<0)=false by simp[hx],eO,e,key _ _ (by omega),show sv false x.natAbs=x by simp[sv];omega]
end Go.Proofs.YtfoldppidpmchaaGreat
namespace Go.Proofs.YtfoldppidpmchaaGreat
open Go.Fw
theorem p9(k:Nat):10^(9*(k+1))=10^(9*k)*1000000000:=by
 rw[show 9*(k+1)=9*k+9 by omega,Nat.pow_add]
end Go.Proofs.YtfoldppidpmchaaGreat
namespace Go.Proofs.YtfoldppidpmchaaGreat
open Go.Fw
def body(s:RI):RI:=if s.head?=some 45 then s.tail else s
def dv(s:RI):Nat:=s.foldl (fun a c=>a*10+(c.toNat-48)) 0
def z0:Zr:=⟨false,[]⟩
end Go.Proofs.YtfoldppidpmchaaGreat
namespace Go.Proofs.YtfoldppidpmchaaGreat
open Go.Fw
theorem zeta'(z:Zr):(⟨z.neg,z.w⟩:Zr)=z:=by cases z;rfl
theorem oX{i:Int}(h:cP i):Fit 2 i:=Fit.i64 h.1 h.2
theorem Rd{i:Int}(h:cP i):Wl (zn i):=dG (oX h) (by decide)
end Go.Proofs.YtfoldppidpmchaaGreat
namespace Go.Proofs.YtfoldppidpmchaaGreat
open Go.Fw
theorem Tl(l:List Zr)(hl:l.length≤100):∃b,mw l=some b∧(b=false→∀z∈l,z.w.length≤12):=by
 unfold mw
 simp only[aU]
 refine j1 (fun y=>∃i:Nat,y=(i:Int)∧i≤l.length∧∀z∈l.take i,z.w.length≤12) (fun e=>(∃c,e=.inl c∧∀z∈l,z.w.length≤12)∨e=.inr true) (fun y=>l.length-y.toNat) ?_ ⟨0,rfl,by omega,by simp⟩ ?_
 ·rintro _ ⟨i,rfl,hi,ht⟩
  by_cases hlt:i<l.length
  ·have g:l[i]? =some l[i]:=by simp
   rw[show decide ((i:Int)<(l.length:Int))=true by simp[hlt],dR,aQ g,aU]
   by_cases dH:l[i].w.length≤12
   ·left
    rw[show decide ((12:Int)<(l[i].w.length:Int))=false by rw[decide_eq_false_iff_not];omega,eO,aW (by omega)]
    refine⟨_,rfl,⟨i+1,rfl,hlt,?_⟩,by omega⟩
    rw[List.take_add_one,g]
    intro z hz
    rcases List.mem_append.1 hz with h|h
    ·exact ht z h
    ·simp at h;rw[h];exact dH
   ·right
    rw[show decide ((12:Int)<(l[i].w.length:Int))=true by rw[decide_eq_true_eq];omega,dR]
    exact⟨_,rfl,.inr rfl⟩
  ·right
   rw[show decide ((i:Int)<(l.length:Int))=false by simp;omega,eO]
   rw[List.take_of_length_le (by omega)]at ht
   exact⟨_,rfl,.inl ⟨_,rfl,ht⟩⟩
 ·rintro e (⟨c,rfl,he⟩|rfl)
  ·exact⟨false,rfl,fun _=>he⟩
  ·exact⟨true,rfl,fun h=>by cases h⟩
theorem Re(i j:Int):(i-j).sign=kR i j:=by
 rcases Int.lt_trichotomy i j with h|h|h
 ·rw[gP h,Int.sign_eq_neg_one_of_neg (by omega)]
 ·rw[h,oW,Int.sub_self];rfl
 ·rw[gQ h,Int.sign_eq_one_of_pos (by omega)]
theorem NB(i j:Int):IntKind.i64.wrap (0-kR j i)=kR i j:=by
 rcases Int.lt_trichotomy i j with h|h|h
 ·rw[gP h,gQ h];rfl
 ·rw[h,oW];rfl
 ·rw[gQ h,gP h];rfl
abbrev OkZ(z:Zr):Prop:=True∧(z.w.length≤9223372036854775807∧∀x∈z.w,x<4294967296)
end Go.Proofs.YtfoldppidpmchaaGreat
namespace Go.Proofs.YtfoldppidpmchaaGreat
open Go.Fw
theorem Fit.gcd{L:Nat}{i j:Int}(h:Fit L i)(h':Fit L j):Fit L (Int.gcd i j:Int):=by
 by_cases h0:i=0
 ·subst h0;rw[Int.gcd_zero_left];exact h'.le (by simp)
 ·have:Int.gcd i j∣i.natAbs:=Nat.gcd_dvd_left _ _
  exact h.le (by have:=Nat.le_of_dvd (by omega) this;simpa using this)
end Go.Proofs.YtfoldppidpmchaaGreat
namespace Go.Proofs.YtfoldppidpmchaaGreat
open Go.Fw
def qd(q:Qr):Int:=if zi q.den=0 then 1 else zi q.den
def qv(q:Qr):Rat:=Rat.divInt (zi q.num) (qd q)
def qn(r:Rat):Qr:=⟨zn r.num,if r.den=1 then⟨false,[]⟩else zn (r.den:Int)⟩
def FQ(L:Nat)(r:Rat):Prop:=Fit L r.num∧Fit L (r.den:Int)
structure dL (L:Nat) (q:Qr) (r:Rat):Prop where
 n:∀x∈q.num.w,x<4294967296
 d:∀x∈q.den.w,x<4294967296
 ln:q.num.w.length≤L
 ld:q.den.w.length≤L
 l1:1≤L
 v:qv q=r
theorem abt(q:Qr):qd q≠0:=by
 unfold qd
 by_cases h:zi q.den=0
 ·rw[if_pos h];decide
 ·rw[if_neg h];exact h
theorem Rf(r:Rat):qv (qn r)=r:=by
 unfold qv qd qn
 by_cases h:r.den=1
 ·rw[if_pos h]
  show Rat.divInt (zi (zn r.num)) (if zi ⟨false,[]⟩=0 then 1 else zi ⟨false,[]⟩)=r
  rw[if_pos (show zi ⟨false,[]⟩=0 from rfl),dJ]
  have:=Rat.num_divInt_den r
  rw[h]at this;exact this
 ·rw[if_neg h]
  show Rat.divInt (zi (zn r.num)) (if zi (zn (r.den:Int))=0 then 1 else zi (zn (r.den:Int)))=r
  have:=r.den_nz
  rw[dJ,dJ,if_neg (by omega),Rat.num_divInt_den]
theorem Yr{r s:Rat}(h:qn r=qn s):r=s:=by rw[←Rf r,h,Rf]
theorem Mo{w:List Nat}{n:Bool}{L:Nat}(h:∀x∈w,x<4294967296)(hl:w.length≤L):Fit L (zi ⟨n,w⟩):=by
 unfold Fit
 rw[vo]
 exact Nat.lt_of_lt_of_le (eY w h) (Nat.pow_le_pow_right (by decide) hl)
theorem zj{L:Nat}(h:1≤L):Fit L 1:=by
 unfold Fit
 exact Nat.lt_of_lt_of_le (show(1:Int).natAbs<4294967296^1 by decide) (Nat.pow_le_pow_right (by decide) h)
theorem FQ.rep{L:Nat}{r:Rat}(h:FQ L r)(h1:1≤L):dL L (qn r) r:=by
 refine⟨fun x hx=>eP (by decide) hx,?_,(bg (by decide)).2 h.1,?_,h1,Rf r⟩
 ·unfold qn
  by_cases e:r.den=1
  ·rw[if_pos e];simp
  ·rw[if_neg e];exact fun x hx=>eP (by decide) hx
 ·unfold qn
  by_cases e:r.den=1
  ·rw[if_pos e];simp
  ·rw[if_neg e];exact(bg (by decide)).2 h.2
theorem dL.wn{L:Nat}{q:Qr}{r:Rat}(h:dL L q r)(hL:L≤10000000000):Wl q.num:=⟨h.n,Nat.le_trans h.ln hL⟩
theorem dL.wd{L:Nat}{q:Qr}{r:Rat}(h:dL L q r)(hL:L≤10000000000):Wl q.den:=⟨h.d,Nat.le_trans h.ld hL⟩
theorem dL.fn{L:Nat}{q:Qr}{r:Rat}(h:dL L q r):Fit L (zi q.num):=Mo (n:=q.num.neg) h.n h.ln
theorem dL.fd{L:Nat}{q:Qr}{r:Rat}(h:dL L q r):Fit L (zi q.den):=Mo (n:=q.den.neg) h.d h.ld
theorem dL.fqd{L:Nat}{q:Qr}{r:Rat}(h:dL L q r):Fit L (qd q):=by
 unfold qd
 by_cases e:zi q.den=0
 ·rw[if_pos e];exact zj h.l1
 ·rw[if_neg e];exact h.fd
theorem dL.mono{L M:Nat}{q:Qr}{r:Rat}(h:dL L q r)(hl:L≤M):dL M q r:=⟨h.n,h.d,Nat.le_trans h.ln hl,Nat.le_trans h.ld hl,Nat.le_trans h.l1 hl,h.v⟩
theorem FQ.mono{L M:Nat}{r:Rat}(h:FQ L r)(hl:L≤M):FQ M r:=⟨h.1.mono hl,h.2.mono hl⟩
theorem vM{L:Nat}{a d:Int}(h0:d≠0)(ha:Fit L a)(hd:Fit L d):FQ L (Rat.divInt a d):=by
 generalize hr:Rat.divInt a d=r
 obtain⟨n',d',z',c⟩:=r
 obtain⟨m,hm,h1,h2⟩:=Rat.divInt_num_den h0 hr
 have hm':0<m.natAbs:=Int.natAbs_pos.2 hm
 refine⟨ha.le ?_,hd.le ?_⟩
 ·rw[h1,Int.natAbs_mul];exact Nat.le_mul_of_pos_right _ hm'
 ·rw[h2,Int.natAbs_mul];exact Nat.le_mul_of_pos_right _ hm'
theorem dL.fq{L:Nat}{q:Qr}{r:Rat}(h:dL L q r):FQ L r:=by rw[←h.v];exact vM (abt q) h.fn h.fqd
theorem vN(r:Rat):r=Rat.divInt r.num (r.den:Int):=(Rat.num_divInt_den r).symm
theorem qZ(r:Rat):(r.den:Int)≠0:=by have:=r.den_nz;omega
theorem FQ.add{L M:Nat}{x y:Rat}(hx:FQ L x)(hy:FQ M y):FQ (L+M+1) (x+y):=by
 have e:x+y=Rat.divInt (x.num*y.den+y.num*x.den) (x.den*y.den):=by
  conv=>lhs;rw[vN x,vN y,Rat.divInt_add_divInt _ _ (qZ x) (qZ y)]
 rw[e]
 refine vM (Int.mul_ne_zero (qZ x) (qZ y)) ?_ ?_
 ·exact(hx.1.mul hy.2).add (by rw[Nat.add_comm L M];exact hy.1.mul hx.2)
 ·exact(hx.2.mul hy.2).mono (by omega)
theorem FQ.sub{L M:Nat}{x y:Rat}(hx:FQ L x)(hy:FQ M y):FQ (L+M+1) (x-y):=by
 have e:x-y=Rat.divInt (x.num*y.den-y.num*x.den) (x.den*y.den):=by
  conv=>lhs;rw[vN x,vN y,Rat.divInt_sub_divInt _ _ (qZ x) (qZ y)]
 rw[e]
 refine vM (Int.mul_ne_zero (qZ x) (qZ y)) ?_ ?_
 ·exact(hx.1.mul hy.2).sub (by rw[Nat.add_comm L M];exact hy.1.mul hx.2)
 ·exact(hx.2.mul hy.2).mono (by omega)
theorem FQ.mul{L M:Nat}{x y:Rat}(hx:FQ L x)(hy:FQ M y):FQ (L+M) (x*y):=by
 have e:x*y=Rat.divInt (x.num*y.num) (x.den*y.den):=by
  conv=>lhs;rw[vN x,vN y,Rat.divInt_mul_divInt]
 rw[e]
 exact vM (Int.mul_ne_zero (qZ x) (qZ y)) (hx.1.mul hy.1) (hx.2.mul hy.2)
theorem FQ.neg{L:Nat}{x:Rat}(hx:FQ L x):FQ L (-x):=⟨hx.1.neg,hx.2⟩
theorem FQ.int{L:Nat}{i:Int}(h:Fit L i)(h1:1≤L):FQ L (i:Rat):=⟨h,zj h1⟩
def mD(x y:Rat):Int:=if x<y then-1 else if x=y then 0 else 1
theorem ES(x:Rat):mD x x=0:=by unfold mD;rw[if_neg Rat.lt_irrefl,if_pos rfl]
theorem Tm{x y:Rat}(h:y<x):mD x y=1:=by
 unfold mD
 rw[if_neg (fun h'=>by grind),if_neg (fun h'=>by grind)]
theorem NC{a b c d:Int}(hb:0<b)(hd:0<d):Rat.divInt a b<Rat.divInt c d↔a*d<c*b:=by
 have hb':(0:Rat)<(b:Rat):=Rat.intCast_pos.2 hb
 have hd':(0:Rat)<(d:Rat):=Rat.intCast_pos.2 hd
 rw[Rat.divInt_eq_div,Rat.divInt_eq_div,Rat.div_lt_iff hb',Rat.div_def,Rat.mul_assoc,Rat.mul_comm (d:Rat)⁻¹,←Rat.mul_assoc,←Rat.div_def,Rat.lt_div_iff hd',←Rat.intCast_mul,←Rat.intCast_mul,Rat.intCast_lt_intCast]
theorem I8{a b c d:Int}(hb:0<b)(hd:0<d):mD (Rat.divInt a b) (Rat.divInt c d)=kR (a*d) (c*b):=by
 unfold mD kR
 have e1:=NC (a:=a) (c:=c) hb hd
 have e2:=Rat.divInt_eq_divInt_iff (n₁:=a) (d₁:=b) (n₂:=c) (d₂:=d) (by omega) (by omega)
 by_cases h1:a*d<c*b
 ·rw[if_pos (e1.2 h1),if_pos h1]
 ·rw[if_neg (fun h=>h1 (e1.1 h)),if_neg h1]
  by_cases h2:a*d=c*b
  ·rw[if_pos (e2.2 h2),if_pos h2]
  ·rw[if_neg (fun h=>h2 (e2.1 h)),if_neg h2]
theorem qK{a b:Int}(hb:0<b):a.sign=mD (Rat.divInt a b) 0:=by
 have:(0:Rat)=Rat.divInt 0 1:=rfl
 rw[this,I8 hb (by decide),Int.mul_one,Int.zero_mul,←Re,Int.sub_zero]
theorem Ak{a d:Int}(hd:0<d):qn (Rat.divInt a d)=⟨zn (a/(Int.gcd a d:Int)),if d/(Int.gcd a d:Int)=1 then⟨false,[]⟩else zn (d/(Int.gcd a d:Int))⟩:=by
 have h1:(Rat.divInt a d).num=a/(Int.gcd a d:Int):=by rw[Rat.num_divInt,Int.sign_eq_one_of_pos hd,Int.one_mul,Int.gcd_comm]
 have h2:((Rat.divInt a d).den:Int)=d/(Int.gcd a d:Int):=by
  rw[Rat.den_divInt,if_neg (by omega),Int.gcd_comm]
  have:(d.natAbs:Int)=d:=by omega
  rw[Int.natCast_ediv,this]
 unfold qn
 rw[h1,h2]
 by_cases e:(Rat.divInt a d).den=1
 ·rw[if_pos e,if_pos (by omega)]
 ·rw[if_neg e,if_neg (by omega)]
theorem Tn(k:Int):((bif(vp k).2 then some (decide ((vp k).1=1))else some false):Option Bool)=some (decide (k=1)):=by
 by_cases h:cP k
 ·rw[iU h];rfl
 ·rw[pV h]
  have:¬k=1:=by rintro rfl;exact h (by decide)
  rw[decide_eq_false this];rfl
theorem Dv{n d:Zr}(hn:Wl n)(hd:Wl d)(h:0<zi d):((kY n d).bind fun g=>(eu n g).bind fun a=>(eu d g).bind fun b=>(cL b.1).bind fun c=>
  (bif c.2 then some (decide (c.1=1))else some false).bind fun e=>bif e then some (⟨a.1,⟨false,[]⟩⟩:Qr)else some ⟨a.1,b.1⟩)=some (qn (Rat.divInt (zi n) (zi d))):=by
 have g0:(Int.gcd (zi n) (zi d):Int)≠0:=by
  have:0<Int.gcd (zi n) (zi d):=Int.gcd_pos_of_ne_zero_right _ (by omega)
  omega
 have wg:Wl (zn (Int.gcd (zi n) (zi d):Int)):=dG ((Wl.fit hd).le (by
  have:=Nat.le_of_dvd (Int.natAbs_pos.2 (show zi d≠0 by omega)) (Int.gcd_dvd_natAbs_right (zi n) (zi d))
  simpa using this)) hd.2
 have wq:Wl (zn (zi d/(Int.gcd (zi n) (zi d):Int))):=dG ((Wl.fit hd).le (Int.natAbs_ediv_le_natAbs _ _)) hd.2
 rw[Yq hn hd,aU,divMod_eq hn wg,aU,divMod_eq hd wg,aU,dJ,I5,if_neg g0,I5,if_neg g0]
 simp only[]
 rw[pU wq,aU,dJ,Tn,aU,Ak h]
 by_cases e:zi d/(Int.gcd (zi n) (zi d):Int)=1
 ·rw[decide_eq_true e,dR,if_pos e]
 ·rw[decide_eq_false e,eO,if_neg e]
theorem reduce_eq{x y:Zr}(hx:Wl x)(hy:Wl y)(h0:zi y≠0):ff x y=some (qn (Rat.divInt (zi x) (zi y))):=by
 unfold ff
 simp only[bD,aU,zeta',sign_eq hy]
 by_cases h:zi y<0
 ·rw[show decide ((zi y).sign<0)=true by rw[Int.sign_eq_neg_one_of_neg h];rfl,dR,neg_eq hx,aU,neg_eq hy,aU]
  have hp:=Dv (dG (Wl.fit hx).neg hx.2) (dG (Wl.fit hy).neg hy.2) (by rw[dJ];omega)
  rw[dJ,dJ,Rat.neg_divInt_neg]at hp
  exact hp
 ·rw[show decide ((zi y).sign<0)=false by rw[Int.sign_eq_one_of_pos (by omega)];rfl,eO]
  exact Dv hx hy (by omega)
end Go.Proofs.YtfoldppidpmchaaGreat
namespace Go.Proofs.YtfoldppidpmchaaGreat
open Go.Fw
theorem mE(q:Qr):(⟨⟨q.num.neg,q.num.w⟩,⟨q.den.neg,q.den.w⟩⟩:Qr)=q:=by cases q;rfl
theorem kD(q:Qr):(⟨q.num,q.den⟩:Qr)=q:=by cases q;rfl
theorem parts_eq{L:Nat}{q:Qr}{r:Rat}(h:dL L q r)(hL:L≤10000000000):∃n d:Zr,cM q=some (n,d)∧Wl n∧Wl d∧0<zi d∧Rat.divInt (zi n) (zi d)=r∧Fit L (zi n)∧Fit L (zi d):=by
 have wn:=h.wn hL
 have wd:=h.wd hL
 have hv:=h.v
 unfold cM
 simp only[zeta',aU,sign_eq wd,m9 (x:=1) (by decide) (by decide),neg_eq wn,neg_eq wd]
 unfold qv qd at hv
 rcases Int.lt_trichotomy (zi q.den) 0 with h1|h1|h1
 ·refine⟨_,_,?_,dG h.fn.neg hL,dG h.fd.neg hL,by rw[dJ];omega,?_,by rw[dJ];exact h.fn.neg,by rw[dJ];exact h.fd.neg⟩
  ·rw[Int.sign_eq_neg_one_of_neg h1];rfl
  ·rw[dJ,dJ,Rat.neg_divInt_neg,←hv,if_neg (by omega)]
 ·refine⟨_,_,?_,wn,dG (zj h.l1) hL,by rw[dJ];decide,?_,h.fn,by rw[dJ];exact zj h.l1⟩
  ·rw[h1];rfl
  ·rw[dJ,←hv,if_pos h1]
 ·refine⟨_,_,?_,wn,wd,h1,?_,h.fn,h.fd⟩
  ·rw[Int.sign_eq_one_of_pos h1];rfl
  ·rw[←hv,if_neg (by omega)]
def Sm(a:Int):Prop:=-2147483648<a∧a<2147483648
theorem Sm.ok{a:Int}(h:Sm a):cP a:=by unfold Sm at h;unfold cP;omega
theorem pW{L:Nat}{q:Qr}{r:Rat}(h:dL L q r)(hL:L≤10000000000):∃a b c,dx q=some (a,b,c)∧(c=true→Sm a∧0<b∧Sm b∧Rat.divInt a b=r):=by
 have wn:=h.wn hL
 have wd:=h.wd hL
 have hv:=h.v
 unfold dx
 simp only[zeta',aU,bD,pU wn,pU wd]
 unfold qv qd at hv
 generalize zi q.num=n at*
 generalize zi q.den=d at*
 by_cases hs:Sm n∧Sm d
 ·obtain⟨h1,h2⟩:=hs
  rw[iU h1.ok,iU h2.ok]
  unfold Sm at h1 h2
  simp only[]
  rw[decide_eq_false (show ¬n≤-2147483648 by omega),decide_eq_false (show ¬2147483648≤n by omega),decide_eq_false (show ¬d≤-2147483648 by omega),decide_eq_false (show ¬2147483648≤d by omega)]
  simp only[Bool.not_true,eO,aU]
  by_cases h0:d=0
  ·rw[decide_eq_true h0,dR]
   refine⟨_,_,_,rfl,fun _=>⟨h1,by decide,⟨by decide,by decide⟩,?_⟩⟩
   rw[←hv,if_pos h0]
  ·rw[decide_eq_false h0,eO]
   rw[if_neg h0]at hv
   by_cases hneg:d<0
   ·rw[decide_eq_true hneg,dR,bT (by omega) (by omega),bT (by omega) (by omega)]
    refine⟨_,_,_,rfl,fun _=>⟨⟨by omega,by omega⟩,by omega,⟨by omega,by omega⟩,?_⟩⟩
    rw[Int.zero_sub,Int.zero_sub,Rat.neg_divInt_neg,hv]
   ·rw[decide_eq_false hneg,eO]
    exact⟨_,_,_,rfl,fun _=>⟨h1,by omega,h2,hv⟩⟩
 ·refine⟨0,0,false,?_,fun e=>by cases e⟩
  by_cases o1:cP n
  ·by_cases o2:cP d
   ·rw[iU o1,iU o2]
    simp only[Bool.not_true,eO,aU]
    unfold Sm at hs
    by_cases c1:n≤-2147483648
    ·rw[decide_eq_true c1];simp only[aU,dR]
    ·rw[decide_eq_false c1];simp only[aU,eO]
     by_cases c2:2147483648≤n
     ·rw[decide_eq_true c2];simp only[aU,dR]
     ·rw[decide_eq_false c2];simp only[aU,eO]
      by_cases c3:d≤-2147483648
      ·rw[decide_eq_true c3];simp only[aU,dR]
      ·rw[decide_eq_false c3];simp only[aU,eO]
       rw[decide_eq_true (show 2147483648≤d by omega)];simp only[dR]
   ·rw[iU o1,pV o2];simp only[Bool.not_true,Bool.not_false,eO,aU,dR]
  ·rw[pV o1];simp only[Bool.not_false,aU,dR]
theorem I9{a g:Int}(hg:0<g)(h:g∣a):Int.tdiv a g=a/g:=by
 obtain⟨k,rfl⟩:=h
 rw[Int.mul_tdiv_cancel_left _ (by omega),Int.mul_ediv_cancel_left _ (by omega)]
theorem zk{n d:Int}(hd:0<d)(hd':d≤9223372036854775807)(hn: -9223372036854775807≤n)(hn':n≤9223372036854775807):fX n d=some (qn (Rat.divInt n d)):=by
 unfold fX
 simp only[aU,bD]
 refine fD (fun s=>Int.gcd s.1 s.2=Int.gcd n d∧s.1.natAbs≤9223372036854775807∧s.2.natAbs≤9223372036854775807) (fun e=>e.natAbs=Int.gcd n d∧e.natAbs≤9223372036854775807) (fun s=>s.2.natAbs) ?_ ⟨rfl,by simp only[];omega,by simp only[];omega⟩ ?_
 ·rintro⟨a,b⟩ ⟨i1,i2,i3⟩
  simp only at i1 i2 i3⊢
  by_cases hb:b=0
  ·right
   subst hb
   refine⟨a,by simp,?_,i2⟩
   rw[←i1];simp[Int.gcd]
  ·left
   rw[decide_eq_true hb,dR,DQ,if_neg hb,aU]
   have hm:(Int.tmod a b).natAbs=a.natAbs%b.natAbs:=Int.natAbs_tmod a b
   have hlt:=Nat.mod_lt a.natAbs (Int.natAbs_pos.2 hb)
   refine⟨_,rfl,⟨?_,i3,by simp only[];omega⟩,by simp only[];omega⟩
   simp only[]
   rw[←i1,Int.gcd,Int.gcd,hm,Nat.gcd_comm b.natAbs,←Nat.gcd_rec,Nat.gcd_comm]
 ·rintro e ⟨he,hle⟩
  obtain⟨g,hg⟩:∃g:Int,(Int.gcd n d:Int)=g:=⟨_,rfl⟩
  have hgp:0<g:=by have:=Int.gcd_pos_of_ne_zero_right n (show d≠0 by omega);omega
  have hgn:g∣n:=hg▸Int.gcd_dvd_left ..
  have hgd:g∣d:=hg▸Int.gcd_dvd_right ..
  have hK:∀m:Int,m=g→(bif decide (m=d)then(tG n m).bind fun eI=>(bF eI).bind fun x=>some (⟨⟨x.neg,x.w⟩,⟨false,[]⟩⟩:Qr)else(tG n m).bind fun fQ=>(bF fQ).bind fun x=>(tG d m).bind fun lI=>(bF lI).bind fun y=>some ⟨⟨x.neg,x.w⟩,⟨y.neg,y.w⟩⟩)=some (qn (Rat.divInt n d)):=by
   rintro m rfl
   have b1:(n/m).natAbs≤n.natAbs:=Int.natAbs_ediv_le_natAbs _ _
   have b2:(d/m).natAbs≤d.natAbs:=Int.natAbs_ediv_le_natAbs _ _
   have q1:tG n m=some (n/m):=by
    rw[tG,if_neg (by omega),I9 hgp hgn,bT (by omega) (by omega)]
   have q2:tG d m=some (d/m):=by
    rw[tG,if_neg (by omega),I9 hgp hgd,bT (by omega) (by omega)]
   rw[Ak hd,hg,q1,q2]
   simp only[aU,m9 (x:=n/m) (by omega) (by omega),m9 (x:=d/m) (by omega) (by omega),zeta']
   by_cases e1:m=d
   ·rw[decide_eq_true e1,dR,if_pos (by rw[e1];exact Int.ediv_self (by omega))]
   ·rw[decide_eq_false e1,eO,if_neg]
    intro e2
    have:=Int.ediv_mul_cancel hgd
    rw[e2]at this;omega
  by_cases hneg:e<0
  ·rw[decide_eq_true hneg,dR,bT (by omega) (by omega)]
   exact hK _ (by omega)
  ·rw[decide_eq_false hneg,eO]
   exact hK _ (by omega)
theorem lH{a b:Int}(ha:Sm a)(hb:Sm b): -4611686018427387904<a*b∧a*b<4611686018427387904:=by
 unfold Sm at ha hb
 have h1:(a*b).natAbs=a.natAbs*b.natAbs:=Int.natAbs_mul a b
 have h2:a.natAbs*b.natAbs≤2147483647*2147483647:=Nat.mul_le_mul (by omega) (by omega)
 omega
theorem vO{a b:Int}(ha:0<a)(hb:0<b):0<a*b:=Int.mul_pos ha hb
section ops
variable {L M:Nat}{a b:Qr}{x y:Rat}
theorem dL.add(ha:dL L a x)(hb:dL M b y)(h:L+M≤4000000000):pC a b=some (qn (x+y))∧dL (L+M+1) (qn (x+y)) (x+y):=by
 refine⟨?_,(ha.fq.add hb.fq).rep (by omega)⟩
 obtain⟨n1,d1,c1,e1,k1⟩:=pW ha (by omega)
 obtain⟨n2,d2,c2,e2,k2⟩:=pW hb (by omega)
 obtain⟨p1,q1,f1,w1,w2,g1,v1,t1,t2⟩:=parts_eq ha (by omega)
 obtain⟨p2,q2,f2,w3,w4,g2,v2,t3,t4⟩:=parts_eq hb (by omega)
 have Ja:jB a b=some (qn (x+y)):=by
  unfold jB gL
  have u1:=dG (t1.mul t4) (by omega)
  have u2:=dG (t3.mul t2) (by omega)
  have u3:=dG (t2.mul t4) (by omega)
  have u4:=dG ((t1.mul t4).add ((t3.mul t2).mono (by omega))) (by omega)
  simp only[zeta',mE,kD,f1,f2,aU,mul_eq w1 w4,mul_eq w3 w2,add_eq u1 u2,mul_eq w2 w4,dJ]
  rw[reduce_eq u4 u3 (by rw[dJ];have:=vO g1 g2;omega),aU,dJ,dJ,←v1,←v2,Rat.divInt_add_divInt _ _ (by omega) (by omega)]
 unfold pC
 simp only[zeta',mE,kD,e1,e2,aU,bD,Ja]
 cases c1
 ·rw[eO,aU,eO]
 ·cases c2
  ·rw[dR,aU,eO]
  ·obtain⟨s1,s2,s3,s4⟩:=k1 rfl
   obtain⟨s5,s6,s7,s8⟩:=k2 rfl
   have m1:=lH s1 s7
   have m2:=lH s5 s3
   have m3:=lH s3 s7
   have m4:=vO s2 s6
   rw[dR,aU,dR,bT (x:=n1*d2) (by omega) (by omega),bT (x:=n2*d1) (by omega) (by omega),bT (x:=d1*d2) (by omega) (by omega),bT (by omega) (by omega),zk m4 (by omega) (by omega) (by omega),aU,←s4,←s8,Rat.divInt_add_divInt _ _ (by omega) (by omega)]
theorem dL.sub(ha:dL L a x)(hb:dL M b y)(h:L+M≤4000000000):pD a b=some (qn (x-y))∧dL (L+M+1) (qn (x-y)) (x-y):=by
 refine⟨?_,(ha.fq.sub hb.fq).rep (by omega)⟩
 obtain⟨n1,d1,c1,e1,k1⟩:=pW ha (by omega)
 obtain⟨n2,d2,c2,e2,k2⟩:=pW hb (by omega)
 obtain⟨p1,q1,f1,w1,w2,g1,v1,t1,t2⟩:=parts_eq ha (by omega)
 obtain⟨p2,q2,f2,w3,w4,g2,v2,t3,t4⟩:=parts_eq hb (by omega)
 have Ja:jC a b=some (qn (x-y)):=by
  unfold jC gM
  have u1:=dG (t1.mul t4) (by omega)
  have u2:=dG (t3.mul t2) (by omega)
  have u3:=dG (t2.mul t4) (by omega)
  have u4:=dG ((t1.mul t4).sub ((t3.mul t2).mono (by omega))) (by omega)
  simp only[zeta',mE,kD,f1,f2,aU,mul_eq w1 w4,mul_eq w3 w2,sub_eq u1 u2,mul_eq w2 w4,dJ]
  rw[reduce_eq u4 u3 (by rw[dJ];have:=vO g1 g2;omega),aU,dJ,dJ,←v1,←v2,Rat.divInt_sub_divInt _ _ (by omega) (by omega)]
 unfold pD
 simp only[zeta',mE,kD,e1,e2,aU,bD,Ja]
 cases c1
 ·rw[eO,aU,eO]
 ·cases c2
  ·rw[dR,aU,eO]
  ·obtain⟨s1,s2,s3,s4⟩:=k1 rfl
   obtain⟨s5,s6,s7,s8⟩:=k2 rfl
   have m1:=lH s1 s7
   have m2:=lH s5 s3
   have m3:=lH s3 s7
   have m4:=vO s2 s6
   rw[dR,aU,dR,bT (x:=n1*d2) (by omega) (by omega),bT (x:=n2*d1) (by omega) (by omega),bT (x:=d1*d2) (by omega) (by omega),bT (by omega) (by omega),zk m4 (by omega) (by omega) (by omega),aU,←s4,←s8,Rat.divInt_sub_divInt _ _ (by omega) (by omega)]
theorem dL.mul(ha:dL L a x)(hb:dL M b y)(h:L+M≤4000000000):kO a b=some (qn (x*y))∧dL (L+M) (qn (x*y)) (x*y):=by
 have l1:=ha.l1
 refine⟨?_,(ha.fq.mul hb.fq).rep (by omega)⟩
 obtain⟨n1,d1,c1,e1,k1⟩:=pW ha (by omega)
 obtain⟨n2,d2,c2,e2,k2⟩:=pW hb (by omega)
 obtain⟨p1,q1,f1,w1,w2,g1,v1,t1,t2⟩:=parts_eq ha (by omega)
 obtain⟨p2,q2,f2,w3,w4,g2,v2,t3,t4⟩:=parts_eq hb (by omega)
 have Ja:jD a b=some (qn (x*y)):=by
  unfold jD gN
  have u1:=dG (t1.mul t3) (by omega)
  have u3:=dG (t2.mul t4) (by omega)
  simp only[zeta',mE,kD,f1,f2,aU,mul_eq w1 w3,mul_eq w2 w4]
  rw[reduce_eq u1 u3 (by rw[dJ];have:=vO g1 g2;omega),aU,dJ,dJ,←v1,←v2,Rat.divInt_mul_divInt]
 unfold kO
 simp only[zeta',mE,kD,e1,e2,aU,bD,Ja]
 cases c1
 ·rw[eO,aU,eO]
 ·cases c2
  ·rw[dR,aU,eO]
  ·obtain⟨s1,s2,s3,s4⟩:=k1 rfl
   obtain⟨s5,s6,s7,s8⟩:=k2 rfl
   have m1:=lH s1 s5
   have m3:=lH s3 s7
   have m4:=vO s2 s6
   rw[dR,aU,dR,bT (by omega) (by omega),bT (x:=d1*d2) (by omega) (by omega),zk m4 (by omega) (by omega) (by omega),aU,←s4,←s8,Rat.divInt_mul_divInt]
theorem dL.sign(ha:dL L a x)(h:L≤10000000000):jE a=some (mD x 0):=by
 unfold jE
 have wn:=ha.wn h
 have wd:=ha.wd h
 have hv:=ha.v
 simp only[zeta',aU,sign_eq wn,sign_eq wd]
 unfold qv qd at hv
 rcases Int.lt_trichotomy (zi a.den) 0 with h1|h1|h1
 ·rw[Int.sign_eq_neg_one_of_neg h1]
  rw[if_neg (by omega),←Rat.neg_divInt_neg]at hv
  rw[←hv,←qK (by omega),Int.sign_neg]
  show some (IntKind.i64.wrap (0-(zi a.num).sign))=_
  have:(zi a.num).sign=-1∨(zi a.num).sign=0∨(zi a.num).sign=1:=by
   rcases Int.lt_trichotomy (zi a.num) 0 with e|e|e
   ·left;exact Int.sign_eq_neg_one_of_neg e
   ·right;left;rw[e];rfl
   ·right;right;exact Int.sign_eq_one_of_pos e
  rw[bT (by omega) (by omega),Int.zero_sub]
 ·rw[if_pos h1]at hv
  rw[←hv,←qK (by omega),h1];rfl
 ·rw[if_neg (by omega)]at hv
  rw[Int.sign_eq_one_of_pos h1,←hv,←qK h1];rfl
theorem Al{x:Rat}:mD x 0=0↔x=0:=by
 unfold mD
 by_cases h:x<0
 ·rw[if_pos h]
  refine⟨fun e=>absurd e (by decide),fun e=>?_⟩
  rw[e]at h;exact absurd h Rat.lt_irrefl
 ·rw[if_neg h]
  by_cases h2:x=0
  ·rw[if_pos h2];simp[h2]
  ·rw[if_neg h2];simp[h2]
theorem dL.canon(ha:dL L a x)(h:L≤10000000000):b7 a=some (qn x)∧dL L (qn x) x:=by
 refine⟨?_,ha.fq.rep ha.l1⟩
 obtain⟨n1,d1,c1,e1,k1⟩:=pW ha (by omega)
 obtain⟨p1,q1,f1,w1,w2,g1,v1,t1,t2⟩:=parts_eq ha (by omega)
 unfold b7
 simp only[zeta',mE,kD,e1,aU,f1]
 cases c1
 ·rw[eO,reduce_eq w1 w2 (by omega),aU,v1]
 ·obtain⟨s1,s2,s3,s4⟩:=k1 rfl
  unfold Sm at s1 s3
  rw[dR,zk s2 (by omega) (by omega) (by omega),aU,s4]
end ops
end Go.Proofs.YtfoldppidpmchaaGreat
namespace Go.Proofs.YtfoldppidpmchaaGreat
open Go.Fw
def ND(x y:Rat):Rat:=if x<y then y else x
theorem ET{p q u v:Int}(hq:0<q)(hv:0<v)(h:p.sign≠u.sign∨p.sign=0):qx (IntKind.i64.wrap (p.sign-u.sign))=some (kR (p*v) (u*q)):=by
 have pv:0<p→0<p*v:=fun h=>Int.mul_pos h hv
 have pv':p<0→p*v<0:=fun h=>Int.mul_neg_of_neg_of_pos h hv
 have uq:0<u→0<u*q:=fun h=>Int.mul_pos h hq
 have uq':u<0→u*q<0:=fun h=>Int.mul_neg_of_neg_of_pos h hq
 rcases Int.lt_trichotomy p 0 with e1|e1|e1<;>rcases Int.lt_trichotomy u 0 with e2|e2|e2
 ·rw[Int.sign_eq_neg_one_of_neg e1,Int.sign_eq_neg_one_of_neg e2]at h;simp at h
 ·have:=pv' e1
  rw[Int.sign_eq_neg_one_of_neg e1,e2,Int.zero_mul,gP this];rfl
 ·have:=pv' e1
  have:=uq e2
  rw[Int.sign_eq_neg_one_of_neg e1,Int.sign_eq_one_of_pos e2,gP (by omega)];rfl
 ·have:=uq' e2
  rw[Int.sign_eq_neg_one_of_neg e2,e1,Int.zero_mul,gQ this];rfl
 ·rw[e1,e2,Int.zero_mul,Int.zero_mul];rfl
 ·have:=uq e2
  rw[Int.sign_eq_one_of_pos e2,e1,Int.zero_mul,gP this];rfl
 ·have:=pv e1
  have:=uq' e2
  rw[Int.sign_eq_one_of_pos e1,Int.sign_eq_neg_one_of_neg e2,gQ (by omega)];rfl
 ·have:=pv e1
  rw[Int.sign_eq_one_of_pos e1,e2,Int.zero_mul,gQ this];rfl
 ·rw[Int.sign_eq_one_of_pos e1,Int.sign_eq_one_of_pos e2]at h;simp at h
theorem Jb{x y:Rat}:mD x y=0↔x=y:=by
 unfold mD
 by_cases h:x<y
 ·rw[if_pos h]
  refine⟨fun e=>absurd e (by decide),fun e=>?_⟩
  rw[e]at h;exact absurd h Rat.lt_irrefl
 ·rw[if_neg h]
  by_cases h2:x=y
  ·rw[if_pos h2];simp[h2]
  ·rw[if_neg h2];simp[h2]
theorem Jc{x y:Rat}:mD x y<0↔x<y:=by
 unfold mD
 by_cases h:x<y
 ·rw[if_pos h];simp[h]
 ·rw[if_neg h]
  by_cases h2:x=y
  ·rw[if_pos h2];simp[h2,Rat.lt_irrefl]
  ·rw[if_neg h2];simp[h]
theorem Dw{x y:Rat}:0<mD x y↔y<x:=by
 unfold mD
 by_cases h:x<y
 ·rw[if_pos h]
  have:¬y<x:=by grind
  simp[this]
 ·rw[if_neg h]
  by_cases h2:x=y
  ·rw[if_pos h2];simp[h2,Rat.lt_irrefl]
  ·rw[if_neg h2]
   have:y<x:=by grind
   simp[this]
theorem Rg(i:Int):qn (i:Rat)=⟨zn i,⟨false,[]⟩⟩:=by
 unfold qn
 rw[Rat.den_intCast,if_pos rfl,Rat.num_intCast]
section ops
variable {L M:Nat}{a b:Qr}{x y:Rat}
theorem dL.neg(ha:dL L a x)(h:L≤10000000000):iH a=some (qn (-x))∧dL L (qn (-x)) (-x):=by
 refine⟨?_,ha.fq.neg.rep ha.l1⟩
 unfold iH
 have r:=(ha.canon h).2
 simp only[zeta',mE,kD,(ha.canon h).1,aU,neg_eq (r.wn h)]
 show some (⟨zn (-zi (zn x.num)),_⟩:Qr)=some (qn (-x))
 rw[dJ];rfl
theorem dL.cmp(ha:dL L a x)(hb:dL M b y)(h:L+M≤4000000000):jF a b=some (mD x y):=by
 obtain⟨p1,q1,f1,w1,w2,g1,v1,t1,t2⟩:=parts_eq ha (by omega)
 obtain⟨p2,q2,f2,w3,w4,g2,v2,t3,t4⟩:=parts_eq hb (by omega)
 unfold jF
 have u1:=dG (t1.mul t4) (by omega)
 have u2:=dG (t3.mul t2) (by omega)
 simp only[zeta',mE,kD,f1,f2,aU,bD,sign_eq w1,sign_eq w3,mul_eq w1 w4,mul_eq w3 w2,Yo u1 u2,dJ]
 rw[←v1,←v2,I8 g1 g2]
 by_cases e1:(zi p1).sign=(zi p2).sign
 ·rw[show decide ((zi p1).sign≠(zi p2).sign)=false by simp[e1],eO,aU]
  by_cases e2:(zi p1).sign=0
  ·rw[decide_eq_true e2,dR,ET g1 g2 (.inr e2),aU]
  ·rw[decide_eq_false e2,eO]
 ·rw[show decide ((zi p1).sign≠(zi p2).sign)=true by simp[e1],dR,aU,dR,ET g1 g2 (.inl e1),aU]
theorem dL.eq(ha:dL L a x)(hb:dL M b y)(h:L+M≤4000000000):yE a b=some (decide (x=y)):=by
 unfold yE
 simp only[zeta',mE,kD,ha.cmp hb h,aU]
 congr 1
 rw[decide_eq_decide];exact Jb
theorem dL.max(ha:dL L a x)(hb:dL M b y)(h:L+M≤4000000000):Cw a b=some (qn (ND x y))∧dL (L+M) (qn (ND x y)) (ND x y):=by
 have l1:=ha.l1
 have hf:FQ (L+M) (ND x y):=by
  unfold ND
  split
  ·exact hb.fq.mono (by omega)
  ·exact ha.fq.mono (by omega)
 refine⟨?_,hf.rep (by omega)⟩
 unfold Cw ND
 simp only[zeta',mE,kD,hb.cmp ha (by omega),aU,(ha.canon (by omega)).1,(hb.canon (by omega)).1]
 by_cases e:x<y
 ·rw[decide_eq_true (Dw.2 e),dR,if_pos e]
 ·rw[decide_eq_false (fun q=>e (Dw.1 q)),eO,if_neg e]
theorem iP{n:Int}(hn:cP n):cu n=some (qn (n:Rat))∧dL 2 (qn (n:Rat)) (n:Rat):=by
 refine⟨?_,(FQ.int (oX hn) (by decide)).rep (by decide)⟩
 unfold cu
 simp only[zeta',aU,m9 hn.1 hn.2]
 rw[Rg]
theorem Jd{n d:Int}(h0:d≠0)(hn:Fit L n)(hd:Fit L d)(h:1≤L):dL L ⟨zn n,zn d⟩ (Rat.divInt n d):=by
 refine⟨fun x hx=>eP (by decide) hx,fun x hx=>eP (by decide) hx,(bg (by decide)).2 hn,(bg (by decide)).2 hd,h,?_⟩
 unfold qv qd
 simp only[dJ]
 rw[if_neg h0]
end ops
end Go.Proofs.YtfoldppidpmchaaGreat
namespace Go.Proofs.YtfoldppidpmchaaGreat
open Go.Fw
def vq(n:Nat)(h:Nat→Rat):List Qr:=(List.range n).map fun i=>qn (h i)
structure bL (L:Nat) (v:List Qr) (f:Nat→Rat):Prop where
 e:∀i (h:i<v.length),dL L v[i] (f i)
 z:∀i,v.length≤i→f i=0
 l1:1≤L
theorem bt(n:Nat)(h:Nat→Rat):(vq n h).length=n:=by simp[vq]
theorem Rh{n i:Nat}{h:Nat→Rat}(hi:i<n):(vq n h)[i]? =some (qn (h i)):=by simp[vq,hi]
theorem Mp{n i:Nat}{h:Nat→Rat}(hi:i<(vq n h).length):(vq n h)[i]=qn (h i):=by simp[vq]
theorem nn(n:Nat)(h:Nat→Rat):vq (n+1) h=vq n h++[qn (h n)]:=by simp[vq,List.range_succ]
theorem To(h:Nat→Rat):vq 0 h=[]:=rfl
theorem mF{n:Nat}{h k:Nat→Rat}(e:∀i,i<n→h i=k i):vq n h=vq n k:=by
 unfold vq
 apply List.map_congr_left
 intro i hi
 rw[e i (List.mem_range.1 hi)]
theorem mG{L n:Nat}{h:Nat→Rat}(hf:∀i,i<n→FQ L (h i))(hz:∀i,n≤i→h i=0)(h1:1≤L):bL L (vq n h) h:=by
 refine⟨fun i hi=>?_,fun i hi=>hz i (by rwa[bt]at hi),h1⟩
 rw[Mp hi]
 exact(hf i (by rwa[bt]at hi)).rep h1
def qz:Qr:=⟨⟨false,[]⟩,⟨false,[]⟩⟩
theorem Tp:qn 0=qz:=rfl
theorem Dx{L:Nat}(h:1≤L):dL L qz 0:=⟨by simp[qz],by simp[qz],by simp[qz],by simp[qz],h,by decide⟩
theorem Tq{L:Nat}(h:1≤L):FQ L 0:=(Dx h).fq
def Y4(v:List Qr)(i:Nat):Qr:=v.getD i qz
theorem bL.at{L:Nat}{v:List Qr}{f:Nat→Rat}(h:bL L v f)(i:Nat):dL L (Y4 v i) (f i):=by
 unfold Y4
 by_cases hi:i<v.length
 ·rw[List.getD_eq_getElem?_getD,List.getElem?_eq_getElem hi];exact h.e i hi
 ·rw[List.getD_eq_getElem?_getD,List.getElem?_eq_none (by omega),h.z i (by omega)];exact Dx h.l1
theorem bL.fq{L:Nat}{v:List Qr}{f:Nat→Rat}(h:bL L v f)(i:Nat):FQ L (f i):=(h.at i).fq
theorem bL.mono{L M:Nat}{v:List Qr}{f:Nat→Rat}(h:bL L v f)(hl:L≤M):bL M v f:=⟨fun i hi=>(h.e i hi).mono hl,h.z,Nat.le_trans h.l1 hl⟩
theorem bL.nil{L:Nat}(h:1≤L):bL L [] (fun _=>0):=⟨fun i hi=>by simp at hi,fun _ _=>rfl,h⟩
theorem bL.get{L:Nat}{v:List Qr}{f:Nat→Rat}(h:bL L v f){i:Nat}(hi:i<v.length):∃q,v[i]? =some q∧dL L q (f i):=⟨v[i],by simp,h.e i hi⟩
theorem bL.congr{L:Nat}{v:List Qr}{f g:Nat→Rat}(h:bL L v f)(e:∀i,f i=g i):bL L v g:=by
 have:f=g:=funext e
 rw[←this];exact h
def Dy(v:List Qr)(i:Nat):Rat:=qv (Y4 v i)
theorem GI{L:Nat}{v:List Qr}(h:∀q∈v,dL L q (qv q))(h1:1≤L):bL L v (Dy v):=by
 refine⟨fun i hi=>?_,fun i hi=>?_,h1⟩
 ·have e:Y4 v i=v[i]:=by unfold Y4;rw[List.getD_eq_getElem?_getD,List.getElem?_eq_getElem hi];rfl
  unfold Dy
  rw[e];exact h _ (List.getElem_mem hi)
 ·unfold Dy Y4
  rw[List.getD_eq_getElem?_getD,List.getElem?_eq_none hi];decide
def dZ(h:Nat→Rat):Nat→Rat
 |0=>0
 |n+1=>dZ h n+h n
theorem Dz{h k:Nat→Rat}:∀{n:Nat},(∀i,i<n→h i=k i)→dZ h n=dZ k n
 |0,_=>rfl
 |n+1,e=>by rw[dZ,dZ,Dz (fun i hi=>e i (by omega)),e n (by omega)]
theorem EU:∀n,dZ (fun _=>0) n=0
 |0=>rfl
 |n+1=>by rw[dZ,EU n];grind
theorem Ri{h:Nat→Rat}{n m:Nat}(hnm:n≤m)(hz:∀i,n≤i→i<m→h i=0):dZ h m=dZ h n:=by
 induction m with
 |zero=>rw[show n=0 by omega]
 |succ m ih=>
  rcases Nat.lt_or_ge m n with q|q
  ·rw[show n=m+1 by omega]
  ·rw[dZ,ih q (fun i h1 h2=>hz i h1 (by omega)),hz m q (by omega)];grind
theorem Mq{L:Nat}{h:Nat→Rat}:∀{n:Nat},(∀i,i<n→FQ L (h i))→FQ (n*(L+1)+1) (dZ h n)
 |0,_=>Tq (by omega)
 |n+1,e=>by
  rw[dZ]
  exact((Mq (fun i hi=>e i (by omega))).add (e n (by omega))).mono (by rw[Nat.add_mul];omega)
end Go.Proofs.YtfoldppidpmchaaGreat
namespace Go.Proofs.YtfoldppidpmchaaGreat
open Go.Fw
theorem Mr{α β:Type}(a:List α)(b:List β):min (a.length:Int) (b.length:Int)=((min a.length b.length:Nat):Int):=by omega
theorem bL.gd{L:Nat}{v:List Qr}{f:Nat→Rat}(h:bL L v f)(k:Nat):dL L (v.getD k (⟨⟨false,[]⟩,⟨false,[]⟩⟩:Qr)) (f k):=h.at k
theorem K1{n k:Nat}{h:Nat→Rat}(hk:k<n):(vq k h++List.replicate (n-k) qz).set k (qn (h k))=vq (k+1) h++List.replicate (n-(k+1)) qz:=by
 rw[show n-k=(n-(k+1))+1 by omega,List.replicate_succ,List.set_append_right _ _ (by rw[bt];exact Nat.le_refl _),bt,Nat.sub_self,nn,List.append_assoc];rfl
theorem Ys{n c:Nat}{h:Nat→Rat}(hc:c≤n)(hz:∀i,c≤i→i<n→h i=0):vq c h++List.replicate (n-c) qz=vq n h:=by
 induction n with
 |zero=>rw[show c=0 by omega];rfl
 |succ n ih=>
  rcases Nat.lt_or_ge n c with q|q
  ·rw[show c=n+1 by omega,Nat.sub_self];simp
  ·rw[show n+1-c=(n-c)+1 by omega,List.replicate_succ',←List.append_assoc,ih q (fun i h1 h2=>hz i h1 (by omega)),nn,hz n q (by omega),Tp]
theorem vP{n k:Nat}{h:Nat→Rat}(hk:k≤n):(vq k h++List.replicate (n-k) qz).length=n:=by rw[List.length_append,bt,List.length_replicate];omega
section ops
variable {K L M:Nat}{c:Qr}{a b:List Qr}{k:Rat}{f g:Nat→Rat}
theorem Am(hc:dL K c k)(ha:bL L a f)(h:K+L≤4000000000)(la:a.length≤1000000):fZ c a=some (vq a.length fun i=>k*f i)∧bL (K+L) (vq a.length fun i=>k*f i) (fun i=>k*f i):=by
 have TY:=ha.l1
 refine⟨?_,mG (fun i _=>hc.fq.mul (ha.fq i)) (fun i hi=>?_) (by omega)⟩
 ·unfold fZ
  obtain⟨⟨_,_⟩,⟨_,_⟩⟩:=c
  refine bind_eq rfl<|bind_eq (sQ (by omega) (by omega))<|bind_eq rfl ?_
  refine aJ (fun j=>((j:Int),vq j (fun i=>k*f i)++List.replicate (a.length-j) qz)) a.length (vq a.length fun i=>k*f i) rfl (fun j hj=>?_) ?_ rfl
  ·obtain⟨q,hq,rq⟩:=ha.get hj
   have e3:=(hc.mul rq h).1
   obtain⟨q3,h3⟩:∃q,qn (k*f j)=q:=⟨_,rfl⟩
   have h4:=K1 (h:=fun i=>k*f i) hj
   rw[h3]at e3 h4
   obtain⟨⟨_,_⟩,⟨_,_⟩⟩:=q
   obtain⟨⟨_,_⟩,⟨_,_⟩⟩:=q3
   refine bind_eq rfl<|bn (decide_eq_true (by omega))<|bind_eq (aQ hq)<|bind_eq e3<|bind_eq (eX (by rw[vP (by omega)];exact hj))<|bind_eq (je (by rw[vP (by omega)];exact hj))<|bind_eq rfl ?_
   rw[aW (by omega),h4]
  ·refine bind_eq rfl<|aX (decide_eq_false (by omega)) ?_
   simp
 ·rw[ha.z i hi];grind
end ops
end Go.Proofs.YtfoldppidpmchaaGreat
namespace Go.Proofs.YtfoldppidpmchaaGreat
open Go.Fw
def ou(f g:Nat→Rat):Nat→Int
 |0=>0
 |n+1=>if ou f g n≠0 then ou f g n else mD (f n) (g n)
theorem NF{f g:Nat→Rat}{i n:Nat}(h0:ou f g i=0)(hi:i<n)(hc:mD (f i) (g i)≠0):ou f g n=mD (f i) (g i):=by
 induction n with
 |zero=>omega
 |succ n ih=>
  rw[ou]
  rcases Nat.lt_or_ge i n with q|q
  ·rw[ih q,if_pos hc]
  ·obtain rfl:i=n:=by omega
   rw[h0];simp
theorem zm{f g:Nat→Rat}:∀{n:Nat},ou f g n=0↔∀i,i<n→f i=g i
 |0=>by simp[ou]
 |n+1=>by
  rw[ou]
  by_cases h:ou f g n=0
  ·rw[if_neg (by simpa using h),Jb]
   have:=zm.1 h
   refine⟨fun e i hi=>?_,fun e=>e n (by omega)⟩
   rcases Nat.lt_or_ge i n with q|q
   ·exact this i q
   ·obtain rfl:i=n:=by omega
    exact e
  ·rw[if_pos h]
   refine⟨fun e=>absurd e h,fun e=>absurd (zm.2 (fun i hi=>e i (by omega))) h⟩
section ops
variable {K L M:Nat}{c:Qr}{a b:List Qr}{k:Rat}{f g:Nat→Rat}
theorem aij{x y z:Rat}{p q r:Qr}(hp:dL K p x)(hq:dL L q y)(hr:dL M r z)(hz:r=qn z)(h:K+L+M≤4000000000):nN p q r=some (qn (z+x*y)):=by
 have e1:=hp.mul hq (by omega)
 have e2:=(hr.add e1.2 (by omega)).1
 have s1:=hp.sign (by omega)
 have s2:=hq.sign (by omega)
 replace e1:=e1.1
 obtain⟨⟨_,_⟩,⟨_,_⟩⟩:=p
 obtain⟨⟨_,_⟩,⟨_,_⟩⟩:=q
 obtain⟨⟨_,_⟩,⟨_,_⟩⟩:=r
 generalize qn (x*y)=w at e1 e2
 obtain⟨⟨_,_⟩,⟨_,_⟩⟩:=w
 unfold nN
 refine bind_eq s1<|bind_eq rfl ?_
 by_cases h1:x=0
 ·refine bind_eq (aX (decide_eq_false (by rw[h1,ES];simp)) rfl) ?_
  rw[show z+x*y=z by rw[h1];grind,←hz];rfl
 ·by_cases h2:y=0
  ·refine bind_eq (bn (decide_eq_true (fun e=>h1 (Al.1 e))) (bind_eq s2 (bind_eq rfl rfl))) ?_
   refine aX (decide_eq_false (by rw[h2,ES];simp)) ?_
   rw[show z+x*y=z by rw[h2];grind,←hz]
  ·refine bind_eq (bn (decide_eq_true (fun e=>h1 (Al.1 e))) (bind_eq s2 (bind_eq rfl rfl))) ?_
   refine bn (decide_eq_true (fun e=>h2 (Al.1 e))) ?_
   obtain⟨w3,h3⟩:∃w,qn (z+x*y)=w:=⟨_,rfl⟩
   rw[h3]at e2⊢
   obtain⟨⟨_,_⟩,⟨_,_⟩⟩:=w3
   exact bind_eq e1<|bind_eq e2 rfl
theorem Ms{n i:Nat}(hi:i<n):(a.take n).getD i (⟨⟨false,[]⟩,⟨false,[]⟩⟩:Qr)=a.getD i (⟨⟨false,[]⟩,⟨false,[]⟩⟩:Qr):=by
 simp[List.getD,List.getElem?_take,hi]
theorem xV(q:Qr):(⟨⟨(q.num.neg,q.num.w,q.den.neg,q.den.w).1,(q.num.neg,q.num.w,q.den.neg,q.den.w).2.1⟩,⟨(q.num.neg,q.num.w,q.den.neg,q.den.w).2.2.1,(q.num.neg,q.num.w,q.den.neg,q.den.w).2.2.2⟩⟩:Qr)=q:=by cases q;rfl
theorem Yt(ha:bL L a f)(hb:bL M b g)(h:(min a.length b.length+2)*(L+M+1)≤4000000000):iW a b=some (qn (dZ (fun i=>f i*g i) (min a.length b.length)))∧dL (min a.length b.length*(L+M+1)+1) (qn (dZ (fun i=>f i*g i) (min a.length b.length))) (dZ (fun i=>f i*g i) (min a.length b.length)):=by
 have hs:∀n,FQ (n*(L+M+1)+1) (dZ (fun i=>f i*g i) n):=fun n=>Mq (fun i _=>(ha.fq i).mul (hb.fq i))
 refine⟨?_,(hs _).rep (by omega)⟩
 unfold iW
 have hm:∀n:Nat,n≤min a.length b.length→n*(L+M+1)≤min a.length b.length*(L+M+1):=fun n hn=>Nat.mul_le_mul_right _ hn
 rw[Nat.add_mul]at h
 refine bind_eq rfl<|bind_eq rfl<|bind_eq (congrArg some (Mr a b))<|bind_eq (oV (by omega))<|bind_eq (oV (by omega)) ?_
 rw[show max (a.take (min a.length b.length)).length (b.take (min a.length b.length)).length=min a.length b.length by simp only[List.length_take];omega]
 refine sV (fun j=>((qn (dZ (fun i=>f i*g i) j)).num.neg,(qn (dZ (fun i=>f i*g i) j)).num.w,(qn (dZ (fun i=>f i*g i) j)).den.neg,(qn (dZ (fun i=>f i*g i) j)).den.w)) rfl (fun j hj=>?_) rfl
 have hmj:=hm j (by omega)
 have e1:=aij (ha.gd j) (hb.gd j) ((hs j).rep (by omega)) rfl (by omega)
 simp only[dZ]
 generalize hq0:qn (dZ (fun i=>f i*g i) j)=q0 at e1⊢
 generalize hq3:qn (dZ (fun i=>f i*g i) j+f j*g j)=q3 at e1⊢
 rw[←Ms (a:=a) hj,←Ms (a:=b) hj]at e1
 generalize (a.take (min a.length b.length)).getD j (⟨⟨false,[]⟩,⟨false,[]⟩⟩:Qr)=q1 at e1⊢
 generalize (b.take (min a.length b.length)).getD j (⟨⟨false,[]⟩,⟨false,[]⟩⟩:Qr)=q2 at e1⊢
 obtain⟨⟨_,_⟩,⟨_,_⟩⟩:=q0
 obtain⟨⟨_,_⟩,⟨_,_⟩⟩:=q1
 obtain⟨⟨_,_⟩,⟨_,_⟩⟩:=q2
 obtain⟨⟨_,_⟩,⟨_,_⟩⟩:=q3
 exact bind_eq rfl<|bind_eq rfl<|bind_eq e1 rfl
theorem aik(ha:bL L a f)(hb:bL M b g)(h:L+M≤4000000000):kq a b=some (ou f g (max a.length b.length)):=by
 unfold kq
 generalize max a.length b.length=n
 refine bind_eq (a:=if ou f g n≠0 then .inr (ou f g n)else .inl ()) ?_ ?_
 ·induction n with
  |zero=>rfl
  |succ n ih=>
   rw[n9]
   refine bind_eq ih ?_
   by_cases h0:ou f g n=0
   ·have hl:ou f g (n+1)=mD (f n) (g n):=by rw[ou,if_neg (by simpa using h0)]
    rw[hl,if_neg (show ¬ou f g n≠0 by simpa using h0)]
    have e1:=(ha.gd n).cmp (hb.gd n) h
    generalize a.getD n (⟨⟨false,[]⟩,⟨false,[]⟩⟩:Qr)=q1 at e1⊢
    generalize b.getD n (⟨⟨false,[]⟩,⟨false,[]⟩⟩:Qr)=q2 at e1⊢
    obtain⟨⟨_,_⟩,⟨_,_⟩⟩:=q1
    obtain⟨⟨_,_⟩,⟨_,_⟩⟩:=q2
    refine bind_eq rfl<|bind_eq rfl<|bind_eq e1<|bind_eq rfl ?_
    by_cases h1:mD (f n) (g n)=0
    ·rw[if_neg (by simpa using h1)];exact aX (decide_eq_false (by simpa using h1)) rfl
    ·rw[if_pos h1];exact bn (decide_eq_true h1) rfl
   ·have hl:ou f g (n+1)=ou f g n:=by rw[ou,if_pos h0]
    rw[hl,if_pos h0]
 ·by_cases h0:ou f g n=0
  ·rw[if_neg (by simpa using h0),h0]
  ·rw[if_pos h0]
theorem veq(ha:bL L a f)(hb:bL M b g)(h:L+M≤4000000000):fg a b=some (decide (∀i,i<max a.length b.length→f i=g i)):=by
 unfold fg
 refine bind_eq (aik ha hb h)<|bind_eq rfl ?_
 congr 1
 rw[decide_eq_decide];exact zm
theorem ail(ha:bL L a f)(hb:bL M b g)(h:L+M≤4000000000)(e:∀i,f i=g i):fg a b=some true:=by
 rw[veq ha hb h,decide_eq_true (fun i _=>e i)]
end ops
end Go.Proofs.YtfoldppidpmchaaGreat
namespace Go.Proofs.YtfoldppidpmchaaGreat
open Go.Fw
theorem sZ{l:List Nat}(h:GH l):fP l<65536^l.length:=eY l h.1
theorem tm{a:Nat}:Int.tmod (a:Int) 65536=((a%65536:Nat):Int):=by
 rw[Int.tmod_eq_emod_of_nonneg (by omega)];omega
theorem td{a:Nat}:Int.tdiv (a:Int) 65536=((a/65536:Nat):Int):=by
 rw[Int.tdiv_eq_ediv_of_nonneg (by omega)];omega
theorem GJ(l k:List Nat)(hl:GH l)(hk:GH k):iu (zl l) (zl k)=some (xM (fP l) (fP k)):=by
 unfold iu
 simp only[aU]
 rw[dc,dc,show max (l.length:Int) (k.length:Int)=((max l.length k.length:Nat):Int) by omega,bT (by have:=hl.2;have:=hk.2;omega) (by have:=hl.2;have:=hk.2;omega)]
 have h1:fP l<65536^(max l.length k.length):=Nat.lt_of_lt_of_le (sZ hl) (Nat.pow_le_pow_right (by decide) (by omega))
 have h2:fP k<65536^(max l.length k.length):=Nat.lt_of_lt_of_le (sZ hk) (Nat.pow_le_pow_right (by decide) (by omega))
 have hm:max l.length k.length≤100000000000:=by have:=hl.2;have:=hk.2;omega
 have a1:=A5 hl.1
 have a2:=A5 hk.1
 generalize fP l=V at*
 generalize fP k=W at*
 generalize max l.length k.length=n at*
 refine fD (fun y=>∃m:Nat,y=(m:Int)-1∧m≤n∧V/65536^m=W/65536^m) (fun e=>(∃c,e=.inl c∧V=W)∨e=.inr (xM V W)) (fun y=>(y+1).toNat) ?_ ⟨n,rfl,Nat.le_refl _,by rw[Nat.div_eq_of_lt h1,Nat.div_eq_of_lt h2]⟩ ?_
 ·rintro _ ⟨m,rfl,hmn,he⟩
  rcases m with _|m
  ·right
   refine⟨_,rfl,.inl ⟨_,rfl,?_⟩⟩
   simpa using he
  ·rw[show((m+1:Nat):Int)-1=(m:Int) by omega,show decide ((0:Int)≤(m:Int))=true by simp,dR,a1,aU,a2,aU]
   rcases EP he with⟨hd,hq⟩|⟨hd,hlt⟩|⟨hd,hlt⟩
   ·left
    rw[hd,show decide (((W/65536^m%65536:Nat):Int)<((W/65536^m%65536:Nat):Int))=false by simp,eO,aU,aU,show decide (((W/65536^m%65536:Nat):Int)<((W/65536^m%65536:Nat):Int))=false by simp,eO,bT (by omega) (by omega)]
    exact⟨_,rfl,⟨m,rfl,by omega,hq⟩,by omega⟩
   ·right
    rw[show decide (((V/65536^m%65536:Nat):Int)<((W/65536^m%65536:Nat):Int))=true by rw[decide_eq_true_eq];omega,dR]
    exact⟨_,rfl,.inr (by rw[qJ hlt])⟩
   ·right
    rw[show decide (((V/65536^m%65536:Nat):Int)<((W/65536^m%65536:Nat):Int))=false by rw[decide_eq_false_iff_not];omega,eO,aU,aU,show decide (((W/65536^m%65536:Nat):Int)<((V/65536^m%65536:Nat):Int))=true by rw[decide_eq_true_eq];omega,dR]
    exact⟨_,rfl,.inr (by rw[sY hlt])⟩
 ·rintro e (⟨c,rfl,rfl⟩|rfl)
  ·rw[vL]
  ·rfl
theorem GK(l k:List Nat)(hl:GH l)(hk:GH k):gi (zl l) (zl k)=some (zl (can 65536 (fP l+fP k))):=by
 unfold gi
 have h1:fP l<65536^(max l.length k.length):=Nat.lt_of_lt_of_le (sZ hl) (Nat.pow_le_pow_right (by decide) (by omega))
 have h2:fP k<65536^(max l.length k.length):=Nat.lt_of_lt_of_le (sZ hk) (Nat.pow_le_pow_right (by decide) (by omega))
 have hm:max l.length k.length≤100000000000:=by have:=hl.2;have:=hk.2;omega
 have a1:=A5 hl.1
 have a2:=A5 hk.1
 rw[dc,dc]
 generalize fP l=V at*
 generalize fP k=W at*
 refine fD (fun s=>∃i:Nat,s=(((BF 65536 V W i:Nat):Int),(i:Int),zl (dy 65536 i (V+W)))∧i≤max l.length k.length+1) (fun e=>∃i,e=zl (dy 65536 i (V+W))∧V+W<65536^i∧i≤max l.length k.length+1) (fun s=>max l.length k.length+1-s.2.1.toNat) ?_ ⟨0,by rw[Dq];rfl,by omega⟩ ?_
 ·rintro _ ⟨i,rfl,hi⟩
  have hc:=Dn (B:=65536) (by decide) V W i
  have NL:=Dp (B:=65536) (by decide) V W i
  have Eo:=BG (B:=65536) (by decide) V W i
  have d1:=Nat.mod_lt (V/65536^i) (show 0<65536 by decide)
  have d2:=Nat.mod_lt (W/65536^i) (show 0<65536 by decide)
  simp only[aU,bD]
  have yd:∀(K:Bool→Option ((Int×Int×List Int)⊕List Int)),(((bif decide ((i:Int)<(l.length:Int))then some true else some (decide ((i:Int)<(k.length:Int)))):Option Bool).bind fun c=>((bif c then some true else some (decide ((0:Int)<((BF 65536 V W i:Nat):Int)))):Option Bool).bind K)=K (decide (i<max l.length k.length∨0<BF 65536 V W i)):=by
   intro K
   by_cases q1:i<l.length
   ·have:i<max l.length k.length:=by omega
    simp[q1,this]
   ·by_cases q2:i<k.length
    ·have:i<max l.length k.length:=by omega
     simp[q1,q2,this]
    ·have:¬i<max l.length k.length:=by omega
     simp[q1,q2,this]
  rw[yd]
  by_cases Jq:i<max l.length k.length∨0<BF 65536 V W i
  ·left
   have hi':i<max l.length k.length+1:=by
    rcases Nat.lt_or_ge i (max l.length k.length+1)with h|h
    ·exact h
    ·have hie:i=max l.length k.length+1:=by omega
     have hp:65536^i=65536^(max l.length k.length)*65536:=by rw[hie,Nat.pow_succ]
     have g3:=Gw (B:=65536) (V:=V) (W:=W) (k:=i) (by omega) (by omega)
     rw[Nat.div_eq_of_lt (by omega)]at g3
     omega
   rw[show decide (i<max l.length k.length∨0<BF 65536 V W i)=true by rw[decide_eq_true_eq];exact Jq,dR,a1,aU,a2,aU,kG (by omega),kG (by omega),tm,td,NL,Eo,n6 (by decide) (by rw[dc,aT];omega),aU,fO (by have:=Dn (B:=65536) (by decide) V W (i+1);omega),aW (by omega)]
   refine⟨_,rfl,⟨i+1,?_,by omega⟩,by simp only[];omega⟩
   rw[hG,GG,KY]
  ·right
   rw[show decide (i<max l.length k.length∨0<BF 65536 V W i)=false by rw[decide_eq_false_iff_not];exact Jq,eO]
   refine⟨_,rfl,i,rfl,?_,hi⟩
   have g1:V<65536^i:=Nat.lt_of_lt_of_le h1 (Nat.pow_le_pow_right (by decide) (by omega))
   have g2:W<65536^i:=Nat.lt_of_lt_of_le h2 (Nat.pow_le_pow_right (by decide) (by omega))
   have g3:=Gw (B:=65536) g1 g2
   rcases Nat.lt_or_ge (V+W) (65536^i)with h|h
   ·exact h
   ·have:=Nat.div_pos h (Nat.pow_pos (by decide));omega
 ·rintro _ ⟨i,rfl,hlt,hi⟩
  rw[jR _ (by rw[aT];omega),aU,n7 (by decide) hlt]
theorem BJ(l k:List Nat)(hl:GH l)(hk:GH k)(hle:fP k≤fP l):fj (zl l) (zl k)=some (zl (can 65536 (fP l-fP k))):=by
 unfold fj
 have h1:=sZ hl
 have hm:=hl.2
 have a1:=A5 hl.1
 have a2:=A5 hk.1
 rw[dc]
 generalize fP l=V at*
 generalize fP k=W at*
 refine aJ (fun i=>(((1-Ai 65536 V W i:Nat):Int),(i:Int),zl (dy 65536 i (V-W)))) l.length (zl (dy 65536 l.length (V-W))) ?_ (fun i hi=>?_) ?_ ?_
 ·rw[Dr];rfl
 ·have hc:=KQ (B:=65536) (by decide) V W i
  have NL:=Ds (B:=65536) (by decide) V W i
  have Eo:=Gx (B:=65536) (by decide) hle i
  have d1:=Nat.mod_lt (V/65536^i) (show 0<65536 by decide)
  have d2:=Nat.mod_lt (W/65536^i) (show 0<65536 by decide)
  simp only[aU,bD]
  rw[show decide ((i:Int)<(l.length:Int))=true by simp[hi],dR,a1,aU,a2,aU]
  rw[←NL,hG,GG,KY,←Eo]
  generalize V/65536^i%65536=a at*
  generalize W/65536^i%65536=b at*
  generalize Ai 65536 V W i=c at*
  rw[bT (x:=(a:Int)-(b:Int)) (by omega) (by omega),bT (x:=(a:Int)-(b:Int)-((1-c:Nat):Int)) (by omega) (by omega)]
  by_cases hn:(a:Int)-(b:Int)-((1-c:Nat):Int)<0
  ·rw[show decide ((a:Int)-(b:Int)-((1-c:Nat):Int)<0)=true by rw[decide_eq_true_eq];exact hn,dR,bT (by omega) (by omega),n6 (by decide) (by rw[dc,aT];omega),aU,aW (by omega)]
   rw[show(a:Int)-(b:Int)-((1-c:Nat):Int)+65536=(((a+(65536-1-b)+c)%65536:Nat):Int) by omega,show(1-(a+(65536-1-b)+c)/65536)=1 by omega]
   rfl
  ·rw[show decide ((a:Int)-(b:Int)-((1-c:Nat):Int)<0)=false by rw[decide_eq_false_iff_not];exact hn,eO,n6 (by decide) (by rw[dc,aT];omega),aU,aW (by omega)]
   rw[show(a:Int)-(b:Int)-((1-c:Nat):Int)=(((a+(65536-1-b)+c)%65536:Nat):Int) by omega,show(1-(a+(65536-1-b)+c)/65536)=0 by omega]
   rfl
 ·simp
 ·rw[jR _ (by rw[aT];omega),aU,n7 (by decide) (by omega)]
theorem vQ(l:List Nat)(hl:∀x∈l,x<65536)(hn:l.length≤3):di (zl l)=some ((fP l:Nat):Int):=by
 unfold di
 simp only[aU]
 have hV:fP l<65536^l.length:=eY l hl
 have hp:65536^l.length≤65536^3:=Nat.pow_le_pow_right (by decide) hn
 rw[show(65536:Nat)^3=281474976710656 by decide]at hp
 rw[dc,bT (by omega) (by omega)]
 refine aJ (fun j=>(((fP l/65536^(l.length-j):Nat):Int),(l.length:Int)-1-(j:Int))) l.length ((fP l:Nat):Int) ?_ (fun j hj=>?_) ?_ rfl
 ·rw[show l.length-0=l.length by omega,Nat.div_eq_of_lt hV];simp
 ·obtain⟨m,hm⟩:∃m,l.length=m+j+1:=⟨l.length-j-1,by omega⟩
  have hg:=kH hl (i:=m) (by omega)
  have hst:=za 65536 (fP l) m
  have VP:fP l/65536^m≤fP l:=Nat.div_le_self _ _
  rw[show l.length-j=m+1 by omega,show l.length-(j+1)=m by omega,show(l.length:Int)-1-(j:Int)=(m:Int) by omega,show(l.length:Int)-1-((j+1:Nat):Int)=(m:Int)-1 by omega]
  have hd:=Nat.mod_lt (fP l/65536^m) (show 0<65536 by decide)
  simp only[]
  rw[show decide ((0:Int)≤(m:Int))=true by simp,dR,aQ (xP hg),aU]
  generalize fP l/65536^(m+1)=c at*
  generalize fP l/65536^m=d at*
  rw[bT (x:=(c:Int)*65536) (by omega) (by omega),bT (x:=(c:Int)*65536+((d%65536:Nat):Int)) (by omega) (by omega),bT (x:=(m:Int)-1) (by omega) (by omega),show(c:Int)*65536+((d%65536:Nat):Int)=(d:Int) by omega]
 ·simp only[]
  rw[show decide ((0:Int)≤(l.length:Int)-1-(l.length:Int))=false by rw[decide_eq_false_iff_not];omega,eO,Nat.sub_self,Nat.pow_zero,Nat.div_one]
theorem DA(x:Nat)(hx:x<281474976710656):iL (x:Int)=some (zl (can 65536 x)):=by
 unfold iL
 simp only[aU]
 rw[tm,td,fO (by omega),tm,td,fO (by omega)]
 have:[((x%65536:Nat):Int),((x/65536%65536:Nat):Int),((x/65536/65536:Nat):Int)]=zl [x%65536,x/65536%65536,x/65536/65536]:=rfl
 rw[this,jR _ (by simp),aU,jP (B:=65536) (by decide) (by intro y hy;simp at hy;omega)]
 congr 3
 simp[val]
 omega
theorem An(l:List Nat)(f:Nat)(hl:GH l)(hf:f<65536):dj (zl l) (f:Int)=some (zl (can 65536 (fP l*f))):=by
 unfold dj
 have h1:=sZ hl
 have hm:=hl.2
 have a1:=A5 hl.1
 rw[dc]
 generalize fP l=V at*
 have vW:=fun i=>QY (B:=65536) (V:=V) (f:=f) (e:=0) (by decide) hf (by decide) i
 refine fD (fun s=>∃i:Nat,s=(((sC 65536 V f 0 i:Nat):Int),(i:Int),zl (dy 65536 i (V*f)))∧i≤l.length+1) (fun e=>∃i,e=zl (dy 65536 i (V*f))∧V*f<65536^i∧i≤l.length+1) (fun s=>l.length+1-s.2.1.toNat) ?_ ⟨0,by rw[Gz];rfl,by omega⟩ ?_
 ·rintro _ ⟨i,rfl,hi⟩
  have hc:=vW i
  have hc1:=vW (i+1)
  have NL:=GA (B:=65536) (by decide) V f 0 i
  have Eo:=KT (B:=65536) (by decide) V f 0 i
  have d1:=Nat.mod_lt (V/65536^i) (show 0<65536 by decide)
  have hp:V/65536^i%65536*f≤65535*65535:=Nat.mul_le_mul (by omega) (by omega)
  rw[Nat.add_zero]at Eo
  simp only[aU,bD]
  have yd:∀(K:Bool→Option ((Int×Int×List Int)⊕List Int)),(((bif decide ((i:Int)<(l.length:Int))then some true else some (decide ((0:Int)<((sC 65536 V f 0 i:Nat):Int)))):Option Bool).bind K)=K (decide (i<l.length∨0<sC 65536 V f 0 i)):=by
   intro K
   by_cases q1:i<l.length
   ·simp[q1]
   ·simp[q1]
  rw[yd]
  by_cases Jq:i<l.length∨0<sC 65536 V f 0 i
  ·left
   have hi':i<l.length+1:=by
    rcases Nat.lt_or_ge i (l.length+1)with h|h
    ·exact h
    ·have hie:i=l.length+1:=by omega
     have g3:=KU (B:=65536) (V:=V) (f:=f) (e:=0) (i:=i) (Nat.lt_of_lt_of_le h1 (Nat.pow_le_pow_right (by decide) (by omega)))
     rw[Nat.add_zero,Nat.div_eq_of_lt]at g3
     ·omega
     ·rw[hie,Nat.pow_succ];exact Nat.mul_lt_mul'' h1 hf
   rw[show decide (i<l.length∨0<sC 65536 V f 0 i)=true by rw[decide_eq_true_eq];exact Jq,dR,a1,aU,←Int.natCast_mul,fO (by omega),kG (by omega),tm,td,NL,Eo,n6 (by decide) (by rw[dc,aT];omega),aU,fO (by omega),aW (by omega)]
   refine⟨_,rfl,⟨i+1,?_,by omega⟩,by simp only[];omega⟩
   rw[hG,GG,KY]
  ·right
   rw[show decide (i<l.length∨0<sC 65536 V f 0 i)=false by rw[decide_eq_false_iff_not];exact Jq,eO]
   refine⟨_,rfl,i,rfl,?_,hi⟩
   have g3:=KU (B:=65536) (V:=V) (f:=f) (e:=0) (i:=i) (Nat.lt_of_lt_of_le h1 (Nat.pow_le_pow_right (by decide) (by omega)))
   rw[Nat.add_zero]at g3
   rcases Nat.lt_or_ge (V*f) (65536^i)with h|h
   ·exact h
   ·have:=Nat.div_pos h (Nat.pow_pos (by decide));omega
 ·rintro _ ⟨i,rfl,hlt,hi⟩
  rw[jR _ (by rw[aT];omega),aU,n7 (by decide) hlt]
end Go.Proofs.YtfoldppidpmchaaGreat
namespace Go.Proofs.YtfoldppidpmchaaGreat
open Go.Fw
theorem bW(v:Nat):fP (can 65536 v)=v:=ke (by decide) v
theorem GL{v n:Nat}(h:v<65536^n)(hn:n≤100000000000):GH (can 65536 v):=⟨fun _ hx=>eP (by decide) hx,Nat.le_trans ((bg (by decide)).2 h) hn⟩
theorem Tr(l k:List Nat)(hl:GH l)(hk:GH k)(hs:l.length+k.length≤90000000000):nR (zl l) (zl k)=some (zl (can 65536 (fP l*fP k))):=by
 unfold nR
 have hV:=sZ hl
 have hW:=sZ hk
 simp only[aU]
 rw[dc,dc,kG (by omega)]
 by_cases h3:l.length+k.length≤3
 ·rw[show decide (((l.length+k.length:Nat):Int)≤3)=true by rw[decide_eq_true_eq];omega,dR,vQ l hl.1 (by omega),aU,vQ k hk.1 (by omega),aU,←Int.natCast_mul]
  have hlt:fP l*fP k<281474976710656:=by
   have h1:fP l*fP k<65536^l.length*65536^k.length:=Nat.mul_lt_mul'' hV hW
   rw[←Nat.pow_add]at h1
   have h2:65536^(l.length+k.length)≤65536^3:=Nat.pow_le_pow_right (by decide) h3
   rw[show(65536:Nat)^3=281474976710656 by decide]at h2
   omega
  rw[fO (by omega),DA _ hlt,aU]
 ·rw[show decide (((l.length+k.length:Nat):Int)≤3)=false by rw[decide_eq_false_iff_not];omega,eO,bT (by omega) (by omega)]
  refine fD (fun s=>∃(u:List Nat) (m:Nat),s=(zl u,(m:Int)-1)∧m≤l.length∧(∀x∈u,x<65536)∧fP u=fP l/65536^m*fP k∧u.length+m≤l.length+k.length) (fun e=>∃u:List Nat,e=zl u∧(∀x∈u,x<65536)∧fP u=fP l*fP k∧u.length≤l.length+k.length) (fun s=>(s.2+1).toNat) ?_ ⟨[],l.length,rfl,Nat.le_refl _,by simp,by rw[Nat.div_eq_of_lt hV];simp[fP,val],by simp⟩ ?_
  ·rintro _ ⟨u,m,rfl,hm,hu,huv,hul⟩
   simp only[]
   rcases m with _|m
   ·right
    refine⟨_,rfl,u,rfl,hu,?_,by omega⟩
    rw[huv,Nat.pow_zero,Nat.div_one]
   ·left
    have hg:=kH hl.1 (i:=m) (by omega)
    obtain⟨d,hd⟩:∃d,fP l/65536^m%65536=d:=⟨_,rfl⟩
    have VP:d<65536:=by rw[←hd];exact Nat.mod_lt _ (by decide)
    rw[show val 65536 l/65536^m%65536=d from hd]at hg
    have hst:=za 65536 (fP l) m
    rw[hd]at hst
    have hgi:=aQ (xP hg)
    have hA:fP l/65536^m<65536^(l.length-m):=by
     rw[Nat.div_lt_iff_lt_mul (Nat.pow_pos (by decide)),←Nat.pow_add,show l.length-m+m=l.length by omega];exact hV
    have hAW:fP l/65536^m*fP k<65536^(l.length-m+k.length):=by rw[Nat.pow_add];exact Nat.mul_lt_mul'' hA hW
    rw[show((m+1:Nat):Int)-1=(m:Int) by omega,show decide ((0:Int)≤(m:Int))=true by simp,dR,SW (by decide) (by rw[dc];simp;omega),aU]
    have h0:[(0:Int)]++zl u=zl (0::u):=rfl
    have hv0:fP (0::u)=65536*(fP l/65536^(m+1))*fP k:=by
     show 0+65536*fP u=_
     rw[huv,Nat.zero_add,Nat.mul_assoc]
    rw[h0]
    refine(show ∀(X:Option ((List Int×Int)⊕List Int)),(∃w:List Nat,X=some (.inl (zl w,IntKind.i64.wrap ((m:Int)-1)))∧(∀x∈w,x<65536)∧fP w=fP l/65536^m*fP k∧w.length+m≤l.length+k.length)→∃s',X=some (.inl s')∧(∃(u:List Nat) (m:Nat),s'=(zl u,(m:Int)-1)∧m≤l.length∧(∀x∈u,x<65536)∧fP u=fP l/65536^m*fP k∧u.length+m≤l.length+k.length)∧(s'.2+1).toNat<((m:Int)+1).toNat from ?_) _ ?_
    ·rintro X ⟨w,rfl,hw,hwv,hwl⟩
     rw[bT (by omega) (by omega)]
     exact⟨_,rfl,⟨w,m,rfl,by omega,hw,hwv,hwl⟩,by simp only[];omega⟩
    ·have abw:=j1 (body:=fun(CX:(List Int)×Int)=>
         match CX with
         |⟨CY,AU⟩=>
          (show Option (((List Int)×Int)⊕((List Int)))from
           (bR (zl l) (m:Int)).bind fun lI=>
           (bif decide ((AU:Int)<lI)then
             (bR (zl l) (m:Int)).bind fun rV=>
             (dj (zl k) (min (1024:Int) (IntKind.i64.wrap (rV-AU)))).bind fun tg=>
             (gi CY tg).bind fun ug=>
             some (.inl (ug,IntKind.i64.wrap (AU+1024)))
            else
             some (.inr CY)))) (s:=(zl (0::u),(0:Int))) (f:=fun yO=>(some (.inl (yO,IntKind.i64.wrap ((m:Int)-1))):Option ((List Int×Int)⊕List Int)))
      (Q:=fun r=>∃w:List Nat,r=.inl (zl w,IntKind.i64.wrap ((m:Int)-1))∧(∀x∈w,x<65536)∧fP w=fP l/65536^m*fP k∧w.length+m≤l.length+k.length)
      (fun s=>∃(w:List Nat) (j:Nat),s=(zl w,(j:Int))∧(∀x∈w,x<65536)∧j≤70000∧fP w=(65536*(fP l/65536^(m+1))+min j d)*fP k∧w.length+m≤l.length+k.length)
      (fun e=>∃w:List Nat,e=zl w∧(∀x∈w,x<65536)∧fP w=fP l/65536^m*fP k∧w.length+m≤l.length+k.length) (fun s=>(70000-s.2).toNat) ?_ ⟨0::u,0,rfl,by simp;exact hu,by omega,by rw[hv0];simp,by simp;omega⟩ ?_
     ·obtain⟨r,h1,w,rfl,h2,h3,h4⟩:=abw
      exact⟨w,h1,h2,h3,h4⟩
     ·rintro _ ⟨w,j,rfl,hw,hj,hwv,hwl⟩
      simp only[]
      rw[hgi,aU]
      by_cases MP:j<d
      ·left
       rw[show decide ((j:Int)<(d:Int))=true by simp[MP],dR,aU,bT (by omega) (by omega)]
       obtain⟨f,hf⟩:∃f,min 1024 (d-j)=f:=⟨_,rfl⟩
       obtain⟨j',hj',hj2⟩:∃j':Nat,(j:Int)+1024=(j':Int)∧j'=j+1024:=⟨j+1024,by omega,rfl⟩
       have hmu:(70000-(j':Int)).toNat<(70000-(j:Int)).toNat:=by omega
       have hwH:GH w:=⟨hw,by omega⟩
       have aio:65536*(fP l/65536^(m+1))+min j d+f≤fP l/65536^m:=by omega
       have aip:fP w+fP k*f≤fP l/65536^m*fP k:=by
        rw[hwv,Nat.mul_comm (fP k),←Nat.add_mul];exact Nat.mul_le_mul_right _ aio
       have htl:fP k*f<65536^(k.length+1):=by rw[Nat.pow_succ];exact Nat.mul_lt_mul'' hW (by omega)
       rw[show min (1024:Int) ((d:Int)-(j:Int))=(f:Int) by omega,An _ _ hk (by omega),aU,GK _ _ hwH (GL htl (by omega)),aU,bW,hj',fO (by omega)]
       refine⟨_,rfl,⟨_,j',rfl,fun _ hx=>eP (by decide) hx,by omega,?_,?_⟩,hmu⟩
       ·rw[bW,hwv,Nat.mul_comm (fP k),←Nat.add_mul];congr 1;omega
       ·have:=(bg (B:=65536) (by decide)).2 (Nat.lt_of_le_of_lt aip hAW)
        omega
      ·right
       rw[show decide ((j:Int)<(d:Int))=false by rw[decide_eq_false_iff_not];omega,eO]
       refine⟨_,rfl,w,rfl,hw,?_,hwl⟩
       rw[hwv,show min j d=d by omega,←hst]
     ·rintro _ ⟨w,rfl,h1,h2,h3⟩
      exact⟨_,rfl,w,rfl,h1,h2,h3⟩
  ·rintro _ ⟨u,rfl,hu,huv,hul⟩
   rw[jR _ (by omega),aU,jP (by decide) hu,show val 65536 u=fP l*fP k from huv]
end Go.Proofs.YtfoldppidpmchaaGreat
namespace Go.Proofs.YtfoldppidpmchaaGreat
open Go.Fw
theorem td2{a:Nat}:Int.tdiv (a:Int) 2=((a/2:Nat):Int):=by
 rw[Int.tdiv_eq_ediv_of_nonneg (by omega)];omega
theorem Ts(a b:Nat):decide (xM a b≤0)=decide (a≤b):=by
 rcases Nat.lt_trichotomy a b with h|h|h
 ·rw[qJ h];simp;omega
 ·rw[h,vL];simp
 ·rw[sY h];simp;omega
theorem Rj{B:Nat}(hB:0<B){d:Nat}(hd:0<d)(V m:Nat):(V/B^(m+1)%d*B+V/B^m%B)/d=V/d/B^m%B:=by
 have h1:=VK (B:=B) hd V m
 have h2:=S7 (B:=B) hB hd V m
 rw[Nat.div_div_eq_div_mul V d,Nat.mul_comm d,←Nat.div_div_eq_div_mul,h1,Nat.mul_add_mod]
 symm
 apply Nat.mod_eq_of_lt
 rw[Nat.div_lt_iff_lt_mul hd,Nat.mul_comm B d];exact h2
theorem Je{a b:Nat}(h:b≠0)(ha:a≤9223372036854775807):tG (a:Int) (b:Int)=some ((a/b:Nat):Int):=by
 unfold tG
 rw[if_neg (by omega),Int.tdiv_eq_ediv_of_nonneg (by omega),←Int.natCast_ediv,fO (Nat.le_trans (Nat.div_le_self _ _) ha)]
theorem Jf{a b:Nat}(h:b≠0):DQ (a:Int) (b:Int)=some ((a%b:Nat):Int):=by
 unfold DQ
 rw[if_neg (by omega),Int.tmod_eq_emod_of_nonneg (by omega),←Int.natCast_emod]
theorem Rk(n:Nat):List.replicate n (0:Int)=zl (dy 65536 n 0):=by rw[rQ,zl,List.map_replicate];rfl
theorem Jg{W X:Nat}(hW:0<W){k:List Nat}(hk:GH k)(hkv:fP k=W){xs:List Nat}(hx:GH xs)(hxv:fP xs=X)(H:Nat)(hH:0<H)(hH2:H≤65536)(hXH:X<H*W){R:Type}(f:Int→Option R)(r:R)(hf:f ((X/W:Nat):Int)=some r)(Li:k.length≤90000000000):
  (bk (fun(Vc:Int×Int)=>
               match Vc with
               |⟨l9,pL⟩=>
                (show Option ((Int×Int)⊕(Int))from
                 (bif(decide ((1:Int)<(IntKind.i64.wrap (pL-l9))))then
                   (dj (zl k) (IntKind.i64.wrap (Int.tdiv (IntKind.i64.wrap (l9+pL)) 2))).bind fun JQ=>
                   (iu JQ (zl xs)).bind fun JR=>
                   (bif(decide ((JR:Int)≤0))then
                     some (.inl (IntKind.i64.wrap (Int.tdiv (IntKind.i64.wrap (l9+pL)) 2),pL))
                    else
                     some (.inl (l9,IntKind.i64.wrap (Int.tdiv (IntKind.i64.wrap (l9+pL)) 2))))
                  else
                   some (.inr l9)))) ((0:Int),(H:Int))).bind f=some r:=by
 refine fD (fun s=>∃lo hi:Nat,s=((lo:Int),(hi:Int))∧lo<hi∧hi≤65536∧lo*W≤X∧X<hi*W) (fun e=>e=((X/W:Nat):Int)) (fun s=>(s.2-s.1).toNat) ?_ ⟨0,H,rfl,hH,hH2,by simp,hXH⟩ (fun e he=>by rw[he];exact hf)
 rintro _ ⟨lo,hi,rfl,h1,h2,h3,h4⟩
 simp only[]
 rw[bT (x:=(hi:Int)-(lo:Int)) (by omega) (by omega)]
 by_cases Jq:1<hi-lo
 ·left
  obtain⟨mid,aiq⟩:∃mid,(lo+hi)/2=mid:=⟨_,rfl⟩
  have hml:fP k*mid<65536^(k.length+1):=by rw[Nat.pow_succ];exact Nat.mul_lt_mul'' (sZ hk) (by omega)
  rw[show decide ((1:Int)<(hi:Int)-(lo:Int))=true by rw[decide_eq_true_eq];omega,dR,kG (by omega),td2,aiq,fO (by omega),An _ _ hk (by omega),aU,GJ _ _ (GL hml (by omega)) hx,aU,Ts,bW,hkv,hxv]
  by_cases hle:W*mid≤X
  ·rw[show decide (W*mid≤X)=true by simp[hle],dR]
   exact⟨_,rfl,⟨mid,hi,rfl,by omega,h2,by rw[Nat.mul_comm];exact hle,h4⟩,by simp only[];omega⟩
  ·rw[show decide (W*mid≤X)=false by simp;omega,eO]
   exact⟨_,rfl,⟨lo,mid,rfl,by omega,by omega,h3,by rw[Nat.mul_comm];omega⟩,by simp only[];omega⟩
 ·right
  rw[show decide ((1:Int)<(hi:Int)-(lo:Int))=false by rw[decide_eq_false_iff_not];omega,eO]
  refine⟨_,rfl,?_⟩
  have:hi=lo+1:=by omega
  subst this
  have:X/W=lo:=by
   rw[Nat.div_eq_iff hW]
   rw[Nat.add_mul,Nat.one_mul]at h4
   omega
  rw[this]
theorem Mt(V W:Nat)(hW:W≠0)(hV:(can 65536 V).length≤80000000000)(hWl:(can 65536 W).length≤80000000000):lu (zl (can 65536 V)) (zl (can 65536 W))=some (zl (can 65536 (V/W)),zl (can 65536 (V%W))):=by
 have Ab:GH (can 65536 V):=⟨fun _ hx=>eP (by decide) hx,by omega⟩
 have Tt:GH (can 65536 W):=⟨fun _ hx=>eP (by decide) hx,by omega⟩
 have hVl:=bH (B:=65536) (by decide) V
 have Tu:=bH (B:=65536) (by decide) W
 have Tv:0<W:=by omega
 unfold lu
 simp only[aU,bD,dc]
 obtain⟨n,hn⟩:∃n,(can 65536 V).length=n:=⟨_,rfl⟩
 by_cases h3:n≤3∧(can 65536 W).length≤3
 ·rw[hn,show decide ((n:Int)≤3)=true by rw[decide_eq_true_eq];omega,dR,aU,show decide (((can 65536 W).length:Int)≤3)=true by rw[decide_eq_true_eq];omega,dR,vQ _ Ab.1 (by omega),aU,vQ _ Tt.1 (by omega),aU,bW,bW]
  have hp:V<281474976710656:=by
   rw[hn]at hVl
   have h2:65536^n≤65536^3:=Nat.pow_le_pow_right (by decide) h3.1
   rw[show(65536:Nat)^3=281474976710656 by decide]at h2
   omega
  have hq:V/W≤V:=Nat.div_le_self _ _
  have hr:V%W≤V:=Nat.mod_le _ _
  rw[Je hW (by omega),aU,DA _ (by omega),aU,aU,aU,Jf hW,aU,DA _ (by omega),aU]
 ·have yd:(((bif decide ((n:Int)≤3)then some (decide (((can 65536 W).length:Int)≤3))else some false):Option Bool))=some false:=by
   by_cases q1:n≤3
   ·have q2:¬(can 65536 W).length≤3:=fun h=>h3 ⟨q1,h⟩
    rw[show decide (((can 65536 W).length:Int)≤3)=false by rw[decide_eq_false_iff_not];omega]
    exact zh _ _
   ·rw[show decide ((n:Int)≤3)=false by rw[decide_eq_false_iff_not];omega,eO]
  rw[hn]at hVl hV
  have hQ:V/W<65536^n:=Nat.lt_of_le_of_lt (Nat.div_le_self _ _) hVl
  rw[hn,yd,aU,eO,sQ (by decide) (by omega),aU,Rk]
  have hlen:(can 65536 W).length≠0:=fun e=>hW (y7 (by decide) (List.length_eq_zero_iff.1 e))
  by_cases h1:(can 65536 W).length=1
  ·have hWs:W<65536:=by rw[h1]at Tu;simpa using Tu
   have hg0:(can 65536 W)[0]? =some W:=by rw[vJ (by decide) (by omega)];simp;exact hWs
   have hgw:=vI (xP hg0)
   rw[h1,show decide (((1:Nat):Int)=1)=true by simp,dR,bT (by omega) (by omega)]
   refine aJ (fun j=>(((V/65536^(n-j)%W:Nat):Int),(n:Int)-1-(j:Int),zl (dy 65536 n (V/W/65536^(n-j)*65536^(n-j))))) n (((V%W:Nat):Int),zl (dy 65536 n (V/W))) ?_ (fun j hj=>?_) ?_ ?_
   ·rw[Nat.sub_zero,Nat.div_eq_of_lt hVl,Nat.div_eq_of_lt hQ];simp
   ·obtain⟨m,hm⟩:∃m,n=m+j+1:=⟨n-j-1,by omega⟩
    have hg:(can 65536 V)[m]? =some (V/65536^m%65536):=vJ (by decide) (by omega)
    have KS:=Rj (B:=65536) (by decide) Tv V m
    have I2:=QZ (B:=65536) (d:=W) V m
    have hrl:=Nat.mod_lt (V/65536^(m+1)) Tv
    have VP:=Nat.mod_lt (V/65536^m) (show 0<65536 by decide)
    have hput:=GF (B:=65536) (by decide) (N:=n) (k:=m) (by omega) (V/W)
    rw[show n-j=m+1 by omega,show n-(j+1)=m by omega,show(n:Int)-1-(j:Int)=(m:Int) by omega,show(n:Int)-1-((j+1:Nat):Int)=(m:Int)-1 by omega]
    simp only[]
    rw[show decide ((0:Int)≤(m:Int))=true by simp,dR,aQ (xP hg),aU,hgw,aU]
    rw[←KS]at hput
    rw[I2,←hput]
    generalize V/65536^(m+1)%W=r at*
    generalize V/65536^m%65536=d at*
    rw[bT (x:=(r:Int)*65536) (by omega) (by omega),bT (x:=(r:Int)*65536+(d:Int)) (by omega) (by omega),show(r:Int)*65536+(d:Int)=((r*65536+d:Nat):Int) by omega,Je hW (by omega),aU,aU,Jf hW,aU,eX (by rw[dc,aT];omega),aU,je (by rw[dc,aT];omega),aU,bT (x:=(m:Int)-1) (by omega) (by omega),Rc]
   ·simp only[]
    rw[show decide ((0:Int)≤(n:Int)-1-(n:Int))=false by rw[decide_eq_false_iff_not];omega,eO,Nat.sub_self,Nat.pow_zero,Nat.mul_one,Nat.div_one,Nat.div_one]
   ·simp only[]
    rw[jR _ (by rw[aT];omega),aU,n7 (by decide) hQ,show[((V%W:Nat):Int)]=zl [V%W]from rfl,jR _ (by simp),aU]
    have hr:=Nat.mod_lt V Tv
    rw[jP (B:=65536) (l:=[V%W]) (by decide) (by intro y hy;simp at hy;omega)]
    simp[val]
  ·rw[show decide (((can 65536 W).length:Int)=1)=false by rw[decide_eq_false_iff_not];omega,eO,bT (by omega) (by omega)]
   refine aJ (fun j=>(zl (can 65536 (V/65536^(n-j)%W)),(n:Int)-1-(j:Int),zl (dy 65536 n (V/W/65536^(n-j)*65536^(n-j))))) n (zl (can 65536 (V%W)),zl (dy 65536 n (V/W))) ?_ (fun j hj=>?_) ?_ ?_
   ·rw[Nat.sub_zero,Nat.div_eq_of_lt hVl,Nat.div_eq_of_lt hQ];simp[pQ,zl]
   ·obtain⟨m,hm⟩:∃m,n=m+j+1:=⟨n-j-1,by omega⟩
    have hg:(can 65536 V)[m]? =some (V/65536^m%65536):=vJ (by decide) (by omega)
    have KS:=Rj (B:=65536) (by decide) Tv V m
    have I2:=QZ (B:=65536) (d:=W) V m
    have hrl:=Nat.mod_lt (V/65536^(m+1)) Tv
    have VP:=Nat.mod_lt (V/65536^m) (show 0<65536 by decide)
    have hXW:=S7 (B:=65536) (by decide) Tv V m
    have hput:=GF (B:=65536) (by decide) (N:=n) (k:=m) (by omega) (V/W)
    rw[show n-j=m+1 by omega,show n-(j+1)=m by omega,show(n:Int)-1-(j:Int)=(m:Int) by omega,show(n:Int)-1-((j+1:Nat):Int)=(m:Int)-1 by omega]
    simp only[]
    rw[←KS]at hput
    rw[I2,←hput,show decide ((0:Int)≤(m:Int))=true by simp,dR,aQ (xP hg),aU]
    generalize V/65536^(m+1)%W=r at*
    generalize V/65536^m%65536=d at*
    obtain⟨X,hX⟩:∃X,r*65536+d=X:=⟨_,rfl⟩
    rw[hX]at hXW⊢
    have hrc:(can 65536 r).length≤(can 65536 W).length:=(bg (by decide)).2 (Nat.lt_trans hrl Tu)
    have ZL:(can 65536 X).length≤(can 65536 W).length+1:=(bg (by decide)).2 (by rw[Nat.pow_succ];exact Nat.lt_trans hXW (Nat.mul_lt_mul_of_pos_right Tu (by decide)))
    have hval:val 65536 (d::can 65536 r)=X:=by
     show d+65536*val 65536 (can 65536 r)=X
     rw[ke (by decide)];omega
    have xG:GH (can 65536 X):=⟨fun _ hx=>eP (by decide) hx,by omega⟩
    rw[SW (by decide) (by rw[dc];simp;omega),aU,show[(d:Int)]++zl (can 65536 r)=zl (d::can 65536 r)from rfl,jR _ (by simp;omega),aU,jP (B:=65536) (by decide) (by intro y hy;simp at hy;rcases hy with rfl|hy;exact VP;exact eP (by decide) hy),hval]
    have hqW:W*(X/W)≤X:=Nat.mul_div_le X W
    have air:X/W<65536:=by rw[Nat.div_lt_iff_lt_mul Tv,Nat.mul_comm];exact hXW
    have Q8:((dj (zl (can 65536 W)) ((X/W:Nat):Int)).bind fun JS=>(fj (zl (can 65536 X)) JS).bind fun PZ=>(wC (zl (dy 65536 n (V/W/65536^(m+1)*65536^(m+1)))) (m:Int)).bind fun SE=>(stM (zl (dy 65536 n (V/W/65536^(m+1)*65536^(m+1)))) SE ((X/W:Nat):Int)).bind fun l58=>(some (.inl (PZ,IntKind.i64.wrap ((m:Int)-1),l58)):Option ((List Int×Int×List Int)⊕(List Int×List Int))))=some (.inl (zl (can 65536 (X%W)),(m:Int)-1,zl ((dy 65536 n (V/W/65536^(m+1)*65536^(m+1))).set m (X/W)))):=by
     rw[An _ _ Tt air,aU,bW,BJ _ _ xG (GL (Nat.lt_of_le_of_lt hqW (bH (by decide) X)) (by omega)) (by rw[bW,bW];exact hqW),aU,bW,bW,eX (by rw[dc,aT];omega),aU,je (by rw[dc,aT];omega),aU,bT (x:=(m:Int)-1) (by omega) (by omega),Rc,←Nat.mod_eq_sub_mul_div]
    rw[dc]
    by_cases hsh:(can 65536 X).length<(can 65536 W).length
    ·rw[show decide (((can 65536 X).length:Int)<((can 65536 W).length:Int))=true by rw[decide_eq_true_eq];omega,dR]
     exact Jg Tv Tt (bW W) xG (bW X) 1 (by decide) (by decide) (by rw[Nat.one_mul];exact xN (by decide) hsh) _ _ Q8 (by omega)
    ·rw[show decide (((can 65536 X).length:Int)<((can 65536 W).length:Int))=false by rw[decide_eq_false_iff_not];omega,eO]
     exact Jg Tv Tt (bW W) xG (bW X) 65536 (by decide) (by decide) (by rw[Nat.mul_comm];exact hXW) _ _ Q8 (by omega)
   ·simp only[]
    rw[show decide ((0:Int)≤(n:Int)-1-(n:Int))=false by rw[decide_eq_false_iff_not];omega,eO,Nat.sub_self,Nat.pow_zero,Nat.mul_one,Nat.div_one,Nat.div_one]
   ·simp only[]
    rw[jR _ (by rw[aT];omega),aU,n7 (by decide) hQ]
end Go.Proofs.YtfoldppidpmchaaGreat
namespace Go.Proofs.YtfoldppidpmchaaGreat
open Go.Fw
theorem zo{v:Nat}:(can 65536 v).length=0↔v=0:=by
 constructor
 ·intro h;exact y7 (by decide) (List.length_eq_zero_iff.1 h)
 ·intro h;rw[h,pQ];rfl
theorem xQ{v:Nat}(h:(can 65536 v).length≤100000000000):GH (can 65536 v):=⟨fun _ hx=>eP (by decide) hx,h⟩
theorem zq{x:Zr}(h:Wl x):c8 x=some (zi x).sign:=by
 unfold c8
 simp only[eK h,aU,dc]
 have hz:=zo (v:=(zi x).natAbs)
 have hneg:x.neg=true→zi x≤0:=fun e=>by unfold zi;rw[e];simp[sv]
 have hpos:x.neg=false→0≤zi x:=fun e=>by unfold zi;rw[e];simp[sv]
 by_cases h0:zi x=0
 ·rw[h0];rfl
 ·rw[show decide (((can 65536 (zi x).natAbs).length:Int)=0)=false by rw[decide_eq_false_iff_not];omega,eO]
  cases hn:x.neg
  ·have:=hpos hn
   rw[eO,Int.sign_eq_one_of_pos (by omega)]
  ·have:=hneg hn
   rw[dR,Int.sign_eq_neg_one_of_neg (by omega)]
theorem Tw{x y:Zr}(hx:Wl x)(hy:Wl y):nS x y=some (kR (zi x) (zi y)):=by
 have cx:=hx.NA
 have cy:=hy.NA
 unfold nS
 simp only[zeta',zq hx,zq hy,aU,eK hx,eK hy]
 rw[GJ _ _ (xQ (by omega)) (xQ (by omega)),bW,bW]
 simp only[aU]
 generalize zi x=i
 generalize zi y=j
 rw[Du]
 rcases Int.lt_trichotomy i 0 with h1|h1|h1<;>rcases Int.lt_trichotomy j 0 with h2|h2|h2
 ·rw[Int.sign_eq_neg_one_of_neg h1,Int.sign_eq_neg_one_of_neg h2,show(i.natAbs:Int)=-i by omega,show(j.natAbs:Int)=-j by omega,I4]
  show some (IntKind.i64.wrap (0-kR j i))=_
  rw[NB]
 ·rw[Int.sign_eq_neg_one_of_neg h1,show Int.sign j=0 by rw[h2];rfl,show kR i j=-1 from gP (by omega)];rfl
 ·rw[Int.sign_eq_neg_one_of_neg h1,Int.sign_eq_one_of_pos h2,show kR i j=-1 from gP (by omega)];rfl
 ·rw[show Int.sign i=0 by rw[h1];rfl,Int.sign_eq_neg_one_of_neg h2,show kR i j=1 from gQ (by omega)];rfl
 ·rw[h1,h2];rfl
 ·rw[show Int.sign i=0 by rw[h1];rfl,Int.sign_eq_one_of_pos h2,show kR i j=-1 from gP (by omega)];rfl
 ·rw[Int.sign_eq_one_of_pos h1,Int.sign_eq_neg_one_of_neg h2,show kR i j=1 from gQ (by omega)];rfl
 ·rw[Int.sign_eq_one_of_pos h1,show Int.sign j=0 by rw[h2];rfl,show kR i j=1 from gQ (by omega)];rfl
 ·rw[Int.sign_eq_one_of_pos h1,Int.sign_eq_one_of_pos h2,show(i.natAbs:Int)=i by omega,show(j.natAbs:Int)=j by omega];rfl
theorem Yu(x:Zr):sv x.neg (zi x).natAbs=zi x:=by rw[vo];rfl
theorem Mu{x:Zr}(hx:Wl x):lz x=some (zn (-zi x)):=by
 have cx:=hx.NA
 unfold lz
 simp only[aU,eK hx]
 rw[ot _ _ (by omega),aU,Dt,Yu]
theorem Tx{x:Zr}(hx:Wl x):nT x=some (zn ((zi x).natAbs:Int)):=by
 have cx:=hx.NA
 unfold nT
 simp only[aU,eK hx]
 rw[ot _ _ (by omega),aU,jQ]
theorem Ty{x y:Zr}(hx:Wl x)(hy:Wl y):nU x y=some (zn (zi x+zi y)):=by
 have cx:=hx.NA
 have cy:=hy.NA
 unfold nU
 simp only[aU,eK hx,eK hy]
 have ex:=Yu x
 have ey:=Yu y
 generalize (zi x).natAbs=a at*
 generalize (zi y).natAbs=b at*
 have la:=bH (B:=65536) (by decide) a
 have lb:=bH (B:=65536) (by decide) b
 rw[←ex,←ey]
 generalize x.neg=n
 generalize y.neg=m
 by_cases hnm:n=m
 ·subst hnm
  have hl:(can 65536 (a+b)).length≤max (can 65536 a).length (can 65536 b).length+1:=by
   apply(bg (by decide)).2
   have h1:a<65536^max (can 65536 a).length (can 65536 b).length:=Nat.lt_of_lt_of_le la (Nat.pow_le_pow_right (by decide) (by omega))
   have h2:b<65536^max (can 65536 a).length (can 65536 b).length:=Nat.lt_of_lt_of_le lb (Nat.pow_le_pow_right (by decide) (by omega))
   rw[Nat.pow_succ];omega
  rw[show(n==n)=true by simp,dR,GK _ _ (xQ (by omega)) (xQ (by omega)),aU,bW,bW,ot _ _ (by omega),aU,show sv n (a+b)=sv n a+sv n b by cases n<;>simp[sv];omega]
 ·have hm:m= !n:=by cases n<;>cases m<;>simp_all
  subst hm
  rw[show(n== !n)=false by cases n<;>rfl,eO,GJ _ _ (xQ (by omega)) (xQ (by omega)),aU,bW,bW]
  by_cases hlt:b≤a
  ·have hc:decide ((0:Int)≤xM a b)=true:=by
    rw[decide_eq_true_eq]
    rcases Nat.lt_or_ge b a with h|h
    ·rw[sY h];decide
    ·rw[show a=b by omega,vL];decide
   have hl:(can 65536 (a-b)).length≤(can 65536 a).length:=(bg (by decide)).2 (by omega)
   rw[hc,dR,BJ _ _ (xQ (by omega)) (xQ (by omega)) (by rw[bW,bW];exact hlt),aU,bW,bW,ot _ _ (by omega),aU,show sv n (a-b)=sv n a+sv (!n) b by cases n<;>simp[sv]<;>omega]
  ·have hc:decide ((0:Int)≤xM a b)=false:=by rw[qJ (by omega)];decide
   have hl:(can 65536 (b-a)).length≤(can 65536 b).length:=(bg (by decide)).2 (by omega)
   rw[hc,eO,BJ _ _ (xQ (by omega)) (xQ (by omega)) (by rw[bW,bW];omega),aU,bW,bW,ot _ _ (by omega),aU,show sv (!n) (b-a)=sv n a+sv (!n) b by cases n<;>simp[sv]<;>omega]
theorem zu{x y:Zr}(hx:Wl x)(hy:Wl y):gj x y=some (zn (zi x*zi y)):=by
 have cx:=hx.NA
 have cy:=hy.NA
 unfold gj
 simp only[aU,eK hx,eK hy]
 have ex:=Yu x
 have ey:=Yu y
 generalize (zi x).natAbs=a at*
 generalize (zi y).natAbs=b at*
 have la:=bH (B:=65536) (by decide) a
 have lb:=bH (B:=65536) (by decide) b
 have hl:(can 65536 (a*b)).length≤(can 65536 a).length+(can 65536 b).length:=by
  apply(bg (by decide)).2
  rw[Nat.pow_add];exact Nat.mul_lt_mul'' la lb
 rw[Tr _ _ (xQ (by omega)) (xQ (by omega)) (by omega),aU,bW,bW,ot _ _ (by omega),aU,KX,ex,ey]
theorem Mw{x y:Zr}(hx:Wl x)(hy:Wl y):lC x y=some (I5 (zi x) (zi y)):=by
 have cx:=hx.NA
 have cy:=hy.NA
 unfold lC
 simp only[aU,bD,eK hx,eK hy,dc]
 have ex:=Yu x
 have ey:=Yu y
 generalize (zi x).natAbs=a at*
 generalize (zi y).natAbs=b at*
 rw[←ex,←ey]
 generalize x.neg=n
 generalize y.neg=m
 by_cases h0:b=0
 ·subst h0
  rw[show sv m 0=0 by cases m<;>rfl];rfl
 ·have wG:(can 65536 b).length≠0:=fun h=>h0 (zo.1 h)
  have hm:a%b<b:=Nat.mod_lt _ (by omega)
  have la:=bH (B:=65536) (by decide) a
  have lb:=bH (B:=65536) (by decide) b
  obtain⟨e1,e2⟩:=Ra n m (a:=a) (show 0<b by omega)
  have hj:sv m b≠0:=by cases m<;>simp[sv]<;>omega
  have hq:(can 65536 (a/b)).length≤(can 65536 a).length:=(bg (by decide)).2 (Nat.lt_of_le_of_lt (Nat.div_le_self _ _) la)
  have hr:(can 65536 (a%b)).length≤(can 65536 b).length:=(bg (by decide)).2 (Nat.lt_trans hm lb)
  rw[show decide (((can 65536 b).length:Int)=0)=false by rw[decide_eq_false_iff_not];omega,eO,Mt a b h0 (by omega) (by omega),aU,I5,if_neg hj,e1,e2]
  simp only[dc]
  have hz:=zo (v:=a%b)
  have hK:∀c:Bool,(decide (n=true∧0<a%b)=c)→(bif c then(gi (zl (can 65536 (a/b))) [1]).bind fun oU=>(fj (zl (can 65536 b)) (zl (can 65536 (a%b)))).bind fun nA=>(cm (!(n==m)) oU).bind fun x=>(cm false nA).bind fun x_1=>some ((⟨x.neg,x.w⟩:Zr),(⟨x_1.neg,x_1.w⟩:Zr),(0:Int))
    else(cm (!(n==m)) (zl (can 65536 (a/b)))).bind fun x=>(cm false (zl (can 65536 (a%b)))).bind fun x_1=>some ((⟨x.neg,x.w⟩:Zr),(⟨x_1.neg,x_1.w⟩:Zr),(0:Int)))=
    some (zn (if n=true∧0<a%b then sv (!(n==m)) (a/b+1)else sv (!(n==m)) (a/b)),zn (if n=true∧0<a%b then((b-a%b:Nat):Int)else((a%b:Nat):Int)),0):=by
   intro c hc
   cases c
   ·have Rb:=of_decide_eq_false hc
    rw[eO,if_neg Rb,if_neg Rb,ot _ _ (by omega),aU,ot _ _ (by omega),aU,jQ]
   ·have Rb:=of_decide_eq_true hc
    have hq1:(can 65536 (a/b+1)).length≤(can 65536 a).length+1:=by
     apply(bg (by decide)).2
     have:a/b≤a:=Nat.div_le_self _ _
     rw[Nat.pow_succ];omega
    have hbr:(can 65536 (b-a%b)).length≤(can 65536 b).length:=(bg (by decide)).2 (by omega)
    rw[dR,if_pos Rb,if_pos Rb,show[(1:Int)]=zl [1]from rfl,GK _ _ (xQ (by omega)) ⟨by simp,by simp⟩,aU,bW,show fP [1]=1 by decide,BJ _ _ (xQ (by omega)) (xQ (by omega)) (by rw[bW,bW];omega),aU,bW,bW,ot _ _ (by omega),aU,ot _ _ (by omega),aU,jQ]
  cases n
  ·rw[eO,aU]
   exact hK false (by simp)
  ·rw[dR,aU]
   refine hK _ ?_
   simp only[true_and]
   by_cases h:0<a%b
   ·rw[show decide (0<a%b)=true by simp[h],show decide ((0:Int)<((can 65536 (a%b)).length:Int))=true by rw[decide_eq_true_eq];omega]
   ·rw[show decide (0<a%b)=false by simp[h],show decide ((0:Int)<((can 65536 (a%b)).length:Int))=false by rw[decide_eq_false_iff_not];omega]
end Go.Proofs.YtfoldppidpmchaaGreat
namespace Go.Proofs.YtfoldppidpmchaaGreat
open Go.Fw
theorem Tz{x y:Zr}(hx:Wl x)(hy:Wl y):nV x y=some (zn (Int.gcd (zi x) (zi y):Int)):=by
 have cx:=hx.NA
 have cy:=hy.NA
 unfold nV
 simp only[aU,eK hx,eK hy]
 rw[Int.gcd]
 generalize (zi x).natAbs=a at*
 generalize (zi y).natAbs=b at*
 refine fD (fun s=>∃c d,s=(zl (can 65536 c),zl (can 65536 d))∧Nat.gcd c d=Nat.gcd a b∧(can 65536 c).length≤20000000000∧(can 65536 d).length≤20000000000)
  (fun e=>e=zl (can 65536 (Nat.gcd a b))∧(can 65536 (Nat.gcd a b)).length≤20000000000) (fun s=>val 65536 (s.2.map Int.toNat)) ?_ ⟨a,b,rfl,rfl,cx,cy⟩ ?_
 ·rintro _ ⟨c,d,rfl,hg,hc,hd⟩
  simp only[dc]
  have hzl:∀l:List Nat,(zl l).map Int.toNat=l:=fun l=>by
   rw[zl,List.map_map]
   have:(Int.toNat∘fun(n:Nat)=>(n:Int))=id:=by funext n;simp
   rw[this,List.map_id]
  by_cases h0:d=0
  ·right
   subst h0
   rw[Nat.gcd_zero_right]at hg
   subst hg
   exact⟨_,rfl,rfl,hc⟩
  ·left
   have wG:(can 65536 d).length≠0:=fun h=>h0 (zo.1 h)
   have hm:c%d<d:=Nat.mod_lt _ (by omega)
   rw[show decide ((0:Int)<((can 65536 d).length:Int))=true by rw[decide_eq_true_eq];omega,dR,Mt c d h0 (by omega) (by omega),aU]
   refine⟨_,rfl,⟨d,c%d,rfl,?_,hd,?_⟩,?_⟩
   ·rw[←hg,Nat.gcd_comm d,←Nat.gcd_rec,Nat.gcd_comm]
   ·exact Nat.le_trans ((bg (by decide)).2 (Nat.lt_trans hm (bH (by decide) d))) hd
   ·simp only[]
    rw[hzl,hzl,ke (by decide),ke (by decide)];exact hm
 ·rintro _ ⟨rfl,hl⟩
  rw[ot _ _ (by omega),aU,jQ]
end Go.Proofs.YtfoldppidpmchaaGreat
namespace Go.Proofs.YtfoldppidpmchaaGreat
open Go.Fw
theorem Mx:lD=some (zn 1):=by
 unfold lD
 simp only[zeta',aU,from_eq (x:=1) (by decide)]
section ops
variable {L M:Nat}{a b:Qr}{x y:Rat}
theorem nc(h:dL L a x)(hL:L≤10000000000):∃n d:Int,eC a=some (zn n)∧dD a=some (zn d)∧0<d∧Rat.divInt n d=x∧Fit L n∧Fit L d:=by
 have wn:=h.wn hL
 have wd:=h.wd hL
 have hv:=h.v
 unfold eC dD
 simp only[zeta',aU,zq wd,Mx,Mu wn,Tx wd,I7 wn]
 unfold qv qd at hv
 rcases Int.lt_trichotomy (zi a.den) 0 with h1|h1|h1
 ·refine⟨-zi a.num,-zi a.den,?_,?_,by omega,?_,h.fn.neg,h.fd.neg⟩
  ·rw[Int.sign_eq_neg_one_of_neg h1];rfl
  ·rw[Int.sign_eq_neg_one_of_neg h1,show((zi a.den).natAbs:Int)=-zi a.den by omega];rfl
  ·rw[Rat.neg_divInt_neg,←hv,if_neg (by omega)]
 ·refine⟨zi a.num,1,?_,?_,by decide,?_,h.fn,zj h.l1⟩
  ·rw[h1];rfl
  ·rw[h1];rfl
  ·rw[←hv,if_pos h1]
 ·refine⟨zi a.num,zi a.den,?_,?_,h1,?_,h.fn,h.fd⟩
  ·rw[Int.sign_eq_one_of_pos h1];rfl
  ·rw[Int.sign_eq_one_of_pos h1,show((zi a.den).natAbs:Int)=zi a.den by omega];rfl
  ·rw[←hv,if_neg (by omega)]
theorem BK{n d:Int}(hn:Fit L n)(hd:Fit L d)(hL:L≤10000000000)(h:0<d):gp (zn n) (zn d)=some (qn (Rat.divInt n d)):=by
 have wn:=dG hn hL
 have wd:=dG hd hL
 have g0:(Int.gcd n d:Int)≠0:=by
  have:0<Int.gcd n d:=Int.gcd_pos_of_ne_zero_right _ (by omega)
  omega
 have wg:Wl (zn (Int.gcd n d:Int)):=dG (hd.le (by
  have:=Nat.le_of_dvd (Int.natAbs_pos.2 (show d≠0 by omega)) (Int.gcd_dvd_natAbs_right n d)
  simpa using this)) hL
 have wq:Wl (zn (d/(Int.gcd n d:Int))):=dG (hd.le (Int.natAbs_ediv_le_natAbs _ _)) hL
 have one:cP 1:=by decide
 unfold gp
 simp only[zeta',aU,Tz wn wd,Mw wn wg,Mw wd wg,Mx,dJ]
 rw[I5,if_neg g0,I5,if_neg g0]
 simp only[]
 rw[Tw wq (Rd one),aU,dJ,dJ,Ak h]
 by_cases e:d/(Int.gcd n d:Int)=1
 ·rw[e,oW,if_pos rfl];rfl
 ·have:kR (d/(Int.gcd n d:Int)) 1≠0:=by
   rcases Int.lt_trichotomy (d/(Int.gcd n d:Int)) 1 with q|q|q
   ·rw[gP q];decide
   ·exact absurd q e
   ·rw[gQ q];decide
  rw[decide_eq_false this,eO,if_neg e]
theorem dL.GM(ha:dL L a x)(h:L≤10000000000):dY a=some (qn x):=by
 obtain⟨n,d,e1,e2,h1,h2,f1,f2⟩:=nc ha h
 unfold dY
 simp only[zeta',mE,kD,e1,e2,aU,BK f1 f2 h h1,h2]
theorem Rl(h1:a.num.w.length≤100000000000)(h2:a.den.w.length≤100000000000):∃c,m8 a b=some c∧(c=true↔a=b):=by
 obtain⟨c1,e1,k1⟩:=Mn (x:=a.num) (y:=b.num) h1
 obtain⟨c2,e2,k2⟩:=Mn (x:=a.den) (y:=b.den) h2
 unfold m8
 simp only[zeta',aU,bD,e1,e2]
 have hab:a=b↔a.num=b.num∧a.den=b.den:=by
  constructor
  ·rintro rfl;exact⟨rfl,rfl⟩
  ·rintro⟨e1,e2⟩;rw[←kD a,←kD b,e1,e2]
 rw[hab,←k1,←k2]
 cases c1
 ·exact⟨false,rfl,by simp⟩
 ·exact⟨c2,rfl,by simp⟩
theorem dL.ris(ha:dL L (qn x) x)(h:L≤10000000000)(y:Rat):m8 (qn x) (qn y)=some (decide (x=y)):=by
 obtain⟨c,e,k⟩:=Rl (a:=qn x) (b:=qn y) (by have:=ha.ln;omega) (by have:=ha.ld;omega)
 rw[e]
 congr 1
 by_cases q:x=y
 ·rw[decide_eq_true q,k.2 (by rw[q])]
 ·rw[decide_eq_false q]
  cases c
  ·rfl
  ·exact absurd (Yr (k.1 rfl)) q
theorem BL{n:Int}(hn:cP n):iv n=some (qn (n:Rat)):=by
 unfold iv
 simp only[zeta',aU,from_eq hn]
 rw[Rg]
theorem Yv{n d:Int}(hn:cP n)(hd:cP d)(h0:d≠0):pN n d=some (qn (Rat.divInt n d)):=by
 unfold pN
 simp only[zeta',mE,kD,aU,from_eq hn,from_eq hd,(Jd h0 (oX hn) (oX hd) (by decide)).GM (by decide)]
theorem dL.TA(ha:dL L a x)(h:L≤10000000000):iw a=some (qn (-x)):=by
 obtain⟨n,d,e1,e2,h1,h2,f1,f2⟩:=nc ha h
 unfold iw
 simp only[zeta',mE,kD,e1,e2,aU,Mu (dG f1 h),dJ,BK f1.neg f2 h h1]
 rw[←Rat.neg_divInt,h2]
theorem dL.aby(ha:dL L a x)(hb:dL M b y)(h:L+M≤4000000000):jJ a b=some (qn (x+y)):=by
 obtain⟨n,d,e1,e2,h1,h2,f1,f2⟩:=nc ha (by omega)
 obtain⟨m,c,e3,e4,h3,h4,f3,f4⟩:=nc hb (by omega)
 unfold jJ
 have u1:=(f1.mul f4)
 have u2:=(f3.mul f2).mono (show M+L≤L+M by omega)
 simp only[zeta',mE,kD,e1,e2,e3,e4,aU,zu (dG f1 (by omega)) (dG f4 (by omega)),zu (dG f3 (by omega)) (dG f2 (by omega)),dJ,Ty (dG u1 (by omega)) (dG u2 (by omega)),zu (dG f2 (by omega)) (dG f4 (by omega)),BK (u1.add u2) ((f2.mul f4).mono (by omega)) (show L+M+1≤10000000000 by omega) (Int.mul_pos h1 h3)]
 rw[←h2,←h4,Rat.divInt_add_divInt _ _ (by omega) (by omega)]
theorem dL.ait(ha:dL L a x)(hb:dL M b y)(h:L+M≤4000000000):nW a b=some (qn (x-y)):=by
 unfold nW
 have r:dL M (qn (-y)) (-y):=hb.fq.neg.rep hb.l1
 simp only[zeta',mE,kD,hb.TA (by omega),aU,ha.aby r h]
 rw[←Rat.sub_eq_add_neg]
theorem dL.abz(ha:dL L a x)(hb:dL M b y)(h:L+M≤4000000000):jK a b=some (qn (x*y)):=by
 obtain⟨n,d,e1,e2,h1,h2,f1,f2⟩:=nc ha (by omega)
 obtain⟨m,c,e3,e4,h3,h4,f3,f4⟩:=nc hb (by omega)
 unfold jK
 simp only[zeta',mE,kD,e1,e2,e3,e4,aU,zu (dG f1 (by omega)) (dG f3 (by omega)),dJ,zu (dG f2 (by omega)) (dG f4 (by omega)),BK (f1.mul f3) (f2.mul f4) (show L+M≤10000000000 by omega) (Int.mul_pos h1 h3)]
 rw[←h2,←h4,Rat.divInt_mul_divInt]
theorem dL.abA(ha:dL L a x)(h:L≤10000000000):me a=some (mD x 0):=by
 obtain⟨n,d,e1,e2,h1,h2,f1,f2⟩:=nc ha h
 unfold me
 simp only[zeta',mE,kD,e1,aU,zq (dG f1 h),dJ]
 rw[←h2,←qK h1]
theorem Rm(x y:Rat):mD (x-y) 0=mD x y:=by
 unfold mD
 by_cases h:x<y
 ·rw[if_pos h,if_pos (by grind)]
 ·rw[if_neg h,if_neg (by grind)]
  by_cases h2:x=y
  ·rw[if_pos h2,if_pos (by grind)]
  ·rw[if_neg h2,if_neg (by grind)]
theorem dL.aiu(ha:dL L a x)(hb:dL M b y)(h:L+M≤4000000000):nX a b=some (mD x y):=by
 unfold nX
 have r:dL (L+M+1) (qn (x-y)) (x-y):=(ha.fq.sub hb.fq).rep (by omega)
 simp only[zeta',mE,kD,ha.ait hb h,aU,r.abA (by omega),Rm]
end ops
end Go.Proofs.YtfoldppidpmchaaGreat
namespace Go.Proofs.YtfoldppidpmchaaGreat
open Go.Fw
theorem bG{J R:Type}{f:J→Option R}{g:(J→Option R)→Option R}{r:Option R}(h:g f=r):bD f g=r:=h
theorem tc{J R:Type}(f:J→Option R)(g:(J→Option R)→Option R):bD f g=g f:=rfl
section ops
variable {K L M:Nat}{c:Qr}{a b:List Qr}{k:Rat}{f g:Nat→Rat}
theorem Jh(ha:bL L a f)(h:L≤10000000000)(m:Nat)(hm:m≤65536){body:Int×List Qr→Option ((Int×List Qr)⊕List Qr)}
  (hb:∀s,body s=(some (decide (s.1<((min a.length m:Nat):Int)))).bind fun c6=>(bif c6 then(bR a s.1).bind fun q=>(b7 q).bind fun w=>(wC s.2 s.1).bind fun fF=>(stM s.2 fF w).bind fun tJ=>(some (IntKind.i64.wrap (s.1+1))).bind fun jr=>some (.inl (jr,tJ))else some (.inr s.2))):
  (bk body (0,List.replicate m qz)).bind (fun r=>some r)=some (vq m f):=by
 refine aJ (fun j=>((j:Int),vq j f++List.replicate (m-j) qz)) (min a.length m) (vq m f) rfl (fun j hj=>?_) ?_ rfl
 ·obtain⟨q,hq,rq⟩:=ha.get (show j<a.length by omega)
  rw[hb]
  refine bind_eq rfl<|bn (decide_eq_true (by show(j:Int)<_;omega))<|bind_eq (aQ hq)<|bind_eq (rq.canon h).1<|bind_eq (eX (by rw[vP (by omega)];omega))<|bind_eq (je (by rw[vP (by omega)];omega))<|bind_eq rfl ?_
  rw[K1 (by omega),aW (by omega)]
 ·rw[hb]
  refine bind_eq rfl<|aX (decide_eq_false (by show ¬((min a.length m:Nat):Int)<_;omega)) ?_
  rw[Ys (by omega) (fun i h1 h2=>ha.z i (by omega))]
theorem TB(ha:bL L a f)(h:L≤10000000000)(la:a.length≤1000000)(n:Int):jU a n=some (vq (min n 65536).toNat f):=by
 unfold jU
 refine bind_eq rfl ?_
 by_cases hn:n<1
 ·refine bn (decide_eq_true hn) ?_
  rw[show(min n 65536).toNat=0 by omega];rfl
 ·refine aX (decide_eq_false hn) ?_
  obtain⟨m,hm⟩:∃m:Nat,min n 65536=(m:Int):=⟨(min n 65536).toNat,by omega⟩
  rw[hm]
  refine bind_eq rfl<|bind_eq (sQ (by omega) (by omega))<|bind_eq rfl<|bind_eq rfl<|bind_eq (congrArg some (Mr a _)) ?_
  rw[List.length_replicate]
  refine Jh ha h m (by omega) (fun s=>?_)
  obtain⟨i,l⟩:=s
  rfl
theorem A6{l:List Int}(hl:∀x∈l,cP x)(h:l.length≤1000000):cK l=some (vq l.length fun i=>((l.getD i 0:Int):Rat))∧bL 2 (vq l.length fun i=>((l.getD i 0:Int):Rat)) (fun i=>((l.getD i 0:Int):Rat)):=by
 have hx:∀i,cP (l.getD i 0):=fun i=>by
  by_cases hi:i<l.length
  ·rw[List.getD_eq_getElem?_getD,List.getElem?_eq_getElem hi];exact hl _ (List.getElem_mem hi)
  ·rw[List.getD_eq_getElem?_getD,List.getElem?_eq_none (by omega)];decide
 refine⟨?_,mG (fun i _=>(iP (hx i)).2.fq) (fun i hi=>?_) (by decide)⟩
 ·unfold cK
  refine bind_eq rfl<|bind_eq (sQ (by omega) (by omega))<|bind_eq rfl ?_
  refine aJ (fun j=>((j:Int),vq j (fun i=>((l.getD i 0:Int):Rat))++List.replicate (l.length-j) qz)) l.length (vq l.length fun i=>((l.getD i 0:Int):Rat)) rfl (fun j hj=>?_) ?_ rfl
  ·have e3:=(iP (hx j)).1
   have h4:=K1 (h:=fun i=>((l.getD i 0:Int):Rat)) hj
   obtain⟨q3,h3⟩:∃q,qn ((l.getD j 0:Int):Rat)=q:=⟨_,rfl⟩
   rw[h3]at e3 h4
   obtain⟨⟨_,_⟩,⟨_,_⟩⟩:=q3
   refine bind_eq rfl<|bn (decide_eq_true (by omega))<|bind_eq (aQ (bz hj))<|bind_eq e3<|bind_eq (eX (by rw[vP (by omega)];exact hj))<|bind_eq (je (by rw[vP (by omega)];exact hj))<|bind_eq rfl ?_
   rw[aW (by omega),h4]
  ·refine bind_eq rfl<|aX (decide_eq_false (by omega)) ?_
   simp
 ·show((l.getD i 0:Int):Rat)=0
  rw[dB hi];rfl
theorem Ao(a:List Qr)(i:Nat):fL a (i:Int)=some (a.getD i (⟨⟨false,[]⟩,⟨false,[]⟩⟩:Qr)):=by
 unfold fL
 rw[tc]
 refine bind_eq rfl<|bind_eq (a:=decide ((i:Int)<(a.length:Int))) ?_ ?_
 ·exact bn (decide_eq_true (show(0:Int)≤(i:Int) by omega)) rfl
 by_cases h:i<a.length
 ·refine bn (decide_eq_true (by omega)) ?_
  have:=bz (l:=a) (d:=(⟨⟨false,[]⟩,⟨false,[]⟩⟩:Qr)) h
  generalize a.getD i (⟨⟨false,[]⟩,⟨false,[]⟩⟩:Qr)=q at this⊢
  obtain⟨⟨_,_⟩,⟨_,_⟩⟩:=q
  exact bind_eq (aQ this) rfl
 ·refine aX (decide_eq_false (by omega)) ?_
  rw[dB (by omega)]
theorem TC{a:List Qr}(h:∀q∈a,q.num.w.length≤100000000000∧q.den.w.length≤100000000000)(hl:a.length≤100000000000):kQ a a=some true:=by
 unfold kQ
 refine bind_eq rfl<|bind_eq rfl<|bind_eq rfl<|aX (decide_eq_false (by simp)) ?_
 refine aJ (fun j=>(j:Int)) a.length (.inl ()) rfl (fun j hj=>?_) ?_ rfl
 ·have hq:=List.getElem?_eq_getElem hj
  have hm:=h _ (List.getElem_mem hj)
  generalize a[j]=q at hq hm
  obtain⟨c,e,k⟩:=Rl (a:=q) (b:=q) hm.1 hm.2
  rw[k.2 rfl]at e
  obtain⟨⟨_,_⟩,⟨_,_⟩⟩:=q
  refine bind_eq rfl<|bind_eq rfl<|bn (decide_eq_true (by omega))<|bind_eq (aQ hq)<|bind_eq (aQ hq)<|bind_eq e<|bind_eq rfl<|aX rfl<|bind_eq rfl ?_
  rw[aW (by omega)]
 ·exact bind_eq rfl<|bind_eq rfl<|aX (decide_eq_false (by omega)) rfl
theorem bL.ris(ha:bL L a f)(h:L≤100000000000)(hl:a.length≤100000000000):kQ a a=some true:=by
 refine TC (fun q hq=>?_) hl
 obtain⟨i,hi,rfl⟩:=List.mem_iff_getElem.1 hq
 have:=ha.e i hi
 exact⟨Nat.le_trans this.ln h,Nat.le_trans this.ld h⟩
theorem DB{α β:Type}(a:List α)(b:List β)(j:Nat):((bif decide ((j:Int)<(a.length:Int))then some true else(some (b.length:Int)).bind fun dz=>(some (decide ((j:Int)<dz))).bind fun cX=>some cX):Option Bool)=some (decide (j<max a.length b.length)):=by
 rw[aU,aU]
 by_cases h:j<a.length
 ·rw[decide_eq_true (show(j:Int)<a.length by omega),dR,decide_eq_true (by omega)]
 ·rw[decide_eq_false (show ¬(j:Int)<a.length by omega),eO]
  by_cases h':j<b.length
  ·rw[decide_eq_true (show(j:Int)<b.length by omega),decide_eq_true (by omega)]
  ·rw[decide_eq_false (show ¬(j:Int)<b.length by omega),decide_eq_false (by omega)]
theorem abB(hc:dL K c k)(ha:bL L a f)(hb:bL M b g)(h:K+L+M≤4000000000)(la:a.length≤1000000)(lb:b.length≤1000000):iT c a b=some (vq (max a.length b.length) fun i=>k*f i+g i):=by
 unfold iT
 obtain⟨⟨_,_⟩,⟨_,_⟩⟩:=c
 refine aJ (fun j=>((j:Int),vq j (fun i=>k*f i+g i))) (max a.length b.length) (vq (max a.length b.length) fun i=>k*f i+g i) rfl (fun j hj=>?_) ?_ rfl
 ·refine bind_eq (DB a b j) ?_
  refine bn (decide_eq_true hj) ?_
  have a1:=Ao a j
  have a2:=Ao b j
  have e1:=hc.abz (ha.gd j) (by omega)
  have e3:=((hc.mul (ha.gd j) (by omega)).2.aby (hb.gd j) (by omega))
  generalize a.getD j (⟨⟨false,[]⟩,⟨false,[]⟩⟩:Qr)=q1 at e1 a1
  generalize b.getD j (⟨⟨false,[]⟩,⟨false,[]⟩⟩:Qr)=q2 at e3 a2
  obtain⟨⟨_,_⟩,⟨_,_⟩⟩:=q1
  obtain⟨⟨_,_⟩,⟨_,_⟩⟩:=q2
  generalize qn (k*f j)=q4 at e1 e3
  obtain⟨⟨_,_⟩,⟨_,_⟩⟩:=q4
  obtain⟨q3,h3⟩:∃q,qn (k*f j+g j)=q:=⟨_,rfl⟩
  rw[nn,h3]
  rw[h3]at e3
  obtain⟨⟨_,_⟩,⟨_,_⟩⟩:=q3
  refine bind_eq a1<|bind_eq e1<|bind_eq a2<|bind_eq e3<|bind_eq (n6 (by omega) (by rw[bt];omega))<|bind_eq rfl ?_
  rw[aW (by omega)]
 ·refine bind_eq (DB a b _) ?_
  exact aX (decide_eq_false (by omega)) rfl
theorem DC(hc:dL K c k)(ha:bL L a f)(h:K+L+1≤4000000000)(la:a.length≤1000000):iY c a=some (vq a.length fun i=>k*f i):=by
 unfold iY
 have e2:=abB hc ha (bL.nil (L:=1) (by omega)) (by omega) la (by simp)
 obtain⟨⟨_,_⟩,⟨_,_⟩⟩:=c
 refine bind_eq e2 ?_
 rw[show max a.length ([]:List Qr).length=a.length by simp,mF (k:=fun i=>k*f i) (fun i _=>by grind)]
end ops
end Go.Proofs.YtfoldppidpmchaaGreat
namespace Go.Proofs.YtfoldppidpmchaaGreat
open Go.Fw
theorem Ji(l:List Qr)(hl:l.length≤1000000):∃b,jZ l=some b∧(b=false→∀q∈l,q.num.w.length≤6∧q.den.w.length≤6):=by
 unfold jZ
 simp only[aU]
 refine j1 (fun y=>∃i:Nat,y=(i:Int)∧i≤l.length∧∀z∈l.take i,z.num.w.length≤6∧z.den.w.length≤6) (fun e=>(∃c,e=.inl c∧∀z∈l,z.num.w.length≤6∧z.den.w.length≤6)∨e=.inr true) (fun y=>l.length-y.toNat) ?_ ⟨0,rfl,by omega,by simp⟩ ?_
 ·rintro _ ⟨i,rfl,hi,ht⟩
  by_cases hlt:i<l.length
  ·have g:l[i]? =some l[i]:=by simp
   obtain⟨q,hq⟩:∃q,l[i]=q:=⟨_,rfl⟩
   rw[hq]at g
   obtain⟨z,w⟩:=q
   obtain⟨b,hb,-⟩:=Tl [z,w] (by simp)
   rw[show decide ((i:Int)<(l.length:Int))=true by simp[hlt],dR]
   simp only[aQ g,aU,zeta',bD,hb]
   cases b
   ·rw[eO,aU]
    by_cases h1:6<z.w.length
    ·right
     rw[decide_eq_true (by omega),dR,aU,dR]
     exact⟨_,rfl,.inr rfl⟩
    ·rw[decide_eq_false (by omega),eO,aU]
     by_cases h2:6<w.w.length
     ·right
      rw[decide_eq_true (by omega),dR]
      exact⟨_,rfl,.inr rfl⟩
     ·left
      rw[decide_eq_false (by omega),eO,aW (by omega)]
      refine⟨_,rfl,⟨i+1,rfl,hlt,?_⟩,by omega⟩
      rw[List.take_add_one,g]
      intro u hu
      rcases List.mem_append.1 hu with h|h
      ·exact ht u h
      ·simp at h;rw[h];exact⟨by simp only[];omega,by simp only[];omega⟩
   ·right
    exact⟨_,rfl,.inr rfl⟩
  ·right
   rw[show decide ((i:Int)<(l.length:Int))=false by simp;omega,eO]
   rw[List.take_of_length_le (by omega)]at ht
   exact⟨_,rfl,.inl ⟨_,rfl,ht⟩⟩
 ·rintro e (⟨c,rfl,he⟩|rfl)
  ·exact⟨false,rfl,fun _=>he⟩
  ·exact⟨true,rfl,fun h=>by cases h⟩
abbrev OkQ(q:Qr):Prop:=OkZ q.num∧OkZ q.den
theorem GN{q:Qr}{L:Nat}(h:OkQ q)(h1:q.num.w.length≤L)(h2:q.den.w.length≤L)(hL:1≤L):dL L q (qv q):=⟨h.1.2.2,h.2.2.2,h1,h2,hL,rfl⟩
end Go.Proofs.YtfoldppidpmchaaGreat
namespace Go.Proofs.YtfoldppidpmchaaGreat
open Go.Fw
theorem dT{p:Prop}[Decidable p](h:p):(some (decide p):Option Bool)=some true:=congrArg some (decide_eq_true h)
theorem dF{p:Prop}[Decidable p](h:¬p):(some (decide p):Option Bool)=some false:=congrArg some (decide_eq_false h)
theorem wz{β:Type}{x:Option Bool}{f:Bool→Option β}{r:Option β}{y:Option Bool}(h:x=some true)(hf:f true=r):(bif true then x else y).bind f=r:=by rw[dR,h];exact hf
theorem vr{β:Type}{b c:Bool}{x:Option Bool}{f:Bool→Option β}{r:Option β}(h:b=false→x=some c)(hf:f (b||c)=r):(bif b then some true else x).bind f=r:=by
 cases b
 ·rw[eO,h rfl];exact hf
 ·rw[dR];exact hf
theorem abC{β:Type}{b c:Bool}{x:Option Bool}{f:Bool→Option β}{r:Option β}(h:b=true→x=some c)(hf:f (b&&c)=r):(bif b then x else some false).bind f=r:=by
 cases b
 ·rw[eO];exact hf
 ·rw[dR,h rfl];exact hf
section ops
variable {K L M:Nat}{a b c:Qr}{x y z:Rat}
theorem dL.neg'(ha:dL L a x)(h:L≤10000000000):∃q,iH a=some q∧dL L q (-x):=⟨_,ha.neg h⟩
theorem int'{n:Int}(hn:cP n):∃q,cu n=some q∧dL 2 q (n:Rat):=⟨_,iP hn⟩
end ops
theorem bL.val{L:Nat}{v:List Qr}{f:Nat→Rat}(h:bL L v f)(i:Nat):f i=Dy v i:=(h.at i).v.symm
theorem bL.of{L n:Nat}{v:List Qr}{f:Nat→Rat}(hn:v.length=n)(h:∀i q,v[i]? =some q→dL L q (f i))(h1:1≤L):bL L v (fun i=>if i<n then f i else 0):=by
 refine⟨fun i hi=>?_,fun i hi=>?_,h1⟩
 ·show dL L v[i] (if i<n then f i else 0)
  rw[if_pos (by omega)];exact h i _ (List.getElem?_eq_getElem hi)
 ·show(if i<n then f i else 0)=0
  rw[if_neg (by omega)]
abbrev szZ(z:Zr):Nat:=1+((z.w.map fun _=>1).sum+1)+1
abbrev RN(q:Qr):Nat:=szZ q.num+szZ q.den+1
abbrev TD(v:List Qr):Nat:=(v.map fun x=>RN x).sum+1
abbrev szM(m:List (List Qr)):Nat:=(m.map fun x=>TD x).sum+1
theorem My{α:Type}(f:α→Nat):∀{l:List α} {x:α},x∈l→f x≤(l.map f).sum
 |y::l,x,h=>by
  rw[List.map_cons,List.sum_cons]
  rcases List.mem_cons.1 h with rfl|h
  ·omega
  ·have:=My f h;omega
theorem Mz{α:Type}:∀l:List α,(l.map fun _=>1).sum=l.length
 |[]=>rfl
 |_::l=>by rw[List.map_cons,List.sum_cons,Mz l,List.length_cons];omega
theorem TE(q:Qr):q.num.w.length≤RN q∧q.den.w.length≤RN q:=by
 simp only[RN,szZ,Mz];omega
abbrev Y5(v:List Qr):Prop:=v.length≤9223372036854775807∧∀q∈v,OkQ q
theorem aiw{q:Qr}(h:OkQ q)(s:RN q≤1048576):dL 1048576 q (qv q):=by
 have:=TE q
 exact GN h (by omega) (by omega) (by decide)
theorem abE{v:List Qr}(h:Y5 v)(s:TD v≤1048576):bL 1048576 v (Dy v):=by
 refine GI (fun q hq=>aiw (h.2 q hq) ?_) (by decide)
 have:=My (fun x=>RN x) hq
 have e:TD v=(v.map fun x=>RN x).sum+1:=rfl
 omega
end Go.Proofs.YtfoldppidpmchaaGreat
namespace Go.Proofs.YtfoldppidpmchaaGreat
open Go.Fw
def kE{α:Type}(f:Nat→α)(n k:Nat)(z:α):List α:=(List.range k).map f++List.replicate (n-k) z
theorem vR{α:Type}{f:Nat→α}{n k:Nat}{z:α}(hk:k≤n):(kE f n k z).length=n:=by simp[kE];omega
theorem tf{α:Type}{f:Nat→α}{n:Nat}{z:α}:kE f n 0 z=List.replicate n z:=by simp[kE]
theorem vS{α:Type}{f:Nat→α}{n:Nat}{z:α}:kE f n n z=(List.range n).map f:=by simp[kE]
theorem vT{α:Type}{f:Nat→α}{n k:Nat}{z:α}(hk:k<n):(kE f n k z).set k (f k)=kE f n (k+1) z:=by
 unfold kE
 rw[show n-k=(n-(k+1))+1 by omega,List.replicate_succ,List.set_append_right _ _ (by simp),List.length_map,List.length_range,Nat.sub_self,List.range_succ,List.map_append,List.append_assoc];rfl
def mq(n:Nat)(ln:Nat→Nat)(F:Nat→Nat→Rat):List (List Qr):=(List.range n).map fun i=>vq (ln i) (F i)
theorem bP(n:Nat)(ln:Nat→Nat)(F:Nat→Nat→Rat):(mq n ln F).length=n:=by simp[mq]
theorem xR{n i:Nat}{ln:Nat→Nat}{F:Nat→Nat→Rat}(hi:i<n):(mq n ln F)[i]? =some (vq (ln i) (F i)):=by simp[mq,hi]
theorem TF{n i:Nat}{ln:Nat→Nat}{F:Nat→Nat→Rat}(hi:i<n):(mq n ln F).getD i []=vq (ln i) (F i):=by rw[List.getD_eq_getElem?_getD,xR hi];rfl
theorem rU{n:Nat}{ln ln':Nat→Nat}{F G:Nat→Nat→Rat}(h:∀i,i<n→ln i=ln' i∧∀k,k<ln i→F i k=G i k):mq n ln F=mq n ln' G:=by
 unfold mq
 apply List.map_congr_left
 intro i hi
 obtain⟨h1,h2⟩:=h i (List.mem_range.1 hi)
 rw[mF h2,h1]
structure cV (L:Nat) (m:List (List Qr)) (F:Nat→Nat→Rat):Prop where
 e:∀i v,m[i]? =some v→bL L v (F i)
 z:∀i,m.length≤i→∀k,F i k=0
 l1:1≤L
theorem cV.row{L:Nat}{m:List (List Qr)}{F:Nat→Nat→Rat}(h:cV L m F)(i:Nat):bL L (m.getD i []) (F i):=by
 by_cases hi:i<m.length
 ·rw[List.getD_eq_getElem?_getD,List.getElem?_eq_getElem hi];exact h.e i _ (List.getElem?_eq_getElem hi)
 ·rw[List.getD_eq_getElem?_getD,List.getElem?_eq_none (by omega)]
  exact(bL.nil h.l1).congr (fun k=>(h.z i (by omega) k).symm)
theorem cV.mono{L M:Nat}{m:List (List Qr)}{F:Nat→Nat→Rat}(h:cV L m F)(hl:L≤M):cV M m F:=⟨fun i v e=>(h.e i v e).mono hl,h.z,Nat.le_trans h.l1 hl⟩
theorem DD{L n:Nat}{ln:Nat→Nat}{F:Nat→Nat→Rat}(hf:∀i,i<n→∀k,k<ln i→FQ L (F i k))(hz:∀i,i<n→∀k,ln i≤k→F i k=0)(hz':∀i,n≤i→∀k,F i k=0)(h1:1≤L):cV L (mq n ln F) F:=by
 refine⟨fun i v e=>?_,fun i hi=>hz' i (by rwa[bP]at hi),h1⟩
 have hi:i<n:=by have:=(List.getElem?_eq_some_iff.1 e).1;rwa[bP]at this
 rw[xR hi]at e
 cases e
 exact mG (hf i hi) (hz i hi) h1
def Jj(m:List (List Qr))(i:Nat):Nat→Rat:=Dy (m.getD i [])
theorem TG{L:Nat}{m:List (List Qr)}(h:∀v∈m,bL L v (Dy v))(h1:1≤L):cV L m (Jj m):=by
 refine⟨fun i v e=>?_,fun i hi k=>?_,h1⟩
 ·have:Jj m i=Dy v:=by unfold Jj;rw[List.getD_eq_getElem?_getD,e];rfl
  rw[this];exact h v (List.mem_of_getElem? e)
 ·unfold Jj
  rw[List.getD_eq_getElem?_getD,List.getElem?_eq_none hi]
  exact(bL.nil (L:=1) (by decide)).val k |>.symm
theorem DE{L:Nat}{v:List Qr}{f:Nat→Rat}(h:bL L v f):cV L [v] (fun i k=>if i=0 then f k else 0):=by
 refine⟨fun i u e=>?_,fun i hi k=>if_neg (by simp at hi;omega),h.l1⟩
 match i,e with
 |0,e=>cases e;exact h.congr (fun k=>(if_pos rfl).symm)
theorem mkm{n:Nat}(h:n≤1000000):Ep 24 ((n:Nat):Int) ([]:List Qr)=some (List.replicate n []):=sQ (by decide) (by omega)
theorem abF(n:Nat)(h:n≤1000000):Ep 64 ((n:Nat):Int) (⟨⟨false,[]⟩,⟨false,[]⟩⟩:Qr)=some (List.replicate n ⟨⟨false,[]⟩,⟨false,[]⟩⟩):=sQ (by omega) (by omega)
theorem GO{L M N:Nat}{a b:List Qr}{f g:Nat→Rat}(ha:bL L a f)(hb:bL M b g)(h:min a.length b.length≤N):dZ (fun i=>f i*g i) (min a.length b.length)=dZ (fun i=>f i*g i) N:=by
 rw[Ri h (fun i h1 _=>by
  rcases Nat.lt_or_ge i a.length with q|q
  ·rw[hb.z i (by omega)];grind
  ·rw[ha.z i q];grind)]
theorem DF{E:Type}{body:Nat→Unit→Option (Unit⊕E)}{n:Nat}{p:Nat→Prop}[DecidablePred p]{e:E}(h:∀k,k<n→body k ()=some (if p k then .inl ()else .inr e)):n9 body n ()=some (if ∀k,k<n→p k then .inl ()else .inr e):=by
 induction n with
 |zero=>rw[n9,if_pos (fun k hk=>by omega)]
 |succ n ih=>
  rw[n9,ih (fun k hk=>h k (by omega))]
  by_cases h1:∀k,k<n→p k
  ·rw[if_pos h1]
   show body n ()=_
   rw[h n (by omega)]
   by_cases h2:p n
   ·rw[if_pos h2,if_pos]
    intro k hk
    rcases Nat.lt_or_ge k n with q|q
    ·exact h1 k q
    ·obtain rfl:k=n:=by omega
     exact h2
   ·rw[if_neg h2,if_neg (fun q=>h2 (q n (by omega)))]
  ·rw[if_neg h1,if_neg (fun q=>h1 (fun k hk=>q k (by omega)))];rfl
section ops
variable {K L M:Nat}{c:Qr}{k:Rat}{a b:List (List Qr)}{F G:Nat→Nat→Rat}{x:List Qr}{f:Nat→Rat}
theorem TH(a:List (List Qr))(i:Nat):m5 a (i:Int)=some (a.getD i []):=by
 unfold m5
 refine bG<|bind_eq (dF (by omega)) ?_
 by_cases h:i<a.length
 ·exact bind_eq (a:=false) (aX rfl<|bind_eq rfl<|bind_eq (dF (by omega)) rfl)<|aX rfl<|bind_eq (aQ (bz h)) rfl
 ·rw[dB (by omega)]
  exact bind_eq (a:=true) (aX rfl<|bind_eq rfl<|bind_eq (dT (by omega)) rfl)<|bn rfl rfl
def ia(m:List (List Qr)):Nat:=m.foldl (fun n v=>max n v.length) 0
theorem eD{m:List (List Qr)}{n:Nat}:ia m≤n↔∀v∈m,v.length≤n:=by
 have key:∀(l:List (List Qr)) (s:Nat),l.foldl (fun n v=>max n v.length) s≤n↔s≤n∧∀v∈l,v.length≤n:=by
  intro l
  induction l with
  |nil=>intro s;simp
  |cons v l ih=>
   intro s
   rw[List.foldl_cons,ih];simp only[List.mem_cons,forall_eq_or_imp]
   constructor
   ·rintro⟨h1,h2⟩;exact⟨by omega,by omega,h2⟩
   ·rintro⟨h1,h2,h3⟩;exact⟨by omega,h3⟩
 unfold ia
 rw[key];simp
theorem VQ(m:List (List Qr))(h:m.length≤9223372036854775806):m6 m=some (ia m:Int):=by
 unfold m6
 refine bind_eq rfl ?_
 refine aJ (fun j=>(((m.take j).foldl (fun n v=>max n v.length) 0:Nat),(j:Int))) m.length ((ia m:Nat):Int) (by simp) (fun j hj=>?_) ?_ rfl
 ·refine bind_eq (dT (by omega))<|bn rfl<|bind_eq (aQ (List.getElem?_eq_getElem hj))<|bind_eq rfl<|bind_eq rfl<|bind_eq (congrArg some (aW (by omega))) ?_
  rw[List.take_add_one,List.getElem?_eq_getElem hj,List.foldl_append]
  simp only[Option.toList_some,List.foldl_cons,List.foldl_nil]
  congr 3
  omega
 ·refine bind_eq (dF (by omega))<|aX rfl ?_
  rw[List.take_length];rfl
theorem Rn(h:cV L a F)(hL:L≤10000000000)(i j:Nat):rJ a (i:Int) (j:Int)=some (qn (F i j)):=by
 unfold rJ
 refine bind_eq (TH a i)<|bG<|bind_eq (dF (by omega)) ?_
 have hr:=h.row i
 generalize a.getD i []=v at hr
 by_cases hj:j<v.length
 ·obtain⟨q,e1,r1⟩:=hr.get hj
  have e2:=(r1.canon hL).1
  exact bind_eq (a:=false) (aX rfl<|bind_eq rfl<|bind_eq (dF (by omega)) rfl)<|aX rfl<|bind_eq (aQ e1)<|bind_eq e2 rfl
 ·rw[hr.z j (by omega)]
  exact bind_eq (a:=true) (aX rfl<|bind_eq rfl<|bind_eq (dT (by omega)) rfl)<|bn rfl rfl
theorem GP(hc:dL K c k)(h:cV L a F)(hL:K+L≤4000000000)(hn:a.length≤1000000)(hw:∀v∈a,v.length≤1000000):
  jG c a=some (mq a.length (fun i=>(a.getD i []).length) (fun i j=>k*F i j))∧cV (K+L) (mq a.length (fun i=>(a.getD i []).length) (fun i j=>k*F i j)) (fun i j=>k*F i j):=by
 have hw':∀i,(a.getD i []).length≤1000000:=fun i=>by
  by_cases hi:i<a.length
  ·exact hw _ (List.mem_of_getElem? (bz (d:=[]) hi))
  ·rw[dB (by omega)];decide
 constructor
 ·unfold jG
  refine bind_eq rfl<|bind_eq (mkm hn)<|bind_eq rfl ?_
  refine aJ (fun j=>((j:Int),kE (fun i=>vq (a.getD i []).length (fun j=>k*F i j)) a.length j [])) a.length (mq a.length (fun i=>(a.getD i []).length) (fun i j=>k*F i j)) (by rw[tf];rfl) (fun j hj=>?_) ?_ rfl
  ·have e1:=(Am hc (h.row j) hL (hw' j)).1
   have hl:(kE (fun i=>vq (a.getD i []).length (fun j=>k*F i j)) a.length j []).length=a.length:=vR (by omega)
   refine bind_eq (dT (by omega))<|bn rfl<|bind_eq (aQ (bz (d:=[]) hj))<|bind_eq e1<|bind_eq (eX (show j<_ by rw[hl];exact hj))<|bind_eq (je (show j<_ by rw[hl];exact hj))<|bind_eq (congrArg some (aW (by omega))) ?_
   rw[←vT hj]
  ·refine bind_eq (dF (by omega))<|aX rfl ?_
   rw[vS];rfl
 ·refine DD (fun i hi j hj=>?_) (fun i hi j hj=>by rw[(h.row i).z j hj];grind) (fun i hi j=>by rw[h.z i hi j];grind) (by have:=h.l1;omega)
  exact(Am hc (h.row i) hL (hw' i)).2.fq j
theorem aix(h:cV L a F)(hx:bL M x f){N:Nat}(hN:∀v∈a,min v.length x.length≤N)(hL:(N+2)*(L+M+1)≤4000000000)(hn:a.length≤1000000):
  l7 a x=some (vq a.length (fun i=>dZ (fun j=>F i j*f j) N))∧bL (N*(L+M+1)+1) (vq a.length (fun i=>dZ (fun j=>F i j*f j) N)) (fun i=>dZ (fun j=>F i j*f j) N):=by
 have row:∀i,i<a.length→iW (a.getD i []) x=some (qn (dZ (fun j=>F i j*f j) N))∧dL (N*(L+M+1)+1) (qn (dZ (fun j=>F i j*f j) N)) (dZ (fun j=>F i j*f j) N):=fun i hi=>by
  have hm:=hN _ (List.mem_of_getElem? (bz (d:=[]) hi))
  have h1:=Yt (h.row i) hx (Nat.le_trans (Nat.mul_le_mul_right _ (by omega)) hL)
  rw[GO (h.row i) hx hm]at h1
  exact⟨h1.1,h1.2.mono (Nat.add_le_add_right (Nat.mul_le_mul_right _ hm) 1)⟩
 constructor
 ·unfold l7
  refine bind_eq rfl<|bind_eq (abF _ hn)<|bind_eq rfl ?_
  refine aJ (fun j=>((j:Int),kE (fun i=>qn (dZ (fun j=>F i j*f j) N)) a.length j ⟨⟨false,[]⟩,⟨false,[]⟩⟩)) a.length (vq a.length (fun i=>dZ (fun j=>F i j*f j) N)) (by rw[tf];rfl) (fun j hj=>?_) ?_ rfl
  ·have e1:=(row j hj).1
   have hl:(kE (fun i=>qn (dZ (fun j=>F i j*f j) N)) a.length j ⟨⟨false,[]⟩,⟨false,[]⟩⟩).length=a.length:=vR (by omega)
   have hst:∀q,qn (dZ (fun i=>F j i*f i) N)=q→(kE (fun i=>qn (dZ (fun j=>F i j*f j) N)) a.length j ⟨⟨false,[]⟩,⟨false,[]⟩⟩).set j q=kE (fun i=>qn (dZ (fun j=>F i j*f j) N)) a.length (j+1) ⟨⟨false,[]⟩,⟨false,[]⟩⟩:=by rintro q rfl;exact vT hj
   generalize hq:qn (dZ (fun i=>F j i*f i) N)=q at e1
   have hst:=hst q hq
   refine bind_eq (dT (by omega))<|bn rfl<|bind_eq (aQ (bz (d:=[]) hj))<|bind_eq e1<|bind_eq (eX (show j<_ by rw[hl];exact hj))<|bind_eq (je (show j<_ by rw[hl];exact hj))<|bind_eq (congrArg some (aW (by omega))) ?_
   rw[←hst]
  ·refine bind_eq (dF (by omega))<|aX rfl ?_
   rw[vS];rfl
 ·refine mG (fun i hi=>(row i hi).2.fq) (fun i hi=>?_) (by omega)
  rw[Dz (k:=fun _=>0) (fun j _=>by rw[h.z i hi j];grind),EU]
theorem Yw(ha:cV L a F)(hb:cV M b G)(h:L+M≤4000000000):jH a b=some (decide (∀i,i<max a.length b.length→∀j,j<max (a.getD i []).length (b.getD i []).length→F i j=G i j)):=by
 unfold jH
 refine bind_eq (DF (p:=fun i=>∀j,j<max (a.getD i []).length (b.getD i []).length→F i j=G i j) (e:=false) (fun i hi=>?_)) ?_
 ·have e1:=veq (ha.row i) (hb.row i) h
  refine bind_eq rfl<|bind_eq rfl<|bind_eq e1<|bind_eq rfl ?_
  by_cases q:∀j,j<max (a.getD i []).length (b.getD i []).length→F i j=G i j
  ·rw[if_pos q];exact aX (by rw[decide_eq_true q];rfl) rfl
  ·rw[if_neg q];exact bn (by rw[decide_eq_false q];rfl) rfl
 ·by_cases q:∀i,i<max a.length b.length→∀j,j<max (a.getD i []).length (b.getD i []).length→F i j=G i j
  ·rw[if_pos q,decide_eq_true q]
  ·rw[if_neg q,decide_eq_false q]
theorem MA(ha:cV L a F)(hb:cV M b G)(h:L+M≤4000000000)(e:∀i j,F i j=G i j):jH a b=some true:=by
 rw[Yw ha hb h,decide_eq_true (fun i _ j _=>e i j)]
theorem MB{l:List (List Int)}(hl:∀v∈l,v.length≤1000∧∀y∈v,cP y)(hn:l.length≤1000):ez l=some (mq l.length (fun i=>(l.getD i []).length) (fun i j=>(((l.getD i []).getD j 0:Int):Rat)))∧cV 2 (mq l.length (fun i=>(l.getD i []).length) (fun i j=>(((l.getD i []).getD j 0:Int):Rat))) (fun i j=>(((l.getD i []).getD j 0:Int):Rat)):=by
 have hw:∀i,(l.getD i []).length≤1000∧∀y∈l.getD i [],cP y:=fun i=>by
  by_cases hi:i<l.length
  ·exact hl _ (List.mem_of_getElem? (bz (d:=[]) hi))
  ·rw[dB (by omega)];simp
 constructor
 ·unfold ez
  refine bind_eq rfl<|bind_eq (mkm (by omega))<|bind_eq rfl ?_
  refine aJ (fun j=>((j:Int),kE (fun i=>vq (l.getD i []).length (fun j=>(((l.getD i []).getD j 0:Int):Rat))) l.length j [])) l.length (mq l.length (fun i=>(l.getD i []).length) (fun i j=>(((l.getD i []).getD j 0:Int):Rat))) (by rw[tf];rfl) (fun j hj=>?_) ?_ rfl
  ·have e1:=(A6 (hw j).2 (by have:=(hw j).1;omega)).1
   have hl:(kE (fun i=>vq (l.getD i []).length (fun j=>(((l.getD i []).getD j 0:Int):Rat))) l.length j []).length=l.length:=vR (by omega)
   refine bind_eq (dT (by omega))<|bn rfl<|bind_eq (aQ (bz (d:=[]) hj))<|bind_eq e1<|bind_eq (eX (show j<_ by rw[hl];exact hj))<|bind_eq (je (show j<_ by rw[hl];exact hj))<|bind_eq (congrArg some (aW (by omega))) ?_
   rw[←vT hj]
  ·refine bind_eq (dF (by omega))<|aX rfl ?_
   rw[vS];rfl
 ·refine DD (fun i hi j hj=>(A6 (hw i).2 (by have:=(hw i).1;omega)).2.fq j) (fun i hi j hj=>by rw[dB hj];rfl) (fun i hi j=>by rw[dB hi];rfl) (by decide)
end ops
end Go.Proofs.YtfoldppidpmchaaGreat
namespace Go.Proofs.YtfoldppidpmchaaGreat
open Go.Fw
theorem DG{α:Type}{b:Bool}{x y r:α}(ht:b=true→x=r)(hf:b=false→y=r):(bif b then x else y)=r:=by
 cases b
 ·rw[eO];exact hf rfl
 ·rw[dR];exact ht rfl
theorem Ap{E:Type}{body:Int→Option (Int⊕(Unit⊕E))}{n:Nat}{p:Nat→Prop}[DecidablePred p]{e:E}(h:∀k:Nat,k<n→body (k:Int)=some (if p k then .inl ((k+1:Nat):Int)else .inr (.inr e)))(hn:body (n:Int)=some (.inr (.inl ()))):
  bk body 0=some (if ∀k,k<n→p k then .inl ()else .inr e):=by
 obtain⟨r,h1,h2⟩:=zL (body:=body) (s:=0) (fun s=>∃k:Nat,s=(k:Int)∧k≤n∧∀i,i<k→p i) (fun r=>(r=.inl ()∧∀k,k<n→p k)∨(r=.inr e∧¬∀k,k<n→p k)) (fun s=>n-s.toNat) (by
  rintro _ ⟨k,rfl,hk,hp⟩
  by_cases hlt:k<n
  ·by_cases hpk:p k
   ·refine .inl ⟨_,by rw[h k hlt,if_pos hpk],⟨k+1,rfl,hlt,fun i hi=>?_⟩,by simp only[Int.toNat_natCast];omega⟩
    rcases Nat.lt_or_ge i k with q|q
    ·exact hp i q
    ·obtain rfl:i=k:=by omega
     exact hpk
   ·exact .inr ⟨_,by rw[h k hlt,if_neg hpk],.inr ⟨rfl,fun q=>hpk (q k hlt)⟩⟩
  ·obtain rfl:k=n:=by omega
   exact .inr ⟨_,hn,.inl ⟨rfl,hp⟩⟩) ⟨0,rfl,by omega,fun i hi=>by omega⟩
 rw[h1]
 rcases h2 with⟨rfl,h2⟩|⟨rfl,h2⟩
 ·rw[if_pos h2]
 ·rw[if_neg h2]
def Jk(n:Nat)(f:Nat→Rat)(i:Nat):Rat:=if i<n then f i else 0
theorem GQ{n i:Nat}{f:Nat→Rat}(h:i<n):Jk n f i=f i:=if_pos h
theorem TI{n i:Nat}{f:Nat→Rat}(h:n≤i):Jk n f i=0:=if_neg (by omega)
theorem Ro(n:Nat)(f:Nat→Rat):vq n f=vq n (Jk n f):=mF (fun i hi=>(GQ hi).symm)
theorem GR{L n:Nat}{f:Nat→Rat}(h:∀i,i<n→FQ L (f i))(h1:1≤L):bL L (vq n f) (Jk n f):=by
 rw[Ro]
 exact mG (fun i hi=>by rw[GQ hi];exact h i hi) (fun i hi=>TI hi) h1
def qa(n:Int)(ob rw:List (List Qr))(bd:List Qr):Prop:=0≤n∧n≤64∧1≤ob.length∧ob.length≤4∧rw.length≤128∧bd.length=rw.length∧(ia ob:Int)≤n∧(ia rw:Int)≤n
instance(n:Int)(ob rw:List (List Qr))(bd:List Qr):Decidable (qa n ob rw bd):=by unfold qa;exact inferInstance
theorem pX{n:Int}{ob rw:List (List Qr)}{bd:List Qr}(h1:ob.length≤9223372036854775806)(h2:rw.length≤9223372036854775806):iJ ⟨n,ob,rw,bd⟩=some (decide (qa n ob rw bd)):=by
 unfold iJ iI
 refine bind_eq (bind_eq rfl<|bind_eq rfl<|bind_eq rfl rfl)<|bG<|bind_eq rfl<|vr (fun _=>bind_eq rfl rfl)<|vr (fun _=>bind_eq rfl rfl)<|vr (fun _=>bind_eq rfl rfl)<|DG (fun h=>?_) (fun h=>bG<|bind_eq rfl<|vr (fun _=>bind_eq rfl rfl)<|DG (fun h'=>?_) (fun h'=>bG<|bind_eq (VQ ob h1)<|bind_eq rfl<|abC (fun _=>bind_eq (VQ rw h2)<|bind_eq rfl rfl) ?_))
 ·congr 1;symm;rw[decide_eq_false_iff_not]
  simp only[Bool.or_eq_true,decide_eq_true_eq]at h
  unfold qa;omega
 ·congr 1;symm;rw[decide_eq_false_iff_not]
  simp only[Bool.or_eq_true,decide_eq_true_eq]at h'
  unfold qa;omega
 ·congr 1
  simp only[Bool.or_eq_false_iff,decide_eq_false_iff_not]at h h'
  rw[←Bool.decide_and,decide_eq_decide]
  unfold qa;omega
def TJ(n:Int)(ob rw:List (List Qr))(bd x:List Qr)(F:Nat→Nat→Rat)(g f:Nat→Rat)(N:Nat):Prop:=qa n ob rw bd∧(x.length:Int)≤n∧(∀i,i<x.length→0≤f i)∧∀i,i<rw.length→dZ (fun j=>F i j*f j) N≤g i
instance(n:Int)(ob rw:List (List Qr))(bd x:List Qr)(F:Nat→Nat→Rat)(g f:Nat→Rat)(N:Nat):Decidable (TJ n ob rw bd x F g f N):=by unfold TJ;exact inferInstance
section lps
variable {K L M N:Nat}{n:Int}{ob rw:List (List Qr)}{bd x y:List Qr}{O F:Nat→Nat→Rat}{g f:Nat→Rat}
theorem MC(hr:cV L rw F)(hb:bL K bd g)(hx:bL M x f)(hN:∀v∈rw,min v.length x.length≤N)(hL:(N+2)*(L+M+1)≤2000000000)(hK:K≤1000000000)(h1:ob.length≤9223372036854775806)(h2:rw.length≤9223372036854775806)(h3:x.length≤1000000):
  iX ⟨n,ob,rw,bd⟩ x=some (decide (TJ n ob rw bd x F g f N)):=by
 have row:∀i,i<rw.length→∃q,iW (rw.getD i []) x=some q∧dL (N*(L+M+1)+1) q (dZ (fun j=>F i j*f j) N):=fun i hi=>by
  have hm:=hN _ (List.mem_of_getElem? (bz (d:=[]) hi))
  have h1:=Yt (hr.row i) hx (Nat.le_trans (Nat.mul_le_mul_right _ (show min (rw.getD i []).length x.length+2≤N+2 by omega)) (by omega))
  rw[GO (hr.row i) hx hm]at h1
  exact⟨_,h1.1,h1.2.mono (Nat.add_le_add_right (Nat.mul_le_mul_right _ hm) 1)⟩
 have hsz:N*(L+M+1)+1+K≤4000000000:=by rw[Nat.add_mul]at hL;omega
 unfold iX
 refine bG<|bind_eq (pX h1 h2)<|bind_eq rfl<|vr (fun _=>bind_eq rfl<|bind_eq rfl rfl)<|DG (fun h=>?_) (fun h=>bind_eq rfl ?_)
 ·congr 1;symm;rw[decide_eq_false_iff_not]
  simp only[Bool.or_eq_true,Bool.not_eq_true',decide_eq_true_eq,decide_eq_false_iff_not]at h
  unfold TJ
  rintro⟨q1,q2,_⟩
  rcases h with h|h
  ·exact h q1
  ·omega
 simp only[Bool.or_eq_false_iff,Bool.not_eq_false',decide_eq_true_eq,decide_eq_false_iff_not]at h
 refine bind_eq (Ap (p:=fun i=>0≤f i) (e:=false) (n:=x.length) (fun i hi=>?_) (bind_eq (dF (by omega))<|aX rfl rfl)) ?_
 ·obtain⟨q,e1,r1⟩:=hx.get hi
  have e2:=r1.sign (by have:=Nat.mul_le_mul_right (L+M+1) (show 1≤N+2 by omega);omega)
  refine bind_eq (dT (by omega))<|bn rfl<|bind_eq (aQ e1)<|bind_eq e2<|bind_eq rfl ?_
  by_cases hp:0≤f i
  ·rw[if_pos hp]
   exact aX (decide_eq_false (fun q=>Rat.not_lt.2 hp (Jc.1 q)))<|bind_eq (congrArg some (aW (by omega))) rfl
  ·rw[if_neg hp]
   exact bn (decide_eq_true (Jc.2 (Rat.not_le.1 hp))) rfl
 by_cases hp:∀i,i<x.length→0≤f i
 ·rw[if_pos hp]
  show(n9 _ _ ()).bind _=_
  refine bind_eq (DF (p:=fun i=>dZ (fun j=>F i j*f j) N≤g i) (e:=false) (fun i hi=>?_)) ?_
  ·obtain⟨q,e1,r1⟩:=row i hi
   have rb:=hb.gd i
   have e2:=r1.cmp rb hsz
   generalize hbq:bd.getD i (⟨⟨false,[]⟩,⟨false,[]⟩⟩:Qr)=bq at e2
   refine bind_eq rfl<|bind_eq (a:=bq) (by first|rfl|exact congrArg some hbq)<|bind_eq e1<|bind_eq e2<|bind_eq rfl ?_
   by_cases hs:dZ (fun j=>F i j*f j) N≤g i
   ·rw[if_pos hs]
    refine aX (decide_eq_false (fun q=>?_)) rfl
    exact Rat.not_lt.2 hs (Dw.1 (by omega))
   ·rw[if_neg hs]
    exact bn (decide_eq_true (Tm (Rat.not_le.1 hs))) rfl
  ·by_cases hq:∀i,i<rw.length→dZ (fun j=>F i j*f j) N≤g i
   ·rw[if_pos hq,decide_eq_true (show TJ n ob rw bd x F g f N from⟨h.1,by omega,hp,hq⟩)]
   ·rw[if_neg hq,decide_eq_false (show ¬TJ n ob rw bd x F g f N from fun q=>hq q.2.2.2)]
 ·rw[if_neg hp,decide_eq_false (show ¬TJ n ob rw bd x F g f N from fun q=>hp q.2.2.1)]
theorem eval_eq(ho:cV L ob O)(hx:bL M x f)(hN:∀v∈ob,min v.length x.length≤N)(hL:(N+2)*(L+M+1)≤4000000000)(hn:ob.length≤1000000):
  ku ⟨n,ob,rw,bd⟩ x=some (vq ob.length (fun i=>dZ (fun j=>O i j*f j) N))∧bL (N*(L+M+1)+1) (vq ob.length (fun i=>dZ (fun j=>O i j*f j) N)) (fun i=>dZ (fun j=>O i j*f j) N):=by
 obtain⟨h1,h2⟩:=aix ho hx hN hL hn
 exact⟨bind_eq h1 rfl,h2⟩
theorem Rp(hr:cV L rw F)(hb:bL K bd g)(hx:bL M x f)(hN:∀v∈rw,min v.length x.length≤N)(hL:(N+2)*(L+M+1)≤2000000000)(hK:K≤1000000000)(h2:rw.length≤1000000):
  pJ ⟨n,ob,rw,bd⟩ x=some (vq rw.length (fun i=>g i-dZ (fun j=>F i j*f j) N))∧∀i,i<rw.length→FQ (K+(N*(L+M+1)+1)+1) (g i-dZ (fun j=>F i j*f j) N):=by
 have row:∀i,i<rw.length→∃q,iW (rw.getD i []) x=some q∧dL (N*(L+M+1)+1) q (dZ (fun j=>F i j*f j) N):=fun i hi=>by
  have hm:=hN _ (List.mem_of_getElem? (bz (d:=[]) hi))
  have h1:=Yt (hr.row i) hx (Nat.le_trans (Nat.mul_le_mul_right _ (show min (rw.getD i []).length x.length+2≤N+2 by omega)) (by omega))
  rw[GO (hr.row i) hx hm]at h1
  exact⟨_,h1.1,h1.2.mono (Nat.add_le_add_right (Nat.mul_le_mul_right _ hm) 1)⟩
 have hsz:K+(N*(L+M+1)+1)≤4000000000:=by rw[Nat.add_mul]at hL;omega
 refine⟨?_,fun i hi=>?_⟩
 ·unfold pJ
  refine sV (fun j=>vq j (fun i=>g i-dZ (fun j=>F i j*f j) N)) rfl (fun i hi=>?_) rfl
  obtain⟨q,e1,r1⟩:=row i hi
  have rb:=hb.gd i
  have e2:=(rb.sub r1 hsz).1
  generalize hbq:bd.getD i (⟨⟨false,[]⟩,⟨false,[]⟩⟩:Qr)=bq at e2
  have e3:mH 64 (vq i (fun i=>g i-dZ (fun j=>F i j*f j) N)) [qn (g i-dZ (fun j=>F i j*f j) N)]=some (vq (i+1) (fun i=>g i-dZ (fun j=>F i j*f j) N)):=by rw[n6 (by decide) (by rw[bt];have:i<rw.length:=hi;omega),nn]
  generalize qn (g i-dZ (fun j=>F i j*f j) N)=q2 at e2 e3
  exact bind_eq rfl<|bind_eq (a:=bq) (by first|rfl|exact congrArg some hbq)<|bind_eq e1<|bind_eq e2<|bind_eq e3 rfl
 ·obtain⟨q,e1,r1⟩:=row i hi
  exact((hb.gd i).sub r1 hsz).2.fq
def Jl(n:Int)(rw:List (List Qr))(bd:List Qr)(O F:Nat→Nat→Rat)(g:Nat→Rat):Lr:=
 ⟨(rw.length:Int),[vq bd.length (fun i=>-g i)],mq n.toNat (fun _=>rw.length) (fun k i=>-F i k),vq n.toNat (fun k=>-O 0 k)⟩
theorem TK(h1:ob.length≤9223372036854775806)(h2:rw.length≤9223372036854775806)(h:¬(qa n ob rw bd∧rw.length≤64)):jV ⟨n,ob,rw,bd⟩=some (⟨0,[],[],[]⟩,1):=by
 unfold jV
 refine bG<|bind_eq (pX h1 h2)<|bind_eq rfl<|vr (fun _=>bind_eq rfl<|bind_eq rfl rfl)<|vr (fun _=>bind_eq rfl rfl)<|bn ?_ rfl
 simp only[Bool.or_eq_true,Bool.not_eq_true',decide_eq_true_eq,decide_eq_false_iff_not]
 by_cases hv:qa n ob rw bd
 ·have:¬rw.length≤64:=fun q=>h ⟨hv,q⟩
  exact .inl (.inr (by omega))
 ·exact .inl (.inl hv)
theorem MD(ho:cV M ob O)(hr:cV L rw F)(hb:bL K bd g)(hM:M≤4000000000)(hL:L≤4000000000)(hK:K≤3000000000)(hv:qa n ob rw bd)(Qz:rw.length≤64):jV ⟨n,ob,rw,bd⟩=some (Jl n rw bd O F g,0):=by
 have qb:=hv
 unfold qa at qb
 obtain⟨m,rfl⟩:∃m:Nat,n=(m:Int):=⟨n.toNat,by omega⟩
 have hneg:∀i,(((-1:Int):Rat))*g i=-g i:=fun i=>by
  have:(((-1:Int):Rat))=-1:=by decide
  rw[this];grind
 obtain⟨c,e1,r1⟩:=int' (n:=-1) (by decide)
 have e2:=(Am r1 hb (by omega) (by omega)).1
 rw[mF (k:=fun i=>-g i) (fun i _=>hneg i)]at e2
 unfold jV
 refine bG<|bind_eq (pX (by omega) (by omega))<|bind_eq rfl<|vr (fun _=>bind_eq rfl<|bind_eq rfl rfl)<|vr (fun _=>bind_eq rfl rfl)<|aX ?_<|bind_eq rfl<|bind_eq e1<|bind_eq e2 ?_
 ·simp only[Bool.or_eq_false_iff,Bool.not_eq_false',decide_eq_true_eq,decide_eq_false_iff_not]
  exact⟨⟨hv,by omega⟩,by omega⟩
 refine aJ (fun k=>((k:Int),mq k (fun _=>rw.length) (fun k i=>-F i k),vq k (fun k=>-O 0 k))) m (mq m (fun _=>rw.length) (fun k i=>-F i k),vq m (fun k=>-O 0 k)) rfl (fun k hk=>?_) (bind_eq (dF (by omega))<|aX rfl rfl) rfl
 refine bind_eq (dT (by omega))<|bn rfl<|bind_eq (abF _ (by omega))<|bind_eq rfl ?_
 have ajR:∀q x,dL M q x→∃p,iH q=some p∧p=qn (-x):=fun q x h=>⟨_,(h.neg (by omega)).1,rfl⟩
 refine aJ (fun j=>((j:Int),kE (fun i=>qn (-F i k)) rw.length j ⟨⟨false,[]⟩,⟨false,[]⟩⟩)) rw.length (vq rw.length (fun i=>-F i k)) (by rw[tf];rfl) (fun j hj=>?_) ?_ ?_
 ·have e3:=Rn hr (by omega) j k
  have e4:=(((hr.row j).fq k).rep hr.l1).neg (by omega)
  have e4:=e4.1
  have hl:(kE (fun i=>qn (-F i k)) rw.length j ⟨⟨false,[]⟩,⟨false,[]⟩⟩).length=rw.length:=vR (by omega)
  have hst:∀q,qn (-F j k)=q→(kE (fun i=>qn (-F i k)) rw.length j ⟨⟨false,[]⟩,⟨false,[]⟩⟩).set j q=kE (fun i=>qn (-F i k)) rw.length (j+1) ⟨⟨false,[]⟩,⟨false,[]⟩⟩:=by rintro q rfl;exact vT hj
  generalize qn (F j k)=q at e3 e4
  generalize hq:qn (-F j k)=q2 at e4
  have hst:=hst q2 hq
  refine bind_eq (dT (by rw[List.length_replicate];omega))<|bn rfl<|bind_eq e3<|bind_eq e4<|bind_eq (eX (show j<_ by rw[hl];exact hj))<|bind_eq (je (show j<_ by rw[hl];exact hj))<|bind_eq (congrArg some (aW (by omega))) ?_
  rw[←hst]
 ·refine bind_eq (dF (by rw[List.length_replicate];omega))<|aX rfl ?_
  rw[vS];rfl
 ·have e3:=Rn ho (by omega) 0 k
  have e4:=((((ho.row 0).fq k).rep ho.l1).neg (by omega)).1
  have e5:mH 24 (mq k (fun _=>rw.length) (fun k i=>-F i k)) [vq rw.length (fun i=>-F i k)]=some (mq (k+1) (fun _=>rw.length) (fun k i=>-F i k)):=by
   rw[n6 (by decide) (by rw[bP];omega)]
   unfold mq;rw[List.range_succ,List.map_append];rfl
  have e6:mH 64 (vq k (fun k=>-O 0 k)) [qn (-O 0 k)]=some (vq (k+1) (fun k=>-O 0 k)):=by rw[n6 (by decide) (by rw[bt];omega),nn]
  generalize qn (O 0 k)=q at e3 e4
  generalize qn (-O 0 k)=q2 at e4 e6
  exact bind_eq e5<|bind_eq e3<|bind_eq e4<|bind_eq e6<|bind_eq (congrArg some (aW (by omega))) rfl
theorem copy_eq(ho:cV M ob O)(hr:cV L rw F)(hb:bL K bd g)(hM:M≤3000000000)(hL:L≤3000000000)(hK:K≤3000000000)(l1:ob.length≤1000000)(l2:rw.length≤1000000)(l3:bd.length≤1000000)(w1:∀v∈ob,v.length≤1000000)(w2:∀v∈rw,v.length≤1000000):
  nO ⟨n,ob,rw,bd⟩=some ⟨n,mq ob.length (fun i=>(ob.getD i []).length) O,mq rw.length (fun i=>(rw.getD i []).length) F,vq bd.length g⟩:=by
 have hone:∀x:Rat,(((1:Int):Rat))*x=x:=fun x=>by
  have:(((1:Int):Rat))=1:=by decide
  rw[this];grind
 obtain⟨c,e1,r1⟩:=int' (n:=1) (by decide)
 have e2:=(GP r1 ho (by omega) l1 w1).1
 have e3:=(GP r1 hr (by omega) l2 w2).1
 have e4:=(Am r1 hb (by omega) l3).1
 rw[rU (G:=O) (fun i _=>⟨rfl,fun k _=>hone _⟩)]at e2
 rw[rU (G:=F) (fun i _=>⟨rfl,fun k _=>hone _⟩)]at e3
 rw[mF (fun i _=>hone _)]at e4
 unfold nO
 exact bind_eq e1<|bind_eq e2<|bind_eq e3<|bind_eq e4 rfl
theorem NG(h1:ob.length≤9223372036854775806)(h2:rw.length≤9223372036854775806){k:Int}(h:¬(qa n ob rw bd∧0≤k∧k<ob.length)):cf ⟨n,ob,rw,bd⟩ k=some (⟨0,[],[],[]⟩,1):=by
 unfold cf
 refine bG<|bind_eq (pX h1 h2)<|bind_eq rfl<|vr (fun _=>bind_eq rfl rfl)<|vr (fun _=>bind_eq rfl<|bind_eq rfl rfl)<|bn ?_ rfl
 simp only[Bool.or_eq_true,Bool.not_eq_true',decide_eq_true_eq,decide_eq_false_iff_not]
 by_cases hv:qa n ob rw bd
 ·have:¬(0≤k∧k<ob.length):=fun q=>h ⟨hv,q⟩
  omega
 ·exact .inl (.inl hv)
theorem NH(ho:cV M ob O)(hr:cV L rw F)(hb:bL K bd g)(hM:M≤3000000000)(hL:L≤3000000000)(hK:K≤3000000000)(hv:qa n ob rw bd){k:Nat}(hk:k<ob.length):
  cf ⟨n,ob,rw,bd⟩ (k:Int)=some (⟨n,mq 1 (fun _=>(ob.getD k []).length) (fun _=>O k),mq rw.length (fun i=>(rw.getD i []).length) F,vq bd.length g⟩,0):=by
 have qb:=hv
 unfold qa at qb
 have Y3:∀v∈ob,v.length≤64:=fun v hm=>by have:=eD.1 (Nat.le_refl (ia ob)) v hm;omega
 have Ym:∀v∈rw,v.length≤64:=fun v hm=>by have:=eD.1 (Nat.le_refl (ia rw)) v hm;omega
 have hsub:vX ob (k:Int) ((k+1:Nat):Int)=some [ob.getD k []]:=by
  rw[Dk (by omega) (by omega)]
  unfold Fw.cut
  have hg:ob.getD k []=ob[k]:=by simp[List.getD,hk]
  rw[show k+1-k=1 by omega,List.drop_eq_getElem_cons hk,hg];rfl
 have hx:cV M [ob.getD k []] (fun i j=>if i=0 then O k j else 0):=DE (ho.row k)
 have hmem:ob.getD k []∈ob:=List.mem_of_getElem? (bz (d:=[]) hk)
 have e1:=copy_eq (n:=n) hx hr hb hM hL hK (by simp) (by omega) (by omega) (fun v hm=>by rw[List.mem_singleton.1 hm];have:=Y3 _ hmem;omega) (fun v hm=>by have:=Ym v hm;omega)
 rw[rU (n:=[ob.getD k []].length) (ln':=fun _=>(ob.getD k []).length) (G:=fun _=>O k) (fun i hi=>by
  have:i=0:=by simp at hi;omega
  subst this
  exact⟨rfl,fun j _=>if_pos rfl⟩)]at e1
 unfold cf
 refine bG<|bind_eq (pX (by omega) (by omega))<|bind_eq rfl<|vr (fun _=>bind_eq rfl rfl)<|vr (fun _=>bind_eq rfl<|bind_eq rfl rfl)<|aX ?_<|bind_eq (congrArg some (aW (by omega)))<|bind_eq hsub<|bind_eq e1 rfl
 simp only[Bool.or_eq_false_iff,Bool.not_eq_false',decide_eq_true_eq,decide_eq_false_iff_not]
 exact⟨⟨hv,by omega⟩,by omega⟩
end lps
theorem Yx{L M K L' M' K':Nat}{n n':Int}{ob ob' rw rw':List (List Qr)}{bd bd':List Qr}{O O' F F':Nat→Nat→Rat}{g g':Nat→Rat}(ho:cV M ob O)(hr:cV L rw F)(hb:bL K bd g)(ho':cV M' ob' O')(hr':cV L' rw' F')(hb':bL K' bd' g')
  (s1:M+M'≤4000000000) (s2:L+L'≤4000000000) (s3:K+K'≤4000000000) (h0:n=n') (h1:ob.length=ob'.length) (h2:rw.length=rw'.length) (h3:bd.length=bd'.length) (e1:∀i j,O i j=O' i j) (e2:∀i j,F i j=F' i j) (e3:∀i,g i=g' i):pK ⟨n,ob,rw,bd⟩ ⟨n',ob',rw',bd'⟩=some true:=by
 unfold pK iI
 refine bind_eq (bind_eq rfl<|bind_eq rfl<|bind_eq rfl rfl)<|bind_eq (bind_eq rfl<|bind_eq rfl<|bind_eq rfl rfl)<|bind_eq rfl<|aX ?_<|bG<|bind_eq (MA ho ho' s1 e1)<|wz (bind_eq (MA hr hr' s2 e2) rfl)<|wz (bind_eq (ail hb hb' s3 e3) rfl) rfl
 simp[h0,h1,h2,h3]
end Go.Proofs.YtfoldppidpmchaaGreat
namespace Go.Proofs.YtfoldppidpmchaaGreat
open Go.Fw
theorem TL{α:Type}{l:List α}{i:Nat}{a:α}(h:l[i]? =some a):a∈l:=List.mem_of_getElem? h
theorem Rq{l:List (List Qr)}{i:Nat}{P:List Qr→Prop}(hi:i<l.length)(ht:∀v∈l.take i,P v)(hp:P l[i]):∀v∈l.take (i+1),P v:=by
 rw[List.take_add_one,List.getElem?_eq_getElem hi]
 intro u hu
 rcases List.mem_append.1 hu with h|h
 ·exact ht u h
 ·simp at h;rw[h];exact hp
abbrev Sml(v:List Qr):Prop:=v.length≤20∧∀q∈v,q.num.w.length≤6∧q.den.w.length≤6
abbrev Sm8(v:List Qr):Prop:=v.length≤8∧∀q∈v,q.num.w.length≤6∧q.den.w.length≤6
theorem DH(l:List (List Qr))(hl:l.length≤9223372036854775807):∃b,iO l=some b∧(b=false→∀v∈l,Sml v):=by
 unfold iO
 refine j1 (fun y=>∃i:Nat,y=(i:Int)∧i≤l.length∧∀v∈l.take i,Sml v) (fun e=>(∃c,e=.inl c∧∀v∈l,Sml v)∨e=.inr true) (fun y=>l.length-y.toNat) ?_ ⟨0,rfl,by omega,by simp⟩ ?_
 ·rintro _ ⟨i,rfl,hi,ht⟩
  by_cases hlt:i<l.length
  ·have g:=List.getElem?_eq_getElem hlt
   by_cases h1:20<l[i].length
   ·exact .inr ⟨.inr true,bind_eq rfl<|bind_eq (dT (by omega))<|bn rfl<|bG<|bind_eq (aQ g)<|bind_eq rfl<|bind_eq (dT (by omega))<|bind_eq (a:=true) (bn rfl rfl) rfl,.inr rfl⟩
   ·obtain⟨b,hb,hs⟩:=Ji l[i] (by omega)
    cases b
    ·refine .inl ⟨((i+1:Nat):Int),?_,⟨i+1,rfl,hlt,Rq hlt ht ⟨by omega,hs rfl⟩⟩,by simp only[Int.toNat_natCast];omega⟩
     exact bind_eq rfl<|bind_eq (dT (by omega))<|bn rfl<|bG<|bind_eq (aQ g)<|bind_eq rfl<|bind_eq (dF (by omega))<|bind_eq (a:=false) (aX rfl<|bind_eq (aQ g)<|bind_eq hb rfl)<|aX rfl<|bind_eq (congrArg some (aW (by omega))) rfl
    ·exact .inr ⟨.inr true,bind_eq rfl<|bind_eq (dT (by omega))<|bn rfl<|bG<|bind_eq (aQ g)<|bind_eq rfl<|bind_eq (dF (by omega))<|bind_eq (a:=true) (aX rfl<|bind_eq (aQ g)<|bind_eq hb rfl) rfl,.inr rfl⟩
  ·refine .inr ⟨.inl (),?_,.inl ⟨(),rfl,?_⟩⟩
   ·exact bind_eq rfl<|bind_eq (dF (by omega))<|aX rfl rfl
   ·rw[List.take_of_length_le (by omega)]at ht;exact ht
 ·rintro e (⟨c,rfl,he⟩|rfl)
  ·exact⟨false,rfl,fun _=>he⟩
  ·exact⟨true,rfl,fun h=>by cases h⟩
theorem ME(m:List (List Qr))(h:m.length≤9223372036854775806):eU m=some (ia m:Int):=by
 unfold eU
 refine aJ (fun j=>(((m.take j).foldl (fun n v=>max n v.length) 0:Nat),(j:Int))) m.length ((ia m:Nat):Int) (by simp) (fun j hj=>?_) ?_ rfl
 ·refine bind_eq rfl<|bind_eq (dT (by omega))<|bn rfl<|bind_eq (aQ (List.getElem?_eq_getElem hj))<|bind_eq rfl<|bind_eq rfl<|bind_eq (congrArg some (aW (by omega))) ?_
  rw[List.take_add_one,List.getElem?_eq_getElem hj,List.foldl_append]
  simp only[Option.toList_some,List.foldl_cons,List.foldl_nil]
  congr 3
  omega
 ·refine bind_eq rfl<|bind_eq (dF (by omega))<|aX rfl ?_
  rw[List.take_length];rfl
theorem Jm(m:List (List Qr)):∃b,j0 [m]=some b∧(b=false→m.length≤8∧∀v∈m,Sm8 v):=by
 unfold j0
 have hg:bR [m] (0:Int)=some m:=rfl
 by_cases h8:8<m.length
 ·refine⟨true,?_,fun h=>by cases h⟩
  refine aJ (fun j=>(j:Int)) 0 (.inr true) rfl (fun j hj=>by omega) ?_ rfl
  exact bind_eq rfl<|bind_eq (dT (by simp))<|bn rfl<|bG<|bind_eq hg<|bind_eq rfl<|bind_eq (dT (by omega))<|bind_eq (a:=true) (bn rfl rfl)<|bind_eq (a:=true) (bn rfl rfl) rfl
 by_cases hc:8<ia m
 ·refine⟨true,?_,fun h=>by cases h⟩
  refine aJ (fun j=>(j:Int)) 0 (.inr true) rfl (fun j hj=>by omega) ?_ rfl
  exact bind_eq rfl<|bind_eq (dT (by simp))<|bn rfl<|bG<|bind_eq hg<|bind_eq rfl<|bind_eq (dF (by omega))<|bind_eq (a:=true) (aX rfl<|bind_eq hg<|bind_eq (ME m (by omega))<|bind_eq (dT (by omega)) rfl)<|bind_eq (a:=true) (bn rfl rfl) rfl
 obtain⟨b,hb,hs⟩:=DH m (by omega)
 cases b
 ·refine⟨false,?_,fun _=>⟨by omega,fun v hv=>⟨?_,(hs rfl v hv).2⟩⟩⟩
  ·refine aJ (fun j=>(j:Int)) 1 (.inl ()) rfl (fun j hj=>?_) (bind_eq rfl<|bind_eq (dF (by simp))<|aX rfl rfl) rfl
   obtain rfl:j=0:=by omega
   exact bind_eq rfl<|bind_eq (dT (by simp))<|bn rfl<|bG<|bind_eq hg<|bind_eq rfl<|bind_eq (dF (by omega))<|bind_eq (a:=false) (aX rfl<|bind_eq hg<|bind_eq (ME m (by omega))<|bind_eq (dF (by omega)) rfl)<|bind_eq (a:=false) (aX rfl<|bind_eq hg<|bind_eq hb rfl)<|aX rfl<|bind_eq (congrArg some (aW (by omega))) rfl
  ·have:=eD.1 (Nat.le_refl (ia m)) v hv;omega
 ·refine⟨true,?_,fun h=>by cases h⟩
  refine aJ (fun j=>(j:Int)) 0 (.inr true) rfl (fun j hj=>by omega) ?_ rfl
  exact bind_eq rfl<|bind_eq (dT (by simp))<|bn rfl<|bG<|bind_eq hg<|bind_eq rfl<|bind_eq (dF (by omega))<|bind_eq (a:=false) (aX rfl<|bind_eq hg<|bind_eq (ME m (by omega))<|bind_eq (dF (by omega)) rfl)<|bind_eq (a:=true) (aX rfl<|bind_eq hg<|bind_eq hb rfl)<|bn rfl rfl
theorem TM(m:List (List Qr))(h:m.length≤1000):my m=some (decide (∀i,i<m.length→(m.getD i []).length=0)):=by
 unfold my
 refine bind_eq (Ap (p:=fun i=>(m.getD i []).length=0) (e:=false) (n:=m.length) (fun i hi=>?_) (bind_eq rfl<|bind_eq (dF (by omega))<|aX rfl rfl)) ?_
 ·refine bind_eq rfl<|bind_eq (dT (by omega))<|bn rfl<|bind_eq (aQ (bz (d:=[]) hi))<|bind_eq rfl<|bind_eq rfl ?_
  by_cases hz:(m.getD i []).length=0
  ·rw[if_pos hz];exact aX (decide_eq_false (by omega))<|bind_eq (congrArg some (aW (by omega))) rfl
  ·rw[if_neg hz];exact bn (decide_eq_true (by omega)) rfl
 ·by_cases hp:∀i,i<m.length→(m.getD i []).length=0
  ·rw[if_pos hp,decide_eq_true hp]
  ·rw[if_neg hp,decide_eq_false hp]
structure Sm6 (ob rw:List (List Qr)) (bd:List Qr):Prop where
 lo:ob.length≤6
 lr:rw.length≤140
 lb:bd.length≤140
 so:∀v∈ob,Sm8 v
 sr:∀v∈rw,Sm8 v
theorem Rr{n:Int}{ob rw:List (List Qr)}{bd:List Qr}(h1:ob.length≤9223372036854775806)(h2:rw.length≤9223372036854775806)(h3:bd.length≤9223372036854775806):∃b,mz ⟨n,ob,rw,bd⟩=some b∧(b=false→Sm6 ob rw bd):=by
 unfold mz
 obtain⟨b1,e1,s1⟩:=Jm rw
 obtain⟨b2,e2,s2⟩:=Jm ob
 have abG:n5 bd=some (bd.take (min bd.length 20)):=by
  unfold n5
  have hm:min (bd.length:Int) 20=((min bd.length 20:Nat):Int):=by omega
  refine bind_eq rfl<|bind_eq (congrArg some hm)<|bind_eq (oV (by omega)) rfl
 obtain⟨b3,e3,s3⟩:=DH [bd.take (min bd.length 20)] (by simp)
 by_cases c1:6<ob.length
 ·exact⟨true,bG<|bind_eq rfl<|bind_eq (dT (by omega))<|bind_eq (a:=true) (bn rfl rfl)<|bind_eq (a:=true) (bn rfl rfl)<|bind_eq (a:=true) (bn rfl rfl)<|bind_eq (a:=true) (bn rfl rfl)<|bind_eq (a:=true) (bn rfl rfl)<|bind_eq (a:=true) (bn rfl rfl) rfl,fun h=>by cases h⟩
 by_cases c2:140<rw.length
 ·exact⟨true,bG<|bind_eq rfl<|bind_eq (dF (by omega))<|bind_eq (a:=true) (aX rfl<|bind_eq rfl<|bind_eq (dT (by omega)) rfl)<|bind_eq (a:=true) (bn rfl rfl)<|bind_eq (a:=true) (bn rfl rfl)<|bind_eq (a:=true) (bn rfl rfl)<|bind_eq (a:=true) (bn rfl rfl)<|bind_eq (a:=true) (bn rfl rfl) rfl,fun h=>by cases h⟩
 by_cases c3:140<bd.length
 ·exact⟨true,bG<|bind_eq rfl<|bind_eq (dF (by omega))<|bind_eq (a:=false) (aX rfl<|bind_eq rfl<|bind_eq (dF (by omega)) rfl)<|bind_eq (a:=true) (aX rfl<|bind_eq rfl<|bind_eq (dT (by omega)) rfl)<|bind_eq (a:=true) (bn rfl rfl)<|bind_eq (a:=true) (bn rfl rfl)<|bind_eq (a:=true) (bn rfl rfl)<|bind_eq (a:=true) (bn rfl rfl) rfl,fun h=>by cases h⟩
 have eb:=TM rw (by omega)
 by_cases c4:8<rw.length
 ·by_cases c5:∀i,i<rw.length→(rw.getD i []).length=0
  ·rw[decide_eq_true c5]at eb
   refine⟨_,bG<|bind_eq rfl<|bind_eq (dF (by omega))<|bind_eq (a:=false) (aX rfl<|bind_eq rfl<|bind_eq (dF (by omega)) rfl)<|bind_eq (a:=false) (aX rfl<|bind_eq rfl<|bind_eq (dF (by omega)) rfl)<|bind_eq (a:=false) (aX rfl<|bind_eq rfl<|bind_eq (dT (by omega))<|bind_eq (a:=false) (bn rfl<|bind_eq eb<|bind_eq rfl rfl) rfl)<|bind_eq (a:=false) (aX rfl<|bind_eq rfl<|bind_eq (dF (by omega))<|bind_eq (a:=false) (aX rfl rfl) rfl)<|vr (fun _=>bind_eq e2 rfl)<|vr (fun _=>bind_eq abG<|bind_eq e3 rfl) rfl,fun h=>?_⟩
   simp only[Bool.false_or,Bool.or_eq_false_iff]at h
   refine⟨by omega,by omega,by omega,(s2 h.1).2,fun v hv=>?_⟩
   obtain⟨i,hi,rfl⟩:=List.getElem_of_mem hv
   have:=c5 i hi
   rw[List.getD_eq_getElem?_getD,List.getElem?_eq_getElem hi]at this
   have h0:rw[i]=[]:=List.eq_nil_of_length_eq_zero this
   rw[h0];exact⟨by decide,by simp⟩
  ·rw[decide_eq_false c5]at eb
   exact⟨true,bG<|bind_eq rfl<|bind_eq (dF (by omega))<|bind_eq (a:=false) (aX rfl<|bind_eq rfl<|bind_eq (dF (by omega)) rfl)<|bind_eq (a:=false) (aX rfl<|bind_eq rfl<|bind_eq (dF (by omega)) rfl)<|bind_eq (a:=true) (aX rfl<|bind_eq rfl<|bind_eq (dT (by omega))<|bind_eq (a:=true) (bn rfl<|bind_eq eb<|bind_eq rfl rfl) rfl)<|bind_eq (a:=true) (bn rfl rfl)<|bind_eq (a:=true) (bn rfl rfl)<|bind_eq (a:=true) (bn rfl rfl) rfl,fun h=>by cases h⟩
 ·refine⟨_,bG<|bind_eq rfl<|bind_eq (dF (by omega))<|bind_eq (a:=false) (aX rfl<|bind_eq rfl<|bind_eq (dF (by omega)) rfl)<|bind_eq (a:=false) (aX rfl<|bind_eq rfl<|bind_eq (dF (by omega)) rfl)<|bind_eq (a:=false) (aX rfl<|bind_eq rfl<|bind_eq (dF (by omega))<|bind_eq (a:=false) (aX rfl rfl) rfl)<|vr (c:=b1) (fun _=>bind_eq rfl<|bind_eq (dT (by omega))<|bind_eq (a:=b1) (bn rfl<|bind_eq e1 rfl) rfl)<|vr (fun _=>bind_eq e2 rfl)<|vr (fun _=>bind_eq abG<|bind_eq e3 rfl) rfl,fun h=>?_⟩
  simp only[Bool.false_or,Bool.or_eq_false_iff]at h
  exact⟨by omega,by omega,by omega,(s2 h.1.2).2,(s1 h.1.1).2⟩
end Go.Proofs.YtfoldppidpmchaaGreat
namespace Go.Proofs.YtfoldppidpmchaaGreat
open Go.Fw
theorem FQ.neg'{L:Nat}{x:Rat}(h:FQ L x)(h1:1≤L)(hL:L≤10000000000):FQ L (-x):=((h.rep h1).neg hL).2.fq
theorem EV{L:Nat}{m:List (List Qr)}{F:Nat→Nat→Rat}(h:cV L m F){n:Nat}(hn:ia m≤n)(i:Nat){k:Nat}(hk:n≤k):F i k=0:=by
 refine(h.row i).z k ?_
 by_cases hi:i<m.length
 ·have:=eD.1 hn _ (TL (bz (d:=[]) hi));omega
 ·rw[dB (by omega)];exact Nat.zero_le _
theorem MF: -(0:Rat)=0:=by decide
section aiB
variable {K L M:Nat}{n:Int}{ob rw:List (List Qr)}{bd:List Qr}{O F:Nat→Nat→Rat}{g:Nat→Rat}
theorem Yy(hb:bL K bd g)(hK:K≤10000000000):cV K [vq bd.length (fun i=>-g i)] (fun i j=>if i=0 then-g j else 0):=
 DE (mG (fun i _=>(hb.fq i).neg' hb.l1 hK) (fun i hi=>by rw[hb.z i hi];exact MF) hb.l1)
theorem Yz(hr:cV L rw F)(hL:L≤10000000000)(hv:qa n ob rw bd):cV L (mq n.toNat (fun _=>rw.length) (fun k i=>-F i k)) (fun k i=>-F i k):=by
 unfold qa at hv
 refine DD (fun k _ i _=>((hr.row i).fq k).neg' hr.l1 hL) (fun k _ i hi=>by rw[hr.z i hi k];exact MF) (fun k hk i=>?_) hr.l1
 rw[EV hr (n:=n.toNat) (by omega) i hk];exact MF
theorem Rt(ho:cV M ob O)(hM:M≤10000000000)(hv:qa n ob rw bd):bL M (vq n.toNat (fun k=>-O 0 k)) (fun k=>-O 0 k):=by
 unfold qa at hv
 refine mG (fun k _=>((ho.row 0).fq k).neg' ho.l1 hM) (fun k hk=>?_) ho.l1
 rw[EV ho (n:=n.toNat) (by omega) 0 hk];exact MF
theorem YA(hv:qa n ob rw bd)(Qz:rw.length≤64):qa (rw.length:Int) [vq bd.length (fun i=>-g i)] (mq n.toNat (fun _=>rw.length) (fun k i=>-F i k)) (vq n.toNat (fun k=>-O 0 k)):=by
 unfold qa at hv⊢
 refine⟨by omega,by omega,by simp,by simp,by rw[bP];omega,by rw[bt,bP],?_,?_⟩
 ·have:ia [vq bd.length (fun i=>-g i)]≤rw.length:=eD.2 (fun v h=>by rw[List.mem_singleton.1 h,bt];omega)
  omega
 ·have:ia (mq n.toNat (fun _=>rw.length) (fun k i=>-F i k))≤rw.length:=eD.2 (fun v h=>by
   obtain⟨i,hi,rfl⟩:=List.mem_map.1 h
   rw[bt];exact Nat.le_refl _)
  omega
end aiB
theorem Aq{L:Nat}{v:List Qr}{f:Nat→Rat}{q:Qr}{x:Rat}(h:bL L v f)(hq:dL L q x):bL L (q::v) (fun i=>match i with|0=>x|i+1=>f i):=by
 refine⟨fun i hi=>?_,fun i hi=>?_,h.l1⟩
 ·match i,hi with
  |0,_=>exact hq
  |i+1,hi=>exact h.e i (by simpa using hi)
 ·match i,hi with
  |0,hi=>simp at hi
  |i+1,hi=>exact h.z i (by simpa using hi)
theorem TN{n d:Int}(hn:cP n)(hd:cP d)(h0:d≠0):dL 2 (qn (Rat.divInt n d)) (Rat.divInt n d):=(Jd h0 (oX hn) (oX hd) (by decide)).fq.rep (by decide)
theorem YB:gH=some true:=by
 obtain⟨eo,ro⟩:=MB (l:=[[3,5]]) (by decide) (by decide)
 obtain⟨er,rr⟩:=MB (l:=[[1,0],[0,2],[3,2]]) (by decide) (by decide)
 obtain⟨eb,rb⟩:=A6 (l:=[4,12,18]) (by decide) (by decide)
 obtain⟨eo',ro'⟩:=MB (l:=[[-4,-12,-18]]) (by decide) (by decide)
 obtain⟨er',rr'⟩:=MB (l:=[[-1,0,-3],[0,-2,-2]]) (by decide) (by decide)
 obtain⟨eb',rb'⟩:=A6 (l:=[-3,-5]) (by decide) (by decide)
 obtain⟨ex,rx⟩:=A6 (l:=[2,6]) (by decide) (by decide)
 obtain⟨ZX,r36⟩:=A6 (l:=[36]) (by decide) (by decide)
 obtain⟨aiC,aiD⟩:=A6 (l:=[-36]) (by decide) (by decide)
 obtain⟨es,rs⟩:=A6 (l:=[2,0,0]) (by decide) (by decide)
 have e32:=Yv (n:=3) (d:=2) (by decide) (by decide) (by decide)
 have e1:=BL (n:=1) (by decide)
 have r32:dL 2 (qn (Rat.divInt 3 2)) (Rat.divInt 3 2):=TN (by decide) (by decide) (by decide)
 have r1:dL 2 (qn ((1:Int):Rat)) ((1:Int):Rat):=(iP (by decide)).2
 have ry:=Aq (Aq (Aq (bL.nil (L:=2) (by decide)) r1) r32) (Dx (L:=2) (by decide))
 generalize hmo:mq [[(3:Int),5]].length _ _=mo at eo ro
 generalize hmr:mq [[(1:Int),0],[0,2],[3,2]].length _ _=mr at er rr
 generalize hvb:vq [(4:Int),12,18].length _=vb at eb rb
 have lo:mo.length=1:=by rw[←hmo,bP];rfl
 have lr:mr.length=3:=by rw[←hmr,bP];rfl
 have lb:vb.length=3:=by rw[←hvb,bt];rfl
 have wo:∀v∈mo,v.length≤2:=by rw[←hmo];decide+kernel
 have wr:∀v∈mr,v.length≤2:=by rw[←hmr];decide+kernel
 have co:ia mo≤2:=eD.2 wo
 have cr:ia mr≤2:=eD.2 wr
 have hv:qa 2 mo mr vb:=⟨by decide,by decide,by omega,by omega,by omega,by omega,by omega,by omega⟩
 have ed:=MD (n:=2) ro rr rb (by decide) (by decide) (by decide) hv (by omega)
 have do_:=Yy rb (by decide)
 have dr:=Yz rr (by decide) hv
 have db:=Rt ro (by decide) hv
 have dv:=YA (O:=fun i j=>((([[3,5]]:List (List Int)).getD i []).getD j 0:Rat)) (F:=fun i j=>((([[1,0],[0,2],[3,2]]:List (List Int)).getD i []).getD j 0:Rat)) (g:=fun i=>(([4,12,18]:List Int).getD i 0:Rat)) hv (by omega)
 unfold Jl at ed
 have ev:=pX (n:=2) (ob:=mo) (rw:=mr) (bd:=vb) (by omega) (by omega)
 rw[decide_eq_true hv]at ev
 have lx:(vq [(2:Int),6].length (fun i=>(([2,6]:List Int).getD i 0:Rat))).length=2:=bt _ _
 generalize vq [(2:Int),6].length _=vx at ex rx lx
 have ef:=MC (n:=2) (ob:=mo) (N:=2) rr rb rx (fun v hv=>by have:=wr v hv;omega) (by decide) (by decide) (by omega) (by omega) (by omega)
 rw[decide_eq_true (show TJ 2 mo mr vb vx _ _ _ 2 from⟨hv,by omega,by rw[lx];decide+kernel,by rw[lr];decide+kernel⟩)]at ef
 obtain⟨ee,re⟩:=eval_eq (n:=2) (rw:=mr) (bd:=vb) (N:=2) ro rx (fun v hv=>by have:=wo v hv;omega) (by decide) (by omega)
 rw[lo]at ee re
 have c1:=veq re r36 (by decide)
 rw[bt,bt,decide_eq_true (by decide+kernel)]at c1
 obtain⟨esl,fsl⟩:=Rp (n:=2) (ob:=mo) (N:=2) rr rb rx (fun v hv=>by have:=wr v hv;omega) (by decide) (by decide) (by omega)
 rw[lr]at esl fsl
 have nq:=GR fsl (by decide)
 have c2:=veq nq rs (by decide)
 rw[bt,bt,decide_eq_true (by decide+kernel)]at c2
 rw[lb,lr]at ed
 rw[lb]at do_
 rw[lr]at dr
 rw[lb,lr]at dv
 have c3:=Yx (n:=3) (n':=3) do_ dr db ro' rr' rb' (by decide) (by decide) (by decide) rfl (by rw[bP];rfl) (by rw[bP,bP];rfl) (by rw[bt,bt];rfl) (fun i j=>?_) (fun i j=>?_) (fun i=>?_)
 ·have ly:([qz,qn (Rat.divInt 3 2),qn ((1:Int):Rat)]:List Qr).length=3:=rfl
  have eg:=MC (n:=3) (N:=3) dr db ry (ob:=[vq 3 (fun i=>-(([4,12,18]:List Int).getD i 0:Rat))]) (fun v hv=>by rw[ly];omega) (by decide) (by decide) (by simp) (by rw[bP];decide) (by rw[ly];decide)
  rw[decide_eq_true (show TJ 3 _ _ _ _ _ _ _ 3 from⟨dv,by rw[ly];decide,by rw[ly];decide+kernel,by rw[bP];decide+kernel⟩)]at eg
  obtain⟨eh,rh⟩:=eval_eq (n:=3) (rw:=mq 2 (fun _=>3) (fun k i=>-((([[1,0],[0,2],[3,2]]:List (List Int)).getD i []).getD k 0:Rat))) (bd:=vq 2 (fun k=>-((([[3,5]]:List (List Int)).getD 0 []).getD k 0:Rat))) (N:=3) do_ ry (fun v hv=>by rw[ly];omega) (by decide) (by simp)
  have c4:=veq rh aiD (by decide)
  rw[bt,bt,decide_eq_true (by decide+kernel)]at c4
  unfold gH nm
  generalize qn (Rat.divInt 3 2)=q32 at*
  generalize qn ((1:Int):Rat)=q1 at*
  refine bind_eq (bind_eq eo<|bind_eq er<|bind_eq eb rfl)<|bind_eq ed<|bind_eq eo'<|bind_eq er'<|bind_eq eb'<|bind_eq ex<|bind_eq e32<|bind_eq e1<|bG ?_
  exact bind_eq ev<|wz (bind_eq ef rfl)<|wz (bind_eq ee<|bind_eq ZX<|bind_eq c1 rfl)<|wz (bind_eq esl<|bind_eq es<|bind_eq c2 rfl)<|wz (bind_eq (dT rfl) rfl)<|wz (bind_eq c3 rfl)<|wz (bind_eq eg rfl)<|wz (bind_eq eh<|bind_eq aiC<|bind_eq c4 rfl) rfl
 ·match i with
  |0=>
   match j with
   |0=>decide+kernel
   |1=>decide+kernel
   |2=>decide+kernel
   |j+3=>simp only[List.getD_cons_succ,List.getD_cons_zero,List.getD_nil,if_true];decide
  |i+1=>simp only[List.getD_cons_succ,List.getD_nil];rw[if_neg (by omega)];rfl
 ·match j with
  |0=>
   match i with
   |0=>decide+kernel
   |1=>decide+kernel
   |i+2=>simp only[List.getD_cons_succ,List.getD_cons_zero,List.getD_nil];decide
  |1=>
   match i with
   |0=>decide+kernel
   |1=>decide+kernel
   |i+2=>simp only[List.getD_cons_succ,List.getD_cons_zero,List.getD_nil];decide
  |2=>
   match i with
   |0=>decide+kernel
   |1=>decide+kernel
   |i+2=>simp only[List.getD_cons_succ,List.getD_cons_zero,List.getD_nil];decide
  |j+3=>
   match i with
   |0=>simp only[List.getD_cons_succ,List.getD_cons_zero,List.getD_nil];decide
   |1=>simp only[List.getD_cons_succ,List.getD_cons_zero,List.getD_nil];decide
   |i+2=>simp only[List.getD_cons_succ,List.getD_cons_zero,List.getD_nil];decide
 ·match i with
  |0=>decide+kernel
  |1=>decide+kernel
  |i+2=>simp only[List.getD_cons_succ,List.getD_cons_zero,List.getD_nil];decide
end Go.Proofs.YtfoldppidpmchaaGreat
namespace Go.Proofs.YtfoldppidpmchaaGreat
open Go.Fw
abbrev OkM(m:List (List Qr)):Prop:=m.length≤9223372036854775807∧∀v∈m,Y5 v
abbrev OkL(p:Lr):Prop:=cP p.vars∧OkM p.tH∧OkM p.rows∧Y5 p.bounds
abbrev szL(p:Lr):Nat:=1+szM p.tH+szM p.rows+TD p.bounds+1
theorem GS{α:Type}(f:α→Nat)(h:∀x,1≤f x):∀l:List α,l.length≤(l.map f).sum
 |[]=>Nat.le_refl _
 |x::l=>by rw[List.map_cons,List.sum_cons,List.length_cons];have:=GS f h l;have:=h x;omega
theorem MG(m:List (List Qr)):m.length≤szM m:=by have:=GS (fun x=>TD x) (fun x=>by show 1≤_+1;omega) m;show _≤_+1;omega
theorem TO(v:List Qr):v.length≤TD v:=by have:=GS (fun x=>RN x) (fun x=>by show 1≤_+1;omega) v;show _≤_+1;omega
theorem VR{m:List (List Qr)}(h:OkM m)(s:∀v∈m,Sm8 v):cV 6 m (Jj m):=
 TG (fun v hv=>GI (fun q hq=>GN ((h.2 v hv).2 q hq) ((s v hv).2 q hq).1 ((s v hv).2 q hq).2 (by decide)) (by decide)) (by decide)
theorem abI{v:List Qr}(h:Y5 v)(s:Sml v):bL 6 v (Dy v):=GI (fun q hq=>GN (h.2 q hq) (s.2 q hq).1 (s.2 q hq).2 (by decide)) (by decide)
theorem al6:(gH.bind fun x=>some x)=some true:=bind_eq YB rfl
section made
variable {K L M:Nat}{n:Int}{ob rw:List (List Qr)}{bd x:List Qr}{O F:Nat→Nat→Rat}{g f:Nat→Rat}
end made
end Go.Proofs.YtfoldppidpmchaaGreat
namespace Go.Proofs.YtfoldppidpmchaaGreat
open Go.Fw
theorem aiF{L:Nat}{v:List Qr}{f:Nat→Rat}(h:bL L v f)(hL:L≤10000000000)(hn:v.length≤1000):jU v (v.length:Int)=some (vq v.length f):=by
 rw[TB h hL (by omega)]
 rw[show(min (v.length:Int) 65536).toNat=v.length by omega]
theorem Ru{L:Nat}{m m':List (List Qr)}{F G:Nat→Nat→Rat}(h:cV L m F)(k:cV L m' G):cV L (m++m') (fun i=>if i<m.length then F i else G (i-m.length)):=by
 refine⟨fun i v e=>?_,fun i hi j=>?_,h.l1⟩
 ·show bL L v (if i<m.length then F i else G (i-m.length))
  by_cases hi:i<m.length
  ·rw[if_pos hi];rw[List.getElem?_append_left hi]at e;exact h.e i v e
  ·rw[if_neg hi];rw[List.getElem?_append_right (by omega)]at e;exact k.e _ v e
 ·show(if i<m.length then F i else G (i-m.length)) j=0
  rw[List.length_append]at hi
  rw[if_neg (by omega)];exact k.z _ (by omega) j
theorem Rv{L:Nat}{u v:List Qr}{f h:Nat→Rat}(hu:bL L u f)(hv:bL L v h):bL L (u++v) (fun i=>if i<u.length then f i else h (i-u.length)):=by
 refine⟨fun i hi=>?_,fun i hi=>?_,hu.l1⟩
 ·show dL L (u++v)[i] (if i<u.length then f i else h (i-u.length))
  by_cases q:i<u.length
  ·rw[if_pos q,List.getElem_append_left q];exact hu.e i q
  ·rw[if_neg q,List.getElem_append_right (by omega)];exact hv.e _ (by rw[List.length_append]at hi;omega)
 ·show(if i<u.length then f i else h (i-u.length))=0
  rw[List.length_append]at hi
  rw[if_neg (by omega)];exact hv.z _ (by omega)
section ext
variable {K L M N:Nat}{n:Int}{ob rw:List (List Qr)}{bd x:List Qr}{O F:Nat→Nat→Rat}{g f:Nat→Rat}
theorem Rw(ho:cV M ob O)(hr:cV L rw F)(hb:bL K bd g)(hM:M≤3000000000)(hL:L≤3000000000)(hK:K≤3000000000)(l1:ob.length≤1000000)(l2:rw.length≤1000000)(l3:bd.length≤1000000)(w1:∀v∈ob,v.length≤1000000)(w2:∀v∈rw,v.length≤1000000):
  l8 ⟨n,ob,rw,bd⟩=some (n,mq ob.length (fun i=>(ob.getD i []).length) O,mq rw.length (fun i=>(rw.getD i []).length) F,vq bd.length g):=by
 have hone:∀x:Rat,(((1:Int):Rat))*x=x:=fun x=>by
  have:(((1:Int):Rat))=1:=by decide
  rw[this];grind
 obtain⟨c,e1,r1⟩:=int' (n:=1) (by decide)
 have e2:=(GP r1 ho (by omega) l1 w1).1
 have e3:=(GP r1 hr (by omega) l2 w2).1
 have e4:=(Am r1 hb (by omega) l3).1
 rw[rU (G:=O) (fun i _=>⟨rfl,fun k _=>hone _⟩)]at e2
 rw[rU (G:=F) (fun i _=>⟨rfl,fun k _=>hone _⟩)]at e3
 rw[mF (fun i _=>hone _)]at e4
 have Zj:oI c rw=some (mq rw.length (fun i=>(rw.getD i []).length) F):=by rw[←e3];rfl
 have e4':oJ c bd=some (vq bd.length g):=by rw[←e4];rfl
 unfold l8
 exact bind_eq e1<|bind_eq e2<|bind_eq Zj<|bind_eq e4' rfl
structure Cons (l:List Cn) (ln:Nat→Nat) (R:Nat→Nat→Rat) (b:Nat→Rat):Prop where
 c:∀i y,l[i]? =some y→y.row.length=ln i∧bL 12 y.row (R i)∧dL 12 y.most (b i)∧ln i≤1000
 n:l.length≤2
def vu(n:Int)(ob rw:List (List Qr))(bd:List Qr)(l:List Cn)(ln:Nat→Nat):Prop:=qa n ob rw bd∧rw.length+l.length≤128∧∀i,i<l.length→(ln i:Int)≤n
instance(n:Int)(ob rw:List (List Qr))(bd:List Qr)(l:List Cn)(ln:Nat→Nat):Decidable (vu n ob rw bd l ln):=by unfold vu;exact inferInstance
def vv(n:Int)(ob rw:List (List Qr))(bd:List Qr)(O F:Nat→Nat→Rat)(g:Nat→Rat)(m:Nat)(ln:Nat→Nat)(R:Nat→Nat→Rat)(b:Nat→Rat):Lr:=
 ⟨n,mq ob.length (fun i=>(ob.getD i []).length) O,mq rw.length (fun i=>(rw.getD i []).length) F++mq m ln R,vq bd.length g++vq m b⟩
theorem ext_eq{l:List Cn}{ln:Nat→Nat}{R:Nat→Nat→Rat}{b:Nat→Rat}(hc:Cons l ln R b)(ho:cV M ob O)(hr:cV L rw F)(hb:bL K bd g)(hM:M≤3000000000)(hL:L≤3000000000)(hK:K≤3000000000)(l1:ob.length≤1000)(l2:rw.length≤1000):
  lq ⟨n,ob,rw,bd⟩ l=some (if vu n ob rw bd l ln then(vv n ob rw bd O F g l.length ln R b,0)else(⟨0,[],[],[]⟩,1)):=by
 have hn:=hc.n
 have hw:IntKind.i64.wrap ((rw.length:Int)+(l.length:Int))=((rw.length+l.length:Nat):Int):=kG (by omega)
 unfold lq
 refine bG<|bind_eq (pX (by omega) (by omega))<|bind_eq rfl<|vr (fun _=>bind_eq rfl<|bind_eq rfl<|bind_eq (congrArg some hw)<|bind_eq rfl rfl)<|DG (fun h=>?_) (fun h=>?_)
 ·simp only[Bool.or_eq_true,Bool.not_eq_true',decide_eq_true_eq,decide_eq_false_iff_not]at h
  rw[if_neg (fun q=>?_)]
  unfold vu at q
  rcases h with h|h
  ·exact h q.1
  ·omega
 ·simp only[Bool.or_eq_false_iff,Bool.not_eq_false',decide_eq_true_eq,decide_eq_false_iff_not]at h
  obtain⟨hv,h128⟩:=h
  have qb:=hv
  unfold qa at qb
  have Y3:∀v∈ob,v.length≤64:=fun v hm=>by have:=eD.1 (Nat.le_refl (ia ob)) v hm;omega
  have Ym:∀v∈rw,v.length≤64:=fun v hm=>by have:=eD.1 (Nat.le_refl (ia rw)) v hm;omega
  refine bind_eq rfl ?_
  have scan:=Ap (body:=fun(AT:Int)=>(show Option ((Int)⊕((Unit)⊕(Lr×Int)))from(some (decide ((AT:Int)<(l.length:Int)))).bind fun fF=>(bif fF then(bR l AT).bind fun⟨CN,⟨⟨Ii,Ij⟩,⟨Ik,U4⟩⟩⟩=>(some (CN.length:Int)).bind fun fI=>(some (decide ((n:Int)<fI))).bind fun oB=>(bif oB then some (.inr (.inr (⟨0,[],[],[]⟩,1)))else(some (IntKind.i64.wrap (AT+1))).bind fun oU=>some (.inl oU))else some (.inr (.inl ()))))) (n:=l.length) (p:=fun i=>(ln i:Int)≤n) (e:=(⟨0,[],[],[]⟩,1)) (fun k hk=>by
   have gk:=List.getElem?_eq_getElem hk
   obtain⟨q1,-,-,-⟩:=hc.c k _ gk
   generalize l[k]=y at gk q1
   by_cases hp:(ln k:Int)≤n
   ·rw[if_pos hp]
    exact bind_eq (dT (by omega))<|bn rfl<|bind_eq (aQ gk)<|bind_eq rfl<|bind_eq (dF (by omega))<|aX rfl<|bind_eq (congrArg some (aW (by omega))) rfl
   ·rw[if_neg hp]
    exact bind_eq (dT (by omega))<|bn rfl<|bind_eq (aQ gk)<|bind_eq rfl<|bind_eq (dT (by omega))<|bn rfl rfl) (bind_eq (dF (by omega))<|aX rfl rfl)
  refine bind_eq scan ?_
  by_cases hp:∀i,i<l.length→(ln i:Int)≤n
  ·rw[if_pos hp,if_pos (show vu n ob rw bd l ln from⟨hv,by omega,hp⟩)]
   have ec:=Rw (n:=n) ho hr hb hM hL hK (by omega) (by omega) (by omega) (fun v hm=>by have:=Y3 v hm;omega) (fun v hm=>by have:=Ym v hm;omega)
   refine bind_eq ec<|bind_eq rfl ?_
   have lR:(mq rw.length (fun i=>(rw.getD i []).length) F).length=rw.length:=bP _ _ _
   have lB:(vq bd.length g).length=bd.length:=bt _ _
   unfold vv
   generalize mq rw.length (fun i=>(rw.getD i []).length) F=A at*
   generalize vq bd.length g=B at*
   refine aJ (fun j=>((j:Int),A++mq j ln R,B++vq j b)) l.length (A++mq l.length ln R,B++vq l.length b) (by simp[mq,To]) (fun j hj=>?_) ?_ rfl
   ·have gk:=List.getElem?_eq_getElem hj
    obtain⟨q1,q2,q3,q4⟩:=hc.c j _ gk
    generalize l[j]=y at gk q1 q2 q3
    have k1:=aiF q2 (by decide) (by omega)
    have k2:=(q3.canon (by decide)).1
    rw[q1]at k1
    have a1:mH 24 (A++mq j ln R) [vq (ln j) (R j)]=some (A++mq (j+1) ln R):=by
     rw[n6 (by decide) (by rw[List.length_append,bP];omega),List.append_assoc]
     unfold mq;rw[List.range_succ,List.map_append];rfl
    have a2:mH 64 (B++vq j b) [qn (b j)]=some (B++vq (j+1) b):=by
     rw[n6 (by decide) (by rw[List.length_append,bt];omega),List.append_assoc,nn]
    have hlen:((y.row.length:Nat):Int)=((ln j:Nat):Int):=by rw[q1]
    clear q2 q3
    generalize qn (b j)=q at*
    exact bind_eq (dT (by omega))<|bn rfl<|bind_eq (aQ gk)<|bind_eq (congrArg some hlen)<|bind_eq k1<|bind_eq a1<|bind_eq k2<|bind_eq a2<|bind_eq (congrArg some (aW (by omega))) rfl
   ·exact bind_eq (dF (by omega))<|aX rfl rfl
  ·rw[if_neg hp,if_neg (fun q=>hp q.2.2)]
theorem MH{l:List Cn}{ln:Nat→Nat}{R:Nat→Nat→Rat}{b:Nat→Rat}(h:vu n ob rw bd l ln):qa n (vv n ob rw bd O F g l.length ln R b).tH (vv n ob rw bd O F g l.length ln R b).rows (vv n ob rw bd O F g l.length ln R b).bounds:=by
 obtain⟨hv,h1,h2⟩:=h
 unfold qa at hv
 show qa n (mq ob.length (fun i=>(ob.getD i []).length) O) (mq rw.length (fun i=>(rw.getD i []).length) F++mq l.length ln R) (vq bd.length g++vq l.length b)
 have c1:ia (mq ob.length (fun i=>(ob.getD i []).length) O)≤n.toNat:=eD.2 fun v hm=>by
  obtain⟨i,hi,rfl⟩:=List.mem_map.1 hm
  rw[bt]
  show(ob.getD i []).length≤n.toNat
  have:=eD.1 (Nat.le_refl (ia ob)) _ (List.mem_of_getElem? (bz (d:=[]) (List.mem_range.1 hi)))
  omega
 have c2:ia (mq rw.length (fun i=>(rw.getD i []).length) F++mq l.length ln R)≤n.toNat:=eD.2 fun v hm=>by
  rcases List.mem_append.1 hm with hm|hm
  ·obtain⟨i,hi,rfl⟩:=List.mem_map.1 hm
   rw[bt]
   show(rw.getD i []).length≤n.toNat
   have:=eD.1 (Nat.le_refl (ia rw)) _ (List.mem_of_getElem? (bz (d:=[]) (List.mem_range.1 hi)))
   omega
  ·obtain⟨i,hi,rfl⟩:=List.mem_map.1 hm
   rw[bt]
   have:=h2 i (List.mem_range.1 hi)
   omega
 unfold qa
 rw[bP,List.length_append,bP,bP,List.length_append,bt,bt]
 omega
end ext
theorem Js(b:Bool):(some (!(b==b)):Option Bool)=some false:=by cases b<;>rfl
end Go.Proofs.YtfoldppidpmchaaGreat
namespace Go.Proofs.YtfoldppidpmchaaGreat
open Go.Fw
theorem MI(j:Nat)(n:Int):((bif decide ((j:Int)<n)then(some (decide ((j:Int)<65536))).bind fun bV=>some bV else some false):Option Bool)=some (decide (j<(min n 65536).toNat)):=by
 by_cases h:(j:Int)<n
 ·rw[decide_eq_true h,dR,aU]
  by_cases h':(j:Int)<65536
  ·rw[decide_eq_true h',decide_eq_true (by omega)]
  ·rw[decide_eq_false h',decide_eq_false (by omega)]
 ·rw[decide_eq_false h,eO,decide_eq_false (by omega)]
section ops
variable {K L M:Nat}{c:Qr}{a b:List Qr}{k:Rat}{f g:Nat→Rat}
theorem abJ(ha:bL L a f)(hb:bL M b g)(h:L+M≤4000000000)(la:a.length≤1000000)(lb:b.length≤1000000):lF a b=some (ou f g (max a.length b.length)):=by
 unfold lF
 refine fD (fun s=>∃j:Nat,s=(j:Int)∧j≤max a.length b.length∧ou f g j=0) (fun e=>(match e with|.inr v=>v|.inl _=>0)=ou f g (max a.length b.length)) (fun s=>max a.length b.length-s.toNat) ?_ ⟨0,rfl,by omega,rfl⟩ ?_
 ·rintro s ⟨j,rfl,hj,h0⟩
  by_cases hjn:j<max a.length b.length
  ·have a1:=Ao a j
   have a2:=Ao b j
   have e1:=(ha.gd j).aiu (hb.gd j) h
   generalize a.getD j (⟨⟨false,[]⟩,⟨false,[]⟩⟩:Qr)=q1 at e1 a1
   generalize b.getD j (⟨⟨false,[]⟩,⟨false,[]⟩⟩:Qr)=q2 at e1 a2
   obtain⟨⟨_,_⟩,⟨_,_⟩⟩:=q1
   obtain⟨⟨_,_⟩,⟨_,_⟩⟩:=q2
   by_cases hc:mD (f j) (g j)=0
   ·refine .inl ⟨((j+1:Nat):Int),?_,⟨j+1,rfl,by omega,by rw[ou,if_neg (by simpa using h0),hc]⟩,by simp only[Int.toNat_natCast];omega⟩
    rw[tc]
    refine bind_eq rfl<|bind_eq rfl<|bind_eq (DB a b j) ?_
    refine bn (decide_eq_true hjn)<|bind_eq a1<|bind_eq a2<|bind_eq e1<|bind_eq rfl<|aX (decide_eq_false (by simpa using hc))<|bind_eq rfl ?_
    rw[aW (by omega)]
   ·refine .inr ⟨.inr (mD (f j) (g j)),?_,(NF h0 hjn hc).symm⟩
    rw[tc]
    refine bind_eq rfl<|bind_eq rfl<|bind_eq (DB a b j) ?_
    exact bn (decide_eq_true hjn)<|bind_eq a1<|bind_eq a2<|bind_eq e1<|bind_eq rfl<|bn (decide_eq_true hc) rfl
  ·obtain rfl:j=max a.length b.length:=by omega
   refine .inr ⟨.inl (),?_,h0.symm⟩
   rw[tc]
   refine bind_eq rfl<|bind_eq rfl<|bind_eq (DB a b _) ?_
   exact aX (decide_eq_false hjn) rfl
 ·intro e he
  rw[←he]
  cases e<;>rfl
theorem Rx(ha:bL L a f)(h:L≤10000000000)(n:Int):dh a n=some (vq (min n 65536).toNat f):=by
 unfold dh
 refine aJ (fun j=>((j:Int),vq j f)) (min n 65536).toNat (vq (min n 65536).toNat f) rfl (fun j hj=>?_) ?_ rfl
 ·show bD _ _=_
  rw[tc]
  refine bind_eq rfl<|bind_eq (MI j n) ?_
  have a1:=Ao a j
  have e1:=(ha.gd j).GM h
  generalize a.getD j (⟨⟨false,[]⟩,⟨false,[]⟩⟩:Qr)=q1 at e1 a1
  rw[nn]
  generalize qn (f j)=q3 at e1⊢
  obtain⟨⟨_,_⟩,⟨_,_⟩⟩:=q1
  obtain⟨⟨_,_⟩,⟨_,_⟩⟩:=q3
  refine bn (decide_eq_true hj)<|bind_eq a1<|bind_eq e1<|bind_eq (n6 (by omega) (by rw[bt];omega))<|bind_eq rfl ?_
  rw[aW (by omega)]
 ·show bD _ _=_
  rw[tc]
  refine bind_eq rfl<|bind_eq (MI _ n) ?_
  exact aX (decide_eq_false (by omega)) rfl
end ops
end Go.Proofs.YtfoldppidpmchaaGreat
namespace Go.Proofs.YtfoldppidpmchaaGreat
open Go.Fw
theorem vU{L:Nat}{v:List Qr}{f:Nat→Rat}(h:bL L v f)(hL:L≤10000000000)(hn:v.length≤1000):dh v (v.length:Int)=some (vq v.length f):=by
 rw[Rx h hL]
 rw[show(min (v.length:Int) 65536).toNat=v.length by omega]
theorem EW(f:Nat→Rat)(n:Nat):ou f f n=0:=zm.2 fun _ _=>rfl
def Canon(L:Nat)(m:List (List Qr)):Prop:=∀v∈m,∃(k:Nat) (f:Nat→Rat),v=vq k f∧k≤1000∧bL L v f
theorem pY{L n:Nat}{ln:Nat→Nat}{F:Nat→Nat→Rat}(h:∀i,i<n→ln i≤1000∧∀j,j<ln i→FQ L (F i j))(h1:1≤L):Canon L (mq n ln F):=fun v hm=>by
 obtain⟨i,hi,rfl⟩:=List.mem_map.1 hm
 obtain⟨q1,q2⟩:=h i (List.mem_range.1 hi)
 exact⟨ln i,Jk (ln i) (F i),Ro _ _,q1,GR q2 h1⟩
theorem Canon.app{L:Nat}{m m':List (List Qr)}(h:Canon L m)(k:Canon L m'):Canon L (m++m'):=fun v hm=>by
 rcases List.mem_append.1 hm with hm|hm
 ·exact h v hm
 ·exact k v hm
theorem qL{L:Nat}{m:List (List Qr)}(h:Canon L m)(hL:L≤10000000000)(hn:m.length≤1000):fo m=some true:=by
 unfold fo
 refine aJ (fun j=>(j:Int)) m.length (.inl ()) rfl (fun j hj=>?_) ?_ rfl
 ·have g:=List.getElem?_eq_getElem hj
  obtain⟨k,f,e,hk,rv⟩:=h _ (List.getElem_mem hj)
  have hl:m[j].length=k:=by rw[e,bt]
  have e1:=vU rv hL (by omega)
  rw[hl,←e]at e1
  have e2:=rv.ris (by omega) (by omega)
  have hlen:((m[j].length:Nat):Int)=(k:Int):=by rw[hl]
  clear e rv hl
  generalize m[j]=v at*
  exact bind_eq rfl<|bind_eq (dT (by omega))<|bn rfl<|bind_eq (aQ g)<|bind_eq (aQ g)<|bind_eq (aQ g)<|bind_eq (congrArg some hlen)<|bind_eq e1<|bind_eq e2<|bind_eq rfl<|aX rfl<|bind_eq (congrArg some (aW (by omega))) rfl
 ·exact bind_eq rfl<|bind_eq (dF (by omega))<|aX rfl rfl
theorem DI{L:Nat}{m:List (List Qr)}(h:Canon L m)(hL:L≤1000000000)(hn:m.length≤1000):jY m m=some true:=by
 unfold jY
 refine aJ (fun j=>(j:Int)) m.length (.inl ()) rfl (fun j hj=>?_) ?_ rfl
 ·have g:=List.getElem?_eq_getElem hj
  obtain⟨k,f,e,hk,rv⟩:=h _ (List.getElem_mem hj)
  have hl:m[j].length=k:=by rw[e,bt]
  have e1:=abJ rv rv (by omega) (by omega) (by omega)
  rw[EW]at e1
  have er:lG m (j:Int)=some m[j]:=by
   unfold lG
   exact bind_eq rfl<|bind_eq (dT (by omega))<|bn rfl<|bind_eq (aQ g) rfl
  exact bG<|bind_eq rfl<|bind_eq (dT (by omega))<|bind_eq (a:=true) (bn rfl rfl)<|bn rfl<|bind_eq er<|bind_eq er<|bind_eq e1<|bind_eq (dF (by decide))<|aX rfl<|bind_eq (congrArg some (aW (by omega))) rfl
 ·exact bG<|bind_eq rfl<|bind_eq (dF (by omega))<|bind_eq (a:=false) (aX rfl<|bind_eq rfl<|bind_eq (dF (by omega)) rfl)<|aX rfl rfl
theorem Ry{L K:Nat}{n:Int}{ob rw:List (List Qr)}{bd:List Qr}{g:Nat→Rat}(h1:Canon L ob)(h2:Canon L rw)(h3:bL K bd g)(hL:L≤1000000000)(hK:K≤1000000000)(l1:ob.length≤1000)(l2:rw.length≤1000)(l3:bd.length≤1000):dQ ⟨n,ob,rw,bd⟩ ⟨n,ob,rw,bd⟩=some true:=by
 have abK:=abJ h3 h3 (by omega) (by omega) (by omega)
 rw[EW]at abK
 have es:mm ⟨n,ob,rw,bd⟩ ⟨n,ob,rw,bd⟩=some true:=by
  unfold mm
  exact bG<|bind_eq (dF (fun e=>e rfl))<|bind_eq (a:=false) (aX rfl<|bind_eq rfl<|bind_eq rfl<|bind_eq (dF (fun e=>e rfl)) rfl)<|bind_eq (a:=false) (aX rfl<|bind_eq rfl<|bind_eq rfl<|bind_eq (dF (fun e=>e rfl)) rfl)<|bind_eq (a:=false) (aX rfl<|bind_eq rfl<|bind_eq rfl<|bind_eq (dF (fun e=>e rfl)) rfl)<|aX rfl<|bG<|bind_eq (DI h1 hL l1)<|wz (bind_eq (DI h2 hL l2) rfl)<|wz (bind_eq abK<|bind_eq (dT rfl) rfl) rfl
 unfold dQ
 exact bG<|bind_eq es<|bind_eq rfl<|bind_eq (a:=false) (aX rfl<|bind_eq (h3.ris (by omega) (by omega))<|bind_eq rfl rfl)<|aX rfl<|bG<|bind_eq (qL h1 (by omega) l1)<|wz (bind_eq (qL h1 (by omega) l1) rfl)<|wz (bind_eq (qL h2 (by omega) l2) rfl)<|wz (bind_eq (qL h2 (by omega) l2) rfl) rfl
section refs
variable {K L M:Nat}{n:Int}{ob rw:List (List Qr)}{bd:List Qr}{O F:Nat→Nat→Rat}{g:Nat→Rat}
theorem Ar(h1:ob.length≤9223372036854775806)(h2:rw.length≤9223372036854775806):iy ⟨n,ob,rw,bd⟩=some (decide (qa n ob rw bd)):=by
 have sh:∀(m:List (List Qr)),m.length≤9223372036854775806→iZ m n=some (decide ((ia m:Int)≤n)):=fun m hm=>by
  unfold iZ
  exact bind_eq (ME m hm)<|bind_eq rfl rfl
 unfold iy
 refine bG<|bind_eq rfl<|vr (fun _=>bind_eq rfl rfl)<|vr (fun _=>bind_eq rfl<|bind_eq rfl rfl)<|vr (fun _=>bind_eq rfl<|bind_eq rfl rfl)<|vr (fun _=>bind_eq rfl<|bind_eq rfl rfl)<|vr (fun _=>bind_eq rfl<|bind_eq rfl<|bind_eq rfl rfl)<|DG (fun h=>?_) (fun h=>bG<|bind_eq (sh ob h1)<|abC (fun _=>bind_eq (sh rw h2) rfl) ?_)
 ·congr 1;symm;rw[decide_eq_false_iff_not]
  simp only[Bool.or_eq_true,decide_eq_true_eq]at h
  unfold qa;omega
 ·congr 1
  simp only[Bool.or_eq_false_iff,decide_eq_false_iff_not]at h
  rw[←Bool.decide_and,decide_eq_decide]
  unfold qa;omega
theorem Jn(hr:cV L rw F)(hL:L≤10000000000)(l2:rw.length≤1000)(w2:∀v∈rw,v.length≤1000):∀i,i<rw.length→rw[i]? =some (rw.getD i [])∧dh (rw.getD i []) ((rw.getD i []).length:Int)=some (vq (rw.getD i []).length (F i)):=fun i hi=>
 ⟨bz hi,vU (hr.row i) hL (w2 _ (List.mem_of_getElem? (bz (d:=[]) hi)))⟩
theorem MJ(ho:cV M ob O)(hr:cV L rw F)(hb:bL K bd g)(hM:M≤3000000000)(hL:L≤3000000000)(hK:K≤3000000000)(l1:ob.length≤1000)(l2:rw.length≤1000)(l3:bd.length≤1000)(w1:∀v∈ob,v.length≤1000)(w2:∀v∈rw,v.length≤1000):
  nZ ⟨n,ob,rw,bd⟩=some ⟨n,mq ob.length (fun i=>(ob.getD i []).length) O,mq rw.length (fun i=>(rw.getD i []).length) F,vq bd.length g⟩∧mh ⟨n,ob,rw,bd⟩=some (n,mq ob.length (fun i=>(ob.getD i []).length) O,mq rw.length (fun i=>(rw.getD i []).length) F,vq bd.length g):=by
 have f1:=Jn ho (by omega) l1 w1
 have f2:=Jn hr (by omega) l2 w2
 have f3:=vU hb (by omega) (by omega)
 have f3':oP bd (bd.length:Int)=some (vq bd.length g):=by rw[←f3];rfl
 have ap:∀{k:Nat} {ln:Nat→Nat} {G:Nat→Nat→Rat},k≤1000→mH 24 (mq k ln G) [vq (ln k) (G k)]=some (mq (k+1) ln G):=fun hk=>by
  rw[n6 (by decide) (by rw[bP];omega)]
  unfold mq;rw[List.range_succ,List.map_append];rfl
 constructor
 ·unfold nZ
  refine aJ (fun j=>((j:Int),mq j (fun i=>(ob.getD i []).length) O)) ob.length (mq ob.length (fun i=>(ob.getD i []).length) O) rfl (fun j hj=>?_) (bind_eq rfl<|bind_eq (dF (by omega))<|aX rfl rfl)<|aJ (fun j=>((j:Int),mq j (fun i=>(rw.getD i []).length) F)) rw.length (mq rw.length (fun i=>(rw.getD i []).length) F) rfl (fun j hj=>?_) (bind_eq rfl<|bind_eq (dF (by omega))<|aX rfl rfl)<|bind_eq rfl<|bind_eq f3 rfl
  ·obtain⟨g1,g2⟩:=f1 j hj
   exact bind_eq rfl<|bind_eq (dT (by omega))<|bn rfl<|bind_eq (aQ g1)<|bind_eq (aQ g1)<|bind_eq rfl<|bind_eq g2<|bind_eq (ap (by omega))<|bind_eq (congrArg some (aW (by omega))) rfl
  ·obtain⟨g1,g2⟩:=f2 j hj
   exact bind_eq rfl<|bind_eq (dT (by omega))<|bn rfl<|bind_eq (aQ g1)<|bind_eq (aQ g1)<|bind_eq rfl<|bind_eq g2<|bind_eq (ap (by omega))<|bind_eq (congrArg some (aW (by omega))) rfl
 ·unfold mh
  refine aJ (fun j=>((j:Int),mq j (fun i=>(ob.getD i []).length) O)) ob.length (mq ob.length (fun i=>(ob.getD i []).length) O) rfl (fun j hj=>?_) (bind_eq rfl<|bind_eq (dF (by omega))<|aX rfl rfl)<|aJ (fun j=>((j:Int),mq j (fun i=>(rw.getD i []).length) F)) rw.length (mq rw.length (fun i=>(rw.getD i []).length) F) rfl (fun j hj=>?_) (bind_eq rfl<|bind_eq (dF (by omega))<|aX rfl rfl)<|bind_eq rfl<|bind_eq f3' rfl
  ·obtain⟨g1,g2⟩:=f1 j hj
   exact bind_eq rfl<|bind_eq (dT (by omega))<|bn rfl<|bind_eq (aQ g1)<|bind_eq (aQ g1)<|bind_eq rfl<|bind_eq g2<|bind_eq (ap (by omega))<|bind_eq (congrArg some (aW (by omega))) rfl
  ·obtain⟨g1,g2⟩:=f2 j hj
   exact bind_eq rfl<|bind_eq (dT (by omega))<|bn rfl<|bind_eq (aQ g1)<|bind_eq (aQ g1)<|bind_eq rfl<|bind_eq g2<|bind_eq (ap (by omega))<|bind_eq (congrArg some (aW (by omega))) rfl
theorem MK{m:List (List Qr)}{F:Nat→Nat→Rat}(h:∀i,i<m.length→m.getD i []=vq (m.getD i []).length (F i)):mq m.length (fun i=>(m.getD i []).length) F=m:=by
 refine List.ext_getElem (by rw[bP]) (fun i h1 h2=>?_)
 have e:(mq m.length (fun i=>(m.getD i []).length) F)[i]? =some (vq (m.getD i []).length (F i)):=xR h2
 rw[List.getElem?_eq_getElem h1]at e
 rw[Option.some.inj e,←h i h2]
 rw[List.getD_eq_getElem?_getD,List.getElem?_eq_getElem h2];rfl
theorem GU{row:List Qr}{most:Qr}{r:Nat→Rat}{m:Rat}(ho:cV M ob O)(hr:cV L rw F)(hb:bL K bd g)(hrow:bL 12 row r)(hm:dL 12 most m)(hM:M≤3000000000)(hL:L≤3000000000)(hK:K≤3000000000)(l1:ob.length≤1000)(l2:rw.length≤1000)(l3:bd.length≤1000)(w1:∀v∈ob,v.length≤1000)(w2:∀v∈rw,v.length≤1000)(w3:row.length≤1000):
  eV ⟨n,ob,rw,bd⟩ row most=some (if vu n ob rw bd [⟨row,most⟩] (fun _=>row.length)then(vv n ob rw bd O F g 1 (fun _=>row.length) (fun _=>r) (fun _=>m),0)else(⟨0,[],[],[]⟩,1)):=by
 have e1:=(MJ (n:=n) ho hr hb hM hL hK l1 l2 l3 w1 w2).2
 have e2:=vU hrow (by decide) w3
 have e3:=hm.GM (by decide)
 have hA:(mq ob.length (fun i=>(ob.getD i []).length) O).length=ob.length:=bP _ _ _
 have hB:(mq rw.length (fun i=>(rw.getD i []).length) F).length=rw.length:=bP _ _ _
 have hC:(vq bd.length g).length=bd.length:=bt _ _
 have a1:mH 24 (mq rw.length (fun i=>(rw.getD i []).length) F) [vq row.length r]=some (mq rw.length (fun i=>(rw.getD i []).length) F++mq 1 (fun _=>row.length) (fun _=>r)):=by rw[n6 (by decide) (by omega)];rfl
 have a2:mH 64 (vq bd.length g) [qn m]=some (vq bd.length g++vq 1 (fun _=>m)):=by rw[n6 (by decide) (by omega)];rfl
 have m1:=Ar (n:=n) (ob:=ob) (rw:=rw) (bd:=bd) (by omega) (by omega)
 have m2:=Ar (n:=n) (ob:=mq ob.length (fun i=>(ob.getD i []).length) O) (rw:=mq rw.length (fun i=>(rw.getD i []).length) F++mq 1 (fun _=>row.length) (fun _=>r)) (bd:=vq bd.length g++vq 1 (fun _=>m)) (by omega) (by rw[List.length_append,hB,bP];omega)
 have NI:vu n ob rw bd [⟨row,most⟩] (fun _=>row.length)↔qa n ob rw bd∧qa n (mq ob.length (fun i=>(ob.getD i []).length) O) (mq rw.length (fun i=>(rw.getD i []).length) F++mq 1 (fun _=>row.length) (fun _=>r)) (vq bd.length g++vq 1 (fun _=>m)):=by
  constructor
  ·intro q
   exact⟨q.1,MH (l:=[⟨row,most⟩]) (O:=O) (F:=F) (g:=g) (R:=fun _=>r) (b:=fun _=>m) q⟩
  ·rintro⟨q1,q2⟩
   unfold qa at q2
   rw[List.length_append,hB,show(mq 1 (fun _=>row.length) (fun _=>r)).length=1 from bP _ _ _]at q2
   have hv:vq row.length r∈mq rw.length (fun i=>(rw.getD i []).length) F++mq 1 (fun _=>row.length) (fun _=>r):=List.mem_append_right _ (by show _∈[vq row.length r];simp)
   have vW:=eD.1 (Nat.le_refl (ia (mq rw.length (fun i=>(rw.getD i []).length) F++mq 1 (fun _=>row.length) (fun _=>r)))) _ hv
   rw[bt]at vW
   exact⟨q1,by simp only[List.length_cons,List.length_nil];omega,fun i _=>by show(row.length:Int)≤n;omega⟩
 unfold eV vv
 generalize mq ob.length (fun i=>(ob.getD i []).length) O=A at*
 generalize mq rw.length (fun i=>(rw.getD i []).length) F++mq 1 (fun _=>row.length) (fun _=>r)=B' at*
 generalize mq rw.length (fun i=>(rw.getD i []).length) F=B at*
 generalize vq bd.length g++vq 1 (fun _=>m)=C' at*
 generalize vq bd.length g=C at*
 generalize qn m=q at*
 refine bind_eq e1<|bind_eq rfl<|bind_eq e2<|bind_eq a1<|bind_eq e3<|bind_eq a2<|bG<|bind_eq m1<|bind_eq rfl<|vr (fun _=>bind_eq m2<|bind_eq rfl rfl)<|DG (fun h=>?_) (fun h=>?_)
 ·simp only[Bool.or_eq_true,Bool.not_eq_true',decide_eq_false_iff_not]at h
  rw[if_neg (fun q=>by have:=NI.1 q;rcases h with h|h;exact h this.1;exact h this.2)]
 ·simp only[Bool.or_eq_false_iff,Bool.not_eq_false',decide_eq_true_eq]at h
  rw[if_pos (NI.2 h)]
theorem goal_eq(ho:cV M ob O)(hr:cV L rw F)(hb:bL K bd g)(hM:M≤3000000000)(hL:L≤3000000000)(hK:K≤3000000000)(hv:qa n ob rw bd){k:Nat}(hk:k<ob.length):
  gx ⟨n,ob,rw,bd⟩ (k:Int)=some (⟨n,mq 1 (fun _=>(ob.getD k []).length) (fun _=>O k),mq rw.length (fun i=>(rw.getD i []).length) F,vq bd.length g⟩,0):=by
 have qb:=hv
 unfold qa at qb
 have Y3:∀v∈ob,v.length≤64:=fun v hm=>by have:=eD.1 (Nat.le_refl (ia ob)) v hm;omega
 have Ym:∀v∈rw,v.length≤64:=fun v hm=>by have:=eD.1 (Nat.le_refl (ia rw)) v hm;omega
 have e1:=(MJ (n:=n) ho hr hb hM hL hK (by omega) (by omega) (by omega) (fun v hm=>by have:=Y3 v hm;omega) (fun v hm=>by have:=Ym v hm;omega)).1
 have hg:(mq ob.length (fun i=>(ob.getD i []).length) O)[k]? =some (vq (ob.getD k []).length (O k)):=xR hk
 have hA:(mq ob.length (fun i=>(ob.getD i []).length) O).length=ob.length:=bP _ _ _
 have hsub:vX (mq ob.length (fun i=>(ob.getD i []).length) O) (k:Int) ((k+1:Nat):Int)=some (mq 1 (fun _=>(ob.getD k []).length) (fun _=>O k)):=by
  rw[Dk (by omega) (by omega)]
  unfold Fw.cut
  rw[show k+1-k=1 by omega,List.drop_eq_getElem_cons (by omega)]
  rw[List.getElem?_eq_getElem (by omega)]at hg
  rw[Option.some.inj hg];rfl
 unfold gx
 generalize mq ob.length (fun i=>(ob.getD i []).length) O=A at*
 refine bG<|bind_eq (Ar (by omega) (by omega))<|bind_eq rfl<|vr (fun _=>bind_eq rfl rfl)<|vr (fun _=>bind_eq rfl<|bind_eq rfl rfl)<|aX ?_<|bind_eq e1<|bind_eq (congrArg some (aW (by omega)))<|bind_eq hsub rfl
 simp only[Bool.or_eq_false_iff,Bool.not_eq_false',decide_eq_true_eq,decide_eq_false_iff_not]
 exact⟨⟨hv,by omega⟩,by omega⟩
theorem TP(h1:ob.length≤9223372036854775806)(h2:rw.length≤9223372036854775806){k:Int}(h:¬(qa n ob rw bd∧0≤k∧k<ob.length)):gx ⟨n,ob,rw,bd⟩ k=some (⟨0,[],[],[]⟩,1):=by
 unfold gx
 refine bG<|bind_eq (Ar h1 h2)<|bind_eq rfl<|vr (fun _=>bind_eq rfl rfl)<|vr (fun _=>bind_eq rfl<|bind_eq rfl rfl)<|bn ?_ rfl
 simp only[Bool.or_eq_true,Bool.not_eq_true',decide_eq_true_eq,decide_eq_false_iff_not]
 by_cases hv:qa n ob rw bd
 ·have:¬(0≤k∧k<ob.length):=fun q=>h ⟨hv,q⟩
  omega
 ·exact .inl (.inl hv)
theorem YC(h:cV L rw F)(hL:L≤10000000000)(i j:Nat):eN rw (i:Int) (j:Int)=some (qn (F i j)):=by
 unfold eN
 rw[tc]
 by_cases hi:i<rw.length
 ·have g1:=bz (l:=rw) (d:=[]) hi
  have e1:=Ao (rw.getD i []) j
  have e2:=((h.row i).gd j).GM hL
  generalize (rw.getD i []).getD j (⟨⟨false,[]⟩,⟨false,[]⟩⟩:Qr)=q at*
  generalize qn (F i j)=q2 at*
  exact bind_eq (dF (by omega))<|bind_eq (a:=false) (aX rfl<|bind_eq rfl<|bind_eq (dF (by omega)) rfl)<|aX rfl<|bind_eq (aQ g1)<|bind_eq e1<|bind_eq e2 rfl
 ·rw[h.z i (by omega) j]
  exact bind_eq (dF (by omega))<|bind_eq (a:=true) (aX rfl<|bind_eq rfl<|bind_eq (dT (by omega)) rfl)<|bn rfl rfl
theorem TQ(h:cV L rw F)(hL:L≤1000000000)(i j:Nat){c:Qr}{k:Rat}(hc:dL 2 c k):kx 0 c rw [] (i:Int) (j:Int)=some (qn (k*F i j)):=by
 have e1:=YC h (by omega) i j
 have TY:=h.l1
 have e2:=hc.abz (((h.row i).fq j).rep TY) (by omega)
 unfold kx
 generalize qn (F i j)=q at*
 generalize qn (k*F i j)=q2 at*
 exact bind_eq (dF (by decide))<|aX rfl<|bind_eq (dF (by decide))<|aX rfl<|bind_eq (dF (by decide))<|aX rfl<|bind_eq e1<|bind_eq e2 rfl
theorem Rz(h:cV L rw F)(hL:L≤1000000000){c:Qr}{k:Rat}(hc:dL 2 c k)(a b:Nat)(ha:a≤1024)(hb:b≤1024):jX (a:Int) (b:Int) 0 c rw []=some (mq a (fun _=>b) (fun i j=>k*F i j)):=by
 have pl:=fun i j=>TQ h hL i j hc
 unfold jX
 obtain⟨⟨c1,c2⟩,⟨c3,c4⟩⟩:=c
 refine aJ (fun i=>((i:Int),mq i (fun _=>b) (fun i j=>k*F i j))) a (mq a (fun _=>b) (fun i j=>k*F i j)) rfl (fun i hi=>?_) ?_ rfl
 ·refine bind_eq (dT (by omega))<|bn rfl ?_
  refine aJ (fun j=>((j:Int),vq j (fun j=>k*F i j))) b (vq b (fun j=>k*F i j)) rfl (fun j hj=>?_) ?_ ?_
  ·have e1:=pl i j
   have e2:mH 64 (vq j (fun j=>k*F i j)) [qn (k*F i j)]=some (vq (j+1) (fun j=>k*F i j)):=by rw[n6 (by decide) (by rw[bt];omega),nn]
   generalize qn (k*F i j)=q at*
   exact bind_eq (dT (by omega))<|bn rfl<|bind_eq e1<|bind_eq e2<|bind_eq (congrArg some (aW (by omega))) rfl
  ·exact bind_eq (dF (by omega))<|aX rfl rfl
  ·have e3:mH 24 (mq i (fun _=>b) (fun i j=>k*F i j)) [vq b (fun j=>k*F i j)]=some (mq (i+1) (fun _=>b) (fun i j=>k*F i j)):=by
    rw[n6 (by decide) (by rw[bP];omega)]
    unfold mq;rw[List.range_succ,List.map_append];rfl
   exact bind_eq e3<|bind_eq (congrArg some (aW (by omega))) rfl
 ·exact bind_eq (dF (by omega))<|aX rfl rfl
theorem TS(hb:bL K bd g)(hK:K≤1000000000){k:Nat}(hk:k≤1000)(hl:bd.length=k):mg [bd] (k:Int)=some [vq k (fun i=>-g i)]:=by
 have e1:=BL (n:=-1) (by decide)
 have r1:dL 2 (qn ((-1:Int):Rat)) ((-1:Int):Rat):=(iP (by decide)).2
 have e2:=BL (n:=1) (by decide)
 have r2:dL 2 (qn ((1:Int):Rat)) ((1:Int):Rat):=(iP (by decide)).2
 have hx:cV K [bd] (fun i j=>if i=0 then g j else 0):=DE hb
 have e3:=Rz hx hK r2 1 k (by decide) (by omega)
 have hone:∀x:Rat,(((1:Int):Rat))*x=x:=fun x=>by
  have:(((1:Int):Rat))=1:=by decide
  rw[this];grind
 have VU:∀x:Rat,(((-1:Int):Rat))*x=-x:=fun x=>by
  have:(((-1:Int):Rat))=-1:=by decide
  rw[this];grind
 rw[rU (n:=1) (ln':=fun _=>k) (G:=fun _=>g) (fun i hi=>⟨rfl,fun j _=>by rw[show i=0 by omega];exact hone _⟩)]at e3
 have Zj:jX 1 (k:Int) 0 (qn ((1:Int):Rat)) [bd] []=some [vq k g]:=e3
 have rv:bL K (vq k g) g:=mG (fun i _=>hb.fq i) (fun i hi=>hb.z i (by omega)) hb.l1
 have e4:=DC r1 rv (by omega) (by rw[bt];omega)
 rw[bt,mF (fun i _=>VU _)]at e4
 have c1:jN 1=some 1:=rfl
 have c2:jN (k:Int)=some (k:Int):=by
  unfold jN
  exact bind_eq rfl<|bind_eq rfl (congrArg some (by omega))
 have a1:mH 24 ([]:List (List Qr)) [vq k (fun i=>-g i)]=some [vq k (fun i=>-g i)]:=n6 (by decide) (by simp)
 have ef:nY [bd] 1 (k:Int)=some [vq k g]:=by
  unfold nY
  generalize qn ((1:Int):Rat)=q at*
  exact bind_eq c1<|bind_eq c2<|bind_eq e2<|bind_eq Zj rfl
 have es:kz (qn ((-1:Int):Rat)) [vq k g]=some [vq k (fun i=>-g i)]:=by
  unfold kz
  generalize qn ((-1:Int):Rat)=q at*
  refine aJ (fun j=>((j:Int),if j=0 then[]else[vq k (fun i=>-g i)])) 1 [vq k (fun i=>-g i)] rfl (fun j hj=>?_) ?_ rfl
  ·obtain rfl:j=0:=by omega
   exact bind_eq rfl<|bind_eq (dT (by simp))<|bn rfl<|bind_eq (a:=vq k g) rfl<|bind_eq e4<|bind_eq a1<|bind_eq rfl rfl
  ·exact bind_eq rfl<|bind_eq (dF (by simp))<|aX rfl rfl
 unfold mg
 generalize qn ((-1:Int):Rat)=q at*
 exact bind_eq e1<|bind_eq rfl<|bind_eq ef<|bind_eq es rfl
theorem RA(h1:ob.length≤9223372036854775806)(h2:rw.length≤9223372036854775806)(h:¬(qa n ob rw bd∧rw.length≤64)):gw ⟨n,ob,rw,bd⟩=some (⟨0,[],[],[]⟩,1):=by
 unfold gw
 refine bG<|bind_eq (Ar h1 h2)<|bind_eq rfl<|vr (fun _=>bind_eq rfl<|bind_eq rfl rfl)<|vr (fun _=>bind_eq rfl rfl)<|bn ?_ rfl
 simp only[Bool.or_eq_true,Bool.not_eq_true',decide_eq_true_eq,decide_eq_false_iff_not]
 by_cases hv:qa n ob rw bd
 ·exact .inl (.inr (by have:¬rw.length≤64:=fun q=>h ⟨hv,q⟩;omega))
 ·exact .inl (.inl hv)
theorem RB(ho:cV M ob O)(hr:cV L rw F)(hb:bL K bd g)(hM:M≤1000000000)(hL:L≤1000000000)(hK:K≤1000000000)(hv:qa n ob rw bd)(Qz:rw.length≤64):gw ⟨n,ob,rw,bd⟩=some (Jl n rw bd O F g,0):=by
 have qb:=hv
 unfold qa at qb
 obtain⟨N,rfl⟩:∃N:Nat,n=(N:Int):=⟨n.toNat,by omega⟩
 have e1:=TS hb hK (k:=rw.length) (by omega) (by omega)
 have YQ:=hr.l1
 have hM1:=ho.l1
 unfold Jl gw
 rw[Int.toNat_natCast]
 refine bG<|bind_eq (Ar (by omega) (by omega))<|bind_eq rfl<|vr (fun _=>bind_eq rfl<|bind_eq rfl rfl)<|vr (fun _=>bind_eq rfl rfl)<|aX ?_<|bind_eq rfl<|bind_eq rfl<|bind_eq e1 ?_
 ·simp only[Bool.or_eq_false_iff,Bool.not_eq_false',decide_eq_true_eq,decide_eq_false_iff_not]
  exact⟨⟨hv,by omega⟩,by omega⟩
 rw[show bd.length=rw.length by omega]
 refine aJ (fun k=>((k:Int),mq k (fun _=>rw.length) (fun k i=>-F i k),vq k (fun k=>-O 0 k))) N (mq N (fun _=>rw.length) (fun k i=>-F i k),vq N (fun k=>-O 0 k)) rfl (fun k hk=>?_) ?_ rfl
 ·refine bind_eq (dT (by omega))<|bn rfl ?_
  refine aJ (fun j=>((j:Int),vq j (fun i=>-F i k))) rw.length (vq rw.length (fun i=>-F i k)) rfl (fun j hj=>?_) ?_ ?_
  ·have k1:=YC hr (by omega) j k
   have k2:=(((hr.row j).fq k).rep YQ).TA (by omega)
   have k3:mH 64 (vq j (fun i=>-F i k)) [qn (-F j k)]=some (vq (j+1) (fun i=>-F i k)):=by rw[n6 (by decide) (by rw[bt];omega),nn]
   generalize qn (F j k)=q at*
   generalize qn (-F j k)=q2 at*
   exact bind_eq rfl<|bind_eq (dT (by omega))<|bn rfl<|bind_eq k1<|bind_eq k2<|bind_eq k3<|bind_eq (congrArg some (aW (by omega))) rfl
  ·exact bind_eq rfl<|bind_eq (dF (by omega))<|aX rfl rfl
  ·have k1:=YC ho (by omega) 0 k
   have k2:=(((ho.row 0).fq k).rep hM1).TA (by omega)
   have e5:mH 24 (mq k (fun _=>rw.length) (fun k i=>-F i k)) [vq rw.length (fun i=>-F i k)]=some (mq (k+1) (fun _=>rw.length) (fun k i=>-F i k)):=by
    rw[n6 (by decide) (by rw[bP];omega)]
    unfold mq;rw[List.range_succ,List.map_append];rfl
   have e6:mH 64 (vq k (fun k=>-O 0 k)) [qn (-O 0 k)]=some (vq (k+1) (fun k=>-O 0 k)):=by rw[n6 (by decide) (by rw[bt];omega),nn]
   generalize qn (O 0 k)=q at*
   generalize qn (-O 0 k)=q2 at*
   exact bind_eq e5<|bind_eq k1<|bind_eq k2<|bind_eq e6<|bind_eq (congrArg some (aW (by omega))) rfl
 ·exact bind_eq (dF (by omega))<|aX rfl rfl
theorem GV{l:List Cn}{ln:Nat→Nat}{R:Nat→Nat→Rat}{b:Nat→Rat}(hc:Cons l ln R b)(hr:cV L rw F)(hb:bL K bd g)(RC:12≤L)(YD:12≤K):
  cV L (mq rw.length (fun i=>(rw.getD i []).length) F++mq l.length ln R) (fun i=>if i<(mq rw.length (fun i=>(rw.getD i []).length) F).length then F i else(fun i=>if i<l.length then R i else fun _=>0) (i-(mq rw.length (fun i=>(rw.getD i []).length) F).length))∧
  bL K (vq bd.length g++vq l.length b) (fun i=>if i<(vq bd.length g).length then g i else Jk l.length b (i-(vq bd.length g).length)):=by
 have rA:cV L (mq rw.length (fun i=>(rw.getD i []).length) F) F:=DD (fun i _ k _=>(hr.row i).fq k) (fun i _=>(hr.row i).z) hr.z hr.l1
 have hcR:∀i,i<l.length→bL 12 (vq (ln i) (R i)) (R i):=fun i hi=>by
  obtain⟨q1,q2,-,-⟩:=hc.c i _ (List.getElem?_eq_getElem hi)
  exact mG (fun j _=>q2.fq j) (fun j hj=>q2.z j (by omega)) (by decide)
 have hcB:∀i,i<l.length→FQ 12 (b i):=fun i hi=>(hc.c i _ (List.getElem?_eq_getElem hi)).2.2.1.fq
 have rB:cV L (mq l.length ln R) (fun i=>if i<l.length then R i else fun _=>0):=by
  refine⟨fun i v e=>?_,fun i hi k=>?_,hr.l1⟩
  ·have hi:i<l.length:=by have:=(List.getElem?_eq_some_iff.1 e).1;rw[bP]at this;exact this
   rw[xR hi]at e
   rw[←Option.some.inj e]
   show bL L _ (if i<l.length then R i else fun _=>0)
   rw[if_pos hi];exact(hcR i hi).mono RC
  ·rw[bP]at hi
   show(if i<l.length then R i else fun _=>0) k=0
   rw[if_neg (by omega)]
 exact⟨Ru rA rB,Rv (mG (fun i _=>hb.fq i) hb.z hb.l1) (GR (fun i hi=>(hcB i hi).mono YD) hb.l1)⟩
theorem TT{v:List Qr}{f:Nat→Rat}(h:∀i,i<v.length→v[i]? =some (qn (f i))):vq v.length f=v:=by
 refine List.ext_getElem (by rw[bt]) (fun i h1 h2=>?_)
 have e:=h i h2
 rw[List.getElem?_eq_getElem h2]at e
 rw[Mp h1];exact(Option.some.inj e).symm
theorem EX{l:List Cn}{ln:Nat→Nat}{R:Nat→Nat→Rat}{b:Nat→Rat}(hc:Cons l ln R b)(hr:cV L rw F)(RC:12≤L)(w2:∀v∈rw,v.length≤1000):Canon L (mq rw.length (fun i=>(rw.getD i []).length) F++mq l.length ln R):=
 (pY (fun i hi=>⟨w2 _ (List.mem_of_getElem? (bz (d:=[]) hi)),fun j _=>(hr.row i).fq j⟩) hr.l1).app (pY (fun i hi=>by
  obtain⟨q1,q2,-,q4⟩:=hc.c i _ (List.getElem?_eq_getElem hi)
  exact⟨q4,fun j _=>(q2.fq j).mono RC⟩) hr.l1)
theorem abL{a:Nat}{ln:Nat→Nat}{G:Nat→Nat→Rat}:mq (mq a ln G).length (fun i=>((mq a ln G).getD i []).length) G=mq a ln G:=MK (fun i hi=>by
 rw[bP]at hi
 rw[TF hi,bt])
theorem YE{a c:Nat}{ln ln':Nat→Nat}{G H:Nat→Nat→Rat}:mq (mq a ln G++mq c ln' H).length (fun i=>((mq a ln G++mq c ln' H).getD i []).length) (fun i=>if i<(mq a ln G).length then G i else(fun i=>if i<c then H i else fun _=>0) (i-(mq a ln G).length))=mq a ln G++mq c ln' H:=MK (fun i hi=>by
 rw[List.length_append,bP,bP]at hi
 rw[List.getD_eq_getElem?_getD]
 by_cases q:i<a
 ·rw[List.getElem?_append_left (by rw[bP];exact q),xR q,bP,if_pos q]
  show vq (ln i) (G i)=vq (vq (ln i) (G i)).length (G i)
  rw[bt]
 ·rw[List.getElem?_append_right (by rw[bP];omega),bP,xR (show i-a<c by omega),if_neg q]
  show vq (ln' (i-a)) (H (i-a))=vq (vq (ln' (i-a)) (H (i-a))).length (if i-a<c then H (i-a)else fun _=>0)
  rw[bt,if_pos (by omega)])
theorem YF{a c:Nat}{u v:Nat→Rat}:vq (vq a u++vq c v).length (fun i=>if i<(vq a u).length then u i else Jk c v (i-(vq a u).length))=vq a u++vq c v:=TT (fun i hi=>by
 rw[List.length_append,bt,bt]at hi
 by_cases q:i<a
 ·rw[List.getElem?_append_left (by rw[bt];exact q),Rh q,bt,if_pos q]
 ·rw[List.getElem?_append_right (by rw[bt];omega),bt,Rh (show i-a<c by omega),if_neg q,GQ (show i-a<c by omega)])
theorem RE{row:List Qr}{most:Qr}{r:Nat→Rat}{m:Rat}(ho:cV M ob O)(hr:cV L rw F)(hb:bL K bd g)(hrow:bL 6 row r)(hm:dL 6 most m)(hM:M≤3000000000)(hL:L≤3000000000)(hK:K≤3000000000)(RC:12≤L)(YD:12≤K)(l1:ob.length≤500)(l2:rw.length≤500)(l3:bd.length≤500)(w1:∀v∈ob,v.length≤1000)(w2:∀v∈rw,v.length≤1000)(w3:row.length≤1000):
  gG ⟨n,ob,rw,bd⟩ row most=some (if vu n ob rw bd [⟨row,most⟩,⟨vq row.length fun i=>-r i,qn (-m)⟩] (fun _=>row.length)then(vv n ob rw bd O F g 2 (fun _=>row.length) (fun i=>if i=0 then r else fun j=>-r j) (fun i=>if i=0 then m else-m),0)else(⟨0,[],[],[]⟩,1)):=by
 have x1:=GU (n:=n) ho hr hb (hrow.mono (by decide)) (hm.mono (by decide)) hM hL hK (by omega) (by omega) (by omega) w1 w2 w3
 by_cases Y6:vu n ob rw bd [⟨row,most⟩] (fun _=>row.length)
 ·rw[if_pos Y6]at x1
  have c1:Cons [⟨row,most⟩] (fun _=>row.length) (fun _=>r) (fun _=>m):=⟨fun i y e=>by
   have:i=0:=by have:=(List.getElem?_eq_some_iff.1 e).1;simp at this;exact this
   subst this
   have:y=⟨row,most⟩:=by simpa using e.symm
   subst this
   exact⟨rfl,hrow.mono (by decide),hm.mono (by decide),by omega⟩,by simp⟩
  obtain⟨rr2,ss2⟩:=GV c1 hr hb RC YD
  have rO:cV M (mq ob.length (fun i=>(ob.getD i []).length) O) O:=DD (fun i _ k _=>(ho.row i).fq k) (fun i _=>(ho.row i).z) ho.z ho.l1
  have hv2:=MH (O:=O) (F:=F) (g:=g) (R:=fun _=>r) (b:=fun _=>m) Y6
  obtain⟨en,rn⟩:=hm.neg (by decide)
  have en':=hm.TA (by decide)
  have rs':bL 12 (vq row.length fun i=>-r i) (fun i=>-r i):=mG (fun i _=>((hrow.fq i).neg).mono (by decide)) (fun i hi=>by rw[hrow.z i hi];decide) (by decide)
  have lA:(mq rw.length (fun i=>(rw.getD i []).length) F++mq 1 (fun _=>row.length) (fun _=>r)).length=rw.length+1:=by rw[List.length_append,bP,bP]
  have x2:=GU (n:=n) rO rr2 ss2 rs' (rn.mono (show 6≤12 by decide)) hM hL hK (by rw[bP];omega) (by rw[show([⟨row,most⟩]:List Cn).length=1 from rfl,lA];omega) (by rw[List.length_append,bt,bt];simp;omega) (fun v hm=>by
   obtain⟨i,hi,rfl⟩:=List.mem_map.1 hm
   rw[bt]
   exact w1 _ (List.mem_of_getElem? (bz (d:=[]) (List.mem_range.1 hi)))) (fun v hm=>by
   rcases List.mem_append.1 hm with hm|hm
   ·obtain⟨i,hi,rfl⟩:=List.mem_map.1 hm
    rw[bt]
    exact w2 _ (List.mem_of_getElem? (bz (d:=[]) (List.mem_range.1 hi)))
   ·obtain⟨i,hi,rfl⟩:=List.mem_map.1 hm
    rw[bt];exact w3) (by rw[bt];exact w3)
  have abM:(vq row.length fun i=>-r i).length=row.length:=bt _ _
  have NI:vu n (mq ob.length (fun i=>(ob.getD i []).length) O) (mq rw.length (fun i=>(rw.getD i []).length) F++mq ([⟨row,most⟩]:List Cn).length (fun _=>row.length) (fun _=>r)) (vq bd.length g++vq ([⟨row,most⟩]:List Cn).length (fun _=>m)) [⟨vq row.length fun i=>-r i,qn (-m)⟩] (fun _=>(vq row.length fun i=>-r i).length)↔vu n ob rw bd [⟨row,most⟩,⟨vq row.length fun i=>-r i,qn (-m)⟩] (fun _=>row.length):=by
   have lA':(mq rw.length (fun i=>(rw.getD i []).length) F++mq ([⟨row,most⟩]:List Cn).length (fun _=>row.length) (fun _=>r)).length=rw.length+1:=lA
   constructor
   ·rintro⟨-,q2,-⟩
    rw[lA']at q2
    exact⟨Y6.1,by simp only[List.length_cons,List.length_nil]at q2⊢;omega,fun i _=>Y6.2.2 0 (by simp)⟩
   ·rintro⟨-,q2,q3⟩
    exact⟨hv2,by rw[lA'];simp only[List.length_cons,List.length_nil]at q2⊢;omega,fun i _=>by show((vq row.length fun i=>-r i).length:Int)≤n;rw[abM];exact q3 0 (by simp)⟩
  have hsc:=DC (iP (n:=-1) (by decide)).2 (hrow.mono (show 6≤12 by decide)) (by decide) (by omega)
  have VU:∀x:Rat,(((-1:Int):Rat))*x=-x:=fun x=>by
   have:(((-1:Int):Rat))=-1:=by decide
   rw[this];grind
  rw[mF (fun i _=>VU _)]at hsc
  have ei:=BL (n:=-1) (by decide)
  have hP:vv n (mq ob.length (fun i=>(ob.getD i []).length) O) (mq rw.length (fun i=>(rw.getD i []).length) F++mq ([⟨row,most⟩]:List Cn).length (fun _=>row.length) (fun _=>r)) (vq bd.length g++vq ([⟨row,most⟩]:List Cn).length (fun _=>m)) O
    (fun i=>if i<(mq rw.length (fun i=>(rw.getD i []).length) F).length then F i else(fun i=>if i<([⟨row,most⟩]:List Cn).length then(fun _=>r) i else fun _=>0) (i-(mq rw.length (fun i=>(rw.getD i []).length) F).length)) (fun i=>if i<(vq bd.length g).length then g i else Jk ([⟨row,most⟩]:List Cn).length (fun _=>m) (i-(vq bd.length g).length)) 1 (fun _=>(vq row.length fun i=>-r i).length) (fun _=>fun i=>-r i) (fun _=>-m)=vv n ob rw bd O F g 2 (fun _=>row.length) (fun i=>if i=0 then r else fun j=>-r j) (fun i=>if i=0 then m else-m):=by
   unfold vv
   rw[abL,YE,YF,List.append_assoc,List.append_assoc,abM]
   rfl
  have x2':eV (vv n ob rw bd O F g 1 (fun _=>row.length) (fun _=>r) (fun _=>m)) (vq row.length fun i=>-r i) (qn (-m))=some (if vu n ob rw bd [⟨row,most⟩,⟨vq row.length fun i=>-r i,qn (-m)⟩] (fun _=>row.length)then(vv n ob rw bd O F g 2 (fun _=>row.length) (fun i=>if i=0 then r else fun j=>-r j) (fun i=>if i=0 then m else-m),0)else(⟨0,[],[],[]⟩,1)):=by
   by_cases hE2:vu n ob rw bd [⟨row,most⟩,⟨vq row.length fun i=>-r i,qn (-m)⟩] (fun _=>row.length)
   ·rw[if_pos (NI.2 hE2)]at x2
    rw[if_pos hE2,←hP];exact x2
   ·rw[if_neg (fun q=>hE2 (NI.1 q))]at x2
    rw[if_neg hE2];exact x2
  clear x2 hP NI rn
  generalize vv n ob rw bd O F g 1 (fun _=>row.length) (fun _=>r) (fun _=>m)=w1 at*
  generalize (if vu n ob rw bd [⟨row,most⟩,⟨vq row.length fun i=>-r i,qn (-m)⟩] (fun _=>row.length)then(vv n ob rw bd O F g 2 (fun _=>row.length) (fun i=>if i=0 then r else fun j=>-r j) (fun i=>if i=0 then m else-m),(0:Int))else(⟨0,[],[],[]⟩,1))=w2 at*
  generalize qn (-m)=q1 at*
  generalize qn ((-1:Int):Rat)=q2 at*
  unfold gG
  exact bind_eq x1<|bind_eq (dF (by decide))<|aX rfl<|bind_eq ei<|bind_eq hsc<|bind_eq en'<|bind_eq x2' rfl
 ·rw[if_neg Y6]at x1
  rw[if_neg (fun q=>Y6 ⟨q.1,by have:=q.2.1;simp only[List.length_cons,List.length_nil]at this⊢;omega,fun i hi=>q.2.2 0 (by simp)⟩)]
  unfold gG
  exact bind_eq x1<|bind_eq (dT (by decide))<|bn rfl rfl
end refs
theorem zw:dQ ⟨0,[],[],[]⟩ ⟨0,[],[],[]⟩=some true:=Ry (L:=1) (K:=1) (fun v hm=>by cases hm) (fun v hm=>by cases hm) (bL.nil (by decide)) (by decide) (by decide) (by simp) (by simp) (by simp)
theorem NJ(p:Lr)(k:Int)(row:List Qr)(most:Qr)(op:OkL p)(_ok:cP k)(orw:Y5 row)(om:OkQ most)(hs:szL p+1+TD row+RN most≤1048576):eW p k row most=some true:=by
 obtain⟨n,ob,rw,bd⟩:=p
 obtain⟨on,oo,or_,ob_⟩:=op
 replace oo:OkM ob:=oo
 replace or_:OkM rw:=or_
 replace ob_:Y5 bd:=ob_
 have z1:=MG ob
 have z2:=MG rw
 have z3:=TO bd
 replace hs:1+szM ob+szM rw+TD bd+1+1+TD row+RN most≤1048576:=hs
 obtain⟨b1,e1,s1⟩:=Rr (n:=n) (ob:=ob) (rw:=rw) (bd:=bd) (by omega) (by omega) (by omega)
 obtain⟨b2,e2,s2⟩:=DH [row] (by simp)
 obtain⟨b3,e3,s3⟩:=Ji [most] (by simp)
 unfold eW
 refine bG<|bind_eq e1<|vr (fun _=>bind_eq e2 rfl)<|vr (fun _=>bind_eq e3 rfl)<|DG (fun _=>al6) (fun hb=>?_)
 simp only[Bool.or_eq_false_iff]at hb
 obtain⟨⟨zG,Ff⟩,hb3⟩:=hb
 have s1:=s1 zG
 have srw:=s2 Ff row (by simp)
 have sm:=s3 hb3 most (by simp)
 have ro:=VR oo s1.so
 have rr:cV 12 rw (Jj rw):=(VR or_ s1.sr).mono (by decide)
 have rb:=abE ob_ (by omega)
 have VS:=abI orw srw
 have rm:dL 6 most (qv most):=GN om sm.1 sm.2 (by decide)
 have lr:=srw.1
 have lo:=s1.lo
 have lrw:=s1.lr
 have lbd:=s1.lb
 have wo:∀v∈ob,v.length≤1000:=fun v hm=>by have:=(s1.so v hm).1;omega
 have wr:∀v∈rw,v.length≤1000:=fun v hm=>by have:=(s1.sr v hm).1;omega
 clear s1 s2 s3 srw sm oo or_ ob_ orw om e1 e2 e3
 generalize Jj ob=O at ro
 generalize Jj rw=F at rr
 generalize Dy bd=g at rb
 generalize Dy row=r at VS
 generalize qv most=m at rm
 have cO:Canon 6 (mq ob.length (fun i=>(ob.getD i []).length) O):=pY (fun i hi=>⟨wo _ (List.mem_of_getElem? (bz (d:=[]) hi)),fun j _=>(ro.row i).fq j⟩) (by decide)
 obtain⟨P1,f1,d1,d2,d3⟩:∃P e,jV ⟨n,ob,rw,bd⟩=some (P,e)∧gw ⟨n,ob,rw,bd⟩=some (P,e)∧dQ P P=some true:=by
  by_cases hv:qa n ob rw bd∧rw.length≤64
  ·obtain⟨hv,Qz⟩:=hv
   have qb:=hv
   unfold qa at qb
   refine⟨_,_,MD ro rr rb (by decide) (by decide) (by decide) hv Qz,RB ro rr rb (by decide) (by decide) (by decide) hv Qz,?_⟩
   unfold Jl
   exact Ry (L:=1048576) (fun v hm=>⟨bd.length,fun i=>-g i,List.mem_singleton.1 hm,by omega,by rw[List.mem_singleton.1 hm];exact mG (fun i _=>(rb.fq i).neg) (fun i hi=>by rw[rb.z i hi];decide) (by decide)⟩) (pY (fun i _=>⟨by omega,fun j _=>((rr.row j).fq i).neg.mono (by decide)⟩) (by decide)) (Rt ro (by decide) hv) (by decide) (by decide) (by simp) (by rw[bP];omega) (by rw[bt];omega)
  ·exact⟨_,_,TK (by omega) (by omega) hv,RA (by omega) (by omega) hv,zw⟩
 obtain⟨P2,f2,g1,g2,g3⟩:∃P e,cf ⟨n,ob,rw,bd⟩ k=some (P,e)∧gx ⟨n,ob,rw,bd⟩ k=some (P,e)∧dQ P P=some true:=by
  by_cases hv:qa n ob rw bd∧0≤k∧k<ob.length
  ·obtain⟨hv,h0,hk⟩:=hv
   obtain⟨k,rfl⟩:∃j:Nat,k=(j:Int):=⟨k.toNat,by omega⟩
   refine⟨_,_,NH ro rr rb (by decide) (by decide) (by decide) hv (by omega),goal_eq ro rr rb (by decide) (by decide) (by decide) hv (by omega),?_⟩
   exact Ry (L:=12) (pY (fun i _=>⟨wo _ (List.mem_of_getElem? (bz (d:=[]) (show k<ob.length by omega))),fun j _=>((ro.row k).fq j).mono (by decide)⟩) (by decide)) (pY (fun i hi=>⟨wr _ (List.mem_of_getElem? (bz (d:=[]) hi)),fun j _=>(rr.row i).fq j⟩) (by decide)) (mG (fun i _=>rb.fq i) rb.z rb.l1) (by decide) (by decide) (by rw[bP];omega) (by rw[bP];omega) (by rw[bt];omega)
  ·exact⟨_,_,NG (by omega) (by omega) hv,TP (by omega) (by omega) hv,zw⟩
 have c1:Cons [⟨row,most⟩] (fun _=>row.length) (fun _=>r) (fun _=>m):=⟨fun i y e=>by
  have:i=0:=by have:=(List.getElem?_eq_some_iff.1 e).1;simp at this;exact this
  subst this
  have:y=⟨row,most⟩:=by simpa using e.symm
  subst this
  exact⟨rfl,VS.mono (by decide),rm.mono (by decide),by omega⟩,by simp⟩
 have abN:Canon 12 (mq ob.length (fun i=>(ob.getD i []).length) O):=pY (fun i hi=>⟨wo _ (List.mem_of_getElem? (bz (d:=[]) hi)),fun j _=>((ro.row i).fq j).mono (by decide)⟩) (by decide)
 obtain⟨P3,f3,h1,h2,h3⟩:∃P e,dP ⟨n,ob,rw,bd⟩ row most=some (P,e)∧eV ⟨n,ob,rw,bd⟩ row most=some (P,e)∧dQ P P=some true:=by
  have x1:=ext_eq (n:=n) c1 ro rr rb (by decide) (by decide) (by decide) (by omega) (by omega)
  have x2:=GU (n:=n) ro rr rb (VS.mono (by decide)) (rm.mono (by decide)) (by decide) (by decide) (by decide) (by omega) (by omega) (by omega) wo wr (by omega)
  by_cases hE:vu n ob rw bd [⟨row,most⟩] (fun _=>row.length)
  ·rw[if_pos hE]at x1 x2
   refine⟨_,_,?_,x2,?_⟩
   ·unfold dP;exact bind_eq x1 rfl
   ·unfold vv
    exact Ry abN (EX c1 rr (by decide) wr) (GV c1 rr rb (by decide) (by decide)).2 (by decide) (by decide) (by rw[bP];omega) (by rw[List.length_append,bP,bP];omega) (by rw[List.length_append,bt,bt];omega)
  ·rw[if_neg hE]at x1 x2
   refine⟨_,_,?_,x2,zw⟩
   unfold dP;exact bind_eq x1 rfl
 obtain⟨ci,em1,rc⟩:=int' (n:=-1) (by decide)
 have VU:∀x:Rat,(((-1:Int):Rat))*x=-x:=fun x=>by
  have:(((-1:Int):Rat))=-1:=by decide
  rw[this];grind
 obtain⟨es,rs⟩:=Am rc VS (by decide) (by omega)
 obtain⟨en,rn⟩:=rm.neg (by decide)
 rw[mF (fun i _=>VU _)]at es
 have rs':bL 12 (vq row.length fun i=>-r i) (fun i=>-r i):=mG (fun i _=>((VS.fq i).neg).mono (by decide)) (fun i hi=>by rw[VS.z i hi];decide) (by decide)
 have c2:Cons [⟨row,most⟩,⟨vq row.length fun i=>-r i,qn (-m)⟩] (fun _=>row.length) (fun i=>if i=0 then r else fun j=>-r j) (fun i=>if i=0 then m else-m):=⟨fun i y e=>by
  have:i=0∨i=1:=by have:=(List.getElem?_eq_some_iff.1 e).1;simp at this;omega
  rcases this with rfl|rfl
  ·have:y=⟨row,most⟩:=by simpa using e.symm
   subst this
   exact⟨rfl,VS.mono (by decide),rm.mono (by decide),by omega⟩
  ·have:y=⟨vq row.length fun i=>-r i,qn (-m)⟩:=by simpa using e.symm
   subst this
   exact⟨bt _ _,rs',rn.mono (by decide),by omega⟩,by simp⟩
 obtain⟨P4,f4,k1,k2,k3⟩:∃P e,fC ⟨n,ob,rw,bd⟩ row most=some (P,e)∧gG ⟨n,ob,rw,bd⟩ row most=some (P,e)∧dQ P P=some true:=by
  have x1:=ext_eq (n:=n) c2 ro rr rb (by decide) (by decide) (by decide) (by omega) (by omega)
  have x2:=RE (n:=n) ro rr rb VS rm (by decide) (by decide) (by decide) (by decide) (by decide) (by omega) (by omega) (by omega) wo wr (by omega)
  by_cases hE:vu n ob rw bd [⟨row,most⟩,⟨vq row.length fun i=>-r i,qn (-m)⟩] (fun _=>row.length)
  ·rw[if_pos hE]at x1 x2
   refine⟨_,_,?_,x2,?_⟩
   ·unfold fC
    exact bind_eq em1<|bind_eq es<|bind_eq en<|bind_eq x1 rfl
   ·unfold vv
    exact Ry abN (EX c2 rr (by decide) wr) (GV c2 rr rb (by decide) (by decide)).2 (by decide) (by decide) (by rw[bP];omega) (by rw[List.length_append,bP,bP];omega) (by rw[List.length_append,bt,bt];omega)
  ·rw[if_neg hE]at x1 x2
   refine⟨_,_,?_,x2,zw⟩
   unfold fC
   exact bind_eq em1<|bind_eq es<|bind_eq en<|bind_eq x1 rfl
 obtain⟨a1,a2,a3,a4⟩:=P1
 obtain⟨q1,q2,q3,q4⟩:=P2
 obtain⟨t1,t2,t3,t4⟩:=P3
 obtain⟨u1,u2,u3,u4⟩:=P4
 exact bind_eq d1<|bind_eq d2<|bG<|bind_eq d3<|bind_eq rfl<|bind_eq (a:=false) (aX rfl<|bind_eq (dF (fun e=>e rfl)) rfl)<|aX rfl<|bind_eq g1<|bind_eq g2<|bG<|bind_eq g3<|bind_eq rfl<|bind_eq (a:=false) (aX rfl<|bind_eq (dF (fun e=>e rfl)) rfl)<|aX rfl<|bind_eq h1<|bind_eq h2<|bG<|bind_eq h3<|bind_eq rfl<|bind_eq (a:=false) (aX rfl<|bind_eq (dF (fun e=>e rfl)) rfl)<|aX rfl<|bind_eq k1<|bind_eq k2<|bG<|bind_eq k3<|wz (bind_eq (dT rfl) rfl)<|wz al6 rfl
end Go.Proofs.YtfoldppidpmchaaGreat
namespace Go.Proofs.YtfoldppidpmchaaGreat
open Go.Fw Go.RowKit Go.ChangeShapes Go.WideShapes Go.ChangeAt
set_option linter.unusedVariables false
set_option maxRecDepth 100000 in
theorem oS(H:Type)(enc:TypeId×Value→H)(W:World)(base:Nat)(args:Array Value)(ds gs:List (DataW H))(before:List MemPlace)
  (hval:∀(j:Nat) t v,Tryz.f7.params[j]? =some t→args[j]? =some v→Value.okWide Tryz.prog W .any base t v)
  (hW:DataW.Whole enc Tryz.prog Tryz.f7.params.toList Rows.lpBuildMatchesSpec.vars false W args.toList ds gs before) (hk:Rows.uptoSmall H (ds++gs)=true):
  Calls Tryz.prog 7 args W fun e W'=>∃v,e=.returned v∧Rows.lpBuildMatchesSpec.post enc Tryz.prog Tryz.f7 false true false false W args v W':=by
 have hW':=hW
 obtain⟨p,q,hA0,hV,rfl,hfz,hnd⟩:=hW
 have hA:DataW.TrodAll enc Tryz.prog W 0 (fun _=>true) true Tryz.f7.params.toList args.toList ds p:=hA0
 rw[Tryz.params7]at hA hval
 obtain⟨v0,RY,d0,ds0,p0,q0,hargs,rfl,rfl,h0,r0⟩:=trodAll_cons hA
 obtain⟨v1,vs1,d1,ds1,p1,q1,rfl,rfl,rfl,h1,r1⟩:=trodAll_cons r0
 obtain⟨v2,vs2,d2,ds2,p2,q2,rfl,rfl,rfl,h2,r2⟩:=trodAll_cons r1
 obtain⟨v3,vs3,d3,ds3,p3,q3,rfl,rfl,rfl,h3,r3⟩:=trodAll_cons r2
 obtain⟨rfl,rfl,rfl⟩:=trodAll_nil r3
 obtain rfl:args=#[v0,v1,v2,v3]:=by cases args;simp_all
 obtain⟨rfl,rfl⟩:=trodVars_none hV
 have lt0:∀x∈p0,x.block<W.heap.size:=by obtain⟨m,hm⟩:=h0;exact DataW.trod_lt m _ _ _ hm
 obtain⟨x0,ok0,sz0,al0⟩:=Lt (P:=Tryz.prog) (T:=26) (e:=qO) (hval 0 26 v0 rfl rfl) h0
 have lt1:∀x∈p1,x.block<W.heap.size:=by obtain⟨m,hm⟩:=h1;exact DataW.trod_lt m _ _ _ hm
 obtain⟨x1,ok1,sz1,al1⟩:=Ls (P:=Tryz.prog) (T:=3) (e:=aV) (hval 1 3 v1 rfl rfl) h1
 have lt2:∀x∈p2,x.block<W.heap.size:=by obtain⟨m,hm⟩:=h2;exact DataW.trod_lt m _ _ _ hm
 obtain⟨x2,ok2,sz2,al2⟩:=Ls (P:=Tryz.prog) (T:=24) (e:=(eS 4 eQ)) (hval 2 24 v2 rfl rfl) h2
 have lt3:∀x∈p3,x.block<W.heap.size:=by obtain⟨m,hm⟩:=h3;exact DataW.trod_lt m _ _ _ hm
 obtain⟨x3,ok3,sz3,al3⟩:=Lt (P:=Tryz.prog) (T:=36) (e:=eQ) (hval 3 36 v3 rfl rfl) h3
 have hsz:Rows.uptoBulk d0+Rows.uptoBulk d1+Rows.uptoBulk d2+Rows.uptoBulk d3≤1048576:=by
  have:=of_decide_eq_true hk;simp only[List.cons_append,List.nil_append,List.append_nil,Rows.uptoBulkAll]at this;omega
 clear hA0
 refine(Sq (rN (NJ x0 x1 x2 x3 ok0 ok1 ok2 ok3 (Nat.le_trans (Nat.add_le_add (Nat.add_le_add (Nat.add_le_add sz0 sz1) sz2) sz3) hsz))) (W:=W) (vs:=[v0,v1,v2,v3]) ⟨al0,al1.1,al2.1,al3,trivial⟩).mono fun e W' ⟨he,bel⟩=>?_
 subst he
 exact⟨_,rfl,_,_,_,[],_,[],hW',trodAll_mk1 (shut_bool Tryz.underlying4 _),(trodAll_cons_mk (Below.trod yl (by kernel_rfl) (of_decide_eq_true (by kernel_rfl)) h0 bel lt0) (trodAll_cons_mk (Below.trod yl (by kernel_rfl) (of_decide_eq_true (by kernel_rfl)) h1 bel lt1) (trodAll_cons_mk (Below.trod yl (by kernel_rfl) (of_decide_eq_true (by kernel_rfl)) h2 bel lt2) (trodAll_cons_mk (Below.trod yl (by kernel_rfl) (of_decide_eq_true (by kernel_rfl)) h3 bel lt3) trodAll_mk0)))),rfl,bel.frame _,fun h=>by cases h⟩
set_option maxRecDepth 100000 in
theorem qg(os:Os)(started:os.Started)(H:Type)(enc:TypeId×Value→H)(F:Stop.Interp):
  ReturnsInHanded {} Tryz.checked os 7 .any ((Rows.OpenSpec.upto Rows.lpBuildMatchesSpec).pre6 enc Tryz.prog Tryz.f7 Rows.lpBuildMatchesUptoRow.domain false) (((Rows.OpenSpec.upto Rows.lpBuildMatchesSpec).at F).post enc Tryz.prog Tryz.f7 false true false false):=by
 refine returnsInHanded_of_cond (C:=Tryz.checked) (s:=Rows.OpenSpec.upto Rows.lpBuildMatchesSpec) (k:=Rows.uptoSmall) rfl adv started (by kernel_rfl) Tryz.func7
  (OpenSpec.witness (enc:=enc) (C:=Tryz.checked) (s:=Rows.OpenSpec.upto Rows.lpBuildMatchesSpec) (k:=Rows.uptoSmall) rfl false ⟨#[],#[.agg #[.int .i64 0,.slice none 0 0,.slice none 0 0,.slice none 0 0],.int .i64 0,.slice none 0 0,.agg #[.bool false,.slice none 0 0,.bool false,.slice none 0 0]],[]⟩ 8 (by kernel_rfl) (by kernel_rfl) (by kernel_rfl)
   (x:=([.agg [.lit (.int .i64 0),.nil,.nil,.nil],.lit (.int .i64 0),.nil,.agg [.agg [.lit (.bool false),.nil],.agg [.lit (.bool false),.nil]]],[],[])) (by kernel_rfl) rfl (by kernel_rfl)) ?_
 intro W base args ds gs before hval hW _ hk _
 exact oS H enc W base args ds gs before hval hW hk
theorem lpBuildMatchesUpto_holds:Rows.LpBuildMatchesUptoSaid:=
 OpenClaim.holds_of_cond 7 Tryz.f7 rfl rfl rfl rfl rfl rfl rfl ⟨rfl,rfl,rfl,rfl,rfl⟩ rfl rfl rfl rfl rfl (by kernel_rfl) Tryz.func7 (by kernel_rfl)
  (of_decide_eq_true (by kernel_rfl)) (by unfold Func.isWrapper;first|(rw[if_pos (by decide+kernel)];kernel_rfl)|(rw[if_neg (by decide+kernel)];exact⟨rfl,rfl⟩))
  (fun os started H enc _ F=>qg os started H enc F)
end Go.Proofs.YtfoldppidpmchaaGreat
