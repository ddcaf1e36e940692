/- The law BookIndependent answers true for every input. -/
import Derived.Test.YtmiflmkdaeianaaPSI3
set_option linter.unusedVariables false
set_option linter.unusedSimpArgs false
set_option linter.unusedSectionVars false
namespace Go.Proofs.Ytmiflmkdaeianaa
section
open Go.Fw
theorem VA{B V:Nat}(hB:0<B)(hV:0<V)(A k:Nat):A%(V*B^(k+1))/B^k<B*V:=by
 rw[Nat.div_lt_iff_lt_mul (Nat.pow_pos hB)];have:V*B^(k+1)=B*V*B^k:=by rw[Nat.pow_succ,Nat.mul_comm (B^k),<-Nat.mul_assoc,Nat.mul_comm V]
 rw[<-this];exact Nat.mod_lt _ (Nat.mul_pos hV (Nat.pow_pos hB))
theorem OV{B V:Nat}(A k:Nat):A%(V*B^(k+1))%B^k+B^k*(A%(V*B^(k+1))/B^k%V)=A%(V*B^k):=by
 rw[<-Nat.mod_mul,Nat.mul_comm (B^k),Nat.mod_mod_of_dvd];rw[Nat.pow_succ,<-Nat.mul_assoc];exact Nat.dvd_mul_right _ _
theorem OW{B V:Nat}(A k:Nat):A%(V*B^(k+1))/B^k/V=A/V/B^k%B:=by
 rw[Nat.div_div_eq_div_mul,Nat.mul_comm (B^k),Nat.pow_succ,<-Nat.mul_assoc,Nat.mod_mul_right_div_self,Nat.div_div_eq_div_mul]
theorem H6{B:Nat}(hB:0<B){N k:Nat}(h:k<N)(Q:Nat):(ee B N (Q/B^(k+1)*B^(k+1))).set k (Q/B^k%B)=ee B N (Q/B^k*B^k):=by
 have hP:0<B^k:=Nat.pow_pos hB;refine oF hB h (Nat.mod_lt _ hB) ?_ ?_ ?_
 ·rw[Nat.mul_mod_left,Nat.pow_succ,Nat.mul_comm (B^k),<-Nat.mul_assoc,Nat.mul_mod_left]
 ·rw[Nat.mul_div_cancel _ hP]
 rw[Nat.mul_div_cancel _ (Nat.pow_pos hB),Nat.pow_succ,<-Nat.div_div_eq_div_mul,Nat.mul_div_cancel _ hP,Nat.div_div_eq_div_mul]
theorem Eb{α:Type}{l:List α}{o n:Nat}(h:o<l.length)(h':o+n<=l.length):M7 l (o:Int) ((o+n:Nat):Int)=some (o,n):=by
 unfold M7;rw[if_pos (by omega)];congr 2;omega
theorem Ke{U V g M:Nat}(hV:0<V)(h1:U/V<=g)(h2:g<=U/V+1)(hM:U<M)(hVM:V<=M):
  (V*g<=U/\g=U/V/\(U+M-V*g)%M=U%V)\/(U<V*g/\g=U/V+1/\U+M-V*g<M/\(U+M-V*g+V)%M=U%V):=by
 have hd:=Nat.div_add_mod U V;have hm:=Nat.mod_lt U hV
 revert h1 h2 hd hm
 generalize U/V=q;generalize U%V=r;intro h1 h2 hd hm;rcases Nat.lt_or_ge q g with h|h
 ·obtain rfl:g=q+1:=by omega
  have e:V*(q+1)=V*q+V:=Nat.mul_succ ..;right;refine⟨by omega,Y,by omega,?_⟩;rw[show U+M-V*(q+1)+V=r+M by omega,Nat.add_mod_right,Nat.mod_eq_of_lt (by omega)]
 obtain rfl:g=q:=by omega
 left;refine⟨by omega,Y,?_⟩;rw[show U+M-V*g=r+M by omega,Nat.add_mod_right,Nat.mod_eq_of_lt (by omega)]
theorem Kf{R D e i:Nat}(hD:0<D)(he:4294967296=D*e):(R*D/4294967296^(i+1)%4294967296*4294967296+R*D/4294967296^i%4294967296)/D%4294967296=R/4294967296^i%4294967296:=by
 have h1:R*D/4294967296^(i+1)%4294967296*4294967296+R*D/4294967296^i%4294967296=R*D/4294967296^i%(4294967296*4294967296):=by
  rw[Nat.mod_mul,Nat.div_div_eq_div_mul,show 4294967296^i*4294967296=4294967296^(i+1)from(Nat.pow_succ ..).symm,Nat.add_comm,Nat.mul_comm 4294967296]
 have h2:(4294967296*4294967296:Nat)=D*(e*4294967296):=by
  rw[<-Nat.mul_assoc,<-he]
 rw[h1,h2,Nat.mod_mul_right_div_self,Nat.mod_mul_left_mod,Nat.div_div_eq_div_mul,Nat.mul_comm (4294967296^i) D,<-Nat.div_div_eq_div_mul,Nat.mul_div_cancel _ hD]
theorem OX{B:Nat}(hB:0<B){N i R:Nat}(h:i<N):(ee B N (R%B^i)).set i (R/B^i%B)=ee B N (R%B^(i+1)):=by
 refine oF hB h (Nat.mod_lt _ hB) ?_ ?_ ?_
 ·rw[Nat.mod_mod,Nat.mod_mod_of_dvd _ (Nat.pow_dvd_pow _ (Nat.le_succ i))]
 ·rw[Nat.pow_succ,Nat.mod_mul_right_div_self,Nat.mod_mod]
 rw[Nat.div_eq_of_lt (Nat.mod_lt _ (Nat.pow_pos hB)),Nat.div_eq_of_lt];exact Nat.lt_of_lt_of_le (Nat.mod_lt _ (Nat.pow_pos hB)) (Nat.pow_le_pow_right hB (Nat.le_succ i))
theorem C1(a b:List Nat)(ha:zT a)(hb:zT b){n:Nat}(hn:b.length=n+2)(hl:b.length<=a.length)(C0:b[n+1]? ≠some 0):
  fV a b=some (ee 4294967296 (a.length-b.length+1) (vl a/vl b),ee 4294967296 b.length (vl a%vl b)):=by
 obtain⟨hA,hla⟩:=ha;obtain⟨hB,hlb⟩:=hb;have hP:∀k,0<4294967296^k:=λk=>Nat.pow_pos (by decide);obtain⟨Va,hVa⟩:∃V,vl a=V:=⟨_,Y⟩;obtain⟨Vb,hVb⟩:∃V,vl b=V:=⟨_,Y⟩;have OY:Vb<4294967296^(n+2):=by rw[<-hVb,<-hn];exact fS b hB
 have halt:Va<4294967296^a.length:=by rw[<-hVa];exact fS a hA
 have BL:4294967296^(n+2)=4294967296^(n+1)*4294967296:=Nat.pow_succ ..;obtain⟨x,hx⟩:∃x,Vb/4294967296^(n+1)=x:=⟨_,Y⟩;have VB:x<4294967296:=by rw[<-hx,Nat.div_lt_iff_lt_mul (hP _)];rw[BL,Nat.mul_comm]at OY;exact OY
 have Xy:b[n+1]? =some x:=by rw[kV hB (by omega),show val 4294967296 b=Vb from hVb,hx,Nat.mod_eq_of_lt VB]
 have hx0:x≠0:=λe=>C0 (by rw[Xy,e]);obtain⟨s,Pn,BZ,hs3,hs4⟩:=Vp x VB hx0;have OD:0<2^s:=Nat.two_pow_pos s;have VC:2^s<4294967296:=by
  have:2^s<2^32:=Nat.pow_lt_pow_right (by decide) BZ;rw[two32]at this;exact this
 obtain⟨D,hD⟩:∃D,2^s=D:=⟨_,Y⟩;rw[hD]at hs3 hs4 OD VC;obtain⟨V,hV⟩:∃V,Vb*D=V:=⟨_,Y⟩;obtain⟨A,XA⟩:∃A,Va*D=A:=⟨_,Y⟩;have uR:V<4294967296^(n+2):=by
  have h1:Vb<(x+1)*4294967296^(n+1):=by rw[<-hx,Nat.add_mul,Nat.one_mul];exact Nat.lt_div_mul_add (hP _)
  have h2:(x+1)*D<=4294967296:=by
   obtain⟨e,he⟩:∃e,4294967296=D*e:=⟨2^(32-s),by rw[<-hD,<-Nat.pow_add,show s+(32-s)=32 by omega,two32]⟩;have h3:x<e:=by
    apply Nat.lt_of_mul_lt_mul_left (a:=D);rw[<-he,Nat.mul_comm];exact hs4
   calc (x+1)*D<=e*D:=Nat.mul_le_mul_right _ h3
    _=4294967296:=by rw[Nat.mul_comm,<-he]
  rw[<-hV,BL]
  calc Vb*D<(x+1)*4294967296^(n+1)*D:=Nat.mul_lt_mul_of_pos_right h1 OD
   _=4294967296^(n+1)*((x+1)*D):=by rw[Nat.mul_comm (x+1),Nat.mul_assoc]
   _<=4294967296^(n+1)*4294967296:=Nat.mul_le_mul_left _ h2
 have H7:2147483648*4294967296^(n+1)<=V:=by
  have h1:x*4294967296^(n+1)<=Vb:=by rw[<-hx];exact Nat.div_mul_le_self _ _
  rw[<-hV]
  calc 2147483648*4294967296^(n+1)<=x*D*4294967296^(n+1):=Nat.mul_le_mul_right _ hs3
   _=x*4294967296^(n+1)*D:=by rw[Nat.mul_assoc,Nat.mul_comm D,<-Nat.mul_assoc]
   _<=Vb*D:=Nat.mul_le_mul_right _ h1
 have OR:0<V:=Nat.lt_of_lt_of_le (Nat.mul_pos (by decide) (hP _)) H7;have hb0:0<Vb:=by
  rcases Nat.eq_zero_or_pos Vb with h|h
  ·rw[<-hV,h,Nat.zero_mul]at OR;omega
  exact h
 have hAV:A/V=Va/Vb:=by rw[<-XA,<-hV,Nat.mul_div_mul_right _ _ OD]
 have abL:A%V=Va%Vb*D:=by rw[<-XA,<-hV,Nat.mul_mod_mul_right]
 obtain⟨K,hK⟩:∃K,a.length=K+(n+2):=⟨a.length-(n+2),by omega⟩;have VD:A<V*4294967296^(K+1):=by
  have h1:4294967296^(n+1)<=Vb:=by
   have:1*4294967296^(n+1)<=x*4294967296^(n+1):=Nat.mul_le_mul_right _ (by omega);have h2:x*4294967296^(n+1)<=Vb:=by rw[<-hx];exact Nat.div_mul_le_self _ _
   omega
  rw[<-XA,<-hV]
  calc Va*D<4294967296^a.length*D:=Nat.mul_lt_mul_of_pos_right halt OD
   _=4294967296^(n+1)*4294967296^(K+1)*D:=by rw[hK,<-Nat.pow_add];congr 2;omega
   _<=Vb*4294967296^(K+1)*D:=Nat.mul_le_mul_right _ (Nat.mul_le_mul_right _ h1)
   _=Vb*D*4294967296^(K+1):=by rw[Nat.mul_assoc,Nat.mul_comm _ D,<-Nat.mul_assoc]
 obtain⟨v,XB⟩:∃v,ee 4294967296 (n+2) V=v:=⟨_,Y⟩;have hvl:v.length=n+2:=by rw[<-XB,bB]
 have hvW:zT v:=⟨λy hy=>by rw[<-XB]at hy;exact jN (by decide) _ _ _ hy,by omega⟩;have VE:vl v=V:=by rw[<-XB];show val _ _=_;rw[iY,Nat.mod_eq_of_lt uR]
 have VF:List.take b.length (ee 4294967296 (b.length+1) (Vb*2^s))=v:=by
  rw[hD,hV,hn,kz,List.take_append_of_le_length (by rw[bB];omega),List.take_of_length_le (by rw[bB];omega),XB]
 unfold fV;simp only[bZ];rw[show((b.length:Nat):Int)-1=((n+1:Nat):Int) by omega,mL (by omega),bt Xy,bZ,Pn,bZ];rw[show((s:Int)%18446744073709551616).toNat=s by rw[Int.emod_eq_of_lt (by omega) (by omega)];simp];rw[xE,shiftLeft_eq a s ⟨hA,hla⟩ BZ,bZ,shiftLeft_eq b s ⟨hB,hlb⟩ BZ,bZ,yq (by rw[bB];omega),bZ];obtain⟨Q,hQ⟩:∃Q,A/V=Q:=⟨_,Y⟩;have abN:Q<4294967296^(K+1):=by rw[<-hQ,Nat.div_lt_iff_lt_mul OR,Nat.mul_comm];exact VD
 rw[hVa,hVb,<-hAV,hQ,VF,hD,XA,hn];rw[show a.length-(n+2)+1=K+1 by omega];rw[eV (x:=(a.length:Int)-((n+2:Nat):Int)) (by omega) (by omega),eV (x:=(a.length:Int)-((n+2:Nat):Int)+1) (by omega) (by omega),show(a.length:Int)-((n+2:Nat):Int)+1=((K+1:Nat):Int) by omega,td (by decide) (by omega),bZ,show(a.length:Int)-((n+2:Nat):Int)=(K:Int) by omega];refine b9 (λj=>((K:Int)-(j:Int),ee 4294967296 (K+1) (Q/4294967296^(K+1-j)*4294967296^(K+1-j)),ee 4294967296 (a.length+1) (A%(V*4294967296^(K+1-j))))) (K+1) (ee 4294967296 (K+1) Q,ee 4294967296 (a.length+1) (A%V)) ?_ (λj hj=>?_) ?_ ?_
 ·rw[show K+1-0=K+1 by omega,Nat.mod_eq_of_lt VD,Nat.div_eq_of_lt abN,Nat.zero_mul,n7];simp
 ·
  obtain⟨k,hk⟩:∃k,K=k+j:=⟨K-j,by omega⟩;rw[show K+1-j=k+1 by omega,show K+1-(j+1)=k by omega,show(K:Int)-(j:Int)=(k:Int) by omega,show(K:Int)-((j+1:Nat):Int)=(k:Int)-1 by omega];have hU:=VA (B:=4294967296) (by decide) OR A k;have Kg:=OV (B:=4294967296) (V:=V) A k;have OZ:=OW (B:=4294967296) (V:=V) A k;obtain⟨N,hN⟩:∃N,a.length+1=N:=⟨_,Y⟩;obtain⟨A1,hA1⟩:∃A1,A%(V*4294967296^(k+1))=A1:=⟨_,Y⟩;rw[hN];rw[hA1]at hU Kg OZ⊢;rw[hQ]at OZ;obtain⟨⟨g,lg⟩,hge,hgl,XC,Iw⟩:=BK (N:=N) (A:=A1) (o:=k) (n:=n) (v:=v) hvW hvl (by omega) (by omega) (by rw[VE];exact hU) (by rw[VE];exact H7);simp only at hgl XC Iw;rw[VE]at XC Iw;subst hgl;have hsub:=oQ (N:=N) (A:=A1) (o:=k) (n:=n+2) (v:=v) (f:=g) hvW hvl (by omega) (by omega) ?_ ?_
  ·rw[VE]at hsub;obtain⟨U,IA⟩:∃U,A1/4294967296^k=U:=⟨_,Y⟩;rw[IA]at hU Kg OZ XC Iw hsub;have Kh:4294967296^(n+2+1)=4294967296^(n+2)*4294967296:=Nat.pow_succ ..;have hUM:U<4294967296^(n+2+1):=by
    have:4294967296*V<4294967296*4294967296^(n+2):=Nat.mul_lt_mul_of_pos_left uR (by decide);rw[Kh];omega
   have Br:=Ke (M:=4294967296^(n+2+1)) OR XC Iw hUM (by rw[Kh];omega);have PK:U/V<4294967296:=by rw[OZ];exact Nat.mod_lt _ (by decide)
   rw[show decide ((0:Int)<=(k:Int))=true by simp,iI];rw[oD (by omega),cM (by omega),show k+(n+2)+1=k+(n+3) by omega,Eb (by rw[bB];omega) (by rw[bB];omega),bZ,hge,bZ,lO Y,bZ,Eb (by rw[bB];omega) (by rw[bB];omega),bZ];show(Option.bind (cu _ k (n+2+1) v g) _)=_;rw[hsub,bZ,lO (by rw[bB,bB]),bZ];simp only[di];rcases Br with⟨hc1,Al,VG⟩|⟨hc1,Al,VG,hc4⟩
   ·rw[show decide (U<V*g)=false by simp;omega,jb,VG,Kg,Al,Nat.mod_eq_of_lt PK,OZ,ec (by rw[bB];omega),bZ,jt (by rw[bB];omega),bZ,H6 (by decide) (by omega),eV (by omega) (by omega)]
   rw[show decide (U<V*g)=true by simp;omega,iI,mM (by omega) (by omega),show g-1=U/V by omega,Nat.mod_eq_of_lt PK,OZ];rw[Nat.mod_eq_of_lt VG];obtain⟨aa,hY⟩:∃aa,U+4294967296^(n+2+1)-V*g=aa:=⟨_,Y⟩;rw[hY]at VG hc4⊢;obtain⟨A2,hA2⟩:∃A2,A1%4294967296^k+4294967296^k*aa=A2:=⟨_,Y⟩;rw[hA2];have YC:A2/4294967296^k=aa:=by rw[<-hA2,Nat.add_mul_div_left _ _ (hP k),Nat.div_eq_of_lt (Nat.mod_lt _ (hP k)),Nat.zero_add]
   have FD:A2%4294967296^k=A1%4294967296^k:=by rw[<-hA2,Nat.add_mul_mod_self_left,Nat.mod_mod]
   have hcr:∀i,Af 4294967296 aa V i<=1:=λi=>CY (by decide) _ _ _;refine b9 (λi=>((i:Int),Af 4294967296 aa V i,ee 4294967296 N (mix 4294967296 k i (aa+V) aa A2))) (n+2) (Af 4294967296 aa V (n+2),ee 4294967296 N (mix 4294967296 k (n+2) (aa+V) aa A2)) ?_ (λi hi=>?_) ?_ ?_
   ·rw[BC,<-YC,BJ];rfl
   ·have xH:v[i]? =some (V/4294967296^i%4294967296):=by rw[<-VE];exact kV hvW.1 (by omega)
    have hgu:(ee 4294967296 N (mix 4294967296 k i (aa+V) aa A2))[k+i]? =some (aa/4294967296^i%4294967296):=by rw[jF (by omega),rS (by decide)]
    have Pn:=BB (B:=4294967296) (by decide) aa V i;have BZ:=zQ (B:=4294967296) (by decide) aa V i;have hput:=zU (B:=4294967296) (by decide) k i (aa+V) aa A2 (N:=N) (by omega);have hci:=hcr i;have hv1:=Nat.mod_lt (V/4294967296^i) (show 0<4294967296 by decide);have PT:=Nat.mod_lt (aa/4294967296^i) (show 0<4294967296 by decide);simp only[show decide ((i:Int)<(v.length:Int))=true by simp;omega,iI];rw[bt xH,bZ,oD (by omega),ec (by rw[bB];omega),bZ,hgu,bZ,Nat.mod_eq_of_lt (a:=aa/4294967296^i%4294967296) (b:=18446744073709551616) (by omega),Nat.mod_eq_of_lt (a:=V/4294967296^i%4294967296) (b:=18446744073709551616) (by omega),Nat.mod_eq_of_lt (b:=18446744073709551616) (by omega),eW _ _ (by omega),bZ,bZ,jt (by rw[bB];omega),bZ,cM (by omega)];rw[Pn,BZ,hput]
   ·simp[hvl]
   have hgu:(ee 4294967296 N (mix 4294967296 k (n+2) (aa+V) aa A2))[k+(n+2)]? =some (aa/4294967296^(n+2)%4294967296):=by rw[jF (by omega),rS (by decide)]
   have BZ:=zQ (B:=4294967296) (by decide) aa V (n+2);have hput:=zU (B:=4294967296) (by decide) k (n+2) (aa+V) aa A2 (N:=N) (by omega);have hci:=hcr (n+2);have PT:=Nat.mod_lt (aa/4294967296^(n+2)) (show 0<4294967296 by decide);rw[Nat.div_eq_of_lt uR,Nat.zero_mod,Nat.add_zero]at BZ;simp only[];rw[ec (by rw[bB];omega),bZ,hgu,bZ,Nat.mod_eq_of_lt (a:=aa/4294967296^(n+2)%4294967296) (b:=18446744073709551616) (by omega),eW _ _ (by omega),bZ,bZ,jt (by rw[bB];omega),bZ,BZ,hput,BI VG,FD,hc4,Kg,ec (by rw[bB];omega),bZ,jt (by rw[bB];omega),bZ,H6 (by decide) (by omega),eV (by omega) (by omega)]
  ·
   have PK:A1/4294967296^k/V<4294967296:=by rw[OZ];exact Nat.mod_lt _ (by decide)
   omega
  have Kh:4294967296^(n+2+1)=4294967296^(n+2)*4294967296:=Nat.pow_succ ..;have:4294967296*V<4294967296*4294967296^(n+2):=Nat.mul_lt_mul_of_pos_left uR (by decide);rw[Kh];omega
 ·rw[show K+1-(K+1)=0 by omega,Nat.pow_zero,Nat.mul_one,Nat.mul_one,Nat.div_one,show decide (0<=(K:Int)-((K+1:Nat):Int))=false by simp;omega,jb]
 obtain⟨R,hR⟩:∃R,Va%Vb=R:=⟨_,Y⟩;rw[abL,hR];have abQ:R<4294967296^(n+2):=by rw[<-hR];exact Nat.lt_trans (Nat.mod_lt _ hb0) OY
 rw[td (by decide) (by omega),bZ];refine b9 (λi=>((i:Int),ee 4294967296 (n+2) (R%4294967296^i))) (n+2) (ee 4294967296 (n+2) R) ?_ (λi hi=>?_) ?_ Y
 ·rw[Nat.pow_zero,Nat.mod_one,n7];rfl
 ·obtain⟨e,he⟩:∃e,4294967296=D*e:=⟨2^(32-s),by rw[<-hD,<-Nat.pow_add,show s+(32-s)=32 by omega,two32]⟩;have VH:=Kf (R:=R) (i:=i) OD he;obtain⟨u,hu⟩:∃u,R*D/4294967296^i%4294967296=u:=⟨_,Y⟩;obtain⟨w,hw⟩:∃w,R*D/4294967296^(i+1)%4294967296=w:=⟨_,Y⟩;have XP:u<4294967296:=by rw[<-hu];exact Nat.mod_lt _ (by decide)
  have V4:w<4294967296:=by rw[<-hw];exact Nat.mod_lt _ (by decide)
  rw[hu,hw]at VH;simp only[show decide ((i:Int)<((n+2:Nat):Int))=true by simp;omega,iI];rw[ec (by rw[bB];omega),bZ,jF (by omega),bZ,hu,cM (by omega),ec (by rw[bB];omega),bZ,jF (by omega),bZ,hw,Nat.mod_eq_of_lt (a:=u) (by omega),Nat.mod_eq_of_lt (a:=w) (by omega),two32,Nat.mod_eq_of_lt (a:=w*4294967296) (by omega),Nat.or_comm,D9 XP,Nat.mod_eq_of_lt (a:=w*4294967296+u) (by omega),show min s 64=s by omega,hD,VH,ec (by rw[bB];omega),bZ,jt (by rw[bB];omega),bZ];rw[OX (by decide) hi]
 rw[Nat.mod_eq_of_lt abQ];simp
end
section
open Go.Fw
def sv(n:Bool)(v:Nat):Int:=bif n then-(v:Int)else v
def zi(z:Zr):Int:=sv z.neg (vl z.w)
def zn(i:Int):Zr:=⟨decide (i<0),can 4294967296 i.natAbs⟩
def Wl(z:Zr):Prop:=(∀x∈z.w,x<4294967296)/\z.w.length<=35184372088788
def Fit(L:Nat)(i:Int):Prop:=i.natAbs<4294967296^L
theorem H8(n:Bool)(v:Nat):(sv n v).natAbs=v:=by cases n<;>simp[sv]
theorem zW(z:Zr):(zi z).natAbs=vl z.w:=H8 _ _
theorem O0(n:Bool)(v:Nat):decide (sv n v<0)=(n&&v != 0):=by
 cases n
 ·have:¬((v:Int)<0):=by omega
  simp[sv,this]
 rcases v with _|v
 ·simp[sv]
 simp[sv]
theorem kW(n:Bool)(v:Nat):zc n v=zn (sv n v):=by rw[zc,zn,O0,H8]
theorem Ki(i:Int):sv (decide (i<0)) i.natAbs=i:=by
 by_cases h:i<0
 ·rw[show decide (i<0)=true by simp[h]];simp[sv];omega
 rw[show decide (i<0)=false by simp[h]];simp[sv];omega
theorem cI(i:Int):zi (zn i)=i:=by
 show sv (decide (i<0)) (vl (can 4294967296 i.natAbs))=i;rw[show vl (can 4294967296 i.natAbs)=i.natAbs from mP (by decide) _,Ki]
theorem zX(n:Bool)(v:Nat):sv (!n) v=-sv n v:=by cases n<;>simp[sv]
theorem kC(v:Nat):sv false v=v:=rfl
theorem Fit.mono{L M:Nat}{i:Int}(h:Fit L i)(hl:L<=M):Fit M i:=Nat.lt_of_lt_of_le h (Nat.pow_le_pow_right (by decide) hl)
theorem Fit.neg{L:Nat}{i:Int}(h:Fit L i):Fit L (-i):=by unfold Fit at*;rw[Int.natAbs_neg];exact h
theorem Fit.add{L:Nat}{i j:Int}(h:Fit L i)(h':Fit L j):Fit (L+1) (i+j):=by
 unfold Fit at*;have:=Int.natAbs_add_le i j;rw[Nat.pow_succ];omega
theorem Fit.sub{L:Nat}{i j:Int}(h:Fit L i)(h':Fit L j):Fit (L+1) (i-j):=by
 rw[Int.sub_eq_add_neg];exact h.add h'.neg
theorem Fit.mul{L M:Nat}{i j:Int}(h:Fit L i)(h':Fit M j):Fit (L+M) (i*j):=by
 unfold Fit at*;rw[Int.natAbs_mul,Nat.pow_add];exact Nat.mul_lt_mul'' h h'
theorem Fit.i64{i:Int}(h: -9223372036854775808<=i)(h':i<=9223372036854775807):Fit 2 i:=by
 unfold Fit;rw[show(4294967296:Nat)^2=18446744073709551616 by decide];omega
theorem Fit.le{L:Nat}{i j:Int}(h:Fit L i)(h':j.natAbs<=i.natAbs):Fit L j:=Nat.lt_of_le_of_lt h' h
theorem eP{L:Nat}{i:Int}(h:Fit L i)(hL:L<=35184372088788):Wl (zn i):=
 ⟨λ_ hx=>gS (by decide) hx,Nat.le_trans ((cO (by decide)).2 h) hL⟩
theorem Wl.fit{z:Zr}(h:Wl z):Fit z.w.length (zi z):=by
 unfold Fit;rw[zW];exact fS z.w h.1
theorem Wl.lt{z:Zr}(h:Wl z):vl z.w<4294967296^z.w.length:=fS z.w h.1
theorem Wl.cl{z:Zr}(h:Wl z):(can 4294967296 (vl z.w)).length<=35184372088788:=
 Nat.le_trans ((cO (by decide)).2 (Wl.lt h)) h.2
def Wx(z:Zr):Prop:=(∀x∈z.w,x<4294967296)/\z.w.length<=9000000000000000000
theorem Wl.x{z:Zr}(h:Wl z):Wx z:=⟨h.1,Nat.le_trans h.2 (by decide)⟩
theorem Mt{L:Nat}{i:Int}(h:Fit L i)(hL:L<=9000000000000000000):Wx (zn i):=
 ⟨λ_ hx=>gS (by decide) hx,Nat.le_trans ((cO (by decide)).2 h) hL⟩
theorem Wx.cl{z:Zr}(h:Wx z):(can 4294967296 (vl z.w)).length<=9000000000000000000:=
 Nat.le_trans ((cO (by decide)).2 (fS z.w h.1)) h.2
theorem Wx.trim{z:Zr}(h:Wx z):bh z.w=some (can 4294967296 (vl z.w)):=by
 rw[rQ _ (by have:=h.2;omega),kA (by decide) h.1]
theorem Wl.trim{z:Zr}(h:Wl z):bh z.w=some (can 4294967296 (vl z.w)):=by
 rw[rQ _ (by have:=h.2;omega),kA (by decide) h.1]
theorem eR{v:Nat}(h:(can 4294967296 v).length<=35184372088789):zT (can 4294967296 v):=⟨λ_ hx=>gS (by decide) hx,by omega⟩
theorem dJ(v:Nat):vl (can 4294967296 v)=v:=mP (by decide) v
theorem eD{v:Nat}:((can 4294967296 v).length:Int)<=2↔v<18446744073709551616:=by
 have:=cO (B:=4294967296) (by decide) (v:=v) (n:=2);rw[show(4294967296:Nat)^2=18446744073709551616 by decide]at this;omega
theorem iZ{v:Nat}:((can 4294967296 v).length:Int)<=1↔v<4294967296:=by
 have:=cO (B:=4294967296) (by decide) (v:=v) (n:=1);rw[show(4294967296:Nat)^1=4294967296 by decide]at this;omega
theorem lT{v:Nat}:(can 4294967296 v).length=0↔v=0:=by
 constructor
 ·intro h;exact zO (by decide) (List.length_eq_zero_iff.1 h)
 intro h;rw[h,n9];rfl
theorem rT(l:List Nat)(h:l.length<=35184372088832):dx l=some l:=by
 unfold dx;rw[aby (by decide) (by simp;omega)];simp
end
section
open Go.Fw
theorem BM(a b:Nat):decide (xD a b<0)=decide (a<b):=by
 rcases Nat.lt_trichotomy a b with h|h|h
 ·rw[rP h];simp[h]
 ·rw[h,zS];simp
 rw[vw h];simp;omega
theorem uz(a b:Nat)(ha:(can 4294967296 a).length<=35184372088788)(hb:(can 4294967296 b).length<=35184372088788)(h0:b≠0):
  ∃q r,er (can 4294967296 a) (can 4294967296 b)=some (q,r)/\zT q/\vl q=a/b/\zT r/\vl r=a%b/\q.length<=35184372088789/\r.length<=35184372088789:=by
 unfold er;rw[iw a b (by omega) (by omega)];simp only[bZ];by_cases hlt:a<b
 ·rw[rP hlt];simp only[show decide ((-1:Int)<0)=true by decide,iI];rw[rT _ (by omega)];refine⟨_,_,Y,⟨by simp,by simp⟩,?_,eR (by omega),?_,by simp,by omega⟩
  ·rw[Nat.div_eq_of_lt hlt];rfl
  rw[dJ,Nat.mod_eq_of_lt hlt]
 rw[BM,show decide (a<b)=false by simp[hlt]];simp only[jb];by_cases h2:a<18446744073709551616
 ·rw[show decide (((can 4294967296 a).length:Int)<=2)=true by rw[decide_eq_true_eq];exact eD.2 h2];have FU:b<18446744073709551616:=by omega
  simp only[iI];have l1:=low_eq (can 4294967296 a) (λ_ hx=>gS (by decide) hx) (by have:=eD.2 h2;omega);have l2:=low_eq (can 4294967296 b) (λ_ hx=>gS (by decide) hx) (by have:=eD.2 FU;omega);rw[dJ]at l1 l2;rw[l1,bZ,l2,bZ,zM h0 h2,bZ,lS _ _ (Nat.lt_of_le_of_lt (Nat.div_le_self _ _) h2),bZ,vu h0,bZ,lS _ _ (Nat.lt_of_le_of_lt (Nat.mod_le _ _) h2),bZ];have hq:a/b<18446744073709551616:=Nat.lt_of_le_of_lt (Nat.div_le_self _ _) h2;have hr:a%b<18446744073709551616:=Nat.lt_of_le_of_lt (Nat.mod_le _ _) h2;have c1:=eD.2 hq;have c2:=eD.2 hr;exact⟨_,_,Y,eR (by omega),dJ _,eR (by omega),dJ _,by show(can _ _).length<=_;omega,by show(can _ _).length<=_;omega⟩
 rw[show decide (((can 4294967296 a).length:Int)<=2)=false by rw[decide_eq_false_iff_not];exact λh=>h2 (eD.1 h)];simp only[jb];have tL:(can 4294967296 b).length≠0:=λh=>h0 (lT.1 h);by_cases h1:b<4294967296
 ·have h1':=iZ.2 h1;rw[show decide (((can 4294967296 b).length:Int)=1)=true by simp;omega,iI];have hg:(can 4294967296 b)[0]? =some b:=by rw[zP (by decide) (by omega)];simp;exact h1
  rw[rT _ (by omega),bZ,oE hg,bZ,Nat.mod_eq_of_lt (b:=18446744073709551616) (by omega),BH _ _ (eR (by omega)) (by omega) (by omega),bZ,dJ];simp only[];rw[lO (by rw[bB]),bZ];have hm:a%b<b:=Nat.mod_lt _ (by omega);rw[Nat.mod_eq_of_lt (a:=a%b) (by omega)];refine⟨_,_,Y,⟨λx hx=>jN (by decide) _ _ _ hx,by rw[bB];omega⟩,?_,⟨?_,by simp⟩,?_,by rw[bB];omega,by simp⟩
  ·show val _ _=_;rw[iY,Nat.mod_eq_of_lt (Nat.lt_of_le_of_lt (Nat.div_le_self _ _) (c8 (by decide) a))]
  ·intro x hx;simp at hx;omega
  simp[vl,val]
 have h1':¬(((can 4294967296 b).length:Int)<=1):=λh=>h1 (iZ.1 h);rw[show decide (((can 4294967296 b).length:Int)=1)=false by simp;omega,jb];obtain⟨n,hn⟩:∃n,(can 4294967296 b).length=n+2:=⟨(can 4294967296 b).length-2,by omega⟩;have hl:(can 4294967296 b).length<=(can 4294967296 a).length:=(cO (by decide)).2 (Nat.lt_of_le_of_lt (by omega) (c8 (by decide) a));obtain⟨l,x,hx,he⟩:=BA (B:=4294967296) (by decide) h0;have C0:(can 4294967296 b)[n+1]? ≠some 0:=by
  have:l.length=n+1:=by rw[he]at hn;simp at hn;omega
  rw[he,<-this];simp;exact hx
 rw[C1 _ _ (eR (by omega)) (eR (by omega)) hn hl C0,bZ,dJ,dJ];have hbp:0<b:=by omega
 have e1:a<4294967296^(can 4294967296 a).length:=c8 (by decide) a;have e2:b<4294967296^(can 4294967296 b).length:=c8 (by decide) b;have e3:4294967296^(n+1)<=b:=pH (by decide) (by omega);refine⟨_,_,Y,⟨λx hx=>jN (by decide) _ _ _ hx,by rw[bB];omega⟩,?_,⟨λx hx=>jN (by decide) _ _ _ hx,by rw[bB];omega⟩,?_,by rw[bB];omega,by rw[bB];omega⟩
 ·show val _ _=_;rw[iY,Nat.mod_eq_of_lt];rw[Nat.div_lt_iff_lt_mul hbp];have:4294967296^((can 4294967296 a).length-(can 4294967296 b).length+1)*4294967296^(n+1)=4294967296^(can 4294967296 a).length:=by rw[<-Nat.pow_add];congr 1;omega
  calc a<4294967296^((can 4294967296 a).length-(can 4294967296 b).length+1)*4294967296^(n+1):=by rw[this];exact e1
   _<=_:=Nat.mul_le_mul_left _ e3
 show val _ _=_;rw[iY,Nat.mod_eq_of_lt (Nat.lt_trans (Nat.mod_lt _ hbp) e2)]
end
section
open Go.Fw
theorem eE{x:Int}(h1: -9223372036854775808<=x)(h2:x<=9223372036854775807):bp x=some (zn x):=by
 unfold bp;simp only[bZ,di];by_cases hx:x<0
 ·have e:(x%18446744073709551616).toNat=18446744073709551616-x.natAbs:=by omega
  rw[show decide (x<0)=true by simp[hx],iI,e,vq (by omega) (by omega),show 18446744073709551616+0-(18446744073709551616-x.natAbs)=x.natAbs by omega,lS _ _ (by omega),bZ,kW,show sv true x.natAbs=x by simp[sv];omega]
 have e:(x%18446744073709551616).toNat=x.natAbs:=by omega
 rw[show decide (x<0)=false by simp[hx],jb,e,lS _ _ (by omega),bZ,kW,show sv false x.natAbs=x by simp[sv];omega]
def dQ(i:Int):Prop:=-9223372036854775808<=i/\i<=9223372036854775807
instance(i:Int):Decidable (dQ i):=by unfold dQ;infer_instance
def oa(i:Int):Int×Bool:=if dQ i then(i,true)else(0,false)
theorem kD{z:Zr}(h:Wl z):cP z=some (oa (zi z)):=by
 obtain⟨n,w⟩:=z;unfold cP;have ht:=h.trim;have abR:vl w<18446744073709551616->cU (can 4294967296 (vl w))=some (vl w):=λh2=>by
  rw[low_eq _ (λ_ hx=>gS (by decide) hx) (by have:=eD.2 h2;omega),dJ]
 show(bh w).bind _=some (oa (sv n (vl w)));rw[show bh w=some (can 4294967296 (vl w))from ht];simp only[bZ];generalize vl w=v at*;by_cases h2:v<18446744073709551616
 ·have:=eD.2 h2;rw[show decide ((2:Int)<((can 4294967296 v).length:Int))=false by simp;omega,jb,abR h2,bZ];cases n
  ·rw[jb,kC];by_cases h3:v<9223372036854775808
   ·rw[show decide (9223372036854775808<=v)=false by simp;omega,jb,mL (by omega),oa,if_pos (by unfold dQ;omega)]
   rw[show decide (9223372036854775808<=v)=true by simp;omega,iI,oa,if_neg (by unfold dQ;omega)]
  rw[iI,show sv true v=-(v:Int)from rfl];by_cases h3:9223372036854775808<v
  ·rw[show decide (9223372036854775808<v)=true by simp;omega,iI,oa,if_neg (by unfold dQ;omega)]
  rw[show decide (9223372036854775808<v)=false by simp;omega,jb,oa,if_pos (by unfold dQ;omega)];by_cases h0:v=0
  ·subst h0;rfl
  rw[vq (by omega) (by omega)];rw[show IntKind.i64.wrap ((18446744073709551616+0-v:Nat):Int)=-(v:Int) by
   rw[IntKind.wrap];simp[IntKind.signed,IntKind.bits];omega]
 have:¬(((can 4294967296 v).length:Int)<=2):=λh=>h2 (eD.1 h);rw[show decide ((2:Int)<((can 4294967296 v).length:Int))=true by simp;omega,iI,oa,if_neg (by unfold dQ;cases n<;>simp[sv]<;>omega)]
theorem H9{z:Zr}(h:Wx z):cA z=some (zi z).sign:=by
 obtain⟨n,w⟩:=z;unfold cA;show(bh w).bind _=some (sv n (vl w)).sign;rw[show bh w=some (can 4294967296 (vl w))from h.trim];simp only[bZ];generalize vl w=v;by_cases h0:v=0
 ·subst h0;cases n<;>rfl
 have:(can 4294967296 v).length≠0:=λh=>h0 (lT.1 h);rw[show decide (((can 4294967296 v).length:Int)=0)=false by simp;intro e;rw[e]at this;exact this Y,jb];cases n
 ·rw[jb,kC,Int.sign_eq_one_of_pos (by omega)]
 rw[iI,show sv true v=-(v:Int)from Y,Int.sign_eq_neg_one_of_neg (by omega)]
def mQ(i j:Int):Int:=if i<j then-1 else if i=j then 0 else 1
theorem j0{i j:Int}(h:i<j):mQ i j=-1:=by simp[mQ,h]
theorem j1{i j:Int}(h:j<i):mQ i j=1:=by
 have h1:¬i<j:=by omega
 have h2:¬i=j:=by omega
 simp[mQ,h1,h2]
theorem tg(i:Int):mQ i i=0:=by simp[mQ]
theorem BN(v w:Nat):xD v w=mQ (v:Int) (w:Int):=by
 rcases Nat.lt_trichotomy v w with h|h|h
 ·rw[rP h,j0 (by omega)]
 ·rw[h,zS,tg]
 rw[vw h,j1 (by omega)]
theorem Ia(i j:Int):mQ (-i) (-j)=mQ j i:=by
 rcases Int.lt_trichotomy i j with h|h|h
 ·rw[j1 h,j1 (by omega)]
 ·rw[h,tg,tg]
 rw[j0 h,j0 (by omega)]
theorem sign_eq{z:Zr}(h:Wl z):cA z=some (zi z).sign:=H9 h.x
theorem VI{x y:Zr}(hx:Wx x)(hy:Wx y):jB x y=some (mQ (zi x) (zi y)):=by
 obtain⟨n,w⟩:=x;obtain⟨m,u⟩:=y;unfold jB;show(cA ⟨n,w⟩).bind _=_;rw[H9 hx,bZ];show(cA ⟨m,u⟩).bind _=_;rw[H9 hy,bZ,show bh w=some (can 4294967296 (vl w))from hx.trim,show bh u=some (can 4294967296 (vl u))from hy.trim];simp only[bZ];rw[iw _ _ hx.cl hy.cl,iw _ _ hy.cl hx.cl];simp only[bZ];rw[show zi ⟨n,w⟩=sv n (vl w)from Y,show zi ⟨m,u⟩=sv m (vl u)from rfl];generalize vl w=a;generalize vl u=b;rw[BN,BN];obtain⟨i,hi⟩:∃i,sv n a=i:=⟨_,Y⟩;obtain⟨j,hj⟩:∃j,sv m b=j:=⟨_,Y⟩;have Pe:(i<0->i=-(a:Int))/\(0<=i->i=a):=by rw[<-hi];cases n<;>simp[sv]<;>omega
 have hjb:(j<0->j=-(b:Int))/\(0<=j->j=b):=by rw[<-hj];cases m<;>simp[sv]<;>omega
 rw[hi,hj];rcases Int.lt_trichotomy i 0 with h1|h1|h1<;>rcases Int.lt_trichotomy j 0 with h2|h2|h2
 ·rw[Int.sign_eq_neg_one_of_neg h1,Int.sign_eq_neg_one_of_neg h2,Pe.1 h1,hjb.1 h2,Ia];rfl
 ·rw[Int.sign_eq_neg_one_of_neg h1,show Int.sign j=0 by rw[h2];rfl,show mQ i j=-1 from j0 (by omega)];rfl
 ·rw[Int.sign_eq_neg_one_of_neg h1,Int.sign_eq_one_of_pos h2,show mQ i j=-1 from j0 (by omega)];rfl
 ·rw[show Int.sign i=0 by rw[h1];rfl,Int.sign_eq_neg_one_of_neg h2,show mQ i j=1 from j1 (by omega)];rfl
 ·rw[show Int.sign i=0 by rw[h1];rfl,show Int.sign j=0 by rw[h2];rfl,<-Pe.2 (by omega),<-hjb.2 (by omega)];rfl
 ·rw[show Int.sign i=0 by rw[h1];rfl,Int.sign_eq_one_of_pos h2,show mQ i j=-1 from j0 (by omega)];rfl
 ·rw[Int.sign_eq_one_of_pos h1,Int.sign_eq_neg_one_of_neg h2,show mQ i j=1 from j1 (by omega)];rfl
 ·rw[Int.sign_eq_one_of_pos h1,show Int.sign j=0 by rw[h2];rfl,show mQ i j=1 from j1 (by omega)];rfl
 rw[Int.sign_eq_one_of_pos h1,Int.sign_eq_one_of_pos h2,<-Pe.2 (by omega),<-hjb.2 (by omega)];rfl
theorem neg_eq{x:Zr}(hx:Wl x):ek x=some (zn (-zi x)):=by
 obtain⟨n,w⟩:=x;unfold ek;have hc:(can 4294967296 (vl w)).length<=35184372088788:=hx.cl;simp only[bZ];rw[show bh w=some (can 4294967296 (vl w))from hx.trim,bZ,rT _ (by omega),bZ,iq _ _ (eR (by omega)).x,bZ,dJ,kW,zX];rfl
end
section
open Go.Fw
theorem rU(n m:Bool)(a b:Nat)(ha:(can 4294967296 a).length<=35184372088788)(hb:(can 4294967296 b).length<=35184372088788):
  cz n (can 4294967296 a) m (can 4294967296 b)=some (zn (sv n a+sv m b)):=by
 have la:=c8 (B:=4294967296) (by decide) a;have lb:=c8 (B:=4294967296) (by decide) b;unfold cz;simp only[bZ];by_cases hnm:n=m
 ·subst hnm;rw[show(n==n)=true by simp,iI,ux _ _ (eR (by omega)) (eR (by omega)),bZ,dJ,dJ,iq _ _ ⟨λx hx=>jN (by decide) _ _ _ hx,by rw[bB];omega⟩,bZ];have hv:vl (ee 4294967296 (max (can 4294967296 a).length (can 4294967296 b).length+1) (a+b))=a+b:=by
   show val _ _=_;rw[iY,Nat.mod_eq_of_lt];have h1:a<4294967296^(max (can 4294967296 a).length (can 4294967296 b).length):=Nat.lt_of_lt_of_le la (Nat.pow_le_pow_right (by decide) (by omega));have h2:b<4294967296^(max (can 4294967296 a).length (can 4294967296 b).length):=Nat.lt_of_lt_of_le lb (Nat.pow_le_pow_right (by decide) (by omega));rw[Nat.pow_succ];omega
  rw[hv,kW,show sv n (a+b)=sv n a+sv n b by cases n<;>simp[sv];omega]
 rw[show(n==m)=false by simp[hnm],jb,iw _ _ (by omega) (by omega),bZ,BM];have hm:m= !n:=by cases n<;>cases m<;>simp_all
 subst hm;have hv:∀c d,d<=c->(can 4294967296 c).length<=35184372088788->cr (can 4294967296 c) (can 4294967296 d)=some (ee 4294967296 (can 4294967296 c).length (c-d))/\vl (ee 4294967296 (can 4294967296 c).length (c-d))=c-d:=by
  intro c d hdc sj;have lc:=c8 (B:=4294967296) (by decide) c;have hdl:(can 4294967296 d).length<=(can 4294967296 c).length:=(cO (by decide)).2 (by omega);constructor
  ·rw[uy _ _ (eR (by omega)) (eR (by omega)) hdl (by rw[dJ,dJ];exact hdc),dJ,dJ]
  show val _ _=_;rw[iY,Nat.mod_eq_of_lt (by omega)]
 by_cases hlt:a<b
 ·obtain⟨h1,h2⟩:=hv b a (by omega) hb;rw[show decide (a<b)=true by simp[hlt],iI,h1,bZ,iq _ _ ⟨λx hx=>jN (by decide) _ _ _ hx,by rw[bB];omega⟩,bZ,h2,kW,show sv (!n) (b-a)=sv n a+sv (!n) b by cases n<;>simp[sv]<;>omega]
 obtain⟨h1,h2⟩:=hv a b (by omega) ha;rw[show decide (a<b)=false by simp[hlt],jb,h1,bZ,iq _ _ ⟨λx hx=>jN (by decide) _ _ _ hx,by rw[bB];omega⟩,bZ,h2,kW,show sv n (a-b)=sv n a+sv (!n) b by cases n<;>simp[sv]<;>omega]
theorem Ec(v:BitVec 64):IntKind.i64.wrap (v.toNat:Int)=v.toInt:=by
 rw[BitVec.toInt_eq_toNat_cond];have:=v.isLt;rw[show(2:Nat)^64=18446744073709551616 by decide]at this⊢;split
 ·rw[mL (by omega)]
 rw[IntKind.wrap];simp[IntKind.signed,IntKind.bits];omega
theorem Ed(v:BitVec 64):BitVec.ofInt 64 (IntKind.i64.wrap (v.toNat:Int))=v:=by rw[Ec,BitVec.ofInt_toInt]
theorem th{x:Int}(h:dQ x):(BitVec.ofInt 64 x).msb=decide (x<0):=by
 rw[BitVec.msb_eq_toInt,BitVec.toInt_ofInt];unfold dQ at h;have:x.bmod (2^64)=x:=by
  rw[Int.bmod_def];simp only[show((2^64:Nat):Int)=18446744073709551616 by decide];split<;>omega
 rw[this]
theorem yx(v:BitVec 64):decide ((0:Int)<=IntKind.i64.wrap (v.toNat:Int))= !v.msb:=by
 rw[Ec,BitVec.msb_eq_toInt];by_cases h:v.toInt<0
 ·simp[h]
 simp[h];omega
theorem lU(x:Int):dQ (IntKind.i64.wrap x):=by
 unfold dQ;rw[IntKind.wrap];simp[IntKind.signed,IntKind.bits];split<;>omega
theorem wU{α:Type}(b:Bool)(x:α):(bif b then x else x)=x:=by cases b<;>rfl
theorem fX{i:Int}(h:dQ i):oa i=(i,true):=if_pos h
theorem kE{i:Int}(h:¬dQ i):oa i=(0,false):=if_neg h
theorem add_eq{x y:Zr}(hx:Wl x)(hy:Wl y):da x y=some (zn (zi x+zi y)):=by
 obtain⟨n,w⟩:=x;obtain⟨m,u⟩:=y;unfold da;simp only[kD hx,kD hy,bZ,di];have hK:((bh w).bind λxn=>(bh u).bind λv7=>(cz n xn m v7).bind λx=>some x)=some (zn (zi ⟨n,w⟩+zi ⟨m,u⟩)):=by
  rw[show bh w=some (can 4294967296 (vl w))from hx.trim,show bh u=some (can 4294967296 (vl u))from hy.trim,bZ,bZ,rU _ _ _ _ hx.cl hy.cl,bZ];rfl
 have hK':((bh w).bind λxn=>(bh u).bind λv7=>(cz n xn m v7).bind λx=>some ⟨x.neg,x.w⟩)=some (zn (zi ⟨n,w⟩+zi ⟨m,u⟩)):=hK;rw[hK'];generalize zi ⟨n,w⟩=i;generalize zi ⟨m,u⟩=j;by_cases h1:dQ i
 ·by_cases h2:dQ j
  ·rw[fX h1,fX h2,iI,bZ,iI,Ed,Ed,yx,BitVec.msb_and,BitVec.msb_xor,BitVec.msb_xor,th h1,th h2,th (lU _),eE (lU _).1 (lU _).2,bZ];by_cases hr:dQ (i+j)
   ·rw[eV hr.1 hr.2];exact wU _ _
   have:(!((decide (i<0)^^decide (IntKind.i64.wrap (i+j)<0))&&(decide (j<0)^^decide (IntKind.i64.wrap (i+j)<0))))=false:=by
    unfold dQ at*;by_cases hs:i<0
    ·have e:IntKind.i64.wrap (i+j)=i+j+18446744073709551616:=by rw[IntKind.wrap];simp[IntKind.signed,IntKind.bits];omega
     rw[e,show decide (i<0)=true by simp[hs],show decide (j<0)=true by simp;omega,show decide (i+j+18446744073709551616<0)=false by simp;omega];rfl
    have e:IntKind.i64.wrap (i+j)=i+j-18446744073709551616:=by rw[IntKind.wrap];simp[IntKind.signed,IntKind.bits];omega
    rw[e,show decide (i<0)=false by simp[hs],show decide (j<0)=false by simp;omega,show decide (i+j-18446744073709551616<0)=true by simp;omega];rfl
   rw[this,jb]
  rw[fX h1,kE h2,iI,bZ,jb]
 rw[kE h1,jb,bZ,jb]
theorem sub_eq{x y:Zr}(hx:Wl x)(hy:Wl y):gy x y=some (zn (zi x-zi y)):=by
 obtain⟨n,w⟩:=x;obtain⟨m,u⟩:=y;unfold gy;simp only[kD hx,kD hy,bZ,di];have hK':((bh w).bind λxn=>(bh u).bind λv7=>(cz n xn (!m) v7).bind λx=>some ⟨x.neg,x.w⟩)=some (zn (zi ⟨n,w⟩-zi ⟨m,u⟩)):=by
  rw[show bh w=some (can 4294967296 (vl w))from hx.trim,show bh u=some (can 4294967296 (vl u))from hy.trim,bZ,bZ,rU _ _ _ _ hx.cl hy.cl,bZ,zX,<-Int.sub_eq_add_neg];rfl
 rw[hK'];generalize zi ⟨n,w⟩=i;generalize zi ⟨m,u⟩=j;by_cases h1:dQ i
 ·by_cases h2:dQ j
  ·rw[fX h1,fX h2,iI,bZ,iI,Ed,Ed,yx,BitVec.msb_and,BitVec.msb_xor,BitVec.msb_xor,th h1,th h2,th (lU _),eE (lU _).1 (lU _).2,bZ];by_cases hr:dQ (i-j)
   ·rw[eV hr.1 hr.2];exact wU _ _
   have:(!((decide (i<0)^^decide (j<0))&&(decide (i<0)^^decide (IntKind.i64.wrap (i-j)<0))))=false:=by
    unfold dQ at*;by_cases hs:i<0
    ·have e:IntKind.i64.wrap (i-j)=i-j+18446744073709551616:=by rw[IntKind.wrap];simp[IntKind.signed,IntKind.bits];omega
     rw[e,show decide (i<0)=true by simp[hs],show decide (j<0)=false by simp;omega,show decide (i-j+18446744073709551616<0)=false by simp;omega];rfl
    have e:IntKind.i64.wrap (i-j)=i-j-18446744073709551616:=by rw[IntKind.wrap];simp[IntKind.signed,IntKind.bits];omega
    rw[e,show decide (i<0)=false by simp[hs],show decide (j<0)=true by simp;omega,show decide (i-j-18446744073709551616<0)=true by simp;omega];rfl
   rw[this,jb]
  rw[fX h1,kE h2,iI,bZ,jb]
 rw[kE h1,jb,bZ,jb]
theorem Ib(n m:Bool)(a b:Nat):sv (!(n==m)) (a*b)=sv n a*sv m b:=by
 cases n<;>cases m<;>simp[sv,Int.neg_mul,Int.mul_neg]
theorem mul_eq{x y:Zr}(hx:Wl x)(hy:Wl y):dc x y=some (zn (zi x*zi y)):=by
 obtain⟨n,w⟩:=x;obtain⟨m,u⟩:=y;unfold dc;have XD:(can 4294967296 (vl w)).length<=35184372088788:=hx.cl;have VJ:(can 4294967296 (vl u)).length<=35184372088788:=hy.cl;simp only[];rw[show bh w=some (can 4294967296 (vl w))from hx.trim,show bh u=some (can 4294967296 (vl u))from hy.trim,bZ,bZ,show zi ⟨n,w⟩=sv n (vl w)from Y,show zi ⟨m,u⟩=sv m (vl u)from rfl];simp only[bZ,di];generalize vl w=a at*;generalize vl u=b at*;have la:=c8 (B:=4294967296) (by decide) a;have lb:=c8 (B:=4294967296) (by decide) b;have hK:((ep (can 4294967296 a) (can 4294967296 b)).bind λmZ=>(bU (!(n==m)) mZ).bind λx=>some ⟨x.neg,x.w⟩)=some (zn (sv n a*sv m b)):=by
  rw[BG _ _ (eR (by omega)) (eR (by omega)),bZ,dJ,dJ,iq _ _ ⟨λx hx=>jN (by decide) _ _ _ hx,by rw[bB];omega⟩,bZ,kW];have hv:vl (ee 4294967296 ((can 4294967296 a).length+(can 4294967296 b).length) (a*b))=a*b:=by
   show val _ _=_;rw[iY,Nat.mod_eq_of_lt];rw[Nat.pow_add];exact Nat.mul_lt_mul'' la lb
  rw[hv,Ib]
 rw[hK];by_cases h1:a<4294967296
 ·by_cases h2:b<4294967296
  ·have l1:=low_eq (can 4294967296 a) (λ_ hx=>gS (by decide) hx) (by have:=iZ.2 h1;omega);have l2:=low_eq (can 4294967296 b) (λ_ hx=>gS (by decide) hx) (by have:=iZ.2 h2;omega);rw[dJ]at l1 l2;have hlt:a*b<18446744073709551616:=Nat.mul_lt_mul'' h1 h2;rw[show decide (((can 4294967296 a).length:Int)<=1)=true by rw[decide_eq_true_eq];exact iZ.2 h1,iI,bZ,show decide (((can 4294967296 b).length:Int)<=1)=true by rw[decide_eq_true_eq];exact iZ.2 h2,iI,l1,l2,bZ,bZ,Nat.mod_eq_of_lt hlt,lS _ _ hlt,bZ,kW,Ib]
  rw[show decide (((can 4294967296 a).length:Int)<=1)=true by rw[decide_eq_true_eq];exact iZ.2 h1,iI,bZ,show decide (((can 4294967296 b).length:Int)<=1)=false by rw[decide_eq_false_iff_not];exact λh=>h2 (iZ.1 h),jb]
 rw[show decide (((can 4294967296 a).length:Int)<=1)=false by rw[decide_eq_false_iff_not];exact λh=>h1 (iZ.1 h),jb,bZ,jb]
end
section
open Go.Fw
theorem O1(n m:Bool){a b:Nat}(hb:0<b):
  sv n a/sv m b=(if n=true/\0<a%b then sv (!(n==m)) (a/b+1)else sv (!(n==m)) (a/b))/\
  sv n a%sv m b=(if n=true/\0<a%b then((b-a%b:Nat):Int)else((a%b:Nat):Int)):=by
 have hd:=Nat.div_add_mod a b;have hm:=Nat.mod_lt a hb
 revert hd hm
 generalize a/b=q;generalize a%b=r;intro hd hm;have hd':(b:Int)*q+r=a:=by exact_mod_cast hd
 have pos:∀n,sv n a/(b:Int)=(if n=true/\0<r then sv n (q+1)else sv n q)/\sv n a%(b:Int)=(if n=true/\0<r then((b-r:Nat):Int)else(r:Int)):=by
  intro n;apply(Int.ediv_emod_unique (by omega)).2;cases n
  ·simp[sv];omega
  by_cases hr:0<r
  ·simp only[hr,and_self,if_true,sv,cond_true];have:(b:Int)* -((q+1:Nat):Int)=-((b:Int)*q)-b:=by
    rw[Int.mul_neg,Int.natCast_add,Int.mul_add];simp;omega
   rw[this];omega
  have:r=0:=by omega
  subst this;simp[sv,Int.mul_neg];omega
 cases m
 ·have:=pos n;rw[kC,show(!(n==false))=n by cases n<;>rfl];exact this
 have:=pos n;rw[show sv true b=-(b:Int)from rfl,Int.ediv_neg,Int.emod_neg,this.1,this.2,show(!(n==true))= !n by cases n<;>rfl,zX,zX];refine⟨?_,Y⟩;split<;>rfl
theorem O2{a b:Nat}(hba:b<=a)(sj:(can 4294967296 a).length<=35184372088788):cr (can 4294967296 a) (can 4294967296 b)=some (ee 4294967296 (can 4294967296 a).length (a-b))/\vl (ee 4294967296 (can 4294967296 a).length (a-b))=a-b:=by
 have lc:=c8 (B:=4294967296) (by decide) a;have hdl:(can 4294967296 b).length<=(can 4294967296 a).length:=(cO (by decide)).2 (by omega);constructor
 ·rw[uy _ _ (eR (by omega)) (eR (by omega)) hdl (by rw[dJ,dJ];exact hba),dJ,dJ]
 show val _ _=_;rw[iY,Nat.mod_eq_of_lt (by omega)]
def Ic(i j:Int):Zr×Zr×Int:=if j=0 then(⟨false,[]⟩,⟨false,[]⟩,7)else(zn (i/j),zn (i%j),0)
theorem divMod_eq{x y:Zr}(hx:Wl x)(hy:Wl y):cm x y=some (Ic (zi x) (zi y)):=by
 obtain⟨n,w⟩:=x;obtain⟨m,u⟩:=y;unfold cm;have XD:(can 4294967296 (vl w)).length<=35184372088788:=hx.cl;have VJ:(can 4294967296 (vl u)).length<=35184372088788:=hy.cl;simp only[];rw[show bh w=some (can 4294967296 (vl w))from hx.trim,show bh u=some (can 4294967296 (vl u))from hy.trim,bZ,bZ,show zi ⟨n,w⟩=sv n (vl w)from Y,show zi ⟨m,u⟩=sv m (vl u)from rfl];simp only[bZ,di];generalize vl w=a at*;generalize vl u=b at*;by_cases h0:b=0
 ·subst h0;rw[show sv m 0=0 by cases m<;>rfl];rfl
 have tL:(can 4294967296 b).length≠0:=λh=>h0 (lT.1 h);rw[show decide (((can 4294967296 b).length:Int)=0)=false by simp;intro e;rw[e]at tL;exact tL Y,jb];obtain⟨q,r,UU,XE,XF,G0,Od,hq3,hr3⟩:=uz a b XD VJ h0;have hm:a%b<b:=Nat.mod_lt _ (by omega);obtain⟨e1,e2⟩:=O1 n m (a:=a) (show 0<b by omega);have hj:sv m b≠0:=by cases m<;>simp[sv]<;>omega
 rw[UU,bZ];simp only[];rw[rQ r (by have:=G0.2;omega),kA (by decide) G0.1,show val 4294967296 r=a%b from Od,bZ,Ic,if_neg hj,e1,e2];have hrl:(can 4294967296 (a%b)).length<=(can 4294967296 b).length:=(cO (by decide)).2 (Nat.lt_trans hm (c8 (by decide) b));have hK:∀c:Bool,(decide (n=true/\0<a%b)=c)->(bif c then(dG q [1]).bind λmZ=>(cr (can 4294967296 b) (can 4294967296 (a%b))).bind λr5=>(bU (!(n==m)) mZ).bind λx=>(bU false r5).bind λx_1=>some ((⟨x.neg,x.w⟩:Zr),(⟨x_1.neg,x_1.w⟩:Zr),(0:Int))
   else(bU (!(n==m)) q).bind λx=>(bU false (can 4294967296 (a%b))).bind λx_1=>some ((⟨x.neg,x.w⟩:Zr),(⟨x_1.neg,x_1.w⟩:Zr),(0:Int)))=
   some (zn (if n=true/\0<a%b then sv (!(n==m)) (a/b+1)else sv (!(n==m)) (a/b)),zn (if n=true/\0<a%b then((b-a%b:Nat):Int)else((a%b:Nat):Int)),0):=by
  intro c hc;cases c
  ·have VK:=of_decide_eq_false hc;rw[jb,if_neg VK,if_neg VK,iq _ _ XE.x,bZ,iq _ _ (eR (by omega)).x,bZ,dJ,XF,kW,kW,kC]
  have VK:=of_decide_eq_true hc;obtain⟨s1,s2⟩:=O2 (a:=b) (b:=a%b) (by omega) VJ;have w1:zT [1]:=⟨by simp,by simp⟩;rw[iI,if_pos VK,if_pos VK,ux _ _ XE w1,bZ,s1,bZ,iq _ _ ⟨λx hx=>jN (by decide) _ _ _ hx,by rw[bB];simp;omega⟩,bZ,iq _ _ ⟨λx hx=>jN (by decide) _ _ _ hx,by rw[bB];omega⟩,bZ,s2,kW,kW,kC];have:vl (ee 4294967296 (max q.length [1].length+1) (vl q+vl [1]))=a/b+1:=by
   show val _ _=_;rw[iY,show vl [1]=1 by decide,XF,Nat.mod_eq_of_lt];have h1:vl q<4294967296^q.length:=fS q XE.1;rw[XF]at h1;have h2:4294967296^q.length<=4294967296^(max q.length [1].length):=Nat.pow_le_pow_right (by decide) (by omega);have h3:0<4294967296^(max q.length [1].length):=Nat.pow_pos (by decide);rw[Nat.pow_succ];omega
  rw[this]
 have hz:(0<(can 4294967296 (a%b)).length)↔0<a%b:=by
  have:=lT (v:=a%b);omega
 cases n
 ·rw[jb,bZ];exact hK false (by simp)
 rw[iI,bZ];refine hK _ ?_;simp only[true_and];by_cases h:0<a%b
 ·simp[h,hz.2 h]
 have h':¬0<(can 4294967296 (a%b)).length:=λe=>h (hz.1 e);have h'':¬((0:Int)<((can 4294967296 (a%b)).length:Int)):=by omega
 simp only[h,h'',decide_false]
theorem O3{x y:Zr}(hx:Wl x)(hy:Wl y):iG x y=some (zn (Int.gcd (zi x) (zi y):Int)):=by
 obtain⟨n,w⟩:=x;obtain⟨m,u⟩:=y;unfold iG;have XD:(can 4294967296 (vl w)).length<=35184372088788:=hx.cl;have VJ:(can 4294967296 (vl u)).length<=35184372088788:=hy.cl;simp only[];rw[show bh w=some (can 4294967296 (vl w))from hx.trim,show bh u=some (can 4294967296 (vl u))from hy.trim,bZ,bZ,Int.gcd,zW,zW];show _=some (zn ((Nat.gcd (vl w) (vl u):Nat):Int));generalize vl w=a at*;generalize vl u=b at*;refine lP (λs=>∃c d,s=(can 4294967296 c,can 4294967296 d)/\Nat.gcd c d=Nat.gcd a b/\(can 4294967296 c).length<=35184372088788/\(can 4294967296 d).length<=35184372088788)
  (λs=>∃c d,s=(can 4294967296 c,can 4294967296 d)/\Nat.gcd c d=Nat.gcd a b/\(can 4294967296 c).length<=35184372088788/\(d=0\/(c<18446744073709551616/\d<18446744073709551616))) (λs=>vl s.2) ?_ ⟨a,b,Y,Y,XD,VJ⟩ ?_
 ·rintro _ ⟨c,d,rfl,hg,hc,hd⟩;simp only[bZ,di];by_cases h0:d=0
  ·right;subst h0;exact⟨_,Y,c,0,Y,hg,hc,.inl Y⟩
  have tL:(can 4294967296 d).length≠0:=λh=>h0 (lT.1 h);rw[show decide ((0:Int)<((can 4294967296 d).length:Int))=true by simp;omega,iI];by_cases h2:c<18446744073709551616/\d<18446744073709551616
  ·right;have c1:=eD.2 h2.1;have c2:=eD.2 h2.2;rw[show decide ((2:Int)<((can 4294967296 c).length:Int))=false by simp;omega,jb,show decide ((2:Int)<((can 4294967296 d).length:Int))=false by simp;omega];exact⟨_,Y,c,d,Y,hg,hc,.inr h2⟩
  left;have hm:c%d<d:=Nat.mod_lt _ (by omega);obtain⟨q,r,UU,XE,XF,G0,Od,-,-⟩:=uz c d hc hd h0;have FV:((bif decide ((2:Int)<((can 4294967296 c).length:Int))then some true else some (decide ((2:Int)<((can 4294967296 d).length:Int)))):Option Bool)=some true:=by
   by_cases Al:c<18446744073709551616
   ·have hd2:¬d<18446744073709551616:=λh=>h2 ⟨Al,h⟩;have:¬(((can 4294967296 d).length:Int)<=2):=λh=>hd2 (eD.1 h);rw[show decide ((2:Int)<((can 4294967296 d).length:Int))=true by simp;omega];exact wU _ _
   have:¬(((can 4294967296 c).length:Int)<=2):=λh=>Al (eD.1 h);rw[show decide ((2:Int)<((can 4294967296 c).length:Int))=true by simp;omega,iI]
  rw[FV,bZ,bZ,iI,UU,bZ];simp only[];rw[rQ r (by have:=G0.2;omega),kA (by decide) G0.1,show val 4294967296 r=c%d from Od,bZ];refine⟨_,Y,⟨d,c%d,Y,?_,hd,?_⟩,?_⟩
  ·rw[<-hg,Nat.gcd_comm d,<-Nat.gcd_rec,Nat.gcd_comm]
  ·exact Nat.le_trans ((cO (by decide)).2 (Nat.lt_trans hm (c8 (by decide) d))) hd
  simp only[dJ];exact hm
 rintro _ ⟨c,d,rfl,hg,hc,Br⟩;simp only[bZ];by_cases h0:d=0
 ·subst h0;rw[show decide (((can 4294967296 0).length:Int)=0)=true by simp[n9],iI,rT _ (by omega),bZ,iq _ _ (eR (by omega)).x,bZ,dJ,kW,kC,<-hg,Nat.gcd_zero_right]
 have h2:=Br.resolve_left h0;have tL:(can 4294967296 d).length≠0:=λh=>h0 (lT.1 h);have c1:=eD.2 h2.1;have c2:=eD.2 h2.2;rw[show decide (((can 4294967296 d).length:Int)=0)=false by simp;intro e;rw[e]at tL;exact tL Y,jb,low_eq _ (λ_ hx=>gS (by decide) hx) (by omega),bZ,low_eq _ (λ_ hx=>gS (by decide) hx) (by omega),bZ,dJ,dJ];refine lP (λs=>Nat.gcd s.1 s.2=Nat.gcd a b/\s.1<18446744073709551616/\s.2<18446744073709551616) (λe=>e=Nat.gcd a b/\e<18446744073709551616) (λs=>s.2) ?_ ⟨hg,h2.1,h2.2⟩ ?_
 ·rintro⟨s,t⟩ ⟨i1,i2,i3⟩;simp only at i1 i2 i3⊢;by_cases ht:0<t
  ·left;rw[show decide (0<t)=true by simp[ht],iI,vu (by omega),bZ];refine⟨_,Y,⟨?_,i3,?_⟩,Nat.mod_lt _ ht⟩
   ·rw[<-i1,Nat.gcd_comm t,<-Nat.gcd_rec,Nat.gcd_comm]
   exact Nat.lt_trans (Nat.mod_lt _ ht) i3
  right;rw[show decide (0<t)=false by simp[ht],jb];refine⟨_,Y,?_,i2⟩;rw[<-i1,show t=0 by omega,Nat.gcd_zero_right]
 rintro e ⟨rfl,he⟩;rw[lS _ _ he,bZ,kW,kC]
end
section
open Go.Fw
def zl(l:List Nat):List Int:=l.map (λ(n:Nat)=>(n:Int))
abbrev v16(l:List Nat):Nat:=val 65536 l
theorem Kj{x y:Zr}(h:x.w.length<=9000000000000000000):∃b,fN x y=some b/\(b=true↔x=y):=by
 obtain⟨n,w⟩:=x;obtain⟨m,u⟩:=y;unfold fN;simp only[bZ,di];by_cases hnm:n=m
 ·subst hnm;rw[show(!(n==n))=false by simp,jb,bZ];by_cases hl:w.length=u.length
  ·rw[show decide ((w.length:Int)≠(u.length:Int))=false by simp[hl],jb];refine jZ (λy=>∃i:Nat,y=(i:Int)/\i<=w.length/\w.take i=u.take i) (λe=>(∃c,e=.inl c/\w=u)\/(e=.inr false/\w≠u)) (λy=>w.length-y.toNat) ?_ ⟨0,Y,by omega,Y⟩ ?_
   ·rintro _ ⟨i,rfl,hi,ht⟩;by_cases hlt:i<w.length
    ·have g1:w[i]? =some w[i]:=by simp
     have g2:u[i]? =some (u[i]'(by omega)):=by simp
     rw[show decide ((i:Int)<(w.length:Int))=true by simp[hlt],iI,bt g1,bZ,bt g2,bZ];by_cases he:w[i]=u[i]'(by omega)
     ·left;rw[show decide (w[i]≠u[i]'(by omega))=false by simp[he],jb,cM (by simp at h;omega)];refine⟨_,Y,⟨i+1,Y,hlt,?_⟩,by omega⟩;rw[List.take_add_one,List.take_add_one,ht,g1,g2,he]
     right;rw[show decide (w[i]≠u[i]'(by omega))=true by simp[he],iI];refine⟨_,Y,.inr ⟨Y,?_⟩⟩;rintro rfl;exact he rfl
    right;rw[show decide ((i:Int)<(w.length:Int))=false by simp;omega,jb];refine⟨_,Y,.inl ⟨_,Y,?_⟩⟩;rw[List.take_of_length_le (by omega),List.take_of_length_le (by omega)]at ht;exact ht
   rintro e (⟨c,rfl,he⟩|⟨rfl,he⟩)
   ·exact⟨true,Y,by simp[he]⟩
   exact⟨false,Y,by simp[he]⟩
  rw[show decide ((w.length:Int)≠(u.length:Int))=true by simp;omega,iI];refine⟨_,Y,?_⟩;simp only[Bool.false_eq_true,false_iff];intro e;have:w=u:=congrArg Zr.w e;exact hl (by rw[this])
 rw[show(!(n==m))=true by simp[hnm],iI,bZ,iI];refine⟨_,Y,?_⟩;simp only[Bool.false_eq_true,false_iff];intro e;exact hnm (congrArg Zr.neg e)
theorem yy{x:Zr}(h:x.w.length<=9000000000000000000):fN x x=some true:=by
 obtain⟨b,h1,h2⟩:=Kj (y:=x) h;rw[h1,h2.2 rfl]
end
section
open Go.Fw
theorem zeta'(z:Zr):(⟨z.neg,z.w⟩:Zr)=z:=by cases z;rfl
theorem tj{i:Int}(h:dQ i):Fit 2 i:=Fit.i64 h.1 h.2
theorem BO{i:Int}(h:dQ i):Wl (zn i):=eP (tj h) (by decide)
end
section
open Go.Fw
abbrev OkZ(z:Zr):Prop:=True/\(z.w.length*4<=140737488351232/\∀x∈z.w,x<4294967296)
end
section
open Go.Fw
def qd(q:Qr):Int:=if zi q.den=0 then 1 else zi q.den
def qv(q:Qr):Rat:=Rat.divInt (zi q.num) (qd q)
def qn(r:Rat):Qr:=⟨zn r.num,if r.den=1 then⟨false,[]⟩else zn (r.den:Int)⟩
def FQ(L:Nat)(r:Rat):Prop:=Fit L r.num/\Fit L (r.den:Int)
structure kF (L:Nat) (q:Qr) (r:Rat):Prop where
 n:∀x∈q.num.w,x<4294967296
 d:∀x∈q.den.w,x<4294967296
 ln:q.num.w.length<=L
 ld:q.den.w.length<=L
 l1:1<=L
 v:qv q=r
theorem VL(q:Qr):qd q≠0:=by
 unfold qd;by_cases h:zi q.den=0
 ·rw[if_pos h];decide
 rw[if_neg h];exact h
theorem VM(r:Rat):qv (qn r)=r:=by
 unfold qv qd qn;by_cases h:r.den=1
 ·rw[if_pos h];show Rat.divInt (zi (zn r.num)) (if zi ⟨false,[]⟩=0 then 1 else zi ⟨false,[]⟩)=r;rw[if_pos (show zi ⟨false,[]⟩=0 from rfl),cI];have:=Rat.num_divInt_den r;rw[h]at this;exact this
 rw[if_neg h];show Rat.divInt (zi (zn r.num)) (if zi (zn (r.den:Int))=0 then 1 else zi (zn (r.den:Int)))=r;have:=r.den_nz;rw[cI,cI,if_neg (by omega),Rat.num_divInt_den]
theorem Ee{w:List Nat}{n:Bool}{L:Nat}(h:∀x∈w,x<4294967296)(hl:w.length<=L):Fit L (zi ⟨n,w⟩):=by
 unfold Fit;rw[zW];exact Nat.lt_of_lt_of_le (fS w h) (Nat.pow_le_pow_right (by decide) hl)
theorem rV{L:Nat}(h:1<=L):Fit L 1:=by
 unfold Fit;exact Nat.lt_of_lt_of_le (show(1:Int).natAbs<4294967296^1 by decide) (Nat.pow_le_pow_right (by decide) h)
theorem FQ.rep{L:Nat}{r:Rat}(h:FQ L r)(h1:1<=L):kF L (qn r) r:=by
 refine⟨λx hx=>gS (by decide) hx,?_,(cO (by decide)).2 h.1,?_,h1,VM r⟩
 ·unfold qn;by_cases e:r.den=1
  ·rw[if_pos e];simp
  rw[if_neg e];exact λx hx=>gS (by decide) hx
 unfold qn;by_cases e:r.den=1
 ·rw[if_pos e];simp
 rw[if_neg e];exact(cO (by decide)).2 h.2
theorem kF.wn{L:Nat}{q:Qr}{r:Rat}(h:kF L q r)(hL:L<=35184372088788):Wl q.num:=⟨h.n,Nat.le_trans h.ln hL⟩
theorem kF.wd{L:Nat}{q:Qr}{r:Rat}(h:kF L q r)(hL:L<=35184372088788):Wl q.den:=⟨h.d,Nat.le_trans h.ld hL⟩
theorem kF.fn{L:Nat}{q:Qr}{r:Rat}(h:kF L q r):Fit L (zi q.num):=Ee (n:=q.num.neg) h.n h.ln
theorem kF.fd{L:Nat}{q:Qr}{r:Rat}(h:kF L q r):Fit L (zi q.den):=Ee (n:=q.den.neg) h.d h.ld
theorem kF.fqd{L:Nat}{q:Qr}{r:Rat}(h:kF L q r):Fit L (qd q):=by
 unfold qd;by_cases e:zi q.den=0
 ·rw[if_pos e];exact rV h.l1
 rw[if_neg e];exact h.fd
theorem kF.mono{L M:Nat}{q:Qr}{r:Rat}(h:kF L q r)(hl:L<=M):kF M q r:=⟨h.n,h.d,Nat.le_trans h.ln hl,Nat.le_trans h.ld hl,Nat.le_trans h.l1 hl,h.v⟩
theorem FQ.mono{L M:Nat}{r:Rat}(h:FQ L r)(hl:L<=M):FQ M r:=⟨h.1.mono hl,h.2.mono hl⟩
theorem tq{L:Nat}{a d:Int}(h0:d≠0)(ha:Fit L a)(hd:Fit L d):FQ L (Rat.divInt a d):=by
 generalize hr:Rat.divInt a d=r;obtain⟨n',d',z',c⟩:=r;obtain⟨m,hm,h1,h2⟩:=Rat.divInt_num_den h0 hr;have hm':0<m.natAbs:=Int.natAbs_pos.2 hm;refine⟨ha.le ?_,hd.le ?_⟩
 ·rw[h1,Int.natAbs_mul];exact Nat.le_mul_of_pos_right _ hm'
 rw[h2,Int.natAbs_mul];exact Nat.le_mul_of_pos_right _ hm'
theorem kF.fq{L:Nat}{q:Qr}{r:Rat}(h:kF L q r):FQ L r:=by rw[<-h.v];exact tq (VL q) h.fn h.fqd
theorem FQ.neg{L:Nat}{x:Rat}(hx:FQ L x):FQ L (-x):=⟨hx.1.neg,hx.2⟩
theorem FQ.int{L:Nat}{i:Int}(h:Fit L i)(h1:1<=L):FQ L (i:Rat):=⟨h,rV h1⟩
theorem FQ.floor{L:Nat}{x:Rat}(hx:FQ L x):Fit L x.floor:=by
 rw[Rat.floor_def];exact hx.1.le (Int.natAbs_ediv_le_natAbs _ _)
def zY(x y:Rat):Int:=if x<y then-1 else if x=y then 0 else 1
theorem Fe(x:Rat):zY x x=0:=by unfold zY;rw[if_neg Rat.lt_irrefl,if_pos rfl]
theorem Kk{x y:Rat}(h:x<y):zY x y=-1:=if_pos h
theorem Kl{x y:Rat}(h:y<x):zY x y=1:=by
 unfold zY;rw[if_neg (λh'=>by grind),if_neg (λh'=>by grind)]
theorem oG{a b c d:Int}(hb:0<b)(hd:0<d):Rat.divInt a b<Rat.divInt c d↔a*d<c*b:=by
 have hb':(0:Rat)<(b:Rat):=Rat.intCast_pos.2 hb;have hd':(0:Rat)<(d:Rat):=Rat.intCast_pos.2 hd;rw[Rat.divInt_eq_div,Rat.divInt_eq_div,Rat.div_lt_iff hb',Rat.div_def,Rat.mul_assoc,Rat.mul_comm (d:Rat)⁻¹,<-Rat.mul_assoc,<-Rat.div_def,Rat.lt_div_iff hd',<-Rat.intCast_mul,<-Rat.intCast_mul,Rat.intCast_lt_intCast]
theorem Ie{a b c d:Int}(hb:0<b)(hd:0<d):zY (Rat.divInt a b) (Rat.divInt c d)=mQ (a*d) (c*b):=by
 unfold zY mQ;have e1:=oG (a:=a) (c:=c) hb hd;have e2:=Rat.divInt_eq_divInt_iff (n₁:=a) (d₁:=b) (n₂:=c) (d₂:=d) (by omega) (by omega);by_cases h1:a*d<c*b
 ·rw[if_pos (e1.2 h1),if_pos h1]
 rw[if_neg (λh=>h1 (e1.1 h)),if_neg h1];by_cases h2:a*d=c*b
 ·rw[if_pos (e2.2 h2),if_pos h2]
 rw[if_neg (λh=>h2 (e2.1 h)),if_neg h2]
theorem yz{a d:Int}(hd:0<d):qn (Rat.divInt a d)=⟨zn (a/(Int.gcd a d:Int)),if d/(Int.gcd a d:Int)=1 then⟨false,[]⟩else zn (d/(Int.gcd a d:Int))⟩:=by
 have h1:(Rat.divInt a d).num=a/(Int.gcd a d:Int):=by rw[Rat.num_divInt,Int.sign_eq_one_of_pos hd,Int.one_mul,Int.gcd_comm]
 have h2:((Rat.divInt a d).den:Int)=d/(Int.gcd a d:Int):=by
  rw[Rat.den_divInt,if_neg (by omega),Int.gcd_comm];have:(d.natAbs:Int)=d:=by omega
  rw[Int.natCast_ediv,this]
 unfold qn;rw[h1,h2];by_cases e:(Rat.divInt a d).den=1
 ·rw[if_pos e,if_pos (by omega)]
 rw[if_neg e,if_neg (by omega)]
theorem Km(k:Int):((bif(oa k).2 then some (decide ((oa k).1=1))else some false):Option Bool)=some (decide (k=1)):=by
 by_cases h:dQ k
 ·rw[fX h];rfl
 rw[kE h];have:¬k=1:=by rintro rfl;exact h (by decide)
 rw[decide_eq_false this];rfl
theorem wV{n d:Zr}(hn:Wl n)(hd:Wl d)(h:0<zi d):((iG n d).bind λg=>(cm n g).bind λa=>(cm d g).bind λb=>(cP b.1).bind λc=>
  (bif c.2 then some (decide (c.1=1))else some false).bind λe=>bif e then some (⟨a.1,⟨false,[]⟩⟩:Qr)else some ⟨a.1,b.1⟩)=some (qn (Rat.divInt (zi n) (zi d))):=by
 have g0:(Int.gcd (zi n) (zi d):Int)≠0:=by
  have:0<Int.gcd (zi n) (zi d):=Int.gcd_pos_of_ne_zero_right _ (by omega);omega
 have wg:Wl (zn (Int.gcd (zi n) (zi d):Int)):=eP ((Wl.fit hd).le (by
  have:=Nat.le_of_dvd (Int.natAbs_pos.2 (show zi d≠0 by omega)) (Int.gcd_dvd_natAbs_right (zi n) (zi d));simpa using this)) hd.2
 have wq:Wl (zn (zi d/(Int.gcd (zi n) (zi d):Int))):=eP ((Wl.fit hd).le (Int.natAbs_ediv_le_natAbs _ _)) hd.2;rw[O3 hn hd,bZ,divMod_eq hn wg,bZ,divMod_eq hd wg,bZ,cI,Ic,if_neg g0,Ic,if_neg g0];simp only[];rw[kD wq,bZ,cI,Km,bZ,yz h];by_cases e:zi d/(Int.gcd (zi n) (zi d):Int)=1
 ·rw[decide_eq_true e,iI,if_pos e]
 rw[decide_eq_false e,jb,if_neg e]
theorem reduce_eq{x y:Zr}(hx:Wl x)(hy:Wl y)(h0:zi y≠0):eo x y=some (qn (Rat.divInt (zi x) (zi y))):=by
 unfold eo;simp only[di,bZ,zeta',sign_eq hy];by_cases h:zi y<0
 ·rw[show decide ((zi y).sign<0)=true by rw[Int.sign_eq_neg_one_of_neg h];rfl,iI,neg_eq hx,bZ,neg_eq hy,bZ];have hp:=wV (eP (Wl.fit hx).neg hx.2) (eP (Wl.fit hy).neg hy.2) (by rw[cI];omega);rw[cI,cI,Rat.neg_divInt_neg]at hp;exact hp
 rw[show decide ((zi y).sign<0)=false by rw[Int.sign_eq_one_of_pos (by omega)];rfl,jb];exact wV hx hy (by omega)
end
section
open Go.Fw
theorem wW(q:Qr):(⟨⟨q.num.neg,q.num.w⟩,⟨q.den.neg,q.den.w⟩⟩:Qr)=q:=by cases q;rfl
theorem wX(q:Qr):(⟨q.num,q.den⟩:Qr)=q:=by cases q;rfl
theorem parts_eq{L:Nat}{q:Qr}{r:Rat}(h:kF L q r)(hL:L<=35184372088788):∃n d:Zr,cC q=some (n,d)/\Wl n/\Wl d/\0<zi d/\Rat.divInt (zi n) (zi d)=r/\Fit L (zi n)/\Fit L (zi d):=by
 have wn:=h.wn hL;have wd:=h.wd hL;have hv:=h.v;unfold cC;simp only[zeta',bZ,sign_eq wd,eE (x:=1) (by decide) (by decide),neg_eq wn,neg_eq wd];unfold qv qd at hv;rcases Int.lt_trichotomy (zi q.den) 0 with h1|h1|h1
 ·refine⟨_,_,?_,eP h.fn.neg hL,eP h.fd.neg hL,by rw[cI];omega,?_,by rw[cI];exact h.fn.neg,by rw[cI];exact h.fd.neg⟩
  ·rw[Int.sign_eq_neg_one_of_neg h1];rfl
  rw[cI,cI,Rat.neg_divInt_neg,<-hv,if_neg (by omega)]
 ·refine⟨_,_,?_,wn,eP (rV h.l1) hL,by rw[cI];decide,?_,h.fn,by rw[cI];exact rV h.l1⟩
  ·rw[h1];rfl
  rw[cI,<-hv,if_pos h1]
 refine⟨_,_,?_,wn,wd,h1,?_,h.fn,h.fd⟩
 ·rw[Int.sign_eq_one_of_pos h1];rfl
 rw[<-hv,if_neg (by omega)]
def Sm(a:Int):Prop:=-2147483648<a/\a<2147483648
theorem Sm.ok{a:Int}(h:Sm a):dQ a:=by unfold Sm at h;unfold dQ;omega
theorem wY{L:Nat}{q:Qr}{r:Rat}(h:kF L q r)(hL:L<=35184372088788):∃a b c,eL q=some (a,b,c)/\(c=true->Sm a/\0<b/\Sm b/\Rat.divInt a b=r):=by
 have wn:=h.wn hL;have wd:=h.wd hL;have hv:=h.v;unfold eL;simp only[zeta',bZ,di,kD wn,kD wd];unfold qv qd at hv;generalize zi q.num=n at*;generalize zi q.den=d at*;by_cases hs:Sm n/\Sm d
 ·obtain⟨h1,h2⟩:=hs;rw[fX h1.ok,fX h2.ok];unfold Sm at h1 h2;simp only[];rw[decide_eq_false (show ¬n<=-2147483648 by omega),decide_eq_false (show ¬2147483648<=n by omega),decide_eq_false (show ¬d<=-2147483648 by omega),decide_eq_false (show ¬2147483648<=d by omega)];simp only[Bool.not_true,jb,bZ];by_cases h0:d=0
  ·rw[decide_eq_true h0,iI];refine⟨_,_,_,Y,λ_=>⟨h1,by decide,⟨by decide,by decide⟩,?_⟩⟩;rw[<-hv,if_pos h0]
  rw[decide_eq_false h0,jb];rw[if_neg h0]at hv;by_cases hneg:d<0
  ·rw[decide_eq_true hneg,iI,eV (by omega) (by omega),eV (by omega) (by omega)];refine⟨_,_,_,Y,λ_=>⟨⟨by omega,by omega⟩,by omega,⟨by omega,by omega⟩,?_⟩⟩;rw[Int.zero_sub,Int.zero_sub,Rat.neg_divInt_neg,hv]
  rw[decide_eq_false hneg,jb];exact⟨_,_,_,Y,λ_=>⟨h1,by omega,h2,hv⟩⟩
 refine⟨0,0,false,?_,λe=>by cases e⟩;by_cases o1:dQ n
 ·by_cases o2:dQ d
  ·rw[fX o1,fX o2];simp only[Bool.not_true,jb,bZ];unfold Sm at hs;by_cases c1:n<=-2147483648
   ·rw[decide_eq_true c1];simp only[bZ,iI]
   rw[decide_eq_false c1];simp only[bZ,jb];by_cases c2:2147483648<=n
   ·rw[decide_eq_true c2];simp only[bZ,iI]
   rw[decide_eq_false c2];simp only[bZ,jb];by_cases c3:d<=-2147483648
   ·rw[decide_eq_true c3];simp only[bZ,iI]
   rw[decide_eq_false c3];simp only[bZ,jb];rw[decide_eq_true (show 2147483648<=d by omega)];simp only[iI]
  rw[fX o1,kE o2];simp only[Bool.not_true,Bool.not_false,jb,bZ,iI]
 rw[kE o1];simp only[Bool.not_false,bZ,iI]
theorem BP{a g:Int}(hg:0<g)(h:g∣a):Int.tdiv a g=a/g:=by
 obtain⟨k,rfl⟩:=h;rw[Int.mul_tdiv_cancel_left _ (by omega),Int.mul_ediv_cancel_left _ (by omega)]
theorem BQ{n d:Int}(hd:0<d)(hd':d<=9223372036854775807)(hn: -9223372036854775807<=n)(hn':n<=9223372036854775807):gI n d=some (qn (Rat.divInt n d)):=by
 unfold gI;simp only[bZ,di];refine lP (λs=>Int.gcd s.1 s.2=Int.gcd n d/\s.1.natAbs<=9223372036854775807/\s.2.natAbs<=9223372036854775807) (λe=>e.natAbs=Int.gcd n d/\e.natAbs<=9223372036854775807) (λs=>s.2.natAbs) ?_ ⟨Y,by simp only[];omega,by simp only[];omega⟩ ?_
 ·rintro⟨a,b⟩ ⟨i1,i2,i3⟩;simp only at i1 i2 i3⊢;by_cases hb:b=0
  ·right;subst hb;refine⟨a,by simp,?_,i2⟩;rw[<-i1];simp[Int.gcd]
  left;rw[decide_eq_true hb,iI,Es,if_neg hb,bZ];have hm:(Int.tmod a b).natAbs=a.natAbs%b.natAbs:=Int.natAbs_tmod a b;have hlt:=Nat.mod_lt a.natAbs (Int.natAbs_pos.2 hb);refine⟨_,Y,⟨?_,i3,by simp only[];omega⟩,by simp only[];omega⟩;simp only[];rw[<-i1,Int.gcd,Int.gcd,hm,Nat.gcd_comm b.natAbs,<-Nat.gcd_rec,Nat.gcd_comm]
 rintro e ⟨he,hle⟩;obtain⟨g,hg⟩:∃g:Int,(Int.gcd n d:Int)=g:=⟨_,Y⟩;have Xz:0<g:=by have:=Int.gcd_pos_of_ne_zero_right n (show d≠0 by omega);omega
 have hgn:g∣n:=hg▸Int.gcd_dvd_left ..;have hgd:g∣d:=hg▸Int.gcd_dvd_right ..;have hK:∀m:Int,m=g->(bif decide (m=d)then(qO n m).bind λfe=>(bp fe).bind λx=>some (⟨⟨x.neg,x.w⟩,⟨false,[]⟩⟩:Qr)else(qO n m).bind λiu=>(bp iu).bind λx=>(qO d m).bind λmY=>(bp mY).bind λy=>some ⟨⟨x.neg,x.w⟩,⟨y.neg,y.w⟩⟩)=some (qn (Rat.divInt n d)):=by
  rintro m rfl;have b1:(n/m).natAbs<=n.natAbs:=Int.natAbs_ediv_le_natAbs _ _;have b2:(d/m).natAbs<=d.natAbs:=Int.natAbs_ediv_le_natAbs _ _;have q1:qO n m=some (n/m):=by
   rw[qO,if_neg (by omega),BP Xz hgn,eV (by omega) (by omega)]
  have q2:qO d m=some (d/m):=by
   rw[qO,if_neg (by omega),BP Xz hgd,eV (by omega) (by omega)]
  rw[yz hd,hg,q1,q2];simp only[bZ,eE (x:=n/m) (by omega) (by omega),eE (x:=d/m) (by omega) (by omega),zeta'];by_cases e1:m=d
  ·rw[decide_eq_true e1,iI,if_pos (by rw[e1];exact Int.ediv_self (by omega))]
  rw[decide_eq_false e1,jb,if_neg];intro e2;have:=Int.ediv_mul_cancel hgd;rw[e2]at this;omega
 by_cases hneg:e<0
 ·rw[decide_eq_true hneg,iI,eV (by omega) (by omega)];exact hK _ (by omega)
 rw[decide_eq_false hneg,jb];exact hK _ (by omega)
theorem tu{a b:Int}(ha:Sm a)(hb:Sm b): -4611686018427387904<a*b/\a*b<4611686018427387904:=by
 unfold Sm at ha hb;have h1:(a*b).natAbs=a.natAbs*b.natAbs:=Int.natAbs_mul a b;have h2:a.natAbs*b.natAbs<=2147483647*2147483647:=Nat.mul_le_mul (by omega) (by omega);omega
theorem Kn{a b:Int}(ha:0<a)(hb:0<b):0<a*b:=Int.mul_pos ha hb
section ops
variable {L M:Nat}{a b:Qr}{x y:Rat}
theorem Ff(i:Int):cC ⟨zn i,⟨false,[]⟩⟩=some (zn i,zn 1):=by
 unfold cC;simp only[zeta',bZ,sign_eq (z:=⟨false,[]⟩) ⟨by simp,by simp⟩,eE (x:=1) (by decide) (by decide)];rfl
theorem Fg{i:Int}{L:Nat}(h:Fit L i)(h1:1<=L)(hL:L<=35184372088788):∃a b c,eL ⟨zn i,⟨false,[]⟩⟩=some (a,b,c)/\(c=true->Sm a/\0<b/\Sm b/\Rat.divInt a b=Rat.divInt i 1):=
 wY (L:=L) ⟨λ_ hx=>gS (by decide) hx,by simp,(cO (by decide)).2 h,by simp,h1,by
  unfold qv qd;rw[if_pos (show zi ⟨false,[]⟩=0 from rfl)];show Rat.divInt (zi (zn i)) 1=_;rw[cI]⟩ hL
theorem kF.abV{i:Int}(ha:kF L a x)(hi:Fit (L+1) i)(h:L+1<=35184372088788)(h1:x-Rat.divInt i 1<=1)(h2: -1<=x-Rat.divInt i 1):jm a ⟨zn i,⟨false,[]⟩⟩=some (qn (x-Rat.divInt i 1))/\kF L (qn (x-Rat.divInt i 1)) (x-Rat.divInt i 1):=by
 have l1:=ha.l1;obtain⟨n1,d1,c1,e1,k1⟩:=wY ha (by omega);obtain⟨n2,d2,c2,e2,k2⟩:=Fg hi (by omega) (by omega);obtain⟨p1,q1,f1,w1,w2,g1,v1,t1,t2⟩:=parts_eq ha (by omega);have f2:=Ff i;have e:x-Rat.divInt i 1=Rat.divInt (zi p1-i*zi q1) (zi q1):=by
  rw[<-v1,Rat.divInt_sub_divInt _ _ (by omega) (by decide),Int.mul_one,Int.mul_one]
 have b1:zi p1-i*zi q1<=zi q1:=by
  rw[e,show(1:Rat)=Rat.divInt 1 1 from rfl]at h1;rcases Int.lt_or_le (zi q1) (zi p1-i*zi q1)with k|k
  ·exact absurd ((oG (a:=1) (b:=1) (by decide) g1).2 (by omega)) (Rat.not_lt.2 h1)
  exact k
 have b2: -zi q1<=zi p1-i*zi q1:=by
  rw[e,show(-1:Rat)=Rat.divInt (-1) 1 from rfl]at h2;rcases Int.lt_or_le (zi p1-i*zi q1) (-zi q1)with k|k
  ·exact absurd ((oG (c:=-1) (d:=1) g1 (by decide)).2 (by omega)) (Rat.not_lt.2 h2)
  exact k
 have t5:Fit L (zi p1-i*zi q1):=t2.le (by omega);have t6:Fit (L+1) (i*zi q1):=by
  have:i*zi q1=zi p1-(zi p1-i*zi q1):=by omega
  rw[this];exact t1.sub t5
 refine⟨?_,by rw[e];exact(tq (by omega) t5 t2).rep l1⟩;have VN:gB a ⟨zn i,⟨false,[]⟩⟩=some (qn (x-Rat.divInt i 1)):=by
  unfold gB ff;have w3:=eP hi (by omega);have w4:=eP (rV (L:=1) (by decide)) (by omega);have u1:=eP t1 (by omega);have u2:=eP t6 (by omega);have u3:=eP t2 (by omega);have u4:=eP t5 (by omega);simp only[zeta',wW,wX,f1,f2,bZ,mul_eq w1 w4,mul_eq w3 w2,mul_eq w2 w4,cI,Int.mul_one,sub_eq u1 u2];rw[reduce_eq u4 u3 (by rw[cI];omega),bZ,cI,cI,e]
 unfold jm;simp only[zeta',wW,wX,e1,e2,bZ,di,VN];cases c1
 ·rw[jb,bZ,jb]
 cases c2
 ·rw[iI,bZ,jb]
 obtain⟨s1,s2,s3,s4⟩:=k1 Y;obtain⟨s5,s6,s7,s8⟩:=k2 Y;have m1:=tu s1 s7;have m2:=tu s5 s3;have m3:=tu s3 s7;have m4:=Kn s2 s6;rw[iI,bZ,iI,eV (x:=n1*d2) (by omega) (by omega),eV (x:=n2*d1) (by omega) (by omega),eV (x:=d1*d2) (by omega) (by omega),eV (by omega) (by omega),BQ m4 (by omega) (by omega) (by omega),bZ,<-s4,<-s8,Rat.divInt_sub_divInt _ _ (by omega) (by omega)]
theorem kF.canon(ha:kF L a x)(h:L<=35184372088788):jl a=some (qn x)/\kF L (qn x) x:=by
 refine⟨?_,ha.fq.rep ha.l1⟩;obtain⟨n1,d1,c1,e1,k1⟩:=wY ha (by omega);obtain⟨p1,q1,f1,w1,w2,g1,v1,t1,t2⟩:=parts_eq ha (by omega);unfold jl;simp only[zeta',wW,wX,e1,bZ,f1];cases c1
 ·rw[jb,reduce_eq w1 w2 (by omega),bZ,v1]
 obtain⟨s1,s2,s3,s4⟩:=k1 Y;unfold Sm at s1 s3;rw[iI,BQ s2 (by omega) (by omega) (by omega),bZ,s4]
end ops
end
section
open Go.Fw
theorem zZ{p q:Int}(hq:0<q):(Rat.divInt p q).floor=p/q:=by
 have key:∀k:Int,k<=(Rat.divInt p q).floor↔k<=p/q:=by
  intro k;rw[Rat.le_floor_iff,<-Rat.not_lt,show(k:Rat)=Rat.divInt k 1 by rw[Rat.divInt_eq_div];show _=(k:Rat)/1;grind,oG hq (by decide),Int.mul_one,Int.not_lt,Int.le_ediv_iff_mul_le hq]
 exact Int.le_antisymm ((key _).1 (Int.le_refl _)) ((key _).2 (Int.le_refl _))
theorem yA{p q u v:Int}(hq:0<q)(hv:0<v)(h:p.sign≠u.sign\/p.sign=0):kU (IntKind.i64.wrap (p.sign-u.sign))=some (mQ (p*v) (u*q)):=by
 have pv:0<p->0<p*v:=λh=>Int.mul_pos h hv;have pv':p<0->p*v<0:=λh=>Int.mul_neg_of_neg_of_pos h hv;have uq:0<u->0<u*q:=λh=>Int.mul_pos h hq;have uq':u<0->u*q<0:=λh=>Int.mul_neg_of_neg_of_pos h hq;rcases Int.lt_trichotomy p 0 with e1|e1|e1<;>rcases Int.lt_trichotomy u 0 with e2|e2|e2
 ·rw[Int.sign_eq_neg_one_of_neg e1,Int.sign_eq_neg_one_of_neg e2]at h;simp at h
 ·have:=pv' e1;rw[Int.sign_eq_neg_one_of_neg e1,e2,Int.zero_mul,j0 this];rfl
 ·have:=pv' e1;have:=uq e2;rw[Int.sign_eq_neg_one_of_neg e1,Int.sign_eq_one_of_pos e2,j0 (by omega)];rfl
 ·have:=uq' e2;rw[Int.sign_eq_neg_one_of_neg e2,e1,Int.zero_mul,j1 this];rfl
 ·rw[e1,e2,Int.zero_mul,Int.zero_mul];rfl
 ·have:=uq e2;rw[Int.sign_eq_one_of_pos e2,e1,Int.zero_mul,j0 this];rfl
 ·have:=pv e1;have:=uq' e2;rw[Int.sign_eq_one_of_pos e1,Int.sign_eq_neg_one_of_neg e2,j1 (by omega)];rfl
 ·have:=pv e1;rw[Int.sign_eq_one_of_pos e1,e2,Int.zero_mul,j1 this];rfl
 rw[Int.sign_eq_one_of_pos e1,Int.sign_eq_one_of_pos e2]at h;simp at h
theorem Ig(i:Int):qn (i:Rat)=⟨zn i,⟨false,[]⟩⟩:=by
 unfold qn;rw[Rat.den_intCast,if_pos Y,Rat.num_intCast]
section ops
variable {L M:Nat}{a b:Qr}{x y:Rat}
theorem kF.neg(ha:kF L a x)(h:L<=35184372088788):wE a=some (qn (-x))/\kF L (qn (-x)) (-x):=by
 refine⟨?_,ha.fq.neg.rep ha.l1⟩;unfold wE;have r:=(ha.canon h).2;simp only[zeta',wW,wX,(ha.canon h).1,bZ,neg_eq (r.wn h)];show some (⟨zn (-zi (zn x.num)),_⟩:Qr)=some (qn (-x));rw[cI];rfl
theorem kF.abW(ha:kF L a x)(hb:kF M b y)(hL:L<=35184372088788)(hM:M<=35184372088788):jn a b=some (zY x y):=by
 obtain⟨p1,q1,f1,w1,w2,g1,v1,t1,t2⟩:=parts_eq ha (by omega);obtain⟨p2,q2,f2,w3,w4,g2,v2,t3,t4⟩:=parts_eq hb (by omega);unfold jn;have u1:=Mt (t1.mul t4) (by omega);have u2:=Mt (t3.mul t2) (by omega);simp only[zeta',wW,wX,f1,f2,bZ,di,sign_eq w1,sign_eq w3,mul_eq w1 w4,mul_eq w3 w2,VI u1 u2,cI];rw[<-v1,<-v2,Ie g1 g2];by_cases e1:(zi p1).sign=(zi p2).sign
 ·rw[show decide ((zi p1).sign≠(zi p2).sign)=false by simp[e1],jb,bZ];by_cases e2:(zi p1).sign=0
  ·rw[decide_eq_true e2,iI,yA g1 g2 (.inr e2),bZ]
  rw[decide_eq_false e2,jb]
 rw[show decide ((zi p1).sign≠(zi p2).sign)=true by simp[e1],iI,bZ,iI,yA g1 g2 (.inl e1),bZ]
theorem kF.cmp(ha:kF L a x)(hb:kF M b y)(h:L+M<=35184372088768):jn a b=some (zY x y):=ha.abW hb (by omega) (by omega)
theorem kF.floor(ha:kF L a x)(h:L<=35184372088788):iT a=some (zn x.floor):=by
 obtain⟨p1,q1,f1,w1,w2,g1,v1,t1,t2⟩:=parts_eq ha h;unfold iT;simp only[zeta',wW,wX,f1,bZ,divMod_eq w1 w2];rw[Ic,if_neg (by omega),<-v1,zZ g1]
theorem new_eq{n d:Int}(hn:dQ n)(hd:dQ d)(h0:d≠0):iA n d=some (qn (Rat.divInt n d),0)/\kF 2 (qn (Rat.divInt n d)) (Rat.divInt n d):=by
 refine⟨?_,(tq h0 (tj hn) (tj hd)).rep (by decide)⟩;unfold iA;simp only[zeta',wW,wX,bZ,eE hn.1 hn.2,eE hd.1 hd.2];rw[decide_eq_false h0,jb,reduce_eq (BO hn) (BO hd) (by rw[cI];exact h0),bZ,cI,cI]
theorem z6:zi ⟨false,[]⟩=0:=rfl
theorem z8:Wl ⟨false,[]⟩:=⟨by simp,by simp⟩
theorem wZ{z:Zr}(hz:Wl z):c7 z=some (qn (zi z:Rat)):=by
 unfold c7 jy;simp only[zeta',bZ,add_eq hz z8,z6,Int.add_zero];rw[Ig]
end ops
end
section
open Go.Fw
theorem tm{a:Nat}:Int.tmod (a:Int) 65536=((a%65536:Nat):Int):=by
 rw[Int.tmod_eq_emod_of_nonneg (by omega)];omega
end
section
open Go.Fw
abbrev OkQ(q:Qr):Prop:=OkZ q.num/\OkZ q.den
theorem O4{q:Qr}{L:Nat}(h:OkQ q)(h1:q.num.w.length<=L)(h2:q.den.w.length<=L)(hL:1<=L):kF L q (qv q):=⟨h.1.2.2,h.2.2.2,h1,h2,hL,Y⟩
end
section
open Go.Fw
theorem abY(x y:Rat):x<y\/x=y\/y<x:=by grind
theorem uS{i:Int}{L:Nat}(h:Fit L i)(h1:1<=L)(hL:L<=35184372088788):c7 (zn i)=some (qn (i:Rat))/\kF L (qn (i:Rat)) (i:Rat):=by
 refine⟨?_,(FQ.int h h1).rep h1⟩;rw[wZ (eP h hL),cI]
end
section
open Go.Fw
theorem fj{J R:Type}{f:J->Option R}{g:(J->Option R)->Option R}{r:Option R}(h:g f=r):di f g=r:=h
theorem dT{p:Prop}[Decidable p](h:p):(some (decide p):Option Bool)=some true:=congrArg some (decide_eq_true h)
theorem dF{p:Prop}[Decidable p](h:¬p):(some (decide p):Option Bool)=some false:=congrArg some (decide_eq_false h)
theorem qp{β:Type}{x:Option Bool}{f:Bool->Option β}{r:Option β}{y:Option Bool}(h:x=some true)(hf:f true=r):(bif true then x else y).bind f=r:=by rw[iI,h];exact hf
theorem orC{β:Type}{b c:Bool}{x:Option Bool}{f:Bool->Option β}{r:Option β}(h:b=false->x=some c)(hf:f (b||c)=r):(bif b then some true else x).bind f=r:=by
 cases b
 ·rw[jb,h rfl];exact hf
 rw[iI];exact hf
section ops
variable {K L M:Nat}{a b c:Qr}{x y z:Rat}
end ops
theorem abZ{q:Qr}(h:OkQ q):kF 35184372087808 q (qv q):=O4 h (by have:=h.1.2.1;omega) (by have:=h.2.2.1;omega) (by decide)
theorem O5(l:List (List Qr))(hl:l.length<=9223372036854775807):∃b,eN l=some b/\(b=false->∀v∈l,v.length<=40):=by
 unfold eN;refine jZ (λs=>∃(i:Nat) (n:Int),s=(n,(i:Int))/\i<=l.length/\∀v∈l.take i,v.length<=40) (λe=>(e=.inl ()/\∀v∈l,v.length<=40)\/e=.inr true) (λs=>l.length-s.2.toNat) ?_ ⟨0,0,Y,by omega,by simp⟩ ?_
 ·rintro _ ⟨i,n,rfl,hi,ht⟩;by_cases hlt:i<l.length
  ·have g:=List.getElem?_eq_getElem hlt;by_cases h1:40<l[i].length
   ·exact .inr ⟨.inr true,aA Y<|aA (dT (by omega))<|dP Y<|aA (bt g)<|aA Y<|aA (dT (by omega))<|dP Y Y,.inr Y⟩
   obtain⟨e,he,-⟩:=sx (body:=λ(s:Int×Int)=>match s with|⟨y3,y5⟩=>(show Option ((Int×Int)⊕Int)from(cq l (i:Int)).bind λja=>(some (ja.length:Int)).bind λjx=>(some (decide ((y5:Int)<jx))).bind λfe=>(bif fe then(some (IntKind.i64.wrap (y3+1))).bind λlX=>(cq l (i:Int)).bind λmX=>(cq mX y5).bind λ⟨⟨xZ,tX⟩,⟨Ll,Lm⟩⟩=>(some (tX.length:Int)).bind λvc=>(some (min (100:Int) vc)).bind λmZ=>(some (IntKind.i64.wrap (lX+mZ))).bind λou=>(cq l (i:Int)).bind λAd=>(cq Ad y5).bind λ⟨⟨Bj,Bl⟩,⟨Ln,DC⟩⟩=>(some (DC.length:Int)).bind λvf=>(some (min (100:Int) vf)).bind λIt=>(some (IntKind.i64.wrap (ou+It))).bind λuI=>(some (IntKind.i64.wrap (y5+1))).bind λjH=>some (.inl (uI,jH))else some (.inr y3))))
    (s:=(n,0)) (λs=>∃(k:Nat) (m:Int),s=(m,(k:Int))/\k<=l[i].length) (λ_=>True) (λs=>l[i].length-s.2.toNat) (by
     rintro _ ⟨k,m,rfl,hk⟩;by_cases hk2:k<l[i].length
     ·have gk:=List.getElem?_eq_getElem hk2;generalize l[i][k]=q at gk;refine .inl ⟨(_,((k+1:Nat):Int)),aA (bt g)<|aA Y<|aA (dT (by omega))<|dP Y<|aA Y<|aA (bt g)<|aA (bt gk)<|aA Y<|aA Y<|aA Y<|aA (bt g)<|aA (bt gk)<|aA Y<|aA Y<|aA Y<|aA (congrArg some (cM (by omega))) Y,⟨k+1,_,Y,hk2⟩,by simp only[Int.toNat_natCast];omega⟩
     exact .inr ⟨m,aA (bt g)<|aA Y<|aA (dF (by omega))<|cn Y Y,aq⟩) ⟨0,n,Y,by omega⟩
   by_cases h2:400<e
   ·exact .inr ⟨.inr true,aA Y<|aA (dT (by omega))<|dP Y<|aA (bt g)<|aA Y<|aA (dF (by omega))<|cn Y<|aA he<|aA (dT h2)<|dP Y Y,.inr Y⟩
   refine .inl ⟨(e,((i+1:Nat):Int)),aA Y<|aA (dT (by omega))<|dP Y<|aA (bt g)<|aA Y<|aA (dF (by omega))<|cn Y<|aA he<|aA (dF h2)<|cn Y<|aA (congrArg some (cM (by omega))) Y,⟨i+1,e,Y,hlt,?_⟩,by simp only[Int.toNat_natCast];omega⟩;rw[List.take_add_one,g];intro u hu;rcases List.mem_append.1 hu with h|h
   ·exact ht u h
   simp at h;rw[h];omega
  refine .inr ⟨.inl (),aA Y<|aA (dF (by omega))<|cn Y Y,.inl ⟨Y,?_⟩⟩;rw[List.take_of_length_le (by omega)]at ht;exact ht
 rintro e (⟨rfl,he⟩|rfl)
 ·exact⟨false,Y,λ_=>he⟩
 exact⟨true,rfl,λh=>by cases h⟩
end
section
open Go.Fw
def uA(x:Rat):Int:=if x-(x.floor:Rat)<1/2 then x.floor else if 1/2<x-(x.floor:Rat)then x.floor+1 else if x.floor%2=0 then x.floor else x.floor+1
theorem ab0(i:Int):Rat.divInt i 1=(i:Rat):=by rw[Rat.divInt_eq_div];show(i:Rat)/1=_;grind
theorem ab1:Fit 1 1:=by unfold Fit;decide
theorem ab2:Fit 1 2:=by unfold Fit;decide
theorem VO:Rat.divInt 1 2=1/2:=by rw[Rat.divInt_eq_div];simp
theorem O6{L:Nat}{x:Rat}(h:FQ L x):Fit L 1:=Fit.le h.2 (by have:=Rat.den_pos x;omega)
theorem Ko{L:Nat}{x:Rat}(h:FQ L x):Fit (L+1) (uA x):=by
 have h1:=(h.floor).mono (show L<=L+1 by omega);have h2:Fit (L+1) (x.floor+1):=h.floor.add (O6 h);unfold uA;split
 ·exact h1
 split
 ·exact h2
 split
 ·exact h1
 exact h2
theorem Ih(i:Int):Fit 1 (i%2):=by
 have h1:=Int.emod_nonneg i (show(2:Int)≠0 by decide);have h2:=Int.emod_lt_of_pos i (show(0:Int)<2 by decide);unfold Fit;omega
theorem Fh(i:Int):decide ((i%2).sign=0)=decide (i%2=0):=by
 congr 1;exact propext Int.sign_eq_zero_iff_zero
theorem kF.round{L:Nat}{a:Qr}{x:Rat}(ha:kF L a x)(h:L<=35184372088508):dY a=some (zn (uA x)):=by
 have hf:=ha.fq;have f1:=ha.floor (show L<=35184372088788 by omega);obtain⟨n1,r1⟩:=new_eq (n:=1) (d:=2) (by decide) (by decide) (by decide);have w1:=eE (x:=1) (by decide) (by decide);have a1:=add_eq (eP hf.floor (by omega)) (eP ab1 (by decide));rw[cI,cI]at a1;obtain⟨i1,s1⟩:=uS hf.floor ha.l1 (by omega);have fi:=ab0 x.floor;have fl1:=Rat.floor_le x;have fl2:=Rat.lt_floor_add_one x;rw[Rat.intCast_add,show((1:Int):Rat)=1 from rfl]at fl2;obtain⟨e,r⟩:=ha.abV (hf.floor.mono (by omega)) (by omega) (by rw[fi];grind) (by rw[fi];grind);rw[fi]at e r;rw[<-Ig]at e;generalize qn (x-(x.floor:Rat))=q at e r;rw[VO]at n1 r1;have c1:=r.cmp r1 (by omega);have w2:=eE (x:=2) (by decide) (by decide);have d1:=divMod_eq (eP hf.floor (show L<=35184372088788 by omega)) (eP ab2 (by decide));rw[cI,cI]at d1;replace d1:cm (zn x.floor) (zn 2)=some (zn (x.floor/2),zn (x.floor%2),0):=d1;have g1:=sign_eq (eP (Ih x.floor) (by decide));rw[cI]at g1;have hr:zn (uA x)=if x-(x.floor:Rat)<1/2 then zn x.floor else if 1/2<x-(x.floor:Rat)then zn (x.floor+1)else if x.floor%2=0 then zn x.floor else zn (x.floor+1):=by
  unfold uA
  repeat' split
  all_goals rfl
 rw[hr];clear hr s1 r r1;generalize qn (1/2)=q1 at n1 c1;generalize qn (x.floor:Rat)=q2 at i1 e;generalize hz0:zn x.floor=z0 at*;generalize zn (x.floor+1)=z1 at*;generalize zn (x.floor/2)=z2 at*;generalize zn (x.floor%2)=z3 at*;generalize zn 1=z4 at*;generalize zn 2=z5 at*;unfold dY;refine aA n1<|aA f1<|aA w1<|aA a1<|aA i1<|aA e<|aA c1 ?_;rcases abY (x-(x.floor:Rat)) (1/2)with k|k|k
 ·rw[Kk k,if_pos k];exact aA (dT Y)<|dP Y Y
 ·rw[k,Fe,if_neg Rat.lt_irrefl,if_neg Rat.lt_irrefl];refine aA (dF (by decide))<|cn Y<|aA (dF (by decide))<|cn Y<|aA w2<|aA d1<|aA g1<|aA (congrArg some (Fh _)) ?_;by_cases h2:x.floor%2=0
  ·rw[if_pos h2];exact dP (decide_eq_true h2) Y
  rw[if_neg h2];exact cn (decide_eq_false h2) Y
 rw[Kl k,if_neg (by grind),if_pos k];exact aA (dF (by decide))<|cn Y<|aA (dT Y)<|dP Y Y
def Ag(n:Int)(len:Nat)(acc:Int)(kd:Nat)(hour:Int):Int:=if ¬(0<acc/\acc<n)then 1 else if kd<1\/4<kd then 12 else if hour< -1\/8<=hour then 1 else if 1024<=len then 5 else 0
theorem rW{n:Int}{es:List En}(h:n≠0):cf n es=some false:=by
 unfold cf;exact fj<|aA (a:=false) (cn Y<|aA (dF h) Y) Y
theorem vA(n:Int)(es:List En)(a:Int):fz n es a=some (decide (0<a/\a<n)):=by
 unfold fz;refine fj<|aA Y ?_;by_cases h:0<a
 ·exact aA (a:=decide (0<a/\a<n)) (dP (decide_eq_true h)<|aA Y (by simp[h])) Y
 exact aA (a:=decide (0<a/\a<n)) (cn (decide_eq_false h) (by simp[h])) Y
theorem check_eq(n:Int)(es:List En)(acc:Int)(kd:Nat)(hour:Int)(c:Zr)(len:Nat):∃e,iU ⟨acc,kd,hour,c⟩ n es=some e/\(e≠0->Ag n len acc kd hour=e)/\(e=0->Ag n len acc kd hour=if 1024<=len then 5 else 0):=by
 unfold iU Ag;by_cases h1:0<acc/\acc<n
 ·by_cases h2:kd<1\/4<kd
  ·refine⟨12,aA (vA _ _ _)<|aA Y<|cn (by simp[h1])<|fj<|aA Y<|aA (a:=true) ?_<|dP Y Y,λ_=>by rw[if_neg (by simpa using h1),if_pos h2],by simp⟩;by_cases h3:kd<1
   ·exact dP (decide_eq_true h3) Y
   exact cn (decide_eq_false h3)<|aA (dT (by omega)) Y
  by_cases h3:hour< -1\/8<=hour
  ·refine⟨1,aA (vA _ _ _)<|aA Y<|cn (by simp[h1])<|fj<|aA Y<|aA (a:=false) (cn (decide_eq_false (by omega))<|aA (dF (by omega)) Y)<|cn Y<|fj<|aA Y<|aA (a:=true) ?_<|dP Y Y,λ_=>by rw[if_neg (by simpa using h1),if_neg h2,if_pos h3],by simp⟩;by_cases h4:hour< -1
   ·exact dP (decide_eq_true h4) Y
   exact cn (decide_eq_false h4)<|aA (dT (by omega)) Y
  exact⟨0,aA (vA _ _ _)<|aA Y<|cn (by simp[h1])<|fj<|aA Y<|aA (a:=false) (cn (decide_eq_false (by omega))<|aA (dF (by omega)) Y)<|cn Y<|fj<|aA Y<|aA (a:=false) (cn (decide_eq_false (by omega))<|aA (dF (by omega)) Y)<|cn Y Y,by simp,λ_=>by rw[if_neg (by simpa using h1),if_neg h2,if_neg h3]⟩
 exact⟨1,aA (vA _ _ _)<|aA Y<|dP (by simp[h1]) Y,λ_=>by simp[h1],by simp⟩
def O7(n:Int)(es:List En)(m:Mv)(c:Zr):List En:=if Ag n es.length m.acc m.kd m.hour=0 then es++[⟨m.acc,m.kd,m.hour,c⟩]else es
theorem move_eq{n:Int}{es:List En}{acc:Int}{kd:Nat}{hour:Int}{a:Qr}{L:Nat}{x:Rat}(hn:n≠0)(ha:kF L a x)(hL:L<=35184372088508)(hl:es.length<=1000000):
  bJ n es acc kd hour a=some (Ag n es.length acc kd hour,O7 n es ⟨acc,kd,hour,a⟩ (zn (uA x))):=by
 obtain⟨e,he,h1,h2⟩:=check_eq n es acc kd hour ⟨false,[]⟩ es.length;have hr:=ha.round hL;unfold O7 bJ;show(cf n es).bind _=some (Ag n es.length acc kd hour,if Ag n es.length acc kd hour=0 then es++[⟨acc,kd,hour,zn (uA x)⟩]else es);generalize zn (uA x)=z at hr⊢;refine aA (rW hn)<|cn Y<|aA he<|?_;by_cases h0:e=0
 ·subst h0;rw[h2 rfl];refine aA (dF (by simp))<|cn Y<|aA Y ?_;by_cases h3:1024<=es.length
  ·rw[if_pos h3,if_neg (by decide)];exact aA (dT (by omega))<|dP Y Y
  rw[if_neg h3,if_pos rfl];exact aA (dF (by omega))<|cn Y<|aA hr<|aA (Bx (by decide) (by omega)) Y
 rw[h1 h0,if_neg h0];exact aA (dT h0)<|dP Y Y
structure uT (n:Int) (K:Nat) (e:En):Prop where
 a:1<=e.acc
 b:e.acc<n
 k:1<=e.kd/\e.kd<=4
 z:e.gu=zn (zi e.gu)
 f:Fit K (zi e.gu)
def gM(f:En->Int)(es:List En):Int:=(es.map f).sum
theorem BR(f:En->Int)(l k:List En):gM f (l++k)=gM f l+gM f k:=by simp[gM]
theorem yB(f:En->Int){es:List En}{k:Nat}(h:k<es.length):gM f (es.take (k+1))=gM f (es.take k)+f es[k]:=by
 rw[List.take_add_one,List.getElem?_eq_getElem h,BR];simp[gM]
theorem Ef{K:Nat}:∀{l:List Int},(∀c∈l,Fit K c)->l.sum.natAbs<=l.length*(4294967296^K-1)
 |[],_=>by simp
 |c::l,h=>by
  have h1:=h c (by simp);have h2:=Ef (l:=l) (λc hc=>h c (by simp[hc]));rw[List.sum_cons,List.length_cons,Nat.succ_mul];have:=Int.natAbs_add_le c l.sum;unfold Fit at h1;omega
theorem Kp{K:Nat}{l:List Int}(h:∀c∈l,Fit K c)(hl:l.length<=4294967296):Fit (K+1) l.sum:=by
 have h1:=Ef h;have h2:=Nat.mul_le_mul_right (4294967296^K-1) hl;have h3:=Nat.pow_pos (n:=K) (show 0<4294967296 by decide);unfold Fit;rw[Nat.pow_succ,Nat.mul_comm (4294967296^K)];generalize 4294967296^K=m at*;omega
theorem VP{K:Nat}:Fit K 0:=by unfold Fit;exact Nat.pow_pos (by decide)
theorem Ii{K:Nat}{f:En->Int}{es:List En}(h:∀e∈es,Fit K (f e))(hl:es.length<=1000000):Fit (K+1) (gM f es):=
 Kp (λc hc=>by obtain⟨e,he,rfl⟩:=List.mem_map.1 hc;exact h e he) (by simp;omega)
theorem w5{K:Nat}{f:En->Int}{es:List En}(h:∀e∈es,Fit K (f e))(k:Nat)(hl:es.length<=1000000):Fit (K+1) (gM f (es.take k)):=
 Ii (λe he=>h e (List.mem_of_mem_take he)) (by rw[List.length_take];omega)
def j9(i:Int)(e:En):Int:=if i=0 then-zi e.gu else if e.acc=i then zi e.gu else 0
theorem BS{n:Int}{K:Nat}{e:En}(h:uT n K e)(i:Int):Fit K (j9 i e):=by
 unfold j9;split
 ·exact h.f.neg
 split
 ·exact h.f
 exact VP
def uU(n:Nat)(es:List En):List Zr:=(List.range n).map λ(i:Nat)=>zn (gM (j9 (i:Int)) es)
theorem lW(n:Nat)(es:List En):(uU n es).length=n:=by simp[uU]
theorem jG{n i:Nat}(es:List En)(h:i<n):(uU n es)[i]? =some (zn (gM (j9 (i:Int)) es)):=by simp[uU,h]
theorem Ij{n:Nat}{es:List En}{k a:Nat}(hk:k<es.length)(hn:0<n)(ha:es[k].acc=(a:Int))(h1:1<=a)(h2:a<n):
  ((uU n (es.take k)).set a (zn (gM (j9 a) (es.take k)+zi es[k].gu))).set 0 (zn (gM (j9 0) (es.take k)-zi es[k].gu))=uU n (es.take (k+1)):=by
 apply List.ext_getElem?;intro i;by_cases hi:i<n
 ·rw[jG _ hi,List.getElem?_set,List.getElem?_set,List.length_set,lW,jG _ hi,yB _ hk];by_cases e0:0=i
  ·subst e0;rw[if_pos Y,if_pos hn];rw[show j9 ((0:Nat):Int) es[k]=-zi es[k].gu from if_pos rfl];rfl
  rw[if_neg e0];by_cases ea:a=i
  ·subst ea;rw[if_pos Y,if_pos hi];unfold j9;rw[if_neg (show ¬((a:Int)=0) by omega),if_pos ha]
  rw[if_neg ea];have:j9 i es[k]=0:=by unfold j9;rw[if_neg (by omega),ha,if_neg (by omega)]
  rw[this,Int.add_zero]
 rw[List.getElem?_eq_none (by simp[lW];omega),List.getElem?_eq_none (by simp[lW];omega)]
theorem all_eq{n:Nat}{es:List En}{K:Nat}(hn:0<n)(hn2:n<=64)(he:∀e∈es,uT n K e)(hl:es.length<=1000000)(hK:K<=35184372088508):fW n es=some (uU n es):=by
 unfold fW;refine aA (rW (by omega))<|cn Y<|aA (td (by decide) (by omega))<|aA Y ?_;refine b9 (λk=>((k:Int),uU n (es.take k))) es.length (uU n es) ?_ (λk hk=>?_) ?_ Y
 ·simp only[List.take_zero];congr 1;apply List.ext_getElem?;intro i;by_cases hi:i<n
  ·rw[jG _ hi,List.getElem?_replicate,if_pos hi];rfl
  rw[List.getElem?_eq_none (by simp;omega),List.getElem?_eq_none (by simp[lW];omega)]
 ·have g:=List.getElem?_eq_getElem hk;have ho:=he _ (List.getElem_mem hk);obtain⟨a,ha⟩:∃a:Nat,es[k].acc=(a:Int):=⟨es[k].acc.toNat,by have:=ho.a;omega⟩;have h1:1<=a:=by have:=ho.a;omega
  have h2:a<n:=by have:=ho.b;omega
  have s:=Ij hk hn ha h1 h2;have f1:Fit (K+1) (gM (j9 a) (es.take k)):=w5 (λe h=>BS (he e h) _) k hl;have f2:Fit (K+1) (gM (j9 0) (es.take k)):=w5 (λe h=>BS (he e h) _) k hl;have a1:=add_eq (eP f1 (by omega)) (eP ho.f (by omega));have a2:=sub_eq (eP f2 (by omega)) (eP ho.f (by omega));rw[cI,cI,<-ho.z]at a1 a2;have g1:=jG (es.take k) h2;have g2:((uU n (es.take k)).set a (zn (gM (j9 a) (es.take k)+zi es[k].gu)))[0]? =some (zn (gM (j9 0) (es.take k))):=by
   rw[List.getElem?_set,if_neg (by omega)];exact jG (es.take k) hn
  rw[<-s];generalize hq:uU n (es.take k)=q at*;have PK:q.length=n:=by rw[<-hq];exact lW _ _
  generalize zn (gM (j9 a) (es.take k)+zi es[k].gu)=z1 at*;generalize zn (gM (j9 0) (es.take k)-zi es[k].gu)=z2 at*;generalize zn (gM (j9 a) (es.take k))=z3 at*;generalize zn (gM (j9 0) (es.take k))=z4 at*;clear s ho f1 f2;generalize es[k]=e at*;obtain⟨acc,kd,hour,c⟩:=e;replace ha:acc=(a:Int):=ha;subst ha;refine aA (dT (by omega))<|dP Y<|aA (ec hk)<|aA g<|aA (ec (by omega))<|aA g1<|aA a1<|aA (ec (by omega))<|aA (jt (by omega))<|aA (ec (i:=0) (by simp;omega))<|aA g2<|aA a2<|aA (ec (i:=0) (by simp;omega))<|aA (jt (by simp;omega))<|aA (congrArg some (cM (by omega))) Y
 rw[List.take_length];exact aA (dF (by omega))<|cn Y Y
theorem entries_eq{n:Nat}{es:List En}{K:Nat}(hn:0<n)(he:∀e∈es,uT n K e)(hl:es.length<=1000000)(hK:K<=35184372088508):cw n es=some es:=by
 unfold cw;refine aA (rW (by omega))<|cn Y<|aA Y<|aA (td (by decide) (by omega))<|aA Y ?_;refine b9 (λk=>((k:Int),es.take k++List.replicate (es.length-k) (⟨0,0,0,⟨false,[]⟩⟩:En))) es.length es (by simp) (λk hk=>?_) ?_ Y
 ·have g:=List.getElem?_eq_getElem hk;have ho:=he _ (List.getElem_mem hk);have a1:=add_eq (eP ho.f (show K<=35184372088788 by omega)) (show Wl ⟨false,[]⟩from z8);rw[cI,z6,Int.add_zero,<-ho.z]at a1;have s:(es.take k++List.replicate (es.length-k) (⟨0,0,0,⟨false,[]⟩⟩:En)).set k es[k]=es.take (k+1)++List.replicate (es.length-(k+1)) ⟨0,0,0,⟨false,[]⟩⟩:=by
   rw[List.set_append_right _ _ (by simp;omega),show k-(es.take k).length=0 by simp;omega,show es.length-k=(es.length-(k+1))+1 by omega,List.replicate_succ,List.set_cons_zero,List.take_add_one,g];simp only[Option.toList_some,List.append_assoc,List.singleton_append]
  rw[<-s];have PK:(es.take k++List.replicate (es.length-k) (⟨0,0,0,⟨false,[]⟩⟩:En)).length=es.length:=by simp;omega
  generalize (es.take k++List.replicate (es.length-k) (⟨0,0,0,⟨false,[]⟩⟩:En))=q at*;clear s ho;generalize es[k]=e at*;obtain⟨acc,kd,hour,c⟩:=e;refine aA (dT (by omega))<|dP Y<|aA (ec hk)<|aA g<|aA a1<|aA (ec (by omega))<|aA (jt (by omega))<|aA (congrArg some (cM (by omega))) Y
 simp only[List.take_length,Nat.sub_self,List.replicate_zero,List.append_nil];exact aA (dF (by omega))<|cn Y Y
def Fv(k:Nat)(e:En):Int:=if e.kd=k then zi e.gu else 0
theorem Kq{n:Int}{K:Nat}{e:En}(h:uT n K e)(k:Nat):Fit K (Fv k e):=by
 unfold Fv;split
 ·exact h.f
 exact VP
theorem VQ{n:Nat}{es:List En}{K:Nat}(hn:0<n)(he:∀e∈es,uT n K e)(hl:es.length<=1000000)(hK:K<=35184372088508)(kind:Nat):gC n es kind=some (zn (gM (Fv kind) es)):=by
 unfold gC;refine aA (rW (by omega))<|cn Y<|aA Y ?_;refine b9 (λk=>((k:Int),(zn (gM (Fv kind) (es.take k))).neg,(zn (gM (Fv kind) (es.take k))).w)) es.length ((zn (gM (Fv kind) es)).neg,(zn (gM (Fv kind) es)).w) Y (λk hk=>?_) ?_ Y
 ·have g:=List.getElem?_eq_getElem hk;have ho:=he _ (List.getElem_mem hk);have f1:Fit (K+1) (gM (Fv kind) (es.take k)):=w5 (λe h=>Kq (he e h) _) k hl;have a1:=add_eq (eP f1 (by omega)) (eP ho.f (by omega));rw[cI,cI,<-ho.z]at a1;rw[yB _ hk];have hkd:Fv kind es[k]=if es[k].kd=kind then zi es[k].gu else 0:=rfl;generalize gM (Fv kind) (es.take k)=s at*;rw[hkd];clear f1 ho hkd;generalize es[k]=e at*;obtain⟨acc,kd,hour,c⟩:=e;refine aA (dT (by omega))<|dP Y<|aA (ec hk)<|aA g<|aA Y<|fj ?_;by_cases h:kd=kind
  ·rw[if_pos h];refine dP (decide_eq_true h) ?_;generalize zn (s+zi c)=z1 at*;generalize zn s=z0 at*;exact aA a1<|aA (congrArg some (cM (by omega))) Y
  rw[if_neg h,Int.add_zero];exact cn (decide_eq_false h)<|aA (congrArg some (cM (by omega))) Y
 rw[List.take_length];exact aA (dF (by omega))<|cn Y Y
theorem Ik{n:Int}(h1:1<=n)(h2:n<=64):jr n=some (n,[]):=by
 unfold jr;exact fj<|aA (dF (by omega))<|aA (a:=false) (cn Y<|aA (dF (by omega)) Y) Y
theorem Il{n:Int}{K:Nat}{es:List En}(he:∀e∈es,uT n K e)(hl:es.length<=1000000)(hK:K<=35184372088508):fO es es=some true:=by
 unfold fO;refine aA Y<|aA Y<|aA (dF (by simp))<|cn Y ?_;refine b9 (λk=>(k:Int)) es.length (.inl ()) Y (λk hk=>?_) ?_ Y
 ·have g:=List.getElem?_eq_getElem hk;have ho:=he _ (List.getElem_mem hk);have s:=yy (x:=es[k].gu) (by
   rw[ho.z];have:(can 4294967296 (zi es[k].gu).natAbs).length<=K:=(cO (by decide)).2 ho.f;show(can 4294967296 (zi es[k].gu).natAbs).length<=_;omega)
  clear ho;generalize es[k]=e at*;obtain⟨acc,kd,hour,c⟩:=e;refine aA Y<|aA (dT (by omega))<|dP Y<|fj<|aA (bt g)<|aA (bt g)<|aA (dF (by simp)) ?_;refine aA (a:=false) (cn Y<|aA (bt g)<|aA (bt g)<|aA (dF (by simp)) Y) ?_;refine aA (a:=false) (cn Y<|aA (bt g)<|aA (bt g)<|aA (dF (by simp)) Y) ?_;refine aA (a:=false) (cn Y<|aA (bt g)<|aA (bt g)<|aA s<|aA Y Y) ?_;exact cn Y<|aA (congrArg some (cM (by omega))) Y
 exact aA Y<|aA (dF (by omega))<|cn Y Y
end
section
open Go.Fw
def Eg(x:Rat)(r:Int):Prop:=(2*(x-(r:Rat))<1/\-1<2*(x-(r:Rat)))\/((2*(x-(r:Rat))=1\/2*(x-(r:Rat))=-1)/\r%2=0)
theorem BT(l:Int):((l+1:Int):Rat)=(l:Rat)+1:=by rw[Rat.intCast_add];rfl
theorem BU(x:Rat):Eg x (uA x):=by
 have h1:=Rat.floor_le x;have h2:=Rat.lt_floor_add_one x;rw[BT]at h2;have hh:(1:Rat)/2+1/2=1:=by grind
 unfold uA;generalize x.floor=l at*;split
 ·exact .inl (by constructor<;>grind)
 split
 ·exact .inl (by rw[BT];constructor<;>grind)
 have e:2*(x-(l:Rat))=1:=by grind
 split
 ·rename_i h;exact .inr ⟨.inl e,h⟩
 refine .inr ⟨.inr ?_,by omega⟩;rw[BT];grind
theorem Eh{x y:Rat}{r s:Int}(h:Eg x r)(k:Eg y s)(e:x<=y):r<=s:=by
 by_cases Lc:r<=s
 ·exact Lc
 exfalso;have h2:((s+1:Int):Rat)<=(r:Rat):=Rat.intCast_le_intCast.2 (by omega);rw[BT]at h2;have a1: -1<=2*(x-(r:Rat)):=by rcases h with h|⟨h|h,_⟩<;>grind
 have a2:2*(y-(s:Rat))<=1:=by rcases k with h|⟨h|h,_⟩<;>grind
 have e1:(r:Rat)=((s+1:Int):Rat):=by rw[BT];grind
 have e2:r=s+1:=Rat.intCast_inj.1 e1;have b1:r%2=0:=by
  rcases h with⟨h,h'⟩|⟨_,h⟩
  ·exfalso;grind
  exact h
 have b2:s%2=0:=by
  rcases k with⟨h,h'⟩|⟨_,h⟩
  ·exfalso;grind
  exact h
 omega
theorem oc{x:Rat}{r:Int}(h:Eg x r):uA x=r:=Int.le_antisymm (Eh (BU x) h Rat.le_refl) (Eh h (BU x) Rat.le_refl)
theorem Kr{i n:Int}{K:Nat}(hf:Fit K i)(hK:K<=35184372088788)(hn:dQ n)(e:i=n):dI (zn i) n=some true:=by
 subst e;have h1:=eE hn.1 hn.2;have h2:=yy (x:=zn i) (Nat.le_trans (eP hf hK).2 (by decide));unfold dI;generalize zn i=z at*;exact aA h1<|aA h2 Y
theorem iC{n:Int}(hn:dQ n):dI (zn n) n=some true:=Kr (K:=2) (Fit.i64 hn.1 hn.2) (by decide) hn Y
theorem kf{n d:Int}(hn:dQ n)(hd:dQ d)(h0:d≠0):∃q,cE n d=some q/\kF 2 q (Rat.divInt n d):=by
 obtain⟨h,r⟩:=new_eq hn hd h0;refine⟨_,?_,r⟩;unfold cE;generalize qn (Rat.divInt n d)=q at*;exact aA h Y
theorem rX{n:Int}{es:List En}{acc:Int}{kd:Nat}{hour:Int}{a:Qr}{L:Nat}{x:Rat}(e:Int)(hn:n≠0)(ha:kF L a x)(hL:L<=35184372088508)(hl:es.length<=1000000)(he:Ag n es.length acc kd hour=e)(h0:e≠0):bJ n es acc kd hour a=some (e,es):=by
 rw[move_eq hn ha hL hl];unfold O7;show some (Ag n es.length acc kd hour,if Ag n es.length acc kd hour=0 then es++[⟨acc,kd,hour,zn (uA x)⟩]else es)=_;rw[he,if_neg h0]
theorem yC{n:Int}{es:List En}{acc:Int}{kd:Nat}{hour:Int}{a:Qr}{L:Nat}{x:Rat}(hn:n≠0)(ha:kF L a x)(hL:L<=35184372088508)(hl:es.length<=1000000)(he:Ag n es.length acc kd hour=0)(r:Int)(hr:uA x=r):bJ n es acc kd hour a=some (0,es++[⟨acc,kd,hour,zn r⟩]):=by
 rw[move_eq hn ha hL hl];unfold O7;show some (Ag n es.length acc kd hour,if Ag n es.length acc kd hour=0 then es++[⟨acc,kd,hour,zn (uA x)⟩]else es)=_;rw[he,if_pos Y,hr]
theorem r52:uA (Rat.divInt 5 2)=2:=oc (.inr ⟨.inl (by rw[Rat.divInt_eq_div];show 2*((5:Rat)/2-2)=1;grind),Y⟩)
theorem r72:uA (Rat.divInt 7 2)=4:=oc (.inr ⟨.inr (by rw[Rat.divInt_eq_div];show 2*((7:Rat)/2-4)=-1;grind),Y⟩)
theorem ab3:uA (Rat.divInt (-5) 2)=-2:=oc (.inr ⟨.inr (by rw[Rat.divInt_eq_div];show 2*((-5:Rat)/2-(-2))=-1;grind),Y⟩)
theorem r83:uA (Rat.divInt 8 3)=3:=oc (.inl (by rw[Rat.divInt_eq_div];show 2*((8:Rat)/3-3)<1/\-1<2*((8:Rat)/3-3);constructor<;>grind))
theorem ab4:uA (Rat.divInt (-7) 1)=-7:=oc (.inl (by rw[Rat.divInt_eq_div];show 2*((-7:Rat)/1-(-7))<1/\-1<2*((-7:Rat)/1-(-7));constructor<;>grind))
theorem qt:ga=some true:=by
 obtain⟨q1,e1,s1⟩:=kf (n:=5) (d:=2) (by decide) (by decide) (by decide);obtain⟨q2,e2,s2⟩:=kf (n:=-7) (d:=1) (by decide) (by decide) (by decide);obtain⟨q3,e3,s3⟩:=kf (n:=1) (d:=1) (by decide) (by decide) (by decide);obtain⟨q4,e4,s4⟩:=kf (n:=7) (d:=2) (by decide) (by decide) (by decide);obtain⟨q5,e5,s5⟩:=kf (n:=-5) (d:=2) (by decide) (by decide) (by decide);obtain⟨q6,e6,s6⟩:=kf (n:=8) (d:=3) (by decide) (by decide) (by decide);have m1:=yC (n:=3) (es:=[]) (acc:=1) (kd:=1) (hour:=0) (by decide) s1 (by decide) (by simp) (by decide) 2 r52;have m2:=yC (n:=3) (es:=[]++[⟨1,1,0,zn 2⟩]) (acc:=2) (kd:=1) (hour:=0) (by decide) s2 (by decide) (by simp) (by decide) (-7) ab4;obtain⟨es,VR⟩:∃es,([]++[⟨1,1,0,zn 2⟩]++[⟨2,1,0,zn (-7)⟩]:List En)=es:=⟨_,Y⟩;have hlen:es.length=2:=by rw[<-VR];rfl
 have Mu:uT (3:Nat) 1 ⟨1,1,0,zn 2⟩:=⟨by decide,by decide,by decide,by rw[cI],by rw[cI];unfold Fit;decide⟩;have XG:uT (3:Nat) 1 ⟨2,1,0,zn (-7)⟩:=⟨by decide,by decide,by decide,by rw[cI],by rw[cI];unfold Fit;decide⟩;have hok:∀e∈es,uT (3:Nat) 1 e:=by
  rw[<-VR];intro e he;simp only[List.nil_append,List.cons_append,List.mem_cons,List.not_mem_nil,or_false]at he;rcases he with rfl|rfl
  ·exact Mu
  exact XG
 have VS:∀f:En->Int,gM f es=f ⟨1,1,0,zn 2⟩+f ⟨2,1,0,zn (-7)⟩:=λf=>by rw[<-VR];simp[gM]
 have a1:=all_eq (n:=3) (by decide) (by decide) hok (by omega) (by decide);have g0:=jG (n:=3) (i:=0) es (by decide);have g1:=jG (n:=3) (i:=1) es (by decide);have g2:=jG (n:=3) (i:=2) es (by decide);have gl:=lW 3 es;have b0:gM (j9 ((0:Nat):Int)) es=5:=by rw[VS];unfold j9;simp only[cI];decide
 have b1:gM (j9 ((1:Nat):Int)) es=2:=by rw[VS];unfold j9;simp only[cI];decide
 have b2:gM (j9 ((2:Nat):Int)) es=-7:=by rw[VS];unfold j9;simp only[cI];decide
 have b3:gM (Fv 1) es=-5:=by rw[VS];unfold Fv;simp only[cI];decide
 rw[b0]at g0;rw[b1]at g1;rw[b2]at g2;have y1:=VQ (n:=3) (by decide) hok (by omega) (by decide) 1;rw[b3]at y1;have n1:=entries_eq (n:=3) (by decide) hok (by omega) (by decide);rw[VR]at m2;have m3:=rX (n:=3) (es:=es) (acc:=3) (kd:=1) (hour:=0) 1 (by decide) s3 (by decide) (by omega) (by rw[hlen];decide) (by decide);have m4:=rX (n:=3) (es:=es) (acc:=0) (kd:=1) (hour:=0) 1 (by decide) s3 (by decide) (by omega) (by rw[hlen];decide) (by decide);have m5:=rX (n:=3) (es:=es) (acc:=1) (kd:=5) (hour:=0) 12 (by decide) s3 (by decide) (by omega) (by rw[hlen];decide) (by decide);have m6:=rX (n:=3) (es:=es) (acc:=1) (kd:=4) (hour:=8) 1 (by decide) s3 (by decide) (by omega) (by rw[hlen];decide) (by decide);have o1:=s1.round (by decide);have o2:=s4.round (by decide);have o3:=s5.round (by decide);have o4:=s6.round (by decide);rw[r52]at o1;rw[r72]at o2;rw[ab3]at o3;rw[r83]at o4;have i1:=iC (n:=2) (by decide);have i2:=iC (n:=4) (by decide);have i3:=iC (n:=-2) (by decide);have i4:=iC (n:=3) (by decide);have i5:=iC (n:=5) (by decide);have i6:=iC (n:=-7) (by decide);have i7:=iC (n:=-5) (by decide);generalize uU 3 es=al at*;clear hok VS Mu XG VR b0 b1 b2 b3;generalize ([]++[⟨1,1,0,zn 2⟩]:List En)=es1 at*
 generalize zn 2=z2 at*;generalize zn 4=z4 at*;generalize zn (-2)=z2' at*;generalize zn 3=z3 at*;generalize zn 5=z5 at*;generalize zn (-7)=z7 at*;generalize zn (-5)=z5' at*;unfold ga;refine aA (Ik (by decide) (by decide))<|aA e1<|aA m1<|aA e2<|aA m2<|aA e3<|aA m3<|aA e3<|aA m4<|aA e3<|aA m5<|aA e3<|aA m6<|aA a1<|fj ?_;refine aA e1<|aA o1<|aA i1<|qp (aA e4<|aA o2<|aA i2 Y)<|qp (aA e5<|aA o3<|aA i3 Y)<|qp (aA e6<|aA o4<|aA i4 Y) ?_;refine qp (aA (dT Y) Y)<|qp (aA (dT Y) Y)<|qp (aA (dT Y) Y)<|qp (aA (dT Y) Y)<|qp (aA (dT Y) Y)<|qp (aA (dT Y) Y) ?_;refine qp (aA Y<|aA (dT (by omega)) Y)<|qp (aA (oE g0)<|aA i5 Y)<|qp (aA (Bw g1)<|aA i1 Y)<|qp (aA (bt (i:=2) g2)<|aA i6 Y) ?_;exact qp (aA y1<|aA i7 Y)<|qp (aA n1<|aA Y<|aA (dT (by omega)) Y) Y
end
section
open Go.Fw
abbrev O8(m:Mv):Prop:=(-9223372036854775808<=m.acc/\m.acc<=9223372036854775807)/\m.kd<256/\(-9223372036854775808<=m.hour/\m.hour<=9223372036854775807)/\OkQ m.fm
def Im(l:List Mv):Prop:=∀m∈l,kF 35184372087808 m.fm (qv m.fm)
theorem VT{l:List Mv}(h:∀m∈l,O8 m):Im l:=λm hm=>abZ (h m hm).2.2.2
def IC(n:Int)(es:List En)(m:Mv):List En:=O7 n es m (zn (uA (qv m.fm)))
def mk(n:Int)(l:List Mv):List En:=l.foldl (IC n) []
def PL(n:Int)(m:Mv):Option En:=if Ag n 0 m.acc m.kd m.hour=0 then some ⟨m.acc,m.kd,m.hour,zn (uA (qv m.fm))⟩else none
theorem Ks{n:Int}{k:Nat}{a:Int}{kd:Nat}{h:Int}(hk:k<1024):Ag n k a kd h=Ag n 0 a kd h:=by
 unfold Ag;rw[if_neg (show ¬1024<=k by omega),if_neg (show ¬1024<=0 by omega)]
theorem Kt(n:Int)(es:List En)(m:Mv):(IC n es m).length<=es.length+1:=by
 unfold IC O7;split<;>simp
theorem fold_filter(n:Int):∀(l:List Mv) (es:List En),es.length+l.length<=1024->l.foldl (IC n) es=es++l.filterMap (PL n)
 |[],es,_=>by simp
 |m::l,es,h=>by
  rw[List.length_cons]at h;have h1:=Kt n es m;rw[List.foldl_cons,fold_filter n l _ (by omega)];have e:IC n es m=es++(PL n m).toList:=by
   unfold IC O7 PL;rw[Ks (by omega)];split<;>simp
  rw[e,List.filterMap_cons,List.append_assoc];congr 1;cases PL n m<;>rfl
theorem yD{n:Int}{l:List Mv}(h:l.length<=1024):mk n l=l.filterMap (PL n):=by
 unfold mk;rw[fold_filter n l [] (by simpa using h)];rfl
theorem z9{n:Int}{l:List Mv}(h:l.length<=1024):(mk n l).length<=l.length:=by
 rw[yD h];exact List.length_filterMap_le _ _
theorem Mw{n:Int}{l:List Mv}(h:l.length<=1024)(hr:Im l):∀e∈mk n l,uT n 35184372087809 e:=by
 rw[yD h];intro e he;obtain⟨m,hm,hme⟩:=List.mem_filterMap.1 he;unfold PL at hme;split at hme
 ·rename_i hv;cases hme;have hf:=Ko (hr m hm).fq;unfold Ag at hv;have h1:0<m.acc/\m.acc<n:=by
   by_cases q:0<m.acc/\m.acc<n
   ·exact q
   rw[if_pos q]at hv;exact absurd hv (by decide)
  rw[if_neg (by simpa using h1)]at hv;have h2:¬(m.kd<1\/4<m.kd):=λq=>by rw[if_pos q]at hv;exact absurd hv (by decide)
  refine⟨by show 1<=m.acc;omega,h1.2,by show 1<=m.kd/\m.kd<=4;omega,?_,?_⟩
  ·show zn (uA (qv m.fm))=zn (zi (zn (uA (qv m.fm))));rw[cI]
  show Fit _ (zi (zn (uA (qv m.fm))));rw[cI];exact hf
 cases hme
theorem made_eq{x0:Nat}{l:List Mv}(h0:x0<256)(hl:l.length<=1024)(hr:Im l):gK x0 l=some (((1+x0%64:Nat):Int),mk ((1+x0%64:Nat):Int) l):=by
 unfold gK;have t:Int.tmod ((x0:Nat):Int) 64=((x0%64:Nat):Int):=rfl;have t2:IntKind.i64.wrap (1+((x0%64:Nat):Int))=((1+x0%64:Nat):Int):=by rw[eV (by omega) (by omega)];simp
 refine aA (congrArg some (mL (by omega)))<|aA (congrArg some t)<|aA (congrArg some t2)<|aA (Ik (by omega) (by omega)) ?_;refine b9 (λk=>((k:Int),mk ((1+x0%64:Nat):Int) (l.take k))) l.length (mk ((1+x0%64:Nat):Int) l) Y (λk hk=>?_) ?_ Y
 ·have g:=List.getElem?_eq_getElem hk;have hm:=hr _ (List.getElem_mem hk);have hlen:(mk ((1+x0%64:Nat):Int) (l.take k)).length<=1024:=Nat.le_trans (z9 (by rw[List.length_take];omega)) (by rw[List.length_take];omega);have s:mk ((1+x0%64:Nat):Int) (l.take (k+1))=IC ((1+x0%64:Nat):Int) (mk ((1+x0%64:Nat):Int) (l.take k)) l[k]:=by
   unfold mk;rw[List.take_add_one,g,List.foldl_append];rfl
  rw[s];generalize mk ((1+x0%64:Nat):Int) (l.take k)=es at*;clear s;unfold IC;have mv:=move_eq (n:=((1+x0%64:Nat):Int)) (es:=es) (acc:=l[k].acc) (kd:=l[k].kd) (hour:=l[k].hour) (by omega) hm (by decide) (by omega);generalize zn (uA (qv l[k].fm))=z at*;clear hm;generalize l[k]=m at*;obtain⟨acc,kd,hour,q⟩:=m;exact aA Y<|aA (dT (by omega))<|dP Y<|aA (bt g)<|aA (bt g)<|aA (bt g)<|aA (bt g)<|aA mv<|aA (congrArg some (cM (by omega))) Y
 rw[List.take_length];exact aA Y<|aA (dF (by omega))<|cn Y Y
theorem Io(i:Nat):Int.tmod (i:Int) 40=((i%40:Nat):Int):=rfl
theorem Ip(l:List Mv)(hl:l.length<=9223372036854775807):∃b,gJ l=some b/\(b=false->l.length<=60):=by
 unfold gJ;by_cases KP:60<l.length
 ·exact⟨true,aA Y<|aA (dT (by omega))<|dP Y Y,by simp⟩
 have step:∃r,(cH (λ(vi:Int×(List Qr))=>match vi with|⟨qg,zD⟩=>(show Option ((Int×(List Qr))⊕((Unit)⊕(Bool)))from(some (l.length:Int)).bind λfU=>(some (decide ((qg:Int)<fU))).bind λlq=>(bif lq then(cq l qg).bind λ⟨kS,kT,Bm,⟨⟨rK,yg⟩,⟨yh,yj⟩⟩⟩=>(w9 64 zD [⟨⟨rK,yg⟩,⟨yh,yj⟩⟩]).bind λja=>di (λ(wL:Bool)=>di (λ(rL:(List Qr))=>(some (IntKind.i64.wrap (qg+1))).bind λgR=>some (.inl (gR,rL))) λRW=>(bif wL then(eN [ja]).bind λkH=>(bif kH then some (.inr (.inr true))else RW [])else RW ja)) λK15=>(some (Int.tmod qg 40)).bind λjx=>(some (decide ((jx:Int)=39))).bind λfe=>(bif fe then some true else(some (l.length:Int)).bind λlX=>(some (IntKind.i64.wrap (lX-1))).bind λiu=>(some (decide ((qg:Int)=iu))).bind λow=>some ow).bind λzE=>K15 zE else some (.inr (.inl ()))))) (0,[])).bind (λEz=>match Ez with|.inr v12=>some v12|.inl _=>some false)=some r/\True:=by
  refine jZ (λs=>∃(i:Nat) (r:List Qr),s=((i:Int),r)/\i<=l.length/\r.length<=i) (λ_=>True) (λs=>l.length-s.1.toNat) ?_ ⟨0,[],Y,by omega,by simp⟩ ?_
  ·rintro _ ⟨i,r,rfl,hi,hr⟩;by_cases hlt:i<l.length
   ·have g:=List.getElem?_eq_getElem hlt;generalize l[i]=m at g;obtain⟨acc,kd,hour,q⟩:=m;have ap:=Bx (b:=64) (l:=r) (x:=q) (by decide) (by omega);obtain⟨t,ht,-⟩:=O5 [r++[q]] (by simp);have fin:∀(c:Bool),((bif c then(eN [r++[q]]).bind λkH=>(bif kH then some (.inr (.inr true))else(some (IntKind.i64.wrap ((i:Int)+1))).bind λgR=>some (.inl (gR,[])))else(some (IntKind.i64.wrap ((i:Int)+1))).bind λgR=>some (.inl (gR,r++[q]))):Option ((Int×(List Qr))⊕((Unit)⊕(Bool))))=some (.inr (.inr true))\/∃r2:List Qr,r2.length<=i+1/\((bif c then(eN [r++[q]]).bind λkH=>(bif kH then some (.inr (.inr true))else(some (IntKind.i64.wrap ((i:Int)+1))).bind λgR=>some (.inl (gR,[])))else(some (IntKind.i64.wrap ((i:Int)+1))).bind λgR=>some (.inl (gR,r++[q]))):Option ((Int×(List Qr))⊕((Unit)⊕(Bool))))=some (.inl (((i+1:Nat):Int),r2)):=by
     intro c;cases c
     ·exact .inr ⟨r++[q],by simp;omega,cn Y<|aA (congrArg some (cM (by omega))) Y⟩
     cases t
     ·exact .inr ⟨[],by simp,dP Y<|aA ht<|cn Y<|aA (congrArg some (cM (by omega))) Y⟩
     exact .inl (dP Y<|aA ht<|dP Y Y)
    have cond:∃c:Bool,((bif decide (((i%40:Nat):Int)=39)then some true else(some (l.length:Int)).bind λlX=>(some (IntKind.i64.wrap (lX-1))).bind λiu=>(some (decide ((i:Int)=iu))).bind λow=>some ow):Option Bool)=some c:=by
     cases decide (((i%40:Nat):Int)=39)
     ·exact⟨_,Y⟩
     exact⟨_,Y⟩
    obtain⟨c,hc⟩:=cond;rcases fin c with h|⟨r2,h2,h⟩
    ·exact .inr ⟨.inr true,aA Y<|aA (dT (by omega))<|dP Y<|aA (bt g)<|aA ap<|fj<|aA (congrArg some (Io i))<|aA Y<|aA hc h,aq⟩
    exact .inl ⟨_,aA Y<|aA (dT (by omega))<|dP Y<|aA (bt g)<|aA ap<|fj<|aA (congrArg some (Io i))<|aA Y<|aA hc h,⟨i+1,r2,Y,hlt,h2⟩,by simp only[Int.toNat_natCast];omega⟩
   exact .inr ⟨.inl (),aA Y<|aA (dF (by omega))<|cn Y Y,aq⟩
  rintro e-;cases e
  ·exact⟨false,Y,aq⟩
  exact⟨_,Y,aq⟩
 obtain⟨r,hr,-⟩:=step;exact⟨r,aA Y<|aA (dF (by omega))<|cn Y hr,λ_=>by omega⟩
end
section
open Go.Fw
theorem told_eq(es:List En)(h:es.length<=1000000):dZ es=some es:=by
 unfold dZ;refine b9 (λk=>((k:Int),es.take k)) es.length es Y (λk hk=>?_) ?_ Y
 ·have g:=List.getElem?_eq_getElem hk;rw[List.take_add_one,g];generalize es[k]=e at g;have ap:=Bx (b:=56) (l:=es.take k) (x:=e) (by decide) (by rw[List.length_take];omega);obtain⟨acc,kd,hour,c⟩:=e;exact aA Y<|aA (dT (by omega))<|dP Y<|aA (bt g)<|aA ap<|aA (congrArg some (cM (by omega))) Y
 rw[List.take_length];exact aA Y<|aA (dF (by omega))<|cn Y Y
end
section
open Go.Fw
theorem Fi{n:Int}{es:List En}(h:n≠0):ik ⟨n,es⟩=some false:=by
 unfold ik;exact fj<|aA (a:=false) (cn Y<|aA (dF h) Y) Y
theorem BV{n:Nat}{es:List En}{K:Nat}(hn:0<n)(he:∀e∈es,uT n K e)(hl:es.length<=1000000)(hK:K<=35184372088508):cX ⟨n,es⟩=some es:=by
 unfold cX;refine aA (Fi (by omega))<|cn Y<|aA Y<|aA (td (by decide) (by omega))<|aA Y ?_;refine b9 (λk=>((k:Int),es.take k++List.replicate (es.length-k) (⟨0,0,0,⟨false,[]⟩⟩:En))) es.length es (by simp) (λk hk=>?_) ?_ Y
 ·have g:=List.getElem?_eq_getElem hk;have ho:=he _ (List.getElem_mem hk);have a1:=add_eq (eP ho.f (show K<=35184372088788 by omega)) (show Wl ⟨false,[]⟩from z8);rw[cI,z6,Int.add_zero,<-ho.z]at a1;have s:(es.take k++List.replicate (es.length-k) (⟨0,0,0,⟨false,[]⟩⟩:En)).set k es[k]=es.take (k+1)++List.replicate (es.length-(k+1)) ⟨0,0,0,⟨false,[]⟩⟩:=by
   rw[List.set_append_right _ _ (by simp;omega),show k-(es.take k).length=0 by simp;omega,show es.length-k=(es.length-(k+1))+1 by omega,List.replicate_succ,List.set_cons_zero,List.take_add_one,g];simp only[Option.toList_some,List.append_assoc,List.singleton_append]
  rw[<-s];have PK:(es.take k++List.replicate (es.length-k) (⟨0,0,0,⟨false,[]⟩⟩:En)).length=es.length:=by simp;omega
  generalize (es.take k++List.replicate (es.length-k) (⟨0,0,0,⟨false,[]⟩⟩:En))=q at*;clear s ho;generalize es[k]=e at*;obtain⟨acc,kd,hour,c⟩:=e;refine aA (dT (by omega))<|dP Y<|aA (bt g)<|aA a1<|aA (ec (by omega))<|aA (jt (by omega))<|aA (congrArg some (cM (by omega))) Y
 simp only[List.take_length,Nat.sub_self,List.replicate_zero,List.append_nil];exact aA (dF (by omega))<|cn Y Y
end
section
open Go.Fw
theorem BW{n:Nat}{es:List En}{K:Nat}(hn:0<n)(he:∀e∈es,uT n K e)(hl:es.length<=1000000)(hK:K<=35184372088508):gL n es=some ((n:Int),es):=by
 have e:iv n es=some es:=entries_eq hn he hl hK;unfold gL;exact aA e Y
theorem BX{n:Nat}{l more:List Mv}(hn:0<n)(hl:(l++more).length<=1024)(hr:Im (l++more)){R:Type}{f:List En->Option R}{r:R}(hf:f (mk (n:Int) (l++more))=some r):
  ((cH (λ(LN:Int×(List En))=>match LN with|⟨iW,mK⟩=>(show Option ((Int×(List En))⊕((List En)))from(some (more.length:Int)).bind λv8=>(some (decide ((iW:Int)<v8))).bind λtN=>(bif tN then(cq more iW).bind λ⟨DU,LO,LP,⟨⟨LQ,LR⟩,⟨LS,LU⟩⟩⟩=>(cq more iW).bind λ⟨AL,wj,LV,⟨⟨LW,LX⟩,⟨LY,LZ⟩⟩⟩=>(cq more iW).bind λ⟨L0,L1,DV,⟨⟨L2,L3⟩,⟨L4,L5⟩⟩⟩=>(cq more iW).bind λ⟨L6,L7,L8,⟨⟨DW,DX⟩,⟨DY,DZ⟩⟩⟩=>(bJ n mK DU wj DV ⟨⟨DW,DX⟩,⟨DY,DZ⟩⟩).bind λ⟨Iu,UX⟩=>(some (IntKind.i64.wrap (iW+1))).bind λmZ=>some (.inl (mZ,UX))else some (.inr mK)))) (0,mk (n:Int) l)).bind f)=some r:=by
 refine b9 (λk=>((k:Int),mk (n:Int) (l++more.take k))) more.length (mk (n:Int) (l++more)) (by simp) (λk hk=>?_) ?_ hf
 ·have g:=List.getElem?_eq_getElem hk;have hm:=hr _ (List.mem_append_right l (List.getElem_mem hk));rw[List.length_append]at hl;have hlen:(mk (n:Int) (l++more.take k)).length<=1024:=Nat.le_trans (z9 (by rw[List.length_append,List.length_take];omega)) (by rw[List.length_append,List.length_take];omega);have s:mk (n:Int) (l++more.take (k+1))=IC (n:Int) (mk (n:Int) (l++more.take k)) more[k]:=by
   unfold mk;rw[List.take_add_one,g,<-List.append_assoc,List.foldl_append];rfl
  rw[s];generalize mk (n:Int) (l++more.take k)=es at*;clear s;unfold IC;have mv:=move_eq (n:=(n:Int)) (es:=es) (acc:=more[k].acc) (kd:=more[k].kd) (hour:=more[k].hour) (by omega) hm (by decide) (by omega);generalize zn (uA (qv more[k].fm))=z at*;clear hm;generalize more[k]=m at*;obtain⟨acc,kd,hour,⟨⟨a1,a2⟩,⟨a3,a4⟩⟩⟩:=m;exact aA Y<|aA (dT (by omega))<|dP Y<|aA (bt g)<|aA (bt g)<|aA (bt g)<|aA (bt g)<|aA mv<|aA (congrArg some (cM (by omega))) Y
 rw[List.take_length];exact aA Y<|aA (dF (by omega))<|cn Y Y
theorem rY(x0:Nat)(l more:List Mv)(h0:x0<256)(ol:l.length*88<=140737488351232/\∀m∈l,O8 m)(om:more.length*88<=140737488351232/\∀m∈more,O8 m):dU x0 l more=some true:=by
 obtain⟨t1,Vy,MH⟩:=Ip l (by have:=ol.1;omega);obtain⟨t2,Vz,VW⟩:=Ip more (by have:=om.1;omega);have G0:=VT ol.2;have Od:=VT om.2;unfold dU;refine fj<|aA Vy<|orC (λ_=>aA Vz Y)<|orC (c:=false) (λ_=>aA qt Y) ?_;cases t1
 case true=>exact dP Y<|aA qt Y
 cases t2
 case true=>exact dP Y<|aA qt Y
 have b1:=MH Y;have b2:=VW Y;have O9:Im (l++more):=λm hm=>by rcases List.mem_append.1 hm with h|h;exact G0 m h;exact Od m h
 have c1:l.length<=1024:=by omega
 have XH:(l++more).length<=1024:=by simp;omega
 have md1:=made_eq h0 c1 G0;obtain⟨n,hn⟩:∃n,1+x0%64=n:=⟨_,Y⟩;rw[hn]at md1;have n1:0<n:=by omega
 have n2:n<=64:=by omega
 have Mu:=Mw (n:=(n:Int)) c1 G0;have Ku:=Mw (n:=(n:Int)) XH O9;have l1:=z9 (n:=(n:Int)) c1;have Hj:=z9 (n:=(n:Int)) XH;have en1:=entries_eq n1 Mu (by omega) (by decide);have ab6:=entries_eq n1 Ku (by omega) (by decide);have Pa:=BV n1 Ku (by omega) (by decide);have to1:=told_eq _ (show(mk (n:Int) l).length<=1000000 by omega);have Pb:=told_eq _ (show(mk (n:Int) (l++more)).length<=1000000 by omega);have cp1:=BW n1 Mu (by omega) (by decide);have ab7:=BW n1 Ku (by omega) (by decide);have sm1:=Il Mu (by omega) (by decide);have VU:=Il Ku (by omega) (by decide);refine cn Y<|aA md1<|aA md1<|aA en1<|aA to1<|aA cp1<|BX n1 XH O9<|aA en1<|aA to1<|aA sm1<|aA Y<|cn Y<|aA ab7<|aA ab6<|aA Pb<|BX n1 XH O9 ?_;exact aA Pa<|fj<|aA Pa<|aA Pb<|aA VU<|aA (a:=true) (dP Y<|aA Pa<|aA Pb<|aA VU Y) Y
end
section
open Go.Fw Go.RowKit Go.ChangeShapes Go.WideShapes Go.ChangeAt
set_option linter.unusedVariables false
set_option maxRecDepth 100000 in
theorem lp(H:Type)(enc:TypeId×Value->H)(W:World)(base:Nat)(args:Array Value)(ds gs:List (DataW H))(before:List MemPlace)
  (hval:∀(j:Nat) t v,Try.f6.params[j]? =some t->args[j]? =some v->Value.okWide ah W .any base t v)
  (hW:DataW.Whole enc ah Try.f6.params.toList Rows.bookIndependentSpec.vars false W args.toList ds gs before) (hz:(DataW.weightsEach ah (Try.f6.params.toList++Rows.bookIndependentSpec.plain.varTypes ah) (ds++gs)).all (· <=reachBytes)=true):
  Calls ah 6 args W λe W'=>∃v,e=.returned v/\Rows.bookIndependentSpec.post enc ah Try.f6 false true false false W args v W':=by
 have hW':=hW;obtain⟨p,q,VD,hV,rfl,hfz,hnd⟩:=hW;have hA:DataW.TrodAll enc ah W 0 (λ_=>true) true Try.f6.params.toList args.toList ds p:=VD;rw[Try.params6]at hA hval hz;obtain⟨v0,Fm,d0,ds0,p0,q0,hargs,rfl,rfl,h0,r0⟩:=trodAll_cons hA;obtain⟨v1,vs1,d1,ds1,p1,q1,rfl,rfl,rfl,h1,r1⟩:=trodAll_cons r0;obtain⟨v2,vs2,d2,ds2,p2,q2,rfl,rfl,rfl,h2,r2⟩:=trodAll_cons r1;obtain⟨rfl,rfl,rfl⟩:=trodAll_nil r2;obtain rfl:args=#[v0,v1,v2]:=by cases args;simp_all
 obtain⟨rfl,rfl⟩:=trodVars_none hV;have lt0:∀x∈p0,x.block<W.heap.size:=by obtain⟨m,hm⟩:=h0;exact DataW.trod_lt m _ _ _ hm
 obtain⟨x0,ok0,sz0,al0⟩:=yV (P:=ah) (T:=5) (e:=Yo) (hval 0 5 v0 Y Y) h0 (kN (t:=5) (d:=d0) 0 hz Y Y);have lt1:∀x∈p1,x.block<W.heap.size:=by obtain⟨m,hm⟩:=h1;exact DataW.trod_lt m _ _ _ hm
 obtain⟨x1,Mu,sz1,al1⟩:=yV (P:=ah) (T:=33) (e:=(eS 7 Ax)) (hval 1 33 v1 Y Y) h1 (kN (t:=33) (d:=d1) 1 hz Y Y);have lt2:∀x∈p2,x.block<W.heap.size:=by obtain⟨m,hm⟩:=h2;exact DataW.trod_lt m _ _ _ hm
 obtain⟨x2,XG,sz2,al2⟩:=yV (P:=ah) (T:=33) (e:=(eS 7 Ax)) (hval 2 33 v2 Y Y) h2 (kN (t:=33) (d:=d2) 2 hz Y Y);clear VD;refine(Jb (lj (rY x0 x1 x2 ok0 Mu XG)) (W:=W) (vs:=[v0,v1,v2]) ⟨al0.1,al1.1,al2.1,aq⟩).mono λe W' ⟨he,XI⟩=>?_;subst he;exact⟨_,rfl,_,_,_,[],_,[],hW',trodAll_mk1 (shut_bool Try.underlying4 _),(trodAll_cons_mk (Below.trod vX (by kernel_rfl) (of_decide_eq_true (by kernel_rfl)) h0 XI lt0) (trodAll_cons_mk (Below.trod vX (by kernel_rfl) (of_decide_eq_true (by kernel_rfl)) h1 XI lt1) (trodAll_cons_mk (Below.trod vX (by kernel_rfl) (of_decide_eq_true (by kernel_rfl)) h2 XI lt2) trodAll_mk0))),rfl,XI.frame _,λh=>by cases h⟩
set_option maxRecDepth 100000 in
theorem mR(os:Os)(started:os.Started)(H:Type)(enc:TypeId×Value->H):
  ReturnsInHanded {} Try.checked os 6 .any (Rows.bookIndependentSpec.pre6 enc ah Try.f6 Rows.bookIndependentRow.domain false) (Rows.bookIndependentSpec.post enc ah Try.f6 false true false false):=by
 refine returnsInHanded_of_change_sized (C:=Try.checked) YD started (by kernel_rfl) Try.func6
  (ChangeSpec.witness6 (enc:=enc) (C:=Try.checked) false ⟨#[],#[.int .u8 0,.slice none 0 0,.slice none 0 0],[]⟩ 8 (by kernel_rfl) (by kernel_rfl) (by kernel_rfl) (by kernel_rfl)) ?_
 intro W base args ds gs before hval hW _ hz _;exact lp H enc W base args ds gs before hval hW hz
theorem bookIndependent_holds:Rows.BookIndependentSaid:=
 OpenClaim.holds_of_wide 6 Try.f6 Y Y Y Y Y Y Y ⟨Y,Y,Y,Y,Y⟩ Y Y Y Y Y (by kernel_rfl) Try.func6 (by kernel_rfl)
  (of_decide_eq_true (by kernel_rfl)) (by unfold Func.isWrapper;first|(rw[if_pos (by decide+kernel)];kernel_rfl)|(rw[if_neg (by decide+kernel)];exact⟨Y,Y⟩))
  (λos started H enc _=>mR os started H enc)
end
end Go.Proofs.Ytmiflmkdaeianaa
