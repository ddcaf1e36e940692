/- A part of the proof: the framework, the plain functions, the followed functions, the plain laws. -/
import Derived.Test.YtningmnklfpfjaaGreatPSM4
set_option linter.unusedVariables false
set_option linter.unusedSimpArgs false
set_option linter.unusedSectionVars false
namespace Go.Fw
section
def val(B:Nat):List Nat->Nat
 |[]=>0
 |x::l=>x+B*val B l
def gC(B:Nat):Nat->Nat->List Nat
 |0,_=>[]
 |n+1,v=>v%B::gC B n (v/B)
def oh(ws:List Nat):List Nat:=(ws.reverse.dropWhile (· ==0)).reverse
def can(B v:Nat):List Nat:=oh (gC B v v)
theorem cf(B:Nat):∀n v,(gC B n v).length=n
 |0,_=>rfl
 |n+1,v=>by simp[gC,cf B n]
theorem rS(B:Nat):∀n v,val B (gC B n v)=v%B^n
 |0,v=>by simp[gC,val,Nat.mod_one]
 |n+1,v=>by
  rw[gC,val,rS B n,Nat.pow_succ,Nat.mul_comm (B^n) B,Nat.mod_mul]
theorem uW{B:Nat}(hB:0<B):∀(n v x:Nat),x∈gC B n v->x<B
 |n+1,v,x,h=>by
  rcases List.mem_cons.1 h with rfl|h
  ·exact Nat.mod_lt _ hB
  exact uW hB n _ x h
theorem jt{B:Nat}:∀(l:List Nat),(∀x∈l,x<B)->val B l<B^l.length
 |[],_=>by simp[val]
 |x::l,h=>by
  have h1:=jt l (λy hy=>h y (List.mem_cons_of_mem _ hy));have h2:=h x (by simp);rw[val,List.length_cons,Nat.pow_succ]
  calc x+B*val B l<B+B*val B l:=by omega
   _=B*(val B l+1):=by rw[Nat.mul_add];omega
   _<=B*B^l.length:=Nat.mul_le_mul_left _ h1
   _=B^l.length*B:=Nat.mul_comm _ _
theorem HK{B:Nat}:∀(l:List Nat),(∀x∈l,x<B)->gC B l.length (val B l)=l
 |[],_=>rfl
 |x::l,h=>by
  have h2:=h x (by simp);have hB:0<B:=by omega
  rw[List.length_cons,gC,val,Nat.add_mul_mod_self_left,Nat.mod_eq_of_lt h2,Nat.add_mul_div_left _ _ hB,Nat.div_eq_of_lt h2,Nat.zero_add,HK l (λy hy=>h y (List.mem_cons_of_mem _ hy))]
theorem Ez{B:Nat}:∀(n v j:Nat),j<n->(gC B n v)[j]? =some (v/B^j%B)
 |n+1,v,0,_=>by simp[gC]
 |n+1,v,j+1,h=>by
  rw[gC,List.getElem?_cons_succ,Ez n _ j (by omega),Nat.div_div_eq_div_mul,Nat.pow_succ,Nat.mul_comm B]
theorem Nx{B:Nat}:∀(a b:List Nat),val B (a++b)=val B a+B^a.length*val B b
 |[],b=>by simp[val]
 |x::a,b=>by
  rw[List.cons_append,val,val,Nx a b,List.length_cons,Nat.pow_succ,Nat.mul_add,Nat.add_assoc,Nat.mul_comm (B^a.length) B,Nat.mul_assoc]
theorem lY{B:Nat}:∀(n v:Nat),gC B (n+1) v=gC B n v++[v/B^n%B]
 |0,v=>by simp[gC]
 |n+1,v=>by
  rw[gC,lY n,gC,List.cons_append,Nat.div_div_eq_div_mul,Nat.pow_succ,Nat.mul_comm B]
theorem y7(B:Nat):∀k,gC B k 0=List.replicate k 0
 |0=>rfl
 |k+1=>by rw[gC,Nat.zero_mod,Nat.zero_div,y7 B k];rfl
theorem JJ{B:Nat}(hB:0<B):∀(n k v:Nat),v<B^n->gC B (n+k) v=gC B n v++List.replicate k 0
 |0,k,v,h=>by
  have:v=0:=by simpa using h
  subst this;rw[Nat.zero_add,y7];rfl
 |n+1,k,v,h=>by
  rw[show n+1+k=n+k+1 by omega,gC,gC,List.cons_append,JJ hB n k (v/B) (by rw[Nat.div_lt_iff_lt_mul hB];rwa[Nat.pow_succ]at h)]
theorem Aa{B:Nat}(hB:2<=B):∀v,v<B^v
 |0=>by simp
 |v+1=>by
  have:=Aa hB v;rw[Nat.pow_succ];have h2:B^v*2<=B^v*B:=Nat.mul_le_mul_left _ hB;omega
theorem w6(l:List Nat):oh (l++[0])=oh l:=by simp[oh]
theorem BG(l:List Nat):∀k,oh (l++List.replicate k 0)=oh l
 |0=>by simp
 |k+1=>by rw[List.replicate_succ',<-List.append_assoc,w6,BG l k]
theorem Ab(l:List Nat){x:Nat}(h:x≠0):oh (l++[x])=l++[x]:=by simp[oh,h]
theorem Dt(xs:List Nat):xs=[]\/(∃ys,xs=ys++[0])\/(∃ys y,y≠0/\xs=ys++[y]):=by
 rcases List.eq_nil_or_concat xs with rfl|⟨ys,y,rfl⟩
 ·exact .inl Y
 by_cases hy:y=0
 ·subst hy;exact .inr (.inl ⟨ys,by simp⟩)
 exact .inr (.inr ⟨ys,y,hy,by simp⟩)
theorem FP:∀(n:Nat) (l:List Nat),l.length=n->∃k,l=oh l++List.replicate k 0:=by
 intro n
 induction n with
 |zero=>intro l h;obtain rfl:=List.length_eq_zero_iff.1 h;exact⟨0,Y⟩
 |succ n ih=>
  intro l h;rcases Dt l with rfl|⟨ys,rfl⟩|⟨ys,y,hy,rfl⟩
  ·simp at h
  ·obtain⟨k,hk⟩:=ih ys (by simpa using h);refine⟨k+1,?_⟩;rw[w6,List.replicate_succ',<-List.append_assoc,<-hk]
  exact⟨0,by rw[Ab _ hy];simp⟩
theorem UW{l:List Nat}{x:Nat}(h:x∈oh l):x∈l:=by
 obtain⟨k,hk⟩:=FP _ l Y;rw[hk];exact List.mem_append_left _ h
theorem LU(l:List Nat):(oh l).length<=l.length:=by
 obtain⟨k,hk⟩:=FP _ l Y;have:=congrArg List.length hk;rw[List.length_append]at this;omega
theorem LV(B:Nat):∀k,val B (List.replicate k 0)=0
 |0=>rfl
 |k+1=>by rw[List.replicate_succ,val,LV B k];simp
theorem Yu(B:Nat)(l:List Nat):val B (oh l)=val B l:=by
 obtain⟨k,hk⟩:=FP _ l Y
 conv=>rhs;rw[hk,Nx,LV]
 simp
theorem uC{B:Nat}(hB:2<=B){n v:Nat}(h:v<B^n):oh (gC B n v)=can B v:=by
 have hv:=Aa hB v;rcases Nat.le_total n v with hn|hn
 ·obtain⟨k,rfl⟩:=Nat.exists_eq_add_of_le hn;rw[can,JJ (by omega) n k _ h,BG]
 obtain⟨k,rfl⟩:=Nat.exists_eq_add_of_le hn;rw[can,JJ (by omega) v k _ hv,BG]
theorem om{B:Nat}(hB:2<=B){l:List Nat}(h:∀x∈l,x<B):oh l=can B (val B l):=by
 conv=>lhs;rw[<-HK l h]
 exact uC hB (jt l h)
theorem oM{B:Nat}(hB:2<=B)(v:Nat):val B (can B v)=v:=by
 rw[can,Yu,rS,Nat.mod_eq_of_lt (Aa hB v)]
theorem ja{B:Nat}(hB:2<=B){v x:Nat}(h:x∈can B v):x<B:=uW (by omega) v v x (UW h)
theorem w7(B:Nat):can B 0=[]:=rfl
theorem EA{B:Nat}(hB:2<=B){v:Nat}(h:can B v=[]):v=0:=by have:=oM hB v;rw[h]at this;exact this.symm
theorem aa8{B:Nat}(hB:2<=B){v n:Nat}(h:v<B^n):(can B v).length<=n:=by
 rw[<-uC hB h];have:=LU (gC B n v);rwa[cf]at this
theorem aa9{B:Nat}(hB:2<=B)(v:Nat):oh (can B v)=can B v:=by
 rw[om hB (λx hx=>ja hB hx),oM hB]
theorem Tz{B:Nat}(hB:2<=B)(v:Nat):can B v=gC B (can B v).length v:=by
 have:=HK (can B v) (λx hx=>ja hB hx);rw[oM hB]at this;exact this.symm
theorem c6{B:Nat}(hB:2<=B)(v:Nat):v<B^(can B v).length:=by
 have:=jt (can B v) (λx hx=>ja hB hx);rwa[oM hB]at this
theorem B3{B:Nat}(hB:2<=B){v j:Nat}(h:j<(can B v).length):(can B v)[j]? =some (v/B^j%B):=by
 rw[Tz hB v]at h⊢;rw[cf]at h;exact Ez _ _ _ h
theorem JK{B:Nat}(hB:2<=B){v j:Nat}(h:(can B v).length<=j):v/B^j=0:=by
 refine Nat.div_eq_of_lt (Nat.lt_of_lt_of_le (c6 hB v) ?_);exact Nat.pow_le_pow_right (by omega) h
theorem P5{B:Nat}(hB:2<=B){v:Nat}(h:v≠0):∃l x,x≠0/\can B v=l++[x]:=by
 rcases Dt (can B v)with e|⟨ys,e⟩|⟨ys,y,hy,e⟩
 ·exact absurd (EA hB e) h
 ·exfalso;have h1:=aa9 hB v;rw[e,w6]at h1;have h2:=LU ys;rw[h1]at h2;simp at h2;omega
 exact⟨ys,y,hy,e⟩
theorem yu{B:Nat}(hB:2<=B){v n:Nat}(h:n<(can B v).length):B^n<=v:=by
 by_cases h0:v=0
 ·subst h0;simp[w7]at h
 obtain⟨l,x,hx,e⟩:=P5 hB h0;have h1:=oM hB v;rw[e,Nx]at h1;have hl:n<=l.length:=by rw[e]at h;simp at h;omega
 have h2:B^n<=B^l.length:=Nat.pow_le_pow_right (by omega) hl;have h3:B^l.length<=B^l.length*val B [x]:=Nat.le_mul_of_pos_right _ (by simp[val];omega);omega
theorem cD{B:Nat}(hB:2<=B){v n:Nat}:(can B v).length<=n↔v<B^n:=by
 refine⟨λh=>?_,aa8 hB⟩;exact Nat.lt_of_lt_of_le (c6 hB v) (Nat.pow_le_pow_right (by omega) h)
theorem Yv{B:Nat}(hB:2<=B){l:List Nat}{x:Nat}(hx:x≠0)(h:∀y∈l++[x],y<B):l++[x]=can B (val B (l++[x])):=by
 rw[<-om hB h,Ab _ hx]
theorem za{B:Nat}:∀(l:List Nat),(∀x∈l,x<B)->∀k,l.getD k 0=val B l/B^k%B
 |[],_,k=>by simp[val]
 |x::l,h,0=>by
  have h2:=h x (by simp);simp[val,Nat.add_mul_mod_self_left,Nat.mod_eq_of_lt h2]
 |x::l,h,k+1=>by
  have h2:=h x (by simp);have hB:0<B:=by omega
  rw[List.getD_cons_succ,za l (λy hy=>h y (List.mem_cons_of_mem _ hy)) k,val,Nat.pow_succ,Nat.mul_comm (B^k) B,<-Nat.div_div_eq_div_mul,Nat.add_mul_div_left _ _ hB,Nat.div_eq_of_lt h2,Nat.zero_add]
theorem kP(B V k:Nat):V%B^(k+1)=V%B^k+B^k*(V/B^k%B):=by
 rw[Nat.pow_succ,Nat.mod_mul]
def HL(B V W k:Nat):Nat:=(V%B^k+W%B^k)/B^k
theorem JM{B:Nat}(hB:0<B)(V W k:Nat):HL B V W k<=1:=by
 have hP:0<B^k:=Nat.pow_pos hB;have h1:=Nat.mod_lt V hP;have h2:=Nat.mod_lt W hP;have:HL B V W k<2:=by rw[HL,Nat.div_lt_iff_lt_mul hP];omega
 omega
theorem JN{B:Nat}(hB:0<B)(V W k:Nat):(V/B^k%B+W/B^k%B+HL B V W k)/B=HL B V W (k+1):=by
 have hP:0<B^k:=Nat.pow_pos hB;rw[HL,HL,kP,kP,Nat.pow_succ,<-Nat.div_div_eq_div_mul];congr 1;rw[show V%B^k+B^k*(V/B^k%B)+(W%B^k+B^k*(W/B^k%B))=(V%B^k+W%B^k)+B^k*(V/B^k%B+W/B^k%B) by rw[Nat.mul_add];omega,Nat.add_mul_div_left _ _ hP];omega
theorem HM{B:Nat}(hB:0<B)(V W k:Nat):(V/B^k%B+W/B^k%B+HL B V W k)%B=(V+W)/B^k%B:=by
 have hP:0<B^k:=Nat.pow_pos hB;have h:(V+W)/B^k=V/B^k+W/B^k+HL B V W k:=by
  have e1:=Nat.div_add_mod V (B^k);have e2:=Nat.div_add_mod W (B^k);rw[HL]
  conv=>lhs;rw[<-e1,<-e2]
  rw[show B^k*(V/B^k)+V%B^k+(B^k*(W/B^k)+W%B^k)=(V%B^k+W%B^k)+B^k*(V/B^k+W/B^k) by rw[Nat.mul_add];omega,Nat.add_mul_div_left _ _ hP];omega
 rw[h];simp[Nat.add_mod]
theorem Ny{B:Nat}{V W k:Nat}(hV:V<B^k)(hW:W<B^k):HL B V W k=(V+W)/B^k:=by
 rw[HL,Nat.mod_eq_of_lt hV,Nat.mod_eq_of_lt hW]
theorem JO(B V W:Nat):HL B V W 0=0:=by simp[HL,Nat.mod_one]
def FR(B V W k:Nat):Nat:=(V%B^k+B^k-W%B^k)/B^k
theorem JP(B V W:Nat):FR B V W 0=1:=by simp[FR,Nat.mod_one]
theorem Sg{B:Nat}(hB:0<B)(V W k:Nat):FR B V W k<=1:=by
 have hP:0<B^k:=Nat.pow_pos hB;have h1:=Nat.mod_lt V hP;have:FR B V W k<2:=by
  rw[FR,Nat.div_lt_iff_lt_mul hP];generalize W%B^k=y at*;generalize V%B^k=x at*;omega
 omega
theorem TA{B:Nat}(hB:0<B)(V W k:Nat):V%B^(k+1)+B^(k+1)-W%B^(k+1)=(V%B^k+B^k-W%B^k)+B^k*(V/B^k%B+(B-1-W/B^k%B)):=by
 have hP:0<B^k:=Nat.pow_pos hB;have h1:=Nat.mod_lt V hP;have h2:=Nat.mod_lt W hP;have h3:=Nat.mod_lt (W/B^k) hB;rw[kP,kP,Nat.pow_succ];generalize B^k=p at*;generalize V/p%B=x at*;generalize W/p%B=y at*;obtain⟨z,rfl⟩:∃z,B=y+1+z:=⟨B-y-1,by omega⟩;have e1:y+1+z-1-y=z:=by omega
 rw[e1,Nat.mul_add p x z,Nat.mul_add p (y+1) z,Nat.mul_add p y 1];omega
theorem JQ{B:Nat}(hB:0<B)(V W k:Nat):(V/B^k%B+(B-1-W/B^k%B)+FR B V W k)/B=FR B V W (k+1):=by
 have hP:0<B^k:=Nat.pow_pos hB;rw[FR,FR,TA hB,Nat.pow_succ,<-Nat.div_div_eq_div_mul,Nat.add_mul_div_left _ _ hP];congr 1;omega
theorem Sh{Q V W:Nat}(hQ:0<Q)(h:W<=V):(V%Q+Q-W%Q)%Q=(V-W)%Q:=by
 have e1:=Nat.div_add_mod V Q;have e2:=Nat.div_add_mod W Q;have h1:=Nat.mod_lt V hQ;have h2:=Nat.mod_lt W hQ;have hq:W/Q<=V/Q:=Nat.div_le_div_right h;generalize V%Q=r at*;generalize W%Q=s at*;generalize V/Q=a at*;generalize W/Q=b at*;obtain⟨c,rfl⟩:=Nat.exists_eq_add_of_le hq;rw[Nat.mul_add]at e1;rcases Nat.lt_or_ge r s with hrs|hrs
 ·cases c with
  |zero=>simp at e1;omega
  |succ c=>
   rw[Nat.mul_add,Nat.mul_one]at e1;rw[show V-W=Q*c+(r+Q-s) by omega,Nat.mul_add_mod]
 rw[show V-W=Q*c+(r-s) by omega,Nat.mul_add_mod,show r+Q-s=r-s+Q by omega,Nat.add_mod_right]
theorem Nz{B:Nat}(hB:0<B){V W:Nat}(h:W<=V)(k:Nat):(V/B^k%B+(B-1-W/B^k%B)+FR B V W k)%B=(V-W)/B^k%B:=by
 have hP:0<B^k:=Nat.pow_pos hB;have hQ:0<B^(k+1):=Nat.pow_pos hB;have e:=Sh hQ h;have e2:V/B^k%B+(B-1-W/B^k%B)+FR B V W k=(V%B^(k+1)+B^(k+1)-W%B^(k+1))/B^k:=by
  rw[TA hB,Nat.add_mul_div_left _ _ hP,FR];omega
 rw[e2,<-Nat.mod_mul_right_div_self,<-Nat.mod_mul_right_div_self,<-Nat.pow_succ,e]
end
section
theorem TB{B:Nat}(hB:0<B):∀(j N lo p d hi:Nat),lo<B^j->p<B->d<B->j<N->(gC B N (lo+B^j*(p+B*hi))).set j d=gC B N (lo+B^j*(d+B*hi))
 |0,N+1,lo,p,d,hi,hlo,hp,hd,_=>by
  have:lo=0:=by simpa using hlo
  subst this;simp only[Nat.pow_zero,Nat.zero_add,Nat.one_mul,gC,List.set_cons_zero,Nat.add_mul_mod_self_left,Nat.mod_eq_of_lt hd];rw[Nat.add_mul_div_left _ _ hB,Nat.add_mul_div_left _ _ hB,Nat.div_eq_of_lt hp,Nat.div_eq_of_lt hd]
 |j+1,N+1,lo,p,d,hi,hlo,hp,hd,hN=>by
  have e:∀q,(lo+B^(j+1)*(q+B*hi))%B=lo%B:=λq=>by
   rw[Nat.pow_succ,Nat.mul_comm (B^j) B,Nat.mul_assoc,Nat.add_mul_mod_self_left]
  have e2:∀q,(lo+B^(j+1)*(q+B*hi))/B=lo/B+B^j*(q+B*hi):=λq=>by
   rw[Nat.pow_succ,Nat.mul_comm (B^j) B,Nat.mul_assoc,Nat.add_mul_div_left _ _ hB]
  have arB:lo/B<B^j:=by rw[Nat.div_lt_iff_lt_mul hB];rwa[Nat.pow_succ]at hlo
  rw[gC,gC,List.set_cons_succ,e,e,e2,e2,TB hB j N (lo/B) p d hi arB hp hd (by omega)]
theorem B4{B:Nat}(hB:0<B){N j u u' d:Nat}(hj:j<N)(hd:d<B)(hlo:u'%B^j=u%B^j)(Si:u'/B^j%B=d)(hhi:u'/B^(j+1)=u/B^(j+1)):(gC B N u).set j d=gC B N u':=by
 have hP:0<B^j:=Nat.pow_pos hB;have f:∀u,u=u%B^j+B^j*(u/B^j%B+B*(u/B^(j+1))):=λu=>by
  have e1:=Nat.mod_add_div u (B^j);have e2:=UX B u j;rw[Nat.add_comm]at e2;rw[<-e2,e1]
 rw[f u,TB hB j N _ _ d _ (Nat.mod_lt _ hP) (Nat.mod_lt _ hB) hd hj]
 conv=>rhs;rw[f u',hlo,Si,hhi]
where
 UX (B v m:Nat):v/B^m=B*(v/B^(m+1))+v/B^m%B:=by
  rw[Nat.pow_succ,<-Nat.div_div_eq_div_mul,Nat.div_add_mod]
def mT(B V W i k:Nat):Nat:=((V%B^i)*W)%B^(i+k)+B^i*(V/B^i%B)*(W%B^k)
def mC(B V W i k:Nat):Nat:=mT B V W i k/B^(i+k)
def mV(B V W i k:Nat):Nat:=mT B V W i k%B^(i+k)+B^(i+k)*(((V%B^i)*W)/B^(i+k))
theorem ad8{B:Nat}(hB:0<B)(V W i k:Nat):mT B V W i k<B^(i+k)*B:=by
 have h1:((V%B^i)*W)%B^(i+k)<B^(i+k):=Nat.mod_lt _ (Nat.pow_pos hB);have h2:V/B^i%B<B:=Nat.mod_lt _ hB;have h3:W%B^k<B^k:=Nat.mod_lt _ (Nat.pow_pos hB);have h4:B^i*(V/B^i%B)*(W%B^k)<=B^i*(B-1)*B^k:=Nat.mul_le_mul (Nat.mul_le_mul_left _ (by omega)) (Nat.le_of_lt h3);have h5:B^i*(B-1)*B^k=B^(i+k)*(B-1):=by rw[Nat.pow_add,Nat.mul_assoc,Nat.mul_assoc,Nat.mul_comm (B-1)]
 have h6:B^(i+k)*B=B^(i+k)*(B-1)+B^(i+k):=by
  obtain⟨b,rfl⟩:∃b,B=b+1:=⟨B-1,by omega⟩;rw[Nat.add_sub_cancel,Nat.mul_add,Nat.mul_one]
 unfold mT;omega
theorem ad9{B:Nat}(hB:0<B)(V W i k:Nat):mC B V W i k<B:=by
 rw[mC,Nat.div_lt_iff_lt_mul (Nat.pow_pos hB),Nat.mul_comm];exact ad8 hB V W i k
theorem NA{B:Nat}(V W i k:Nat):mT B V W i (k+1)=mT B V W i k+B^(i+k)*(((V%B^i)*W)/B^(i+k)%B+(V/B^i%B)*(W/B^k%B)):=by
 have e1:((V%B^i)*W)%B^(i+(k+1))=((V%B^i)*W)%B^(i+k)+B^(i+k)*(((V%B^i)*W)/B^(i+k)%B):=by rw[<-Nat.add_assoc,kP]
 have e2:W%B^(k+1)=W%B^k+B^k*(W/B^k%B):=kP B W k;unfold mT;rw[e1,e2,Nat.mul_add,Nat.mul_add (B^(i+k))];have e3:B^i*(V/B^i%B)*(B^k*(W/B^k%B))=B^(i+k)*((V/B^i%B)*(W/B^k%B)):=by
  rw[Nat.pow_add,Nat.mul_assoc,Nat.mul_assoc,Nat.mul_left_comm (V/B^i%B)]
 omega
theorem aba{B:Nat}(hB:0<B)(V W i k:Nat):(((V%B^i)*W)/B^(i+k)%B+(V/B^i%B)*(W/B^k%B)+mC B V W i k)/B=mC B V W i (k+1):=by
 have hP:0<B^(i+k):=Nat.pow_pos hB;rw[mC,mC,NA,<-Nat.add_assoc,Nat.pow_succ,<-Nat.div_div_eq_div_mul,Nat.add_mul_div_left _ _ hP];congr 1;omega
theorem aea{B:Nat}(V W i k:Nat):mV B V W i k%B^(i+k)=mT B V W i k%B^(i+k):=by
 rw[mV,Nat.add_mul_mod_self_left,Nat.mod_mod]
theorem TC{B:Nat}(hB:0<B)(V W i k:Nat):mV B V W i k/B^(i+k)=((V%B^i)*W)/B^(i+k):=by
 have hP:0<B^(i+k):=Nat.pow_pos hB;rw[mV,Nat.add_mul_div_left _ _ hP,Nat.div_eq_of_lt (Nat.mod_lt _ hP),Nat.zero_add]
theorem ag7{B:Nat}(hB:0<B){V W i k N:Nat}(h:i+k<N):(gC B N (mV B V W i k))[i+k]? =some (((V%B^i)*W)/B^(i+k)%B):=by
 rw[Ez _ _ _ h,TC hB]
theorem abb{B:Nat}(hB:0<B){V W i k N:Nat}(h:i+k<N):
  (gC B N (mV B V W i k)).set (i+k) ((((V%B^i)*W)/B^(i+k)%B+(V/B^i%B)*(W/B^k%B)+mC B V W i k)%B)=gC B N (mV B V W i (k+1)):=by
 have hP:0<B^(i+k):=Nat.pow_pos hB;have hPB:B^(i+(k+1))=B^(i+k)*B:=by rw[<-Nat.add_assoc,Nat.pow_succ]
 have hs:mT B V W i (k+1)/B^(i+k)=((V%B^i)*W)/B^(i+k)%B+(V/B^i%B)*(W/B^k%B)+mC B V W i k:=by
  rw[NA,Nat.add_mul_div_left _ _ hP,mC];omega
 have ht:mT B V W i (k+1)%B^(i+k)=mT B V W i k%B^(i+k):=by rw[NA,Nat.add_mul_mod_self_left]
 refine B4 hB h (Nat.mod_lt _ hB) ?_ ?_ ?_
 ·rw[aea,<-ht,mV,hPB,Nat.mul_assoc,Nat.add_mul_mod_self_left,Nat.mod_mul_right_mod]
 ·rw[mV,hPB,Nat.mul_assoc,Nat.add_mul_div_left _ _ hP,Nat.add_mul_mod_self_left,Nat.mod_mul_right_div_self,Nat.mod_mod,hs]
 rw[show i+k+1=i+(k+1) by omega,TC hB,show i+(k+1)=i+k+1 by omega,Nat.pow_succ,<-Nat.div_div_eq_div_mul,<-Nat.div_div_eq_div_mul,TC hB]
theorem abc{B:Nat}(V W i:Nat):mV B V W i 0=(V%B^i)*W:=by
 rw[mV,mT,Nat.pow_zero,Nat.mod_one,Nat.mul_zero,Nat.add_zero,Nat.add_zero,Nat.mod_mod,Nat.mod_add_div]
theorem abd{B:Nat}(hB:0<B)(V W i:Nat):mC B V W i 0=0:=by
 rw[mC,mT,Nat.pow_zero,Nat.mod_one,Nat.mul_zero,Nat.add_zero,Nat.add_zero];exact Nat.div_eq_of_lt (Nat.mod_lt _ (Nat.pow_pos hB))
theorem ag8{B:Nat}(hB:0<B){V W i n N:Nat}(hW:W<B^n)(h:i+n<N):(gC B N (mV B V W i n)).set (i+n) ((0+mC B V W i n)%B)=gC B N ((V%B^(i+1))*W):=by
 have hP:0<B^(i+n):=Nat.pow_pos hB;have hp:(V%B^i)*W<B^(i+n):=by
  have h1:V%B^i<B^i:=Nat.mod_lt _ (Nat.pow_pos hB);rw[Nat.pow_add];by_cases h0:W=0
  ·subst h0;rw[Nat.mul_zero];exact Nat.mul_pos (Nat.pow_pos hB) (Nat.pow_pos hB)
  calc (V%B^i)*W<B^i*W:=Nat.mul_lt_mul_of_pos_right h1 (by omega)
   _<=B^i*B^n:=Nat.mul_le_mul_left _ (Nat.le_of_lt hW)
 have hT:mT B V W i n=(V%B^(i+1))*W:=by
  rw[mT,Nat.mod_eq_of_lt hp,Nat.mod_eq_of_lt hW,kP,Nat.add_mul]
 have hlt:=ad8 hB V W i n;rw[hT]at hlt;refine B4 hB h (Nat.mod_lt _ hB) ?_ ?_ ?_
 ·rw[aea,hT]
 ·rw[Nat.zero_add,mC,hT]
 rw[Nat.pow_succ B (i+n),Nat.div_eq_of_lt hlt,<-Nat.div_div_eq_div_mul,TC hB,Nat.div_eq_of_lt hp,Nat.zero_div]
def sT(B V f e i:Nat):Nat:=V%B^i*f+e
def sC(B V f e i:Nat):Nat:=sT B V f e i/B^i
theorem NB(B V f e:Nat):sC B V f e 0=e:=by simp[sC,sT,Nat.mod_one]
theorem TD(B V f e i:Nat):sT B V f e (i+1)=sT B V f e i+B^i*(V/B^i%B*f):=by
 unfold sT;rw[kP,Nat.add_mul,Nat.mul_assoc];omega
theorem NC{B:Nat}(hB:0<B)(V f e i:Nat):(V/B^i%B*f+sC B V f e i)/B=sC B V f e (i+1):=by
 have hP:0<B^i:=Nat.pow_pos hB;rw[sC,sC,TD,Nat.pow_succ,<-Nat.div_div_eq_div_mul,Nat.add_mul_div_left _ _ hP];congr 1;omega
theorem Sj{B:Nat}(hB:0<B)(V f e i:Nat):(V/B^i%B*f+sC B V f e i)%B=(V*f+e)/B^i%B:=by
 have hP:0<B^i:=Nat.pow_pos hB;have h1:V*f+e=sT B V f e (i+1)+B^i*(B*(V/B^(i+1)*f)):=by
  have e1:=Nat.mod_add_div V (B^(i+1));unfold sT
  conv=>lhs;rw[<-e1,Nat.add_mul]
  rw[Nat.pow_succ,Nat.mul_assoc,Nat.mul_assoc];omega
 rw[h1,Nat.add_mul_div_left _ _ hP,Nat.add_mul_mod_self_left,TD,Nat.add_mul_div_left _ _ hP,sC,Nat.add_comm]
theorem Yw{B:Nat}(hB:0<B){V f e:Nat}(hf:f<B)(he:e<B)(i:Nat):sC B V f e i<B:=by
 have hP:0<B^i:=Nat.pow_pos hB;rw[sC,Nat.div_lt_iff_lt_mul hP];have h1:V%B^i<=B^i-1:=by have:=Nat.mod_lt V hP;omega
 have h2:V%B^i*f<=(B^i-1)*(B-1):=Nat.mul_le_mul h1 (by omega);obtain⟨p,hp⟩:∃p,B^i=p+1:=⟨B^i-1,by omega⟩;obtain⟨b,rfl⟩:∃b,B=b+1:=⟨B-1,by omega⟩;unfold sT;rw[hp]at h2⊢;rw[Nat.add_sub_cancel,Nat.add_sub_cancel]at h2;have h3:(b+1)*(p+1)=p*b+b+p+1:=by rw[Nat.add_mul,Nat.mul_add,Nat.mul_comm b p];omega
 omega
theorem Sk{B V f e i:Nat}(h:V<B^i):sC B V f e i=(V*f+e)/B^i:=by rw[sC,sT,Nat.mod_eq_of_lt h]
def sU(B V f e i:Nat):Nat:=sT B V f e i%B^i+B^i*(V/B^i)
def qU(B V d n:Nat):Nat:=V%B^n+B^n*(V/B^n/d)
theorem abe(B V d:Nat):qU B V d 0=V/d:=by simp[qU,Nat.mod_one]
theorem ag9{B V d n:Nat}(h:V<B^n):qU B V d n=V:=by simp[qU,Nat.mod_eq_of_lt h,Nat.div_eq_of_lt h]
theorem abf(B V m:Nat):V/B^m=B*(V/B^(m+1))+V/B^m%B:=by rw[Nat.pow_succ,<-Nat.div_div_eq_div_mul,Nat.div_add_mod]
theorem aeb{B d:Nat}(V m:Nat):V/B^m=(V/B^(m+1)%d*B+V/B^m%B)+d*(B*(V/B^(m+1)/d)):=by
 have h1:=abf B V m;have h2:=Nat.mod_add_div (V/B^(m+1)) d;generalize V/B^(m+1)=q at*;generalize V/B^m%B=y at*;rw[h1]
 conv=>lhs;rw[<-h2]
 rw[Nat.mul_add,Nat.mul_left_comm B d,Nat.mul_comm B (q%d)];omega
theorem aec{B d:Nat}(hd:0<d)(V m:Nat):V/B^m/d=B*(V/B^(m+1)/d)+(V/B^(m+1)%d*B+V/B^m%B)/d:=by
 conv=>lhs;rw[aeb (B:=B) (d:=d) V m]
 rw[Nat.add_mul_div_left _ _ hd,Nat.add_comm]
theorem Yx{B d:Nat}(V m:Nat):V/B^m%d=(V/B^(m+1)%d*B+V/B^m%B)%d:=by
 conv=>lhs;rw[aeb (B:=B) (d:=d) V m]
 rw[Nat.add_mul_mod_self_left]
theorem abg{B d:Nat}(hB:0<B)(hd:0<d)(V m:Nat):V/B^(m+1)%d*B+V/B^m%B<d*B:=by
 have h1:=Nat.mod_lt (V/B^(m+1)) hd;have h2:=Nat.mod_lt (V/B^m) hB;have h3:(V/B^(m+1)%d+1)*B<=d*B:=Nat.mul_le_mul_right _ h1;rw[Nat.add_mul]at h3;omega
theorem Yy{B:Nat}(hB:0<B)(V d n:Nat):qU B V d n/B^n=V/B^n/d:=by
 have hP:0<B^n:=Nat.pow_pos hB;rw[qU,Nat.add_mul_div_left _ _ hP,Nat.div_eq_of_lt (Nat.mod_lt _ hP),Nat.zero_add]
theorem akM(B V d n:Nat):qU B V d n%B^n=V%B^n:=by rw[qU,Nat.add_mul_mod_self_left,Nat.mod_mod]
theorem abh{B:Nat}(V d m:Nat):qU B V d (m+1)%B^m=V%B^m:=by
 rw[qU,Nat.pow_succ,Nat.mul_assoc,Nat.add_mul_mod_self_left,Nat.mod_mul_right_mod]
theorem aha{B:Nat}(hB:0<B){V d m N:Nat}(h:m<N):(gC B N (qU B V d (m+1)))[m]? =some (V/B^m%B):=by
 have hP:0<B^m:=Nat.pow_pos hB;rw[Ez _ _ _ h,qU,Nat.pow_succ,Nat.mul_assoc,Nat.add_mul_div_left _ _ hP,Nat.add_mul_mod_self_left,Nat.mod_mul_right_div_self,Nat.mod_mod]
theorem abi{B:Nat}(hB:0<B){V d m N:Nat}(hd:0<d)(h:m<N):(gC B N (qU B V d (m+1))).set m ((V/B^(m+1)%d*B+V/B^m%B)/d)=gC B N (qU B V d m):=by
 have hx:(V/B^(m+1)%d*B+V/B^m%B)/d<B:=by rw[Nat.div_lt_iff_lt_mul hd,Nat.mul_comm B d];exact abg hB hd V m
 have hq:=aec (B:=B) hd V m;refine B4 hB h hx ?_ ?_ ?_
 ·rw[akM,abh]
 ·rw[Yy hB,hq,Nat.mul_add_mod,Nat.mod_eq_of_lt hx]
 rw[Yy hB,Nat.pow_succ,<-Nat.div_div_eq_div_mul,Yy hB,hq,Nat.mul_add_div hB,Nat.div_eq_of_lt hx,<-Nat.pow_succ];rfl
end
section
theorem abj{B v:Nat}(hB:2<=B)(h0:v≠0)(h:v<B):can B v=[v]:=by
 have:=Yv hB (l:=[]) h0 (by simpa using h);simpa[val]using this.symm
theorem abk{B v:Nat}(hB:2<=B)(h0:v/B≠0)(h:v<B*B):can B v=[v%B,v/B]:=by
 have h1:v/B<B:=by rw[Nat.div_lt_iff_lt_mul (by omega)];exact h
 have h2:v%B<B:=Nat.mod_lt _ (by omega);have:=Yv hB (l:=[v%B]) h0 (by simp;exact⟨h2,h1⟩);simp only[List.cons_append,List.nil_append,val,Nat.mul_zero,Nat.add_zero]at this;rw[Nat.mod_add_div]at this;exact this.symm
theorem pJ{B:Nat}{l:List Nat}(h:∀x∈l,x<B){i:Nat}(hi:i<l.length):l[i]? =some (val B l/B^i%B):=by
 rw[<-za l h i];simp[List.getD,hi]
def Du(v w:Nat):Int:=if v<w then-1 else if v=w then 0 else 1
theorem xS{v w:Nat}(h:v<w):Du v w=-1:=by simp[Du,h]
theorem B5(v:Nat):Du v v=0:=by simp[Du]
theorem Ad{v w:Nat}(h:w<v):Du v w=1:=by
 have h1:¬v<w:=by omega
 have h2:¬v=w:=by omega
 simp[Du,h1,h2]
theorem Dv{B v w:Nat}(hB:2<=B)(h:(can B v).length<(can B w).length):v<w:=
 Nat.lt_of_lt_of_le (c6 hB v) (yu hB h)
theorem EB(B v m:Nat):v/B^m=B*(v/B^(m+1))+v/B^m%B:=by
 rw[Nat.pow_succ,<-Nat.div_div_eq_div_mul,Nat.div_add_mod]
theorem LW{B v w m:Nat}(h:v/B^m<w/B^m):v<w:=by
 rcases Nat.lt_or_ge v w with h1|h1
 ·exact h1
 have:=Nat.div_le_div_right (c:=B^m) h1;omega
theorem LX{B v w m:Nat}(h:v/B^(m+1)=w/B^(m+1)):(v/B^m%B=w/B^m%B/\v/B^m=w/B^m)\/(v/B^m%B<w/B^m%B/\v<w)\/(w/B^m%B<v/B^m%B/\w<v):=by
 have h1:=EB B v m;have h2:=EB B w m;rw[<-h]at h2;rcases Nat.lt_trichotomy (v/B^m%B) (w/B^m%B)with h3|h3|h3
 ·exact .inr (.inl ⟨h3,LW (B:=B) (m:=m) (by omega)⟩)
 ·exact .inl ⟨h3,by omega⟩
 exact .inr (.inr ⟨h3,LW (B:=B) (m:=m) (by omega)⟩)
end
end Go.Fw
namespace Go.Proofs.YtningmnklfpfjaaGreat
section
open Go.Fw
theorem HN(l:List Nat)(hl:l.length<=1000000000000):bO l=some (oh l):=by
 unfold bO;refine iU (λy=>y.length<=1000000000000/\oh y=oh l) (λe=>e=oh l) (λy=>y.length) ?_ ⟨hl,Y⟩ (λe he=>by rw[he]);rintro y ⟨hy,ht⟩;rcases Dt y with rfl|⟨ys,rfl⟩|⟨ys,x,hx,rfl⟩
 ·right;exact⟨[],by simp[cJ],ht⟩
 ·left;have h1:((ys++[0]).length:Int)=((ys.length+1:Nat):Int):=by simp
  have h2:ys.length<=9223372036854775807:=by simp at hy;omega
  refine⟨ys,?_,⟨by simp at hy⊢;omega,by rw[<-ht,w6]⟩,by simp⟩;simp only[cJ,Option.bind_some,h1,JH h2];rw[bC (a:=0) (by simp),y4 (by simp)];simp
 right;have h1:((ys++[x]).length:Int)=((ys.length+1:Nat):Int):=by simp
 have h2:ys.length<=9223372036854775807:=by simp at hy;omega
 refine⟨ys++[x],?_,by rw[<-ht,Ab _ hx]⟩;simp only[cJ,Option.bind_some,h1,JH h2];rw[bC (a:=x) (by simp)];simp[hx]
def zc(n:Bool)(v:Nat):Zr:=⟨n&&v != 0,can 4294967296 v⟩
theorem TE(n:Bool):zc n 0=⟨false,[]⟩:=by simp[zc,w7]
theorem Yz(n:Bool){v:Nat}(h:v≠0):zc n v=⟨n,can 4294967296 v⟩:=by simp[zc,h]
def ND(l:List Nat):Prop:=(∀x∈l,x<4294967296)/\l.length<=100000000000
abbrev vl(l:List Nat):Nat:=val 4294967296 l
theorem o9(n:Bool)(l:List Nat)(h:ND l):dx n l=some (zc n (vl l)):=by
 unfold dx;rw[HN l (by have:=h.2;omega),om (by decide) h.1];show _=some (zc n (val 4294967296 l));by_cases hz:val 4294967296 l=0
 ·rw[hz,TE];simp[w7]
 have:can 4294967296 (val 4294967296 l)≠[]:=λe=>hz (EA (by decide) e);rw[Yz _ hz];simp[this]
theorem zb(n:Bool)(v:Nat)(h:v<18446744073709551616):iq n v=some (zc n v):=by
 unfold iq;by_cases hz:v=0
 ·subst hz;simp[TE]
 rw[Yz _ hz];by_cases h1:v/2^32=0
 ·rw[abj (by decide) hz (by omega)];simp only[Option.bind_some,hz,h1,decide_false,decide_true,cond_false,cond_true];rw[Nat.mod_eq_of_lt (by omega)]
 rw[abk (by decide) (by omega) (by omega)];simp only[Option.bind_some,hz,h1,decide_false,cond_false];rw[Nat.mod_eq_of_lt (a:=v/2^32) (by omega)]
theorem YA{a b s:Nat}(h:a<2^s):a ||| b*2^s=a+b*2^s:=by
 rw[Nat.or_comm,Nat.mul_comm b,<-Nat.two_pow_add_eq_or_of_lt h,Nat.add_comm]
theorem low_eq(l:List Nat)(h:∀x∈l,x<4294967296)(hl:l.length<=2):fG l=some (vl l):=by
 rcases l with _|⟨x,_|⟨y,_|⟨z,l⟩⟩⟩
 ·simp[fG,vl,val]
 ·have hx:=h x (by simp);simp only[fG,B0 (l:=[x]) (a:=x) rfl];simp[vl,val];omega
 ·have hx:=h x (by simp);have hy:=h y (by simp);simp only[fG,B0 (l:=[x,y]) (a:=x) Y,Yq (l:=[x,y]) (a:=y) Y,Option.bind_some];rw[Nat.mod_eq_of_lt (a:=x) (by omega),Nat.mod_eq_of_lt (a:=y) (by omega),Nat.mod_eq_of_lt (a:=y*2^32) (by omega),YA (by omega),Nat.mod_eq_of_lt (by omega)];simp[vl,val];omega
 simp at hl
theorem k8(x c:Nat)(h:x+c<18446744073709551616):cI x c=some ((x+c)%4294967296,(x+c)/4294967296):=by
 simp[cI,Nat.mod_eq_of_lt h]
theorem pK(v w:Nat)(hv:(can 4294967296 v).length<=100000000000)(hw:(can 4294967296 w).length<=100000000000):dS (can 4294967296 v) (can 4294967296 w)=some (Du v w):=by
 unfold dS;rcases Nat.lt_trichotomy (can 4294967296 v).length (can 4294967296 w).length with hl|hl|hl
 ·rw[xS (Dv (by decide) hl)];simp only[Option.bind_some];rw[show decide (((can 4294967296 v).length:Int)≠((can 4294967296 w).length:Int))=true by simp;omega,show decide (((can 4294967296 v).length:Int)<((can 4294967296 w).length:Int))=true by simp;omega];rfl
 ·simp only[Option.bind_some];rw[show decide (((can 4294967296 v).length:Int)≠((can 4294967296 w).length:Int))=false by simp;omega,cond_false];refine iU (λy=>∃n:Nat,y=(n:Int)-1/\n<=(can 4294967296 v).length/\v/4294967296^n=w/4294967296^n) (λe=>e=(if v=w then .inl ()else .inr (Du v w))) (λy=>(y+1).toNat) ?_ ⟨(can 4294967296 v).length,?_,Nat.le_refl _,?_⟩ ?_
  ·rintro y ⟨n,rfl,hn,he⟩;cases n with
   |zero=>
    right;have:v=w:=by simpa using he
    subst this;exact⟨_,by simp,Y⟩
   |succ m=>
    have N0:=B3 (B:=4294967296) (by decide) (v:=v) (j:=m) (by omega);have hgw:=B3 (B:=4294967296) (by decide) (v:=w) (j:=m) (by omega);have e0:((m+1:Nat):Int)-1=(m:Int):=by omega
    rw[e0];rcases LX he with⟨h1,h2⟩|⟨h1,h2⟩|⟨h1,h2⟩
    ·left;refine⟨(m:Int)-1,?_,⟨m,Y,by omega,h2⟩,by omega⟩;simp only[Option.bind_some,bC N0,bC hgw,h1];rw[cH (by omega) (by omega)];simp
    ·right;refine⟨.inr (-1),?_,by rw[if_neg (by omega),xS h2]⟩;simp only[Option.bind_some,bC N0,bC hgw];simp[h1,Nat.ne_of_lt h1]
    right;refine⟨.inr 1,?_,by rw[if_neg (by omega),Ad h2]⟩;simp only[Option.bind_some,bC N0,bC hgw];simp[Nat.not_lt_of_lt h1,Nat.ne_of_gt h1]
  ·rw[cH (by omega) (by omega)]
  ·rw[JK (by decide) (Nat.le_refl _),JK (by decide) (by omega)]
  rintro e rfl;by_cases h:v=w
  ·subst h;simp[B5]
  simp[h]
 rw[Ad (Dv (by decide) hl)];simp only[Option.bind_some];rw[show decide (((can 4294967296 v).length:Int)≠((can 4294967296 w).length:Int))=true by simp;omega,show decide (((can 4294967296 v).length:Int)<((can 4294967296 w).length:Int))=false by simp;omega];rfl
theorem HO{l:List Nat}(h:∀x∈l,x<4294967296)(i:Nat):l.getD i 0<4294967296:=by
 rcases Nat.lt_or_ge i l.length with hi|hi
 ·exact h _ (List.mem_of_getElem? (AI hi))
 rw[CU hi];decide
theorem Gv(a b:List Nat)(ha:ND a)(hb:ND b):gX a b=some (gC 4294967296 (max a.length b.length+1) (vl a+vl b)):=by
 obtain⟨hA,hla⟩:=ha;obtain⟨hB,hlb⟩:=hb;have hV:val 4294967296 a<4294967296^(max a.length b.length):=Nat.lt_of_lt_of_le (jt a hA) (Nat.pow_le_pow_right (by decide) (by omega));have hW:val 4294967296 b<4294967296^(max a.length b.length):=Nat.lt_of_lt_of_le (jt b hB) (Nat.pow_le_pow_right (by decide) (by omega));unfold gX;simp only[Option.bind_some];rw[show max (a.length:Int) (b.length:Int)=((max a.length b.length:Nat):Int) by omega,bM (by omega),JI (by decide) (by omega),Option.bind_some];refine z9 (λk=>(HL 4294967296 (vl a) (vl b) k,gC 4294967296 k (vl a+vl b))) (by simp[JO,gC]) (λk hk=>?_) ?_
 ·have hx:=HO hA k;have hy:=HO hB k;have hc:=JM (B:=4294967296) (by decide) (vl a) (vl b) k;have hxe:=za a hA k;have hye:=za b hB k;simp only[Option.bind_some];rw[Nat.mod_eq_of_lt (a:=a.getD k 0) (by omega),Nat.mod_eq_of_lt (a:=b.getD k 0) (by omega),Nat.mod_eq_of_lt (a:=a.getD k 0+b.getD k 0) (by omega),k8 _ _ (by omega)];simp only[Option.bind_some];rw[nq (by decide) (by rw[cf];omega),Option.bind_some,hxe,hye,JN (by decide),HM (by decide),<-lY]
 have hc:=JM (B:=4294967296) (by decide) (vl a) (vl b) (max a.length b.length);simp only;rw[k8 _ _ (by omega)];simp only[Option.bind_some];rw[nq (by decide) (by rw[cf];omega),Option.bind_some,Nat.zero_add,Ny hV hW,<-lY]
theorem Gw(a b:List Nat)(ha:ND a)(hb:ND b)(hl:b.length<=a.length)(hle:vl b<=vl a):eG a b=some (gC 4294967296 a.length (vl a-vl b)):=by
 obtain⟨hA,hla⟩:=ha;obtain⟨hB,hlb⟩:=hb;have hmx:max a.length b.length=a.length:=by omega
 unfold eG;simp only[Option.bind_some];rw[JI (by decide) (by omega),Option.bind_some,hmx];refine z9 (λk=>(FR 4294967296 (vl a) (vl b) k,gC 4294967296 k (vl a-vl b))) (by simp[JP,gC]) (λk hk=>?_) Y;have hx:=HO hA k;have hy:=HO hB k;have hc:=Sg (B:=4294967296) (by decide) (vl a) (vl b) k;have hxe:=za a hA k;have hye:=za b hB k;simp only[Option.bind_some];rw[Nat.mod_eq_of_lt (a:=a.getD k 0) (by omega),Nat.mod_eq_of_lt (a:=b.getD k 0) (by omega),z8 (by omega) (by omega),Nat.mod_eq_of_lt (a:=a.getD k 0+(4294967295-b.getD k 0)) (by omega),k8 _ _ (by omega)];simp only[Option.bind_some];rw[nq (by decide) (by rw[cf];omega),Option.bind_some,hxe,hye,JQ (B:=4294967296) (by decide),Nz (B:=4294967296) (by decide) hle,<-lY]
theorem P6(a b:List Nat)(ha:ND a)(hb:ND b):jI a b=some (gC 4294967296 (a.length+b.length) (vl a*vl b)):=by
 obtain⟨hA,hla⟩:=ha;obtain⟨hB,hlb⟩:=hb;unfold jI;simp only[Option.bind_some];rw[rR (by omega),yt (by decide) (by omega),Option.bind_some];refine bG (λi=>((i:Int),gC 4294967296 (a.length+b.length) (vl a%4294967296^i*vl b))) a.length (gC 4294967296 (a.length+b.length) (vl a%4294967296^a.length*vl b)) (by simp[Nat.mod_one,y7]) (λi hi=>?_) (by simp) (by rw[Nat.mod_eq_of_lt (jt a hA)]);have hgx:=pJ hA hi;have hx:val 4294967296 a/4294967296^i%4294967296<4294967296:=Nat.mod_lt _ (by decide);simp only[Option.bind_some,show decide ((i:Int)<(a.length:Int))=true by simp;omega,cond_true];rw[bC hgx,Option.bind_some];refine bG (λk=>((k:Int),mC 4294967296 (vl a) (vl b) i k,gC 4294967296 (a.length+b.length) (mV 4294967296 (vl a) (vl b) i k))) b.length (mC 4294967296 (vl a) (vl b) i b.length,gC 4294967296 (a.length+b.length) (mV 4294967296 (vl a) (vl b) i b.length)) (by simp[abd,abc]) (λk hk=>?_) (by simp) ?_
 ·have hgy:=pJ hB hk;have hgp:=ag7 (B:=4294967296) (by decide) (V:=vl a) (W:=vl b) (i:=i) (k:=k) (N:=a.length+b.length) (by omega);have hy:val 4294967296 b/4294967296^k%4294967296<4294967296:=Nat.mod_lt _ (by decide);have hp:vl a%4294967296^i*vl b/4294967296^(i+k)%4294967296<4294967296:=Nat.mod_lt _ (by decide);have hc:=ad9 (B:=4294967296) (by decide) (vl a) (vl b) i k;have hxy:val 4294967296 a/4294967296^i%4294967296*(val 4294967296 b/4294967296^k%4294967296)<=4294967295*4294967295:=Nat.mul_le_mul (by omega) (by omega);simp only[Option.bind_some,show decide ((k:Int)<(b.length:Int))=true by simp;omega,cond_true];rw[bC hgy,Option.bind_some,rR (by omega),cE (by rw[cf];omega),Option.bind_some,hgp,Option.bind_some]
  rw[Nat.mod_eq_of_lt (a:=vl a%4294967296^i*vl b/4294967296^(i+k)%4294967296) (by omega),Nat.mod_eq_of_lt (a:=val 4294967296 a/4294967296^i%4294967296) (b:=18446744073709551616) (by omega),Nat.mod_eq_of_lt (a:=val 4294967296 b/4294967296^k%4294967296) (b:=18446744073709551616) (by omega),Nat.mod_eq_of_lt (a:=val 4294967296 a/4294967296^i%4294967296*(val 4294967296 b/4294967296^k%4294967296)) (by omega),Nat.mod_eq_of_lt (a:=vl a%4294967296^i*vl b/4294967296^(i+k)%4294967296+_) (by omega),k8 _ _ (by omega)];simp only[Option.bind_some];rw[fz (by rw[cf];omega),Option.bind_some,aba (B:=4294967296) (by decide),abb (B:=4294967296) (by decide) (by omega),bM (by omega)]
 have hc:=ad9 (B:=4294967296) (by decide) (vl a) (vl b) i b.length;simp only[Option.bind_some];rw[rR (by omega),k8 _ _ (by omega)];simp only[Option.bind_some];rw[cE (by rw[cf];omega),Option.bind_some,fz (by rw[cf];omega),Option.bind_some,ag8 (B:=4294967296) (by decide) (jt b hB) (by omega),bM (by omega)]
end
section
open Go.Fw
theorem abl{a b s:Nat}(h:a<2^s):b*2^s ||| a=b*2^s+a:=by rw[Nat.or_comm,YA h,Nat.add_comm]
theorem TF{a b:Nat}(h:a<4294967296):b*4294967296 ||| a=b*4294967296+a:=abl (s:=32) h
theorem P7(a:List Nat)(d:Nat)(ha:ND a)(hd:0<d)(hd2:d<=4294967296):lJ a d=some (vl a%d,gC 4294967296 a.length (vl a/d)):=by
 obtain⟨hA,hla⟩:=ha;unfold lJ;simp only[Option.bind_some];rw[cH (by omega) (by omega)];refine bG (λi=>(vl a/4294967296^(a.length-i)%d,((a.length-i:Nat):Int)-1,gC 4294967296 a.length (qU 4294967296 (vl a) d (a.length-i)))) a.length (vl a%d,gC 4294967296 a.length (vl a/d)) ?_ (λi hi=>?_) (by simp[abe]) ?_
 ·simp only[Nat.sub_zero];rw[ag9 (jt a hA),HK a hA,Nat.div_eq_of_lt (jt a hA),Nat.zero_mod]
 ·obtain⟨m,hm⟩:∃m,a.length-i=m+1:=⟨a.length-i-1,by omega⟩;have hm':a.length-(i+1)=m:=by omega
  have hml:m<a.length:=by omega
  rw[hm,hm'];have hy:vl a/4294967296^m%4294967296<4294967296:=Nat.mod_lt _ (by decide);have hr:vl a/4294967296^(m+1)%d<d:=Nat.mod_lt _ hd;have hq:=abg (B:=4294967296) (by decide) hd (vl a) m;have hqd:(vl a/4294967296^(m+1)%d*4294967296+vl a/4294967296^m%4294967296)/d<4294967296:=by rw[Nat.div_lt_iff_lt_mul hd,Nat.mul_comm 4294967296 d];exact hq
  have hg:=aha (B:=4294967296) (by decide) (V:=vl a) (d:=d) (m:=m) (N:=a.length) hml;have hlt:vl a/4294967296^(m+1)%d*4294967296+vl a/4294967296^m%4294967296<18446744073709551616:=by omega
  have Vf:vl a/4294967296^(m+1)%d*4294967296<18446744073709551616:=Nat.lt_of_le_of_lt (Nat.le_add_right _ _) hlt;have ES:vl a/4294967296^m%4294967296<18446744073709551616:=Nat.lt_of_le_of_lt (Nat.le_add_left _ _) hlt;have hi1:((m+1:Nat):Int)-1=(m:Int):=by omega
  simp only[hi1,show decide ((0:Int)<=(m:Int))=true by simp,cond_true,Option.bind_some];rw[cE (by rw[cf];omega),Option.bind_some,hg];simp only[Option.bind_some];rw[show(2:Nat)^32=4294967296 from rfl];rw[Nat.mod_eq_of_lt (a:=vl a/4294967296^(m+1)%d*4294967296) Vf,Nat.mod_eq_of_lt (a:=vl a/4294967296^m%4294967296) (b:=18446744073709551616) ES,TF hy,Nat.mod_eq_of_lt (a:=vl a/4294967296^(m+1)%d*4294967296+vl a/4294967296^m%4294967296) hlt,Nw (by omega) hlt,HJ (by omega)];simp only[Option.bind_some];rw[Nat.mod_eq_of_lt (b:=4294967296) (a:=(vl a/4294967296^(m+1)%d*4294967296+vl a/4294967296^m%4294967296)/d) hqd,fz (by rw[cf];omega),Option.bind_some,cH (by omega) (by omega)];rw[abi (B:=4294967296) (by decide) hd hml,<-Yx (B:=4294967296) (d:=d) (vl a) m]
 simp only;rw[y5 (by rw[cf]),Option.bind_some]
theorem shiftLeft_eq(a:List Nat)(s:Nat)(ha:ND a)(hs:s<32):iQ a s=some (gC 4294967296 (a.length+1) (vl a*2^s)):=by
 obtain⟨hA,hla⟩:=ha;have hf:2^s<4294967296:=by
  have:2^s<2^32:=Nat.pow_lt_pow_right (by decide) hs;omega
 unfold iQ;simp only[Option.bind_some];rw[bM (by omega),JI (by decide) (by omega),Option.bind_some];refine bG (λi=>((i:Int),sC 4294967296 (vl a) (2^s) 0 i,gC 4294967296 i (vl a*2^s+0))) a.length (sC 4294967296 (vl a) (2^s) 0 a.length,gC 4294967296 a.length (vl a*2^s+0)) (by simp[NB,gC]) (λi hi=>?_) (by simp) ?_
 ·have hx:vl a/4294967296^i%4294967296<4294967296:=Nat.mod_lt _ (by decide);have hc:=Yw (B:=4294967296) (by decide) (V:=vl a) hf (show(0:Nat)<4294967296 by decide) i;have hxf:vl a/4294967296^i%4294967296*2^s<=4294967295*4294967295:=Nat.mul_le_mul (by omega) (by omega);have hg:a[i]? =some (vl a/4294967296^i%4294967296):=pJ hA hi;simp only[show decide ((i:Int)<(a.length:Int))=true by simp;omega,cond_true];rw[bC hg];simp only[Option.bind_some];rw[show min s 64=s by omega,Nat.mod_eq_of_lt (a:=vl a/4294967296^i%4294967296) (b:=18446744073709551616) (by omega),Nat.mod_eq_of_lt (b:=18446744073709551616) (by omega),k8 _ _ (by omega)];simp only[Option.bind_some];rw[nq (by decide) (by rw[cf];omega),Option.bind_some,NC (B:=4294967296) (by decide),Sj (B:=4294967296) (by decide),bM (by omega),<-lY]
 have hc:=Yw (B:=4294967296) (by decide) (V:=vl a) hf (show(0:Nat)<4294967296 by decide) a.length;simp only;rw[k8 _ _ (by omega)];simp only[Option.bind_some];rw[nq (by decide) (by rw[cf];omega),Option.bind_some,Nat.zero_add,Sk (jt a hA),<-lY];simp
theorem KZ(a:List Nat)(s:Nat):mA a s=iQ a s:=rfl
def Dw:Zy:=[0,1,2,2,3,3,3,3,4,4,4,4,4,4,4,4,5,5,5,5,5,5,5,5,5,5,5,5,5,5,5,5]++List.replicate 32 6++List.replicate 64 7++List.replicate 128 8
theorem ahb:∀y:Nat,y<256->Cr Dw (y:Int)=some ((Cr Dw (y:Int)).getD 0)/\(Cr Dw (y:Int)).getD 0<=8/\y<2^(Cr Dw (y:Int)).getD 0/\(y=0\/2^(Cr Dw (y:Int)).getD 0<=2*y):=by decide+kernel
set_option maxRecDepth 20000 in
theorem YB(x:Nat)(h:x<4294967296):∃n:Nat,kx x=some (n:Int)/\n<=32/\x<2^n/\(x=0\/2^n<=2*x):=by
 have key:∀(y k:Nat),y<256->y=x/2^k->k<=24->(x≠0->y≠0)->∃n:Nat,(((Cr Dw ((y%256:Nat):Int)).bind λeX=>(some (IntKind.i64.wrap (eX:Int))).bind λdR=>(some (IntKind.i64.wrap ((k:Int)+dR))).bind λeE=>some eE)=some (n:Int))/\n<=32/\x<2^n/\(x=0\/2^n<=2*x):=by
  intro y k hy hyx hk hnz;obtain⟨h1,h2,h3,h4⟩:=ahb y hy;rw[Nat.mod_eq_of_lt hy,h1];generalize (Cr Dw (y:Int)).getD 0=t at*;have hp:0<2^k:=Nat.two_pow_pos _;have e1:2^(k+t)=2^k*2^t:=Nat.pow_add ..;have e2:=Nat.div_add_mod x (2^k);have e3:=Nat.mod_lt x hp;rw[<-hyx]at e2;refine⟨k+t,?_,by omega,?_,?_⟩
  ·simp only[Option.bind_some];rw[j1 (by omega),rR (by omega)]
  ·rw[e1];have:2^k*(y+1)<=2^k*2^t:=Nat.mul_le_mul_left _ h3;rw[Nat.mul_add]at this;omega
  rcases h4 with h4|h4
  ·left;cases Nat.eq_zero_or_pos x with
   |inl h=>exact h
   |inr h=>exact absurd h4 (hnz (by omega))
  right;rw[e1];have:2^k*2^t<=2^k*(2*y):=Nat.mul_le_mul_left _ h4;rw[show 2^k*(2*y)=2*(2^k*y) by rw[Nat.mul_left_comm]]at this;omega
 unfold kx;simp only[cJ,Option.bind_some];by_cases c1:65536<=x
 ·rw[show decide (65536<=x)=true by simpa using c1];simp only[cond_true];by_cases c2:256<=x/2^16
  ·rw[show decide (256<=x/2^16)=true by simpa using c2];simp only[cond_true];rw[show IntKind.i64.wrap (16+8)=((24:Nat):Int) by decide];exact key (x/2^16/2^8) 24 (by omega) (by omega) (by omega) (by omega)
  rw[show decide (256<=x/2^16)=false by simpa using c2];simp only[cond_false];exact key (x/2^16) 16 (by omega) Y (by omega) (by omega)
 rw[show decide (65536<=x)=false by simpa using c1];simp only[cond_false];by_cases c2:256<=x
 ·rw[show decide (256<=x)=true by simpa using c2];simp only[cond_true];rw[show IntKind.i64.wrap (0+8)=((8:Nat):Int) by decide];exact key (x/2^8) 8 (by omega) Y (by omega) (by omega)
 rw[show decide (256<=x)=false by simpa using c2];simp only[cond_false];exact key x 0 (by omega) (by simp) (by omega) (λh=>h)
theorem akO(x:Nat)(h:x<4294967296)(h0:x≠0):∃s:Nat,fg x=some (s:Int)/\s<32/\2147483648<=x*2^s/\x*2^s<4294967296:=by
 obtain⟨n,h1,h2,h3,h4⟩:=YB x h;have h4:2^n<=2*x:=h4.resolve_left h0;have hn:n≠0:=by rintro rfl;simp at h3;omega
 refine⟨32-n,?_,by omega,?_,?_⟩
 ·unfold fg;rw[h1];simp only[Option.bind_some];rw[cH (by omega) (by omega)];congr 1;omega
 ·have:2^n*2^(32-n)<=2*x*2^(32-n):=Nat.mul_le_mul_right _ h4;rw[<-Nat.pow_add,show n+(32-n)=32 by omega,Nat.mul_assoc]at this;omega
 have:x*2^(32-n)<2^n*2^(32-n):=Nat.mul_lt_mul_of_pos_right h3 (Nat.two_pow_pos _);rw[<-Nat.pow_add,show n+(32-n)=32 by omega]at this;omega
end
end Go.Proofs.YtningmnklfpfjaaGreat
namespace Go.Fw
section
section akP
variable {B V U W:Nat}
theorem ahc{P F T:Nat}(hP:0<P)(hF:0<F)(hV:F*P<=V)(hU:U<(T+1)*P):U/V<=T/F:=by
 have hV0:0<V:=Nat.lt_of_lt_of_le (Nat.mul_pos hF hP) hV;rw[Nat.le_div_iff_mul_le hF];rcases Nat.lt_or_ge T (U/V*F)with h|h
 ·exfalso;have h1:U/V*V<=U:=Nat.div_mul_le_self U V;have h2:U/V*(F*P)<=U/V*V:=Nat.mul_le_mul_left _ hV;have h3:(T+1)*P<=U/V*F*P:=Nat.mul_le_mul_right _ h;rw[Nat.mul_assoc]at h3;omega
 exact h
theorem abm{P F S T u g r:Nat}(hV:(F*B+S)*P<=V)(hU:U<(T*B+u+1)*P)(hgr:g*F+r=T)(h:r*B+u<g*S):U<g*V:=by
 have h1:g*((F*B+S)*P)<=g*V:=Nat.mul_le_mul_left _ hV;have h2:(T*B+u+1)*P<=g*(F*B+S)*P:=by
  apply Nat.mul_le_mul_right;rw[Nat.mul_add,<-Nat.mul_assoc,<-hgr,Nat.add_mul];omega
 rw[Nat.mul_assoc]at h2;omega
theorem ahe{P V2 U2 g:Nat}(hV:V<(V2+1)*P)(hU:U2*P<=U)(hq:U/V<B)(hB:B<=V2)(hV0:0<V)(h:g*V2<=U2):g<=U/V+1:=by
 rcases Nat.lt_or_ge (U/V+1) g with h'|h'
 ·exfalso;have h1:U<(U/V+1)*V:=by have:=Nat.lt_div_mul_add (a:=U) hV0;rw[Nat.add_mul,Nat.one_mul];exact this
  have h2:(U/V+1)*V<=(U/V+1)*((V2+1)*P):=Nat.mul_le_mul_left _ (Nat.le_of_lt hV);have h3:g*V2*P<=U2*P:=Nat.mul_le_mul_right _ h;have h4:(U/V+2)*V2<=g*V2:=Nat.mul_le_mul_right _ h';have h5:(U/V+2)*V2*P<=g*V2*P:=Nat.mul_le_mul_right _ h4;have h6:(U/V+1)*((V2+1)*P)<=(U/V+2)*V2*P:=by
   rw[<-Nat.mul_assoc];apply Nat.mul_le_mul_right;rw[Nat.mul_add,Nat.add_mul (U/V) 2 V2,Nat.add_mul (U/V) 1 V2];omega
  omega
 exact h'
end akP
def mix(B o i X U A:Nat):Nat:=A%B^o+B^o*(X%B^i+B^i*(U/B^i))
theorem TG(B o i X U A:Nat):mix B o i X U A%B^o=A%B^o:=by rw[mix,Nat.add_mul_mod_self_left,Nat.mod_mod]
section mix
variable {B:Nat}(hB:0<B)(o i X U A:Nat)
include hB
theorem EC:mix B o i X U A/B^o=X%B^i+B^i*(U/B^i):=by
 rw[mix,Nat.add_mul_div_left _ _ (Nat.pow_pos hB),Nat.div_eq_of_lt (Nat.mod_lt _ (Nat.pow_pos hB)),Nat.zero_add]
theorem ED:mix B o i X U A/B^(o+i)=U/B^i:=by
 rw[Nat.pow_add,<-Nat.div_div_eq_div_mul,EC hB,Nat.add_mul_div_left _ _ (Nat.pow_pos hB),Nat.div_eq_of_lt (Nat.mod_lt _ (Nat.pow_pos hB)),Nat.zero_add]
theorem abn:mix B o i X U A%B^(o+i)=A%B^o+B^o*(X%B^i):=by
 rw[Nat.pow_add,Nat.mod_mul,TG,EC hB,Nat.add_mul_mod_self_left,Nat.mod_mod]
theorem NF{N:Nat}(h:o+i<N):(gC B N (mix B o i X U A)).set (o+i) (X/B^i%B)=gC B N (mix B o (i+1) X U A):=by
 apply B4 hB h (Nat.mod_lt _ hB)
 ·rw[abn hB,Nat.pow_add,Nat.mod_mul,TG,EC hB,Nat.pow_succ B i,Nat.mul_assoc,Nat.add_mul_mod_self_left,Nat.mod_mul,Nat.add_mul_mod_self_left,Nat.mod_mod]
 ·rw[Nat.pow_add,<-Nat.div_div_eq_div_mul,EC hB,Nat.pow_succ B i,Nat.mod_mul,Nat.mul_assoc,Nat.add_assoc,<-Nat.mul_add,Nat.add_mul_div_left _ _ (Nat.pow_pos hB),Nat.div_eq_of_lt (Nat.mod_lt _ (Nat.pow_pos hB)),Nat.zero_add,Nat.add_mul_mod_self_left,Nat.mod_mod]
 have h1:=ED hB o (i+1) X U A;have h2:=ED hB o i X U A;rw[show o+i+1=o+(i+1) by omega,h1,show o+(i+1)=(o+i)+1 by omega,Nat.pow_succ B (o+i),<-Nat.div_div_eq_div_mul,h2,Nat.pow_succ,<-Nat.div_div_eq_div_mul]
end mix
theorem P8{B o m X U A:Nat}(hU:U<B^m):mix B o m X U A=A%B^o+B^o*(X%B^m):=by rw[mix,Nat.div_eq_of_lt hU];simp
theorem P9{B:Nat}(o X A:Nat):mix B o 0 X (A/B^o) A=A:=by
 simp only[mix,Nat.pow_zero,Nat.mod_one,Nat.zero_add,Nat.one_mul,Nat.div_one];exact Nat.mod_add_div A (B^o)
theorem UY{B U U' T i:Nat}(h:U%B^i=U'%B^i):FR B U T i=FR B U' T i:=by rw[FR,FR,h]
theorem YC{B:Nat}(hB:0<B){U T m i:Nat}(hi:i<m)(hT:T<=U+B^m):(U/B^i%B+(B-1-T/B^i%B)+FR B U T i)%B=(U+B^m-T)/B^i%B:=by
 have e:B^m=B^i*(B*B^(m-i-1)):=by rw[<-Nat.pow_succ',<-Nat.pow_add];congr 1;omega
 have h1:(U+B^m)%B^i=U%B^i:=by rw[e,Nat.add_mul_mod_self_left]
 have h2:(U+B^m)/B^i%B=U/B^i%B:=by rw[e,Nat.add_mul_div_left _ _ (Nat.pow_pos hB),Nat.add_mul_mod_self_left]
 rw[<-h2,UY (U':=U+B^m) h1.symm,Nz hB hT]
theorem abo{B m U T:Nat}(hB:0<B)(hU:U<B^m)(hT:T<B^m):FR B U T m=if U<T then 0 else 1:=by
 rw[FR,Nat.mod_eq_of_lt hU,Nat.mod_eq_of_lt hT];have hp:0<B^m:=Nat.pow_pos hB;split
 ·exact Nat.div_eq_of_lt (by omega)
 rw[show U+B^m-T=(U-T)+B^m by omega,Nat.add_div_right _ hp,Nat.div_eq_of_lt (by omega)]
end
end Go.Fw
namespace Go.Proofs.YtningmnklfpfjaaGreat
section
open Go.Fw
theorem uD{N A j:Nat}(h:j<N):(gC 4294967296 N A)[j]? =some (A/4294967296^j%4294967296):=Ez N A j h
theorem two32:(2:Nat)^32=4294967296:=rfl
theorem akQ:(2:Nat)^63=9223372036854775808:=rfl
theorem NG(A o j:Nat):A/4294967296^(o+j)=A/4294967296^o/4294967296^j:=by rw[Nat.pow_add,Nat.div_div_eq_div_mul]
theorem Qa{N A o n:Nat}{v:List Nat}(hv:ND v)(hn:v.length=n+2)(hN:N<=100000000001)(ho:o+(n+2)<N)
  (hU:A/4294967296^o<4294967296*vl v) (YD:2147483648*4294967296^(n+1)<=vl v):
  ∃r,lK (gC 4294967296 N A) o (n+3) v=some r/\r.2=gC 4294967296 N A/\A/4294967296^o/vl v<=r.1/\r.1<=A/4294967296^o/vl v+1:=by
 obtain⟨hV,hlv⟩:=hv;obtain⟨U,ZM⟩:∃U,A/4294967296^o=U:=⟨_,Y⟩;obtain⟨V,ZN⟩:∃V,vl v=V:=⟨_,Y⟩;have Hg:V<4294967296^(n+2):=by rw[<-ZN,<-hn];exact jt v hV
 have hP1:0<4294967296^(n+1):=Nat.pow_pos (by decide);have hP:0<4294967296^n:=Nat.pow_pos (by decide);have ahf:4294967296^(n+1)=4294967296^n*4294967296:=Nat.pow_succ ..;have Qb:4294967296^(n+2)=4294967296^(n+1)*4294967296:=Nat.pow_succ ..;rw[ZM,ZN]at hU⊢;rw[ZN]at YD;have akR:U<4294967296^(n+1)*4294967296*4294967296:=by
  have:4294967296*V<4294967296*4294967296^(n+2):=Nat.mul_lt_mul_of_pos_left Hg (by decide);rw[Qb]at this;omega
 obtain⟨F,hF⟩:∃F,V/4294967296^(n+1)=F:=⟨_,Y⟩;obtain⟨S,hS⟩:∃S,V/4294967296^n%4294967296=S:=⟨_,Y⟩;obtain⟨T,hT⟩:∃T,U/4294967296^(n+1)=T:=⟨_,Y⟩;obtain⟨u,hu⟩:∃u,U/4294967296^n%4294967296=u:=⟨_,Y⟩;have arF:F<4294967296:=by rw[<-hF,Nat.div_lt_iff_lt_mul hP1];rw[Qb,Nat.mul_comm]at Hg;exact Hg
 have ava:2147483648<=F:=by rw[<-hF,Nat.le_div_iff_mul_le hP1];exact YD
 have avb:S<4294967296:=by rw[<-hS];exact Nat.mod_lt _ (by decide)
 have akS:u<4294967296:=by rw[<-hu];exact Nat.mod_lt _ (by decide)
 have arG:T<4294967296*4294967296:=by rw[<-hT,Nat.div_lt_iff_lt_mul hP1];rw[Nat.mul_comm,<-Nat.mul_assoc];exact akR
 have hV2:V/4294967296^n=F*4294967296+S:=by rw[<-hF,<-hS,ahf,<-Nat.div_div_eq_div_mul,Nat.mul_comm,Nat.div_add_mod]
 have hU2:U/4294967296^n=T*4294967296+u:=by rw[<-hT,<-hu,ahf,<-Nat.div_div_eq_div_mul,Nat.mul_comm,Nat.div_add_mod]
 have hq:U/V<4294967296:=by rw[Nat.div_lt_iff_lt_mul (by omega)];exact hU
 have akT:(F*4294967296+S)*4294967296^n<=V:=by rw[<-hV2];exact Nat.div_mul_le_self _ _
 have akU:V<(F*4294967296+S+1)*4294967296^n:=by rw[<-hV2,Nat.add_mul,Nat.one_mul];exact Nat.lt_div_mul_add hP
 have akV:(T*4294967296+u)*4294967296^n<=U:=by rw[<-hU2];exact Nat.div_mul_le_self _ _
 have akW:U<(T*4294967296+u+1)*4294967296^n:=by rw[<-hU2,Nat.add_mul,Nat.one_mul];exact Nat.lt_div_mul_add hP
 have aee:F*4294967296^(n+1)<=V:=by rw[<-hF];exact Nat.div_mul_le_self _ _
 have aef:U<(T+1)*4294967296^(n+1):=by rw[<-hT,Nat.add_mul,Nat.one_mul];exact Nat.lt_div_mul_add hP1
 have aeg:V<(F+1)*4294967296^(n+1):=by rw[<-hF,Nat.add_mul,Nat.one_mul];exact Nat.lt_div_mul_add hP1
 have hTF:T<4294967296*(F+1):=by
  rw[<-hT,Nat.div_lt_iff_lt_mul hP1];have:4294967296*V<4294967296*((F+1)*4294967296^(n+1)):=Nat.mul_lt_mul_of_pos_left aeg (by decide);rw[Nat.mul_assoc];omega
 have g1:(gC 4294967296 N A)[o+(n+2)]? =some (U/4294967296^(n+2)%4294967296):=by rw[uD (by omega),NG,ZM]
 have g2:(gC 4294967296 N A)[o+(n+1)]? =some (U/4294967296^(n+1)%4294967296):=by rw[uD (by omega),NG,ZM]
 have g3:(gC 4294967296 N A)[o+n]? =some u:=by rw[uD (by omega),NG,ZM,hu]
 have g4:v[n+1]? =some F:=by rw[pJ hV (by omega),show val 4294967296 v=V from ZN,hF,Nat.mod_eq_of_lt arF]
 have g5:v[n]? =some S:=by rw[pJ hV (by omega),show val 4294967296 v=V from ZN,hS]
 have hun:U/4294967296^(n+2)<4294967296:=by rw[Qb,<-Nat.div_div_eq_div_mul,hT,Nat.div_lt_iff_lt_mul (by decide)];exact arG
 have Sl:U/4294967296^(n+2)%4294967296*4294967296+U/4294967296^(n+1)%4294967296=T:=by
  rw[Nat.mod_eq_of_lt hun,Qb,<-Nat.div_div_eq_div_mul,hT,Nat.mul_comm,Nat.div_add_mod]
 obtain⟨t1,ht1⟩:∃t,U/4294967296^(n+2)%4294967296=t:=⟨_,Y⟩;obtain⟨t2,ht2⟩:∃t,U/4294967296^(n+1)%4294967296=t:=⟨_,Y⟩;have l1:t1<4294967296:=by rw[<-ht1];exact Nat.mod_lt _ (by decide)
 have l2:t2<4294967296:=by rw[<-ht2];exact Nat.mod_lt _ (by decide)
 rw[ht1]at g1 Sl;rw[ht2]at g2 Sl;clear ht1 ht2 hU2 hV2;have c1:((n+2:Nat):Int)-1=((n+1:Nat):Int):=by omega
 have c2:((n+2:Nat):Int)-2=(n:Int):=by omega
 unfold lK;simp only[Option.bind_some,hn,c1,c2];rw[j1 (by omega),j1 (by omega),HI (by omega),HI (by omega),HI (by omega)];simp only[Option.bind_some];rw[g1,g2,bC g4,bC g5];simp only[Option.bind_some,two32];rw[Nat.mod_eq_of_lt (a:=t1) (by omega),Nat.mod_eq_of_lt (a:=t2) (by omega),Nat.mod_eq_of_lt (a:=t1*4294967296) (by omega),TF l2,Sl,Nat.mod_eq_of_lt (a:=T) (by omega),Nat.mod_eq_of_lt (a:=F) (by omega),Nat.mod_eq_of_lt (a:=S) (by omega),Nw (by omega) (by omega),HJ (by omega)];simp only[Option.bind_some];have arL:=ahc (V:=V) (U:=U) hP1 (show 0<F by omega) aee aef;have hle:∀g,g*(F*4294967296+S)<=T*4294967296+u->g<=U/V+1:=λg h=>ahe (B:=4294967296) akU akV hq (by omega) (by omega) h;have arM:∀g r,g*F+r=T->r*4294967296+u<g*S->U/V<g:=λg r i1 ht=>(Nat.div_lt_iff_lt_mul (by omega)).2 (abm akT akW i1 ht);have hg0:T/F<=4294967297:=by
  have:T/F<4294967298:=by
   rw[Nat.div_lt_iff_lt_mul (by omega)];omega
  omega
 generalize U/V=q at*;clear akT akU akV akW aee aef aeg hTF akR YD Hg ahf Qb hP hP1 hF hS hT hu ZM ZN hU;have hdm:=Nat.div_add_mod T F;have hml:=Nat.mod_lt T (show 0<F by omega);have arO:T/F*F+T%F=T:=by rw[Nat.mul_comm];exact hdm
 clear hdm;refine mN (λx=>x.1*F+x.2=T/\q<=x.1/\x.2<4294967296/\x.1<=4294967297) (λe=>q<=e/\e<=q+1) (λx=>x.1) ?_ ⟨arO,arL,by show T%F<_;omega,hg0⟩ ?_
 ·rintro⟨g,r⟩ ⟨i1,i2,i3,i4⟩;simp only at i1 i2 i3 i4;have down:q<g->(∃s',(bif decide ((r+F)%18446744073709551616/4294967296≠0)then some (.inr (vV 18446744073709551616 g 1))else some (.inl (vV 18446744073709551616 g 1,(r+F)%18446744073709551616)):Option ((Nat×Nat)⊕Nat))=some (.inl s')/\(s'.1*F+s'.2=T/\q<=s'.1/\s'.2<4294967296/\s'.1<=4294967297)/\s'.1<g)\/
    (∃e,(bif decide ((r+F)%18446744073709551616/4294967296≠0)then some (.inr (vV 18446744073709551616 g 1))else some (.inl (vV 18446744073709551616 g 1,(r+F)%18446744073709551616)):Option ((Nat×Nat)⊕Nat))=some (.inr e)/\q<=e/\e<=q+1):=by
   intro hlt;have e1:(g-1)*F+(r+F)=T:=by
    obtain⟨k,rfl⟩:∃k,g=k+1:=⟨g-1,by omega⟩;rw[Nat.add_sub_cancel];rw[Nat.add_mul]at i1;omega
   rw[z8 (by omega) (by omega),Nat.mod_eq_of_lt (a:=r+F) (by omega)];by_cases hb:r+F<4294967296
   ·left;refine⟨(g-1,r+F),by simp[Nat.div_eq_of_lt hb],⟨e1,by simp only;omega,hb,by simp only;omega⟩,by simp only;omega⟩
   right;have hne:(r+F)/4294967296≠0:=by omega
   refine⟨g-1,by simp[hne],by omega,?_⟩;refine hle _ ?_;have m1:(g-1)*S<=4294967296*4294967295:=Nat.mul_le_mul (by omega) (by omega);rw[Nat.mul_add,<-Nat.mul_assoc];have m2:((g-1)*F+(r+F))*4294967296=T*4294967296:=by rw[e1]
   rw[Nat.add_mul]at m2;omega
  simp only[cJ,cc];by_cases hg:g<4294967296
  ·rw[show decide (g/4294967296≠0)=false by simp;omega];have hgS:g*S<=4294967295*4294967295:=Nat.mul_le_mul (by omega) (by omega);simp only[iz];rw[g3];simp only[cc];rw[Nat.mod_eq_of_lt (a:=g*S) (by omega),Nat.mod_eq_of_lt (a:=r*4294967296) (by omega),Nat.mod_eq_of_lt (a:=u) (by omega),TF akS,Nat.mod_eq_of_lt (a:=r*4294967296+u) (by omega)];by_cases ht:r*4294967296+u<g*S
   ·rw[show decide (r*4294967296+u<g*S)=true by simpa using ht];simp only[cc,gS];exact down (arM _ _ i1 ht)
   rw[show decide (r*4294967296+u<g*S)=false by simpa using ht];right;refine⟨g,by simp,i2,?_⟩;refine hle _ ?_;rw[Nat.mul_add,<-Nat.mul_assoc,<-i1,Nat.add_mul];omega
  rw[show decide (g/4294967296≠0)=true by simp;omega];simp only[cc,gS];exact down (by omega)
 rintro e ⟨h2,h3⟩;exact⟨(e,gC 4294967296 N A),by rw[y5 Y,Option.bind_some],Y,h2,h3⟩
end
section
open Go.Fw
theorem Cm{N A o n f:Nat}{v:List Nat}(hv:ND v)(hn:v.length=n)(hN:N<=100000000001)(ho:o+n<N)(hf:f<=4294967296)
  (hU:A/4294967296^o<4294967296^(n+1)):
  eI (gC 4294967296 N A) o (n+1) v f=some (decide (A/4294967296^o<vl v*f),gC 4294967296 N (A%4294967296^o+4294967296^o*((A/4294967296^o+4294967296^(n+1)-vl v*f)%4294967296^(n+1)))):=by
 obtain⟨hV,hlv⟩:=hv;obtain⟨U,ZM⟩:∃U,A/4294967296^o=U:=⟨_,Y⟩;obtain⟨V,ZN⟩:∃V,vl v=V:=⟨_,Y⟩;have Hg:V<4294967296^n:=by rw[<-ZN,<-hn];exact jt v hV
 have VK:4294967296^(n+1)=4294967296^n*4294967296:=Nat.pow_succ ..;have hT:V*f<4294967296^(n+1):=by
  rw[VK]
  calc V*f<=V*4294967296:=Nat.mul_le_mul_left _ hf
   _<4294967296^n*4294967296:=Nat.mul_lt_mul_of_pos_right Hg (by decide)
 rw[ZM]at hU⊢;rw[ZN];obtain⟨X,hX⟩:∃X,U+4294967296^(n+1)-V*f=X:=⟨_,Y⟩;rw[hX];unfold eI;simp only[cc];have ahg:∀i,FR 4294967296 U (V*f) i<=1:=λi=>Sg (by decide) _ _ _;refine bG (λi=>(1-FR 4294967296 U (V*f) i,(i:Int),sC 4294967296 V f 0 i,gC 4294967296 N (mix 4294967296 o i X U A))) (n+1) (1-FR 4294967296 U (V*f) (n+1),gC 4294967296 N (mix 4294967296 o (n+1) X U A)) ?_ (λi hi=>?_) ?_ ?_
 ·rw[JP,NB,<-ZM,P9];rfl
 ·
  obtain⟨t,ht⟩:∃t,V*f/4294967296^i%4294967296=t:=⟨_,Y⟩;obtain⟨c,hc⟩:∃c,sC 4294967296 V f 0 i=c:=⟨_,Y⟩;obtain⟨p,hp⟩:∃p,V/4294967296^i%4294967296*f=p:=⟨_,Y⟩;have avd:c<4294967296:=by
   rw[<-hc,sC,sT,Nat.add_zero,Nat.div_lt_iff_lt_mul (Nat.pow_pos (by decide))]
   calc V%4294967296^i*f<=V%4294967296^i*4294967296:=Nat.mul_le_mul_left _ hf
    _<4294967296*4294967296^i:=by rw[Nat.mul_comm];exact Nat.mul_lt_mul_of_pos_left (Nat.mod_lt _ (Nat.pow_pos (by decide))) (by decide)
  have ave:p<=4294967295*4294967296:=by
   rw[<-hp];exact Nat.mul_le_mul (by have:=Nat.mod_lt (V/4294967296^i) (show 0<4294967296 by decide);omega) hf
  have Si:(p+c)%4294967296=t:=by rw[<-hp,<-hc,Sj (B:=4294967296) (by decide),Nat.add_zero,ht]
  have hstep:(p+c)/4294967296=sC 4294967296 V f 0 (i+1):=by rw[<-hp,<-hc,NC (B:=4294967296) (by decide)]
  have avf:t<4294967296:=by rw[<-ht];exact Nat.mod_lt _ (by decide)
  obtain⟨u,hu⟩:∃u,U/4294967296^i%4294967296=u:=⟨_,Y⟩;have akS:u<4294967296:=by rw[<-hu];exact Nat.mod_lt _ (by decide)
  have hg:(gC 4294967296 N (mix 4294967296 o i X U A))[o+i]? =some u:=by rw[uD (by omega),ED (by decide),hu]
  have hl:=ahg i;obtain⟨l,hle⟩:∃l,FR 4294967296 U (V*f) i=l:=⟨_,Y⟩;have hxd:(u+(4294967296-1-t)+l)%4294967296=X/4294967296^i%4294967296:=by rw[<-hu,<-ht,<-hle,YC (B:=4294967296) (by decide) hi (by omega),hX]
  have hls:(u+(4294967296-1-t)+l)/4294967296=FR 4294967296 U (V*f) (i+1):=by rw[<-hu,<-ht,<-hle,JQ (B:=4294967296) (by decide)]
  rw[hle]at hl;have hput:=NF (B:=4294967296) (by decide) o i X U A (N:=N) (by omega);rw[hle,hc,<-hls];simp only[show decide ((i:Int)<((n+1:Nat):Int))=true by simp;omega,gS,cc,cJ];rw[HI (by omega)];simp only[cc,hg];have way:∀k:Nat->Option ((Nat×Int×Nat×List Nat)⊕(Nat×List Nat)),(bif decide ((i:Int)<(v.length:Int))then(cM v (i:Int)).bind λgV=>k (gV%18446744073709551616*f%18446744073709551616)else k 0)=k p:=by
   intro k;by_cases hin:i<v.length
   ·rw[show decide ((i:Int)<(v.length:Int))=true by simp;omega,gS];have N0:v[i]? =some (V/4294967296^i%4294967296):=by rw[<-ZN];exact pJ hV hin
    rw[bC N0,cc,Nat.mod_eq_of_lt (a:=V/4294967296^i%4294967296) (b:=18446744073709551616) (by have:=Nat.mod_lt (V/4294967296^i) (show 0<4294967296 by decide);omega),hp,Nat.mod_eq_of_lt (a:=p) (by omega)]
   rw[show decide ((i:Int)<(v.length:Int))=false by simp;omega,iz];have:V/4294967296^i=0:=Nat.div_eq_of_lt (Nat.lt_of_lt_of_le Hg (Nat.pow_le_pow_right (by decide) (by omega)));rw[<-hp,this];simp
  refine(way (λy=>(cI y c).bind _)).trans ?_;rw[k8 _ _ (by omega)];simp only[cc];rw[Si,hstep,Nat.mod_eq_of_lt (a:=u) (by omega),Nat.mod_eq_of_lt (a:=t) (by omega)];rw[fz (by rw[cf];omega),cc,bM (by omega),akQ];by_cases aeH:u<t+(1-l)
  ·have e1:vV 18446744073709551616 (vV 18446744073709551616 u t) (1-l)=18446744073709551616+u-t-(1-l):=by
    by_cases h1:u<t
    ·rw[Ey h1 (by omega),z8 (by omega) (by omega)]
    rw[z8 (a:=u) (b:=t) (by omega) (by omega),Ey (by omega) (by omega)];omega
   rw[e1];have e2:(18446744073709551616+u-t-(1-l))%4294967296=X/4294967296^i%4294967296:=by rw[<-hxd];omega
   have e3:(18446744073709551616+u-t-(1-l))/9223372036854775808=1-(u+(4294967296-1-t)+l)/4294967296:=by omega
   rw[e2,e3,hput]
  have e1:vV 18446744073709551616 (vV 18446744073709551616 u t) (1-l)=u-t-(1-l):=by
   rw[z8 (a:=u) (b:=t) (by omega) (by omega),z8 (by omega) (by omega)]
  rw[e1];have e2:(u-t-(1-l))%4294967296=X/4294967296^i%4294967296:=by rw[<-hxd];omega
  have e3:(u-t-(1-l))/9223372036854775808=1-(u+(4294967296-1-t)+l)/4294967296:=by omega
  rw[e2,e3,hput]
 ·simp
 simp only[cc];rw[y5 (by rw[cf,cf]),cc,P8 hU,abo (by decide) hU hT];congr 2;by_cases h:U<V*f<;>simp[h]
end
section
open Go.Fw
theorem akX{B V:Nat}(hB:0<B)(hV:0<V)(A k:Nat):A%(V*B^(k+1))/B^k<B*V:=by
 rw[Nat.div_lt_iff_lt_mul (Nat.pow_pos hB)];have:V*B^(k+1)=B*V*B^k:=by rw[Nat.pow_succ,Nat.mul_comm (B^k),<-Nat.mul_assoc,Nat.mul_comm V]
 rw[<-this];exact Nat.mod_lt _ (Nat.mul_pos hV (Nat.pow_pos hB))
theorem ahh{B V:Nat}(A k:Nat):A%(V*B^(k+1))%B^k+B^k*(A%(V*B^(k+1))/B^k%V)=A%(V*B^k):=by
 rw[<-Nat.mod_mul,Nat.mul_comm (B^k),Nat.mod_mod_of_dvd];rw[Nat.pow_succ,<-Nat.mul_assoc];exact Nat.dvd_mul_right _ _
theorem ahi{B V:Nat}(A k:Nat):A%(V*B^(k+1))/B^k/V=A/V/B^k%B:=by
 rw[Nat.div_div_eq_div_mul,Nat.mul_comm (B^k),Nat.pow_succ,<-Nat.mul_assoc,Nat.mod_mul_right_div_self,Nat.div_div_eq_div_mul]
theorem NH{B:Nat}(hB:0<B){N k:Nat}(h:k<N)(Q:Nat):(gC B N (Q/B^(k+1)*B^(k+1))).set k (Q/B^k%B)=gC B N (Q/B^k*B^k):=by
 have hP:0<B^k:=Nat.pow_pos hB;refine B4 hB h (Nat.mod_lt _ hB) ?_ ?_ ?_
 ·rw[Nat.mul_mod_left,Nat.pow_succ,Nat.mul_comm (B^k),<-Nat.mul_assoc,Nat.mul_mod_left]
 ·rw[Nat.mul_div_cancel _ hP]
 rw[Nat.mul_div_cancel _ (Nat.pow_pos hB),Nat.pow_succ,<-Nat.div_div_eq_div_mul,Nat.mul_div_cancel _ hP,Nat.div_div_eq_div_mul]
theorem TH{α:Type}{l:List α}{o n:Nat}(h:o<l.length)(h':o+n<=l.length):ckS l (o:Int) ((o+n:Nat):Int)=some (o,n):=by
 unfold ckS;rw[if_pos (by omega)];congr 2;omega
theorem abp{U V g M:Nat}(hV:0<V)(h1:U/V<=g)(h2:g<=U/V+1)(hM:U<M)(hVM:V<=M):
  (V*g<=U/\g=U/V/\(U+M-V*g)%M=U%V)\/(U<V*g/\g=U/V+1/\U+M-V*g<M/\(U+M-V*g+V)%M=U%V):=by
 have hd:=Nat.div_add_mod U V;have hm:=Nat.mod_lt U hV
 revert h1 h2 hd hm
 generalize U/V=q;generalize U%V=r;intro h1 h2 hd hm;rcases Nat.lt_or_ge q g with h|h
 ·obtain rfl:g=q+1:=by omega
  have e:V*(q+1)=V*q+V:=Nat.mul_succ ..;right;refine⟨by omega,Y,by omega,?_⟩;rw[show U+M-V*(q+1)+V=r+M by omega,Nat.add_mod_right,Nat.mod_eq_of_lt (by omega)]
 obtain rfl:g=q:=by omega
 left;refine⟨by omega,Y,?_⟩;rw[show U+M-V*g=r+M by omega,Nat.add_mod_right,Nat.mod_eq_of_lt (by omega)]
theorem abq{R D e i:Nat}(hD:0<D)(he:4294967296=D*e):(R*D/4294967296^(i+1)%4294967296*4294967296+R*D/4294967296^i%4294967296)/D%4294967296=R/4294967296^i%4294967296:=by
 have h1:R*D/4294967296^(i+1)%4294967296*4294967296+R*D/4294967296^i%4294967296=R*D/4294967296^i%(4294967296*4294967296):=by
  rw[Nat.mod_mul,Nat.div_div_eq_div_mul,show 4294967296^i*4294967296=4294967296^(i+1)from(Nat.pow_succ ..).symm,Nat.add_comm,Nat.mul_comm 4294967296]
 have h2:(4294967296*4294967296:Nat)=D*(e*4294967296):=by
  rw[<-Nat.mul_assoc,<-he]
 rw[h1,h2,Nat.mod_mul_right_div_self,Nat.mod_mul_left_mod,Nat.div_div_eq_div_mul,Nat.mul_comm (4294967296^i) D,<-Nat.div_div_eq_div_mul,Nat.mul_div_cancel _ hD]
theorem ahj{B:Nat}(hB:0<B){N i R:Nat}(h:i<N):(gC B N (R%B^i)).set i (R/B^i%B)=gC B N (R%B^(i+1)):=by
 refine B4 hB h (Nat.mod_lt _ hB) ?_ ?_ ?_
 ·rw[Nat.mod_mod,Nat.mod_mod_of_dvd _ (Nat.pow_dvd_pow _ (Nat.le_succ i))]
 ·rw[Nat.pow_succ,Nat.mod_mul_right_div_self,Nat.mod_mod]
 rw[Nat.div_eq_of_lt (Nat.mod_lt _ (Nat.pow_pos hB)),Nat.div_eq_of_lt];exact Nat.lt_of_lt_of_le (Nat.mod_lt _ (Nat.pow_pos hB)) (Nat.pow_le_pow_right hB (Nat.le_succ i))
theorem Sn(a b:List Nat)(ha:ND a)(hb:ND b){n:Nat}(hn:b.length=n+2)(hl:b.length<=a.length)(Sl:b[n+1]? ≠some 0):
  mR a b=some (gC 4294967296 (a.length-b.length+1) (vl a/vl b),gC 4294967296 b.length (vl a%vl b)):=by
 obtain⟨hA,hla⟩:=ha;obtain⟨hB,hlb⟩:=hb;have hP:∀k,0<4294967296^k:=λk=>Nat.pow_pos (by decide);obtain⟨Va,hVa⟩:∃V,vl a=V:=⟨_,Y⟩;obtain⟨Vb,hVb⟩:∃V,vl b=V:=⟨_,Y⟩;have ahk:Vb<4294967296^(n+2):=by rw[<-hVb,<-hn];exact jt b hB
 have halt:Va<4294967296^a.length:=by rw[<-hVa];exact jt a hA
 have Qb:4294967296^(n+2)=4294967296^(n+1)*4294967296:=Nat.pow_succ ..;obtain⟨x,hx⟩:∃x,Vb/4294967296^(n+1)=x:=⟨_,Y⟩;have akY:x<4294967296:=by rw[<-hx,Nat.div_lt_iff_lt_mul (hP _)];rw[Qb,Nat.mul_comm]at ahk;exact ahk
 have hgx:b[n+1]? =some x:=by rw[pJ hB (by omega),show val 4294967296 b=Vb from hVb,hx,Nat.mod_eq_of_lt akY]
 have hx0:x≠0:=λe=>Sl (by rw[hgx,e]);obtain⟨s,Vf,ES,hs3,hs4⟩:=akO x akY hx0;have hp2:0<2^s:=Nat.two_pow_pos s;have ak0:2^s<4294967296:=by
  have:2^s<2^32:=Nat.pow_lt_pow_right (by decide) ES;rw[two32]at this;exact this
 obtain⟨D,hD⟩:∃D,2^s=D:=⟨_,Y⟩;rw[hD]at hs3 hs4 hp2 ak0;obtain⟨V,hV⟩:∃V,Vb*D=V:=⟨_,Y⟩;obtain⟨A,hAe⟩:∃A,Va*D=A:=⟨_,Y⟩;have Hg:V<4294967296^(n+2):=by
  have h1:Vb<(x+1)*4294967296^(n+1):=by rw[<-hx,Nat.add_mul,Nat.one_mul];exact Nat.lt_div_mul_add (hP _)
  have h2:(x+1)*D<=4294967296:=by
   obtain⟨e,he⟩:∃e,4294967296=D*e:=⟨2^(32-s),by rw[<-hD,<-Nat.pow_add,show s+(32-s)=32 by omega,two32]⟩;have h3:x<e:=by
    apply Nat.lt_of_mul_lt_mul_left (a:=D);rw[<-he,Nat.mul_comm];exact hs4
   calc (x+1)*D<=e*D:=Nat.mul_le_mul_right _ h3
    _=4294967296:=by rw[Nat.mul_comm,<-he]
  rw[<-hV,Qb]
  calc Vb*D<(x+1)*4294967296^(n+1)*D:=Nat.mul_lt_mul_of_pos_right h1 hp2
   _=4294967296^(n+1)*((x+1)*D):=by rw[Nat.mul_comm (x+1),Nat.mul_assoc]
   _<=4294967296^(n+1)*4294967296:=Nat.mul_le_mul_left _ h2
 have YE:2147483648*4294967296^(n+1)<=V:=by
  have h1:x*4294967296^(n+1)<=Vb:=by rw[<-hx];exact Nat.div_mul_le_self _ _
  rw[<-hV]
  calc 2147483648*4294967296^(n+1)<=x*D*4294967296^(n+1):=Nat.mul_le_mul_right _ hs3
   _=x*4294967296^(n+1)*D:=by rw[Nat.mul_assoc,Nat.mul_comm D,<-Nat.mul_assoc]
   _<=Vb*D:=Nat.mul_le_mul_right _ h1
 have hV0:0<V:=Nat.lt_of_lt_of_le (Nat.mul_pos (by decide) (hP _)) YE;have hb0:0<Vb:=by
  rcases Nat.eq_zero_or_pos Vb with h|h
  ·rw[<-hV,h,Nat.zero_mul]at hV0;omega
  exact h
 have hAV:A/V=Va/Vb:=by rw[<-hAe,<-hV,Nat.mul_div_mul_right _ _ hp2]
 have arQ:A%V=Va%Vb*D:=by rw[<-hAe,<-hV,Nat.mul_mod_mul_right]
 obtain⟨K,hK⟩:∃K,a.length=K+(n+2):=⟨a.length-(n+2),by omega⟩;have hA0:A<V*4294967296^(K+1):=by
  have h1:4294967296^(n+1)<=Vb:=by
   have:1*4294967296^(n+1)<=x*4294967296^(n+1):=Nat.mul_le_mul_right _ (by omega);have h2:x*4294967296^(n+1)<=Vb:=by rw[<-hx];exact Nat.div_mul_le_self _ _
   omega
  rw[<-hAe,<-hV]
  calc Va*D<4294967296^a.length*D:=Nat.mul_lt_mul_of_pos_right halt hp2
   _=4294967296^(n+1)*4294967296^(K+1)*D:=by rw[hK,<-Nat.pow_add];congr 2;omega
   _<=Vb*4294967296^(K+1)*D:=Nat.mul_le_mul_right _ (Nat.mul_le_mul_right _ h1)
   _=Vb*D*4294967296^(K+1):=by rw[Nat.mul_assoc,Nat.mul_comm _ D,<-Nat.mul_assoc]
 obtain⟨v,hve⟩:∃v,gC 4294967296 (n+2) V=v:=⟨_,Y⟩;have hvl:v.length=n+2:=by rw[<-hve,cf]
 have hvW:ND v:=⟨λy hy=>by rw[<-hve]at hy;exact uW (by decide) _ _ _ hy,by omega⟩;have hvv:vl v=V:=by rw[<-hve];show val _ _=_;rw[rS,Nat.mod_eq_of_lt Hg]
 have ak3:List.take b.length (gC 4294967296 (b.length+1) (Vb*2^s))=v:=by
  rw[hD,hV,hn,lY,List.take_append_of_le_length (by rw[cf];omega),List.take_of_length_le (by rw[cf];omega),hve]
 unfold mR;simp only[cc];rw[show((b.length:Nat):Int)-1=((n+1:Nat):Int) by omega,j1 (by omega),bC hgx,cc,Vf,cc];rw[show((s:Int)%18446744073709551616).toNat=s by rw[Int.emod_eq_of_lt (by omega) (by omega)];simp];rw[KZ,shiftLeft_eq a s ⟨hA,hla⟩ ES,cc,shiftLeft_eq b s ⟨hB,hlb⟩ ES,cc,y4 (by rw[cf];omega),cc];obtain⟨Q,hQ⟩:∃Q,A/V=Q:=⟨_,Y⟩;have arS:Q<4294967296^(K+1):=by rw[<-hQ,Nat.div_lt_iff_lt_mul hV0,Nat.mul_comm];exact hA0
 rw[hVa,hVb,<-hAV,hQ,ak3,hD,hAe,hn];rw[show a.length-(n+2)+1=K+1 by omega];rw[cH (x:=(a.length:Int)-((n+2:Nat):Int)) (by omega) (by omega),cH (x:=(a.length:Int)-((n+2:Nat):Int)+1) (by omega) (by omega),show(a.length:Int)-((n+2:Nat):Int)+1=((K+1:Nat):Int) by omega,yt (by decide) (by omega),cc,show(a.length:Int)-((n+2:Nat):Int)=(K:Int) by omega];refine bG (λj=>((K:Int)-(j:Int),gC 4294967296 (K+1) (Q/4294967296^(K+1-j)*4294967296^(K+1-j)),gC 4294967296 (a.length+1) (A%(V*4294967296^(K+1-j))))) (K+1) (gC 4294967296 (K+1) Q,gC 4294967296 (a.length+1) (A%V)) ?_ (λj hj=>?_) ?_ ?_
 ·rw[show K+1-0=K+1 by omega,Nat.mod_eq_of_lt hA0,Nat.div_eq_of_lt arS,Nat.zero_mul,y7];simp
 ·
  obtain⟨k,hk⟩:∃k,K=k+j:=⟨K-j,by omega⟩;rw[show K+1-j=k+1 by omega,show K+1-(j+1)=k by omega,show(K:Int)-(j:Int)=(k:Int) by omega,show(K:Int)-((j+1:Nat):Int)=(k:Int)-1 by omega];have hU:=akX (B:=4294967296) (by decide) hV0 A k;have Qc:=ahh (B:=4294967296) (V:=V) A k;have hdg:=ahi (B:=4294967296) (V:=V) A k;obtain⟨N,hN⟩:∃N,a.length+1=N:=⟨_,Y⟩;obtain⟨A1,hA1⟩:∃A1,A%(V*4294967296^(k+1))=A1:=⟨_,Y⟩;rw[hN];rw[hA1]at hU Qc hdg⊢;rw[hQ]at hdg;obtain⟨⟨g,lg⟩,hge,hgl,hg1,ZI⟩:=Qa (N:=N) (A:=A1) (o:=k) (n:=n) (v:=v) hvW hvl (by omega) (by omega) (by rw[hvv];exact hU) (by rw[hvv];exact YE);simp only at hgl hg1 ZI;rw[hvv]at hg1 ZI;subst hgl;have hsub:=Cm (N:=N) (A:=A1) (o:=k) (n:=n+2) (v:=v) (f:=g) hvW hvl (by omega) (by omega) ?_ ?_
  ·rw[hvv]at hsub;obtain⟨U,ZM⟩:∃U,A1/4294967296^k=U:=⟨_,Y⟩;rw[ZM]at hU Qc hdg hg1 ZI hsub;have abr:4294967296^(n+2+1)=4294967296^(n+2)*4294967296:=Nat.pow_succ ..;have hUM:U<4294967296^(n+2+1):=by
    have:4294967296*V<4294967296*4294967296^(n+2):=Nat.mul_lt_mul_of_pos_left Hg (by decide);rw[abr];omega
   have YF:=abp (M:=4294967296^(n+2+1)) hV0 hg1 ZI hUM (by rw[abr];omega);have hql:U/V<4294967296:=by rw[hdg];exact Nat.mod_lt _ (by decide)
   rw[show decide ((0:Int)<=(k:Int))=true by simp,gS];rw[rR (by omega),bM (by omega),show k+(n+2)+1=k+(n+3) by omega,TH (by rw[cf];omega) (by rw[cf];omega),cc,hge,cc,y5 Y,cc,TH (by rw[cf];omega) (by rw[cf];omega),cc];show(Option.bind (eI _ k (n+2+1) v g) _)=_;rw[hsub,cc,y5 (by rw[cf,cf]),cc];simp only[cJ];rcases YF with⟨hc1,N8,hc3⟩|⟨hc1,N8,hc3,hc4⟩
   ·rw[show decide (U<V*g)=false by simp;omega,iz,hc3,Qc,N8,Nat.mod_eq_of_lt hql,hdg,cE (by rw[cf];omega),cc,fz (by rw[cf];omega),cc,NH (by decide) (by omega),cH (by omega) (by omega)]
   rw[show decide (U<V*g)=true by simp;omega,gS,z8 (by omega) (by omega),show g-1=U/V by omega,Nat.mod_eq_of_lt hql,hdg];rw[Nat.mod_eq_of_lt hc3];obtain⟨aa,hY⟩:∃aa,U+4294967296^(n+2+1)-V*g=aa:=⟨_,Y⟩;rw[hY]at hc3 hc4⊢;obtain⟨A2,hA2⟩:∃A2,A1%4294967296^k+4294967296^k*aa=A2:=⟨_,Y⟩;rw[hA2];have hw2:A2/4294967296^k=aa:=by rw[<-hA2,Nat.add_mul_div_left _ _ (hP k),Nat.div_eq_of_lt (Nat.mod_lt _ (hP k)),Nat.zero_add]
   have Vw:A2%4294967296^k=A1%4294967296^k:=by rw[<-hA2,Nat.add_mul_mod_self_left,Nat.mod_mod]
   have hcr:∀i,HL 4294967296 aa V i<=1:=λi=>JM (by decide) _ _ _;refine bG (λi=>((i:Int),HL 4294967296 aa V i,gC 4294967296 N (mix 4294967296 k i (aa+V) aa A2))) (n+2) (HL 4294967296 aa V (n+2),gC 4294967296 N (mix 4294967296 k (n+2) (aa+V) aa A2)) ?_ (λi hi=>?_) ?_ ?_
   ·rw[JO,<-hw2,P9];rfl
   ·have N0:v[i]? =some (V/4294967296^i%4294967296):=by rw[<-hvv];exact pJ hvW.1 (by omega)
    have hgu:(gC 4294967296 N (mix 4294967296 k i (aa+V) aa A2))[k+i]? =some (aa/4294967296^i%4294967296):=by rw[uD (by omega),ED (by decide)]
    have Vf:=JN (B:=4294967296) (by decide) aa V i;have ES:=HM (B:=4294967296) (by decide) aa V i;have hput:=NF (B:=4294967296) (by decide) k i (aa+V) aa A2 (N:=N) (by omega);have hci:=hcr i;have hv1:=Nat.mod_lt (V/4294967296^i) (show 0<4294967296 by decide);have hy1:=Nat.mod_lt (aa/4294967296^i) (show 0<4294967296 by decide);simp only[show decide ((i:Int)<(v.length:Int))=true by simp;omega,gS];rw[bC N0,cc,rR (by omega),cE (by rw[cf];omega),cc,hgu,cc,Nat.mod_eq_of_lt (a:=aa/4294967296^i%4294967296) (b:=18446744073709551616) (by omega),Nat.mod_eq_of_lt (a:=V/4294967296^i%4294967296) (b:=18446744073709551616) (by omega),Nat.mod_eq_of_lt (b:=18446744073709551616) (by omega),k8 _ _ (by omega),cc,cc,fz (by rw[cf];omega),cc,bM (by omega)];rw[Vf,ES,hput]
   ·simp[hvl]
   have hgu:(gC 4294967296 N (mix 4294967296 k (n+2) (aa+V) aa A2))[k+(n+2)]? =some (aa/4294967296^(n+2)%4294967296):=by rw[uD (by omega),ED (by decide)]
   have ES:=HM (B:=4294967296) (by decide) aa V (n+2);have hput:=NF (B:=4294967296) (by decide) k (n+2) (aa+V) aa A2 (N:=N) (by omega);have hci:=hcr (n+2);have hy1:=Nat.mod_lt (aa/4294967296^(n+2)) (show 0<4294967296 by decide);rw[Nat.div_eq_of_lt Hg,Nat.zero_mod,Nat.add_zero]at ES;simp only[];rw[cE (by rw[cf];omega),cc,hgu,cc,Nat.mod_eq_of_lt (a:=aa/4294967296^(n+2)%4294967296) (b:=18446744073709551616) (by omega),k8 _ _ (by omega),cc,cc,fz (by rw[cf];omega),cc,ES,hput,P8 hc3,Vw,hc4,Qc,cE (by rw[cf];omega),cc,fz (by rw[cf];omega),cc,NH (by decide) (by omega),cH (by omega) (by omega)]
  ·
   have hql:A1/4294967296^k/V<4294967296:=by rw[hdg];exact Nat.mod_lt _ (by decide)
   omega
  have abr:4294967296^(n+2+1)=4294967296^(n+2)*4294967296:=Nat.pow_succ ..;have:4294967296*V<4294967296*4294967296^(n+2):=Nat.mul_lt_mul_of_pos_left Hg (by decide);rw[abr];omega
 ·rw[show K+1-(K+1)=0 by omega,Nat.pow_zero,Nat.mul_one,Nat.mul_one,Nat.div_one,show decide (0<=(K:Int)-((K+1:Nat):Int))=false by simp;omega,iz]
 obtain⟨R,hR⟩:∃R,Va%Vb=R:=⟨_,Y⟩;rw[arQ,hR];have arW:R<4294967296^(n+2):=by rw[<-hR];exact Nat.lt_trans (Nat.mod_lt _ hb0) ahk
 rw[yt (by decide) (by omega),cc];refine bG (λi=>((i:Int),gC 4294967296 (n+2) (R%4294967296^i))) (n+2) (gC 4294967296 (n+2) R) ?_ (λi hi=>?_) ?_ Y
 ·rw[Nat.pow_zero,Nat.mod_one,y7];rfl
 ·obtain⟨e,he⟩:∃e,4294967296=D*e:=⟨2^(32-s),by rw[<-hD,<-Nat.pow_add,show s+(32-s)=32 by omega,two32]⟩;have YG:=abq (R:=R) (i:=i) hp2 he;obtain⟨u,hu⟩:∃u,R*D/4294967296^i%4294967296=u:=⟨_,Y⟩;obtain⟨w,hw⟩:∃w,R*D/4294967296^(i+1)%4294967296=w:=⟨_,Y⟩;have hu1:u<4294967296:=by rw[<-hu];exact Nat.mod_lt _ (by decide)
  have hw1:w<4294967296:=by rw[<-hw];exact Nat.mod_lt _ (by decide)
  rw[hu,hw]at YG;simp only[show decide ((i:Int)<((n+2:Nat):Int))=true by simp;omega,gS];rw[cE (by rw[cf];omega),cc,uD (by omega),cc,hu,bM (by omega),cE (by rw[cf];omega),cc,uD (by omega),cc,hw,Nat.mod_eq_of_lt (a:=u) (by omega),Nat.mod_eq_of_lt (a:=w) (by omega),two32,Nat.mod_eq_of_lt (a:=w*4294967296) (by omega),Nat.or_comm,TF hu1,Nat.mod_eq_of_lt (a:=w*4294967296+u) (by omega),show min s 64=s by omega,hD,YG,cE (by rw[cf];omega),cc,fz (by rw[cf];omega),cc];rw[ahj (by decide) hi]
 rw[Nat.mod_eq_of_lt arW];simp
end
section
open Go.Fw
def sv(n:Bool)(v:Nat):Int:=bif n then-(v:Int)else v
def zi(z:Zr):Int:=sv z.neg (vl z.w)
def zn(i:Int):Zr:=⟨decide (i<0),can 4294967296 i.natAbs⟩
def Wl(z:Zr):Prop:=(∀x∈z.w,x<4294967296)/\z.w.length<=10000000000
def Fit(L:Nat)(i:Int):Prop:=i.natAbs<4294967296^L
theorem YH(n:Bool)(v:Nat):(sv n v).natAbs=v:=by cases n<;>simp[sv]
theorem BH(z:Zr):(zi z).natAbs=vl z.w:=YH _ _
theorem ahm(n:Bool)(v:Nat):decide (sv n v<0)=(n&&v != 0):=by
 cases n
 ·have:¬((v:Int)<0):=by omega
  simp[sv,this]
 rcases v with _|v
 ·simp[sv]
 simp[sv]
theorem w8(n:Bool)(v:Nat):zc n v=zn (sv n v):=by rw[zc,zn,ahm,YH]
theorem abt(i:Int):sv (decide (i<0)) i.natAbs=i:=by
 by_cases h:i<0
 ·rw[show decide (i<0)=true by simp[h]];simp[sv];omega
 rw[show decide (i<0)=false by simp[h]];simp[sv];omega
theorem gp(i:Int):zi (zn i)=i:=by
 show sv (decide (i<0)) (vl (can 4294967296 i.natAbs))=i;rw[show vl (can 4294967296 i.natAbs)=i.natAbs from oM (by decide) _,abt]
theorem JR(n:Bool)(v:Nat):sv (!n) v=-sv n v:=by cases n<;>simp[sv]
theorem oq(v:Nat):sv false v=v:=rfl
theorem Fit.mono{L M:Nat}{i:Int}(h:Fit L i)(hl:L<=M):Fit M i:=Nat.lt_of_lt_of_le h (Nat.pow_le_pow_right (by decide) hl)
theorem Fit.neg{L:Nat}{i:Int}(h:Fit L i):Fit L (-i):=by unfold Fit at*;rw[Int.natAbs_neg];exact h
theorem Fit.add{L:Nat}{i j:Int}(h:Fit L i)(h':Fit L j):Fit (L+1) (i+j):=by
 unfold Fit at*;have:=Int.natAbs_add_le i j;rw[Nat.pow_succ];omega
theorem Fit.sub{L:Nat}{i j:Int}(h:Fit L i)(h':Fit L j):Fit (L+1) (i-j):=by
 rw[Int.sub_eq_add_neg];exact h.add h'.neg
theorem Fit.mul{L M:Nat}{i j:Int}(h:Fit L i)(h':Fit M j):Fit (L+M) (i*j):=by
 unfold Fit at*;rw[Int.natAbs_mul,Nat.pow_add];exact Nat.mul_lt_mul'' h h'
theorem Fit.i64{i:Int}(h: -9223372036854775808<=i)(h':i<=9223372036854775807):Fit 2 i:=by
 unfold Fit;rw[show(4294967296:Nat)^2=18446744073709551616 by decide];omega
theorem Fit.le{L:Nat}{i j:Int}(h:Fit L i)(h':j.natAbs<=i.natAbs):Fit L j:=Nat.lt_of_le_of_lt h' h
theorem gu{L:Nat}{i:Int}(h:Fit L i)(hL:L<=10000000000):Wl (zn i):=
 ⟨λ_ hx=>ja (by decide) hx,Nat.le_trans ((cD (by decide)).2 h) hL⟩
theorem Wl.fit{z:Zr}(h:Wl z):Fit z.w.length (zi z):=by
 unfold Fit;rw[BH];exact jt z.w h.1
theorem Wl.lt{z:Zr}(h:Wl z):vl z.w<4294967296^z.w.length:=jt z.w h.1
theorem Wl.cl{z:Zr}(h:Wl z):(can 4294967296 (vl z.w)).length<=10000000000:=
 Nat.le_trans ((cD (by decide)).2 (Wl.lt h)) h.2
theorem Wl.trim{z:Zr}(h:Wl z):bO z.w=some (can 4294967296 (vl z.w)):=by
 rw[HN _ (by have:=h.2;omega),om (by decide) h.1]
theorem kQ{v:Nat}(h:(can 4294967296 v).length<=10000000001):ND (can 4294967296 v):=⟨λ_ hx=>ja (by decide) hx,by omega⟩
theorem ig(v:Nat):vl (can 4294967296 v)=v:=oM (by decide) v
theorem jW{v:Nat}:((can 4294967296 v).length:Int)<=2↔v<18446744073709551616:=by
 have:=cD (B:=4294967296) (by decide) (v:=v) (n:=2);rw[show(4294967296:Nat)^2=18446744073709551616 by decide]at this;omega
theorem rT{v:Nat}:((can 4294967296 v).length:Int)<=1↔v<4294967296:=by
 have:=cD (B:=4294967296) (by decide) (v:=v) (n:=1);rw[show(4294967296:Nat)^1=4294967296 by decide]at this;omega
theorem w9{v:Nat}:(can 4294967296 v).length=0↔v=0:=by
 constructor
 ·intro h;exact EA (by decide) (List.length_eq_zero_iff.1 h)
 intro h;rw[h,w7];rfl
theorem EE(l:List Nat)(h:l.length<=1000000000000):gz l=some l:=by
 unfold gz;rw[Ys (by decide) (by simp;omega)];simp
end
section
open Go.Fw
theorem Qd(a b:Nat):decide (Du a b<0)=decide (a<b):=by
 rcases Nat.lt_trichotomy a b with h|h|h
 ·rw[xS h];simp[h]
 ·rw[h,B5];simp
 rw[Ad h];simp;omega
theorem Gx(a b:Nat)(ha:(can 4294967296 a).length<=10000000000)(hb:(can 4294967296 b).length<=10000000000)(h0:b≠0):
  ∃q r,jJ (can 4294967296 a) (can 4294967296 b)=some (q,r)/\ND q/\vl q=a/b/\ND r/\vl r=a%b/\q.length<=10000000001/\r.length<=10000000001:=by
 unfold jJ;rw[pK a b (by omega) (by omega)];simp only[cc];by_cases hlt:a<b
 ·rw[xS hlt];simp only[show decide ((-1:Int)<0)=true by decide,gS];rw[EE _ (by omega)];refine⟨_,_,Y,⟨by simp,by simp⟩,?_,kQ (by omega),?_,by simp,by omega⟩
  ·rw[Nat.div_eq_of_lt hlt];rfl
  rw[ig,Nat.mod_eq_of_lt hlt]
 rw[Qd,show decide (a<b)=false by simp[hlt]];simp only[iz];by_cases h2:a<18446744073709551616
 ·rw[show decide (((can 4294967296 a).length:Int)<=2)=true by rw[decide_eq_true_eq];exact jW.2 h2];have J6:b<18446744073709551616:=by omega
  simp only[gS];have l1:=low_eq (can 4294967296 a) (λ_ hx=>ja (by decide) hx) (by have:=jW.2 h2;omega);have l2:=low_eq (can 4294967296 b) (λ_ hx=>ja (by decide) hx) (by have:=jW.2 J6;omega);rw[ig]at l1 l2;rw[l1,cc,l2,cc,Nw h0 h2,cc,zb _ _ (Nat.lt_of_le_of_lt (Nat.div_le_self _ _) h2),cc,HJ h0,cc,zb _ _ (Nat.lt_of_le_of_lt (Nat.mod_le _ _) h2),cc];have hq:a/b<18446744073709551616:=Nat.lt_of_le_of_lt (Nat.div_le_self _ _) h2;have hr:a%b<18446744073709551616:=Nat.lt_of_le_of_lt (Nat.mod_le _ _) h2;have c1:=jW.2 hq;have c2:=jW.2 hr;exact⟨_,_,Y,kQ (by omega),ig _,kQ (by omega),ig _,by show(can _ _).length<=_;omega,by show(can _ _).length<=_;omega⟩
 rw[show decide (((can 4294967296 a).length:Int)<=2)=false by rw[decide_eq_false_iff_not];exact λh=>h2 (jW.1 h)];simp only[iz];have Cu:(can 4294967296 b).length≠0:=λh=>h0 (w9.1 h);by_cases h1:b<4294967296
 ·have h1':=rT.2 h1;rw[show decide (((can 4294967296 b).length:Int)=1)=true by simp;omega,gS];have hg:(can 4294967296 b)[0]? =some b:=by rw[B3 (by decide) (by omega)];simp;exact h1
  rw[EE _ (by omega),cc,B0 hg,cc,Nat.mod_eq_of_lt (b:=18446744073709551616) (by omega),P7 _ _ (kQ (by omega)) (by omega) (by omega),cc,ig];simp only[];rw[y5 (by rw[cf]),cc];have hm:a%b<b:=Nat.mod_lt _ (by omega);rw[Nat.mod_eq_of_lt (a:=a%b) (by omega)];refine⟨_,_,Y,⟨λx hx=>uW (by decide) _ _ _ hx,by rw[cf];omega⟩,?_,⟨?_,by simp⟩,?_,by rw[cf];omega,by simp⟩
  ·show val _ _=_;rw[rS,Nat.mod_eq_of_lt (Nat.lt_of_le_of_lt (Nat.div_le_self _ _) (c6 (by decide) a))]
  ·intro x hx;simp at hx;omega
  simp[vl,val]
 have h1':¬(((can 4294967296 b).length:Int)<=1):=λh=>h1 (rT.1 h);rw[show decide (((can 4294967296 b).length:Int)=1)=false by simp;omega,iz];obtain⟨n,hn⟩:∃n,(can 4294967296 b).length=n+2:=⟨(can 4294967296 b).length-2,by omega⟩;have hl:(can 4294967296 b).length<=(can 4294967296 a).length:=(cD (by decide)).2 (Nat.lt_of_le_of_lt (by omega) (c6 (by decide) a));obtain⟨l,x,hx,he⟩:=P5 (B:=4294967296) (by decide) h0;have Sl:(can 4294967296 b)[n+1]? ≠some 0:=by
  have:l.length=n+1:=by rw[he]at hn;simp at hn;omega
  rw[he,<-this];simp;exact hx
 rw[Sn _ _ (kQ (by omega)) (kQ (by omega)) hn hl Sl,cc,ig,ig];have hbp:0<b:=by omega
 have e1:a<4294967296^(can 4294967296 a).length:=c6 (by decide) a;have e2:b<4294967296^(can 4294967296 b).length:=c6 (by decide) b;have e3:4294967296^(n+1)<=b:=yu (by decide) (by omega);refine⟨_,_,Y,⟨λx hx=>uW (by decide) _ _ _ hx,by rw[cf];omega⟩,?_,⟨λx hx=>uW (by decide) _ _ _ hx,by rw[cf];omega⟩,?_,by rw[cf];omega,by rw[cf];omega⟩
 ·show val _ _=_;rw[rS,Nat.mod_eq_of_lt];rw[Nat.div_lt_iff_lt_mul hbp];have:4294967296^((can 4294967296 a).length-(can 4294967296 b).length+1)*4294967296^(n+1)=4294967296^(can 4294967296 a).length:=by rw[<-Nat.pow_add];congr 1;omega
  calc a<4294967296^((can 4294967296 a).length-(can 4294967296 b).length+1)*4294967296^(n+1):=by rw[this];exact e1
   _<=_:=Nat.mul_le_mul_left _ e3
 show val _ _=_;rw[rS,Nat.mod_eq_of_lt (Nat.lt_trans (Nat.mod_lt _ hbp) e2)]
end
section
open Go.Fw
theorem sQ{x:Int}(h1: -9223372036854775808<=x)(h2:x<=9223372036854775807):cW x=some (zn x):=by
 unfold cW;simp only[cc,cJ];by_cases hx:x<0
 ·have e:(x%18446744073709551616).toNat=18446744073709551616-x.natAbs:=by omega
  rw[show decide (x<0)=true by simp[hx],gS,e,Ey (by omega) (by omega),show 18446744073709551616+0-(18446744073709551616-x.natAbs)=x.natAbs by omega,zb _ _ (by omega),cc,w8,show sv true x.natAbs=x by simp[sv];omega]
 have e:(x%18446744073709551616).toNat=x.natAbs:=by omega
 rw[show decide (x<0)=false by simp[hx],iz,e,zb _ _ (by omega),cc,w8,show sv false x.natAbs=x by simp[sv];omega]
def gD(i:Int):Prop:=-9223372036854775808<=i/\i<=9223372036854775807
instance(i:Int):Decidable (gD i):=by unfold gD;infer_instance
def BI(i:Int):Int×Bool:=if gD i then(i,true)else(0,false)
theorem xb{z:Zr}(h:Wl z):fu z=some (BI (zi z)):=by
 obtain⟨n,w⟩:=z;unfold fu;have ht:=h.trim;have arX:vl w<18446744073709551616->fG (can 4294967296 (vl w))=some (vl w):=λh2=>by
  rw[low_eq _ (λ_ hx=>ja (by decide) hx) (by have:=jW.2 h2;omega),ig]
 show(bO w).bind _=some (BI (sv n (vl w)));rw[show bO w=some (can 4294967296 (vl w))from ht];simp only[cc];generalize vl w=v at*;by_cases h2:v<18446744073709551616
 ·have:=jW.2 h2;rw[show decide ((2:Int)<((can 4294967296 v).length:Int))=false by simp;omega,iz,arX h2,cc];cases n
  ·rw[iz,oq];by_cases h3:v<9223372036854775808
   ·rw[show decide (9223372036854775808<=v)=false by simp;omega,iz,j1 (by omega),BI,if_pos (by unfold gD;omega)]
   rw[show decide (9223372036854775808<=v)=true by simp;omega,gS,BI,if_neg (by unfold gD;omega)]
  rw[gS,show sv true v=-(v:Int)from rfl];by_cases h3:9223372036854775808<v
  ·rw[show decide (9223372036854775808<v)=true by simp;omega,gS,BI,if_neg (by unfold gD;omega)]
  rw[show decide (9223372036854775808<v)=false by simp;omega,iz,BI,if_pos (by unfold gD;omega)];by_cases h0:v=0
  ·subst h0;rfl
  rw[Ey (by omega) (by omega)];rw[show IntKind.i64.wrap ((18446744073709551616+0-v:Nat):Int)=-(v:Int) by
   rw[IntKind.wrap];simp[IntKind.signed,IntKind.bits];omega]
 have:¬(((can 4294967296 v).length:Int)<=2):=λh=>h2 (jW.1 h);rw[show decide ((2:Int)<((can 4294967296 v).length:Int))=true by simp;omega,gS,BI,if_neg (by unfold gD;cases n<;>simp[sv]<;>omega)]
theorem sign_eq{z:Zr}(h:Wl z):dW z=some (zi z).sign:=by
 obtain⟨n,w⟩:=z;unfold dW;show(bO w).bind _=some (sv n (vl w)).sign;rw[show bO w=some (can 4294967296 (vl w))from h.trim];simp only[cc];generalize vl w=v;by_cases h0:v=0
 ·subst h0;cases n<;>rfl
 have:(can 4294967296 v).length≠0:=λh=>h0 (w9.1 h);rw[show decide (((can 4294967296 v).length:Int)=0)=false by simp;intro e;rw[e]at this;exact this Y,iz];cases n
 ·rw[iz,oq,Int.sign_eq_one_of_pos (by omega)]
 rw[gS,show sv true v=-(v:Int)from Y,Int.sign_eq_neg_one_of_neg (by omega)]
def qc(i j:Int):Int:=if i<j then-1 else if i=j then 0 else 1
theorem lC{i j:Int}(h:i<j):qc i j=-1:=by simp[qc,h]
theorem lD{i j:Int}(h:j<i):qc i j=1:=by
 have h1:¬i<j:=by omega
 have h2:¬i=j:=by omega
 simp[qc,h1,h2]
theorem vR(i:Int):qc i i=0:=by simp[qc]
theorem JS(v w:Nat):Du v w=qc (v:Int) (w:Int):=by
 rcases Nat.lt_trichotomy v w with h|h|h
 ·rw[xS h,lC (by omega)]
 ·rw[h,B5,vR]
 rw[Ad h,lD (by omega)]
theorem Qe(i j:Int):qc (-i) (-j)=qc j i:=by
 rcases Int.lt_trichotomy i j with h|h|h
 ·rw[lD h,lD (by omega)]
 ·rw[h,vR,vR]
 rw[lC h,lC (by omega)]
theorem ahn{x y:Zr}(hx:Wl x)(hy:Wl y):tN x y=some (qc (zi x) (zi y)):=by
 obtain⟨n,w⟩:=x;obtain⟨m,u⟩:=y;unfold tN;show(dW ⟨n,w⟩).bind _=_;rw[sign_eq hx,cc];show(dW ⟨m,u⟩).bind _=_;rw[sign_eq hy,cc,show bO w=some (can 4294967296 (vl w))from hx.trim,show bO u=some (can 4294967296 (vl u))from hy.trim];simp only[cc];rw[pK _ _ (Nat.le_trans hx.cl (by decide)) (Nat.le_trans hy.cl (by decide)),pK _ _ (Nat.le_trans hy.cl (by decide)) (Nat.le_trans hx.cl (by decide))];simp only[cc];rw[show zi ⟨n,w⟩=sv n (vl w)from Y,show zi ⟨m,u⟩=sv m (vl u)from rfl];generalize vl w=a;generalize vl u=b;rw[JS,JS];obtain⟨i,hi⟩:∃i,sv n a=i:=⟨_,Y⟩;obtain⟨j,hj⟩:∃j,sv m b=j:=⟨_,Y⟩;have hia:(i<0->i=-(a:Int))/\(0<=i->i=a):=by rw[<-hi];cases n<;>simp[sv]<;>omega
 have hjb:(j<0->j=-(b:Int))/\(0<=j->j=b):=by rw[<-hj];cases m<;>simp[sv]<;>omega
 rw[hi,hj];rcases Int.lt_trichotomy i 0 with h1|h1|h1<;>rcases Int.lt_trichotomy j 0 with h2|h2|h2
 ·rw[Int.sign_eq_neg_one_of_neg h1,Int.sign_eq_neg_one_of_neg h2,hia.1 h1,hjb.1 h2,Qe];rfl
 ·rw[Int.sign_eq_neg_one_of_neg h1,show Int.sign j=0 by rw[h2];rfl,show qc i j=-1 from lC (by omega)];rfl
 ·rw[Int.sign_eq_neg_one_of_neg h1,Int.sign_eq_one_of_pos h2,show qc i j=-1 from lC (by omega)];rfl
 ·rw[show Int.sign i=0 by rw[h1];rfl,Int.sign_eq_neg_one_of_neg h2,show qc i j=1 from lD (by omega)];rfl
 ·rw[show Int.sign i=0 by rw[h1];rfl,show Int.sign j=0 by rw[h2];rfl,<-hia.2 (by omega),<-hjb.2 (by omega)];rfl
 ·rw[show Int.sign i=0 by rw[h1];rfl,Int.sign_eq_one_of_pos h2,show qc i j=-1 from lC (by omega)];rfl
 ·rw[Int.sign_eq_one_of_pos h1,Int.sign_eq_neg_one_of_neg h2,show qc i j=1 from lD (by omega)];rfl
 ·rw[Int.sign_eq_one_of_pos h1,show Int.sign j=0 by rw[h2];rfl,show qc i j=1 from lD (by omega)];rfl
 rw[Int.sign_eq_one_of_pos h1,Int.sign_eq_one_of_pos h2,<-hia.2 (by omega),<-hjb.2 (by omega)];rfl
theorem neg_eq{x:Zr}(hx:Wl x):jx x=some (zn (-zi x)):=by
 obtain⟨n,w⟩:=x;unfold jx;have hc:(can 4294967296 (vl w)).length<=10000000000:=hx.cl;simp only[cc];rw[show bO w=some (can 4294967296 (vl w))from hx.trim,cc,EE _ (by omega),cc,o9 _ _ (kQ (by omega)),cc,ig,w8,JR];rfl
end
section
open Go.Fw
theorem EF(n m:Bool)(a b:Nat)(ha:(can 4294967296 a).length<=10000000000)(hb:(can 4294967296 b).length<=10000000000):
  eW n (can 4294967296 a) m (can 4294967296 b)=some (zn (sv n a+sv m b)):=by
 have la:=c6 (B:=4294967296) (by decide) a;have lb:=c6 (B:=4294967296) (by decide) b;unfold eW;simp only[cc];by_cases hnm:n=m
 ·subst hnm;rw[show(n==n)=true by simp,gS,Gv _ _ (kQ (by omega)) (kQ (by omega)),cc,ig,ig,o9 _ _ ⟨λx hx=>uW (by decide) _ _ _ hx,by rw[cf];omega⟩,cc];have hv:vl (gC 4294967296 (max (can 4294967296 a).length (can 4294967296 b).length+1) (a+b))=a+b:=by
   show val _ _=_;rw[rS,Nat.mod_eq_of_lt];have h1:a<4294967296^(max (can 4294967296 a).length (can 4294967296 b).length):=Nat.lt_of_lt_of_le la (Nat.pow_le_pow_right (by decide) (by omega));have h2:b<4294967296^(max (can 4294967296 a).length (can 4294967296 b).length):=Nat.lt_of_lt_of_le lb (Nat.pow_le_pow_right (by decide) (by omega));rw[Nat.pow_succ];omega
  rw[hv,w8,show sv n (a+b)=sv n a+sv n b by cases n<;>simp[sv];omega]
 rw[show(n==m)=false by simp[hnm],iz,pK _ _ (by omega) (by omega),cc,Qd];have hm:m= !n:=by cases n<;>cases m<;>simp_all
 subst hm;have hv:∀c d,d<=c->(can 4294967296 c).length<=10000000000->eG (can 4294967296 c) (can 4294967296 d)=some (gC 4294967296 (can 4294967296 c).length (c-d))/\vl (gC 4294967296 (can 4294967296 c).length (c-d))=c-d:=by
  intro c d hdc uF;have lc:=c6 (B:=4294967296) (by decide) c;have hdl:(can 4294967296 d).length<=(can 4294967296 c).length:=(cD (by decide)).2 (by omega);constructor
  ·rw[Gw _ _ (kQ (by omega)) (kQ (by omega)) hdl (by rw[ig,ig];exact hdc),ig,ig]
  show val _ _=_;rw[rS,Nat.mod_eq_of_lt (by omega)]
 by_cases hlt:a<b
 ·obtain⟨h1,h2⟩:=hv b a (by omega) hb;rw[show decide (a<b)=true by simp[hlt],gS,h1,cc,o9 _ _ ⟨λx hx=>uW (by decide) _ _ _ hx,by rw[cf];omega⟩,cc,h2,w8,show sv (!n) (b-a)=sv n a+sv (!n) b by cases n<;>simp[sv]<;>omega]
 obtain⟨h1,h2⟩:=hv a b (by omega) ha;rw[show decide (a<b)=false by simp[hlt],iz,h1,cc,o9 _ _ ⟨λx hx=>uW (by decide) _ _ _ hx,by rw[cf];omega⟩,cc,h2,w8,show sv n (a-b)=sv n a+sv (!n) b by cases n<;>simp[sv]<;>omega]
theorem TI(v:BitVec 64):IntKind.i64.wrap (v.toNat:Int)=v.toInt:=by
 rw[BitVec.toInt_eq_toNat_cond];have:=v.isLt;rw[show(2:Nat)^64=18446744073709551616 by decide]at this⊢;split
 ·rw[j1 (by omega)]
 rw[IntKind.wrap];simp[IntKind.signed,IntKind.bits];omega
theorem TJ(v:BitVec 64):BitVec.ofInt 64 (IntKind.i64.wrap (v.toNat:Int))=v:=by rw[TI,BitVec.ofInt_toInt]
theorem FU{x:Int}(h:gD x):(BitVec.ofInt 64 x).msb=decide (x<0):=by
 rw[BitVec.msb_eq_toInt,BitVec.toInt_ofInt];unfold gD at h;have:x.bmod (2^64)=x:=by
  rw[Int.bmod_def];simp only[show((2^64:Nat):Int)=18446744073709551616 by decide];split<;>omega
 rw[this]
theorem LY(v:BitVec 64):decide ((0:Int)<=IntKind.i64.wrap (v.toNat:Int))= !v.msb:=by
 rw[TI,BitVec.msb_eq_toInt];by_cases h:v.toInt<0
 ·simp[h]
 simp[h];omega
theorem ze(x:Int):gD (IntKind.i64.wrap x):=by
 unfold gD;rw[IntKind.wrap];simp[IntKind.signed,IntKind.bits];split<;>omega
theorem EG{α:Type}(b:Bool)(x:α):(bif b then x else x)=x:=by cases b<;>rfl
theorem mY{i:Int}(h:gD i):BI i=(i,true):=if_pos h
theorem xd{i:Int}(h:¬gD i):BI i=(0,false):=if_neg h
theorem add_eq{x y:Zr}(hx:Wl x)(hy:Wl y):tK x y=some (zn (zi x+zi y)):=by
 obtain⟨n,w⟩:=x;obtain⟨m,u⟩:=y;unfold tK;simp only[xb hx,xb hy,cc,cJ];have hK:((bO w).bind λyH=>(bO u).bind λyI=>(eW n yH m yI).bind λx=>some x)=some (zn (zi ⟨n,w⟩+zi ⟨m,u⟩)):=by
  rw[show bO w=some (can 4294967296 (vl w))from hx.trim,show bO u=some (can 4294967296 (vl u))from hy.trim,cc,cc,EF _ _ _ _ hx.cl hy.cl,cc];rfl
 have hK':((bO w).bind λyH=>(bO u).bind λyI=>(eW n yH m yI).bind λx=>some ⟨x.neg,x.w⟩)=some (zn (zi ⟨n,w⟩+zi ⟨m,u⟩)):=hK;rw[hK'];generalize zi ⟨n,w⟩=i;generalize zi ⟨m,u⟩=j;by_cases h1:gD i
 ·by_cases h2:gD j
  ·rw[mY h1,mY h2,gS,cc,gS,TJ,TJ,LY,BitVec.msb_and,BitVec.msb_xor,BitVec.msb_xor,FU h1,FU h2,FU (ze _),sQ (ze _).1 (ze _).2,cc];by_cases hr:gD (i+j)
   ·rw[cH hr.1 hr.2];exact EG _ _
   have:(!((decide (i<0)^^decide (IntKind.i64.wrap (i+j)<0))&&(decide (j<0)^^decide (IntKind.i64.wrap (i+j)<0))))=false:=by
    unfold gD at*;by_cases hs:i<0
    ·have e:IntKind.i64.wrap (i+j)=i+j+18446744073709551616:=by rw[IntKind.wrap];simp[IntKind.signed,IntKind.bits];omega
     rw[e,show decide (i<0)=true by simp[hs],show decide (j<0)=true by simp;omega,show decide (i+j+18446744073709551616<0)=false by simp;omega];rfl
    have e:IntKind.i64.wrap (i+j)=i+j-18446744073709551616:=by rw[IntKind.wrap];simp[IntKind.signed,IntKind.bits];omega
    rw[e,show decide (i<0)=false by simp[hs],show decide (j<0)=false by simp;omega,show decide (i+j-18446744073709551616<0)=true by simp;omega];rfl
   rw[this,iz]
  rw[mY h1,xd h2,gS,cc,iz]
 rw[xd h1,iz,cc,iz]
theorem sub_eq{x y:Zr}(hx:Wl x)(hy:Wl y):tL x y=some (zn (zi x-zi y)):=by
 obtain⟨n,w⟩:=x;obtain⟨m,u⟩:=y;unfold tL;simp only[xb hx,xb hy,cc,cJ];have hK':((bO w).bind λyH=>(bO u).bind λyI=>(eW n yH (!m) yI).bind λx=>some ⟨x.neg,x.w⟩)=some (zn (zi ⟨n,w⟩-zi ⟨m,u⟩)):=by
  rw[show bO w=some (can 4294967296 (vl w))from hx.trim,show bO u=some (can 4294967296 (vl u))from hy.trim,cc,cc,EF _ _ _ _ hx.cl hy.cl,cc,JR,<-Int.sub_eq_add_neg];rfl
 rw[hK'];generalize zi ⟨n,w⟩=i;generalize zi ⟨m,u⟩=j;by_cases h1:gD i
 ·by_cases h2:gD j
  ·rw[mY h1,mY h2,gS,cc,gS,TJ,TJ,LY,BitVec.msb_and,BitVec.msb_xor,BitVec.msb_xor,FU h1,FU h2,FU (ze _),sQ (ze _).1 (ze _).2,cc];by_cases hr:gD (i-j)
   ·rw[cH hr.1 hr.2];exact EG _ _
   have:(!((decide (i<0)^^decide (j<0))&&(decide (i<0)^^decide (IntKind.i64.wrap (i-j)<0))))=false:=by
    unfold gD at*;by_cases hs:i<0
    ·have e:IntKind.i64.wrap (i-j)=i-j+18446744073709551616:=by rw[IntKind.wrap];simp[IntKind.signed,IntKind.bits];omega
     rw[e,show decide (i<0)=true by simp[hs],show decide (j<0)=false by simp;omega,show decide (i-j+18446744073709551616<0)=false by simp;omega];rfl
    have e:IntKind.i64.wrap (i-j)=i-j-18446744073709551616:=by rw[IntKind.wrap];simp[IntKind.signed,IntKind.bits];omega
    rw[e,show decide (i<0)=false by simp[hs],show decide (j<0)=true by simp;omega,show decide (i-j-18446744073709551616<0)=true by simp;omega];rfl
   rw[this,iz]
  rw[mY h1,xd h2,gS,cc,iz]
 rw[xd h1,iz,cc,iz]
theorem So(n m:Bool)(a b:Nat):sv (!(n==m)) (a*b)=sv n a*sv m b:=by
 cases n<;>cases m<;>simp[sv,Int.neg_mul,Int.mul_neg]
theorem mul_eq{x y:Zr}(hx:Wl x)(hy:Wl y):dU x y=some (zn (zi x*zi y)):=by
 obtain⟨n,w⟩:=x;obtain⟨m,u⟩:=y;unfold dU;have hcx:(can 4294967296 (vl w)).length<=10000000000:=hx.cl;have hcy:(can 4294967296 (vl u)).length<=10000000000:=hy.cl;simp only[];rw[show bO w=some (can 4294967296 (vl w))from hx.trim,show bO u=some (can 4294967296 (vl u))from hy.trim,cc,cc,show zi ⟨n,w⟩=sv n (vl w)from Y,show zi ⟨m,u⟩=sv m (vl u)from rfl];simp only[cc,cJ];generalize vl w=a at*;generalize vl u=b at*;have la:=c6 (B:=4294967296) (by decide) a;have lb:=c6 (B:=4294967296) (by decide) b;have hK:((jI (can 4294967296 a) (can 4294967296 b)).bind λyg=>(dx (!(n==m)) yg).bind λx=>some ⟨x.neg,x.w⟩)=some (zn (sv n a*sv m b)):=by
  rw[P6 _ _ (kQ (by omega)) (kQ (by omega)),cc,ig,ig,o9 _ _ ⟨λx hx=>uW (by decide) _ _ _ hx,by rw[cf];omega⟩,cc,w8];have hv:vl (gC 4294967296 ((can 4294967296 a).length+(can 4294967296 b).length) (a*b))=a*b:=by
   show val _ _=_;rw[rS,Nat.mod_eq_of_lt];rw[Nat.pow_add];exact Nat.mul_lt_mul'' la lb
  rw[hv,So]
 rw[hK];by_cases h1:a<4294967296
 ·by_cases h2:b<4294967296
  ·have l1:=low_eq (can 4294967296 a) (λ_ hx=>ja (by decide) hx) (by have:=rT.2 h1;omega);have l2:=low_eq (can 4294967296 b) (λ_ hx=>ja (by decide) hx) (by have:=rT.2 h2;omega);rw[ig]at l1 l2;have hlt:a*b<18446744073709551616:=Nat.mul_lt_mul'' h1 h2;rw[show decide (((can 4294967296 a).length:Int)<=1)=true by rw[decide_eq_true_eq];exact rT.2 h1,gS,cc,show decide (((can 4294967296 b).length:Int)<=1)=true by rw[decide_eq_true_eq];exact rT.2 h2,gS,l1,l2,cc,cc,Nat.mod_eq_of_lt hlt,zb _ _ hlt,cc,w8,So]
  rw[show decide (((can 4294967296 a).length:Int)<=1)=true by rw[decide_eq_true_eq];exact rT.2 h1,gS,cc,show decide (((can 4294967296 b).length:Int)<=1)=false by rw[decide_eq_false_iff_not];exact λh=>h2 (rT.1 h),iz]
 rw[show decide (((can 4294967296 a).length:Int)<=1)=false by rw[decide_eq_false_iff_not];exact λh=>h1 (rT.1 h),iz,cc,iz]
end
section
open Go.Fw
theorem YI(n m:Bool){a b:Nat}(hb:0<b):
  sv n a/sv m b=(if n=true/\0<a%b then sv (!(n==m)) (a/b+1)else sv (!(n==m)) (a/b))/\
  sv n a%sv m b=(if n=true/\0<a%b then((b-a%b:Nat):Int)else((a%b:Nat):Int)):=by
 have hd:=Nat.div_add_mod a b;have hm:=Nat.mod_lt a hb
 revert hd hm
 generalize a/b=q;generalize a%b=r;intro hd hm;have hd':(b:Int)*q+r=a:=by exact_mod_cast hd
 have pos:∀n,sv n a/(b:Int)=(if n=true/\0<r then sv n (q+1)else sv n q)/\sv n a%(b:Int)=(if n=true/\0<r then((b-r:Nat):Int)else(r:Int)):=by
  intro n;apply(Int.ediv_emod_unique (by omega)).2;cases n
  ·simp[sv];omega
  by_cases hr:0<r
  ·simp only[hr,and_self,if_true,sv,cond_true];have:(b:Int)* -((q+1:Nat):Int)=-((b:Int)*q)-b:=by
    rw[Int.mul_neg,Int.natCast_add,Int.mul_add];simp;omega
   rw[this];omega
  have:r=0:=by omega
  subst this;simp[sv,Int.mul_neg];omega
 cases m
 ·have:=pos n;rw[oq,show(!(n==false))=n by cases n<;>rfl];exact this
 have:=pos n;rw[show sv true b=-(b:Int)from rfl,Int.ediv_neg,Int.emod_neg,this.1,this.2,show(!(n==true))= !n by cases n<;>rfl,JR,JR];refine⟨?_,Y⟩;split<;>rfl
theorem aho{a b:Nat}(hba:b<=a)(uF:(can 4294967296 a).length<=10000000000):eG (can 4294967296 a) (can 4294967296 b)=some (gC 4294967296 (can 4294967296 a).length (a-b))/\vl (gC 4294967296 (can 4294967296 a).length (a-b))=a-b:=by
 have lc:=c6 (B:=4294967296) (by decide) a;have hdl:(can 4294967296 b).length<=(can 4294967296 a).length:=(cD (by decide)).2 (by omega);constructor
 ·rw[Gw _ _ (kQ (by omega)) (kQ (by omega)) hdl (by rw[ig,ig];exact hba),ig,ig]
 show val _ _=_;rw[rS,Nat.mod_eq_of_lt (by omega)]
def Qf(i j:Int):Zr×Zr×Int:=if j=0 then(⟨false,[]⟩,⟨false,[]⟩,7)else(zn (i/j),zn (i%j),0)
theorem divMod_eq{x y:Zr}(hx:Wl x)(hy:Wl y):iD x y=some (Qf (zi x) (zi y)):=by
 obtain⟨n,w⟩:=x;obtain⟨m,u⟩:=y;unfold iD;have hcx:(can 4294967296 (vl w)).length<=10000000000:=hx.cl;have hcy:(can 4294967296 (vl u)).length<=10000000000:=hy.cl;simp only[];rw[show bO w=some (can 4294967296 (vl w))from hx.trim,show bO u=some (can 4294967296 (vl u))from hy.trim,cc,cc,show zi ⟨n,w⟩=sv n (vl w)from Y,show zi ⟨m,u⟩=sv m (vl u)from rfl];simp only[cc,cJ];generalize vl w=a at*;generalize vl u=b at*;by_cases h0:b=0
 ·subst h0;rw[show sv m 0=0 by cases m<;>rfl];rfl
 have Cu:(can 4294967296 b).length≠0:=λh=>h0 (w9.1 h);rw[show decide (((can 4294967296 b).length:Int)=0)=false by simp;intro e;rw[e]at Cu;exact Cu Y,iz];obtain⟨q,r,TK,hq1,hq2,hr1,hr2,hq3,hr3⟩:=Gx a b hcx hcy h0;have hm:a%b<b:=Nat.mod_lt _ (by omega);obtain⟨e1,e2⟩:=YI n m (a:=a) (show 0<b by omega);have hj:sv m b≠0:=by cases m<;>simp[sv]<;>omega
 rw[TK,cc];simp only[];rw[HN r (by have:=hr1.2;omega),om (by decide) hr1.1,show val 4294967296 r=a%b from hr2,cc,Qf,if_neg hj,e1,e2];have QD:(can 4294967296 (a%b)).length<=(can 4294967296 b).length:=(cD (by decide)).2 (Nat.lt_trans hm (c6 (by decide) b));have hK:∀c:Bool,(decide (n=true/\0<a%b)=c)->(bif c then(gX q [1]).bind λyg=>(eG (can 4294967296 b) (can 4294967296 (a%b))).bind λpD=>(dx (!(n==m)) yg).bind λx=>(dx false pD).bind λx_1=>some ((⟨x.neg,x.w⟩:Zr),(⟨x_1.neg,x_1.w⟩:Zr),(0:Int))
   else(dx (!(n==m)) q).bind λx=>(dx false (can 4294967296 (a%b))).bind λx_1=>some ((⟨x.neg,x.w⟩:Zr),(⟨x_1.neg,x_1.w⟩:Zr),(0:Int)))=
   some (zn (if n=true/\0<a%b then sv (!(n==m)) (a/b+1)else sv (!(n==m)) (a/b)),zn (if n=true/\0<a%b then((b-a%b:Nat):Int)else((a%b:Nat):Int)),0):=by
  intro c hc;cases c
  ·have YJ:=of_decide_eq_false hc;rw[iz,if_neg YJ,if_neg YJ,o9 _ _ hq1,cc,o9 _ _ (kQ (by omega)),cc,ig,hq2,w8,w8,oq]
  have YJ:=of_decide_eq_true hc;obtain⟨s1,s2⟩:=aho (a:=b) (b:=a%b) (by omega) hcy;have w1:ND [1]:=⟨by simp,by simp⟩;rw[gS,if_pos YJ,if_pos YJ,Gv _ _ hq1 w1,cc,s1,cc,o9 _ _ ⟨λx hx=>uW (by decide) _ _ _ hx,by rw[cf];simp;omega⟩,cc,o9 _ _ ⟨λx hx=>uW (by decide) _ _ _ hx,by rw[cf];omega⟩,cc,s2,w8,w8,oq];have:vl (gC 4294967296 (max q.length [1].length+1) (vl q+vl [1]))=a/b+1:=by
   show val _ _=_;rw[rS,show vl [1]=1 by decide,hq2,Nat.mod_eq_of_lt];have h1:vl q<4294967296^q.length:=jt q hq1.1;rw[hq2]at h1;have h2:4294967296^q.length<=4294967296^(max q.length [1].length):=Nat.pow_le_pow_right (by decide) (by omega);have h3:0<4294967296^(max q.length [1].length):=Nat.pow_pos (by decide);rw[Nat.pow_succ];omega
  rw[this]
 have hz:(0<(can 4294967296 (a%b)).length)↔0<a%b:=by
  have:=w9 (v:=a%b);omega
 cases n
 ·rw[iz,cc];exact hK false (by simp)
 rw[gS,cc];refine hK _ ?_;simp only[true_and];by_cases h:0<a%b
 ·simp[h,hz.2 h]
 have h':¬0<(can 4294967296 (a%b)).length:=λe=>h (hz.1 e);have h'':¬((0:Int)<((can 4294967296 (a%b)).length:Int)):=by omega
 simp only[h,h'',decide_false]
theorem ahq{x y:Zr}(hx:Wl x)(hy:Wl y):qj x y=some (zn (Int.gcd (zi x) (zi y):Int)):=by
 obtain⟨n,w⟩:=x;obtain⟨m,u⟩:=y;unfold qj;have hcx:(can 4294967296 (vl w)).length<=10000000000:=hx.cl;have hcy:(can 4294967296 (vl u)).length<=10000000000:=hy.cl;simp only[];rw[show bO w=some (can 4294967296 (vl w))from hx.trim,show bO u=some (can 4294967296 (vl u))from hy.trim,cc,cc,Int.gcd,BH,BH];show _=some (zn ((Nat.gcd (vl w) (vl u):Nat):Int));generalize vl w=a at*;generalize vl u=b at*;refine iU (λs=>∃c d,s=(can 4294967296 c,can 4294967296 d)/\Nat.gcd c d=Nat.gcd a b/\(can 4294967296 c).length<=10000000000/\(can 4294967296 d).length<=10000000000)
  (λs=>∃c d,s=(can 4294967296 c,can 4294967296 d)/\Nat.gcd c d=Nat.gcd a b/\(can 4294967296 c).length<=10000000000/\(d=0\/(c<18446744073709551616/\d<18446744073709551616))) (λs=>vl s.2) ?_ ⟨a,b,Y,Y,hcx,hcy⟩ ?_
 ·rintro _ ⟨c,d,rfl,hg,hc,hd⟩;simp only[cc,cJ];by_cases h0:d=0
  ·right;subst h0;exact⟨_,Y,c,0,Y,hg,hc,.inl Y⟩
  have Cu:(can 4294967296 d).length≠0:=λh=>h0 (w9.1 h);rw[show decide ((0:Int)<((can 4294967296 d).length:Int))=true by simp;omega,gS];by_cases h2:c<18446744073709551616/\d<18446744073709551616
  ·right;have c1:=jW.2 h2.1;have c2:=jW.2 h2.2;rw[show decide ((2:Int)<((can 4294967296 c).length:Int))=false by simp;omega,iz,show decide ((2:Int)<((can 4294967296 d).length:Int))=false by simp;omega];exact⟨_,Y,c,d,Y,hg,hc,.inr h2⟩
  left;have hm:c%d<d:=Nat.mod_lt _ (by omega);obtain⟨q,r,TK,hq1,hq2,hr1,hr2,-,-⟩:=Gx c d hc hd h0;have DH:((bif decide ((2:Int)<((can 4294967296 c).length:Int))then some true else some (decide ((2:Int)<((can 4294967296 d).length:Int)))):Option Bool)=some true:=by
   by_cases N8:c<18446744073709551616
   ·have hd2:¬d<18446744073709551616:=λh=>h2 ⟨N8,h⟩;have:¬(((can 4294967296 d).length:Int)<=2):=λh=>hd2 (jW.1 h);rw[show decide ((2:Int)<((can 4294967296 d).length:Int))=true by simp;omega];exact EG _ _
   have:¬(((can 4294967296 c).length:Int)<=2):=λh=>N8 (jW.1 h);rw[show decide ((2:Int)<((can 4294967296 c).length:Int))=true by simp;omega,gS]
  rw[DH,cc,cc,gS,TK,cc];simp only[];rw[HN r (by have:=hr1.2;omega),om (by decide) hr1.1,show val 4294967296 r=c%d from hr2,cc];refine⟨_,Y,⟨d,c%d,Y,?_,hd,?_⟩,?_⟩
  ·rw[<-hg,Nat.gcd_comm d,<-Nat.gcd_rec,Nat.gcd_comm]
  ·exact Nat.le_trans ((cD (by decide)).2 (Nat.lt_trans hm (c6 (by decide) d))) hd
  simp only[ig];exact hm
 rintro _ ⟨c,d,rfl,hg,hc,YF⟩;simp only[cc];by_cases h0:d=0
 ·subst h0;rw[show decide (((can 4294967296 0).length:Int)=0)=true by simp[w7],gS,EE _ (by omega),cc,o9 _ _ (kQ (by omega)),cc,ig,w8,oq,<-hg,Nat.gcd_zero_right]
 have h2:=YF.resolve_left h0;have Cu:(can 4294967296 d).length≠0:=λh=>h0 (w9.1 h);have c1:=jW.2 h2.1;have c2:=jW.2 h2.2;rw[show decide (((can 4294967296 d).length:Int)=0)=false by simp;intro e;rw[e]at Cu;exact Cu Y,iz,low_eq _ (λ_ hx=>ja (by decide) hx) (by omega),cc,low_eq _ (λ_ hx=>ja (by decide) hx) (by omega),cc,ig,ig];refine iU (λs=>Nat.gcd s.1 s.2=Nat.gcd a b/\s.1<18446744073709551616/\s.2<18446744073709551616) (λe=>e=Nat.gcd a b/\e<18446744073709551616) (λs=>s.2) ?_ ⟨hg,h2.1,h2.2⟩ ?_
 ·rintro⟨s,t⟩ ⟨i1,i2,i3⟩;simp only at i1 i2 i3⊢;by_cases ht:0<t
  ·left;rw[show decide (0<t)=true by simp[ht],gS,HJ (by omega),cc];refine⟨_,Y,⟨?_,i3,?_⟩,Nat.mod_lt _ ht⟩
   ·rw[<-i1,Nat.gcd_comm t,<-Nat.gcd_rec,Nat.gcd_comm]
   exact Nat.lt_trans (Nat.mod_lt _ ht) i3
  right;rw[show decide (0<t)=false by simp[ht],iz];refine⟨_,Y,?_,i2⟩;rw[<-i1,show t=0 by omega,Nat.gcd_zero_right]
 rintro e ⟨rfl,he⟩;rw[zb _ _ he,cc,w8,oq]
end
section
open Go.Fw
def zl(l:List Nat):List Int:=l.map (λ(n:Nat)=>(n:Int))
theorem fW(l:List Nat):(zl l).length=l.length:=by simp[zl]
theorem Dx{l:List Nat}{i x:Nat}(h:l[i]? =some x):(zl l)[i]? =some (x:Int):=by simp[zl,h]
theorem NI(l k:List Nat):zl (l++k)=zl l++zl k:=by simp[zl]
theorem Sq(x:Nat):zl [x]=[(x:Int)]:=rfl
theorem abu(l:List Nat)(n:Nat):(zl l).take n=zl (l.take n):=by simp[zl,List.map_take]
theorem YK(l:List Nat)(i x:Nat):(zl l).set i (x:Int)=zl (l.set i x):=by simp[zl,List.map_set]
def NJ(l:List Nat):Prop:=(∀x∈l,x<65536)/\l.length<=100000000000
abbrev jM(l:List Nat):Nat:=val 65536 l
theorem ot(l:List Nat)(hl:l.length<=1000000000000):dY (zl l)=some (zl (oh l)):=by
 unfold dY;simp only[cc];refine iU (λy=>∃n:Nat,y=(n:Int)/\n<=l.length/\oh (l.take n)=oh l) (λy=>∃n:Nat,y=(n:Int)/\n<=l.length/\l.take n=oh l) (λy=>y.toNat) ?_ ⟨l.length,by rw[fW],Nat.le_refl _,by rw[List.take_length]⟩ ?_
 ·rintro _ ⟨n,rfl,hn,ht⟩;simp only[cJ];rcases n with _|n
  ·right;refine⟨_,Y,0,Y,by omega,?_⟩;rw[<-ht];rfl
  have hi:∃x,l[n]? =some x:=⟨l[n],by simp⟩;obtain⟨x,hx⟩:=hi;have htk:l.take (n+1)=l.take n++[x]:=by
   rw[List.take_add_one,hx];rfl
  rw[show decide ((0:Int)<((n+1:Nat):Int))=true by rw[decide_eq_true_eq];omega,gS,JH (by omega),bC (Dx hx),cc];by_cases h0:x=0
  ·left;subst h0;rw[show decide (((0:Nat):Int)=0)=true by simp,cc,gS];refine⟨_,Y,⟨n,Y,by omega,?_⟩,by omega⟩;rw[<-ht,htk,w6]
  right;rw[show decide (((x:Nat):Int)=0)=false by simp;omega,cc,iz];refine⟨_,Y,n+1,Y,hn,?_⟩;rw[<-ht,htk,Ab _ h0]
 rintro _ ⟨n,rfl,hn,ht⟩;rw[y4 (by rw[fW];exact hn),cc,abu,ht]
theorem Gy{l:List Nat}(h:∀x∈l,x<65536)(i:Nat):fV (zl l) (i:Int)=some ((jM l/65536^i%65536:Nat):Int):=by
 unfold fV;simp only[cc];rw[fW];by_cases hi:i<l.length
 ·rw[show decide ((i:Int)<(l.length:Int))=true by simp[hi],gS,bC (Dx (pJ h hi)),cc]
 rw[show decide ((i:Int)<(l.length:Int))=false by simp;omega,iz];have:jM l/65536^i=0:=Nat.div_eq_of_lt (Nat.lt_of_lt_of_le (jt l h) (Nat.pow_le_pow_right (by decide) (by omega)));rw[this];rfl
theorem Sr(V k:Nat):gC 65536 (2*k) V++[V/4294967296^k%4294967296%65536,V/4294967296^k%4294967296/65536]=gC 65536 (2*(k+1)) V:=by
 have e:65536^(2*k)=4294967296^k:=by rw[Nat.pow_mul]
 rw[show 2*(k+1)=2*k+1+1 by omega,lY,lY,Nat.pow_succ,e,<-Nat.div_div_eq_div_mul,List.append_assoc];generalize V/4294967296^k=x;rw[show x%4294967296%65536=x%65536 by omega,show x%4294967296/65536=x/65536%65536 by omega];rfl
theorem UZ(w:List Nat)(hw:ND w):cQ w=some (zl (can 65536 (vl w))):=by
 obtain⟨hl,hn⟩:=hw;unfold cQ;refine bG (λi=>((i:Int),zl (gC 65536 (2*i) (vl w)))) w.length (zl (gC 65536 (2*w.length) (vl w))) ?_ (λk hk=>?_) ?_ ?_
 ·rfl
 ·have hg:=pJ hl hk;have hlt:=Nat.mod_lt (val 4294967296 w/4294967296^k) (show 0<4294967296 by decide);have hv:=Sr (vl w) k;simp only[cc];rw[show decide ((k:Int)<(w.length:Int))=true by simp[hk],gS,bC hg,cc,cc,j1 (by omega),j1 (by omega),Ys (by decide) (by rw[fW,cf];simp;omega),cc,bM (by omega)];rw[<-hv,NI];rw[show val 4294967296 w/4294967296^k%4294967296/65536%4294967296=val 4294967296 w/4294967296^k%4294967296/65536 by omega];rfl
 ·simp
 rw[ot _ (by rw[cf];omega),cc,uC (by decide)];rw[Nat.pow_mul];exact jt w hl
theorem Qg(k:Nat):65536^(2*k)=4294967296^k:=by rw[Nat.pow_mul]
theorem Ss(v:Nat):can 4294967296 v=gC 4294967296 (((can 65536 v).length+1)/2) v:=by
 have h1:=c6 (B:=65536) (by decide) v;obtain⟨n,hn⟩:∃n,(can 65536 v).length=n:=⟨_,Y⟩;rw[hn]at h1⊢;have h2:v<4294967296^((n+1)/2):=by
  rw[<-Qg];exact Nat.lt_of_lt_of_le h1 (Nat.pow_le_pow_right (by decide) (by omega))
 rw[Tz (by decide) v];congr 1;have h3:=(cD (B:=4294967296) (by decide)).2 h2;refine Nat.le_antisymm h3 ?_;rcases n with _|n
 ·simp
 have h4:65536^n<=v:=yu (by decide) (by omega);obtain⟨m,hm⟩:∃m,(n+1+1)/2=m+1:=⟨n/2,by omega⟩;rw[hm];rcases Nat.lt_or_ge m (can 4294967296 v).length with h|h
 ·exact h
 have h5:=(cD (B:=4294967296) (by decide)).1 h;rw[<-Qg]at h5;have:65536^(2*m)<=65536^n:=Nat.pow_le_pow_right (by decide) (by omega);omega
theorem of_eq(n:Bool)(l:List Nat)(hl:NJ l):dZ n (zl l)=some (zc n (jM l)):=by
 obtain⟨h,hn⟩:=hl;unfold dZ;rw[ot _ (by omega),cc,om (by decide) h];have hc:(can 65536 (val 65536 l)).length<=l.length:=(cD (by decide)).2 (jt l h);show _=some (zc n (val 65536 l));generalize val 65536 l=v at*;have uF:∀x∈can 65536 v,x<65536:=λ_ hx=>ja (by decide) hx;have hat:=λi=>Gy uF i;refine bG (λi=>(((2*i:Nat):Int),gC 4294967296 i v)) (((can 65536 v).length+1)/2) (can 4294967296 v) ?_ (λk hk=>?_) ?_ ?_
 ·rfl
 ·have a1:=hat (2*k);have a2:=hat (2*k+1);rw[show jM (can 65536 v)=v from oM (by decide) v]at a1 a2;rw[Qg]at a1;rw[Nat.pow_succ,Qg,<-Nat.div_div_eq_div_mul]at a2;simp only[cc];rw[fW,show decide (((2*k:Nat):Int)<((can 65536 v).length:Int))=true by simp;omega,gS,a1,cc,bM (by omega),a2,cc];rw[lY];have e:((((v/4294967296^k%65536:Nat):Int)%4294967296).toNat+(((v/4294967296^k/65536%65536:Nat):Int)%4294967296).toNat*65536%4294967296)%4294967296=v/4294967296^k%4294967296:=by
   generalize v/4294967296^k=x;omega
  rw[e,nq (by decide) (by rw[cf];omega),cc,show((2*k:Nat):Int)+2=((2*(k+1):Nat):Int) by omega,j1 (by omega)]
 ·simp only[cc];rw[fW,show decide (((2*(((can 65536 v).length+1)/2):Nat):Int)<((can 65536 v).length:Int))=false by simp;omega,iz,<-Ss]
 simp only[cJ];rw[zc];have hz:=w9 (v:=v);cases n
 ·rw[iz,cc];rfl
 rw[gS,cc,cc,cc];congr 2;by_cases h0:v=0
 ·rw[h0];rfl
 have:¬(can 4294967296 v).length=0:=λe=>h0 (hz.1 e);rw[show decide ((0:Int)<((can 4294967296 v).length:Int))=true by rw[decide_eq_true_eq];omega,show(true&&v != 0)=true by simp[h0]]
theorem uX(n:Bool)(v:Nat)(hl:(can 65536 v).length<=100000000000):dZ n (zl (can 65536 v))=some (zn (sv n v)):=by
 rw[of_eq n _ ⟨λ_ hx=>ja (by decide) hx,hl⟩,show jM (can 65536 v)=v from oM (by decide) v,w8]
theorem U0{w:List Nat}(hw:∀x∈w,x<4294967296):(can 65536 (vl w)).length<=2*w.length:=by
 apply(cD (by decide)).2;rw[Qg];exact jt w hw
theorem iW{x:Zr}(h:Wl x):cQ x.w=some (zl (can 65536 (zi x).natAbs)):=by
 rw[BH];exact UZ _ ⟨h.1,by have:=h.2;omega⟩
theorem Wl.U1{x:Zr}(h:Wl x):(can 65536 (zi x).natAbs).length<=20000000000:=by
 rw[BH];have:=U0 h.1;have:=h.2;omega
theorem Qh{x:Zr}(h:Wl x):kY x=some (zn (zi x)):=by
 obtain⟨n,w⟩:=x;have h1:=iW h;have h2:=h.U1;unfold kY;simp only[];rw[show cQ w=_ from h1,cc,uX _ _ (by omega),cc,BH];rfl
theorem TL{x y:Zr}(h:x.w.length<=100000000000):∃b,oE x y=some b/\(b=true↔x=y):=by
 obtain⟨n,w⟩:=x;obtain⟨m,u⟩:=y;unfold oE;simp only[cc,cJ];by_cases hnm:n=m
 ·subst hnm;rw[show(!(n==n))=false by simp,iz,cc];by_cases hl:w.length=u.length
  ·rw[show decide ((w.length:Int)≠(u.length:Int))=false by simp[hl],iz];refine mN (λy=>∃i:Nat,y=(i:Int)/\i<=w.length/\w.take i=u.take i) (λe=>(∃c,e=.inl c/\w=u)\/(e=.inr false/\w≠u)) (λy=>w.length-y.toNat) ?_ ⟨0,Y,by omega,Y⟩ ?_
   ·rintro _ ⟨i,rfl,hi,ht⟩;by_cases hlt:i<w.length
    ·have g1:w[i]? =some w[i]:=by simp
     have g2:u[i]? =some (u[i]'(by omega)):=by simp
     rw[show decide ((i:Int)<(w.length:Int))=true by simp[hlt],gS,bC g1,cc,bC g2,cc];by_cases he:w[i]=u[i]'(by omega)
     ·left;rw[show decide (w[i]≠u[i]'(by omega))=false by simp[he],iz,bM (by simp at h;omega)];refine⟨_,Y,⟨i+1,Y,hlt,?_⟩,by omega⟩;rw[List.take_add_one,List.take_add_one,ht,g1,g2,he]
     right;rw[show decide (w[i]≠u[i]'(by omega))=true by simp[he],gS];refine⟨_,Y,.inr ⟨Y,?_⟩⟩;rintro rfl;exact he rfl
    right;rw[show decide ((i:Int)<(w.length:Int))=false by simp;omega,iz];refine⟨_,Y,.inl ⟨_,Y,?_⟩⟩;rw[List.take_of_length_le (by omega),List.take_of_length_le (by omega)]at ht;exact ht
   rintro e (⟨c,rfl,he⟩|⟨rfl,he⟩)
   ·exact⟨true,Y,by simp[he]⟩
   exact⟨false,Y,by simp[he]⟩
  rw[show decide ((w.length:Int)≠(u.length:Int))=true by simp;omega,gS];refine⟨_,Y,?_⟩;simp only[Bool.false_eq_true,false_iff];intro e;have:w=u:=congrArg Zr.w e;exact hl (by rw[this])
 rw[show(!(n==m))=true by simp[hnm],gS,cc,gS];refine⟨_,Y,?_⟩;simp only[Bool.false_eq_true,false_iff];intro e;exact hnm (congrArg Zr.neg e)
theorem from_eq{x:Int}(h:gD x):oF x=some (zn x):=by
 unfold gD at h;have key:∀(v:Nat) (n:Bool),v<18446744073709551616->((kY ⟨n,[v%4294967296%4294967296,v/4294967296%18446744073709551616%4294967296]⟩).bind λx=>some (⟨x.neg,x.w⟩:Zr))=some (zn (sv n v)):=by
  intro v n hv;rw[Qh ⟨by simp;omega,by simp⟩,cc];show some (zn (sv n (vl _)))=_;congr 3;simp only[vl,val];omega
 unfold oF;simp only[cc,cJ];by_cases hx:x<0
 ·have e:(x%18446744073709551616).toNat=18446744073709551616-x.natAbs:=by omega
  rw[show decide (x<0)=true by simp[hx],gS,e,Ey (by omega) (by omega),show 18446744073709551616+0-(18446744073709551616-x.natAbs)=x.natAbs by omega,key _ _ (by omega),show sv true x.natAbs=x by simp[sv];omega]
 have e:(x%18446744073709551616).toNat=x.natAbs:=by omega
 rw[show decide (x<0)=false by simp[hx],iz,e,key _ _ (by omega),show sv false x.natAbs=x by simp[sv];omega]
end
section
open Go.Fw
theorem p9(k:Nat):10^(9*(k+1))=10^(9*k)*1000000000:=by
 rw[show 9*(k+1)=9*k+9 by omega,Nat.pow_add]
end
section
open Go.Fw
def body(s:Zy):Zy:=if s.head?=some 45 then s.tail else s
def dv(s:Zy):Nat:=s.foldl (λa c=>a*10+(c.toNat-48)) 0
def z0:Zr:=⟨false,[]⟩
end
section
open Go.Fw
theorem zeta'(z:Zr):(⟨z.neg,z.w⟩:Zr)=z:=by cases z;rfl
theorem LZ{i:Int}(h:gD i):Fit 2 i:=Fit.i64 h.1 h.2
theorem YL{i:Int}(h:gD i):Wl (zn i):=gu (LZ h) (by decide)
end
section
open Go.Fw
theorem abv(l:List Zr)(hl:l.length<=100):∃b,rG l=some b/\(b=false->∀z∈l,z.w.length<=12):=by
 unfold rG;simp only[cc];refine mN (λy=>∃i:Nat,y=(i:Int)/\i<=l.length/\∀z∈l.take i,z.w.length<=12) (λe=>(∃c,e=.inl c/\∀z∈l,z.w.length<=12)\/e=.inr true) (λy=>l.length-y.toNat) ?_ ⟨0,Y,by omega,by simp⟩ ?_
 ·rintro _ ⟨i,rfl,hi,ht⟩;by_cases hlt:i<l.length
  ·have g:l[i]? =some l[i]:=by simp
   rw[show decide ((i:Int)<(l.length:Int))=true by simp[hlt],gS,bC g,cc];by_cases fI:l[i].w.length<=12
   ·left;rw[show decide ((12:Int)<(l[i].w.length:Int))=false by rw[decide_eq_false_iff_not];omega,iz,bM (by omega)];refine⟨_,Y,⟨i+1,Y,hlt,?_⟩,by omega⟩;rw[List.take_add_one,g];intro z hz;rcases List.mem_append.1 hz with h|h
    ·exact ht z h
    simp at h;rw[h];exact fI
   right;rw[show decide ((12:Int)<(l[i].w.length:Int))=true by rw[decide_eq_true_eq];omega,gS];exact⟨_,Y,.inr Y⟩
  right;rw[show decide ((i:Int)<(l.length:Int))=false by simp;omega,iz];rw[List.take_of_length_le (by omega)]at ht;exact⟨_,Y,.inl ⟨_,Y,ht⟩⟩
 rintro e (⟨c,rfl,he⟩|rfl)
 ·exact⟨false,Y,λ_=>he⟩
 exact⟨true,rfl,λh=>by cases h⟩
theorem YM(i j:Int):(i-j).sign=qc i j:=by
 rcases Int.lt_trichotomy i j with h|h|h
 ·rw[lC h,Int.sign_eq_neg_one_of_neg (by omega)]
 ·rw[h,vR,Int.sub_self];rfl
 rw[lD h,Int.sign_eq_one_of_pos (by omega)]
theorem U3(i j:Int):IntKind.i64.wrap (0-qc j i)=qc i j:=by
 rcases Int.lt_trichotomy i j with h|h|h
 ·rw[lC h,lD h];rfl
 ·rw[h,vR];rfl
 rw[lD h,lC h];rfl
abbrev OkZ(z:Zr):Prop:=True/\(z.w.length<=9223372036854775807/\∀x∈z.w,x<4294967296)
end
section
open Go.Fw
def qd(q:Qr):Int:=if zi q.den=0 then 1 else zi q.den
def qv(q:Qr):Rat:=Rat.divInt (zi q.num) (qd q)
def qn(r:Rat):Qr:=⟨zn r.num,if r.den=1 then⟨false,[]⟩else zn (r.den:Int)⟩
def FQ(L:Nat)(r:Rat):Prop:=Fit L r.num/\Fit L (r.den:Int)
structure kp (L:Nat) (q:Qr) (r:Rat):Prop where
 n:∀x∈q.num.w,x<4294967296
 d:∀x∈q.den.w,x<4294967296
 ln:q.num.w.length<=L
 ld:q.den.w.length<=L
 l1:1<=L
 v:qv q=r
theorem ak6(q:Qr):qd q≠0:=by
 unfold qd;by_cases h:zi q.den=0
 ·rw[if_pos h];decide
 rw[if_neg h];exact h
theorem ak7(r:Rat):qv (qn r)=r:=by
 unfold qv qd qn;by_cases h:r.den=1
 ·rw[if_pos h];show Rat.divInt (zi (zn r.num)) (if zi ⟨false,[]⟩=0 then 1 else zi ⟨false,[]⟩)=r;rw[if_pos (show zi ⟨false,[]⟩=0 from rfl),gp];have:=Rat.num_divInt_den r;rw[h]at this;exact this
 rw[if_neg h];show Rat.divInt (zi (zn r.num)) (if zi (zn (r.den:Int))=0 then 1 else zi (zn (r.den:Int)))=r;have:=r.den_nz;rw[gp,gp,if_neg (by omega),Rat.num_divInt_den]
theorem TM{w:List Nat}{n:Bool}{L:Nat}(h:∀x∈w,x<4294967296)(hl:w.length<=L):Fit L (zi ⟨n,w⟩):=by
 unfold Fit;rw[BH];exact Nat.lt_of_lt_of_le (jt w h) (Nat.pow_le_pow_right (by decide) hl)
theorem B6{L:Nat}(h:1<=L):Fit L 1:=by
 unfold Fit;exact Nat.lt_of_lt_of_le (show(1:Int).natAbs<4294967296^1 by decide) (Nat.pow_le_pow_right (by decide) h)
theorem FQ.rep{L:Nat}{r:Rat}(h:FQ L r)(h1:1<=L):kp L (qn r) r:=by
 refine⟨λx hx=>ja (by decide) hx,?_,(cD (by decide)).2 h.1,?_,h1,ak7 r⟩
 ·unfold qn;by_cases e:r.den=1
  ·rw[if_pos e];simp
  rw[if_neg e];exact λx hx=>ja (by decide) hx
 unfold qn;by_cases e:r.den=1
 ·rw[if_pos e];simp
 rw[if_neg e];exact(cD (by decide)).2 h.2
theorem kp.wn{L:Nat}{q:Qr}{r:Rat}(h:kp L q r)(hL:L<=10000000000):Wl q.num:=⟨h.n,Nat.le_trans h.ln hL⟩
theorem kp.wd{L:Nat}{q:Qr}{r:Rat}(h:kp L q r)(hL:L<=10000000000):Wl q.den:=⟨h.d,Nat.le_trans h.ld hL⟩
theorem kp.fn{L:Nat}{q:Qr}{r:Rat}(h:kp L q r):Fit L (zi q.num):=TM (n:=q.num.neg) h.n h.ln
theorem kp.fd{L:Nat}{q:Qr}{r:Rat}(h:kp L q r):Fit L (zi q.den):=TM (n:=q.den.neg) h.d h.ld
theorem kp.fqd{L:Nat}{q:Qr}{r:Rat}(h:kp L q r):Fit L (qd q):=by
 unfold qd;by_cases e:zi q.den=0
 ·rw[if_pos e];exact B6 h.l1
 rw[if_neg e];exact h.fd
theorem kp.mono{L M:Nat}{q:Qr}{r:Rat}(h:kp L q r)(hl:L<=M):kp M q r:=⟨h.n,h.d,Nat.le_trans h.ln hl,Nat.le_trans h.ld hl,Nat.le_trans h.l1 hl,h.v⟩
theorem FQ.mono{L M:Nat}{r:Rat}(h:FQ L r)(hl:L<=M):FQ M r:=⟨h.1.mono hl,h.2.mono hl⟩
theorem zf{L:Nat}{a d:Int}(h0:d≠0)(ha:Fit L a)(hd:Fit L d):FQ L (Rat.divInt a d):=by
 generalize hr:Rat.divInt a d=r;obtain⟨n',d',z',c⟩:=r;obtain⟨m,hm,h1,h2⟩:=Rat.divInt_num_den h0 hr;have hm':0<m.natAbs:=Int.natAbs_pos.2 hm;refine⟨ha.le ?_,hd.le ?_⟩
 ·rw[h1,Int.natAbs_mul];exact Nat.le_mul_of_pos_right _ hm'
 rw[h2,Int.natAbs_mul];exact Nat.le_mul_of_pos_right _ hm'
theorem kp.fq{L:Nat}{q:Qr}{r:Rat}(h:kp L q r):FQ L r:=by rw[<-h.v];exact zf (ak6 q) h.fn h.fqd
theorem B7(r:Rat):r=Rat.divInt r.num (r.den:Int):=(Rat.num_divInt_den r).symm
theorem yw(r:Rat):(r.den:Int)≠0:=by have:=r.den_nz;omega
theorem FQ.add{L M:Nat}{x y:Rat}(hx:FQ L x)(hy:FQ M y):FQ (L+M+1) (x+y):=by
 have e:x+y=Rat.divInt (x.num*y.den+y.num*x.den) (x.den*y.den):=by
  conv=>lhs;rw[B7 x,B7 y,Rat.divInt_add_divInt _ _ (yw x) (yw y)]
 rw[e];refine zf (Int.mul_ne_zero (yw x) (yw y)) ?_ ?_
 ·exact(hx.1.mul hy.2).add (by rw[Nat.add_comm L M];exact hy.1.mul hx.2)
 exact(hx.2.mul hy.2).mono (by omega)
theorem FQ.sub{L M:Nat}{x y:Rat}(hx:FQ L x)(hy:FQ M y):FQ (L+M+1) (x-y):=by
 have e:x-y=Rat.divInt (x.num*y.den-y.num*x.den) (x.den*y.den):=by
  conv=>lhs;rw[B7 x,B7 y,Rat.divInt_sub_divInt _ _ (yw x) (yw y)]
 rw[e];refine zf (Int.mul_ne_zero (yw x) (yw y)) ?_ ?_
 ·exact(hx.1.mul hy.2).sub (by rw[Nat.add_comm L M];exact hy.1.mul hx.2)
 exact(hx.2.mul hy.2).mono (by omega)
theorem FQ.mul{L M:Nat}{x y:Rat}(hx:FQ L x)(hy:FQ M y):FQ (L+M) (x*y):=by
 have e:x*y=Rat.divInt (x.num*y.num) (x.den*y.den):=by
  conv=>lhs;rw[B7 x,B7 y,Rat.divInt_mul_divInt]
 rw[e];exact zf (Int.mul_ne_zero (yw x) (yw y)) (hx.1.mul hy.1) (hx.2.mul hy.2)
theorem FQ.neg{L:Nat}{x:Rat}(hx:FQ L x):FQ L (-x):=⟨hx.1.neg,hx.2⟩
theorem FQ.inv{L:Nat}{x:Rat}(hx:FQ L x)(h:x≠0):FQ L x⁻¹:=by
 have hn:x.num≠0:=λe=>h (Rat.num_eq_zero.1 e);rw[Rat.inv_def];exact zf hn hx.2 hx.1
theorem FQ.div{L M:Nat}{x y:Rat}(hx:FQ L x)(hy:FQ M y)(h:y≠0):FQ (L+M) (x/y):=by rw[Rat.div_def];exact hx.mul (hy.inv h)
theorem FQ.int{L:Nat}{i:Int}(h:Fit L i)(h1:1<=L):FQ L (i:Rat):=⟨h,B6 h1⟩
def pg(x y:Rat):Int:=if x<y then-1 else if x=y then 0 else 1
theorem U4(x:Rat):pg x x=0:=by unfold pg;rw[if_neg Rat.lt_irrefl,if_pos rfl]
theorem U5{a b c d:Int}(hb:0<b)(hd:0<d):Rat.divInt a b<Rat.divInt c d↔a*d<c*b:=by
 have hb':(0:Rat)<(b:Rat):=Rat.intCast_pos.2 hb;have hd':(0:Rat)<(d:Rat):=Rat.intCast_pos.2 hd;rw[Rat.divInt_eq_div,Rat.divInt_eq_div,Rat.div_lt_iff hb',Rat.div_def,Rat.mul_assoc,Rat.mul_comm (d:Rat)⁻¹,<-Rat.mul_assoc,<-Rat.div_def,Rat.lt_div_iff hd',<-Rat.intCast_mul,<-Rat.intCast_mul,Rat.intCast_lt_intCast]
theorem Qi{a b c d:Int}(hb:0<b)(hd:0<d):pg (Rat.divInt a b) (Rat.divInt c d)=qc (a*d) (c*b):=by
 unfold pg qc;have e1:=U5 (a:=a) (c:=c) hb hd;have e2:=Rat.divInt_eq_divInt_iff (n₁:=a) (d₁:=b) (n₂:=c) (d₂:=d) (by omega) (by omega);by_cases h1:a*d<c*b
 ·rw[if_pos (e1.2 h1),if_pos h1]
 rw[if_neg (λh=>h1 (e1.1 h)),if_neg h1];by_cases h2:a*d=c*b
 ·rw[if_pos (e2.2 h2),if_pos h2]
 rw[if_neg (λh=>h2 (e2.1 h)),if_neg h2]
theorem xT{a b:Int}(hb:0<b):a.sign=pg (Rat.divInt a b) 0:=by
 have:(0:Rat)=Rat.divInt 0 1:=rfl;rw[this,Qi hb (by decide),Int.mul_one,Int.zero_mul,<-YM,Int.sub_zero]
theorem FV{a d:Int}(hd:0<d):qn (Rat.divInt a d)=⟨zn (a/(Int.gcd a d:Int)),if d/(Int.gcd a d:Int)=1 then⟨false,[]⟩else zn (d/(Int.gcd a d:Int))⟩:=by
 have h1:(Rat.divInt a d).num=a/(Int.gcd a d:Int):=by rw[Rat.num_divInt,Int.sign_eq_one_of_pos hd,Int.one_mul,Int.gcd_comm]
 have h2:((Rat.divInt a d).den:Int)=d/(Int.gcd a d:Int):=by
  rw[Rat.den_divInt,if_neg (by omega),Int.gcd_comm];have:(d.natAbs:Int)=d:=by omega
  rw[Int.natCast_ediv,this]
 unfold qn;rw[h1,h2];by_cases e:(Rat.divInt a d).den=1
 ·rw[if_pos e,if_pos (by omega)]
 rw[if_neg e,if_neg (by omega)]
theorem abw(k:Int):((bif(BI k).2 then some (decide ((BI k).1=1))else some false):Option Bool)=some (decide (k=1)):=by
 by_cases h:gD k
 ·rw[mY h];rfl
 rw[xd h];have:¬k=1:=by rintro rfl;exact h (by decide)
 rw[decide_eq_false this];rfl
theorem JU{n d:Zr}(hn:Wl n)(hd:Wl d)(h:0<zi d):((qj n d).bind λg=>(iD n g).bind λa=>(iD d g).bind λb=>(fu b.1).bind λc=>
  (bif c.2 then some (decide (c.1=1))else some false).bind λe=>bif e then some (⟨a.1,⟨false,[]⟩⟩:Qr)else some ⟨a.1,b.1⟩)=some (qn (Rat.divInt (zi n) (zi d))):=by
 have g0:(Int.gcd (zi n) (zi d):Int)≠0:=by
  have:0<Int.gcd (zi n) (zi d):=Int.gcd_pos_of_ne_zero_right _ (by omega);omega
 have wg:Wl (zn (Int.gcd (zi n) (zi d):Int)):=gu ((Wl.fit hd).le (by
  have:=Nat.le_of_dvd (Int.natAbs_pos.2 (show zi d≠0 by omega)) (Int.gcd_dvd_natAbs_right (zi n) (zi d));simpa using this)) hd.2
 have wq:Wl (zn (zi d/(Int.gcd (zi n) (zi d):Int))):=gu ((Wl.fit hd).le (Int.natAbs_ediv_le_natAbs _ _)) hd.2;rw[ahq hn hd,cc,divMod_eq hn wg,cc,divMod_eq hd wg,cc,gp,Qf,if_neg g0,Qf,if_neg g0];simp only[];rw[xb wq,cc,gp,abw,cc,FV h];by_cases e:zi d/(Int.gcd (zi n) (zi d):Int)=1
 ·rw[decide_eq_true e,gS,if_pos e]
 rw[decide_eq_false e,iz,if_neg e]
theorem reduce_eq{x y:Zr}(hx:Wl x)(hy:Wl y)(h0:zi y≠0):iv x y=some (qn (Rat.divInt (zi x) (zi y))):=by
 unfold iv;simp only[cJ,cc,zeta',sign_eq hy];by_cases h:zi y<0
 ·rw[show decide ((zi y).sign<0)=true by rw[Int.sign_eq_neg_one_of_neg h];rfl,gS,neg_eq hx,cc,neg_eq hy,cc];have hp:=JU (gu (Wl.fit hx).neg hx.2) (gu (Wl.fit hy).neg hy.2) (by rw[gp];omega);rw[gp,gp,Rat.neg_divInt_neg]at hp;exact hp
 rw[show decide ((zi y).sign<0)=false by rw[Int.sign_eq_one_of_pos (by omega)];rfl,iz];exact JU hx hy (by omega)
end
section
open Go.Fw
theorem rV(q:Qr):(⟨⟨q.num.neg,q.num.w⟩,⟨q.den.neg,q.den.w⟩⟩:Qr)=q:=by cases q;rfl
theorem pq(q:Qr):(⟨q.num,q.den⟩:Qr)=q:=by cases q;rfl
theorem parts_eq{L:Nat}{q:Qr}{r:Rat}(h:kp L q r)(hL:L<=10000000000):∃n d:Zr,dX q=some (n,d)/\Wl n/\Wl d/\0<zi d/\Rat.divInt (zi n) (zi d)=r/\Fit L (zi n)/\Fit L (zi d):=by
 have wn:=h.wn hL;have wd:=h.wd hL;have hv:=h.v;unfold dX;simp only[zeta',cc,sign_eq wd,sQ (x:=1) (by decide) (by decide),neg_eq wn,neg_eq wd];unfold qv qd at hv;rcases Int.lt_trichotomy (zi q.den) 0 with h1|h1|h1
 ·refine⟨_,_,?_,gu h.fn.neg hL,gu h.fd.neg hL,by rw[gp];omega,?_,by rw[gp];exact h.fn.neg,by rw[gp];exact h.fd.neg⟩
  ·rw[Int.sign_eq_neg_one_of_neg h1];rfl
  rw[gp,gp,Rat.neg_divInt_neg,<-hv,if_neg (by omega)]
 ·refine⟨_,_,?_,wn,gu (B6 h.l1) hL,by rw[gp];decide,?_,h.fn,by rw[gp];exact B6 h.l1⟩
  ·rw[h1];rfl
  rw[gp,<-hv,if_pos h1]
 refine⟨_,_,?_,wn,wd,h1,?_,h.fn,h.fd⟩
 ·rw[Int.sign_eq_one_of_pos h1];rfl
 rw[<-hv,if_neg (by omega)]
def Sm(a:Int):Prop:=-2147483648<a/\a<2147483648
theorem Sm.ok{a:Int}(h:Sm a):gD a:=by unfold Sm at h;unfold gD;omega
theorem rW{L:Nat}{q:Qr}{r:Rat}(h:kp L q r)(hL:L<=10000000000):∃a b c,fy q=some (a,b,c)/\(c=true->Sm a/\0<b/\Sm b/\Rat.divInt a b=r):=by
 have wn:=h.wn hL;have wd:=h.wd hL;have hv:=h.v;unfold fy;simp only[zeta',cc,cJ,xb wn,xb wd];unfold qv qd at hv;generalize zi q.num=n at*;generalize zi q.den=d at*;by_cases hs:Sm n/\Sm d
 ·obtain⟨h1,h2⟩:=hs;rw[mY h1.ok,mY h2.ok];unfold Sm at h1 h2;simp only[];rw[decide_eq_false (show ¬n<=-2147483648 by omega),decide_eq_false (show ¬2147483648<=n by omega),decide_eq_false (show ¬d<=-2147483648 by omega),decide_eq_false (show ¬2147483648<=d by omega)];simp only[Bool.not_true,iz,cc];by_cases h0:d=0
  ·rw[decide_eq_true h0,gS];refine⟨_,_,_,Y,λ_=>⟨h1,by decide,⟨by decide,by decide⟩,?_⟩⟩;rw[<-hv,if_pos h0]
  rw[decide_eq_false h0,iz];rw[if_neg h0]at hv;by_cases hneg:d<0
  ·rw[decide_eq_true hneg,gS,cH (by omega) (by omega),cH (by omega) (by omega)];refine⟨_,_,_,Y,λ_=>⟨⟨by omega,by omega⟩,by omega,⟨by omega,by omega⟩,?_⟩⟩;rw[Int.zero_sub,Int.zero_sub,Rat.neg_divInt_neg,hv]
  rw[decide_eq_false hneg,iz];exact⟨_,_,_,Y,λ_=>⟨h1,by omega,h2,hv⟩⟩
 refine⟨0,0,false,?_,λe=>by cases e⟩;by_cases o1:gD n
 ·by_cases o2:gD d
  ·rw[mY o1,mY o2];simp only[Bool.not_true,iz,cc];unfold Sm at hs;by_cases c1:n<=-2147483648
   ·rw[decide_eq_true c1];simp only[cc,gS]
   rw[decide_eq_false c1];simp only[cc,iz];by_cases c2:2147483648<=n
   ·rw[decide_eq_true c2];simp only[cc,gS]
   rw[decide_eq_false c2];simp only[cc,iz];by_cases c3:d<=-2147483648
   ·rw[decide_eq_true c3];simp only[cc,gS]
   rw[decide_eq_false c3];simp only[cc,iz];rw[decide_eq_true (show 2147483648<=d by omega)];simp only[gS]
  rw[mY o1,xd o2];simp only[Bool.not_true,Bool.not_false,iz,cc,gS]
 rw[xd o1];simp only[Bool.not_false,cc,gS]
theorem Qj{a g:Int}(hg:0<g)(h:g∣a):Int.tdiv a g=a/g:=by
 obtain⟨k,rfl⟩:=h;rw[Int.mul_tdiv_cancel_left _ (by omega),Int.mul_ediv_cancel_left _ (by omega)]
theorem zg{n d:Int}(hd:0<d)(hd':d<=9223372036854775807)(hn: -9223372036854775807<=n)(hn':n<=9223372036854775807):iw n d=some (qn (Rat.divInt n d)):=by
 unfold iw;simp only[cc,cJ];refine iU (λs=>Int.gcd s.1 s.2=Int.gcd n d/\s.1.natAbs<=9223372036854775807/\s.2.natAbs<=9223372036854775807) (λe=>e.natAbs=Int.gcd n d/\e.natAbs<=9223372036854775807) (λs=>s.2.natAbs) ?_ ⟨Y,by simp only[];omega,by simp only[];omega⟩ ?_
 ·rintro⟨a,b⟩ ⟨i1,i2,i3⟩;simp only at i1 i2 i3⊢;by_cases hb:b=0
  ·right;subst hb;refine⟨a,by simp,?_,i2⟩;rw[<-i1];simp[Int.gcd]
  left;rw[decide_eq_true hb,gS,Kk,if_neg hb,cc];have hm:(Int.tmod a b).natAbs=a.natAbs%b.natAbs:=Int.natAbs_tmod a b;have hlt:=Nat.mod_lt a.natAbs (Int.natAbs_pos.2 hb);refine⟨_,Y,⟨?_,i3,by simp only[];omega⟩,by simp only[];omega⟩;simp only[];rw[<-i1,Int.gcd,Int.gcd,hm,Nat.gcd_comm b.natAbs,<-Nat.gcd_rec,Nat.gcd_comm]
 rintro e ⟨he,hle⟩;obtain⟨g,hg⟩:∃g:Int,(Int.gcd n d:Int)=g:=⟨_,Y⟩;have hgp:0<g:=by have:=Int.gcd_pos_of_ne_zero_right n (show d≠0 by omega);omega
 have hgn:g∣n:=hg▸Int.gcd_dvd_left ..;have hgd:g∣d:=hg▸Int.gcd_dvd_right ..;have hK:∀m:Int,m=g->(bif decide (m=d)then(At n m).bind λgV=>(cW gV).bind λx=>some (⟨⟨x.neg,x.w⟩,⟨false,[]⟩⟩:Qr)else(At n m).bind λiM=>(cW iM).bind λx=>(At d m).bind λow=>(cW ow).bind λy=>some ⟨⟨x.neg,x.w⟩,⟨y.neg,y.w⟩⟩)=some (qn (Rat.divInt n d)):=by
  rintro m rfl;have b1:(n/m).natAbs<=n.natAbs:=Int.natAbs_ediv_le_natAbs _ _;have b2:(d/m).natAbs<=d.natAbs:=Int.natAbs_ediv_le_natAbs _ _;have q1:At n m=some (n/m):=by
   rw[At,if_neg (by omega),Qj hgp hgn,cH (by omega) (by omega)]
  have q2:At d m=some (d/m):=by
   rw[At,if_neg (by omega),Qj hgp hgd,cH (by omega) (by omega)]
  rw[FV hd,hg,q1,q2];simp only[cc,sQ (x:=n/m) (by omega) (by omega),sQ (x:=d/m) (by omega) (by omega),zeta'];by_cases e1:m=d
  ·rw[decide_eq_true e1,gS,if_pos (by rw[e1];exact Int.ediv_self (by omega))]
  rw[decide_eq_false e1,iz,if_neg];intro e2;have:=Int.ediv_mul_cancel hgd;rw[e2]at this;omega
 by_cases hneg:e<0
 ·rw[decide_eq_true hneg,gS,cH (by omega) (by omega)];exact hK _ (by omega)
 rw[decide_eq_false hneg,iz];exact hK _ (by omega)
theorem nj{a b:Int}(ha:Sm a)(hb:Sm b): -4611686018427387904<a*b/\a*b<4611686018427387904:=by
 unfold Sm at ha hb;have h1:(a*b).natAbs=a.natAbs*b.natAbs:=Int.natAbs_mul a b;have h2:a.natAbs*b.natAbs<=2147483647*2147483647:=Nat.mul_le_mul (by omega) (by omega);omega
theorem xU{a b:Int}(ha:0<a)(hb:0<b):0<a*b:=Int.mul_pos ha hb
section ops
variable {L M:Nat}{a b:Qr}{x y:Rat}
theorem kp.add(ha:kp L a x)(hb:kp M b y)(h:L+M<=4000000000):wm a b=some (qn (x+y))/\kp (L+M+1) (qn (x+y)) (x+y):=by
 refine⟨?_,(ha.fq.add hb.fq).rep (by omega)⟩;obtain⟨n1,d1,c1,e1,k1⟩:=rW ha (by omega);obtain⟨n2,d2,c2,e2,k2⟩:=rW hb (by omega);obtain⟨p1,q1,f1,w1,w2,g1,v1,t1,t2⟩:=parts_eq ha (by omega);obtain⟨p2,q2,f2,w3,w4,g2,v2,t3,t4⟩:=parts_eq hb (by omega);have JV:nP a b=some (qn (x+y)):=by
  unfold nP lq;have u1:=gu (t1.mul t4) (by omega);have u2:=gu (t3.mul t2) (by omega);have u3:=gu (t2.mul t4) (by omega);have u4:=gu ((t1.mul t4).add ((t3.mul t2).mono (by omega))) (by omega);simp only[zeta',rV,pq,f1,f2,cc,mul_eq w1 w4,mul_eq w3 w2,add_eq u1 u2,mul_eq w2 w4,gp];rw[reduce_eq u4 u3 (by rw[gp];have:=xU g1 g2;omega),cc,gp,gp,<-v1,<-v2,Rat.divInt_add_divInt _ _ (by omega) (by omega)]
 unfold wm;simp only[zeta',rV,pq,e1,e2,cc,cJ,JV];cases c1
 ·rw[iz,cc,iz]
 cases c2
 ·rw[gS,cc,iz]
 obtain⟨s1,s2,s3,s4⟩:=k1 Y;obtain⟨s5,s6,s7,s8⟩:=k2 Y;have m1:=nj s1 s7;have m2:=nj s5 s3;have m3:=nj s3 s7;have m4:=xU s2 s6;rw[gS,cc,gS,cH (x:=n1*d2) (by omega) (by omega),cH (x:=n2*d1) (by omega) (by omega),cH (x:=d1*d2) (by omega) (by omega),cH (by omega) (by omega),zg m4 (by omega) (by omega) (by omega),cc,<-s4,<-s8,Rat.divInt_add_divInt _ _ (by omega) (by omega)]
theorem kp.sub(ha:kp L a x)(hb:kp M b y)(h:L+M<=4000000000):wv a b=some (qn (x-y))/\kp (L+M+1) (qn (x-y)) (x-y):=by
 refine⟨?_,(ha.fq.sub hb.fq).rep (by omega)⟩;obtain⟨n1,d1,c1,e1,k1⟩:=rW ha (by omega);obtain⟨n2,d2,c2,e2,k2⟩:=rW hb (by omega);obtain⟨p1,q1,f1,w1,w2,g1,v1,t1,t2⟩:=parts_eq ha (by omega);obtain⟨p2,q2,f2,w3,w4,g2,v2,t3,t4⟩:=parts_eq hb (by omega);have JV:nS a b=some (qn (x-y)):=by
  unfold nS lu;have u1:=gu (t1.mul t4) (by omega);have u2:=gu (t3.mul t2) (by omega);have u3:=gu (t2.mul t4) (by omega);have u4:=gu ((t1.mul t4).sub ((t3.mul t2).mono (by omega))) (by omega);simp only[zeta',rV,pq,f1,f2,cc,mul_eq w1 w4,mul_eq w3 w2,sub_eq u1 u2,mul_eq w2 w4,gp];rw[reduce_eq u4 u3 (by rw[gp];have:=xU g1 g2;omega),cc,gp,gp,<-v1,<-v2,Rat.divInt_sub_divInt _ _ (by omega) (by omega)]
 unfold wv;simp only[zeta',rV,pq,e1,e2,cc,cJ,JV];cases c1
 ·rw[iz,cc,iz]
 cases c2
 ·rw[gS,cc,iz]
 obtain⟨s1,s2,s3,s4⟩:=k1 Y;obtain⟨s5,s6,s7,s8⟩:=k2 Y;have m1:=nj s1 s7;have m2:=nj s5 s3;have m3:=nj s3 s7;have m4:=xU s2 s6;rw[gS,cc,gS,cH (x:=n1*d2) (by omega) (by omega),cH (x:=n2*d1) (by omega) (by omega),cH (x:=d1*d2) (by omega) (by omega),cH (by omega) (by omega),zg m4 (by omega) (by omega) (by omega),cc,<-s4,<-s8,Rat.divInt_sub_divInt _ _ (by omega) (by omega)]
theorem kp.mul(ha:kp L a x)(hb:kp M b y)(h:L+M<=4000000000):sG a b=some (qn (x*y))/\kp (L+M) (qn (x*y)) (x*y):=by
 have l1:=ha.l1;refine⟨?_,(ha.fq.mul hb.fq).rep (by omega)⟩;obtain⟨n1,d1,c1,e1,k1⟩:=rW ha (by omega);obtain⟨n2,d2,c2,e2,k2⟩:=rW hb (by omega);obtain⟨p1,q1,f1,w1,w2,g1,v1,t1,t2⟩:=parts_eq ha (by omega);obtain⟨p2,q2,f2,w3,w4,g2,v2,t3,t4⟩:=parts_eq hb (by omega);have JV:nT a b=some (qn (x*y)):=by
  unfold nT lz;have u1:=gu (t1.mul t3) (by omega);have u3:=gu (t2.mul t4) (by omega);simp only[zeta',rV,pq,f1,f2,cc,mul_eq w1 w3,mul_eq w2 w4];rw[reduce_eq u1 u3 (by rw[gp];have:=xU g1 g2;omega),cc,gp,gp,<-v1,<-v2,Rat.divInt_mul_divInt]
 unfold sG;simp only[zeta',rV,pq,e1,e2,cc,cJ,JV];cases c1
 ·rw[iz,cc,iz]
 cases c2
 ·rw[gS,cc,iz]
 obtain⟨s1,s2,s3,s4⟩:=k1 Y;obtain⟨s5,s6,s7,s8⟩:=k2 Y;have m1:=nj s1 s5;have m3:=nj s3 s7;have m4:=xU s2 s6;rw[gS,cc,gS,cH (by omega) (by omega),cH (x:=d1*d2) (by omega) (by omega),zg m4 (by omega) (by omega) (by omega),cc,<-s4,<-s8,Rat.divInt_mul_divInt]
theorem kp.sign(ha:kp L a x)(h:L<=10000000000):kD a=some (pg x 0):=by
 unfold kD;have wn:=ha.wn h;have wd:=ha.wd h;have hv:=ha.v;simp only[zeta',cc,sign_eq wn,sign_eq wd];unfold qv qd at hv;rcases Int.lt_trichotomy (zi a.den) 0 with h1|h1|h1
 ·rw[Int.sign_eq_neg_one_of_neg h1];rw[if_neg (by omega),<-Rat.neg_divInt_neg]at hv;rw[<-hv,<-xT (by omega),Int.sign_neg];show some (IntKind.i64.wrap (0-(zi a.num).sign))=_;have:(zi a.num).sign=-1\/(zi a.num).sign=0\/(zi a.num).sign=1:=by
   rcases Int.lt_trichotomy (zi a.num) 0 with e|e|e
   ·left;exact Int.sign_eq_neg_one_of_neg e
   ·right;left;rw[e];rfl
   right;right;exact Int.sign_eq_one_of_pos e
  rw[cH (by omega) (by omega),Int.zero_sub]
 ·rw[if_pos h1]at hv;rw[<-hv,<-xT (by omega),h1];rfl
 rw[if_neg (by omega)]at hv;rw[Int.sign_eq_one_of_pos h1,<-hv,<-xT h1];rfl
theorem nk{x:Rat}:pg x 0=0↔x=0:=by
 unfold pg;by_cases h:x<0
 ·rw[if_pos h];refine⟨λe=>absurd e (by decide),λe=>?_⟩;rw[e]at h;exact absurd h Rat.lt_irrefl
 rw[if_neg h];by_cases h2:x=0
 ·rw[if_pos h2];simp[h2]
 rw[if_neg h2];simp[h2]
theorem kp.div(ha:kp L a x)(hb:kp M b y)(h:L+M<=4000000000)(h0:y≠0):wz a b=some (qn (x/y),0)/\kp (L+M) (qn (x/y)) (x/y):=by
 have l1:=ha.l1;refine⟨?_,(ha.fq.div hb.fq h0).rep (by omega)⟩;obtain⟨n1,d1,c1,e1,k1⟩:=rW ha (by omega);obtain⟨n2,d2,c2,e2,k2⟩:=rW hb (by omega);obtain⟨p1,q1,f1,w1,w2,g1,v1,t1,t2⟩:=parts_eq ha (by omega);obtain⟨p2,q2,f2,w3,w4,g2,v2,t3,t4⟩:=parts_eq hb (by omega);have hdiv:∀a b c d:Int,Rat.divInt a b/Rat.divInt c d=Rat.divInt (a*d) (b*c):=λa b c d=>by rw[Rat.div_def,Rat.inv_divInt,Rat.divInt_mul_divInt]
 have hnz:∀a b:Int,Rat.divInt a b=y->a≠0:=λa b e e'=>h0 (by rw[<-e,e',Rat.zero_divInt]);have JV:lP a b=some (qn (x/y)):=by
  unfold lP lB;have u1:=gu (t1.mul t4) (by omega);have u3:=gu (t2.mul t3) (by omega);simp only[zeta',rV,pq,f1,f2,cc,mul_eq w1 w4,mul_eq w2 w3];rw[reduce_eq u1 u3 (by rw[gp];exact Int.mul_ne_zero (by omega) (hnz _ _ v2)),cc,gp,gp,<-v1,<-v2,hdiv]
 unfold wz;simp only[zeta',rV,pq,hb.sign (by omega),e1,e2,cc,cJ,JV];rw[decide_eq_false (λe=>h0 (nk.1 e)),iz];cases c1
 ·rw[iz,cc,iz]
 cases c2
 ·rw[gS,cc,iz]
 obtain⟨s1,s2,s3,s4⟩:=k1 Y;obtain⟨s5,s6,s7,s8⟩:=k2 Y;have hn2:=hnz _ _ s8;have m1:=nj s1 s7;have m3:=nj s3 s5;rw[gS,cc,gS];unfold Sm at s1 s3 s5 s7;by_cases hneg:n2<0
 ·have m4:=xU s2 (show 0< -n2 by omega);have m5:(-n1)*d2=-(n1*d2):=Int.neg_mul _ _;have m6:d1*(-n2)=-(d1*n2):=Int.mul_neg _ _;rw[decide_eq_true hneg,gS,cH (x:=0-n1) (by omega) (by omega),cH (x:=0-n2) (by omega) (by omega),Int.zero_sub,Int.zero_sub,cH (by omega) (by omega),cH (by omega) (by omega),zg m4 (by omega) (by omega) (by omega),cc,m5,m6,Rat.neg_divInt_neg,<-s4,<-s8,hdiv]
 have m4:=xU s2 (show 0<n2 by omega);rw[decide_eq_false hneg,iz,cH (by omega) (by omega),cH (by omega) (by omega),zg m4 (by omega) (by omega) (by omega),cc,<-s4,<-s8,hdiv]
theorem kp.canon(ha:kp L a x)(h:L<=10000000000):dP a=some (qn x)/\kp L (qn x) x:=by
 refine⟨?_,ha.fq.rep ha.l1⟩;obtain⟨n1,d1,c1,e1,k1⟩:=rW ha (by omega);obtain⟨p1,q1,f1,w1,w2,g1,v1,t1,t2⟩:=parts_eq ha (by omega);unfold dP;simp only[zeta',rV,pq,e1,cc,f1];cases c1
 ·rw[iz,reduce_eq w1 w2 (by omega),cc,v1]
 obtain⟨s1,s2,s3,s4⟩:=k1 Y;unfold Sm at s1 s3;rw[gS,zg s2 (by omega) (by omega) (by omega),cc,s4]
end ops
end
section
open Go.Fw
theorem L0{p q u v:Int}(hq:0<q)(hv:0<v)(h:p.sign≠u.sign\/p.sign=0):xF (IntKind.i64.wrap (p.sign-u.sign))=some (qc (p*v) (u*q)):=by
 have pv:0<p->0<p*v:=λh=>Int.mul_pos h hv;have pv':p<0->p*v<0:=λh=>Int.mul_neg_of_neg_of_pos h hv;have uq:0<u->0<u*q:=λh=>Int.mul_pos h hq;have uq':u<0->u*q<0:=λh=>Int.mul_neg_of_neg_of_pos h hq;rcases Int.lt_trichotomy p 0 with e1|e1|e1<;>rcases Int.lt_trichotomy u 0 with e2|e2|e2
 ·rw[Int.sign_eq_neg_one_of_neg e1,Int.sign_eq_neg_one_of_neg e2]at h;simp at h
 ·have:=pv' e1;rw[Int.sign_eq_neg_one_of_neg e1,e2,Int.zero_mul,lC this];rfl
 ·have:=pv' e1;have:=uq e2;rw[Int.sign_eq_neg_one_of_neg e1,Int.sign_eq_one_of_pos e2,lC (by omega)];rfl
 ·have:=uq' e2;rw[Int.sign_eq_neg_one_of_neg e2,e1,Int.zero_mul,lD this];rfl
 ·rw[e1,e2,Int.zero_mul,Int.zero_mul];rfl
 ·have:=uq e2;rw[Int.sign_eq_one_of_pos e2,e1,Int.zero_mul,lC this];rfl
 ·have:=pv e1;have:=uq' e2;rw[Int.sign_eq_one_of_pos e1,Int.sign_eq_neg_one_of_neg e2,lD (by omega)];rfl
 ·have:=pv e1;rw[Int.sign_eq_one_of_pos e1,e2,Int.zero_mul,lD this];rfl
 rw[Int.sign_eq_one_of_pos e1,Int.sign_eq_one_of_pos e2]at h;simp at h
theorem YN{x y:Rat}:pg x y=0↔x=y:=by
 unfold pg;by_cases h:x<y
 ·rw[if_pos h];refine⟨λe=>absurd e (by decide),λe=>?_⟩;rw[e]at h;exact absurd h Rat.lt_irrefl
 rw[if_neg h];by_cases h2:x=y
 ·rw[if_pos h2];simp[h2]
 rw[if_neg h2];simp[h2]
theorem EH{x y:Rat}:pg x y<0↔x<y:=by
 unfold pg;by_cases h:x<y
 ·rw[if_pos h];simp[h]
 rw[if_neg h];by_cases h2:x=y
 ·rw[if_pos h2];simp[h2,Rat.lt_irrefl]
 rw[if_neg h2];simp[h]
theorem YO(i:Int):qn (i:Rat)=⟨zn i,⟨false,[]⟩⟩:=by
 unfold qn;rw[Rat.den_intCast,if_pos Y,Rat.num_intCast]
section ops
variable {L M:Nat}{a b:Qr}{x y:Rat}
theorem kp.neg(ha:kp L a x)(h:L<=10000000000):sH a=some (qn (-x))/\kp L (qn (-x)) (-x):=by
 refine⟨?_,ha.fq.neg.rep ha.l1⟩;unfold sH;have r:=(ha.canon h).2;simp only[zeta',rV,pq,(ha.canon h).1,cc,neg_eq (r.wn h)];show some (⟨zn (-zi (zn x.num)),_⟩:Qr)=some (qn (-x));rw[gp];rfl
theorem kp.cmp(ha:kp L a x)(hb:kp M b y)(h:L+M<=4000000000):wA a b=some (pg x y):=by
 obtain⟨p1,q1,f1,w1,w2,g1,v1,t1,t2⟩:=parts_eq ha (by omega);obtain⟨p2,q2,f2,w3,w4,g2,v2,t3,t4⟩:=parts_eq hb (by omega);unfold wA;have u1:=gu (t1.mul t4) (by omega);have u2:=gu (t3.mul t2) (by omega);simp only[zeta',rV,pq,f1,f2,cc,cJ,sign_eq w1,sign_eq w3,mul_eq w1 w4,mul_eq w3 w2,ahn u1 u2,gp];rw[<-v1,<-v2,Qi g1 g2];by_cases e1:(zi p1).sign=(zi p2).sign
 ·rw[show decide ((zi p1).sign≠(zi p2).sign)=false by simp[e1],iz,cc];by_cases e2:(zi p1).sign=0
  ·rw[decide_eq_true e2,gS,L0 g1 g2 (.inr e2),cc]
  rw[decide_eq_false e2,iz]
 rw[show decide ((zi p1).sign≠(zi p2).sign)=true by simp[e1],gS,cc,gS,L0 g1 g2 (.inl e1),cc]
theorem kR{n:Int}(hn:gD n):dK n=some (qn (n:Rat))/\kp 2 (qn (n:Rat)) (n:Rat):=by
 refine⟨?_,(FQ.int (LZ hn) (by decide)).rep (by decide)⟩;unfold dK;simp only[zeta',cc,sQ hn.1 hn.2];rw[YO]
theorem YP{n d:Int}(h0:d≠0)(hn:Fit L n)(hd:Fit L d)(h:1<=L):kp L ⟨zn n,zn d⟩ (Rat.divInt n d):=by
 refine⟨λx hx=>ja (by decide) hx,λx hx=>ja (by decide) hx,(cD (by decide)).2 hn,(cD (by decide)).2 hd,h,?_⟩;unfold qv qd;simp only[gp];rw[if_neg h0]
end ops
end
section
open Go.Fw
def vq(n:Nat)(h:Nat->Rat):List Qr:=(List.range n).map λi=>qn (h i)
structure eP (L:Nat) (v:List Qr) (f:Nat->Rat):Prop where
 e:∀i (h:i<v.length),kp L v[i] (f i)
 z:∀i,v.length<=i->f i=0
 l1:1<=L
theorem bZ(n:Nat)(h:Nat->Rat):(vq n h).length=n:=by simp[vq]
theorem ju{n i:Nat}{h:Nat->Rat}(hi:i<n):(vq n h)[i]? =some (qn (h i)):=by simp[vq,hi]
theorem abx{n i:Nat}{h:Nat->Rat}(hi:i<(vq n h).length):(vq n h)[i]=qn (h i):=by simp[vq]
theorem mO(n:Nat)(h:Nat->Rat):vq (n+1) h=vq n h++[qn (h n)]:=by simp[vq,List.range_succ]
theorem dI{n:Nat}{h k:Nat->Rat}(e:∀i,i<n->h i=k i):vq n h=vq n k:=by
 unfold vq;apply List.map_congr_left;intro i hi;rw[e i (List.mem_range.1 hi)]
theorem qe{L n:Nat}{h:Nat->Rat}(hf:∀i,i<n->FQ L (h i))(hz:∀i,n<=i->h i=0)(h1:1<=L):eP L (vq n h) h:=by
 refine⟨λi hi=>?_,λi hi=>hz i (by rwa[bZ]at hi),h1⟩;rw[abx hi];exact(hf i (by rwa[bZ]at hi)).rep h1
def qz:Qr:=⟨⟨false,[]⟩,⟨false,[]⟩⟩
theorem TN:qn 0=qz:=rfl
theorem Qk{L:Nat}(h:1<=L):kp L qz 0:=⟨by simp[qz],by simp[qz],by simp[qz],by simp[qz],h,by decide⟩
theorem mP{L:Nat}(h:1<=L):FQ L 0:=(Qk h).fq
def qat(v:List Qr)(i:Nat):Qr:=v.getD i qz
theorem eP.at{L:Nat}{v:List Qr}{f:Nat->Rat}(h:eP L v f)(i:Nat):kp L (qat v i) (f i):=by
 unfold qat;by_cases hi:i<v.length
 ·rw[List.getD_eq_getElem?_getD,List.getElem?_eq_getElem hi];exact h.e i hi
 rw[List.getD_eq_getElem?_getD,List.getElem?_eq_none (by omega),h.z i (by omega)];exact Qk h.l1
theorem eP.fq{L:Nat}{v:List Qr}{f:Nat->Rat}(h:eP L v f)(i:Nat):FQ L (f i):=(h.at i).fq
theorem eP.mono{L M:Nat}{v:List Qr}{f:Nat->Rat}(h:eP L v f)(hl:L<=M):eP M v f:=⟨λi hi=>(h.e i hi).mono hl,h.z,Nat.le_trans h.l1 hl⟩
theorem eP.nil{L:Nat}(h:1<=L):eP L [] (λ_=>0):=⟨λi hi=>by simp at hi,λ_ _=>Y,h⟩
theorem eP.get{L:Nat}{v:List Qr}{f:Nat->Rat}(h:eP L v f){i:Nat}(hi:i<v.length):∃q,v[i]? =some q/\kp L q (f i):=⟨v[i],by simp,h.e i hi⟩
theorem eP.congr{L:Nat}{v:List Qr}{f g:Nat->Rat}(h:eP L v f)(e:∀i,f i=g i):eP L v g:=by
 have:f=g:=funext e;rw[<-this];exact h
def NK(v:List Qr)(i:Nat):Rat:=qv (qat v i)
theorem TO{L:Nat}{v:List Qr}(h:∀q∈v,kp L q (qv q))(h1:1<=L):eP L v (NK v):=by
 refine⟨λi hi=>?_,λi hi=>?_,h1⟩
 ·have e:qat v i=v[i]:=by unfold qat;rw[List.getD_eq_getElem?_getD,List.getElem?_eq_getElem hi];rfl
  unfold NK;rw[e];exact h _ (List.getElem_mem hi)
 unfold NK qat;rw[List.getD_eq_getElem?_getD,List.getElem?_eq_none hi];decide
def cw(h:Nat->Rat):Nat->Rat
 |0=>0
 |n+1=>cw h n+h n
theorem c7{h k:Nat->Rat}:∀{n:Nat},(∀i,i<n->h i=k i)->cw h n=cw k n
 |0,_=>rfl
 |n+1,e=>by rw[cw,cw,c7 (λi hi=>e i (by omega)),e n (by omega)]
theorem EI(h k:Nat->Rat):∀n,cw (λi=>h i+k i) n=cw h n+cw k n
 |0=>by simp only[cw];grind
 |n+1=>by rw[cw,cw,cw,EI h k n];grind
theorem BJ(h k:Nat->Rat):∀n,cw (λi=>h i-k i) n=cw h n-cw k n
 |0=>by simp only[cw];grind
 |n+1=>by rw[cw,cw,cw,BJ h k n];grind
theorem pz(c:Rat)(h:Nat->Rat):∀n,cw (λi=>c*h i) n=c*cw h n
 |0=>by simp[cw]
 |n+1=>by rw[cw,cw,pz c h n];grind
theorem qD:∀n,cw (λ_=>0) n=0
 |0=>rfl
 |n+1=>by rw[cw,qD n];grind
theorem YQ{h:Nat->Rat}{n m:Nat}(hnm:n<=m)(hz:∀i,n<=i->i<m->h i=0):cw h m=cw h n:=by
 induction m with
 |zero=>rw[show n=0 by omega]
 |succ m ih=>
  rcases Nat.lt_or_ge m n with q|q
  ·rw[show n=m+1 by omega]
  rw[cw,ih q (λi h1 h2=>hz i h1 (by omega)),hz m q (by omega)];grind
theorem NL{L:Nat}{h:Nat->Rat}:∀{n:Nat},(∀i,i<n->FQ L (h i))->FQ (n*(L+1)+1) (cw h n)
 |0,_=>mP (by omega)
 |n+1,e=>by
  rw[cw];exact((NL (λi hi=>e i (by omega))).add (e n (by omega))).mono (by rw[Nat.add_mul];omega)
theorem gQ{h:Nat->Rat}{n k:Nat}(hk:k<n)(hz:∀i,i<n->i≠k->h i=0):cw h n=h k:=by
 induction n with
 |zero=>omega
 |succ n ih=>
  rw[cw];rcases Nat.lt_or_ge k n with q|q
  ·rw[ih q (λi h1 h2=>hz i (by omega) h2),hz n (by omega) (by omega)];grind
  obtain rfl:k=n:=by omega
  rw[c7 (k:=λ_=>0) (λi hi=>hz i (by omega) (by omega)),qD];grind
end
section
open Go.Fw
theorem TP{α β:Type}(a:List α)(b:List β):max (a.length:Int) (b.length:Int)=((max a.length b.length:Nat):Int):=by omega
theorem aby{α β:Type}(a:List α)(b:List β):min (a.length:Int) (b.length:Int)=((min a.length b.length:Nat):Int):=by omega
theorem eP.gd{L:Nat}{v:List Qr}{f:Nat->Rat}(h:eP L v f)(k:Nat):kp L (v.getD k (⟨⟨false,[]⟩,⟨false,[]⟩⟩:Qr)) (f k):=h.at k
theorem NM{n k:Nat}{h:Nat->Rat}(hk:k<n):(vq k h++List.replicate (n-k) qz).set k (qn (h k))=vq (k+1) h++List.replicate (n-(k+1)) qz:=by
 rw[show n-k=(n-(k+1))+1 by omega,List.replicate_succ,List.set_append_right _ _ (by rw[bZ];exact Nat.le_refl _),bZ,Nat.sub_self,mO,List.append_assoc];rfl
theorem ahr{n c:Nat}{h:Nat->Rat}(hc:c<=n)(hz:∀i,c<=i->i<n->h i=0):vq c h++List.replicate (n-c) qz=vq n h:=by
 induction n with
 |zero=>rw[show c=0 by omega];rfl
 |succ n ih=>
  rcases Nat.lt_or_ge n c with q|q
  ·rw[show c=n+1 by omega,Nat.sub_self];simp
  rw[show n+1-c=(n-c)+1 by omega,List.replicate_succ',<-List.append_assoc,ih q (λi h1 h2=>hz i h1 (by omega)),mO,hz n q (by omega),TN]
theorem Ae{n k:Nat}{h:Nat->Rat}(hk:k<=n):(vq k h++List.replicate (n-k) qz).length=n:=by rw[List.length_append,bZ,List.length_replicate];omega
section ops
variable {K L M:Nat}{c:Qr}{a b:List Qr}{k:Rat}{f g:Nat->Rat}
theorem ar0(ha:eP L a f)(hb:eP M b g)(h:L+M<=4000000000)(la:a.length<=1000000)(lb:b.length<=1000000):yP a b=some (vq (max a.length b.length) λi=>f i-g i)/\eP (L+M+1) (vq (max a.length b.length) λi=>f i-g i) (λi=>f i-g i):=by
 refine⟨?_,qe (λi _=>(ha.fq i).sub (hb.fq i)) (λi hi=>?_) (by omega)⟩
 ·unfold yP tg;refine aB (a:=vq (max a.length b.length) (λi=>f i-g i)) ?_ Y;refine aB Y<|aB Y<|aB (congrArg some (TP a b))<|aB (JI (by omega) (by omega)) ?_;refine z9 (λk=>vq k (λi=>f i-g i)) Y (λk hk=>?_) Y;have e3:=((ha.gd k).sub (hb.gd k) h).1;generalize a.getD k (⟨⟨false,[]⟩,⟨false,[]⟩⟩:Qr)=q1 at e3⊢;generalize b.getD k (⟨⟨false,[]⟩,⟨false,[]⟩⟩:Qr)=q2 at e3⊢;obtain⟨⟨_,_⟩,⟨_,_⟩⟩:=q1;obtain⟨⟨_,_⟩,⟨_,_⟩⟩:=q2;obtain⟨q3,h3⟩:∃q,qn (f k-g k)=q:=⟨_,Y⟩;rw[mO,h3];rw[h3]at e3;obtain⟨⟨_,_⟩,⟨_,_⟩⟩:=q3;refine aB Y<|aB Y<|aB e3<|aB (nq (by omega) (by rw[bZ];omega)) Y
 rw[ha.z i (by omega),hb.z i (by omega)];grind
theorem aei(hc:kp K c k)(ha:eP L a f)(hb:eP M b g)(h:K+L+M<=4000000000)(la:a.length<=1000000)(lb:b.length<=1000000):iY c a b=some (vq (max a.length b.length) λi=>k*f i+g i)/\eP (K+L+M+1) (vq (max a.length b.length) λi=>k*f i+g i) (λi=>k*f i+g i):=by
 refine⟨?_,qe (λi _=>(hc.fq.mul (ha.fq i)).add (hb.fq i)) (λi hi=>?_) (by omega)⟩
 ·unfold iY oB;obtain⟨⟨_,_⟩,⟨_,_⟩⟩:=c;refine aB (a:=vq (max a.length b.length) (λi=>k*f i+g i)) ?_ Y;refine aB Y<|aB Y<|aB (congrArg some (TP a b))<|aB (JI (by omega) (by omega)) ?_;refine z9 (λj=>vq j (λi=>k*f i+g i)) Y (λj hj=>?_) Y;have e1:=hc.mul (ha.gd j) (by omega);have e3:=(e1.2.add (hb.gd j) (by omega)).1;replace e1:=e1.1;generalize a.getD j (⟨⟨false,[]⟩,⟨false,[]⟩⟩:Qr)=q1 at e1⊢;generalize b.getD j (⟨⟨false,[]⟩,⟨false,[]⟩⟩:Qr)=q2 at e3⊢;obtain⟨⟨_,_⟩,⟨_,_⟩⟩:=q1;obtain⟨⟨_,_⟩,⟨_,_⟩⟩:=q2;generalize qn (k*f j)=q4 at e1 e3;obtain⟨⟨_,_⟩,⟨_,_⟩⟩:=q4;obtain⟨q3,h3⟩:∃q,qn (k*f j+g j)=q:=⟨_,Y⟩;rw[mO,h3];rw[h3]at e3;obtain⟨⟨_,_⟩,⟨_,_⟩⟩:=q3;refine aB Y<|aB Y<|aB (aB e1<|aB e3 Y)<|aB (nq (by omega) (by rw[bZ];omega)) Y
 rw[ha.z i (by omega),hb.z i (by omega)];grind
theorem St(hc:kp K c k)(ha:eP L a f)(h:K+L<=4000000000)(la:a.length<=1000000):nV c a=some (vq a.length λi=>k*f i)/\eP (K+L) (vq a.length λi=>k*f i) (λi=>k*f i):=by
 have ZT:=ha.l1;refine⟨?_,qe (λi _=>hc.fq.mul (ha.fq i)) (λi hi=>?_) (by omega)⟩
 ·unfold nV;obtain⟨⟨_,_⟩,⟨_,_⟩⟩:=c;refine aB Y<|aB (yt (by omega) (by omega))<|aB Y ?_;refine bG (λj=>((j:Int),vq j (λi=>k*f i)++List.replicate (a.length-j) qz)) a.length (vq a.length λi=>k*f i) Y (λj hj=>?_) ?_ Y
  ·obtain⟨q,hq,rq⟩:=ha.get hj;have e3:=(hc.mul rq h).1;obtain⟨q3,h3⟩:∃q,qn (k*f j)=q:=⟨_,Y⟩;have h4:=NM (h:=λi=>k*f i) hj;rw[h3]at e3 h4;obtain⟨⟨_,_⟩,⟨_,_⟩⟩:=q;obtain⟨⟨_,_⟩,⟨_,_⟩⟩:=q3;refine aB Y<|bN (decide_eq_true (by omega))<|aB (bC hq)<|aB e3<|aB (cE (by rw[Ae (by omega)];exact hj))<|aB (fz (by rw[Ae (by omega)];exact hj))<|aB Y ?_;rw[bM (by omega),h4]
  refine aB Y<|bA (decide_eq_false (by omega)) ?_;simp
 rw[ha.z i hi];grind
end ops
end
section
open Go.Fw
def ou(f g:Nat->Rat):Nat->Int
 |0=>0
 |n+1=>if ou f g n≠0 then ou f g n else pg (f n) (g n)
theorem U6{f g:Nat->Rat}{i n:Nat}(h0:ou f g i=0)(hi:i<n)(hc:pg (f i) (g i)≠0):ou f g n=pg (f i) (g i):=by
 induction n with
 |zero=>omega
 |succ n ih=>
  rw[ou];rcases Nat.lt_or_ge i n with q|q
  ·rw[ih q,if_pos hc]
  obtain rfl:i=n:=by omega
  rw[h0];simp
theorem JW{f g:Nat->Rat}:∀{n:Nat},ou f g n=0↔∀i,i<n->f i=g i
 |0=>by simp[ou]
 |n+1=>by
  rw[ou];by_cases h:ou f g n=0
  ·rw[if_neg (by simpa using h),YN];have:=JW.1 h;refine⟨λe i hi=>?_,λe=>e n (by omega)⟩;rcases Nat.lt_or_ge i n with q|q
   ·exact this i q
   obtain rfl:i=n:=by omega
   exact e
  rw[if_pos h];refine⟨λe=>absurd e h,λe=>absurd (JW.2 (λi hi=>e i (by omega))) h⟩
section ops
variable {K L M:Nat}{c:Qr}{a b:List Qr}{k:Rat}{f g:Nat->Rat}
theorem Cn(q:Qr):(⟨⟨(q.num.neg,q.num.w,q.den.neg,q.den.w).1,(q.num.neg,q.num.w,q.den.neg,q.den.w).2.1⟩,⟨(q.num.neg,q.num.w,q.den.neg,q.den.w).2.2.1,(q.num.neg,q.num.w,q.den.neg,q.den.w).2.2.2⟩⟩:Qr)=q:=by cases q;rfl
theorem ak8(ha:eP L a f)(hb:eP M b g)(h:L+M<=4000000000):m7 a b=some (ou f g (max a.length b.length)):=by
 unfold m7;generalize max a.length b.length=n;refine aB (a:=if ou f g n≠0 then .inr (ou f g n)else .inl ()) ?_ ?_
 ·induction n with
  |zero=>rfl
  |succ n ih=>
   rw[vX];refine aB ih ?_;by_cases h0:ou f g n=0
   ·have hl:ou f g (n+1)=pg (f n) (g n):=by rw[ou,if_neg (by simpa using h0)]
    rw[hl,if_neg (show ¬ou f g n≠0 by simpa using h0)];have e1:=(ha.gd n).cmp (hb.gd n) h;generalize a.getD n (⟨⟨false,[]⟩,⟨false,[]⟩⟩:Qr)=q1 at e1⊢;generalize b.getD n (⟨⟨false,[]⟩,⟨false,[]⟩⟩:Qr)=q2 at e1⊢;obtain⟨⟨_,_⟩,⟨_,_⟩⟩:=q1;obtain⟨⟨_,_⟩,⟨_,_⟩⟩:=q2;refine aB Y<|aB Y<|aB e1<|aB Y ?_;by_cases h1:pg (f n) (g n)=0
    ·rw[if_neg (by simpa using h1)];exact bA (decide_eq_false (by simpa using h1)) Y
    rw[if_pos h1];exact bN (decide_eq_true h1) Y
   have hl:ou f g (n+1)=ou f g n:=by rw[ou,if_pos h0]
   rw[hl,if_pos h0]
 by_cases h0:ou f g n=0
 ·rw[if_neg (by simpa using h0),h0]
 rw[if_pos h0]
theorem ak9(ha:eP L a f)(h:L+1<=4000000000):wG a=some (ou f (λ_=>0) a.length):=by
 unfold wG;refine aB (ak8 ha (eP.nil (L:=1) (by omega)) h) ?_;simp
theorem veq(ha:eP L a f)(hb:eP M b g)(h:L+M<=4000000000):gL a b=some (decide (∀i,i<max a.length b.length->f i=g i)):=by
 unfold gL;refine aB (ak8 ha hb h)<|aB Y ?_;congr 1;rw[decide_eq_decide];exact JW
end ops
end
section
open Go.Fw
theorem Af{l:List Nat}(h:NJ l):jM l<65536^l.length:=jt l h.1
theorem tm{a:Nat}:Int.tmod (a:Int) 65536=((a%65536:Nat):Int):=by
 rw[Int.tmod_eq_emod_of_nonneg (by omega)];omega
theorem td{a:Nat}:Int.tdiv (a:Int) 65536=((a/65536:Nat):Int):=by
 rw[Int.tdiv_eq_ediv_of_nonneg (by omega)];omega
theorem NN(l k:List Nat)(hl:NJ l)(hk:NJ k):l9 (zl l) (zl k)=some (Du (jM l) (jM k)):=by
 unfold l9;simp only[cc];rw[fW,fW,show max (l.length:Int) (k.length:Int)=((max l.length k.length:Nat):Int) by omega,cH (by have:=hl.2;have:=hk.2;omega) (by have:=hl.2;have:=hk.2;omega)];have h1:jM l<65536^(max l.length k.length):=Nat.lt_of_lt_of_le (Af hl) (Nat.pow_le_pow_right (by decide) (by omega));have h2:jM k<65536^(max l.length k.length):=Nat.lt_of_lt_of_le (Af hk) (Nat.pow_le_pow_right (by decide) (by omega));have hm:max l.length k.length<=100000000000:=by have:=hl.2;have:=hk.2;omega
 have a1:=Gy hl.1;have a2:=Gy hk.1;generalize jM l=V at*;generalize jM k=W at*;generalize max l.length k.length=n at*;refine iU (λy=>∃m:Nat,y=(m:Int)-1/\m<=n/\V/65536^m=W/65536^m) (λe=>(∃c,e=.inl c/\V=W)\/e=.inr (Du V W)) (λy=>(y+1).toNat) ?_ ⟨n,Y,Nat.le_refl _,by rw[Nat.div_eq_of_lt h1,Nat.div_eq_of_lt h2]⟩ ?_
 ·rintro _ ⟨m,rfl,hmn,he⟩;rcases m with _|m
  ·right;refine⟨_,Y,.inl ⟨_,Y,?_⟩⟩;simpa using he
  rw[show((m+1:Nat):Int)-1=(m:Int) by omega,show decide ((0:Int)<=(m:Int))=true by simp,gS,a1,cc,a2,cc];rcases LX he with⟨hd,hq⟩|⟨hd,hlt⟩|⟨hd,hlt⟩
  ·left;rw[hd,show decide (((W/65536^m%65536:Nat):Int)<((W/65536^m%65536:Nat):Int))=false by simp,iz,cc,cc,show decide (((W/65536^m%65536:Nat):Int)<((W/65536^m%65536:Nat):Int))=false by simp,iz,cH (by omega) (by omega)];exact⟨_,Y,⟨m,Y,by omega,hq⟩,by omega⟩
  ·right;rw[show decide (((V/65536^m%65536:Nat):Int)<((W/65536^m%65536:Nat):Int))=true by rw[decide_eq_true_eq];omega,gS];exact⟨_,Y,.inr (by rw[xS hlt])⟩
  right;rw[show decide (((V/65536^m%65536:Nat):Int)<((W/65536^m%65536:Nat):Int))=false by rw[decide_eq_false_iff_not];omega,iz,cc,cc,show decide (((W/65536^m%65536:Nat):Int)<((V/65536^m%65536:Nat):Int))=true by rw[decide_eq_true_eq];omega,gS];exact⟨_,Y,.inr (by rw[Ad hlt])⟩
 rintro e (⟨c,rfl,rfl⟩|rfl)
 ·rw[B5]
 rfl
theorem NO(l k:List Nat)(hl:NJ l)(hk:NJ k):kH (zl l) (zl k)=some (zl (can 65536 (jM l+jM k))):=by
 unfold kH;have h1:jM l<65536^(max l.length k.length):=Nat.lt_of_lt_of_le (Af hl) (Nat.pow_le_pow_right (by decide) (by omega));have h2:jM k<65536^(max l.length k.length):=Nat.lt_of_lt_of_le (Af hk) (Nat.pow_le_pow_right (by decide) (by omega));have hm:max l.length k.length<=100000000000:=by have:=hl.2;have:=hk.2;omega
 have a1:=Gy hl.1;have a2:=Gy hk.1;rw[fW,fW];generalize jM l=V at*;generalize jM k=W at*;refine iU (λs=>∃i:Nat,s=(((HL 65536 V W i:Nat):Int),(i:Int),zl (gC 65536 i (V+W)))/\i<=max l.length k.length+1) (λe=>∃i,e=zl (gC 65536 i (V+W))/\V+W<65536^i/\i<=max l.length k.length+1) (λs=>max l.length k.length+1-s.2.1.toNat) ?_ ⟨0,by rw[JO];rfl,by omega⟩ ?_
 ·rintro _ ⟨i,rfl,hi⟩;have hc:=JM (B:=65536) (by decide) V W i;have Vf:=JN (B:=65536) (by decide) V W i;have ES:=HM (B:=65536) (by decide) V W i;have d1:=Nat.mod_lt (V/65536^i) (show 0<65536 by decide);have d2:=Nat.mod_lt (W/65536^i) (show 0<65536 by decide);simp only[cc,cJ];have DH:∀(K:Bool->Option ((Int×Int×List Int)⊕List Int)),(((bif decide ((i:Int)<(l.length:Int))then some true else some (decide ((i:Int)<(k.length:Int)))):Option Bool).bind λc=>((bif c then some true else some (decide ((0:Int)<((HL 65536 V W i:Nat):Int)))):Option Bool).bind K)=K (decide (i<max l.length k.length\/0<HL 65536 V W i)):=by
   intro K;by_cases q1:i<l.length
   ·have:i<max l.length k.length:=by omega
    simp[q1,this]
   by_cases q2:i<k.length
   ·have:i<max l.length k.length:=by omega
    simp[q1,q2,this]
   have:¬i<max l.length k.length:=by omega
   simp[q1,q2,this]
  rw[DH];by_cases Qx:i<max l.length k.length\/0<HL 65536 V W i
  ·left;have hi':i<max l.length k.length+1:=by
    rcases Nat.lt_or_ge i (max l.length k.length+1)with h|h
    ·exact h
    have hie:i=max l.length k.length+1:=by omega
    have hp:65536^i=65536^(max l.length k.length)*65536:=by rw[hie,Nat.pow_succ]
    have g3:=Ny (B:=65536) (V:=V) (W:=W) (k:=i) (by omega) (by omega);rw[Nat.div_eq_of_lt (by omega)]at g3;omega
   rw[show decide (i<max l.length k.length\/0<HL 65536 V W i)=true by rw[decide_eq_true_eq];exact Qx,gS,a1,cc,a2,cc,rR (by omega),rR (by omega),tm,td,Vf,ES,nq (by decide) (by rw[fW,cf];omega),cc,j1 (by have:=JM (B:=65536) (by decide) V W (i+1);omega),bM (by omega)];refine⟨_,Y,⟨i+1,?_,by omega⟩,by simp only[];omega⟩;rw[lY,NI,Sq]
  right;rw[show decide (i<max l.length k.length\/0<HL 65536 V W i)=false by rw[decide_eq_false_iff_not];exact Qx,iz];refine⟨_,Y,i,Y,?_,hi⟩;have g1:V<65536^i:=Nat.lt_of_lt_of_le h1 (Nat.pow_le_pow_right (by decide) (by omega));have g2:W<65536^i:=Nat.lt_of_lt_of_le h2 (Nat.pow_le_pow_right (by decide) (by omega));have g3:=Ny (B:=65536) g1 g2;rcases Nat.lt_or_ge (V+W) (65536^i)with h|h
  ·exact h
  have:=Nat.div_pos h (Nat.pow_pos (by decide));omega
 rintro _ ⟨i,rfl,hlt,hi⟩;rw[ot _ (by rw[cf];omega),cc,uC (by decide) hlt]
theorem HP(l k:List Nat)(hl:NJ l)(hk:NJ k)(hle:jM k<=jM l):jB (zl l) (zl k)=some (zl (can 65536 (jM l-jM k))):=by
 unfold jB;have h1:=Af hl;have hm:=hl.2;have a1:=Gy hl.1;have a2:=Gy hk.1;rw[fW];generalize jM l=V at*;generalize jM k=W at*;refine bG (λi=>(((1-FR 65536 V W i:Nat):Int),(i:Int),zl (gC 65536 i (V-W)))) l.length (zl (gC 65536 l.length (V-W))) ?_ (λi hi=>?_) ?_ ?_
 ·rw[JP];rfl
 ·have hc:=Sg (B:=65536) (by decide) V W i;have Vf:=JQ (B:=65536) (by decide) V W i;have ES:=Nz (B:=65536) (by decide) hle i;have d1:=Nat.mod_lt (V/65536^i) (show 0<65536 by decide);have d2:=Nat.mod_lt (W/65536^i) (show 0<65536 by decide);simp only[cc,cJ];rw[show decide ((i:Int)<(l.length:Int))=true by simp[hi],gS,a1,cc,a2,cc];rw[<-Vf,lY,NI,Sq,<-ES];generalize V/65536^i%65536=a at*;generalize W/65536^i%65536=b at*;generalize FR 65536 V W i=c at*;rw[cH (x:=(a:Int)-(b:Int)) (by omega) (by omega),cH (x:=(a:Int)-(b:Int)-((1-c:Nat):Int)) (by omega) (by omega)];by_cases hn:(a:Int)-(b:Int)-((1-c:Nat):Int)<0
  ·rw[show decide ((a:Int)-(b:Int)-((1-c:Nat):Int)<0)=true by rw[decide_eq_true_eq];exact hn,gS,cH (by omega) (by omega),nq (by decide) (by rw[fW,cf];omega),cc,bM (by omega)];rw[show(a:Int)-(b:Int)-((1-c:Nat):Int)+65536=(((a+(65536-1-b)+c)%65536:Nat):Int) by omega,show(1-(a+(65536-1-b)+c)/65536)=1 by omega];rfl
  rw[show decide ((a:Int)-(b:Int)-((1-c:Nat):Int)<0)=false by rw[decide_eq_false_iff_not];exact hn,iz,nq (by decide) (by rw[fW,cf];omega),cc,bM (by omega)];rw[show(a:Int)-(b:Int)-((1-c:Nat):Int)=(((a+(65536-1-b)+c)%65536:Nat):Int) by omega,show(1-(a+(65536-1-b)+c)/65536)=0 by omega];rfl
 ·simp
 rw[ot _ (by rw[cf];omega),cc,uC (by decide) (by omega)]
theorem B8(l:List Nat)(hl:∀x∈l,x<65536)(hn:l.length<=3):gw (zl l)=some ((jM l:Nat):Int):=by
 unfold gw;simp only[cc];have hV:jM l<65536^l.length:=jt l hl;have hp:65536^l.length<=65536^3:=Nat.pow_le_pow_right (by decide) hn;rw[show(65536:Nat)^3=281474976710656 by decide]at hp;rw[fW,cH (by omega) (by omega)];refine bG (λj=>(((jM l/65536^(l.length-j):Nat):Int),(l.length:Int)-1-(j:Int))) l.length ((jM l:Nat):Int) ?_ (λj hj=>?_) ?_ Y
 ·rw[show l.length-0=l.length by omega,Nat.div_eq_of_lt hV];simp
 ·obtain⟨m,hm⟩:∃m,l.length=m+j+1:=⟨l.length-j-1,by omega⟩;have hg:=pJ hl (i:=m) (by omega);have hst:=EB 65536 (jM l) m;have hdl:jM l/65536^m<=jM l:=Nat.div_le_self _ _;rw[show l.length-j=m+1 by omega,show l.length-(j+1)=m by omega,show(l.length:Int)-1-(j:Int)=(m:Int) by omega,show(l.length:Int)-1-((j+1:Nat):Int)=(m:Int)-1 by omega];have hd:=Nat.mod_lt (jM l/65536^m) (show 0<65536 by decide);simp only[];rw[show decide ((0:Int)<=(m:Int))=true by simp,gS,bC (Dx hg),cc];generalize jM l/65536^(m+1)=c at*;generalize jM l/65536^m=d at*;rw[cH (x:=(c:Int)*65536) (by omega) (by omega),cH (x:=(c:Int)*65536+((d%65536:Nat):Int)) (by omega) (by omega),cH (x:=(m:Int)-1) (by omega) (by omega),show(c:Int)*65536+((d%65536:Nat):Int)=(d:Int) by omega]
 simp only[];rw[show decide ((0:Int)<=(l.length:Int)-1-(l.length:Int))=false by rw[decide_eq_false_iff_not];omega,iz,Nat.sub_self,Nat.pow_zero,Nat.div_one]
theorem JX(x:Nat)(hx:x<281474976710656):mI (x:Int)=some (zl (can 65536 x)):=by
 unfold mI;simp only[cc];rw[tm,td,j1 (by omega),tm,td,j1 (by omega)];have:[((x%65536:Nat):Int),((x/65536%65536:Nat):Int),((x/65536/65536:Nat):Int)]=zl [x%65536,x/65536%65536,x/65536/65536]:=rfl;rw[this,ot _ (by simp),cc,om (B:=65536) (by decide) (by intro y hy;simp at hy;omega)];congr 3;simp[val];omega
theorem FW(l:List Nat)(f:Nat)(hl:NJ l)(hf:f<65536):gy (zl l) (f:Int)=some (zl (can 65536 (jM l*f))):=by
 unfold gy;have h1:=Af hl;have hm:=hl.2;have a1:=Gy hl.1;rw[fW];generalize jM l=V at*;have uF:=λi=>Yw (B:=65536) (V:=V) (f:=f) (e:=0) (by decide) hf (by decide) i;refine iU (λs=>∃i:Nat,s=(((sC 65536 V f 0 i:Nat):Int),(i:Int),zl (gC 65536 i (V*f)))/\i<=l.length+1) (λe=>∃i,e=zl (gC 65536 i (V*f))/\V*f<65536^i/\i<=l.length+1) (λs=>l.length+1-s.2.1.toNat) ?_ ⟨0,by rw[NB];rfl,by omega⟩ ?_
 ·rintro _ ⟨i,rfl,hi⟩;have hc:=uF i;have hc1:=uF (i+1);have Vf:=NC (B:=65536) (by decide) V f 0 i;have ES:=Sj (B:=65536) (by decide) V f 0 i;have d1:=Nat.mod_lt (V/65536^i) (show 0<65536 by decide);have hp:V/65536^i%65536*f<=65535*65535:=Nat.mul_le_mul (by omega) (by omega);rw[Nat.add_zero]at ES;simp only[cc,cJ];have DH:∀(K:Bool->Option ((Int×Int×List Int)⊕List Int)),(((bif decide ((i:Int)<(l.length:Int))then some true else some (decide ((0:Int)<((sC 65536 V f 0 i:Nat):Int)))):Option Bool).bind K)=K (decide (i<l.length\/0<sC 65536 V f 0 i)):=by
   intro K;by_cases q1:i<l.length
   ·simp[q1]
   simp[q1]
  rw[DH];by_cases Qx:i<l.length\/0<sC 65536 V f 0 i
  ·left;have hi':i<l.length+1:=by
    rcases Nat.lt_or_ge i (l.length+1)with h|h
    ·exact h
    have hie:i=l.length+1:=by omega
    have g3:=Sk (B:=65536) (V:=V) (f:=f) (e:=0) (i:=i) (Nat.lt_of_lt_of_le h1 (Nat.pow_le_pow_right (by decide) (by omega)));rw[Nat.add_zero,Nat.div_eq_of_lt]at g3
    ·omega
    rw[hie,Nat.pow_succ];exact Nat.mul_lt_mul'' h1 hf
   rw[show decide (i<l.length\/0<sC 65536 V f 0 i)=true by rw[decide_eq_true_eq];exact Qx,gS,a1,cc,<-Int.natCast_mul,j1 (by omega),rR (by omega),tm,td,Vf,ES,nq (by decide) (by rw[fW,cf];omega),cc,j1 (by omega),bM (by omega)];refine⟨_,Y,⟨i+1,?_,by omega⟩,by simp only[];omega⟩;rw[lY,NI,Sq]
  right;rw[show decide (i<l.length\/0<sC 65536 V f 0 i)=false by rw[decide_eq_false_iff_not];exact Qx,iz];refine⟨_,Y,i,Y,?_,hi⟩;have g3:=Sk (B:=65536) (V:=V) (f:=f) (e:=0) (i:=i) (Nat.lt_of_lt_of_le h1 (Nat.pow_le_pow_right (by decide) (by omega)));rw[Nat.add_zero]at g3;rcases Nat.lt_or_ge (V*f) (65536^i)with h|h
  ·exact h
  have:=Nat.div_pos h (Nat.pow_pos (by decide));omega
 rintro _ ⟨i,rfl,hlt,hi⟩;rw[ot _ (by rw[cf];omega),cc,uC (by decide) hlt]
end
section
open Go.Fw
theorem dM(v:Nat):jM (can 65536 v)=v:=oM (by decide) v
theorem NP{v n:Nat}(h:v<65536^n)(hn:n<=100000000000):NJ (can 65536 v):=⟨λ_ hx=>ja (by decide) hx,Nat.le_trans ((cD (by decide)).2 h) hn⟩
theorem abz(l k:List Nat)(hl:NJ l)(hk:NJ k)(hs:l.length+k.length<=90000000000):uh (zl l) (zl k)=some (zl (can 65536 (jM l*jM k))):=by
 unfold uh;have hV:=Af hl;have hW:=Af hk;simp only[cc];rw[fW,fW,rR (by omega)];by_cases h3:l.length+k.length<=3
 ·rw[show decide (((l.length+k.length:Nat):Int)<=3)=true by rw[decide_eq_true_eq];omega,gS,B8 l hl.1 (by omega),cc,B8 k hk.1 (by omega),cc,<-Int.natCast_mul];have hlt:jM l*jM k<281474976710656:=by
   have h1:jM l*jM k<65536^l.length*65536^k.length:=Nat.mul_lt_mul'' hV hW;rw[<-Nat.pow_add]at h1;have h2:65536^(l.length+k.length)<=65536^3:=Nat.pow_le_pow_right (by decide) h3;rw[show(65536:Nat)^3=281474976710656 by decide]at h2;omega
  rw[j1 (by omega),JX _ hlt,cc]
 rw[show decide (((l.length+k.length:Nat):Int)<=3)=false by rw[decide_eq_false_iff_not];omega,iz,cH (by omega) (by omega)];refine iU (λs=>∃(u:List Nat) (m:Nat),s=(zl u,(m:Int)-1)/\m<=l.length/\(∀x∈u,x<65536)/\jM u=jM l/65536^m*jM k/\u.length+m<=l.length+k.length) (λe=>∃u:List Nat,e=zl u/\(∀x∈u,x<65536)/\jM u=jM l*jM k/\u.length<=l.length+k.length) (λs=>(s.2+1).toNat) ?_ ⟨[],l.length,Y,Nat.le_refl _,by simp,by rw[Nat.div_eq_of_lt hV];simp[jM,val],by simp⟩ ?_
 ·rintro _ ⟨u,m,rfl,hm,hu,huv,hul⟩;simp only[];rcases m with _|m
  ·right;refine⟨_,Y,u,Y,hu,?_,by omega⟩;rw[huv,Nat.pow_zero,Nat.div_one]
  left;have hg:=pJ hl.1 (i:=m) (by omega);obtain⟨d,hd⟩:∃d,jM l/65536^m%65536=d:=⟨_,Y⟩;have hdl:d<65536:=by rw[<-hd];exact Nat.mod_lt _ (by decide)
  rw[show val 65536 l/65536^m%65536=d from hd]at hg;have hst:=EB 65536 (jM l) m;rw[hd]at hst;have hgi:=bC (Dx hg);have hA:jM l/65536^m<65536^(l.length-m):=by
   rw[Nat.div_lt_iff_lt_mul (Nat.pow_pos (by decide)),<-Nat.pow_add,show l.length-m+m=l.length by omega];exact hV
  have hAW:jM l/65536^m*jM k<65536^(l.length-m+k.length):=by rw[Nat.pow_add];exact Nat.mul_lt_mul'' hA hW
  rw[show((m+1:Nat):Int)-1=(m:Int) by omega,show decide ((0:Int)<=(m:Int))=true by simp,gS,Ys (by decide) (by rw[fW];simp;omega),cc];have h0:[(0:Int)]++zl u=zl (0::u):=rfl;have hv0:jM (0::u)=65536*(jM l/65536^(m+1))*jM k:=by
   show 0+65536*jM u=_;rw[huv,Nat.zero_add,Nat.mul_assoc]
  rw[h0];refine(show ∀(X:Option ((List Int×Int)⊕List Int)),(∃w:List Nat,X=some (.inl (zl w,IntKind.i64.wrap ((m:Int)-1)))/\(∀x∈w,x<65536)/\jM w=jM l/65536^m*jM k/\w.length+m<=l.length+k.length)->∃s',X=some (.inl s')/\(∃(u:List Nat) (m:Nat),s'=(zl u,(m:Int)-1)/\m<=l.length/\(∀x∈u,x<65536)/\jM u=jM l/65536^m*jM k/\u.length+m<=l.length+k.length)/\(s'.2+1).toNat<((m:Int)+1).toNat from ?_) _ ?_
  ·rintro X ⟨w,rfl,hw,hwv,hwl⟩;rw[cH (by omega) (by omega)];exact⟨_,Y,⟨w,m,Y,by omega,hw,hwv,hwl⟩,by simp only[];omega⟩
  have alb:=mN (body:=λ(yo:(List Int)×Int)=>
      match yo with
      |⟨Jb,n7⟩=>
       (show Option (((List Int)×Int)⊕((List Int)))from
        (cM (zl l) (m:Int)).bind λow=>
        (bif decide ((n7:Int)<ow)then
          (cM (zl l) (m:Int)).bind λpD=>
          (gy (zl k) (min (1024:Int) (IntKind.i64.wrap (pD-n7)))).bind λxl=>
          (kH Jb xl).bind λuN=>
          some (.inl (uN,IntKind.i64.wrap (n7+1024)))
         else
          some (.inr Jb)))) (s:=(zl (0::u),(0:Int))) (f:=λEj=>(some (.inl (Ej,IntKind.i64.wrap ((m:Int)-1))):Option ((List Int×Int)⊕List Int)))
   (Q:=λr=>∃w:List Nat,r=.inl (zl w,IntKind.i64.wrap ((m:Int)-1))/\(∀x∈w,x<65536)/\jM w=jM l/65536^m*jM k/\w.length+m<=l.length+k.length)
   (λs=>∃(w:List Nat) (j:Nat),s=(zl w,(j:Int))/\(∀x∈w,x<65536)/\j<=70000/\jM w=(65536*(jM l/65536^(m+1))+min j d)*jM k/\w.length+m<=l.length+k.length)
   (λe=>∃w:List Nat,e=zl w/\(∀x∈w,x<65536)/\jM w=jM l/65536^m*jM k/\w.length+m<=l.length+k.length) (λs=>(70000-s.2).toNat) ?_ ⟨0::u,0,Y,by simp;exact hu,by omega,by rw[hv0];simp,by simp;omega⟩ ?_
  ·obtain⟨r,h1,w,rfl,h2,h3,h4⟩:=alb;exact⟨w,h1,h2,h3,h4⟩
  ·rintro _ ⟨w,j,rfl,hw,hj,hwv,hwl⟩;simp only[];rw[hgi,cc];by_cases Ug:j<d
   ·left;rw[show decide ((j:Int)<(d:Int))=true by simp[Ug],gS,cc,cH (by omega) (by omega)];obtain⟨f,hf⟩:∃f,min 1024 (d-j)=f:=⟨_,Y⟩;obtain⟨j',hj',hj2⟩:∃j':Nat,(j:Int)+1024=(j':Int)/\j'=j+1024:=⟨j+1024,by omega,Y⟩;have hmu:(70000-(j':Int)).toNat<(70000-(j:Int)).toNat:=by omega
    have hwH:NJ w:=⟨hw,by omega⟩;have ar3:65536*(jM l/65536^(m+1))+min j d+f<=jM l/65536^m:=by omega
    have ar4:jM w+jM k*f<=jM l/65536^m*jM k:=by
     rw[hwv,Nat.mul_comm (jM k),<-Nat.add_mul];exact Nat.mul_le_mul_right _ ar3
    have htl:jM k*f<65536^(k.length+1):=by rw[Nat.pow_succ];exact Nat.mul_lt_mul'' hW (by omega)
    rw[show min (1024:Int) ((d:Int)-(j:Int))=(f:Int) by omega,FW _ _ hk (by omega),cc,NO _ _ hwH (NP htl (by omega)),cc,dM,hj',j1 (by omega)];refine⟨_,Y,⟨_,j',Y,λ_ hx=>ja (by decide) hx,by omega,?_,?_⟩,hmu⟩
    ·rw[dM,hwv,Nat.mul_comm (jM k),<-Nat.add_mul];congr 1;omega
    have:=(cD (B:=65536) (by decide)).2 (Nat.lt_of_le_of_lt ar4 hAW);omega
   right;rw[show decide ((j:Int)<(d:Int))=false by rw[decide_eq_false_iff_not];omega,iz];refine⟨_,Y,w,Y,hw,?_,hwl⟩;rw[hwv,show min j d=d by omega,<-hst]
  rintro _ ⟨w,rfl,h1,h2,h3⟩;exact⟨_,Y,w,Y,h1,h2,h3⟩
 rintro _ ⟨u,rfl,hu,huv,hul⟩;rw[ot _ (by omega),cc,om (by decide) hu,show val 65536 u=jM l*jM k from huv]
end
section
open Go.Fw
theorem td2{a:Nat}:Int.tdiv (a:Int) 2=((a/2:Nat):Int):=by
 rw[Int.tdiv_eq_ediv_of_nonneg (by omega)];omega
theorem abA(a b:Nat):decide (Du a b<=0)=decide (a<=b):=by
 rcases Nat.lt_trichotomy a b with h|h|h
 ·rw[xS h];simp;omega
 ·rw[h,B5];simp
 rw[Ad h];simp;omega
theorem YR{B:Nat}(hB:0<B){d:Nat}(hd:0<d)(V m:Nat):(V/B^(m+1)%d*B+V/B^m%B)/d=V/d/B^m%B:=by
 have h1:=aec (B:=B) hd V m;have h2:=abg (B:=B) hB hd V m;rw[Nat.div_div_eq_div_mul V d,Nat.mul_comm d,<-Nat.div_div_eq_div_mul,h1,Nat.mul_add_mod];symm;apply Nat.mod_eq_of_lt;rw[Nat.div_lt_iff_lt_mul hd,Nat.mul_comm B d];exact h2
theorem Ql{a b:Nat}(h:b≠0)(ha:a<=9223372036854775807):At (a:Int) (b:Int)=some ((a/b:Nat):Int):=by
 unfold At;rw[if_neg (by omega),Int.tdiv_eq_ediv_of_nonneg (by omega),<-Int.natCast_ediv,j1 (Nat.le_trans (Nat.div_le_self _ _) ha)]
theorem Qm{a b:Nat}(h:b≠0):Kk (a:Int) (b:Int)=some ((a%b:Nat):Int):=by
 unfold Kk;rw[if_neg (by omega),Int.tmod_eq_emod_of_nonneg (by omega),<-Int.natCast_emod]
theorem YS(n:Nat):List.replicate n (0:Int)=zl (gC 65536 n 0):=by rw[y7,zl,List.map_replicate];rfl
theorem Qn{W X:Nat}(hW:0<W){k:List Nat}(hk:NJ k)(hkv:jM k=W){xs:List Nat}(hx:NJ xs)(hxv:jM xs=X)(H:Nat)(hH:0<H)(hH2:H<=65536)(hXH:X<H*W){R:Type}(f:Int->Option R)(r:R)(hf:f ((X/W:Nat):Int)=some r)(J7:k.length<=90000000000):
  (b9 (λ(s54:Int×Int)=>
               match s54 with
               |⟨rC,wS⟩=>
                (show Option ((Int×Int)⊕(Int))from
                 (bif(decide ((1:Int)<(IntKind.i64.wrap (wS-rC))))then
                   (gy (zl k) (IntKind.i64.wrap (Int.tdiv (IntKind.i64.wrap (rC+wS)) 2))).bind λDS=>
                   (l9 DS (zl xs)).bind λKq=>
                   (bif(decide ((Kq:Int)<=0))then
                     some (.inl (IntKind.i64.wrap (Int.tdiv (IntKind.i64.wrap (rC+wS)) 2),wS))
                    else
                     some (.inl (rC,IntKind.i64.wrap (Int.tdiv (IntKind.i64.wrap (rC+wS)) 2))))
                  else
                   some (.inr rC)))) ((0:Int),(H:Int))).bind f=some r:=by
 refine iU (λs=>∃lo hi:Nat,s=((lo:Int),(hi:Int))/\lo<hi/\hi<=65536/\lo*W<=X/\X<hi*W) (λe=>e=((X/W:Nat):Int)) (λs=>(s.2-s.1).toNat) ?_ ⟨0,H,Y,hH,hH2,by simp,hXH⟩ (λe he=>by rw[he];exact hf);rintro _ ⟨lo,hi,rfl,h1,h2,h3,h4⟩;simp only[];rw[cH (x:=(hi:Int)-(lo:Int)) (by omega) (by omega)];by_cases Qx:1<hi-lo
 ·left;obtain⟨mid,ar5⟩:∃mid,(lo+hi)/2=mid:=⟨_,Y⟩;have hml:jM k*mid<65536^(k.length+1):=by rw[Nat.pow_succ];exact Nat.mul_lt_mul'' (Af hk) (by omega)
  rw[show decide ((1:Int)<(hi:Int)-(lo:Int))=true by rw[decide_eq_true_eq];omega,gS,rR (by omega),td2,ar5,j1 (by omega),FW _ _ hk (by omega),cc,NN _ _ (NP hml (by omega)) hx,cc,abA,dM,hkv,hxv];by_cases hle:W*mid<=X
  ·rw[show decide (W*mid<=X)=true by simp[hle],gS];exact⟨_,Y,⟨mid,hi,Y,by omega,h2,by rw[Nat.mul_comm];exact hle,h4⟩,by simp only[];omega⟩
  rw[show decide (W*mid<=X)=false by simp;omega,iz];exact⟨_,Y,⟨lo,mid,Y,by omega,by omega,h3,by rw[Nat.mul_comm];omega⟩,by simp only[];omega⟩
 right;rw[show decide ((1:Int)<(hi:Int)-(lo:Int))=false by rw[decide_eq_false_iff_not];omega,iz];refine⟨_,Y,?_⟩;have:hi=lo+1:=by omega
 subst this;have:X/W=lo:=by
  rw[Nat.div_eq_iff hW];rw[Nat.add_mul,Nat.one_mul]at h4;omega
 rw[this]
theorem TQ(V W:Nat)(hW:W≠0)(hV:(can 65536 V).length<=80000000000)(hWl:(can 65536 W).length<=80000000000):qp (zl (can 65536 V)) (zl (can 65536 W))=some (zl (can 65536 (V/W)),zl (can 65536 (V%W))):=by
 have sL:NJ (can 65536 V):=⟨λ_ hx=>ja (by decide) hx,by omega⟩;have abB:NJ (can 65536 W):=⟨λ_ hx=>ja (by decide) hx,by omega⟩;have hVl:=c6 (B:=65536) (by decide) V;have abC:=c6 (B:=65536) (by decide) W;have hW0:0<W:=by omega
 unfold qp;simp only[cc,cJ,fW];obtain⟨n,hn⟩:∃n,(can 65536 V).length=n:=⟨_,Y⟩;by_cases h3:n<=3/\(can 65536 W).length<=3
 ·rw[hn,show decide ((n:Int)<=3)=true by rw[decide_eq_true_eq];omega,gS,cc,show decide (((can 65536 W).length:Int)<=3)=true by rw[decide_eq_true_eq];omega,gS,B8 _ sL.1 (by omega),cc,B8 _ abB.1 (by omega),cc,dM,dM];have hp:V<281474976710656:=by
   rw[hn]at hVl;have h2:65536^n<=65536^3:=Nat.pow_le_pow_right (by decide) h3.1;rw[show(65536:Nat)^3=281474976710656 by decide]at h2;omega
  have hq:V/W<=V:=Nat.div_le_self _ _;have hr:V%W<=V:=Nat.mod_le _ _;rw[Ql hW (by omega),cc,JX _ (by omega),cc,cc,cc,Qm hW,cc,JX _ (by omega),cc]
 have DH:(((bif decide ((n:Int)<=3)then some (decide (((can 65536 W).length:Int)<=3))else some false):Option Bool))=some false:=by
  by_cases q1:n<=3
  ·have q2:¬(can 65536 W).length<=3:=λh=>h3 ⟨q1,h⟩;rw[show decide (((can 65536 W).length:Int)<=3)=false by rw[decide_eq_false_iff_not];omega];exact EG _ _
  rw[show decide ((n:Int)<=3)=false by rw[decide_eq_false_iff_not];omega,iz]
 rw[hn]at hVl hV;have hQ:V/W<65536^n:=Nat.lt_of_le_of_lt (Nat.div_le_self _ _) hVl;rw[hn,DH,cc,iz,yt (by decide) (by omega),cc,YS];have hlen:(can 65536 W).length≠0:=λe=>hW (EA (by decide) (List.length_eq_zero_iff.1 e));by_cases h1:(can 65536 W).length=1
 ·have hWs:W<65536:=by rw[h1]at abC;simpa using abC
  have hg0:(can 65536 W)[0]? =some W:=by rw[B3 (by decide) (by omega)];simp;exact hWs
  have hgw:=B0 (Dx hg0);rw[h1,show decide (((1:Nat):Int)=1)=true by simp,gS,cH (by omega) (by omega)];refine bG (λj=>(((V/65536^(n-j)%W:Nat):Int),(n:Int)-1-(j:Int),zl (gC 65536 n (V/W/65536^(n-j)*65536^(n-j))))) n (((V%W:Nat):Int),zl (gC 65536 n (V/W))) ?_ (λj hj=>?_) ?_ ?_
  ·rw[Nat.sub_zero,Nat.div_eq_of_lt hVl,Nat.div_eq_of_lt hQ];simp
  ·obtain⟨m,hm⟩:∃m,n=m+j+1:=⟨n-j-1,by omega⟩;have hg:(can 65536 V)[m]? =some (V/65536^m%65536):=B3 (by decide) (by omega);have Si:=YR (B:=65536) (by decide) hW0 V m;have Qc:=Yx (B:=65536) (d:=W) V m;have QD:=Nat.mod_lt (V/65536^(m+1)) hW0;have hdl:=Nat.mod_lt (V/65536^m) (show 0<65536 by decide);have hput:=NH (B:=65536) (by decide) (N:=n) (k:=m) (by omega) (V/W);rw[show n-j=m+1 by omega,show n-(j+1)=m by omega,show(n:Int)-1-(j:Int)=(m:Int) by omega,show(n:Int)-1-((j+1:Nat):Int)=(m:Int)-1 by omega];simp only[];rw[show decide ((0:Int)<=(m:Int))=true by simp,gS,bC (Dx hg),cc,hgw,cc];rw[<-Si]at hput;rw[Qc,<-hput];generalize V/65536^(m+1)%W=r at*;generalize V/65536^m%65536=d at*;rw[cH (x:=(r:Int)*65536) (by omega) (by omega),cH (x:=(r:Int)*65536+(d:Int)) (by omega) (by omega),show(r:Int)*65536+(d:Int)=((r*65536+d:Nat):Int) by omega,Ql hW (by omega),cc,cc,Qm hW,cc,cE (by rw[fW,cf];omega),cc,fz (by rw[fW,cf];omega),cc,cH (x:=(m:Int)-1) (by omega) (by omega),YK]
  ·simp only[];rw[show decide ((0:Int)<=(n:Int)-1-(n:Int))=false by rw[decide_eq_false_iff_not];omega,iz,Nat.sub_self,Nat.pow_zero,Nat.mul_one,Nat.div_one,Nat.div_one]
  simp only[];rw[ot _ (by rw[cf];omega),cc,uC (by decide) hQ,show[((V%W:Nat):Int)]=zl [V%W]from Y,ot _ (by simp),cc];have hr:=Nat.mod_lt V hW0;rw[om (B:=65536) (l:=[V%W]) (by decide) (by intro y hy;simp at hy;omega)];simp[val]
 rw[show decide (((can 65536 W).length:Int)=1)=false by rw[decide_eq_false_iff_not];omega,iz,cH (by omega) (by omega)];refine bG (λj=>(zl (can 65536 (V/65536^(n-j)%W)),(n:Int)-1-(j:Int),zl (gC 65536 n (V/W/65536^(n-j)*65536^(n-j))))) n (zl (can 65536 (V%W)),zl (gC 65536 n (V/W))) ?_ (λj hj=>?_) ?_ ?_
 ·rw[Nat.sub_zero,Nat.div_eq_of_lt hVl,Nat.div_eq_of_lt hQ];simp[w7,zl]
 ·obtain⟨m,hm⟩:∃m,n=m+j+1:=⟨n-j-1,by omega⟩;have hg:(can 65536 V)[m]? =some (V/65536^m%65536):=B3 (by decide) (by omega);have Si:=YR (B:=65536) (by decide) hW0 V m;have Qc:=Yx (B:=65536) (d:=W) V m;have QD:=Nat.mod_lt (V/65536^(m+1)) hW0;have hdl:=Nat.mod_lt (V/65536^m) (show 0<65536 by decide);have hXW:=abg (B:=65536) (by decide) hW0 V m;have hput:=NH (B:=65536) (by decide) (N:=n) (k:=m) (by omega) (V/W);rw[show n-j=m+1 by omega,show n-(j+1)=m by omega,show(n:Int)-1-(j:Int)=(m:Int) by omega,show(n:Int)-1-((j+1:Nat):Int)=(m:Int)-1 by omega];simp only[];rw[<-Si]at hput;rw[Qc,<-hput,show decide ((0:Int)<=(m:Int))=true by simp,gS,bC (Dx hg),cc];generalize V/65536^(m+1)%W=r at*;generalize V/65536^m%65536=d at*;obtain⟨X,hX⟩:∃X,r*65536+d=X:=⟨_,Y⟩;rw[hX]at hXW⊢;have hrc:(can 65536 r).length<=(can 65536 W).length:=(cD (by decide)).2 (Nat.lt_trans QD abC);have hxl:(can 65536 X).length<=(can 65536 W).length+1:=(cD (by decide)).2 (by rw[Nat.pow_succ];exact Nat.lt_trans hXW (Nat.mul_lt_mul_of_pos_right abC (by decide)));have hval:val 65536 (d::can 65536 r)=X:=by
   show d+65536*val 65536 (can 65536 r)=X;rw[oM (by decide)];omega
  have rz:NJ (can 65536 X):=⟨λ_ hx=>ja (by decide) hx,by omega⟩;rw[Ys (by decide) (by rw[fW];simp;omega),cc,show[(d:Int)]++zl (can 65536 r)=zl (d::can 65536 r)from rfl,ot _ (by simp;omega),cc,om (B:=65536) (by decide) (by intro y hy;simp at hy;rcases hy with rfl|hy;exact hdl;exact ja (by decide) hy),hval];have hqW:W*(X/W)<=X:=Nat.mul_div_le X W;have ar6:X/W<65536:=by rw[Nat.div_lt_iff_lt_mul hW0,Nat.mul_comm];exact hXW
  have YG:((gy (zl (can 65536 W)) ((X/W:Nat):Int)).bind λIu=>(jB (zl (can 65536 X)) Iu).bind λXq=>(qg (zl (gC 65536 n (V/W/65536^(m+1)*65536^(m+1)))) (m:Int)).bind λaaN=>(stM (zl (gC 65536 n (V/W/65536^(m+1)*65536^(m+1)))) aaN ((X/W:Nat):Int)).bind λl58=>(some (.inl (Xq,IntKind.i64.wrap ((m:Int)-1),l58)):Option ((List Int×Int×List Int)⊕(List Int×List Int))))=some (.inl (zl (can 65536 (X%W)),(m:Int)-1,zl ((gC 65536 n (V/W/65536^(m+1)*65536^(m+1))).set m (X/W)))):=by
   rw[FW _ _ abB ar6,cc,dM,HP _ _ rz (NP (Nat.lt_of_le_of_lt hqW (c6 (by decide) X)) (by omega)) (by rw[dM,dM];exact hqW),cc,dM,dM,cE (by rw[fW,cf];omega),cc,fz (by rw[fW,cf];omega),cc,cH (x:=(m:Int)-1) (by omega) (by omega),YK,<-Nat.mod_eq_sub_mul_div]
  rw[fW];by_cases hsh:(can 65536 X).length<(can 65536 W).length
  ·rw[show decide (((can 65536 X).length:Int)<((can 65536 W).length:Int))=true by rw[decide_eq_true_eq];omega,gS];exact Qn hW0 abB (dM W) rz (dM X) 1 (by decide) (by decide) (by rw[Nat.one_mul];exact Dv (by decide) hsh) _ _ YG (by omega)
  rw[show decide (((can 65536 X).length:Int)<((can 65536 W).length:Int))=false by rw[decide_eq_false_iff_not];omega,iz];exact Qn hW0 abB (dM W) rz (dM X) 65536 (by decide) (by decide) (by rw[Nat.mul_comm];exact hXW) _ _ YG (by omega)
 ·simp only[];rw[show decide ((0:Int)<=(n:Int)-1-(n:Int))=false by rw[decide_eq_false_iff_not];omega,iz,Nat.sub_self,Nat.pow_zero,Nat.mul_one,Nat.div_one,Nat.div_one]
 simp only[];rw[ot _ (by rw[cf];omega),cc,uC (by decide) hQ]
end
section
open Go.Fw
theorem EJ{v:Nat}:(can 65536 v).length=0↔v=0:=by
 constructor
 ·intro h;exact EA (by decide) (List.length_eq_zero_iff.1 h)
 intro h;rw[h,w7];rfl
theorem Dy{v:Nat}(h:(can 65536 v).length<=100000000000):NJ (can 65536 v):=⟨λ_ hx=>ja (by decide) hx,h⟩
theorem EK{x:Zr}(h:Wl x):fO x=some (zi x).sign:=by
 unfold fO;simp only[iW h,cc,fW];have hz:=EJ (v:=(zi x).natAbs);have hneg:x.neg=true->zi x<=0:=λe=>by unfold zi;rw[e];simp[sv]
 have hpos:x.neg=false->0<=zi x:=λe=>by unfold zi;rw[e];simp[sv]
 by_cases h0:zi x=0
 ·rw[h0];rfl
 rw[show decide (((can 65536 (zi x).natAbs).length:Int)=0)=false by rw[decide_eq_false_iff_not];omega,iz];cases hn:x.neg
 ·have:=hpos hn;rw[iz,Int.sign_eq_one_of_pos (by omega)]
 have:=hneg hn;rw[gS,Int.sign_eq_neg_one_of_neg (by omega)]
theorem abE{x y:Zr}(hx:Wl x)(hy:Wl y):uj x y=some (qc (zi x) (zi y)):=by
 have cx:=hx.U1;have cy:=hy.U1;unfold uj;simp only[zeta',EK hx,EK hy,cc,iW hx,iW hy];rw[NN _ _ (Dy (by omega)) (Dy (by omega)),dM,dM];simp only[cc];generalize zi x=i;generalize zi y=j;rw[JS];rcases Int.lt_trichotomy i 0 with h1|h1|h1<;>rcases Int.lt_trichotomy j 0 with h2|h2|h2
 ·rw[Int.sign_eq_neg_one_of_neg h1,Int.sign_eq_neg_one_of_neg h2,show(i.natAbs:Int)=-i by omega,show(j.natAbs:Int)=-j by omega,Qe];show some (IntKind.i64.wrap (0-qc j i))=_;rw[U3]
 ·rw[Int.sign_eq_neg_one_of_neg h1,show Int.sign j=0 by rw[h2];rfl,show qc i j=-1 from lC (by omega)];rfl
 ·rw[Int.sign_eq_neg_one_of_neg h1,Int.sign_eq_one_of_pos h2,show qc i j=-1 from lC (by omega)];rfl
 ·rw[show Int.sign i=0 by rw[h1];rfl,Int.sign_eq_neg_one_of_neg h2,show qc i j=1 from lD (by omega)];rfl
 ·rw[h1,h2];rfl
 ·rw[show Int.sign i=0 by rw[h1];rfl,Int.sign_eq_one_of_pos h2,show qc i j=-1 from lC (by omega)];rfl
 ·rw[Int.sign_eq_one_of_pos h1,Int.sign_eq_neg_one_of_neg h2,show qc i j=1 from lD (by omega)];rfl
 ·rw[Int.sign_eq_one_of_pos h1,show Int.sign j=0 by rw[h2];rfl,show qc i j=1 from lD (by omega)];rfl
 rw[Int.sign_eq_one_of_pos h1,Int.sign_eq_one_of_pos h2,show(i.natAbs:Int)=i by omega,show(j.natAbs:Int)=j by omega];rfl
theorem svz(x:Zr):sv x.neg (zi x).natAbs=zi x:=by rw[BH];rfl
theorem TS{x:Zr}(hx:Wl x):qt x=some (zn (-zi x)):=by
 have cx:=hx.U1;unfold qt;simp only[cc,iW hx];rw[uX _ _ (by omega),cc,JR,svz]
theorem abF{x:Zr}(hx:Wl x):uo x=some (zn ((zi x).natAbs:Int)):=by
 have cx:=hx.U1;unfold uo;simp only[cc,iW hx];rw[uX _ _ (by omega),cc,oq]
theorem abG{x y:Zr}(hx:Wl x)(hy:Wl y):ur x y=some (zn (zi x+zi y)):=by
 have cx:=hx.U1;have cy:=hy.U1;unfold ur;simp only[cc,iW hx,iW hy];have ex:=svz x;have ey:=svz y;generalize (zi x).natAbs=a at*;generalize (zi y).natAbs=b at*;have la:=c6 (B:=65536) (by decide) a;have lb:=c6 (B:=65536) (by decide) b;rw[<-ex,<-ey];generalize x.neg=n;generalize y.neg=m;by_cases hnm:n=m
 ·subst hnm;have hl:(can 65536 (a+b)).length<=max (can 65536 a).length (can 65536 b).length+1:=by
   apply(cD (by decide)).2;have h1:a<65536^max (can 65536 a).length (can 65536 b).length:=Nat.lt_of_lt_of_le la (Nat.pow_le_pow_right (by decide) (by omega));have h2:b<65536^max (can 65536 a).length (can 65536 b).length:=Nat.lt_of_lt_of_le lb (Nat.pow_le_pow_right (by decide) (by omega));rw[Nat.pow_succ];omega
  rw[show(n==n)=true by simp,gS,NO _ _ (Dy (by omega)) (Dy (by omega)),cc,dM,dM,uX _ _ (by omega),cc,show sv n (a+b)=sv n a+sv n b by cases n<;>simp[sv];omega]
 have hm:m= !n:=by cases n<;>cases m<;>simp_all
 subst hm;rw[show(n== !n)=false by cases n<;>rfl,iz,NN _ _ (Dy (by omega)) (Dy (by omega)),cc,dM,dM];by_cases hlt:b<=a
 ·have hc:decide ((0:Int)<=Du a b)=true:=by
   rw[decide_eq_true_eq];rcases Nat.lt_or_ge b a with h|h
   ·rw[Ad h];decide
   rw[show a=b by omega,B5];decide
  have hl:(can 65536 (a-b)).length<=(can 65536 a).length:=(cD (by decide)).2 (by omega);rw[hc,gS,HP _ _ (Dy (by omega)) (Dy (by omega)) (by rw[dM,dM];exact hlt),cc,dM,dM,uX _ _ (by omega),cc,show sv n (a-b)=sv n a+sv (!n) b by cases n<;>simp[sv]<;>omega]
 have hc:decide ((0:Int)<=Du a b)=false:=by rw[xS (by omega)];decide
 have hl:(can 65536 (b-a)).length<=(can 65536 b).length:=(cD (by decide)).2 (by omega);rw[hc,iz,HP _ _ (Dy (by omega)) (Dy (by omega)) (by rw[dM,dM];omega),cc,dM,dM,uX _ _ (by omega),cc,show sv (!n) (b-a)=sv n a+sv (!n) b by cases n<;>simp[sv]<;>omega]
theorem EM{x y:Zr}(hx:Wl x)(hy:Wl y):kI x y=some (zn (zi x*zi y)):=by
 have cx:=hx.U1;have cy:=hy.U1;unfold kI;simp only[cc,iW hx,iW hy];have ex:=svz x;have ey:=svz y;generalize (zi x).natAbs=a at*;generalize (zi y).natAbs=b at*;have la:=c6 (B:=65536) (by decide) a;have lb:=c6 (B:=65536) (by decide) b;have hl:(can 65536 (a*b)).length<=(can 65536 a).length+(can 65536 b).length:=by
  apply(cD (by decide)).2;rw[Nat.pow_add];exact Nat.mul_lt_mul'' la lb
 rw[abz _ _ (Dy (by omega)) (Dy (by omega)) (by omega),cc,dM,dM,uX _ _ (by omega),cc,So,ex,ey]
theorem TT{x y:Zr}(hx:Wl x)(hy:Wl y):qu x y=some (Qf (zi x) (zi y)):=by
 have cx:=hx.U1;have cy:=hy.U1;unfold qu;simp only[cc,cJ,iW hx,iW hy,fW];have ex:=svz x;have ey:=svz y;generalize (zi x).natAbs=a at*;generalize (zi y).natAbs=b at*;rw[<-ex,<-ey];generalize x.neg=n;generalize y.neg=m;by_cases h0:b=0
 ·subst h0;rw[show sv m 0=0 by cases m<;>rfl];rfl
 have Cu:(can 65536 b).length≠0:=λh=>h0 (EJ.1 h);have hm:a%b<b:=Nat.mod_lt _ (by omega);have la:=c6 (B:=65536) (by decide) a;have lb:=c6 (B:=65536) (by decide) b;obtain⟨e1,e2⟩:=YI n m (a:=a) (show 0<b by omega);have hj:sv m b≠0:=by cases m<;>simp[sv]<;>omega
 have hq:(can 65536 (a/b)).length<=(can 65536 a).length:=(cD (by decide)).2 (Nat.lt_of_le_of_lt (Nat.div_le_self _ _) la);have hr:(can 65536 (a%b)).length<=(can 65536 b).length:=(cD (by decide)).2 (Nat.lt_trans hm lb);rw[show decide (((can 65536 b).length:Int)=0)=false by rw[decide_eq_false_iff_not];omega,iz,TQ a b h0 (by omega) (by omega),cc,Qf,if_neg hj,e1,e2];simp only[fW];have hz:=EJ (v:=a%b);have hK:∀c:Bool,(decide (n=true/\0<a%b)=c)->(bif c then(kH (zl (can 65536 (a/b))) [1]).bind λpE=>(jB (zl (can 65536 b)) (zl (can 65536 (a%b)))).bind λlj=>(dZ (!(n==m)) pE).bind λx=>(dZ false lj).bind λx_1=>some ((⟨x.neg,x.w⟩:Zr),(⟨x_1.neg,x_1.w⟩:Zr),(0:Int))
   else(dZ (!(n==m)) (zl (can 65536 (a/b)))).bind λx=>(dZ false (zl (can 65536 (a%b)))).bind λx_1=>some ((⟨x.neg,x.w⟩:Zr),(⟨x_1.neg,x_1.w⟩:Zr),(0:Int)))=
   some (zn (if n=true/\0<a%b then sv (!(n==m)) (a/b+1)else sv (!(n==m)) (a/b)),zn (if n=true/\0<a%b then((b-a%b:Nat):Int)else((a%b:Nat):Int)),0):=by
  intro c hc;cases c
  ·have YJ:=of_decide_eq_false hc;rw[iz,if_neg YJ,if_neg YJ,uX _ _ (by omega),cc,uX _ _ (by omega),cc,oq]
  have YJ:=of_decide_eq_true hc;have hq1:(can 65536 (a/b+1)).length<=(can 65536 a).length+1:=by
   apply(cD (by decide)).2;have:a/b<=a:=Nat.div_le_self _ _;rw[Nat.pow_succ];omega
  have hbr:(can 65536 (b-a%b)).length<=(can 65536 b).length:=(cD (by decide)).2 (by omega);rw[gS,if_pos YJ,if_pos YJ,show[(1:Int)]=zl [1]from Y,NO _ _ (Dy (by omega)) ⟨by simp,by simp⟩,cc,dM,show jM [1]=1 by decide,HP _ _ (Dy (by omega)) (Dy (by omega)) (by rw[dM,dM];omega),cc,dM,dM,uX _ _ (by omega),cc,uX _ _ (by omega),cc,oq]
 cases n
 ·rw[iz,cc];exact hK false (by simp)
 rw[gS,cc];refine hK _ ?_;simp only[true_and];by_cases h:0<a%b
 ·rw[show decide (0<a%b)=true by simp[h],show decide ((0:Int)<((can 65536 (a%b)).length:Int))=true by rw[decide_eq_true_eq];omega]
 rw[show decide (0<a%b)=false by simp[h],show decide ((0:Int)<((can 65536 (a%b)).length:Int))=false by rw[decide_eq_false_iff_not];omega]
end
section
open Go.Fw
theorem abH{x y:Zr}(hx:Wl x)(hy:Wl y):uu x y=some (zn (Int.gcd (zi x) (zi y):Int)):=by
 have cx:=hx.U1;have cy:=hy.U1;unfold uu;simp only[cc,iW hx,iW hy];rw[Int.gcd];generalize (zi x).natAbs=a at*;generalize (zi y).natAbs=b at*;refine iU (λs=>∃c d,s=(zl (can 65536 c),zl (can 65536 d))/\Nat.gcd c d=Nat.gcd a b/\(can 65536 c).length<=20000000000/\(can 65536 d).length<=20000000000)
  (λe=>e=zl (can 65536 (Nat.gcd a b))/\(can 65536 (Nat.gcd a b)).length<=20000000000) (λs=>val 65536 (s.2.map Int.toNat)) ?_ ⟨a,b,Y,Y,cx,cy⟩ ?_
 ·rintro _ ⟨c,d,rfl,hg,hc,hd⟩;simp only[fW];have hzl:∀l:List Nat,(zl l).map Int.toNat=l:=λl=>by
   rw[zl,List.map_map];have:(Int.toNat∘λ(n:Nat)=>(n:Int))=id:=by funext n;simp
   rw[this,List.map_id]
  by_cases h0:d=0
  ·right;subst h0;rw[Nat.gcd_zero_right]at hg;subst hg;exact⟨_,Y,Y,hc⟩
  left;have Cu:(can 65536 d).length≠0:=λh=>h0 (EJ.1 h);have hm:c%d<d:=Nat.mod_lt _ (by omega);rw[show decide ((0:Int)<((can 65536 d).length:Int))=true by rw[decide_eq_true_eq];omega,gS,TQ c d h0 (by omega) (by omega),cc];refine⟨_,Y,⟨d,c%d,Y,?_,hd,?_⟩,?_⟩
  ·rw[<-hg,Nat.gcd_comm d,<-Nat.gcd_rec,Nat.gcd_comm]
  ·exact Nat.le_trans ((cD (by decide)).2 (Nat.lt_trans hm (c6 (by decide) d))) hd
  simp only[];rw[hzl,hzl,oM (by decide),oM (by decide)];exact hm
 rintro _ ⟨rfl,hl⟩;rw[uX _ _ (by omega),cc,oq]
end
section
open Go.Fw
theorem TU:qw=some (zn 1):=by
 unfold qw;simp only[zeta',cc,from_eq (x:=1) (by decide)]
section ops
variable {L M:Nat}{a b:Qr}{x y:Rat}
theorem qE(h:kp L a x)(hL:L<=10000000000):∃n d:Int,gN a=some (zn n)/\gb a=some (zn d)/\0<d/\Rat.divInt n d=x/\Fit L n/\Fit L d:=by
 have wn:=h.wn hL;have wd:=h.wd hL;have hv:=h.v;unfold gN gb;simp only[zeta',cc,EK wd,TU,TS wn,abF wd,Qh wn];unfold qv qd at hv;rcases Int.lt_trichotomy (zi a.den) 0 with h1|h1|h1
 ·refine⟨-zi a.num,-zi a.den,?_,?_,by omega,?_,h.fn.neg,h.fd.neg⟩
  ·rw[Int.sign_eq_neg_one_of_neg h1];rfl
  ·rw[Int.sign_eq_neg_one_of_neg h1,show((zi a.den).natAbs:Int)=-zi a.den by omega];rfl
  rw[Rat.neg_divInt_neg,<-hv,if_neg (by omega)]
 ·refine⟨zi a.num,1,?_,?_,by decide,?_,h.fn,B6 h.l1⟩
  ·rw[h1];rfl
  ·rw[h1];rfl
  rw[<-hv,if_pos h1]
 refine⟨zi a.num,zi a.den,?_,?_,h1,?_,h.fn,h.fd⟩
 ·rw[Int.sign_eq_one_of_pos h1];rfl
 ·rw[Int.sign_eq_one_of_pos h1,show((zi a.den).natAbs:Int)=zi a.den by omega];rfl
 rw[<-hv,if_neg (by omega)]
theorem HQ{n d:Int}(hn:Fit L n)(hd:Fit L d)(hL:L<=10000000000)(h:0<d):kJ (zn n) (zn d)=some (qn (Rat.divInt n d)):=by
 have wn:=gu hn hL;have wd:=gu hd hL;have g0:(Int.gcd n d:Int)≠0:=by
  have:0<Int.gcd n d:=Int.gcd_pos_of_ne_zero_right _ (by omega);omega
 have wg:Wl (zn (Int.gcd n d:Int)):=gu (hd.le (by
  have:=Nat.le_of_dvd (Int.natAbs_pos.2 (show d≠0 by omega)) (Int.gcd_dvd_natAbs_right n d);simpa using this)) hL
 have wq:Wl (zn (d/(Int.gcd n d:Int))):=gu (hd.le (Int.natAbs_ediv_le_natAbs _ _)) hL;have one:gD 1:=by decide
 unfold kJ;simp only[zeta',cc,abH wn wd,TT wn wg,TT wd wg,TU,gp];rw[Qf,if_neg g0,Qf,if_neg g0];simp only[];rw[abE wq (YL one),cc,gp,gp,FV h];by_cases e:d/(Int.gcd n d:Int)=1
 ·rw[e,vR,if_pos rfl];rfl
 have:qc (d/(Int.gcd n d:Int)) 1≠0:=by
  rcases Int.lt_trichotomy (d/(Int.gcd n d:Int)) 1 with q|q|q
  ·rw[lC q];decide
  ·exact absurd q e
  rw[lD q];decide
 rw[decide_eq_false this,iz,if_neg e]
theorem kp.YT(ha:kp L a x)(h:L<=10000000000):m9 a=some (qn x):=by
 obtain⟨n,d,e1,e2,h1,h2,f1,f2⟩:=qE ha h;unfold m9;simp only[zeta',rV,pq,e1,e2,cc,HQ f1 f2 h h1,h2]
theorem aht(h1:a.num.w.length<=100000000000)(h2:a.den.w.length<=100000000000):∃c,wV a b=some c/\(c=true↔a=b):=by
 obtain⟨c1,e1,k1⟩:=TL (x:=a.num) (y:=b.num) h1;obtain⟨c2,e2,k2⟩:=TL (x:=a.den) (y:=b.den) h2;unfold wV;simp only[zeta',cc,cJ,e1,e2];have hab:a=b↔a.num=b.num/\a.den=b.den:=by
  constructor
  ·rintro rfl;exact⟨rfl,rfl⟩
  rintro⟨e1,e2⟩;rw[<-pq a,<-pq b,e1,e2]
 rw[hab,<-k1,<-k2];cases c1
 ·exact⟨false,Y,by simp⟩
 exact⟨c2,Y,by simp⟩
theorem EN{n:Int}(hn:gD n):iI n=some (qn (n:Rat)):=by
 unfold iI;simp only[zeta',cc,from_eq hn];rw[YO]
theorem kp.ahu(ha:kp L a x)(h:L<=10000000000):n8 a=some (qn (-x)):=by
 obtain⟨n,d,e1,e2,h1,h2,f1,f2⟩:=qE ha h;unfold n8;simp only[zeta',rV,pq,e1,e2,cc,TS (gu f1 h),gp,HQ f1.neg f2 h h1];rw[<-Rat.neg_divInt,h2]
theorem kp.abI(ha:kp L a x)(hb:kp M b y)(h:L+M<=4000000000):mc a b=some (qn (x+y)):=by
 obtain⟨n,d,e1,e2,h1,h2,f1,f2⟩:=qE ha (by omega);obtain⟨m,c,e3,e4,h3,h4,f3,f4⟩:=qE hb (by omega);unfold mc;have u1:=(f1.mul f4);have u2:=(f3.mul f2).mono (show M+L<=L+M by omega);simp only[zeta',rV,pq,e1,e2,e3,e4,cc,EM (gu f1 (by omega)) (gu f4 (by omega)),EM (gu f3 (by omega)) (gu f2 (by omega)),gp,abG (gu u1 (by omega)) (gu u2 (by omega)),EM (gu f2 (by omega)) (gu f4 (by omega)),HQ (u1.add u2) ((f2.mul f4).mono (by omega)) (show L+M+1<=10000000000 by omega) (Int.mul_pos h1 h3)];rw[<-h2,<-h4,Rat.divInt_add_divInt _ _ (by omega) (by omega)]
theorem kp.ar7(ha:kp L a x)(hb:kp M b y)(h:L+M<=4000000000):uw a b=some (qn (x-y)):=by
 unfold uw;have r:kp M (qn (-y)) (-y):=hb.fq.neg.rep hb.l1;simp only[zeta',rV,pq,hb.ahu (by omega),cc,ha.abI r h];rw[<-Rat.sub_eq_add_neg]
theorem kp.YU(ha:kp L a x)(hb:kp M b y)(h:L+M<=4000000000):kK a b=some (qn (x*y)):=by
 obtain⟨n,d,e1,e2,h1,h2,f1,f2⟩:=qE ha (by omega);obtain⟨m,c,e3,e4,h3,h4,f3,f4⟩:=qE hb (by omega);unfold kK;simp only[zeta',rV,pq,e1,e2,e3,e4,cc,EM (gu f1 (by omega)) (gu f3 (by omega)),gp,EM (gu f2 (by omega)) (gu f4 (by omega)),HQ (f1.mul f3) (f2.mul f4) (show L+M<=10000000000 by omega) (Int.mul_pos h1 h3)];rw[<-h2,<-h4,Rat.divInt_mul_divInt]
theorem kp.Qo(ha:kp L a x)(h:L<=10000000000):jm a=some (pg x 0):=by
 obtain⟨n,d,e1,e2,h1,h2,f1,f2⟩:=qE ha h;unfold jm;simp only[zeta',rV,pq,e1,cc,EK (gu f1 h),gp];rw[<-h2,<-xT h1]
theorem YV(x y:Rat):pg (x-y) 0=pg x y:=by
 unfold pg;by_cases h:x<y
 ·rw[if_pos h,if_pos (by grind)]
 rw[if_neg h,if_neg (by grind)];by_cases h2:x=y
 ·rw[if_pos h2,if_pos (by grind)]
 rw[if_neg h2,if_neg (by grind)]
theorem kp.ar8(ha:kp L a x)(hb:kp M b y)(h:L+M<=4000000000):uy a b=some (pg x y):=by
 unfold uy;have r:kp (L+M+1) (qn (x-y)) (x-y):=(ha.fq.sub hb.fq).rep (by omega);simp only[zeta',rV,pq,ha.ar7 hb h,cc,r.Qo (by omega),YV]
theorem kp.ar9(ha:kp L a x)(hb:kp M b y)(h:L+M<=4000000000)(h0:y≠0):ux a b=some (qn (x/y),0):=by
 obtain⟨m,c,e3,e4,h3,h4,f3,f4⟩:=qE hb (by omega);have hm:m≠0:=λe=>h0 (by rw[<-h4,e,Rat.zero_divInt]);have rp:=YP hm f4 f3 hb.l1;have r:=rp.fq.rep hb.l1;unfold ux;simp only[zeta',rV,pq,hb.Qo (show M<=10000000000 by omega),e3,e4,cc,rp.YT (show M<=10000000000 by omega),ha.YU r h];rw[decide_eq_false (λe=>h0 (nk.1 e)),iz,Rat.div_def,<-h4,Rat.inv_divInt]
end ops
end
section
open Go.Fw
theorem bW{J R:Type}{f:J->Option R}{g:(J->Option R)->Option R}{r:Option R}(h:g f=r):cJ f g=r:=h
theorem xV{J R:Type}(f:J->Option R)(g:(J->Option R)->Option R):cJ f g=g f:=rfl
section ops
variable {K L M:Nat}{c:Qr}{a b:List Qr}{k:Rat}{f g:Nat->Rat}
theorem Qp(ha:eP L a f)(h:L<=10000000000)(m:Nat)(hm:m<=65536){body:Int×List Qr->Option ((Int×List Qr)⊕List Qr)}
  (hb:∀s,body s=(some (decide (s.1<((min a.length m:Nat):Int)))).bind λeE=>(bif eE then(cM a s.1).bind λq=>(dP q).bind λw=>(qg s.2 s.1).bind λir=>(stM s.2 ir w).bind λCc=>(some (IntKind.i64.wrap (s.1+1))).bind λlp=>some (.inl (lp,Cc))else some (.inr s.2))):
  (b9 body (0,List.replicate m qz)).bind (λr=>some r)=some (vq m f):=by
 refine bG (λj=>((j:Int),vq j f++List.replicate (m-j) qz)) (min a.length m) (vq m f) Y (λj hj=>?_) ?_ Y
 ·obtain⟨q,hq,rq⟩:=ha.get (show j<a.length by omega);rw[hb];refine aB Y<|bN (decide_eq_true (by show(j:Int)<_;omega))<|aB (bC hq)<|aB (rq.canon h).1<|aB (cE (by rw[Ae (by omega)];omega))<|aB (fz (by rw[Ae (by omega)];omega))<|aB Y ?_;rw[NM (by omega),bM (by omega)]
 rw[hb];refine aB Y<|bA (decide_eq_false (by show ¬((min a.length m:Nat):Int)<_;omega)) ?_;rw[ahr (by omega) (λi h1 h2=>ha.z i (by omega))]
theorem TV(ha:eP L a f)(h:L<=10000000000)(la:a.length<=1000000)(n:Int):mE a n=some (vq (min n 65536).toNat f):=by
 unfold mE;refine aB Y ?_;by_cases hn:n<1
 ·refine bN (decide_eq_true hn) ?_;rw[show(min n 65536).toNat=0 by omega];rfl
 refine bA (decide_eq_false hn) ?_;obtain⟨m,hm⟩:∃m:Nat,min n 65536=(m:Int):=⟨(min n 65536).toNat,by omega⟩;rw[hm];refine aB Y<|aB (yt (by omega) (by omega))<|aB Y<|aB Y<|aB (congrArg some (aby a _)) ?_;rw[List.length_replicate];refine Qp ha h m (by omega) (λs=>?_);obtain⟨i,l⟩:=s;rfl
theorem EO{l:List Int}(hl:∀x∈l,gD x)(h:l.length<=1000000):dQ l=some (vq l.length λi=>((l.getD i 0:Int):Rat))/\eP 2 (vq l.length λi=>((l.getD i 0:Int):Rat)) (λi=>((l.getD i 0:Int):Rat)):=by
 have hx:∀i,gD (l.getD i 0):=λi=>by
  by_cases hi:i<l.length
  ·rw[List.getD_eq_getElem?_getD,List.getElem?_eq_getElem hi];exact hl _ (List.getElem_mem hi)
  rw[List.getD_eq_getElem?_getD,List.getElem?_eq_none (by omega)];decide
 refine⟨?_,qe (λi _=>(kR (hx i)).2.fq) (λi hi=>?_) (by decide)⟩
 ·unfold dQ;refine aB Y<|aB (yt (by omega) (by omega))<|aB Y ?_;refine bG (λj=>((j:Int),vq j (λi=>((l.getD i 0:Int):Rat))++List.replicate (l.length-j) qz)) l.length (vq l.length λi=>((l.getD i 0:Int):Rat)) Y (λj hj=>?_) ?_ Y
  ·have e3:=(kR (hx j)).1;have h4:=NM (h:=λi=>((l.getD i 0:Int):Rat)) hj;obtain⟨q3,h3⟩:∃q,qn ((l.getD j 0:Int):Rat)=q:=⟨_,Y⟩;rw[h3]at e3 h4;obtain⟨⟨_,_⟩,⟨_,_⟩⟩:=q3;refine aB Y<|bN (decide_eq_true (by omega))<|aB (bC (gW hj))<|aB e3<|aB (cE (by rw[Ae (by omega)];exact hj))<|aB (fz (by rw[Ae (by omega)];exact hj))<|aB Y ?_;rw[bM (by omega),h4]
  refine aB Y<|bA (decide_eq_false (by omega)) ?_;simp
 show((l.getD i 0:Int):Rat)=0;rw[kq hi];rfl
theorem YW(m:Nat)(k:Int)(hk:0<=k->k<m):eP 1 (vq m λi=>if(i:Int)=k then 1 else 0) (λi=>if(i:Int)=k then 1 else 0):=by
 refine qe (λi _=>?_) (λi hi=>?_) (by omega)
 ·show FQ 1 (if(i:Int)=k then 1 else 0);split
  ·exact FQ.int (i:=1) (B6 (by omega)) (by omega)
  exact mP (by omega)
 show(if(i:Int)=k then(1:Rat)else 0)=0;rw[if_neg (by omega)]
theorem BK(a:List Qr)(i:Nat):g9 a (i:Int)=some (a.getD i (⟨⟨false,[]⟩,⟨false,[]⟩⟩:Qr)):=by
 unfold g9;rw[xV];refine aB Y<|aB (a:=decide ((i:Int)<(a.length:Int))) ?_ ?_
 ·exact bN (decide_eq_true (show(0:Int)<=(i:Int) by omega)) Y
 by_cases h:i<a.length
 ·refine bN (decide_eq_true (by omega)) ?_;have:=gW (l:=a) (d:=(⟨⟨false,[]⟩,⟨false,[]⟩⟩:Qr)) h;generalize a.getD i (⟨⟨false,[]⟩,⟨false,[]⟩⟩:Qr)=q at this⊢;obtain⟨⟨_,_⟩,⟨_,_⟩⟩:=q;exact aB (bC this) Y
 refine bA (decide_eq_false (by omega)) ?_;rw[kq (by omega)]
theorem abJ{a:List Qr}(h:∀q∈a,q.num.w.length<=100000000000/\q.den.w.length<=100000000000)(hl:a.length<=100000000000):jU a a=some true:=by
 unfold jU;refine aB Y<|aB Y<|aB Y<|bA (decide_eq_false (by simp)) ?_;refine bG (λj=>(j:Int)) a.length (.inl ()) Y (λj hj=>?_) ?_ Y
 ·have hq:=List.getElem?_eq_getElem hj;have hm:=h _ (List.getElem_mem hj);generalize a[j]=q at hq hm;obtain⟨c,e,k⟩:=aht (a:=q) (b:=q) hm.1 hm.2;rw[k.2 rfl]at e;obtain⟨⟨_,_⟩,⟨_,_⟩⟩:=q;refine aB Y<|aB Y<|bN (decide_eq_true (by omega))<|aB (bC hq)<|aB (bC hq)<|aB e<|aB Y<|bA Y<|aB Y ?_;rw[bM (by omega)]
 exact aB Y<|aB Y<|bA (decide_eq_false (by omega)) Y
theorem eP.ris(ha:eP L a f)(h:L<=100000000000)(hl:a.length<=100000000000):jU a a=some true:=by
 refine abJ (λq hq=>?_) hl;obtain⟨i,hi,rfl⟩:=List.mem_iff_getElem.1 hq;have:=ha.e i hi;exact⟨Nat.le_trans this.ln h,Nat.le_trans this.ld h⟩
theorem JY{α β:Type}(a:List α)(b:List β)(j:Nat):((bif decide ((j:Int)<(a.length:Int))then some true else(some (b.length:Int)).bind λeX=>(some (decide ((j:Int)<eX))).bind λdR=>some dR):Option Bool)=some (decide (j<max a.length b.length)):=by
 rw[cc,cc];by_cases h:j<a.length
 ·rw[decide_eq_true (show(j:Int)<a.length by omega),gS,decide_eq_true (by omega)]
 rw[decide_eq_false (show ¬(j:Int)<a.length by omega),iz];by_cases h':j<b.length
 ·rw[decide_eq_true (show(j:Int)<b.length by omega),decide_eq_true (by omega)]
 rw[decide_eq_false (show ¬(j:Int)<b.length by omega),decide_eq_false (by omega)]
theorem TW(hc:kp K c k)(ha:eP L a f)(hb:eP M b g)(h:K+L+M<=4000000000)(la:a.length<=1000000)(lb:b.length<=1000000):gO c a b=some (vq (max a.length b.length) λi=>k*f i+g i):=by
 unfold gO;obtain⟨⟨_,_⟩,⟨_,_⟩⟩:=c;refine bG (λj=>((j:Int),vq j (λi=>k*f i+g i))) (max a.length b.length) (vq (max a.length b.length) λi=>k*f i+g i) Y (λj hj=>?_) ?_ Y
 ·refine aB (JY a b j) ?_;refine bN (decide_eq_true hj) ?_;have a1:=BK a j;have a2:=BK b j;have e1:=hc.YU (ha.gd j) (by omega);have e3:=((hc.mul (ha.gd j) (by omega)).2.abI (hb.gd j) (by omega));generalize a.getD j (⟨⟨false,[]⟩,⟨false,[]⟩⟩:Qr)=q1 at e1 a1;generalize b.getD j (⟨⟨false,[]⟩,⟨false,[]⟩⟩:Qr)=q2 at e3 a2;obtain⟨⟨_,_⟩,⟨_,_⟩⟩:=q1;obtain⟨⟨_,_⟩,⟨_,_⟩⟩:=q2;generalize qn (k*f j)=q4 at e1 e3;obtain⟨⟨_,_⟩,⟨_,_⟩⟩:=q4;obtain⟨q3,h3⟩:∃q,qn (k*f j+g j)=q:=⟨_,Y⟩;rw[mO,h3];rw[h3]at e3;obtain⟨⟨_,_⟩,⟨_,_⟩⟩:=q3;refine aB a1<|aB e1<|aB a2<|aB e3<|aB (nq (by omega) (by rw[bZ];omega))<|aB Y ?_;rw[bM (by omega)]
 refine aB (JY a b _) ?_;exact bA (decide_eq_false (by omega)) Y
theorem YX(ha:eP L a f)(hb:eP M b g)(h:L+M+2<=4000000000)(la:a.length<=1000000)(lb:b.length<=1000000):qx a b=some (vq (max a.length b.length) λi=>f i-g i):=by
 unfold qx;have e:=EN (n:=-1) (by decide);have r:=(kR (n:=-1) (by decide)).2;have e2:=TW r hb ha (by omega) lb la;generalize qn ((-1:Int):Rat)=q at e r e2;obtain⟨⟨_,_⟩,⟨_,_⟩⟩:=q;refine aB e<|aB e2 ?_;rw[Nat.max_comm,dI (k:=λi=>f i-g i) (λi _=>by show((-1:Int):Rat)*g i+f i=_;grind)]
theorem Su(hc:kp K c k)(ha:eP L a f)(h:K+L+1<=4000000000)(la:a.length<=1000000):o5 c a=some (vq a.length λi=>k*f i):=by
 unfold o5;have e2:=TW hc ha (eP.nil (L:=1) (by omega)) (by omega) la (by simp);obtain⟨⟨_,_⟩,⟨_,_⟩⟩:=c;refine aB e2 ?_;rw[show max a.length ([]:List Qr).length=a.length by simp,dI (k:=λi=>k*f i) (λi _=>by grind)]
end ops
end
section
open Go.Fw
theorem YY(l:List Qr)(hl:l.length<=1000000):∃b,rH l=some b/\(b=false->∀q∈l,q.num.w.length<=6/\q.den.w.length<=6):=by
 unfold rH;simp only[cc];refine mN (λy=>∃i:Nat,y=(i:Int)/\i<=l.length/\∀z∈l.take i,z.num.w.length<=6/\z.den.w.length<=6) (λe=>(∃c,e=.inl c/\∀z∈l,z.num.w.length<=6/\z.den.w.length<=6)\/e=.inr true) (λy=>l.length-y.toNat) ?_ ⟨0,Y,by omega,by simp⟩ ?_
 ·rintro _ ⟨i,rfl,hi,ht⟩;by_cases hlt:i<l.length
  ·have g:l[i]? =some l[i]:=by simp
   obtain⟨q,hq⟩:∃q,l[i]=q:=⟨_,Y⟩;rw[hq]at g;obtain⟨z,w⟩:=q;obtain⟨b,hb,-⟩:=abv [z,w] (by simp);rw[show decide ((i:Int)<(l.length:Int))=true by simp[hlt],gS];simp only[bC g,cc,zeta',cJ,hb];cases b
   ·rw[iz,cc];by_cases h1:6<z.w.length
    ·right;rw[decide_eq_true (by omega),gS,cc,gS];exact⟨_,Y,.inr Y⟩
    rw[decide_eq_false (by omega),iz,cc];by_cases h2:6<w.w.length
    ·right;rw[decide_eq_true (by omega),gS];exact⟨_,Y,.inr Y⟩
    left;rw[decide_eq_false (by omega),iz,bM (by omega)];refine⟨_,Y,⟨i+1,Y,hlt,?_⟩,by omega⟩;rw[List.take_add_one,g];intro u hu;rcases List.mem_append.1 hu with h|h
    ·exact ht u h
    simp at h;rw[h];exact⟨by simp only[];omega,by simp only[];omega⟩
   right;exact⟨_,Y,.inr Y⟩
  right;rw[show decide ((i:Int)<(l.length:Int))=false by simp;omega,iz];rw[List.take_of_length_le (by omega)]at ht;exact⟨_,Y,.inl ⟨_,Y,ht⟩⟩
 rintro e (⟨c,rfl,he⟩|rfl)
 ·exact⟨false,Y,λ_=>he⟩
 exact⟨true,rfl,λh=>by cases h⟩
abbrev OkQ(q:Qr):Prop:=OkZ q.num/\OkZ q.den
theorem YZ{q:Qr}{L:Nat}(h:OkQ q)(h1:q.num.w.length<=L)(h2:q.den.w.length<=L)(hL:1<=L):kp L q (qv q):=⟨h.1.2.2,h.2.2.2,h1,h2,hL,Y⟩
end
section
open Go.Fw
theorem dT{p:Prop}[Decidable p](h:p):(some (decide p):Option Bool)=some true:=congrArg some (decide_eq_true h)
theorem dF{p:Prop}[Decidable p](h:¬p):(some (decide p):Option Bool)=some false:=congrArg some (decide_eq_false h)
theorem Y0{β:Type}{x:Option Bool}{f:Bool->Option β}{r:Option β}{y:Option Bool}(h:x=some true)(hf:f true=r):(bif true then x else y).bind f=r:=by rw[gS,h];exact hf
theorem Kc{β:Type}{b c:Bool}{x:Option Bool}{f:Bool->Option β}{r:Option β}(h:b=false->x=some c)(hf:f (b||c)=r):(bif b then some true else x).bind f=r:=by
 cases b
 ·rw[iz,h rfl];exact hf
 rw[gS];exact hf
theorem Y1{β:Type}{b c:Bool}{x:Option Bool}{f:Bool->Option β}{r:Option β}(h:b=true->x=some c)(hf:f (b&&c)=r):(bif b then x else some false).bind f=r:=by
 cases b
 ·rw[iz];exact hf
 rw[gS,h rfl];exact hf
section ops
variable {K L M:Nat}{a b c:Qr}{x y z:Rat}
end ops
theorem eP.val{L:Nat}{v:List Qr}{f:Nat->Rat}(h:eP L v f)(i:Nat):f i=NK v i:=(h.at i).v.symm
abbrev OkV(v:List Qr):Prop:=v.length<=9223372036854775807/\∀q∈v,OkQ q
end
section
open Go.Fw
def zh{α:Type}(f:Nat->α)(n k:Nat)(z:α):List α:=(List.range k).map f++List.replicate (n-k) z
theorem L2{α:Type}{f:Nat->α}{n k:Nat}{z:α}(hk:k<=n):(zh f n k z).length=n:=by simp[zh];omega
theorem JZ{α:Type}{f:Nat->α}{n:Nat}{z:α}:zh f n 0 z=List.replicate n z:=by simp[zh]
theorem L3{α:Type}{f:Nat->α}{n:Nat}{z:α}:zh f n n z=(List.range n).map f:=by simp[zh]
theorem L4{α:Type}{f:Nat->α}{n k:Nat}{z:α}(hk:k<n):(zh f n k z).set k (f k)=zh f n (k+1) z:=by
 unfold zh;rw[show n-k=(n-(k+1))+1 by omega,List.replicate_succ,List.set_append_right _ _ (by simp),List.length_map,List.length_range,Nat.sub_self,List.range_succ,List.map_append,List.append_assoc];rfl
def mq(n:Nat)(ln:Nat->Nat)(F:Nat->Nat->Rat):List (List Qr):=(List.range n).map λi=>vq (ln i) (F i)
theorem cK(n:Nat)(ln:Nat->Nat)(F:Nat->Nat->Rat):(mq n ln F).length=n:=by simp[mq]
theorem fD{n i:Nat}{ln:Nat->Nat}{F:Nat->Nat->Rat}(hi:i<n):(mq n ln F)[i]? =some (vq (ln i) (F i)):=by simp[mq,hi]
theorem TX{n i:Nat}{ln:Nat->Nat}{F:Nat->Nat->Rat}(hi:i<n):(mq n ln F).getD i []=vq (ln i) (F i):=by rw[List.getD_eq_getElem?_getD,fD hi];rfl
theorem jh{n:Nat}{ln ln':Nat->Nat}{F G:Nat->Nat->Rat}(h:∀i,i<n->ln i=ln' i/\∀k,k<ln i->F i k=G i k):mq n ln F=mq n ln' G:=by
 unfold mq;apply List.map_congr_left;intro i hi;obtain⟨h1,h2⟩:=h i (List.mem_range.1 hi);rw[dI h2,h1]
structure kg (L:Nat) (m:List (List Qr)) (F:Nat->Nat->Rat):Prop where
 e:∀i v,m[i]? =some v->eP L v (F i)
 z:∀i,m.length<=i->∀k,F i k=0
 l1:1<=L
theorem kg.row{L:Nat}{m:List (List Qr)}{F:Nat->Nat->Rat}(h:kg L m F)(i:Nat):eP L (m.getD i []) (F i):=by
 by_cases hi:i<m.length
 ·rw[List.getD_eq_getElem?_getD,List.getElem?_eq_getElem hi];exact h.e i _ (List.getElem?_eq_getElem hi)
 rw[List.getD_eq_getElem?_getD,List.getElem?_eq_none (by omega)];exact(eP.nil h.l1).congr (λk=>(h.z i (by omega) k).symm)
theorem yx{L n:Nat}{ln:Nat->Nat}{F:Nat->Nat->Rat}(hf:∀i,i<n->∀k,k<ln i->FQ L (F i k))(hz:∀i,i<n->∀k,ln i<=k->F i k=0)(hz':∀i,n<=i->∀k,F i k=0)(h1:1<=L):kg L (mq n ln F) F:=by
 refine⟨λi v e=>?_,λi hi=>hz' i (by rwa[cK]at hi),h1⟩;have hi:i<n:=by have:=(List.getElem?_eq_some_iff.1 e).1;rwa[cK]at this
 rw[fD hi]at e;cases e;exact qe (hf i hi) (hz i hi) h1
def Sv(m:List (List Qr))(i:Nat):Nat->Rat:=NK (m.getD i [])
theorem abK{L:Nat}{m:List (List Qr)}(h:∀v∈m,eP L v (NK v))(h1:1<=L):kg L m (Sv m):=by
 refine⟨λi v e=>?_,λi hi k=>?_,h1⟩
 ·have:Sv m i=NK v:=by unfold Sv;rw[List.getD_eq_getElem?_getD,e];rfl
  rw[this];exact h v (List.mem_of_getElem? e)
 unfold Sv;rw[List.getD_eq_getElem?_getD,List.getElem?_eq_none hi];exact(eP.nil (L:=1) (by decide)).val k |>.symm
theorem mkm{n:Nat}(h:n<=1000000):J9 24 ((n:Nat):Int) ([]:List Qr)=some (List.replicate n []):=yt (by decide) (by omega)
theorem Y2(n:Nat)(h:n<=1000000):J9 64 ((n:Nat):Int) (⟨⟨false,[]⟩,⟨false,[]⟩⟩:Qr)=some (List.replicate n ⟨⟨false,[]⟩,⟨false,[]⟩⟩):=yt (by omega) (by omega)
theorem Sw{E:Type}{body:Nat->Unit->Option (Unit⊕E)}{n:Nat}{p:Nat->Prop}[DecidablePred p]{e:E}(h:∀k,k<n->body k ()=some (if p k then .inl ()else .inr e)):vX body n ()=some (if ∀k,k<n->p k then .inl ()else .inr e):=by
 induction n with
 |zero=>rw[vX,if_pos (λk hk=>by omega)]
 |succ n ih=>
  rw[vX,ih (λk hk=>h k (by omega))];by_cases h1:∀k,k<n->p k
  ·rw[if_pos h1];show body n ()=_;rw[h n (by omega)];by_cases h2:p n
   ·rw[if_pos h2,if_pos];intro k hk;rcases Nat.lt_or_ge k n with q|q
    ·exact h1 k q
    obtain rfl:k=n:=by omega
    exact h2
   rw[if_neg h2,if_neg (λq=>h2 (q n (by omega)))]
  rw[if_neg h1,if_neg (λq=>h1 (λk hk=>q k (by omega)))];rfl
section ops
variable {K L M:Nat}{c:Qr}{k:Rat}{a b:List (List Qr)}{F G:Nat->Nat->Rat}{x:List Qr}{f:Nat->Rat}
theorem abL(a:List (List Qr))(i:Nat):yR a (i:Int)=some (a.getD i []):=by
 unfold yR;refine bW<|aB (dF (by omega)) ?_;by_cases h:i<a.length
 ·exact aB (a:=false) (bA Y<|aB Y<|aB (dF (by omega)) Y)<|bA Y<|aB (bC (gW h)) Y
 rw[kq (by omega)];exact aB (a:=true) (bA Y<|aB Y<|aB (dT (by omega)) Y)<|bN Y Y
def qF(m:List (List Qr)):Nat:=m.foldl (λn v=>max n v.length) 0
theorem xe{m:List (List Qr)}{n:Nat}:qF m<=n↔∀v∈m,v.length<=n:=by
 have key:∀(l:List (List Qr)) (s:Nat),l.foldl (λn v=>max n v.length) s<=n↔s<=n/\∀v∈l,v.length<=n:=by
  intro l
  induction l with
  |nil=>intro s;simp
  |cons v l ih=>
   intro s;rw[List.foldl_cons,ih];simp only[List.mem_cons,forall_eq_or_imp];constructor
   ·rintro⟨h1,h2⟩;exact⟨by omega,by omega,h2⟩
   rintro⟨h1,h2,h3⟩;exact⟨by omega,h3⟩
 unfold qF;rw[key];simp
theorem TY(m:List (List Qr))(h:m.length<=9223372036854775806):sJ m=some (qF m:Int):=by
 unfold sJ;refine aB Y ?_;refine bG (λj=>(((m.take j).foldl (λn v=>max n v.length) 0:Nat),(j:Int))) m.length ((qF m:Nat):Int) (by simp) (λj hj=>?_) ?_ Y
 ·refine aB (dT (by omega))<|bN Y<|aB (bC (List.getElem?_eq_getElem hj))<|aB Y<|aB Y<|aB (congrArg some (bM (by omega))) ?_;rw[List.take_add_one,List.getElem?_eq_getElem hj,List.foldl_append];simp only[Option.toList_some,List.foldl_cons,List.foldl_nil];congr 3;omega
 refine aB (dF (by omega))<|bA Y ?_;rw[List.take_length];rfl
theorem ahv(h:kg L a F)(hL:L<=10000000000)(i j:Nat):Bf a (i:Int) (j:Int)=some (qn (F i j)):=by
 unfold Bf;refine aB (abL a i)<|bW<|aB (dF (by omega)) ?_;have hr:=h.row i;generalize a.getD i []=v at hr;by_cases hj:j<v.length
 ·obtain⟨q,e1,r1⟩:=hr.get hj;have e2:=(r1.canon hL).1;exact aB (a:=false) (bA Y<|aB Y<|aB (dF (by omega)) Y)<|bA Y<|aB (bC e1)<|aB e2 Y
 rw[hr.z j (by omega)];exact aB (a:=true) (bA Y<|aB Y<|aB (dT (by omega)) Y)<|bN Y Y
theorem ahw(hc:kp K c k)(h:kg L a F)(hL:K+L<=4000000000)(hn:a.length<=1000000)(hw:∀v∈a,v.length<=1000000):
  ud c a=some (mq a.length (λi=>(a.getD i []).length) (λi j=>k*F i j))/\kg (K+L) (mq a.length (λi=>(a.getD i []).length) (λi j=>k*F i j)) (λi j=>k*F i j):=by
 have hw':∀i,(a.getD i []).length<=1000000:=λi=>by
  by_cases hi:i<a.length
  ·exact hw _ (List.mem_of_getElem? (gW (d:=[]) hi))
  rw[kq (by omega)];decide
 constructor
 ·unfold ud;refine aB Y<|aB (mkm hn)<|aB Y ?_;refine bG (λj=>((j:Int),zh (λi=>vq (a.getD i []).length (λj=>k*F i j)) a.length j [])) a.length (mq a.length (λi=>(a.getD i []).length) (λi j=>k*F i j)) (by rw[JZ];rfl) (λj hj=>?_) ?_ Y
  ·have e1:=(St hc (h.row j) hL (hw' j)).1;have hl:(zh (λi=>vq (a.getD i []).length (λj=>k*F i j)) a.length j []).length=a.length:=L2 (by omega);refine aB (dT (by omega))<|bN Y<|aB (bC (gW (d:=[]) hj))<|aB e1<|aB (cE (show j<_ by rw[hl];exact hj))<|aB (fz (show j<_ by rw[hl];exact hj))<|aB (congrArg some (bM (by omega))) ?_;rw[<-L4 hj]
  refine aB (dF (by omega))<|bA Y ?_;rw[L3];rfl
 refine yx (λi hi j hj=>?_) (λi hi j hj=>by rw[(h.row i).z j hj];grind) (λi hi j=>by rw[h.z i hi j];grind) (by have:=h.l1;omega);exact(St hc (h.row i) hL (hw' i)).2.fq j
theorem aej{l:List (List Int)}(hl:∀v∈l,v.length<=1000/\∀y∈v,gD y)(hn:l.length<=1000):lQ l=some (mq l.length (λi=>(l.getD i []).length) (λi j=>(((l.getD i []).getD j 0:Int):Rat)))/\kg 2 (mq l.length (λi=>(l.getD i []).length) (λi j=>(((l.getD i []).getD j 0:Int):Rat))) (λi j=>(((l.getD i []).getD j 0:Int):Rat)):=by
 have hw:∀i,(l.getD i []).length<=1000/\∀y∈l.getD i [],gD y:=λi=>by
  by_cases hi:i<l.length
  ·exact hl _ (List.mem_of_getElem? (gW (d:=[]) hi))
  rw[kq (by omega)];simp
 constructor
 ·unfold lQ;refine aB Y<|aB (mkm (by omega))<|aB Y ?_;refine bG (λj=>((j:Int),zh (λi=>vq (l.getD i []).length (λj=>(((l.getD i []).getD j 0:Int):Rat))) l.length j [])) l.length (mq l.length (λi=>(l.getD i []).length) (λi j=>(((l.getD i []).getD j 0:Int):Rat))) (by rw[JZ];rfl) (λj hj=>?_) ?_ Y
  ·have e1:=(EO (hw j).2 (by have:=(hw j).1;omega)).1;have hl:(zh (λi=>vq (l.getD i []).length (λj=>(((l.getD i []).getD j 0:Int):Rat))) l.length j []).length=l.length:=L2 (by omega);refine aB (dT (by omega))<|bN Y<|aB (bC (gW (d:=[]) hj))<|aB e1<|aB (cE (show j<_ by rw[hl];exact hj))<|aB (fz (show j<_ by rw[hl];exact hj))<|aB (congrArg some (bM (by omega))) ?_;rw[<-L4 hj]
  refine aB (dF (by omega))<|bA Y ?_;rw[L3];rfl
 refine yx (λi hi j hj=>(EO (hw i).2 (by have:=(hw i).1;omega)).2.fq j) (λi hi j hj=>by rw[kq hj];rfl) (λi hi j=>by rw[kq hi];rfl) (by decide)
end ops
end
section
open Go.Fw
theorem J0{α:Type}{b:Bool}{x y r:α}(ht:b=true->x=r)(hf:b=false->y=r):(bif b then x else y)=r:=by
 cases b
 ·rw[iz];exact hf Y
 rw[gS];exact ht Y
theorem sS{E:Type}{body:Int->Option (Int⊕(Unit⊕E))}{n:Nat}{p:Nat->Prop}[DecidablePred p]{e:E}(h:∀k:Nat,k<n->body (k:Int)=some (if p k then .inl ((k+1:Nat):Int)else .inr (.inr e)))(hn:body (n:Int)=some (.inr (.inl ()))):
  b9 body 0=some (if ∀k,k<n->p k then .inl ()else .inr e):=by
 obtain⟨r,h1,h2⟩:=E9 (body:=body) (s:=0) (λs=>∃k:Nat,s=(k:Int)/\k<=n/\∀i,i<k->p i) (λr=>(r=.inl ()/\∀k,k<n->p k)\/(r=.inr e/\¬∀k,k<n->p k)) (λs=>n-s.toNat) (by
  rintro _ ⟨k,rfl,hk,hp⟩;by_cases hlt:k<n
  ·by_cases hpk:p k
   ·refine .inl ⟨_,by rw[h k hlt,if_pos hpk],⟨k+1,Y,hlt,λi hi=>?_⟩,by simp only[Int.toNat_natCast];omega⟩;rcases Nat.lt_or_ge i k with q|q
    ·exact hp i q
    obtain rfl:i=k:=by omega
    exact hpk
   exact .inr ⟨_,by rw[h k hlt,if_neg hpk],.inr ⟨Y,λq=>hpk (q k hlt)⟩⟩
  obtain rfl:k=n:=by omega
  exact .inr ⟨_,hn,.inl ⟨Y,hp⟩⟩) ⟨0,Y,by omega,λi hi=>by omega⟩
 rw[h1];rcases h2 with⟨rfl,h2⟩|⟨rfl,h2⟩
 ·rw[if_pos h2]
 rw[if_neg h2]
def abM(n:Nat)(f:Nat->Rat)(i:Nat):Rat:=if i<n then f i else 0
theorem NQ{n i:Nat}{f:Nat->Rat}(h:i<n):abM n f i=f i:=if_pos h
theorem abN{n i:Nat}{f:Nat->Rat}(h:n<=i):abM n f i=0:=if_neg (by omega)
theorem ahx(n:Nat)(f:Nat->Rat):vq n f=vq n (abM n f):=dI (λi hi=>(NQ hi).symm)
theorem NR{L n:Nat}{f:Nat->Rat}(h:∀i,i<n->FQ L (f i))(h1:1<=L):eP L (vq n f) (abM n f):=by
 rw[ahx];exact qe (λi hi=>by rw[NQ hi];exact h i hi) (λi hi=>abN hi) h1
def K0(n:Int)(ob rw:List (List Qr))(bd:List Qr):Prop:=0<=n/\n<=64/\1<=ob.length/\ob.length<=4/\rw.length<=128/\bd.length=rw.length/\(qF ob:Int)<=n/\(qF rw:Int)<=n
instance(n:Int)(ob rw:List (List Qr))(bd:List Qr):Decidable (K0 n ob rw bd):=by unfold K0;exact inferInstance
theorem Y3{n:Int}{ob rw:List (List Qr)}{bd:List Qr}(h1:ob.length<=9223372036854775806)(h2:rw.length<=9223372036854775806):mG ⟨n,ob,rw,bd⟩=some (decide (K0 n ob rw bd)):=by
 unfold mG rj;refine aB (aB Y<|aB Y<|aB Y Y)<|bW<|aB Y<|Kc (λ_=>aB Y Y)<|Kc (λ_=>aB Y Y)<|Kc (λ_=>aB Y Y)<|J0 (λh=>?_) (λh=>bW<|aB Y<|Kc (λ_=>aB Y Y)<|J0 (λh'=>?_) (λh'=>bW<|aB (TY ob h1)<|aB Y<|Y1 (λ_=>aB (TY rw h2)<|aB Y Y) ?_))
 ·congr 1;symm;rw[decide_eq_false_iff_not];simp only[Bool.or_eq_true,decide_eq_true_eq]at h;unfold K0;omega
 ·congr 1;symm;rw[decide_eq_false_iff_not];simp only[Bool.or_eq_true,decide_eq_true_eq]at h';unfold K0;omega
 congr 1;simp only[Bool.or_eq_false_iff,decide_eq_false_iff_not]at h h';rw[<-Bool.decide_and,decide_eq_decide];unfold K0;omega
theorem ahy{n:Int}{ob rw:List (List Qr)}{bd:List Qr}:mG ⟨n,ob,rw,bd⟩=some (decide (K0 n ob rw bd)):=by
 unfold mG rj;refine aB (aB Y<|aB Y<|aB Y Y)<|bW<|aB Y<|Kc (λ_=>aB Y Y)<|Kc (λ_=>aB Y Y)<|Kc (λ_=>aB Y Y)<|J0 (λh=>?_) (λh=>bW<|aB Y<|Kc (λ_=>aB Y Y)<|J0 (λh'=>?_) (λh'=>bW<|aB (TY ob (by simp only[Bool.or_eq_false_iff,decide_eq_false_iff_not]at h h';omega))<|aB Y<|Y1 (λ_=>aB (TY rw (by simp only[Bool.or_eq_false_iff,decide_eq_false_iff_not]at h h';omega))<|aB Y Y) ?_))
 ·congr 1;symm;rw[decide_eq_false_iff_not];simp only[Bool.or_eq_true,decide_eq_true_eq]at h;unfold K0;omega
 ·congr 1;symm;rw[decide_eq_false_iff_not];simp only[Bool.or_eq_true,decide_eq_true_eq]at h';unfold K0;omega
 congr 1;simp only[Bool.or_eq_false_iff,decide_eq_false_iff_not]at h h';rw[<-Bool.decide_and,decide_eq_decide];unfold K0;omega
section lps
variable {K L M N:Nat}{n:Int}{ob rw:List (List Qr)}{bd x y:List Qr}{O F:Nat->Nat->Rat}{g f:Nat->Rat}
end lps
end
section
open Go.Fw
def bq(m:Nat)(b:Nat->Nat):List Int:=(List.range m).map λj=>((b j:Nat):Int)
theorem rY(m:Nat)(b:Nat->Nat):(bq m b).length=m:=by simp[bq]
theorem sV{m j:Nat}{b:Nat->Nat}(h:j<m):(bq m b)[j]? =some ((b j:Nat):Int):=by simp[bq,h]
theorem NS(m:Nat)(b:Nat->Nat):bq (m+1) b=bq m b++[((b m:Nat):Int)]:=by simp[bq,List.range_succ]
theorem Y4{m r c:Nat}{b:Nat->Nat}(hr:r<m):(bq m b).set r (c:Int)=bq m (λj=>if j=r then c else b j):=by
 apply List.ext_getElem?;intro j;rw[List.getElem?_set,rY];by_cases hj:j<m
 ·rw[sV hj];by_cases e:r=j
  ·subst e;rw[if_pos Y,if_pos hr,sV hr,if_pos rfl]
  rw[if_neg e,sV hj,if_neg (λq=>e q.symm)]
 rw[List.getElem?_eq_none (l:=bq m _) (by rw[rY];omega),List.getElem?_eq_none (l:=bq m _) (by rw[rY];omega)];by_cases e:r=j
 ·rw[if_pos e,if_neg (by omega)]
 rw[if_neg e]
abbrev HR(n m p:Nat)(O F:Nat->Nat->Rat)(b:Nat->Nat):Tb:=⟨true,(n:Int),mq p (λ_=>n) O,bq m b,mq m (λ_=>n+m+1) F⟩
structure uY (L n m p:Nat) (O F:Nat->Nat->Rat) (b:Nat->Nat):Prop where
 f:∀i,i<m->∀k,FQ L (F i k)
 o:∀i,i<p->∀k,FQ L (O i k)
 z:∀i,i<m->∀k,n+m+1<=k->F i k=0
 l1:1<=L
 hn:n<=64
 hm:m<=128
 hp:p<=4
 hb:∀j,j<m->b j<n+m
section tab
variable {L n m p:Nat}{O F:Nat->Nat->Rat}{b:Nat->Nat}
theorem kS(n m p:Nat)(O F:Nat->Nat->Rat)(b:Nat->Nat):di (HR n m p O F b)=some false:=by
 unfold di;exact bW<|aB (a:=false) (bA Y<|aB Y Y) Y
theorem FX(hn:n<=64)(hm:m<=128):gM (HR n m p O F b)=some ((n+m:Nat):Int):=by
 unfold gM;refine aB Y<|aB (congrArg some ?_) Y;rw[cK,cH (by omega) (by omega)];omega
theorem ahz{i:Nat}(h:uY L n m p O F b)(hi:i<m):eP L (vq (n+m+1) (F i)) (F i):=qe (λk _=>h.f i hi k) (λk hk=>h.z i hi k hk) h.l1
theorem TZ(h:uY L n m p O F b)(hL:L<=4000000000){c:Nat}(hc:c<n+m+1):oC (HR n m p O F b) (c:Int)=some (vq m (λi=>F i c)):=by
 have hm:=h.hm;unfold oC;show(some ((mq m (λ_=>n+m+1) F).length:Int)).bind _=_;refine aB Y ?_;rw[cK];refine aB (Y2 m (by omega))<|aB Y ?_;refine bG (λk=>((k:Int),vq k (λi=>F i c)++List.replicate (m-k) qz)) m (vq m (λi=>F i c)) Y (λk hk=>?_) ?_ Y
 ·have g1:(mq m (λ_=>n+m+1) F)[k]? =some (vq (n+m+1) (F k)):=fD hk;have g2:(vq (n+m+1) (F k))[c]? =some (qn (F k c)):=ju hc;have e:=(((h.f k hk c).rep h.l1).canon (by omega)).1;have s:=NM (h:=λi=>F i c) hk;have hl:(vq k (λi=>F i c)++List.replicate (m-k) qz).length=m:=Ae (by omega);rw[<-s];generalize vq k (λi=>F i c)++List.replicate (m-k) qz=l at*;clear s;show(some (decide ((k:Int)<(m:Int)))).bind _=_;generalize qn (F k c)=q at*;obtain⟨⟨_,_⟩,⟨_,_⟩⟩:=q;exact aB (dT (by omega))<|bN Y<|aB (bC g1)<|aB (bC g2)<|aB e<|aB (cE (by omega))<|aB (fz (by omega))<|aB (congrArg some (bM (by omega))) Y
 simp only[Nat.sub_self,List.replicate_zero,List.append_nil];exact aB (dF (by omega))<|bA Y Y
def r8(n p:Nat)(O:Nat->Nat->Rat)(c:Nat)(i:Nat):Rat:=if c<n then(if i<p then O i c else if i=p+c then-1 else 0)else 0
theorem uE{k j:Nat}{h:Nat->Rat}{x:Rat}(hj:j<k):(vq k h).set j (qn x)=vq k (λi=>if i=j then x else h i):=by
 apply List.ext_getElem?;intro i;rw[List.getElem?_set,bZ];by_cases hi:i<k
 ·rw[ju hi];by_cases e:j=i
  ·subst e;rw[if_pos Y,if_pos hj,ju hj,if_pos rfl]
  rw[if_neg e,ju hi,if_neg (λq=>e q.symm)]
 rw[List.getElem?_eq_none (l:=vq k _) (by rw[bZ];omega),List.getElem?_eq_none (l:=vq k _) (by rw[bZ];omega)];by_cases e:j=i
 ·rw[if_pos e,if_neg (by omega)]
 rw[if_neg e]
theorem HS(k:Nat):List.replicate k (⟨⟨false,[]⟩,⟨false,[]⟩⟩:Qr)=vq k (λ_=>0):=by
 apply List.ext_getElem?;intro i;by_cases hi:i<k
 ·rw[ju hi,List.getElem?_replicate,if_pos hi];rfl
 rw[List.getElem?_eq_none (by simp;omega),List.getElem?_eq_none (by rw[bZ];omega)]
theorem abP:dK (-1)=some (qn (-1)):=(kR (n:=-1) (by decide)).1
theorem one_eq:dK 1=some (qn 1)/\kp 2 (qn 1) 1:=kR (n:=1) (by decide)
theorem Y5(h:uY L n m p O F b){c:Nat}(hc:c<n+m):m8 (HR n m p O F b) (c:Int)=some (vq (p+n) (r8 n p O c)):=by
 have hm:=h.hm;have hn:=h.hn;have hp:=h.hp;unfold m8;show(some ((mq p (λ_=>n) O).length:Int)).bind _=_;refine aB Y ?_;rw[cK];refine aB (congrArg some (show IntKind.i64.wrap ((p:Int)+(n:Int))=((p+n:Nat):Int) by rw[cH (by omega) (by omega)];omega))<|aB (Y2 (p+n) (by omega))<|aB Y<|bW ?_;rw[HS];by_cases hcn:c<n
 ·refine bN (decide_eq_true (show(c:Int)<(n:Int) by omega))<|aB Y ?_;refine bG (λk=>((k:Int),vq (p+n) (λi=>if i<k then O i c else 0))) p (vq (p+n) (λi=>if i<p then O i c else 0)) (by simp) (λk hk=>?_) ?_ ?_
  ·have g1:(mq p (λ_=>n) O)[k]? =some (vq n (O k)):=fD hk;have g2:(vq n (O k))[c]? =some (qn (O k c)):=ju hcn;have s:=uE (k:=p+n) (j:=k) (h:=λi=>if i<k then O i c else 0) (x:=O k c) (by omega);have s2:vq (p+n) (λi=>if i=k then O k c else if i<k then O i c else 0)=vq (p+n) (λi=>if i<k+1 then O i c else 0):=dI (λi _=>by
    by_cases e:i=k
    ·subst e;simp
    rw[if_neg e];by_cases e2:i<k
    ·rw[if_pos e2,if_pos (by omega)]
    rw[if_neg e2,if_neg (by omega)])
   rw[s2]at s;have hl:=bZ (p+n) (λi=>if i<k then O i c else 0);rw[<-s];generalize vq (p+n) (λi=>if i<k then O i c else 0)=l at*;clear s s2;show(some (decide ((k:Int)<(p:Int)))).bind _=_;generalize qn (O k c)=q at*;obtain⟨⟨_,_⟩,⟨_,_⟩⟩:=q;exact aB (dT (by omega))<|bN Y<|aB (bC g1)<|aB (bC g2)<|aB (cE (by omega))<|aB (fz (by omega))<|aB (congrArg some (bM (by omega))) Y
  ·exact aB (dF (by omega))<|bA Y Y
  have s:=uE (k:=p+n) (j:=p+c) (h:=λi=>if i<p then O i c else 0) (x:=-1) (by omega);have s2:vq (p+n) (λi=>if i=p+c then(-1:Rat)else if i<p then O i c else 0)=vq (p+n) (r8 n p O c):=dI (λi _=>by
   unfold r8;rw[if_pos hcn];by_cases e:i=p+c
   ·rw[if_pos e,if_neg (by omega),if_pos e]
   rw[if_neg e,if_neg e])
  rw[s2]at s;have hl:=bZ (p+n) (λi=>if i<p then O i c else 0);have e1:=abP;rw[<-s];generalize vq (p+n) (λi=>if i<p then O i c else 0)=l at*;clear s s2;generalize qn (-1)=q at*;obtain⟨⟨_,_⟩,⟨_,_⟩⟩:=q;exact aB Y<|aB (congrArg some (show IntKind.i64.wrap ((p:Int)+(c:Int))=((p+c:Nat):Int) by rw[cH (by omega) (by omega)];omega))<|aB e1<|aB (cE (by omega))<|aB (fz (by omega)) Y
 refine bA (decide_eq_false (show ¬(c:Int)<(n:Int) by omega)) ?_;exact congrArg some (dI (λi _=>by unfold r8;rw[if_neg hcn]))
theorem Y6(h:uY L n m p O F b)(c i:Nat):FQ L (r8 n p O c i):=by
 unfold r8;have hl:=h.l1;split
 ·split
  ·exact h.o _ (by assumption) _
  split
  ·exact(FQ.int (i:=-1) (L:=L) (by unfold Fit;exact Nat.lt_of_lt_of_le (by decide:(-1:Int).natAbs<4294967296^1) (Nat.pow_le_pow_right (by decide) hl)) hl)
  exact mP hl
 exact mP hl
theorem HT(h:uY L n m p O F b)(c:Nat):eP L (vq (p+n) (r8 n p O c)) (r8 n p O c):=qe (λi _=>Y6 h c i) (λi hi=>by
 unfold r8;split
 ·rw[if_neg (by omega),if_neg (by omega)]
 rfl) h.l1
def pA(n p:Nat)(O:Nat->Nat->Rat)(b:Nat->Nat)(g:Nat->Rat)(m:Nat)(i:Nat):Rat:=cw (λj=>g j*r8 n p O (b j) i) m
theorem ahA{g:Nat->Rat}{k i:Nat}(hi:p+n<=i):pA n p O b g k i=0:=by
 unfold pA;rw[c7 (k:=λ_=>0) (λj _=>?_),qD];unfold r8;split
 ·rw[if_neg (by omega),if_neg (by omega)];grind
 grind
theorem HU(h:uY L n m p O F b){g:Nat->Rat}(hg:∀j,j<m->FQ L (g j)):∀k,k<=m->∀i,FQ (k*(L+L+1)+1) (pA n p O b g k i)
 |0,_,i=>by show FQ (0*(L+L+1)+1) (0:Rat);rw[Nat.zero_mul];exact mP (by decide)
 |k+1,hk,i=>by
  have e:=(HU h hg k (by omega) i).add ((hg k (by omega)).mul (Y6 h (b k) i));exact e.mono (by rw[Nat.succ_mul];generalize k*(L+L+1)=q;omega)
theorem BL(h:uY L n m p O F b){g:Nat->Rat}(hg:∀j,j<m->FQ L (g j)){k:Nat}(hk:k<=m):eP (k*(L+L+1)+1) (vq (p+n) (pA n p O b g k)) (pA n p O b g k):=qe (λi _=>HU h hg k hk i) (λi hi=>ahA hi) (by omega)
theorem L5(h:uY L n m p O F b)(hL:(m+1)*(L+L+1)<=2000000000){g:Nat->Rat}(hg:∀j,j<m->FQ L (g j)):lS (HR n m p O F b) (vq m g)=some (vq (p+n) (pA n p O b g m)):=by
 have hX:m*(L+L+1)+(L+L+1)<=2000000000:=by rw[<-Nat.succ_mul];exact hL
 have hm:=h.hm;have hn:=h.hn;have hp:=h.hp;have h1:=h.l1;unfold lS;show(some ((mq p (λ_=>n) O).length:Int)).bind _=_;refine aB Y ?_;rw[cK];refine aB (congrArg some (show IntKind.i64.wrap ((p:Int)+(n:Int))=((p+n:Nat):Int) by rw[cH (by omega) (by omega)];omega))<|aB (Y2 (p+n) (by omega))<|aB (congrArg some (show((vq m g).length:Int)=(m:Int) by rw[bZ])) ?_;rw[HS];refine bG (λk=>(vq (p+n) (pA n p O b g k),(k:Int))) m (vq (p+n) (pA n p O b g m)) Y (λk hk=>?_) ?_ Y
 ·have g1:(vq m g)[k]? =some (qn (g k)):=ju hk;have g2:=sV (b:=b) hk;have rg:=(hg k hk).rep h1;have sg:=rg.sign (by omega);have hbk:=h.hb k hk;have tv:=Y5 h hbk;have va:=aei rg (HT h (b k)) (BL h hg (Nat.le_of_lt hk)) (by have:=Nat.mul_le_mul_right (L+L+1) (show k<=m by omega);omega) (by rw[bZ];omega) (by rw[bZ];omega);have e0:vq (max (vq (p+n) (r8 n p O (b k))).length (vq (p+n) (pA n p O b g k)).length) (λi=>g k*r8 n p O (b k) i+pA n p O b g k i)=vq (p+n) (pA n p O b g (k+1)):=by
   rw[bZ,bZ,Nat.max_self];refine dI (λi _=>?_);show _=cw _ k+_;unfold pA;grind
  rw[e0]at va;have same:g k*r8 n p O (b k) 0=g k*r8 n p O (b k) 0:=rfl;have skip:(¬(b k<n)\/g k=0)->vq (p+n) (pA n p O b g k)=vq (p+n) (pA n p O b g (k+1)):=λq=>dI (λi _=>by
   show pA n p O b g k i=cw _ k+_;have:g k*r8 n p O (b k) i=0:=by
    rcases q with q|q
    ·unfold r8;rw[if_neg q];grind
    rw[q];grind
   show pA n p O b g k i=pA n p O b g k i+g k*r8 n p O (b k) i;rw[this];grind)
  replace va:=va.1;show(some (decide ((k:Int)<(m:Int)))).bind _=_;have sgd:(some (decide (pg (g k) 0≠0)):Option Bool)=some (decide (g k≠0)):=by
   congr 1;by_cases q:g k=0
   ·rw[decide_eq_false (by rw[q,U4];simp),decide_eq_false (by simp[q])]
   rw[decide_eq_true (show pg (g k) 0≠0 from λe=>q (nk.1 e)),decide_eq_true q]
  generalize hq:qn (g k)=q at*;obtain⟨⟨q1,q2⟩,⟨q3,q4⟩⟩:=q;refine aB (dT (by omega))<|bN Y<|aB (bC g1)<|bW<|aB (bC g2)<|aB Y ?_;by_cases VS:b k<n
  ·refine aB (a:=decide (g k≠0)) (bN (decide_eq_true (show((b k:Nat):Int)<(n:Int) by omega))<|aB sg<|aB sgd Y)<|bW ?_;by_cases h0:g k=0
   ·refine bA (by simp[h0]) ?_;rw[skip (.inr h0)];exact aB (congrArg some (bM (by omega))) Y
   refine bN (by simp[h0]) ?_;exact aB (bC g2)<|aB tv<|aB va<|aB (congrArg some (bM (by omega))) Y
  refine aB (a:=false) (bA (decide_eq_false (show ¬((b k:Nat):Int)<(n:Int) by omega)) Y)<|bW<|bA Y ?_;rw[skip (.inl VS)];exact aB (congrArg some (bM (by omega))) Y
 exact aB (dF (by omega))<|bA Y Y
theorem Sx(h:uY L n m p O F b)(hL:L<=4000000000):jL (HR n m p O F b)=some (vq m (λi=>F i (n+m))):=by
 unfold jL;exact aB (kS n m p O F b)<|bA Y<|aB (FX h.hn h.hm)<|aB (TZ h hL (by omega)) Y
def oU(n m p:Nat)(O F:Nat->Nat->Rat)(b:Nat->Nat)(c:Nat)(i:Nat):Rat:=pA n p O b (λj=>F j c) m i-r8 n p O c i
theorem J1(h:uY L n m p O F b)(hL:(m+1)*(L+L+1)<=2000000000){c:Nat}(hc:c<n+m):dz (HR n m p O F b) (c:Int)=some (vq (p+n) (oU n m p O F b c))/\eP (m*(L+L+1)+1+L+1) (vq (p+n) (oU n m p O F b c)) (oU n m p O F b c):=by
 have hX:m*(L+L+1)+(L+L+1)<=2000000000:=by rw[<-Nat.succ_mul];exact hL
 have hm:=h.hm;have hn:=h.hn;have hp:=h.hp;have w:=L5 h hL (g:=λj=>F j c) (λj hj=>h.f j hj c);have s:=ar0 (BL h (g:=λj=>F j c) (λj hj=>h.f j hj c) (Nat.le_refl m)) (HT h c) (by omega) (by rw[bZ];omega) (by rw[bZ];omega);rw[bZ,bZ,Nat.max_self]at s;refine⟨?_,s.2⟩;unfold dz;exact bW<|aB (kS n m p O F b)<|aB (a:=false) (bA Y<|aB (dF (by omega)) Y)<|aB (a:=false) (bA Y<|aB (FX hn hm)<|aB (dF (by omega)) Y)<|bA Y<|aB (TZ h (by omega) (by omega))<|aB w<|aB (Y5 h hc)<|aB s.1 Y
theorem NT(h:uY L n m p O F b)(hL:(m+1)*(L+L+1)<=2000000000):kG (HR n m p O F b)=some (vq (p+n) (pA n p O b (λj=>F j (n+m)) m)):=by
 have hX:m*(L+L+1)+(L+L+1)<=2000000000:=by rw[<-Nat.succ_mul];exact hL
 unfold kG;exact aB (kS n m p O F b)<|bA Y<|aB (Sx h (by omega))<|aB (L5 h hL (g:=λj=>F j (n+m)) (λj hj=>h.f j hj _)) Y
def rZ(n m:Nat)(F:Nat->Nat->Rat)(b:Nat->Nat):Nat->Nat->Rat
 |0,_=>0
 |j+1,i=>if b j<n/\i=b j then F j (n+m)else rZ n m F b j i
theorem L6(h:uY L n m p O F b)(hL:L<=4000000000):iF (HR n m p O F b)=some (vq n (rZ n m F b m)):=by
 have hm:=h.hm;have hn:=h.hn;unfold iF;refine aB (kS n m p O F b)<|bA Y<|aB (Y2 n (by omega))<|aB (Sx h hL)<|aB (congrArg some (show((vq m _).length:Int)=(m:Int) by rw[bZ])) ?_;rw[HS];refine bG (λk=>((k:Int),vq n (rZ n m F b k))) m (vq n (rZ n m F b m)) Y (λk hk=>?_) ?_ Y
 ·have g1:(vq m (λi=>F i (n+m)))[k]? =some (qn (F k (n+m))):=ju hk;have g2:=sV (b:=b) hk;have hl:=bZ n (rZ n m F b k);show(some (decide ((k:Int)<(m:Int)))).bind _=_;by_cases VS:b k<n
  ·have s:=uE (k:=n) (j:=b k) (h:=rZ n m F b k) (x:=F k (n+m)) VS;have s2:vq n (λi=>if i=b k then F k (n+m)else rZ n m F b k i)=vq n (rZ n m F b (k+1)):=dI (λi _=>by
    show _=if b k<n/\i=b k then _ else _;by_cases e:i=b k
    ·rw[if_pos e,if_pos ⟨VS,e⟩]
    rw[if_neg e,if_neg (λq=>e q.2)])
   rw[s2]at s;rw[<-s];clear s s2;generalize vq n (rZ n m F b k)=l at*;generalize qn (F k (n+m))=q at*;obtain⟨⟨_,_⟩,⟨_,_⟩⟩:=q;exact aB (dT (by omega))<|bN Y<|aB (bC g1)<|aB (bC g2)<|aB Y<|bW<|bN (decide_eq_true (show((b k:Nat):Int)<(n:Int) by omega))<|aB (bC g2)<|aB (cE (by omega))<|aB (fz (by omega))<|aB (congrArg some (bM (by omega))) Y
  have s2:vq n (rZ n m F b k)=vq n (rZ n m F b (k+1)):=dI (λi _=>by
   show _=if b k<n/\i=b k then _ else _;rw[if_neg (λq=>VS q.1)])
  rw[<-s2];generalize qn (F k (n+m))=q at*;obtain⟨⟨_,_⟩,⟨_,_⟩⟩:=q;exact aB (dT (by omega))<|bN Y<|aB (bC g1)<|aB (bC g2)<|aB Y<|bW<|bA (decide_eq_false (show ¬((b k:Nat):Int)<(n:Int) by omega))<|aB (congrArg some (bM (by omega))) Y
 exact aB (dF (by omega))<|bA Y Y
theorem L7(h:uY L n m p O F b)(hL:L<=4000000000):jS (HR n m p O F b)=some (decide (∀i,i<m->0<=F i (n+m))):=by
 have hm:=h.hm;unfold jS;refine aB (kS n m p O F b)<|bA Y<|aB (Sx h hL)<|aB (congrArg some (show((vq m _).length:Int)=(m:Int) by rw[bZ])) ?_;refine aB (sS (n:=m) (p:=λi=>0<=F i (n+m)) (e:=false) (λk hk=>?_) (aB (dF (by omega))<|bA Y Y)) ?_
 ·have g1:(vq m (λi=>F i (n+m)))[k]? =some (qn (F k (n+m))):=ju hk;have sg:=((h.f k hk (n+m)).rep h.l1).sign (by omega);generalize qn (F k (n+m))=q at*;obtain⟨⟨_,_⟩,⟨_,_⟩⟩:=q;refine aB (dT (by omega))<|bN Y<|aB (bC g1)<|aB sg<|aB Y ?_;by_cases q:F k (n+m)<0
  ·rw[if_neg (by grind)];exact bN (decide_eq_true (EH.2 q)) Y
  rw[if_pos (by grind)];exact bA (decide_eq_false (λe=>q (EH.1 e)))<|aB (congrArg some (bM (by omega))) Y
 by_cases q:∀i,i<m->0<=F i (n+m)
 ·rw[if_pos q,decide_eq_true q]
 rw[if_neg q,decide_eq_false q]
theorem J2(h:uY L n m p O F b)(hL:(m+1)*(L+L+1)<=2000000000):jA (HR n m p O F b)=some (decide (∀c,c<n+m->0<=ou (oU n m p O F b c) (λ_=>0) (p+n))):=by
 have hX:m*(L+L+1)+(L+L+1)<=2000000000:=by rw[<-Nat.succ_mul];exact hL
 have hm:=h.hm;have hn:=h.hn;unfold jA;refine aB (kS n m p O F b)<|bA Y ?_;have hw:(IntKind.i64.wrap (Tb.vars (HR n m p O F b)+((Tb.rows (HR n m p O F b)).length:Int))).toNat=n+m:=by
  show(IntKind.i64.wrap ((n:Int)+((mq m (λ_=>n+m+1) F).length:Int))).toNat=_;rw[cK,cH (by omega) (by omega)];omega
 refine aB (a:=if ∀c,c<n+m->0<=ou (oU n m p O F b c) (λ_=>0) (p+n)then .inl ()else .inr false) ?_ ?_
 ·refine Eq.trans (congrArg (λk=>vX _ k ()) hw) ?_;refine Sw (n:=n+m) (p:=λc=>0<=ou (oU n m p O F b c) (λ_=>0) (p+n)) (e:=false) (λk hk=>?_);obtain⟨e,r⟩:=J1 h hL hk;have sg:=ak9 r (by omega);rw[bZ]at sg;refine aB Y<|aB e<|aB sg<|aB Y ?_;by_cases q:0<=ou (oU n m p O F b k) (λ_=>0) (p+n)
  ·rw[if_pos q];exact bA (decide_eq_false (by omega)) Y
  rw[if_neg q];exact bN (decide_eq_true (by omega)) Y
 by_cases q:∀c,c<n+m->0<=ou (oU n m p O F b c) (λ_=>0) (p+n)
 ·rw[if_pos q,decide_eq_true q]
 rw[if_neg q,decide_eq_false q]
end tab
end
section
open Go.Fw
def jX(F:Nat->Nat->Rat)(r c i k:Nat):Rat:=if i=r then F r k/F r c else F i k-F i c*(F r k/F r c)
section tab
variable {L n m p:Nat}{O F:Nat->Nat->Rat}{b:Nat->Nat}
theorem Y7(h:uY L n m p O F b){r c:Nat}(hr:r<m)(h0:F r c≠0){i:Nat}(hi:i<m)(k:Nat):FQ (4*L+1) (jX F r c i k):=by
 have e:=(h.f r hr k).div (h.f r hr c) h0;unfold jX;split
 ·exact e.mono (by omega)
 exact((h.f i hi k).sub ((h.f i hi c).mul e)).mono (by omega)
theorem aek(h:uY L n m p O F b){r i:Nat}(hr:r<m)(c:Nat)(hi:i<m){k:Nat}(hk:n+m+1<=k):jX F r c i k=0:=by
 unfold jX;rw[h.z r hr k hk,h.z i hi k hk];have e:(0:Rat)/F r c=0:=by rw[Rat.div_def,Rat.zero_mul]
 rw[e];split
 ·rfl
 grind
theorem NU(h:uY L n m p O F b){r c:Nat}(hr:r<m)(hc:c<n+m)(h0:F r c≠0):uY (4*L+1) n m p O (jX F r c) (λj=>if j=r then c else b j):=
 ⟨λi hi k=>Y7 h hr h0 hi k,λi hi k=>(h.o i hi k).mono (by omega),λi hi k hk=>aek h hr c hi hk,by omega,h.hn,h.hm,h.hp,λj hj=>by
  show(if j=r then c else b j)<n+m;split
  ·exact hc
  exact h.hb j hj⟩
theorem abQ(h:uY L n m p O F b)(hL:L<=100000000){r c:Nat}(hr:r<m)(hc:c<n+m+1)(h0:F r c≠0){o0:Bool}{o1:Int}{o2 rows:List (List Qr)}{o3:List Int}(hrow:rows[r]? =some (vq (n+m+1) (jX F r c r))){i:Nat}(hi:i<m)(hne:i≠r):
  oD o0 o1 o2 o3 rows (vq (n+m+1) (F i)) c r=some (vq (n+m+1) (jX F r c i)):=by
 have hm:=h.hm;have hn:=h.hn;have h1:=h.l1;have g1:(vq (n+m+1) (F i))[c]? =some (qn (F i c)):=ju hc;have rq:=(h.f i hi c).rep h1;have sg:=rq.sign (by omega);have ng:=rq.neg (by omega);have QD:r<rows.length:=(List.getElem?_eq_some_iff.1 hrow).1;have va:=aei ng.2 (qe (n:=n+m+1) (h:=jX F r c r) (λk _=>Y7 h hr h0 hr k) (λk hk=>aek h hr c hr hk) (show 1<=4*L+1 by omega)) (ahz h hi) (by omega) (by rw[bZ];omega) (by rw[bZ];omega);have e0:vq (max (vq (n+m+1) (jX F r c r)).length (vq (n+m+1) (F i)).length) (λk=>-F i c*jX F r c r k+F i k)=vq (n+m+1) (jX F r c i):=by
  rw[bZ,bZ,Nat.max_self];refine dI (λk _=>?_);unfold jX;rw[if_pos Y,if_neg hne];grind
 rw[e0]at va;replace va:=va.1;have same:F i c=0->vq (n+m+1) (F i)=vq (n+m+1) (jX F r c i):=λq=>dI (λk _=>by
  unfold jX;rw[if_neg hne,q];grind)
 have sgd:(some (decide (pg (F i c) 0=0)):Option Bool)=some (decide (F i c=0)):=by
  congr 1;by_cases q:F i c=0
  ·rw[decide_eq_true (show pg (F i c) 0=0 from nk.2 q),decide_eq_true q]
  rw[decide_eq_false (show ¬pg (F i c) 0=0 from λe=>q (nk.1 e)),decide_eq_false q]
 unfold oD;replace ng:=ng.1;generalize qn (F i c)=q at*;generalize qn (-F i c)=q' at*;obtain⟨⟨_,_⟩,⟨_,_⟩⟩:=q;obtain⟨⟨_,_⟩,⟨_,_⟩⟩:=q';refine aB (bC g1)<|aB sg<|aB sgd ?_;by_cases q:F i c=0
 ·rw[<-same q];exact bN (decide_eq_true q) Y
 exact bA (decide_eq_false q)<|aB (bC g1)<|aB ng<|aB (cE QD)<|aB hrow<|aB va Y
theorem Y8{w r:Nat}{G:Nat->Nat->Rat}{f:Nat->Rat}(hr:r<m):(mq m (λ_=>w) G).set r (vq w f)=mq m (λ_=>w) (λi=>if i=r then f else G i):=by
 apply List.ext_getElem?;intro j;rw[List.getElem?_set,cK];by_cases hj:j<m
 ·rw[fD hj];by_cases e:r=j
  ·subst e;rw[if_pos Y,if_pos hr,fD hr,if_pos rfl]
  rw[if_neg e,fD hj,if_neg (λq=>e q.symm)]
 rw[List.getElem?_eq_none (l:=mq m _ _) (by rw[cK];omega),List.getElem?_eq_none (l:=mq m _ _) (by rw[cK];omega)];by_cases e:r=j
 ·rw[if_pos e,if_neg (by omega)]
 rw[if_neg e]
theorem ahB(h:uY L n m p O F b)(hL:L<=100000000){r c:Nat}(hr:r<m)(hc:c<n+m+1)(h0:F r c≠0){o0:Bool}{o1:Int}{o2:List (List Qr)}{o3:List Int}:
  fk o0 o1 o2 o3 (mq m (λ_=>n+m+1) F) r c=some (o2,o3,mq m (λ_=>n+m+1) (jX F r c)):=by
 have hm:=h.hm;have hn:=h.hn;have h1:=h.l1;have g1:(mq m (λ_=>n+m+1) F)[r]? =some (vq (n+m+1) (F r)):=fD hr;have QD:r<(mq m (λ_=>n+m+1) F).length:=by rw[cK];exact hr
 have g2:(vq (n+m+1) (F r))[c]? =some (qn (F r c)):=ju hc;have dv:=one_eq.2.div ((h.f r hr c).rep h1) (by omega) h0;have sc:=(St dv.2 (ahz h hr) (by omega) (by rw[bZ];omega)).1;rw[bZ]at sc;have e0:vq (n+m+1) (λk=>1/F r c*F r k)=vq (n+m+1) (jX F r c r):=dI (λk _=>by
  unfold jX;rw[if_pos Y,Rat.div_def,Rat.div_def];grind)
 rw[e0]at sc;have st:=fz (y:=vq (n+m+1) (jX F r c r)) QD;rw[Y8 hr]at st;have e1:=one_eq.1;replace dv:=dv.1;have loop:∀(o:List (List Qr)->Option ((List (List Qr))×(List Int)×(List (List Qr)))),o (mq m (λ_=>n+m+1) (jX F r c))=some (o2,o3,mq m (λ_=>n+m+1) (jX F r c))->((b9 (λ(Ah:Int×(List (List Qr)))=>match Ah with|⟨xM,j0⟩=>(show Option ((Int×(List (List Qr)))⊕((List (List Qr))))from(some (decide ((xM:Int)<(m:Int)))).bind λVm=>(bif Vm then(qg j0 xM).bind λCX=>(j0[CX]?).bind λGL=>(some (decide ((xM:Int)≠(r:Int)))).bind λLn=>cJ (λ(Bk:(List (List Qr)))=>(some (IntKind.i64.wrap (xM+1))).bind λx70=>some (.inl (x70,Bk))) λXc=>(bif Ln then(oD o0 o1 o2 o3 j0 GL c r).bind λQ2=>(qg j0 xM).bind λWd=>(stM j0 Wd Q2).bind λl17=>Xc l17 else Xc j0)else some (.inr j0)))) (0,mq m (λ_=>n+m+1) (λi=>if i=r then jX F r c r else F i))).bind o)=some (o2,o3,mq m (λ_=>n+m+1) (jX F r c)):=λo ho=>by
  refine bG (λk=>((k:Int),mq m (λ_=>n+m+1) (λi=>if i=r\/i<k then jX F r c i else F i))) m (mq m (λ_=>n+m+1) (jX F r c)) ?_ (λk hk=>?_) ?_ ho
  ·refine Prod.ext Y (jh (λi hi=>⟨Y,λk _=>?_⟩));by_cases e:i=r
   ·subst e;simp
   simp[e]
  ·have gk:(mq m (λ_=>n+m+1) (λi=>if i=r\/i<k then jX F r c i else F i))[k]? =some (vq (n+m+1) (if k=r then jX F r c k else F k)):=by
    rw[fD hk];congr 2;by_cases e:k=r
    ·rw[if_pos (.inl e),if_pos e]
    rw[if_neg (by omega),if_neg e]
   have hl:(mq m (λ_=>n+m+1) (λi=>if i=r\/i<k then jX F r c i else F i)).length=m:=cK _ _ _;have gr:(mq m (λ_=>n+m+1) (λi=>if i=r\/i<k then jX F r c i else F i))[r]? =some (vq (n+m+1) (jX F r c r)):=by
    rw[fD hr,if_pos (.inl Y)]
   by_cases e:k=r
   ·have s:mq m (λ_=>n+m+1) (λi=>if i=r\/i<k then jX F r c i else F i)=mq m (λ_=>n+m+1) (λi=>if i=r\/i<k+1 then jX F r c i else F i):=jh (λi _=>⟨Y,λ_ _=>by
     by_cases q:i=r\/i<k
     ·rw[if_pos q,if_pos (by omega)]
     rw[if_neg q,if_neg (by omega)]⟩)
    show(some (decide ((k:Int)<(m:Int)))).bind _=_;refine aB (dT (by omega))<|bN Y<|aB (cE (by omega))<|aB gk<|aB (dF (by omega))<|bW<|bA Y<|aB (congrArg some (bM (by omega))) ?_;rw[s]
   rw[if_neg e]at gk;have rm:=abQ h hL hr hc h0 (o0:=o0) (o1:=o1) (o2:=o2) (o3:=o3) gr hk e;have s:(mq m (λ_=>n+m+1) (λi=>if i=r\/i<k then jX F r c i else F i)).set k (vq (n+m+1) (jX F r c k))=mq m (λ_=>n+m+1) (λi=>if i=r\/i<k+1 then jX F r c i else F i):=by
    rw[Y8 hk];refine jh (λi _=>⟨Y,λ_ _=>?_⟩);by_cases q:i=k
    ·subst q;rw[if_pos Y,if_pos (.inr (by omega))]
    rw[if_neg q];by_cases q2:i=r\/i<k
    ·rw[if_pos q2,if_pos (by omega)]
    rw[if_neg q2,if_neg (by omega)]
   rw[<-s];generalize mq m (λ_=>n+m+1) (λi=>if i=r\/i<k then jX F r c i else F i)=rows at*;show(some (decide ((k:Int)<(m:Int)))).bind _=_;exact aB (dT (by omega))<|bN Y<|aB (cE (by omega))<|aB gk<|aB (dT (by omega))<|bW<|bN Y<|aB rm<|aB (cE (by omega))<|aB (fz (by omega))<|aB (congrArg some (bM (by omega))) Y
  have s:mq m (λ_=>n+m+1) (λi=>if i=r\/i<m then jX F r c i else F i)=mq m (λ_=>n+m+1) (jX F r c):=jh (λi hi=>⟨Y,λ_ _=>by rw[if_pos (.inr hi)]⟩);show(some (decide ((m:Int)<(m:Int)))).bind _=_;rw[s];exact aB (dF (by omega))<|bA Y Y
 unfold fk;have scM:ug (vq (n+m+1) (F r)) (qn (1/F r c))=some (vq (n+m+1) (jX F r c r)):=by
  unfold ug;generalize qn (1/F r c)=q at*;obtain⟨⟨_,_⟩,⟨_,_⟩⟩:=q;exact aB sc Y
 generalize qn (1/F r c)=q3 at*;generalize qn (F r c)=q2 at*;generalize qn 1=q1 at*;obtain⟨⟨_,_⟩,⟨_,_⟩⟩:=q1;obtain⟨⟨_,_⟩,⟨_,_⟩⟩:=q2;obtain⟨⟨_,_⟩,⟨_,_⟩⟩:=q3;refine aB e1<|aB (cE QD)<|aB g1<|aB (bC g2)<|aB dv<|aB (cE QD)<|aB g1<|aB scM<|aB (cE QD)<|aB st<|aB (congrArg some (by rw[cK])) ?_;refine Eq.trans (congrArg (λG=>(b9 _ ((0:Int),mq m (λ_=>n+m+1) G)).bind _) ?_) (loop _ Y);funext i;by_cases e:i=r
 ·rw[if_pos e]
 rw[if_neg e]
theorem Sy(h:uY L n m p O F b)(hL:L<=100000000){r c:Nat}(hr:r<m)(hc:c<n+m)(hb:∀j,j<m->b j≠c)(h0:F r c≠0):
  bY true n (mq p (λ_=>n) O) (bq m b) (mq m (λ_=>n+m+1) F) r c=some (0,mq p (λ_=>n) O,bq m (λj=>if j=r then c else b j),mq m (λ_=>n+m+1) (jX F r c)):=by
 have hm:=h.hm;have hn:=h.hn;have sv:=ahB h hL hr (show c<n+m+1 by omega) h0 (o0:=true) (o1:=(n:Int)) (o2:=mq p (λ_=>n) O) (o3:=bq m b);have g1:(mq m (λ_=>n+m+1) F)[r]? =some (vq (n+m+1) (F r)):=fD hr;have g2:(vq (n+m+1) (F r))[c]? =some (qn (F r c)):=ju (by omega);have sg:=((h.f r hr c).rep h.l1).sign (by omega);have QD:r<(mq m (λ_=>n+m+1) F).length:=by rw[cK];exact hr
 have Oh:=rY m b;have bs:=Y4 (b:=b) (c:=c) hr;have bg:∀j,j<m->(bq m b)[j]? =some ((b j:Nat):Int):=λj hj=>sV hj;have wd:gM (⟨true,(n:Int),mq p (λ_=>n) O,bq m b,mq m (λ_=>n+m+1) F⟩:Tb)=some ((n+m:Nat):Int):=FX hn hm;have ms:di (⟨true,(n:Int),mq p (λ_=>n) O,bq m b,mq m (λ_=>n+m+1) F⟩:Tb)=some false:=kS n m p O F b;have rl:=cK m (λ_=>n+m+1) F;unfold bY;rw[<-bs];generalize bq m b=B at*;generalize mq m (λ_=>n+m+1) F=rows at*;refine aB ms<|bA Y<|bW<|aB (dF (by omega))<|aB (a:=false) (bA Y<|aB Y<|aB (dF (by omega)) Y)<|aB (a:=false) (bA Y<|aB (dF (by omega)) Y)<|aB (a:=false) (bA Y<|aB wd<|aB (dF (by omega)) Y)<|bA Y<|aB Y ?_;refine bG (λk=>(k:Int)) m (.inl ()) Y (λk hk=>?_) ?_ ?_
 ·exact aB (dT (by omega))<|bN Y<|aB (cE (by omega))<|aB (bg k hk)<|aB (dF (by have:=hb k hk;omega))<|bA Y<|aB (congrArg some (bM (by omega))) Y
 ·exact aB (dF (by omega))<|bA Y Y
 generalize qn (F r c)=q at*;obtain⟨⟨_,_⟩,⟨_,_⟩⟩:=q;exact aB (cE QD)<|aB g1<|aB (bC g2)<|aB sg<|aB (dF (λe=>h0 (nk.1 e)))<|bA Y<|aB sv<|aB (cE (by omega))<|aB (fz (by omega)) Y
end tab
def sW(n m:Nat)(R:Nat->Nat->Rat)(g:Nat->Rat)(i k:Nat):Rat:=if k<n then R i k else if k=n+i then 1 else if k=n+m then g i else 0
theorem tD(k w:Nat)(G:Nat->Nat->Rat):mq (k+1) (λ_=>w) G=mq k (λ_=>w) G++[vq w (G k)]:=by simp[mq,List.range_succ]
section new
variable {L M K n:Nat}{ob rw:List (List Qr)}{bd:List Qr}{O R:Nat->Nat->Rat}{g:Nat->Rat}
theorem Y9{m i:Nat}(hi:i<m):(λj=>if j=n+m then g i else if j=n+i then(1:Rat)else if j<n then R i j else 0)=sW n m R g i:=by
 funext j;unfold sW;by_cases h1:j<n
 ·rw[if_neg (by omega),if_neg (by omega),if_pos h1,if_pos h1]
 rw[if_neg h1,if_neg h1];by_cases h2:j=n+i
 ·rw[if_neg (by omega),if_pos h2,if_pos h2]
 rw[if_neg h2,if_neg h2]
theorem asb(ho:kg M ob O)(hr:kg L rw R)(hb:eP K bd g)(hM:M<=4000000000)(hL:L<=4000000000)(hK:K<=4000000000)(hv:K0 n ob rw bd):
  ga ⟨(n:Int),ob,rw,bd⟩=some (true,(n:Int),mq ob.length (λ_=>n) O,bq rw.length (λj=>n+j),mq rw.length (λ_=>n+rw.length+1) (sW n rw.length R g)):=by
 obtain⟨v1,v2,v3,v4,v5,v6,v7,v8⟩:=hv;have n64:n<=64:=by omega
 have asc:∀v∈ob,v.length<=n:=xe.1 (by omega);unfold ga;refine aB Y ?_;refine bG (λk=>((k:Int),mq k (λ_=>n) O)) ob.length (mq ob.length (λ_=>n) O) Y (λk hk=>?_) ?_ ?_
 ·have g1:=gW (d:=[]) hk;have rs:=TV (ho.row k) (by omega) (by have:=asc _ (List.mem_of_getElem? g1);omega) (n:Int);rw[show(min (n:Int) 65536).toNat=n by omega]at rs;refine aB (dT (by omega))<|bN Y<|aB (bC g1)<|aB rs<|aB (nq (by decide) (by rw[cK];omega))<|aB (congrArg some (bM (by omega))) ?_;rw[tD]
 ·exact aB (dF (by omega))<|bA Y Y
 refine aB Y ?_;refine bG (λk=>((k:Int),bq k (λj=>n+j),mq k (λ_=>n+rw.length+1) (sW n rw.length R g))) rw.length (bq rw.length (λj=>n+j),mq rw.length (λ_=>n+rw.length+1) (sW n rw.length R g)) Y (λi hi=>?_) (aB (dF (by omega))<|bA Y Y) Y;obtain⟨q,hq,rq⟩:=hb.get (i:=i) (by omega);have cn:=(rq.canon (by omega)).1;have e1:=one_eq.1;have wl:IntKind.i64.wrap ((n:Int)+(rw.length:Int))=((n+rw.length:Nat):Int):=by rw[cH (by omega) (by omega)];omega
 have wl2:IntKind.i64.wrap (((n+rw.length:Nat):Int)+1)=((n+rw.length+1:Nat):Int):=bM (by omega);have wi:IntKind.i64.wrap ((n:Int)+(i:Int))=((n+i:Nat):Int):=by rw[cH (by omega) (by omega)];omega
 refine aB (dT (by omega))<|bN Y<|aB Y<|aB (congrArg some wl)<|aB (congrArg some wl2)<|aB (Y2 (n+rw.length+1) (by omega)) ?_;rw[HS];refine bG (λk=>((k:Int),vq (n+rw.length+1) (λj=>if j<k then R i j else 0))) n (vq (n+rw.length+1) (λj=>if j<n then R i j else 0)) (by simp) (λk hk=>?_) (aB (dF (by omega))<|bA Y Y) ?_
 ·have at_:=ahv hr (by omega) i k;have s:=uE (k:=n+rw.length+1) (j:=k) (h:=λj=>if j<k then R i j else 0) (x:=R i k) (by omega);have s2:vq (n+rw.length+1) (λj=>if j=k then R i k else if j<k then R i j else 0)=vq (n+rw.length+1) (λj=>if j<k+1 then R i j else 0):=dI (λj _=>by
   by_cases e:j=k
   ·subst e;simp
   rw[if_neg e];by_cases e2:j<k
   ·rw[if_pos e2,if_pos (by omega)]
   rw[if_neg e2,if_neg (by omega)])
  rw[s2]at s;have hl:=bZ (n+rw.length+1) (λj=>if j<k then R i j else 0);rw[<-s];generalize vq (n+rw.length+1) (λj=>if j<k then R i j else 0)=l at*;clear s s2;generalize qn (R i k)=q at*;obtain⟨⟨_,_⟩,⟨_,_⟩⟩:=q;exact aB (dT (by omega))<|bN Y<|aB at_<|aB (cE (by omega))<|aB (fz (by omega))<|aB (congrArg some (bM (by omega))) Y
 have s1:=uE (k:=n+rw.length+1) (j:=n+i) (h:=λj=>if j<n then R i j else 0) (x:=1) (by omega);have s2:=uE (k:=n+rw.length+1) (j:=n+rw.length) (h:=λj=>if j=n+i then 1 else if j<n then R i j else 0) (x:=g i) (by omega);rw[Y9 hi]at s2;have ZT:=bZ (n+rw.length+1) (λj=>if j<n then R i j else 0);have hl2:=bZ (n+rw.length+1) (λj=>if j=n+i then 1 else if j<n then R i j else 0);have b1:=rY i (λj=>n+j);have b2:=NS i (λj=>n+j);have m1:=cK i (λ_=>n+rw.length+1) (sW n rw.length R g);have m2:=tD i (n+rw.length+1) (sW n rw.length R g);have st1:=fz (y:=qn 1) (show n+i<(vq (n+rw.length+1) (λj=>if j<n then R i j else 0)).length by omega);have st2:=fz (y:=qn (g i)) (show n+rw.length<(vq (n+rw.length+1) (λj=>if j=n+i then 1 else if j<n then R i j else 0)).length by omega);rw[s1]at st1;rw[s2]at st2;generalize vq (n+rw.length+1) (λj=>if j<n then R i j else 0)=l1 at*;generalize vq (n+rw.length+1) (λj=>if j=n+i then 1 else if j<n then R i j else 0)=l2 at*;generalize vq (n+rw.length+1) (sW n rw.length R g i)=l3 at*;generalize qn (g i)=q' at*;generalize qn 1=q1 at*;obtain⟨⟨_,_⟩,⟨_,_⟩⟩:=q;obtain⟨⟨_,_⟩,⟨_,_⟩⟩:=q';obtain⟨⟨_,_⟩,⟨_,_⟩⟩:=q1
 refine aB (congrArg some wi)<|aB e1<|aB (cE (by omega))<|aB st1<|aB Y<|aB (congrArg some (show IntKind.i64.wrap ((l2.length:Int)-1)=((n+rw.length:Nat):Int) by rw[hl2,cH (by omega) (by omega)];omega))<|aB (bC hq)<|aB cn<|aB (cE (by omega))<|aB st2<|aB (nq (by decide) (by omega))<|aB (congrArg some wi)<|aB (nq (by decide) (by omega))<|aB (congrArg some (bM (by omega))) ?_;rw[b2,m2]
theorem T0(ho:kg L ob O)(hr:kg L rw R)(hb:eP L bd g)(hL:2<=L)(hv:K0 n ob rw bd):uY L n rw.length ob.length O (sW n rw.length R g) (λj=>n+j):=by
 obtain⟨v1,v2,v3,v4,v5,v6,v7,v8⟩:=hv;refine⟨λi hi k=>?_,λi hi k=>(ho.row i).fq k,λi hi k hk=>?_,by omega,by omega,by omega,by omega,λj hj=>by show n+j<_;omega⟩
 ·unfold sW;split
  ·exact(hr.row i).fq k
  split
  ·exact one_eq.2.fq.mono hL
  split
  ·exact hb.fq i
  exact mP (by omega)
 unfold sW;rw[if_neg (by omega),if_neg (by omega),if_neg (by omega)]
theorem ale(ho:kg M ob O)(hr:kg L rw R)(hb:eP K bd g)(hM:M<=4000000000)(hL:L<=4000000000)(hK:K<=4000000000)(hv:K0 n ob rw bd):
  kW ⟨(n:Int),ob,rw,bd⟩=some (true,(n:Int),mq ob.length (λ_=>n) O,bq rw.length (λj=>n+j),mq rw.length (λ_=>n+rw.length+1) (sW n rw.length R g)):=by
 have v:=Y3 (n:=(n:Int)) (ob:=ob) (rw:=rw) (bd:=bd) (by obtain⟨_,_,_,h,_⟩:=hv;omega) (by obtain⟨_,_,_,_,h,_⟩:=hv;omega);rw[decide_eq_true hv]at v;unfold kW;exact aB v<|aB Y<|bA Y<|aB (asb ho hr hb hM hL hK hv) Y
end new
end
section
open Go.Fw
theorem zj(h:Nat->Nat->Rat)(m:Nat):∀n,cw (λi=>cw (λj=>h i j) m) n=cw (λj=>cw (λi=>h i j) n) m
 |0=>by
  show(0:Rat)=cw (λj=>(0:Rat)) m;rw[qD]
 |n+1=>by
  show cw (λi=>cw (λj=>h i j) m) n+cw (λj=>h n j) m=cw (λj=>cw (λi=>h i j) n+h n j) m;rw[zj h m n,EI]
def EU(n m:Nat)(F:Nat->Nat->Rat)(z:Nat->Rat):Prop:=∀i,i<m->cw (λk=>F i k*z k) (n+m)=F i (n+m)
def Uc(m:Nat)(F:Nat->Nat->Rat)(b:Nat->Nat):Prop:=∀i j,i<m->j<m->F i (b j)=if i=j then 1 else 0
section jX
variable {n m r c:Nat}{F:Nat->Nat->Rat}{b:Nat->Nat}{z:Nat->Rat}
theorem B9(N:Nat):cw (λk=>jX F r c r k*z k) N=(F r c)⁻¹*cw (λk=>F r k*z k) N:=by
 rw[<-pz];refine c7 (λk _=>?_);unfold jX;rw[if_pos Y,Rat.div_def];grind
theorem Ca{i:Nat}(hne:i≠r)(N:Nat):cw (λk=>jX F r c i k*z k) N=cw (λk=>F i k*z k) N-F i c*((F r c)⁻¹*cw (λk=>F r k*z k) N):=by
 rw[<-pz,<-pz,<-BJ];refine c7 (λk _=>?_);unfold jX;rw[if_neg hne,Rat.div_def];grind
theorem T3(hr:r<m)(h0:F r c≠0):EU n m (jX F r c) z↔EU n m F z:=by
 have hi:F r c*(F r c)⁻¹=1:=Rat.mul_inv_cancel _ h0;have pr:jX F r c r (n+m)=(F r c)⁻¹*F r (n+m):=by unfold jX;rw[if_pos Y,Rat.div_def];grind
 have pi:∀i,i≠r->jX F r c i (n+m)=F i (n+m)-F i c*((F r c)⁻¹*F r (n+m)):=λi h=>by unfold jX;rw[if_neg h,Rat.div_def];grind
 constructor
 ·intro h;have e:=h r hr;rw[B9,pr]at e;have er:cw (λk=>F r k*z k) (n+m)=F r (n+m):=by
   have:=congrArg (λx=>F r c*x) e;simp only[<-Rat.mul_assoc,hi,Rat.one_mul]at this;exact this
  intro i hi';by_cases q:i=r
  ·subst q;exact er
  have e2:=h i hi';rw[Ca q,pi i q,er]at e2;grind
 intro h i hi';by_cases q:i=r
 ·subst q;rw[B9,pr,h _ hi']
 rw[Ca q,pi i q,h i hi',h r hr]
theorem Qq(hr:r<m)(h0:F r c≠0)(hu:Uc m F b):Uc m (jX F r c) (λj=>if j=r then c else b j):=by
 have hi:F r c*(F r c)⁻¹=1:=Rat.mul_inv_cancel _ h0;intro i j hi' hj;show jX F r c i (if j=r then c else b j)=_;by_cases e:j=r
 ·subst e;rw[if_pos rfl];unfold jX;by_cases q:i=j
  ·subst q;rw[if_pos Y,if_pos Y,Rat.div_def];exact hi
  rw[if_neg q,if_neg q,Rat.div_def,hi];grind
 rw[if_neg e];have z0:F r (b j)=0:=by rw[hu r j hr hj,if_neg (λq=>e q.symm)]
 unfold jX;rw[z0];by_cases q:i=r
 ·subst q;rw[if_pos Y,if_neg (λq=>e q.symm),Rat.div_def];grind
 rw[if_neg q,hu i j hi' hj,Rat.div_def];grind
theorem ahC(hu:Uc m F b){i j:Nat}(hi:i<m)(hj:j<m)(e:b i=b j):i=j:=by
 by_cases q:i=j
 ·exact q
 have h1:=hu i i hi hi;have h2:=hu i j hi hj;rw[if_pos rfl]at h1;rw[if_neg q,<-e,h1]at h2;exact absurd h2 (by decide)
end jX
theorem uY.mono{L M n m p:Nat}{O F:Nat->Nat->Rat}{b:Nat->Nat}(h:uY L n m p O F b)(hl:L<=M):uY M n m p O F b:=
 ⟨λi hi k=>(h.f i hi k).mono hl,λi hi k=>(h.o i hi k).mono hl,h.z,Nat.le_trans h.l1 hl,h.hn,h.hm,h.hp,h.hb⟩
end
section
open Go.Fw
theorem Za(k:List Int):N1 (List.replicate k.length 0) k=k:=by unfold N1;simp
theorem SA{n m p:Nat}{O F:Nat->Nat->Rat}{b:Nat->Nat}(hm:m<=128):jz (HR n m p O F b)=some (bq m b):=by
 unfold jz;refine aB (kS n m p O F b)<|bA Y<|aB Y<|aB (yt (n:=(bq m b).length) (by decide) (by rw[rY];omega)) ?_;show some (N1 (List.replicate (bq m b).length 0) (bq m b))=_;rw[Za]
theorem L8(l:List Int)(h:l.length<=1000000):oK l l=some true:=by
 unfold oK;refine aB Y<|aB Y<|aB (dF (by simp))<|bA Y ?_;refine bG (λk=>(k:Int)) l.length (.inl ()) Y (λk hk=>?_) (aB Y<|aB (dF (by omega))<|bA Y Y) Y;have g:=List.getElem?_eq_getElem hk;exact aB Y<|aB (dT (by omega))<|bN Y<|aB (bC g)<|aB (bC g)<|aB (dF (by simp))<|bA Y<|aB (congrArg some (bM (by omega))) Y
def exO(i j:Nat):Rat:=(((([[3,5]]:List (List Int)).getD i []).getD j 0:Int):Rat)
def exR(i j:Nat):Rat:=(((([[1,0],[0,2],[3,2]]:List (List Int)).getD i []).getD j 0:Int):Rat)
def exG(i:Nat):Rat:=((([4,12,18]:List Int).getD i 0:Int):Rat)
def U7:Nat->Nat->Rat:=sW 2 3 exR exG
def Zb:Nat->Nat->Rat:=jX U7 1 1
def ahD:Nat->Nat->Rat:=jX Zb 2 0
def Zc(j:Nat):Nat:=2+j
def abS(j:Nat):Nat:=if j=1 then 1 else Zc j
def ahE(j:Nat):Nat:=if j=2 then 0 else abS j
theorem xh{L n:Nat}{f:Nat->Rat}{v:List Qr}{k:Nat->Rat}(h:∀i,i<n->FQ L (f i))(h1:1<=L)(hL:L<=1000000000)(hv:eP 2 v k)(hn:v.length=n)(e:∀i,i<n->f i=k i):gL (vq n f) v=some true:=by
 have:=veq (NR h h1) hv (by omega);rw[this,bZ,hn,Nat.max_self,decide_eq_true (λi hi=>by rw[NQ hi];exact e i hi)]
set_option maxRecDepth 100000 in
theorem ahF:fM=some true:=by
 obtain⟨eo,ro⟩:=aej (l:=[[3,5]]) (by decide) (by decide);obtain⟨er,rr⟩:=aej (l:=[[1,0],[0,2],[3,2]]) (by decide) (by decide);obtain⟨eb,rb⟩:=EO (l:=[4,12,18]) (by decide) (by decide);obtain⟨i1,q1⟩:=EO (l:=[-3,1,0]) (by decide) (by decide);obtain⟨i2,q2⟩:=EO (l:=[4,6,6]) (by decide) (by decide);obtain⟨i3,q3⟩:=EO (l:=[30,0,-6]) (by decide) (by decide);obtain⟨i4,q4⟩:=EO (l:=[2,6,2]) (by decide) (by decide);obtain⟨i5,q5⟩:=EO (l:=[2,6]) (by decide) (by decide);obtain⟨i6,q6⟩:=EO (l:=[36,-2,-6]) (by decide) (by decide);have l0:(vq [(4:Int),12,18].length (λi=>(([(4:Int),12,18].getD i 0:Int):Rat))).length=3:=bZ _ _;have l1:(vq [(-3:Int),1,0].length (λi=>(([(-3:Int),1,0].getD i 0:Int):Rat))).length=3:=bZ _ _;have l2:(vq [(4:Int),6,6].length (λi=>(([(4:Int),6,6].getD i 0:Int):Rat))).length=3:=bZ _ _;have l3:(vq [(30:Int),0,-6].length (λi=>(([(30:Int),0,-6].getD i 0:Int):Rat))).length=3:=bZ _ _;have l4:(vq [(2:Int),6,2].length (λi=>(([(2:Int),6,2].getD i 0:Int):Rat))).length=3:=bZ _ _;have l5:(vq [(2:Int),6].length (λi=>(([(2:Int),6].getD i 0:Int):Rat))).length=2:=bZ _ _;have l6:(vq [(36:Int),-2,-6].length (λi=>(([(36:Int),-2,-6].getD i 0:Int):Rat))).length=3:=bZ _ _
 generalize hmo:mq [[(3:Int),5]].length _ _=mo at eo ro;generalize hmr:mq [[(1:Int),0],[0,2],[3,2]].length _ _=mr at er rr;generalize vq [(4:Int),12,18].length _=vb at eb rb l0;generalize vq [(-3:Int),1,0].length _=v1 at i1 q1 l1;generalize vq [(4:Int),6,6].length _=v2 at i2 q2 l2;generalize vq [(30:Int),0,-6].length _=v3 at i3 q3 l3;generalize vq [(2:Int),6,2].length _=v4 at i4 q4 l4;generalize vq [(2:Int),6].length _=v5 at i5 q5 l5;generalize vq [(36:Int),-2,-6].length _=v6 at i6 q6 l6;have lo:mo.length=1:=by rw[<-hmo,cK];rfl
 have lr:mr.length=3:=by rw[<-hmr,cK];rfl
 have wo:∀v∈mo,v.length<=2:=by rw[<-hmo];decide+kernel
 have wr:∀v∈mr,v.length<=2:=by rw[<-hmr];decide+kernel
 have co:qF mo<=2:=xe.2 wo;have cr:qF mr<=2:=xe.2 wr;have hv:K0 ((2:Nat):Int) mo mr vb:=⟨by decide,by decide,by omega,by omega,by omega,by omega,by omega,by omega⟩;have eN:=ale (n:=2) ro rr rb (by decide) (by decide) (by decide) hv;have k0:=T0 (n:=2) ro rr rb (by decide) hv;rw[lo,lr]at eN k0;have k0:uY 2 2 3 1 exO U7 Zc:=k0;have eN:kW ⟨2,mo,mr,vb⟩=some (true,2,mq 1 (λ_=>2) exO,bq 3 Zc,mq 3 (λ_=>6) U7):=eN;have p1:U7 1 1≠0:=by decide+kernel
 have p2:Zb 2 0≠0:=by decide+kernel
 have k1:uY 9 2 3 1 exO Zb abS:=NU k0 (r:=1) (c:=1) (by decide) (by decide) p1;have k2:uY 37 2 3 1 exO ahD ahE:=NU k1 (r:=2) (c:=0) (by decide) (by decide) p2;have t1:bY true 2 (mq 1 (λ_=>2) exO) (bq 3 Zc) (mq 3 (λ_=>6) U7) 1 1=some (0,mq 1 (λ_=>2) exO,bq 3 abS,mq 3 (λ_=>6) Zb):=Sy k0 (by decide) (r:=1) (c:=1) (by decide) (by decide) (by decide+kernel) p1;have t2:bY true 2 (mq 1 (λ_=>2) exO) (bq 3 abS) (mq 3 (λ_=>6) Zb) 2 0=some (0,mq 1 (λ_=>2) exO,bq 3 ahE,mq 3 (λ_=>6) ahD):=Sy k1 (by decide) (r:=2) (c:=0) (by decide) (by decide) (by decide+kernel) p2;have a0:jz (HR 2 3 1 exO U7 Zc)=some [2,3,4]:=SA (by decide);have a0':=L8 [2,3,4] (by decide);have a1:=Sx k0 (by decide);have b1:=xh (λi hi=>k0.f i hi 5) (by decide) (by decide) rb l0 (by decide+kernel);have a2:=(J1 k0 (by decide) (c:=0) (by decide)).1;have b2:=xh (λi (_:i<3)=>(J1 k0 (by decide) (c:=0) (by decide)).2.fq i) (by decide) (by decide) q1 l1 (by decide+kernel);have a3:=Sx k1 (by decide);have b3:=xh (λi hi=>k1.f i hi 5) (by decide) (by decide) q2 l2 (by decide+kernel);have a4:=NT k1 (by decide);have b4:=xh (λi (_:i<3)=>HU k1 (λj hj=>k1.f j hj 5) 3 (Nat.le_refl _) i) (by decide) (by decide) q3 l3 (by decide+kernel)
 have a5:=J2 k1 (by decide);rw[decide_eq_false (by decide+kernel)]at a5;have a6:=Sx k2 (by decide);have b6:=xh (λi hi=>k2.f i hi 5) (by decide) (by decide) q4 l4 (by decide+kernel);have a7:=L6 k2 (by decide);have s7:∀i,i<2->FQ 37 (rZ 2 3 ahD ahE 3 i):=λi hi=>by
  match i,hi with
  |0,_=>exact k2.f 2 (by decide) 5
  |1,_=>exact k2.f 1 (by decide) 5
 have b7:=xh s7 (by decide) (by decide) q5 l5 (by decide+kernel);have a8:=NT k2 (by decide);have b8:=xh (λi (_:i<3)=>HU k2 (λj hj=>k2.f j hj 5) 3 (Nat.le_refl _) i) (by decide) (by decide) q6 l6 (by decide+kernel);have a9:=J2 k2 (by decide);rw[decide_eq_true (by decide+kernel)]at a9;have a10:=L7 k2 (by decide);rw[decide_eq_true (by decide+kernel)]at a10;unfold fM tw;refine aB (aB eo<|aB er<|aB eb Y)<|aB eN<|bW ?_;refine aB (a:=false) (bA Y Y)<|aB (a:=false) (bA Y<|aB a0<|aB a0'<|aB Y Y)<|aB (a:=false) (bA Y<|aB a1<|aB eb<|aB b1<|aB Y Y)<|aB (a:=false) (bA Y<|aB a2<|aB i1<|aB b2<|aB Y Y)<|bA Y<|aB t1<|bW ?_;refine aB (dF (by decide))<|aB (a:=false) (bA Y<|aB a3<|aB i2<|aB b3<|aB Y Y)<|aB (a:=false) (bA Y<|aB a4<|aB i3<|aB b4<|aB Y Y)<|aB (a:=false) (bA Y<|aB a5 Y)<|bA Y<|aB t2<|bW ?_;exact aB (dT Y)<|Y0 (aB a6<|aB i4<|aB b6 Y)<|Y0 (aB a7<|aB i5<|aB b7 Y)<|Y0 (aB a8<|aB i6<|aB b8 Y)<|Y0 (aB a9 Y)<|Y0 (aB a10 Y) Y
end
section
open Go.Fw
theorem Zd{l:List (List Qr)}{i:Nat}{P:List Qr->Prop}(hi:i<l.length)(ht:∀v∈l.take i,P v)(hp:P l[i]):∀v∈l.take (i+1),P v:=by
 rw[List.take_add_one,List.getElem?_eq_getElem hi];intro u hu;rcases List.mem_append.1 hu with h|h
 ·exact ht u h
 simp at h;rw[h];exact hp
abbrev Sml(v:List Qr):Prop:=v.length<=20/\∀q∈v,q.num.w.length<=6/\q.den.w.length<=6
abbrev Sm8(v:List Qr):Prop:=v.length<=8/\∀q∈v,q.num.w.length<=6/\q.den.w.length<=6
theorem Qs(l:List (List Qr))(hl:l.length<=9223372036854775807):∃b,oI l=some b/\(b=false->∀v∈l,Sml v):=by
 unfold oI;refine mN (λy=>∃i:Nat,y=(i:Int)/\i<=l.length/\∀v∈l.take i,Sml v) (λe=>(∃c,e=.inl c/\∀v∈l,Sml v)\/e=.inr true) (λy=>l.length-y.toNat) ?_ ⟨0,Y,by omega,by simp⟩ ?_
 ·rintro _ ⟨i,rfl,hi,ht⟩;by_cases hlt:i<l.length
  ·have g:=List.getElem?_eq_getElem hlt;by_cases h1:20<l[i].length
   ·exact .inr ⟨.inr true,aB Y<|aB (dT (by omega))<|bN Y<|bW<|aB (bC g)<|aB Y<|aB (dT (by omega))<|aB (a:=true) (bN Y Y) Y,.inr Y⟩
   obtain⟨b,hb,hs⟩:=YY l[i] (by omega);cases b
   ·refine .inl ⟨((i+1:Nat):Int),?_,⟨i+1,Y,hlt,Zd hlt ht ⟨by omega,hs Y⟩⟩,by simp only[Int.toNat_natCast];omega⟩;exact aB Y<|aB (dT (by omega))<|bN Y<|bW<|aB (bC g)<|aB Y<|aB (dF (by omega))<|aB (a:=false) (bA Y<|aB (bC g)<|aB hb Y)<|bA Y<|aB (congrArg some (bM (by omega))) Y
   exact .inr ⟨.inr true,aB Y<|aB (dT (by omega))<|bN Y<|bW<|aB (bC g)<|aB Y<|aB (dF (by omega))<|aB (a:=true) (bA Y<|aB (bC g)<|aB hb Y) Y,.inr Y⟩
  refine .inr ⟨.inl (),?_,.inl ⟨(),Y,?_⟩⟩
  ·exact aB Y<|aB (dF (by omega))<|bA Y Y
  rw[List.take_of_length_le (by omega)]at ht;exact ht
 rintro e (⟨c,rfl,he⟩|rfl)
 ·exact⟨false,Y,λ_=>he⟩
 exact⟨true,rfl,λh=>by cases h⟩
theorem xg(m:List (List Qr))(h:m.length<=9223372036854775806):cV m=some (qF m:Int):=by
 unfold cV;refine bG (λj=>(((m.take j).foldl (λn v=>max n v.length) 0:Nat),(j:Int))) m.length ((qF m:Nat):Int) (by simp) (λj hj=>?_) ?_ Y
 ·refine aB Y<|aB (dT (by omega))<|bN Y<|aB (bC (List.getElem?_eq_getElem hj))<|aB Y<|aB Y<|aB (congrArg some (bM (by omega))) ?_;rw[List.take_add_one,List.getElem?_eq_getElem hj,List.foldl_append];simp only[Option.toList_some,List.foldl_cons,List.foldl_nil];congr 3;omega
 refine aB Y<|aB (dF (by omega))<|bA Y ?_;rw[List.take_length];rfl
theorem Qt(m:List (List Qr)):∃b,oJ [m]=some b/\(b=false->m.length<=8/\∀v∈m,Sm8 v):=by
 unfold oJ;have hg:cM [m] (0:Int)=some m:=rfl;by_cases h8:8<m.length
 ·refine⟨true,?_,λh=>by cases h⟩;refine bG (λj=>(j:Int)) 0 (.inr true) Y (λj hj=>by omega) ?_ Y;exact aB Y<|aB (dT (by simp))<|bN Y<|bW<|aB hg<|aB Y<|aB (dT (by omega))<|aB (a:=true) (bN Y Y)<|aB (a:=true) (bN Y Y) Y
 by_cases hc:8<qF m
 ·refine⟨true,?_,λh=>by cases h⟩;refine bG (λj=>(j:Int)) 0 (.inr true) Y (λj hj=>by omega) ?_ Y;exact aB Y<|aB (dT (by simp))<|bN Y<|bW<|aB hg<|aB Y<|aB (dF (by omega))<|aB (a:=true) (bA Y<|aB hg<|aB (xg m (by omega))<|aB (dT (by omega)) Y)<|aB (a:=true) (bN Y Y) Y
 obtain⟨b,hb,hs⟩:=Qs m (by omega);cases b
 ·refine⟨false,?_,λ_=>⟨by omega,λv hv=>⟨?_,(hs Y v hv).2⟩⟩⟩
  ·refine bG (λj=>(j:Int)) 1 (.inl ()) Y (λj hj=>?_) (aB Y<|aB (dF (by simp))<|bA Y Y) Y;obtain rfl:j=0:=by omega
   exact aB Y<|aB (dT (by simp))<|bN Y<|bW<|aB hg<|aB Y<|aB (dF (by omega))<|aB (a:=false) (bA Y<|aB hg<|aB (xg m (by omega))<|aB (dF (by omega)) Y)<|aB (a:=false) (bA Y<|aB hg<|aB hb Y)<|bA Y<|aB (congrArg some (bM (by omega))) Y
  have:=xe.1 (Nat.le_refl (qF m)) v hv;omega
 refine⟨true,?_,λh=>by cases h⟩;refine bG (λj=>(j:Int)) 0 (.inr true) Y (λj hj=>by omega) ?_ Y;exact aB Y<|aB (dT (by simp))<|bN Y<|bW<|aB hg<|aB Y<|aB (dF (by omega))<|aB (a:=false) (bA Y<|aB hg<|aB (xg m (by omega))<|aB (dF (by omega)) Y)<|aB (a:=true) (bA Y<|aB hg<|aB hb Y)<|bN Y Y
theorem abT(m:List (List Qr))(h:m.length<=1000):rI m=some (decide (∀i,i<m.length->(m.getD i []).length=0)):=by
 unfold rI;refine aB (sS (p:=λi=>(m.getD i []).length=0) (e:=false) (n:=m.length) (λi hi=>?_) (aB Y<|aB (dF (by omega))<|bA Y Y)) ?_
 ·refine aB Y<|aB (dT (by omega))<|bN Y<|aB (bC (gW (d:=[]) hi))<|aB Y<|aB Y ?_;by_cases hz:(m.getD i []).length=0
  ·rw[if_pos hz];exact bA (decide_eq_false (by omega))<|aB (congrArg some (bM (by omega))) Y
  rw[if_neg hz];exact bN (decide_eq_true (by omega)) Y
 by_cases hp:∀i,i<m.length->(m.getD i []).length=0
 ·rw[if_pos hp,decide_eq_true hp]
 rw[if_neg hp,decide_eq_false hp]
structure Sm6 (ob rw:List (List Qr)) (bd:List Qr):Prop where
 lo:ob.length<=6
 lr:rw.length<=140
 lb:bd.length<=140
 so:∀v∈ob,Sm8 v
 sr:∀v∈rw,Sm8 v
 sb:Sml (bd.take (min bd.length 20))
theorem Ze{n:Int}{ob rw:List (List Qr)}{bd:List Qr}:∃b,rJ ⟨n,ob,rw,bd⟩=some b/\(b=false->Sm6 ob rw bd):=by
 unfold rJ;obtain⟨b1,e1,s1⟩:=Qt rw;obtain⟨b2,e2,s2⟩:=Qt ob;have alg:uA bd=some (bd.take (min bd.length 20)):=by
  unfold uA;have hm:min (bd.length:Int) 20=((min bd.length 20:Nat):Int):=by omega
  refine aB Y<|aB (congrArg some hm)<|aB (y4 (by omega)) Y
 obtain⟨b3,e3,s3⟩:=Qs [bd.take (min bd.length 20)] (by simp);by_cases c1:6<ob.length
 ·exact⟨true,bW<|aB rfl<|aB (dT (by omega))<|aB (a:=true) (bN rfl rfl)<|aB (a:=true) (bN rfl rfl)<|aB (a:=true) (bN rfl rfl)<|aB (a:=true) (bN rfl rfl)<|aB (a:=true) (bN rfl rfl)<|aB (a:=true) (bN rfl rfl) rfl,λh=>by cases h⟩
 by_cases c2:140<rw.length
 ·exact⟨true,bW<|aB rfl<|aB (dF (by omega))<|aB (a:=true) (bA rfl<|aB rfl<|aB (dT (by omega)) rfl)<|aB (a:=true) (bN rfl rfl)<|aB (a:=true) (bN rfl rfl)<|aB (a:=true) (bN rfl rfl)<|aB (a:=true) (bN rfl rfl)<|aB (a:=true) (bN rfl rfl) rfl,λh=>by cases h⟩
 by_cases c3:140<bd.length
 ·exact⟨true,bW<|aB rfl<|aB (dF (by omega))<|aB (a:=false) (bA rfl<|aB rfl<|aB (dF (by omega)) rfl)<|aB (a:=true) (bA rfl<|aB rfl<|aB (dT (by omega)) rfl)<|aB (a:=true) (bN rfl rfl)<|aB (a:=true) (bN rfl rfl)<|aB (a:=true) (bN rfl rfl)<|aB (a:=true) (bN rfl rfl) rfl,λh=>by cases h⟩
 have eb:=abT rw (by omega);by_cases c4:8<rw.length
 ·by_cases c5:∀i,i<rw.length->(rw.getD i []).length=0
  ·rw[decide_eq_true c5]at eb;refine⟨_,bW<|aB Y<|aB (dF (by omega))<|aB (a:=false) (bA Y<|aB Y<|aB (dF (by omega)) Y)<|aB (a:=false) (bA Y<|aB Y<|aB (dF (by omega)) Y)<|aB (a:=false) (bA Y<|aB Y<|aB (dT (by omega))<|aB (a:=false) (bN Y<|aB eb<|aB Y Y) Y)<|aB (a:=false) (bA Y<|aB Y<|aB (dF (by omega))<|aB (a:=false) (bA Y Y) Y)<|Kc (λ_=>aB e2 Y)<|Kc (λ_=>aB alg<|aB e3 Y) Y,λh=>?_⟩;simp only[Bool.false_or,Bool.or_eq_false_iff]at h;refine⟨by omega,by omega,by omega,(s2 h.1).2,λv hv=>?_,s3 h.2 _ (by simp)⟩;obtain⟨i,hi,rfl⟩:=List.getElem_of_mem hv;have:=c5 i hi;rw[List.getD_eq_getElem?_getD,List.getElem?_eq_getElem hi]at this;have h0:rw[i]=[]:=List.eq_nil_of_length_eq_zero this;rw[h0];exact⟨by decide,by simp⟩
  rw[decide_eq_false c5]at eb;exact⟨true,bW<|aB rfl<|aB (dF (by omega))<|aB (a:=false) (bA rfl<|aB rfl<|aB (dF (by omega)) rfl)<|aB (a:=false) (bA rfl<|aB rfl<|aB (dF (by omega)) rfl)<|aB (a:=true) (bA rfl<|aB rfl<|aB (dT (by omega))<|aB (a:=true) (bN rfl<|aB eb<|aB rfl rfl) rfl)<|aB (a:=true) (bN rfl rfl)<|aB (a:=true) (bN rfl rfl)<|aB (a:=true) (bN rfl rfl) rfl,λh=>by cases h⟩
 refine⟨_,bW<|aB Y<|aB (dF (by omega))<|aB (a:=false) (bA Y<|aB Y<|aB (dF (by omega)) Y)<|aB (a:=false) (bA Y<|aB Y<|aB (dF (by omega)) Y)<|aB (a:=false) (bA Y<|aB Y<|aB (dF (by omega))<|aB (a:=false) (bA Y Y) Y)<|Kc (c:=b1) (λ_=>aB Y<|aB (dT (by omega))<|aB (a:=b1) (bN Y<|aB e1 Y) Y)<|Kc (λ_=>aB e2 Y)<|Kc (λ_=>aB alg<|aB e3 Y) Y,λh=>?_⟩;simp only[Bool.false_or,Bool.or_eq_false_iff]at h;exact⟨by omega,by omega,by omega,(s2 h.1.2).2,(s1 h.1.1).2,s3 h.2 _ (by simp)⟩
end
section
open Go.Fw
abbrev OkM(m:List (List Qr)):Prop:=m.length<=9223372036854775807/\∀v∈m,OkV v
abbrev OkL(p:Lr):Prop:=gD p.vars/\OkM p.GI/\OkM p.rows/\OkV p.bounds
theorem ael{m:List (List Qr)}(h:OkM m)(s:∀v∈m,Sm8 v):kg 6 m (Sv m):=
 abK (λv hv=>TO (λq hq=>YZ ((h.2 v hv).2 q hq) ((s v hv).2 q hq).1 ((s v hv).2 q hq).2 (by decide)) (by decide)) (by decide)
theorem ali{v:List Qr}(h:OkV v)(s:Sml v):eP 6 v (NK v):=TO (λq hq=>YZ (h.2 q hq) (s.2 q hq).1 (s.2 q hq).2 (by decide)) (by decide)
section refs
variable {n:Int}{ob rw:List (List Qr)}{bd:List Qr}
theorem alj:mh ⟨n,ob,rw,bd⟩=some (decide (K0 n ob rw bd)):=by
 have sh:∀(m:List (List Qr)),m.length<=9223372036854775806->nc m n=some (decide ((qF m:Int)<=n)):=λm hm=>by
  unfold nc;exact aB (xg m hm)<|aB Y Y
 unfold mh;refine bW<|aB Y<|Kc (λ_=>aB Y Y)<|Kc (λ_=>aB Y<|aB Y Y)<|Kc (λ_=>aB Y<|aB Y Y)<|Kc (λ_=>aB Y<|aB Y Y)<|Kc (λ_=>aB Y<|aB Y<|aB Y Y)<|J0 (λh=>?_) (λh=>bW<|aB (sh ob (by simp only[Bool.or_eq_false_iff,decide_eq_false_iff_not]at h;omega))<|Y1 (λ_=>aB (sh rw (by simp only[Bool.or_eq_false_iff,decide_eq_false_iff_not]at h;omega)) Y) ?_)
 ·congr 1;symm;rw[decide_eq_false_iff_not];simp only[Bool.or_eq_true,decide_eq_true_eq]at h;unfold K0;omega
 congr 1;simp only[Bool.or_eq_false_iff,decide_eq_false_iff_not]at h;rw[<-Bool.decide_and,decide_eq_decide];unfold K0;omega
end refs
end
section
open Go.Fw
section sol
variable {L n m p:Nat}{O F:Nat->Nat->Rat}{b:Nat->Nat}{z:Nat->Rat}
theorem Qu:∀j k,n<=k->rZ n m F b j k=0
 |0,_,_=>rfl
 |j+1,k,hk=>by
  show(if b j<n/\k=b j then F j (n+m)else rZ n m F b j k)=0;rw[if_neg (by omega),Qu j k hk]
theorem T4(h:uY L n m p O F b):∀j,j<=m->∀k,FQ L (rZ n m F b j k)
 |0,_,_=>mP h.l1
 |j+1,hj,k=>by
  show FQ L (if b j<n/\k=b j then F j (n+m)else rZ n m F b j k);split
  ·exact h.f j (by omega) _
  exact T4 h j (by omega) k
theorem FY{R:Nat->Nat->Rat}{g:Nat->Rat}:Uc m (sW n m R g) (λj=>n+j):=λi j hi hj=>by
 show sW n m R g i (n+j)=_;unfold sW;rw[if_neg (by omega)];by_cases e:i=j
 ·rw[if_pos (by omega),if_pos e]
 rw[if_neg (by omega),if_neg (by omega),if_neg e]
end sol
def szT:Nat->Nat
 |0=>6
 |k+1=>4*szT k+1
abbrev ase(v:Pv):Prop:=(-9223372036854775808<=v.row/\v.row<=9223372036854775807)/\(-9223372036854775808<=v.col/\v.col<=9223372036854775807)
theorem al7:(fM.bind λx=>some x)=some true:=aB ahF Y
theorem Zf{n:Int}{ob rw:List (List Qr)}{bd:List Qr}:∃b,oL ⟨n,ob,rw,bd⟩=some b/\(b=false->Sm6 ob rw bd/\(K0 n ob rw bd->rw.length<=5/\n<=6)):=by
 obtain⟨b1,e1,s1⟩:=Ze (n:=n) (ob:=ob) (rw:=rw) (bd:=bd);have my:=alj (n:=n) (ob:=ob) (rw:=rw) (bd:=bd);unfold oL;refine⟨_,bW<|aB e1<|Kc (c:=decide (5<rw.length)&&decide (K0 n ob rw bd)) (λ_=>aB Y<|aB (congrArg some (decide_eq_decide.2 (show(5:Int)<(rw.length:Int)↔5<rw.length by omega)))<|Y1 (λ_=>aB my Y) Y)<|Kc (c:=decide (6<n)&&decide (K0 n ob rw bd)) (λ_=>aB Y<|Y1 (λ_=>aB my Y) Y) Y,λh=>?_⟩;simp only[Bool.or_eq_false_iff,Bool.and_eq_false_iff,decide_eq_false_iff_not]at h;refine⟨s1 h.1.1,λhv=>⟨?_,?_⟩⟩
 ·rcases h.1.2 with q|q
  ·omega
  exact absurd hv q
 rcases h.2 with q|q
 ·omega
 exact absurd hv q
theorem alm{n:Int}{ob rw:List (List Qr)}{bd:List Qr}(v:mG ⟨n,ob,rw,bd⟩=some false):wW ⟨n,ob,rw,bd⟩=some ():=by
 unfold wW;exact aB v<|aB Y<|bN Y Y
end
section
open Go.Fw
section two
variable {L K n m p:Nat}{O F G:Nat->Nat->Rat}{b c:Nat->Nat}
theorem xW(hb:∀j,j<m->b j<n+m)(f h:Nat->Rat):cw (λl=>f l*cw (λj=>if b j=l then h j else 0) m) (n+m)=cw (λj=>f (b j)*h j) m:=by
 rw[show(λl=>f l*cw (λj=>if b j=l then h j else 0) m)=λl=>cw (λj=>f l*(if b j=l then h j else 0)) m from funext λl=>(pz _ _ _).symm,zj];refine c7 (λj hj=>?_);rw[gQ (hb j hj) (λi _ hne=>by rw[if_neg (λq=>hne q.symm)];grind),if_pos rfl]
theorem FZ(hb:∀j,j<m->b j<n+m)(hu:Uc m F b)(hs:∀z,EU n m F z->EU n m G z){i k:Nat}(hi:i<m)(hk:k<=n+m):G i k=cw (λs=>G i (b s)*F s k) m:=by
 have one:∀(h:Nat->Rat) (i:Nat),i<m->cw (λj=>F i (b j)*h j) m=h i:=λh i hi=>by
  rw[gQ hi (λj hj hne=>by rw[hu i j hi hj,if_neg (λq=>hne q.symm)];grind),hu i i hi hi,if_pos rfl];grind
 have s0:EU n m F (λl=>cw (λj=>if b j=l then F j (n+m)else 0) m):=λi hi=>by rw[xW hb,one _ i hi]
 have g0:=hs _ s0 i hi;rw[xW hb]at g0;by_cases e:k=n+m
 ·rw[e,<-g0]
 have hk':k<n+m:=by omega
 have pt:∀(f:Nat->Rat),cw (λl=>f l*(cw (λj=>if b j=l then F j (n+m)else 0) m+((if l=k then 1 else 0)-cw (λj=>if b j=l then F j k else 0) m))) (n+m)=cw (λj=>f (b j)*F j (n+m)) m+(f k-cw (λj=>f (b j)*F j k) m):=λf=>by
  rw[<-xW hb f (λj=>F j (n+m)),<-xW hb f (λj=>F j k)];have e1:f k=cw (λl=>f l*(if l=k then 1 else 0)) (n+m):=by
   rw[gQ hk' (λi _ hne=>by rw[if_neg hne];grind),if_pos rfl];grind
  rw[e1,<-BJ,<-EI];exact c7 (λl _=>by grind)
 have s1:EU n m F (λl=>cw (λj=>if b j=l then F j (n+m)else 0) m+((if l=k then 1 else 0)-cw (λj=>if b j=l then F j k else 0) m)):=λi hi=>by
  rw[pt (F i),one _ i hi,one _ i hi];grind
 have g1:=hs _ s1 i hi;rw[pt (G i),g0]at g1;grind
theorem Zg(hb:∀j,j<m->b j<n+m)(hu:Uc m F b)(hv:Uc m G c)(hs:∀z,EU n m F z->EU n m G z)(hc:∀s,s<m->∃j,j<m/\c j=b s){i j k:Nat}(hi:i<m)(hj:j<m)(e:c j=b i)(hk:k<=n+m):F i k=G j k:=by
 rw[FZ hb hu hs hj hk,gQ hi (λs hs' hne=>?_),<-e,hv j j hj hj,if_pos rfl]
 ·grind
 obtain⟨t,ht,et⟩:=hc s hs';rw[<-et,hv j t hj ht,if_neg (λq=>?_)]
 ·grind
 subst q;exact hne (ahC hu hs' hi (et.symm.trans e))
theorem reach(h:uY L n m p O F b)(hu:Uc m F b){G:Nat->Nat->Rat}{c:Nat->Nat}(hg:uY (szT 0) n m p O G c)(hv:Uc m G c)(hs:∀z,EU n m F z↔EU n m G z):∀t,t<=m->∃G' c',uY (szT t) n m p O G' c'/\Uc m G' c'/\(∀z,EU n m F z↔EU n m G' z)/\∀s,s<t->∃j,j<m/\c' j=b s
 |0,_=>⟨G,c,hg,hv,hs,λs hs=>by omega⟩
 |t+1,ht=>by
  obtain⟨G',c',h1,h2,h3,h4⟩:=reach h hu hg hv hs t (by omega);by_cases q:∃j,j<m/\c' j=b t
  ·refine⟨G',c',h1.mono (by show _<=4*szT t+1;omega),h2,h3,λs hs=>?_⟩;by_cases e:s=t
   ·subst e;exact q
   exact h4 s (by omega)
  by_cases q2:∃r,r<m/\G' r (b t)≠0/\∀s,s<t->c' r≠b s
  ·obtain⟨r,hr,h0,hn⟩:=q2;refine⟨_,_,NU h1 hr (h.hb t (by omega)) h0,Qq hr h0 h2,λz=>(h3 z).trans (T3 hr h0).symm,λs hs=>?_⟩;by_cases e:s=t
   ·subst e;exact⟨r,hr,if_pos Y⟩
   obtain⟨j,hj,ej⟩:=h4 s (by omega);refine⟨j,hj,?_⟩;show(if j=r then _ else c' j)=_;rw[if_neg (λ(q:j=r)=>hn s (by omega) (by rw[<-q];exact ej))];exact ej
  exfalso;have e:=FZ h1.hb h2 (λz=>(h3 z).2) (i:=t) (k:=b t) (show t<m by omega) (Nat.le_of_lt (h.hb t (by omega)));rw[hu t t (by omega) (by omega),if_pos Y,c7 (k:=λ_=>0) (λs hs=>?_),qD]at e
  ·exact absurd e (by decide)
  by_cases w:G' s (b t)=0
  ·rw[w];grind
  by_cases w2:∃u,u<t/\c' s=b u
  ·obtain⟨u,hu1,hu2⟩:=w2;rw[hu2,hu t u (by omega) (by omega),if_neg (by omega)];grind
  exact absurd ⟨s,hs,w,λu hu q=>w2 ⟨u,hu,q⟩⟩ q2
theorem short(h:uY L n m p O F b)(hu:Uc m F b){G:Nat->Nat->Rat}{c:Nat->Nat}(hg:uY 6 n m p O G c)(hv:Uc m G c)(hs:∀z,EU n m F z↔EU n m G z)(hm:m<=5):uY 6485 n m p O F b:=by
 obtain⟨G',c',h1,h2,h3,h4⟩:=reach h hu (G:=G) (c:=c) hg hv hs m (Nat.le_refl m);have sz:szT m<=6485:=by
  have:∀k,k<6->szT k<=6485:=by decide
  exact this m (by omega)
 have h1:=h1.mono sz;refine⟨λi hi k=>?_,h1.o,h.z,by decide,h.hn,h.hm,h.hp,h.hb⟩;by_cases hk:k<=n+m
 ·obtain⟨j,hj,e⟩:=h4 i hi;rw[Zg h.hb hu h2 (λz=>(h3 z).1) h4 hi hj e hk];exact h1.f j hj k
 rw[h.z i hi k (by omega)];exact mP (by decide)
end two
end
section
open Go.Fw
def sp(i q r:Nat):Nat:=if r=i then q else if r=q then i else r
theorem aln(i q r:Nat):sp i q (sp i q r)=r:=by
 unfold sp;by_cases h1:r=i
 ·rw[if_pos h1];by_cases h2:q=i
  ·rw[if_pos h2];omega
  rw[if_neg h2,if_pos rfl];exact h1.symm
 rw[if_neg h1];by_cases h2:r=q
 ·rw[if_pos h2,if_pos rfl];exact h2.symm
 rw[if_neg h2,if_neg h1,if_neg h2]
theorem Gz{i q r m:Nat}(hi:i<m)(hq:q<m)(hr:r<m):sp i q r<m:=by
 unfold sp;split
 ·exact hq
 split
 ·exact hi
 exact hr
theorem alo{m w i q:Nat}{F:Nat->Nat->Rat}(hi:i<m)(hq:q<m):((mq m (λ_=>w) F).set i (vq w (F q))).set q (vq w (F i))=mq m (λ_=>w) (λr=>F (sp i q r)):=by
 apply List.ext_getElem?;intro j;rw[List.getElem?_set,List.getElem?_set,List.length_set,cK];by_cases hj:j<m
 ·rw[fD hj,fD hj];show _=some (vq w (F (sp i q j)));unfold sp;by_cases e1:q=j
  ·rw[if_pos e1,if_pos hq];by_cases e2:j=i
   ·rw[if_pos e2,e1,e2]
   rw[if_neg e2,if_pos e1.symm]
  rw[if_neg e1];by_cases e2:i=j
  ·rw[if_pos e2,if_pos hi,if_pos e2.symm]
  rw[if_neg e2,if_neg (λe=>e2 e.symm),if_neg (λe=>e1 e.symm)]
 rw[List.getElem?_eq_none (l:=mq m _ _) (by rw[cK];omega),List.getElem?_eq_none (l:=mq m _ _) (by rw[cK];omega),if_neg (by omega),if_neg (by omega)]
section sw
variable {L n m p i q:Nat}{O F:Nat->Nat->Rat}{b:Nat->Nat}
end sw
section from_
variable {n:Nat}{ob rw:List (List Qr)}{bd:List Qr}{O R F:Nat->Nat->Rat}{g:Nat->Rat}{b c:Nat->Nat}
end from_
end
section
open Go.Fw
theorem aem{α:Type}{l:List α}{x:α}(h:l.length<=1000):mQ 24 l [x]=some (l++[x]):=nq (by decide) (by omega)
section tab
variable {L n m p:Nat}{O F:Nat->Nat->Rat}{b:Nat->Nat}
theorem alp(h:uY L n m p O F b)(hL:L<=4000000000):sK (HR n m p O F b)=some (mq m (λ_=>n+m) F):=by
 have hm:=h.hm;have hn:=h.hn;unfold sK;refine aB (kS n m p O F b)<|bA Y<|aB (congrArg some (show((mq m (λ_=>n+m+1) F).length:Int)=(m:Int) by rw[cK])) ?_;refine bG (λk=>((k:Int),mq k (λ_=>n+m) F)) m (mq m (λ_=>n+m) F) Y (λk hk=>?_) ?_ Y
 ·have g1:(mq m (λ_=>n+m+1) F)[k]? =some (vq (n+m+1) (F k)):=fD hk;have rs:=TV (ahz h hk) (by omega) (by rw[bZ];omega) ((n+m:Nat):Int);rw[show(min (((n+m:Nat):Int)) 65536).toNat=n+m by omega]at rs;have ap:=aem (l:=mq k (λ_=>n+m) F) (x:=vq (n+m) (F k)) (by rw[cK];omega);rw[<-tD]at ap;refine aB (dT (by omega))<|bN Y<|aB (bC g1)<|aB (FX hn hm)<|aB rs<|aB ap<|aB (congrArg some (bM (by omega))) Y
 exact aB (dF (by omega))<|bA Y Y
theorem ahG(h:uY L n m p O F b)(hL:(m+1)*(L+L+1)<=2000000000):gZ (HR n m p O F b)=some (mq (n+m) (λ_=>p+n) (oU n m p O F b)):=by
 have hm:=h.hm;have hn:=h.hn;unfold gZ;refine aB (kS n m p O F b)<|bA Y ?_;have hw:(IntKind.i64.wrap (Tb.vars (HR n m p O F b)+((Tb.rows (HR n m p O F b)).length:Int))).toNat=n+m:=by
  show(IntKind.i64.wrap ((n:Int)+((mq m (λ_=>n+m+1) F).length:Int))).toNat=_;rw[cK,cH (by omega) (by omega)];omega
 refine aB (a:=mq (n+m) (λ_=>p+n) (oU n m p O F b)) ?_ Y;refine Eq.trans (congrArg (λk=>uK _ k []) hw) ?_;refine Fa (λk=>mq k (λ_=>p+n) (oU n m p O F b)) (n+m) (λk hk=>?_);have ap:=aem (l:=mq k (λ_=>p+n) (oU n m p O F b)) (x:=vq (p+n) (oU n m p O F b k)) (by rw[cK];omega);rw[<-tD]at ap;exact aB Y<|aB (J1 h hL hk).1<|aB ap Y
end tab
end
section
open Go.Fw
theorem DB{α β:Type}{x:Option α}{a:α}{f:α->Option β}{Q:β->Prop}(h:x=some a)(hf:∃r,f a=some r/\Q r):∃r,x.bind f=some r/\Q r:=by rw[h];exact hf
theorem exT{β:Type}{b:Bool}{x y:Option β}{Q:β->Prop}(hb:b=true)(h:∃r,x=some r/\Q r):∃r,(bif b then x else y)=some r/\Q r:=by rw[hb];exact h
theorem BM{S E R:Type}{body:S->Option (S⊕E)}{s:S}{f:E->Option R}{Q:R->Prop}(I:S->Prop)(Post:E->Prop)(μ:S->Nat)
  (step:∀s,I s->∃r,body s=some r/\((∃s',r=.inl s'/\I s'/\μ s'<μ s)\/(∃e,r=.inr e/\Post e))) (h:I s) (hf:∀e,Post e->∃r,f e=some r/\Q r):∃r,(b9 body s).bind f=some r/\Q r:=
 mN I Post μ (λs hs=>by
  obtain⟨r,hr,h1⟩:=step s hs;rcases h1 with⟨s',rfl,h2⟩|⟨e,rfl,h2⟩
  ·exact .inl ⟨s',hr,h2⟩
  exact .inr ⟨e,hr,h2⟩) h hf
section tab
variable {L n m p:Nat}{O F G:Nat->Nat->Rat}{b c:Nat->Nat}
end tab
end
section
open Go.Fw
section ash
variable {L K M n:Nat}{rw rv:List (List Qr)}{F G:Nat->Nat->Rat}
theorem NV(h:kg L rw F)(hL:L<=10000000000)(i j:Nat):fo rw (i:Int) (j:Int)=some (qn (F i j)):=by
 unfold fo;rw[xV];by_cases hi:i<rw.length
 ·have g1:=gW (l:=rw) (d:=[]) hi;have e1:=BK (rw.getD i []) j;have e2:=((h.row i).gd j).YT hL;generalize (rw.getD i []).getD j (⟨⟨false,[]⟩,⟨false,[]⟩⟩:Qr)=q at*;generalize qn (F i j)=q2 at*;exact aB (dF (by omega))<|aB (a:=false) (bA Y<|aB Y<|aB (dF (by omega)) Y)<|bA Y<|aB (bC g1)<|aB e1<|aB e2 Y
 rw[h.z i (by omega) j];exact aB (dF (by omega))<|aB (a:=true) (bA Y<|aB Y<|aB (dT (by omega)) Y)<|bN Y Y
theorem L9{a b kd:Nat}{c:Qr}{F:Nat->Nat->Rat}(ha:a<=1024)(hb:b<=1024)(pl:∀i j:Nat,i<a->j<b->eJ kd c rw rv (i:Int) (j:Int)=some (qn (F i j))):kM (a:Int) (b:Int) kd c rw rv=some (mq a (λ_=>b) F):=by
 unfold kM;obtain⟨⟨c1,c2⟩,⟨c3,c4⟩⟩:=c;refine bG (λi=>((i:Int),mq i (λ_=>b) F)) a (mq a (λ_=>b) F) Y (λi hi=>?_) ?_ Y
 ·refine aB (dT (by omega))<|bN Y ?_;refine bG (λj=>((j:Int),vq j (F i))) b (vq b (F i)) Y (λj hj=>?_) ?_ ?_
  ·have e1:=pl i j hi hj;have e2:mQ 64 (vq j (F i)) [qn (F i j)]=some (vq (j+1) (F i)):=by rw[nq (by decide) (by rw[bZ];omega),mO]
   generalize qn (F i j)=q at*;exact aB (dT (by omega))<|bN Y<|aB e1<|aB e2<|aB (congrArg some (bM (by omega))) Y
  ·exact aB (dF (by omega))<|bA Y Y
  have e3:mQ 24 (mq i (λ_=>b) F) [vq b (F i)]=some (mq (i+1) (λ_=>b) F):=by
   rw[nq (by decide) (by rw[cK];omega),tD]
  exact aB e3<|aB (congrArg some (bM (by omega))) Y
 exact aB (dF (by omega))<|bA Y Y
theorem abU(x:List (List Qr))(a b:Int):vO x a b=qB x a b:=rfl
theorem EP{a:Nat}(h:a<=1024):jE (a:Int)=some (a:Int):=by
 unfold jE;exact aB Y<|aB (congrArg some (show min (max (a:Int) 0) 1024=(a:Int) by omega)) Y
theorem alq(h:kg L rw F)(hL:L<=1000000000){a b:Nat}(ha:a<=1024)(hb:b<=1024):qB rw (a:Int) (b:Int)=some (mq a (λ_=>b) F):=by
 have e1:=EN (n:=1) (by decide);have ZT:=h.l1;have r1:kp 2 (qn ((1:Int):Rat)) ((1:Int):Rat):=(kR (by decide)).2;have hone:∀x:Rat,(((1:Int):Rat))*x=x:=λx=>by
  have:(((1:Int):Rat))=1:=by decide
  rw[this];grind
 have pl:∀i j:Nat,i<a->j<b->eJ 0 (qn ((1:Int):Rat)) rw [] (i:Int) (j:Int)=some (qn (F i j)):=λi j _ _=>by
  have e1:=NV h (by omega) i j;have e2:=r1.YU (((h.row i).fq j).rep ZT) (by omega);rw[hone]at e2;unfold eJ;generalize qn ((1:Int):Rat)=c at*;generalize qn (F i j)=q at*;exact aB (dF (by decide))<|bA Y<|aB (dF (by decide))<|bA Y<|aB (dF (by decide))<|bA Y<|aB e1<|aB e2 Y
 have e3:=L9 (F:=F) ha hb pl;unfold qB;generalize qn ((1:Int):Rat)=c at*;obtain⟨⟨_,_⟩,⟨_,_⟩⟩:=c;exact aB (EP ha)<|aB (EP hb)<|aB e1<|aB e3 Y
end ash
def CH(L:Nat):Nat->Nat
 |0=>L
 |d+1=>4*CH L d+1
theorem Zh(L:Nat):∀d,CH L d<=CH L (d+1):=λd=>by show _<=4*CH L d+1;omega
theorem F0(L:Nat){d e:Nat}(h:d<=e):CH L d<=CH L e:=by
 induction e with
 |zero=>rw[show d=0 by omega];exact Nat.le_refl _
 |succ e ih=>
  by_cases q:d=e+1
  ·rw[q];exact Nat.le_refl _
  exact Nat.le_trans (ih (by omega)) (Zh L e)
theorem ER{L:Nat}(h:1<=L):∀d,1<=CH L d
 |0=>h
 |d+1=>by show 1<=4*CH L d+1;omega
def Nul(r w:Nat)(A:Nat->Nat->Rat)(z:Nat->Rat):Prop:=∀i,i<r->cw (λl=>A i l*z l) w=0
theorem abV{r w d k:Nat}{F:Nat->Nat->Rat}{z:Nat->Rat}(hd:d<r)(h0:F d k≠0):Nul r w (jX F d k) z↔Nul r w F z:=by
 have hi:F d k*(F d k)⁻¹=1:=Rat.mul_inv_cancel _ h0;constructor
 ·intro h;have e:=h d hd;rw[B9]at e;have er:cw (λl=>F d l*z l) w=0:=by
   have:=congrArg (λx=>F d k*x) e;simp only[<-Rat.mul_assoc,hi,Rat.one_mul]at this;rw[this];grind
  intro i hi';by_cases q:i=d
  ·rw[q];exact er
  have e2:=h i hi';rw[Ca q,er]at e2;grind
 intro h i hi';by_cases q:i=d
 ·rw[q,B9,h _ hd];grind
 rw[Ca q,h i hi',h d hd];grind
theorem ahI{r w i q:Nat}{F:Nat->Nat->Rat}{z:Nat->Rat}(hi:i<r)(hq:q<r):Nul r w (λs=>F (sp i q s)) z↔Nul r w F z:=
 ⟨λh s hs=>by have:=h (sp i q s) (Gz hi hq hs);simp only[aln]at this;exact this,λh s hs=>h _ (Gz hi hq hs)⟩
structure Dz (L r w:Nat) (A:Nat->Nat->Rat) (d k:Nat) (H:Nat->Nat->Rat) (pv:Nat->Nat):Prop where
 hd:d<=r
 f:∀i,i<r->∀l,FQ (CH L d) (H i l)
 z:∀i,i<r->∀l,w<=l->H i l=0
 pl:∀s,s<d->pv s<k
 pu:∀s,s<d->∀q,q<r->H q (pv s)=if q=s then 1 else 0
 el:∀s,s<d->∀l,l<pv s->H s l=0
 ez:∀q,d<=q->q<r->∀l,l<k->H q l=0
 ho:∀z,Nul r w H z↔Nul r w A z
 mo:∀s t,s<t->t<d->pv s<pv t
theorem Dz.skip{L r w d k:Nat}{A H:Nat->Nat->Rat}{pv:Nat->Nat}(h:Dz L r w A d k H pv)(h0:∀q,d<=q->q<r->H q k=0):Dz L r w A d (k+1) H pv:=
 ⟨h.hd,h.f,h.z,λs hs=>by have:=h.pl s hs;omega,h.pu,h.el,λq hq TK l hl=>by
  by_cases e:l=k
  ·rw[e];exact h0 q hq TK
  exact h.ez q hq TK l (by omega),h.ho,h.mo⟩
theorem Dz.step{L r w d k q:Nat}{A H:Nat->Nat->Rat}{pv:Nat->Nat}(h:Dz L r w A d k H pv)(hq:d<=q)(TK:q<r)(h0:H q k≠0):Dz L r w A (d+1) (k+1) (jX (λs=>H (sp d q s)) d k) (λs=>if s=d then k else pv s):=by
 have sY:d<r:=by omega
 have s0:sp d q d=q:=by unfold sp;rw[if_pos rfl]
 have s1:∀s,s<d->sp d q s=s:=λs hs=>by unfold sp;rw[if_neg (by omega),if_neg (by omega)]
 have s2:∀s,d<=s->d<=sp d q s:=λs hs=>by unfold sp;split<;>(try split)<;>omega
 have hk:(λs=>H (sp d q s)) d k≠0:=by show H (sp d q d) k≠0;rw[s0];exact h0
 have fq:∀i,i<r->∀l,FQ (CH L d) (H (sp d q i) l):=λi hi l=>h.f _ (Gz sY TK hi) l;have hi:H q k*(H q k)⁻¹=1:=Rat.mul_inv_cancel _ h0;have pd:∀i l,jX (λs=>H (sp d q s)) d k i l=if i=d then H q l/H q k else H (sp d q i) l-H (sp d q i) k*(H q l/H q k):=λi l=>by
  show(if i=d then H (sp d q d) l/H (sp d q d) k else H (sp d q i) l-H (sp d q i) k*(H (sp d q d) l/H (sp d q d) k))=_;rw[s0]
 have keep:∀l,H q l=0->∀i,jX (λs=>H (sp d q s)) d k i l=H (sp d q i) l:=λl hl i=>by
  rw[pd,hl];have e:(0:Rat)/H q k=0:=by rw[Rat.div_def,Rat.zero_mul]
  rw[e];split
  ·rename_i w;rw[w,s0,hl]
  grind
 have zq:∀l,l<k->H q l=0:=λl hl=>h.ez q hq TK l hl;refine⟨by omega,λi hi l=>?_,λi hi l hl=>?_,λs hs=>?_,λs hs i hi'=>?_,λs hs l hl=>?_,λi hi2 hir l hl=>?_,λz=>(abV sY hk).trans ((ahI sY TK).trans (h.ho z)),λs t hst ht=>by
  show(if s=d then k else pv s)<(if t=d then k else pv t);rw[if_neg (by omega)];by_cases e:t=d
  ·rw[if_pos e];exact h.pl s (by omega)
  rw[if_neg e];exact h.mo s t hst (by omega)⟩
 ·have e:=(fq d sY l).div (fq d sY k) hk;show FQ (4*CH L d+1) _;unfold jX;split
  ·exact e.mono (by omega)
  exact((fq i hi l).sub ((fq i hi k).mul e)).mono (by omega)
 ·rw[keep l (h.z q TK l hl)];exact h.z _ (Gz sY TK hi) l hl
 ·show(if s=d then k else pv s)<k+1;split
  ·omega
  have:=h.pl s (by omega);omega
 ·show jX (λs=>H (sp d q s)) d k i (if s=d then k else pv s)=_;by_cases e:s=d
  ·rw[if_pos e,e];rw[pd,Rat.div_def,hi];by_cases w:i=d
   ·rw[if_pos w,if_pos w]
   rw[if_neg w,if_neg w];grind
  rw[if_neg e];have hs':s<d:=by omega
  rw[keep (pv s) (zq _ (h.pl s hs')),h.pu s hs' _ (Gz sY TK hi')];by_cases w:i=s
  ·rw[if_pos w,if_pos (by rw[w];exact s1 s hs')]
  rw[if_neg w,if_neg (λw2=>w (by
   by_cases v:i<d
   ·rw[s1 i v]at w2;exact w2
   have:=s2 i (by omega);omega))]
 ·replace hl:l<(if s=d then k else pv s):=hl;by_cases e:s=d
  ·rw[if_pos e]at hl;rw[keep l (zq l hl),e,s0];exact zq l hl
  rw[if_neg e]at hl;have hs':s<d:=by omega
  have:=h.pl s hs';rw[keep l (zq l (by omega)),s1 s hs'];exact h.el s hs' l hl
 by_cases e:l=k
 ·rw[e];rw[pd,if_neg (by omega),Rat.div_def,hi];grind
 rw[keep l (zq l (by omega))];exact h.ez _ (s2 i (by omega)) (Gz sY TK hir) l (by omega)
end
end Go.Proofs.YtningmnklfpfjaaGreat
