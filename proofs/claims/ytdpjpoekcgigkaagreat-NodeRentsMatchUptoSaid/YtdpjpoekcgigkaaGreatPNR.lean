/- The law NodeRentsMatch answers true for every input, up to the size that the statement names. -/
import Derived.Test.YtdpjpoekcgigkaaGreatPNR3
set_option linter.unusedVariables false
set_option linter.unusedSimpArgs false
set_option linter.unusedSectionVars false
namespace Go.Proofs.YtdpjpoekcgigkaaGreat
section
open Go.Fw
def qd(q:Qr):Int:=if zi q.den=0 then 1 else zi q.den
def qv(q:Qr):Rat:=Rat.divInt (zi q.num) (qd q)
def qn(r:Rat):Qr:=⟨zn r.num,if r.den=1 then⟨false,[]⟩else zn (r.den:Int)⟩
def FQ(L:Nat)(r:Rat):Prop:=Fit L r.num/\Fit L (r.den:Int)
structure c5 (L:Nat) (q:Qr) (r:Rat):Prop where
 n:∀x∈q.num.w,x<4294967296
 d:∀x∈q.den.w,x<4294967296
 ln:q.num.w.length<=L
 ld:q.den.w.length<=L
 l1:1<=L
 v:qv q=r
theorem Uc(q:Qr):qd q≠0:=by
 unfold qd;by_cases h:zi q.den=0
 ·rw[if_pos h];decide
 rw[if_neg h];exact h
theorem J0(r:Rat):qv (qn r)=r:=by
 unfold qv qd qn;by_cases h:r.den=1
 ·rw[if_pos h];show Rat.divInt (zi (zn r.num)) (if zi ⟨false,[]⟩=0 then 1 else zi ⟨false,[]⟩)=r;rw[if_pos (show zi ⟨false,[]⟩=0 from rfl),dQ];have:=Rat.num_divInt_den r;rw[h]at this;exact this
 rw[if_neg h];show Rat.divInt (zi (zn r.num)) (if zi (zn (r.den:Int))=0 then 1 else zi (zn (r.den:Int)))=r;have:=r.den_nz;rw[dQ,dQ,if_neg (by omega),Rat.num_divInt_den]
theorem QU{r s:Rat}(h:qn r=qn s):r=s:=by rw[<-J0 r,h,J0]
theorem FP{w:List Nat}{n:Bool}{L:Nat}(h:∀x∈w,x<4294967296)(hl:w.length<=L):Fit L (zi ⟨n,w⟩):=by
 unfold Fit;rw[qR];exact Nat.lt_of_lt_of_le (eJ w h) (Nat.pow_le_pow_right (by decide) hl)
theorem uO{L:Nat}(h:1<=L):Fit L 1:=by
 unfold Fit;exact Nat.lt_of_lt_of_le (show(1:Int).natAbs<4294967296^1 by decide) (Nat.pow_le_pow_right (by decide) h)
theorem FQ.rep{L:Nat}{r:Rat}(h:FQ L r)(h1:1<=L):c5 L (qn r) r:=by
 refine⟨λx hx=>fj (by decide) hx,?_,(bO (by decide)).2 h.1,?_,h1,J0 r⟩
 ·unfold qn;by_cases e:r.den=1
  ·rw[if_pos e];simp
  rw[if_neg e];exact λx hx=>fj (by decide) hx
 unfold qn;by_cases e:r.den=1
 ·rw[if_pos e];simp
 rw[if_neg e];exact(bO (by decide)).2 h.2
theorem c5.wn{L:Nat}{q:Qr}{r:Rat}(h:c5 L q r)(hL:L<=10000000000):Wl q.num:=⟨h.n,Nat.le_trans h.ln hL⟩
theorem c5.wd{L:Nat}{q:Qr}{r:Rat}(h:c5 L q r)(hL:L<=10000000000):Wl q.den:=⟨h.d,Nat.le_trans h.ld hL⟩
theorem c5.fn{L:Nat}{q:Qr}{r:Rat}(h:c5 L q r):Fit L (zi q.num):=FP (n:=q.num.neg) h.n h.ln
theorem c5.fd{L:Nat}{q:Qr}{r:Rat}(h:c5 L q r):Fit L (zi q.den):=FP (n:=q.den.neg) h.d h.ld
theorem c5.fqd{L:Nat}{q:Qr}{r:Rat}(h:c5 L q r):Fit L (qd q):=by
 unfold qd;by_cases e:zi q.den=0
 ·rw[if_pos e];exact uO h.l1
 rw[if_neg e];exact h.fd
theorem c5.mono{L M:Nat}{q:Qr}{r:Rat}(h:c5 L q r)(hl:L<=M):c5 M q r:=⟨h.n,h.d,Nat.le_trans h.ln hl,Nat.le_trans h.ld hl,Nat.le_trans h.l1 hl,h.v⟩
theorem FQ.mono{L M:Nat}{r:Rat}(h:FQ L r)(hl:L<=M):FQ M r:=⟨h.1.mono hl,h.2.mono hl⟩
theorem ry{L:Nat}{a d:Int}(h0:d≠0)(ha:Fit L a)(hd:Fit L d):FQ L (Rat.divInt a d):=by
 generalize hr:Rat.divInt a d=r;obtain⟨n',d',z',c⟩:=r;obtain⟨m,hm,h1,h2⟩:=Rat.divInt_num_den h0 hr;have hm':0<m.natAbs:=Int.natAbs_pos.2 hm;refine⟨ha.le ?_,hd.le ?_⟩
 ·rw[h1,Int.natAbs_mul];exact Nat.le_mul_of_pos_right _ hm'
 rw[h2,Int.natAbs_mul];exact Nat.le_mul_of_pos_right _ hm'
theorem c5.fq{L:Nat}{q:Qr}{r:Rat}(h:c5 L q r):FQ L r:=by rw[<-h.v];exact ry (Uc q) h.fn h.fqd
theorem rz(r:Rat):r=Rat.divInt r.num (r.den:Int):=(Rat.num_divInt_den r).symm
theorem n7(r:Rat):(r.den:Int)≠0:=by have:=r.den_nz;omega
theorem FQ.add{L M:Nat}{x y:Rat}(hx:FQ L x)(hy:FQ M y):FQ (L+M+1) (x+y):=by
 have e:x+y=Rat.divInt (x.num*y.den+y.num*x.den) (x.den*y.den):=by
  conv=>lhs;rw[rz x,rz y,Rat.divInt_add_divInt _ _ (n7 x) (n7 y)]
 rw[e];refine ry (Int.mul_ne_zero (n7 x) (n7 y)) ?_ ?_
 ·exact(hx.1.mul hy.2).add (by rw[Nat.add_comm L M];exact hy.1.mul hx.2)
 exact(hx.2.mul hy.2).mono (by omega)
theorem FQ.sub{L M:Nat}{x y:Rat}(hx:FQ L x)(hy:FQ M y):FQ (L+M+1) (x-y):=by
 have e:x-y=Rat.divInt (x.num*y.den-y.num*x.den) (x.den*y.den):=by
  conv=>lhs;rw[rz x,rz y,Rat.divInt_sub_divInt _ _ (n7 x) (n7 y)]
 rw[e];refine ry (Int.mul_ne_zero (n7 x) (n7 y)) ?_ ?_
 ·exact(hx.1.mul hy.2).sub (by rw[Nat.add_comm L M];exact hy.1.mul hx.2)
 exact(hx.2.mul hy.2).mono (by omega)
theorem FQ.mul{L M:Nat}{x y:Rat}(hx:FQ L x)(hy:FQ M y):FQ (L+M) (x*y):=by
 have e:x*y=Rat.divInt (x.num*y.num) (x.den*y.den):=by
  conv=>lhs;rw[rz x,rz y,Rat.divInt_mul_divInt]
 rw[e];exact ry (Int.mul_ne_zero (n7 x) (n7 y)) (hx.1.mul hy.1) (hx.2.mul hy.2)
theorem FQ.neg{L:Nat}{x:Rat}(hx:FQ L x):FQ L (-x):=⟨hx.1.neg,hx.2⟩
theorem FQ.int{L:Nat}{i:Int}(h:Fit L i)(h1:1<=L):FQ L (i:Rat):=⟨h,uO h1⟩
def oH(x y:Rat):Int:=if x<y then-1 else if x=y then 0 else 1
theorem AM(x:Rat):oH x x=0:=by unfold oH;rw[if_neg Rat.lt_irrefl,if_pos rfl]
theorem G2{a b c d:Int}(hb:0<b)(hd:0<d):Rat.divInt a b<Rat.divInt c d↔a*d<c*b:=by
 have hb':(0:Rat)<(b:Rat):=Rat.intCast_pos.2 hb;have hd':(0:Rat)<(d:Rat):=Rat.intCast_pos.2 hd;rw[Rat.divInt_eq_div,Rat.divInt_eq_div,Rat.div_lt_iff hb',Rat.div_def,Rat.mul_assoc,Rat.mul_comm (d:Rat)⁻¹,<-Rat.mul_assoc,<-Rat.div_def,Rat.lt_div_iff hd',<-Rat.intCast_mul,<-Rat.intCast_mul,Rat.intCast_lt_intCast]
theorem Dx{a b c d:Int}(hb:0<b)(hd:0<d):oH (Rat.divInt a b) (Rat.divInt c d)=jz (a*d) (c*b):=by
 unfold oH jz;have e1:=G2 (a:=a) (c:=c) hb hd;have e2:=Rat.divInt_eq_divInt_iff (n₁:=a) (d₁:=b) (n₂:=c) (d₂:=d) (by omega) (by omega);by_cases h1:a*d<c*b
 ·rw[if_pos (e1.2 h1),if_pos h1]
 rw[if_neg (λh=>h1 (e1.1 h)),if_neg h1];by_cases h2:a*d=c*b
 ·rw[if_pos (e2.2 h2),if_pos h2]
 rw[if_neg (λh=>h2 (e2.1 h)),if_neg h2]
theorem nO{a b:Int}(hb:0<b):a.sign=oH (Rat.divInt a b) 0:=by
 have:(0:Rat)=Rat.divInt 0 1:=rfl;rw[this,Dx hb (by decide),Int.mul_one,Int.zero_mul,<-JZ,Int.sub_zero]
theorem vO{a d:Int}(hd:0<d):qn (Rat.divInt a d)=⟨zn (a/(Int.gcd a d:Int)),if d/(Int.gcd a d:Int)=1 then⟨false,[]⟩else zn (d/(Int.gcd a d:Int))⟩:=by
 have h1:(Rat.divInt a d).num=a/(Int.gcd a d:Int):=by rw[Rat.num_divInt,Int.sign_eq_one_of_pos hd,Int.one_mul,Int.gcd_comm]
 have h2:((Rat.divInt a d).den:Int)=d/(Int.gcd a d:Int):=by
  rw[Rat.den_divInt,if_neg (by omega),Int.gcd_comm];have:(d.natAbs:Int)=d:=by omega
  rw[Int.natCast_ediv,this]
 unfold qn;rw[h1,h2];by_cases e:(Rat.divInt a d).den=1
 ·rw[if_pos e,if_pos (by omega)]
 rw[if_neg e,if_neg (by omega)]
theorem LX(k:Int):((bif(qS k).2 then some (decide ((qS k).1=1))else some false):Option Bool)=some (decide (k=1)):=by
 by_cases h:di k
 ·rw[gU h];rfl
 rw[nv h];have:¬k=1:=by rintro rfl;exact h (by decide)
 rw[decide_eq_false this];rfl
theorem zo{n d:Zr}(hn:Wl n)(hd:Wl d)(h:0<zi d):((jE n d).bind λg=>(dV n g).bind λa=>(dV d g).bind λb=>(cU b.1).bind λc=>
  (bif c.2 then some (decide (c.1=1))else some false).bind λe=>bif e then some (⟨a.1,⟨false,[]⟩⟩:Qr)else some ⟨a.1,b.1⟩)=some (qn (Rat.divInt (zi n) (zi d))):=by
 have g0:(Int.gcd (zi n) (zi d):Int)≠0:=by
  have:0<Int.gcd (zi n) (zi d):=Int.gcd_pos_of_ne_zero_right _ (by omega);omega
 have wg:Wl (zn (Int.gcd (zi n) (zi d):Int)):=dJ ((Wl.fit hd).le (by
  have:=Nat.le_of_dvd (Int.natAbs_pos.2 (show zi d≠0 by omega)) (Int.gcd_dvd_natAbs_right (zi n) (zi d));simpa using this)) hd.2
 have wq:Wl (zn (zi d/(Int.gcd (zi n) (zi d):Int))):=dJ ((Wl.fit hd).le (Int.natAbs_ediv_le_natAbs _ _)) hd.2;rw[QT hn hd,bw,divMod_eq hn wg,bw,divMod_eq hd wg,bw,dQ,Du,if_neg g0,Du,if_neg g0];simp only[];rw[nu wq,bw,dQ,LX,bw,vO h];by_cases e:zi d/(Int.gcd (zi n) (zi d):Int)=1
 ·rw[decide_eq_true e,eD,if_pos e]
 rw[decide_eq_false e,fu,if_neg e]
theorem reduce_eq{x y:Zr}(hx:Wl x)(hy:Wl y)(h0:zi y≠0):eO x y=some (qn (Rat.divInt (zi x) (zi y))):=by
 unfold eO;simp only[cj,bw,zeta',sign_eq hy];by_cases h:zi y<0
 ·rw[show decide ((zi y).sign<0)=true by rw[Int.sign_eq_neg_one_of_neg h];rfl,eD,neg_eq hx,bw,neg_eq hy,bw];have hp:=zo (dJ (Wl.fit hx).neg hx.2) (dJ (Wl.fit hy).neg hy.2) (by rw[dQ];omega);rw[dQ,dQ,Rat.neg_divInt_neg]at hp;exact hp
 rw[show decide ((zi y).sign<0)=false by rw[Int.sign_eq_one_of_pos (by omega)];rfl,fu];exact zo hx hy (by omega)
end
section
open Go.Fw
theorem mw(q:Qr):(⟨⟨q.num.neg,q.num.w⟩,⟨q.den.neg,q.den.w⟩⟩:Qr)=q:=by cases q;rfl
theorem kM(q:Qr):(⟨q.num,q.den⟩:Qr)=q:=by cases q;rfl
theorem parts_eq{L:Nat}{q:Qr}{r:Rat}(h:c5 L q r)(hL:L<=10000000000):∃n d:Zr,cV q=some (n,d)/\Wl n/\Wl d/\0<zi d/\Rat.divInt (zi n) (zi d)=r/\Fit L (zi n)/\Fit L (zi d):=by
 have wn:=h.wn hL;have wd:=h.wd hL;have hv:=h.v;unfold cV;simp only[zeta',bw,sign_eq wd,kW (x:=1) (by decide) (by decide),neg_eq wn,neg_eq wd];unfold qv qd at hv;rcases Int.lt_trichotomy (zi q.den) 0 with h1|h1|h1
 ·refine⟨_,_,?_,dJ h.fn.neg hL,dJ h.fd.neg hL,by rw[dQ];omega,?_,by rw[dQ];exact h.fn.neg,by rw[dQ];exact h.fd.neg⟩
  ·rw[Int.sign_eq_neg_one_of_neg h1];rfl
  rw[dQ,dQ,Rat.neg_divInt_neg,<-hv,if_neg (by omega)]
 ·refine⟨_,_,?_,wn,dJ (uO h.l1) hL,by rw[dQ];decide,?_,h.fn,by rw[dQ];exact uO h.l1⟩
  ·rw[h1];rfl
  rw[dQ,<-hv,if_pos h1]
 refine⟨_,_,?_,wn,wd,h1,?_,h.fn,h.fd⟩
 ·rw[Int.sign_eq_one_of_pos h1];rfl
 rw[<-hv,if_neg (by omega)]
def Sm(a:Int):Prop:=-2147483648<a/\a<2147483648
theorem Sm.ok{a:Int}(h:Sm a):di a:=by unfold Sm at h;unfold di;omega
theorem nx{L:Nat}{q:Qr}{r:Rat}(h:c5 L q r)(hL:L<=10000000000):∃a b c,dA q=some (a,b,c)/\(c=true->Sm a/\0<b/\Sm b/\Rat.divInt a b=r):=by
 have wn:=h.wn hL;have wd:=h.wd hL;have hv:=h.v;unfold dA;simp only[zeta',bw,cj,nu wn,nu wd];unfold qv qd at hv;generalize zi q.num=n at*;generalize zi q.den=d at*;by_cases hs:Sm n/\Sm d
 ·obtain⟨h1,h2⟩:=hs;rw[gU h1.ok,gU h2.ok];unfold Sm at h1 h2;simp only[];rw[decide_eq_false (show ¬n<=-2147483648 by omega),decide_eq_false (show ¬2147483648<=n by omega),decide_eq_false (show ¬d<=-2147483648 by omega),decide_eq_false (show ¬2147483648<=d by omega)];simp only[Bool.not_true,fu,bw];by_cases h0:d=0
  ·rw[decide_eq_true h0,eD];refine⟨_,_,_,Y,λ_=>⟨h1,by decide,⟨by decide,by decide⟩,?_⟩⟩;rw[<-hv,if_pos h0]
  rw[decide_eq_false h0,fu];rw[if_neg h0]at hv;by_cases hneg:d<0
  ·rw[decide_eq_true hneg,eD,b8 (by omega) (by omega),b8 (by omega) (by omega)];refine⟨_,_,_,Y,λ_=>⟨⟨by omega,by omega⟩,by omega,⟨by omega,by omega⟩,?_⟩⟩;rw[Int.zero_sub,Int.zero_sub,Rat.neg_divInt_neg,hv]
  rw[decide_eq_false hneg,fu];exact⟨_,_,_,Y,λ_=>⟨h1,by omega,h2,hv⟩⟩
 refine⟨0,0,false,?_,λe=>by cases e⟩;by_cases o1:di n
 ·by_cases o2:di d
  ·rw[gU o1,gU o2];simp only[Bool.not_true,fu,bw];unfold Sm at hs;by_cases c1:n<=-2147483648
   ·rw[decide_eq_true c1];simp only[bw,eD]
   rw[decide_eq_false c1];simp only[bw,fu];by_cases c2:2147483648<=n
   ·rw[decide_eq_true c2];simp only[bw,eD]
   rw[decide_eq_false c2];simp only[bw,fu];by_cases c3:d<=-2147483648
   ·rw[decide_eq_true c3];simp only[bw,eD]
   rw[decide_eq_false c3];simp only[bw,fu];rw[decide_eq_true (show 2147483648<=d by omega)];simp only[eD]
  rw[gU o1,nv o2];simp only[Bool.not_true,Bool.not_false,fu,bw,eD]
 rw[nv o1];simp only[Bool.not_false,bw,eD]
theorem Dy{a g:Int}(hg:0<g)(h:g∣a):Int.tdiv a g=a/g:=by
 obtain⟨k,rfl⟩:=h;rw[Int.mul_tdiv_cancel_left _ (by omega),Int.mul_ediv_cancel_left _ (by omega)]
theorem uP{n d:Int}(hd:0<d)(hd':d<=9223372036854775807)(hn: -9223372036854775807<=n)(hn':n<=9223372036854775807):fF n d=some (qn (Rat.divInt n d)):=by
 unfold fF;simp only[bw,cj];refine fz (λs=>Int.gcd s.1 s.2=Int.gcd n d/\s.1.natAbs<=9223372036854775807/\s.2.natAbs<=9223372036854775807) (λe=>e.natAbs=Int.gcd n d/\e.natAbs<=9223372036854775807) (λs=>s.2.natAbs) ?_ ⟨Y,by simp only[];omega,by simp only[];omega⟩ ?_
 ·rintro⟨a,b⟩ ⟨i1,i2,i3⟩;simp only at i1 i2 i3⊢;by_cases hb:b=0
  ·right;subst hb;refine⟨a,by simp,?_,i2⟩;rw[<-i1];simp[Int.gcd]
  left;rw[decide_eq_true hb,eD,zF,if_neg hb,bw];have hm:(Int.tmod a b).natAbs=a.natAbs%b.natAbs:=Int.natAbs_tmod a b;have hlt:=Nat.mod_lt a.natAbs (Int.natAbs_pos.2 hb);refine⟨_,Y,⟨?_,i3,by simp only[];omega⟩,by simp only[];omega⟩;simp only[];rw[<-i1,Int.gcd,Int.gcd,hm,Nat.gcd_comm b.natAbs,<-Nat.gcd_rec,Nat.gcd_comm]
 rintro e ⟨he,hle⟩;obtain⟨g,hg⟩:∃g:Int,(Int.gcd n d:Int)=g:=⟨_,Y⟩;have Vg:0<g:=by have:=Int.gcd_pos_of_ne_zero_right n (show d≠0 by omega);omega
 have hgn:g∣n:=hg▸Int.gcd_dvd_left ..;have hgd:g∣d:=hg▸Int.gcd_dvd_right ..;have hK:∀m:Int,m=g->(bif decide (m=d)then(pP n m).bind λg9=>(bR g9).bind λx=>some (⟨⟨x.neg,x.w⟩,⟨false,[]⟩⟩:Qr)else(pP n m).bind λiq=>(bR iq).bind λx=>(pP d m).bind λmL=>(bR mL).bind λy=>some ⟨⟨x.neg,x.w⟩,⟨y.neg,y.w⟩⟩)=some (qn (Rat.divInt n d)):=by
  rintro m rfl;have b1:(n/m).natAbs<=n.natAbs:=Int.natAbs_ediv_le_natAbs _ _;have b2:(d/m).natAbs<=d.natAbs:=Int.natAbs_ediv_le_natAbs _ _;have q1:pP n m=some (n/m):=by
   rw[pP,if_neg (by omega),Dy Vg hgn,b8 (by omega) (by omega)]
  have q2:pP d m=some (d/m):=by
   rw[pP,if_neg (by omega),Dy Vg hgd,b8 (by omega) (by omega)]
  rw[vO hd,hg,q1,q2];simp only[bw,kW (x:=n/m) (by omega) (by omega),kW (x:=d/m) (by omega) (by omega),zeta'];by_cases e1:m=d
  ·rw[decide_eq_true e1,eD,if_pos (by rw[e1];exact Int.ediv_self (by omega))]
  rw[decide_eq_false e1,fu,if_neg];intro e2;have:=Int.ediv_mul_cancel hgd;rw[e2]at this;omega
 by_cases hneg:e<0
 ·rw[decide_eq_true hneg,eD,b8 (by omega) (by omega)];exact hK _ (by omega)
 rw[decide_eq_false hneg,fu];exact hK _ (by omega)
theorem jT{a b:Int}(ha:Sm a)(hb:Sm b): -4611686018427387904<a*b/\a*b<4611686018427387904:=by
 unfold Sm at ha hb;have h1:(a*b).natAbs=a.natAbs*b.natAbs:=Int.natAbs_mul a b;have h2:a.natAbs*b.natAbs<=2147483647*2147483647:=Nat.mul_le_mul (by omega) (by omega);omega
theorem rA{a b:Int}(ha:0<a)(hb:0<b):0<a*b:=Int.mul_pos ha hb
section ops
variable {L M:Nat}{a b:Qr}{x y:Rat}
theorem c5.add(ha:c5 L a x)(hb:c5 M b y)(h:L+M<=4000000000):fP a b=some (qn (x+y))/\c5 (L+M+1) (qn (x+y)) (x+y):=by
 refine⟨?_,(ha.fq.add hb.fq).rep (by omega)⟩;obtain⟨n1,d1,c1,e1,k1⟩:=nx ha (by omega);obtain⟨n2,d2,c2,e2,k2⟩:=nx hb (by omega);obtain⟨p1,q1,f1,w1,w2,g1,v1,t1,t2⟩:=parts_eq ha (by omega);obtain⟨p2,q2,f2,w3,w4,g2,v2,t3,t4⟩:=parts_eq hb (by omega);have Dz:iy a b=some (qn (x+y)):=by
  unfold iy fY;have u1:=dJ (t1.mul t4) (by omega);have u2:=dJ (t3.mul t2) (by omega);have u3:=dJ (t2.mul t4) (by omega);have u4:=dJ ((t1.mul t4).add ((t3.mul t2).mono (by omega))) (by omega);simp only[zeta',mw,kM,f1,f2,bw,mul_eq w1 w4,mul_eq w3 w2,add_eq u1 u2,mul_eq w2 w4,dQ];rw[reduce_eq u4 u3 (by rw[dQ];have:=rA g1 g2;omega),bw,dQ,dQ,<-v1,<-v2,Rat.divInt_add_divInt _ _ (by omega) (by omega)]
 unfold fP;simp only[zeta',mw,kM,e1,e2,bw,cj,Dz];cases c1
 ·rw[fu,bw,fu]
 cases c2
 ·rw[eD,bw,fu]
 obtain⟨s1,s2,s3,s4⟩:=k1 Y;obtain⟨s5,s6,s7,s8⟩:=k2 Y;have m1:=jT s1 s7;have m2:=jT s5 s3;have m3:=jT s3 s7;have m4:=rA s2 s6;rw[eD,bw,eD,b8 (x:=n1*d2) (by omega) (by omega),b8 (x:=n2*d1) (by omega) (by omega),b8 (x:=d1*d2) (by omega) (by omega),b8 (by omega) (by omega),uP m4 (by omega) (by omega) (by omega),bw,<-s4,<-s8,Rat.divInt_add_divInt _ _ (by omega) (by omega)]
theorem c5.sub(ha:c5 L a x)(hb:c5 M b y)(h:L+M<=4000000000):iB a b=some (qn (x-y))/\c5 (L+M+1) (qn (x-y)) (x-y):=by
 refine⟨?_,(ha.fq.sub hb.fq).rep (by omega)⟩;obtain⟨n1,d1,c1,e1,k1⟩:=nx ha (by omega);obtain⟨n2,d2,c2,e2,k2⟩:=nx hb (by omega);obtain⟨p1,q1,f1,w1,w2,g1,v1,t1,t2⟩:=parts_eq ha (by omega);obtain⟨p2,q2,f2,w3,w4,g2,v2,t3,t4⟩:=parts_eq hb (by omega);have Dz:iz a b=some (qn (x-y)):=by
  unfold iz ga;have u1:=dJ (t1.mul t4) (by omega);have u2:=dJ (t3.mul t2) (by omega);have u3:=dJ (t2.mul t4) (by omega);have u4:=dJ ((t1.mul t4).sub ((t3.mul t2).mono (by omega))) (by omega);simp only[zeta',mw,kM,f1,f2,bw,mul_eq w1 w4,mul_eq w3 w2,sub_eq u1 u2,mul_eq w2 w4,dQ];rw[reduce_eq u4 u3 (by rw[dQ];have:=rA g1 g2;omega),bw,dQ,dQ,<-v1,<-v2,Rat.divInt_sub_divInt _ _ (by omega) (by omega)]
 unfold iB;simp only[zeta',mw,kM,e1,e2,bw,cj,Dz];cases c1
 ·rw[fu,bw,fu]
 cases c2
 ·rw[eD,bw,fu]
 obtain⟨s1,s2,s3,s4⟩:=k1 Y;obtain⟨s5,s6,s7,s8⟩:=k2 Y;have m1:=jT s1 s7;have m2:=jT s5 s3;have m3:=jT s3 s7;have m4:=rA s2 s6;rw[eD,bw,eD,b8 (x:=n1*d2) (by omega) (by omega),b8 (x:=n2*d1) (by omega) (by omega),b8 (x:=d1*d2) (by omega) (by omega),b8 (by omega) (by omega),uP m4 (by omega) (by omega) (by omega),bw,<-s4,<-s8,Rat.divInt_sub_divInt _ _ (by omega) (by omega)]
theorem c5.mul(ha:c5 L a x)(hb:c5 M b y)(h:L+M<=4000000000):gL a b=some (qn (x*y))/\c5 (L+M) (qn (x*y)) (x*y):=by
 have l1:=ha.l1;refine⟨?_,(ha.fq.mul hb.fq).rep (by omega)⟩;obtain⟨n1,d1,c1,e1,k1⟩:=nx ha (by omega);obtain⟨n2,d2,c2,e2,k2⟩:=nx hb (by omega);obtain⟨p1,q1,f1,w1,w2,g1,v1,t1,t2⟩:=parts_eq ha (by omega);obtain⟨p2,q2,f2,w3,w4,g2,v2,t3,t4⟩:=parts_eq hb (by omega);have Dz:iA a b=some (qn (x*y)):=by
  unfold iA gb;have u1:=dJ (t1.mul t3) (by omega);have u3:=dJ (t2.mul t4) (by omega);simp only[zeta',mw,kM,f1,f2,bw,mul_eq w1 w3,mul_eq w2 w4];rw[reduce_eq u1 u3 (by rw[dQ];have:=rA g1 g2;omega),bw,dQ,dQ,<-v1,<-v2,Rat.divInt_mul_divInt]
 unfold gL;simp only[zeta',mw,kM,e1,e2,bw,cj,Dz];cases c1
 ·rw[fu,bw,fu]
 cases c2
 ·rw[eD,bw,fu]
 obtain⟨s1,s2,s3,s4⟩:=k1 Y;obtain⟨s5,s6,s7,s8⟩:=k2 Y;have m1:=jT s1 s5;have m3:=jT s3 s7;have m4:=rA s2 s6;rw[eD,bw,eD,b8 (by omega) (by omega),b8 (x:=d1*d2) (by omega) (by omega),uP m4 (by omega) (by omega) (by omega),bw,<-s4,<-s8,Rat.divInt_mul_divInt]
theorem c5.sign(ha:c5 L a x)(h:L<=10000000000):jH a=some (oH x 0):=by
 unfold jH;have wn:=ha.wn h;have wd:=ha.wd h;have hv:=ha.v;simp only[zeta',bw,sign_eq wn,sign_eq wd];unfold qv qd at hv;rcases Int.lt_trichotomy (zi a.den) 0 with h1|h1|h1
 ·rw[Int.sign_eq_neg_one_of_neg h1];rw[if_neg (by omega),<-Rat.neg_divInt_neg]at hv;rw[<-hv,<-nO (by omega),Int.sign_neg];show some (IntKind.i64.wrap (0-(zi a.num).sign))=_;have:(zi a.num).sign=-1\/(zi a.num).sign=0\/(zi a.num).sign=1:=by
   rcases Int.lt_trichotomy (zi a.num) 0 with e|e|e
   ·left;exact Int.sign_eq_neg_one_of_neg e
   ·right;left;rw[e];rfl
   right;right;exact Int.sign_eq_one_of_pos e
  rw[b8 (by omega) (by omega),Int.zero_sub]
 ·rw[if_pos h1]at hv;rw[<-hv,<-nO (by omega),h1];rfl
 rw[if_neg (by omega)]at hv;rw[Int.sign_eq_one_of_pos h1,<-hv,<-nO h1];rfl
theorem vP{x:Rat}:oH x 0=0↔x=0:=by
 unfold oH;by_cases h:x<0
 ·rw[if_pos h];refine⟨λe=>absurd e (by decide),λe=>?_⟩;rw[e]at h;exact absurd h Rat.lt_irrefl
 rw[if_neg h];by_cases h2:x=0
 ·rw[if_pos h2];simp[h2]
 rw[if_neg h2];simp[h2]
theorem c5.canon(ha:c5 L a x)(h:L<=10000000000):dO a=some (qn x)/\c5 L (qn x) x:=by
 refine⟨?_,ha.fq.rep ha.l1⟩;obtain⟨n1,d1,c1,e1,k1⟩:=nx ha (by omega);obtain⟨p1,q1,f1,w1,w2,g1,v1,t1,t2⟩:=parts_eq ha (by omega);unfold dO;simp only[zeta',mw,kM,e1,bw,f1];cases c1
 ·rw[fu,reduce_eq w1 w2 (by omega),bw,v1]
 obtain⟨s1,s2,s3,s4⟩:=k1 Y;unfold Sm at s1 s3;rw[eD,uP s2 (by omega) (by omega) (by omega),bw,s4]
end ops
end
section
open Go.Fw
theorem AN{p q u v:Int}(hq:0<q)(hv:0<v)(h:p.sign≠u.sign\/p.sign=0):nJ (IntKind.i64.wrap (p.sign-u.sign))=some (jz (p*v) (u*q)):=by
 have pv:0<p->0<p*v:=λh=>Int.mul_pos h hv;have pv':p<0->p*v<0:=λh=>Int.mul_neg_of_neg_of_pos h hv;have uq:0<u->0<u*q:=λh=>Int.mul_pos h hq;have uq':u<0->u*q<0:=λh=>Int.mul_neg_of_neg_of_pos h hq;rcases Int.lt_trichotomy p 0 with e1|e1|e1<;>rcases Int.lt_trichotomy u 0 with e2|e2|e2
 ·rw[Int.sign_eq_neg_one_of_neg e1,Int.sign_eq_neg_one_of_neg e2]at h;simp at h
 ·have:=pv' e1;rw[Int.sign_eq_neg_one_of_neg e1,e2,Int.zero_mul,gh this];rfl
 ·have:=pv' e1;have:=uq e2;rw[Int.sign_eq_neg_one_of_neg e1,Int.sign_eq_one_of_pos e2,gh (by omega)];rfl
 ·have:=uq' e2;rw[Int.sign_eq_neg_one_of_neg e2,e1,Int.zero_mul,gi this];rfl
 ·rw[e1,e2,Int.zero_mul,Int.zero_mul];rfl
 ·have:=uq e2;rw[Int.sign_eq_one_of_pos e2,e1,Int.zero_mul,gh this];rfl
 ·have:=pv e1;have:=uq' e2;rw[Int.sign_eq_one_of_pos e1,Int.sign_eq_neg_one_of_neg e2,gi (by omega)];rfl
 ·have:=pv e1;rw[Int.sign_eq_one_of_pos e1,e2,Int.zero_mul,gi this];rfl
 rw[Int.sign_eq_one_of_pos e1,Int.sign_eq_one_of_pos e2]at h;simp at h
theorem J1{x y:Rat}:oH x y=0↔x=y:=by
 unfold oH;by_cases h:x<y
 ·rw[if_pos h];refine⟨λe=>absurd e (by decide),λe=>?_⟩;rw[e]at h;exact absurd h Rat.lt_irrefl
 rw[if_neg h];by_cases h2:x=y
 ·rw[if_pos h2];simp[h2]
 rw[if_neg h2];simp[h2]
theorem lQ{x y:Rat}:oH x y<0↔x<y:=by
 unfold oH;by_cases h:x<y
 ·rw[if_pos h];simp[h]
 rw[if_neg h];by_cases h2:x=y
 ·rw[if_pos h2];simp[h2,Rat.lt_irrefl]
 rw[if_neg h2];simp[h]
theorem lS{x y:Rat}:0<oH x y↔y<x:=by
 unfold oH;by_cases h:x<y
 ·rw[if_pos h];have:¬y<x:=by grind
  simp[this]
 rw[if_neg h];by_cases h2:x=y
 ·rw[if_pos h2];simp[h2,Rat.lt_irrefl]
 rw[if_neg h2];have:y<x:=by grind
 simp[this]
theorem QV(i:Int):qn (i:Rat)=⟨zn i,⟨false,[]⟩⟩:=by
 unfold qn;rw[Rat.den_intCast,if_pos Y,Rat.num_intCast]
section ops
variable {L M:Nat}{a b:Qr}{x y:Rat}
theorem c5.neg(ha:c5 L a x)(h:L<=10000000000):iC a=some (qn (-x))/\c5 L (qn (-x)) (-x):=by
 refine⟨?_,ha.fq.neg.rep ha.l1⟩;unfold iC;have r:=(ha.canon h).2;simp only[zeta',mw,kM,(ha.canon h).1,bw,neg_eq (r.wn h)];show some (⟨zn (-zi (zn x.num)),_⟩:Qr)=some (qn (-x));rw[dQ];rfl
theorem c5.cmp(ha:c5 L a x)(hb:c5 M b y)(h:L+M<=4000000000):jx a b=some (oH x y):=by
 obtain⟨p1,q1,f1,w1,w2,g1,v1,t1,t2⟩:=parts_eq ha (by omega);obtain⟨p2,q2,f2,w3,w4,g2,v2,t3,t4⟩:=parts_eq hb (by omega);unfold jx;have u1:=dJ (t1.mul t4) (by omega);have u2:=dJ (t3.mul t2) (by omega);simp only[zeta',mw,kM,f1,f2,bw,cj,sign_eq w1,sign_eq w3,mul_eq w1 w4,mul_eq w3 w2,QN u1 u2,dQ];rw[<-v1,<-v2,Dx g1 g2];by_cases e1:(zi p1).sign=(zi p2).sign
 ·rw[show decide ((zi p1).sign≠(zi p2).sign)=false by simp[e1],fu,bw];by_cases e2:(zi p1).sign=0
  ·rw[decide_eq_true e2,eD,AN g1 g2 (.inr e2),bw]
  rw[decide_eq_false e2,fu]
 rw[show decide ((zi p1).sign≠(zi p2).sign)=true by simp[e1],eD,bw,eD,AN g1 g2 (.inl e1),bw]
theorem c5.eq(ha:c5 L a x)(hb:c5 M b y)(h:L+M<=4000000000):iQ a b=some (decide (x=y)):=by
 unfold iQ;simp only[zeta',mw,kM,ha.cmp hb h,bw];congr 1;rw[decide_eq_decide];exact J1
theorem pg{n:Int}(hn:di n):cK n=some (qn (n:Rat))/\c5 2 (qn (n:Rat)) (n:Rat):=by
 refine⟨?_,(FQ.int (AL hn) (by decide)).rep (by decide)⟩;unfold cK;simp only[zeta',bw,kW hn.1 hn.2];rw[QV]
end ops
end
section
open Go.Fw
def vq(n:Nat)(h:Nat->Rat):List Qr:=(List.range n).map λi=>qn (h i)
structure eK (L:Nat) (v:List Qr) (f:Nat->Rat):Prop where
 e:∀i (h:i<v.length),c5 L v[i] (f i)
 z:∀i,v.length<=i->f i=0
 l1:1<=L
theorem vQ(n:Nat)(h:Nat->Rat):(vq n h).length=n:=by simp[vq]
theorem LY{n i:Nat}{h:Nat->Rat}(hi:i<(vq n h).length):(vq n h)[i]=qn (h i):=by simp[vq]
theorem LZ(n:Nat)(h:Nat->Rat):vq (n+1) h=vq n h++[qn (h n)]:=by simp[vq,List.range_succ]
theorem QW{L n:Nat}{h:Nat->Rat}(hf:∀i,i<n->FQ L (h i))(hz:∀i,n<=i->h i=0)(h1:1<=L):eK L (vq n h) h:=by
 refine⟨λi hi=>?_,λi hi=>hz i (by rwa[vQ]at hi),h1⟩;rw[LY hi];exact(hf i (by rwa[vQ]at hi)).rep h1
def qz:Qr:=⟨⟨false,[]⟩,⟨false,[]⟩⟩
theorem lT{L:Nat}(h:1<=L):c5 L qz 0:=⟨by simp[qz],by simp[qz],by simp[qz],by simp[qz],h,by decide⟩
theorem L0{L:Nat}(h:1<=L):FQ L 0:=(lT h).fq
def L1(v:List Qr)(i:Nat):Qr:=v.getD i qz
theorem eK.at{L:Nat}{v:List Qr}{f:Nat->Rat}(h:eK L v f)(i:Nat):c5 L (L1 v i) (f i):=by
 unfold L1;by_cases hi:i<v.length
 ·rw[List.getD_eq_getElem?_getD,List.getElem?_eq_getElem hi];exact h.e i hi
 rw[List.getD_eq_getElem?_getD,List.getElem?_eq_none (by omega),h.z i (by omega)];exact lT h.l1
theorem eK.fq{L:Nat}{v:List Qr}{f:Nat->Rat}(h:eK L v f)(i:Nat):FQ L (f i):=(h.at i).fq
theorem eK.get{L:Nat}{v:List Qr}{f:Nat->Rat}(h:eK L v f){i:Nat}(hi:i<v.length):∃q,v[i]? =some q/\c5 L q (f i):=⟨v[i],by simp,h.e i hi⟩
def G3(v:List Qr)(i:Nat):Rat:=qv (L1 v i)
theorem L2{L:Nat}{v:List Qr}(h:∀q∈v,c5 L q (qv q))(h1:1<=L):eK L v (G3 v):=by
 refine⟨λi hi=>?_,λi hi=>?_,h1⟩
 ·have e:L1 v i=v[i]:=by unfold L1;rw[List.getD_eq_getElem?_getD,List.getElem?_eq_getElem hi];rfl
  unfold G3;rw[e];exact h _ (List.getElem_mem hi)
 unfold G3 L1;rw[List.getD_eq_getElem?_getD,List.getElem?_eq_none hi];decide
def eC(h:Nat->Rat):Nat->Rat
 |0=>0
 |n+1=>eC h n+h n
theorem J2{h:Nat->Rat}{n m:Nat}(hnm:n<=m)(hz:∀i,n<=i->i<m->h i=0):eC h m=eC h n:=by
 induction m with
 |zero=>rw[show n=0 by omega]
 |succ m ih=>
  rcases Nat.lt_or_ge m n with q|q
  ·rw[show n=m+1 by omega]
  rw[eC,ih q (λi h1 h2=>hz i h1 (by omega)),hz m q (by omega)];grind
theorem BV{L:Nat}{h:Nat->Rat}:∀{n:Nat},(∀i,i<n->FQ L (h i))->FQ (n*(L+1)+1) (eC h n)
 |0,_=>L0 (by omega)
 |n+1,e=>by
  rw[eC];exact((BV (λi hi=>e i (by omega))).add (e n (by omega))).mono (by rw[Nat.add_mul];omega)
end
section
open Go.Fw
theorem BW{α β:Type}(a:List α)(b:List β):min (a.length:Int) (b.length:Int)=((min a.length b.length:Nat):Int):=by omega
theorem eK.gd{L:Nat}{v:List Qr}{f:Nat->Rat}(h:eK L v f)(k:Nat):c5 L (v.getD k (⟨⟨false,[]⟩,⟨false,[]⟩⟩:Qr)) (f k):=h.at k
theorem QX{n k:Nat}{h:Nat->Rat}(hk:k<n):(vq k h++List.replicate (n-k) qz).set k (qn (h k))=vq (k+1) h++List.replicate (n-(k+1)) qz:=by
 rw[show n-k=(n-(k+1))+1 by omega,List.replicate_succ,List.set_append_right _ _ (by rw[vQ];exact Nat.le_refl _),vQ,Nat.sub_self,LZ,List.append_assoc];rfl
theorem FR{n k:Nat}{h:Nat->Rat}(hk:k<=n):(vq k h++List.replicate (n-k) qz).length=n:=by rw[List.length_append,vQ,List.length_replicate];omega
section ops
variable {K L M:Nat}{c:Qr}{a b:List Qr}{k:Rat}{f g:Nat->Rat}
end ops
end
section
open Go.Fw
section ops
variable {K L M:Nat}{c:Qr}{a b:List Qr}{k:Rat}{f g:Nat->Rat}
theorem aao{x y z:Rat}{p q r:Qr}(hp:c5 K p x)(hq:c5 L q y)(hr:c5 M r z)(hz:r=qn z)(h:K+L+M<=4000000000):lF p q r=some (qn (z+x*y)):=by
 have e1:=hp.mul hq (by omega);have e2:=(hr.add e1.2 (by omega)).1;have s1:=hp.sign (by omega);have s2:=hq.sign (by omega);replace e1:=e1.1;obtain⟨⟨_,_⟩,⟨_,_⟩⟩:=p;obtain⟨⟨_,_⟩,⟨_,_⟩⟩:=q;obtain⟨⟨_,_⟩,⟨_,_⟩⟩:=r;generalize qn (x*y)=w at e1 e2;obtain⟨⟨_,_⟩,⟨_,_⟩⟩:=w;unfold lF;refine aA s1<|aA Y ?_;by_cases h1:x=0
 ·refine aA (cS (decide_eq_false (by rw[h1,AM];simp)) Y) ?_;rw[show z+x*y=z by rw[h1];grind,<-hz];rfl
 by_cases h2:y=0
 ·refine aA (dZ (decide_eq_true (λe=>h1 (vP.1 e))) (aA s2 (aA Y Y))) ?_;refine cS (decide_eq_false (by rw[h2,AM];simp)) ?_;rw[show z+x*y=z by rw[h2];grind,<-hz]
 refine aA (dZ (decide_eq_true (λe=>h1 (vP.1 e))) (aA s2 (aA Y Y))) ?_;refine dZ (decide_eq_true (λe=>h2 (vP.1 e))) ?_;obtain⟨w3,h3⟩:∃w,qn (z+x*y)=w:=⟨_,Y⟩;rw[h3]at e2⊢;obtain⟨⟨_,_⟩,⟨_,_⟩⟩:=w3;exact aA e1<|aA e2 Y
theorem FU{n i:Nat}(hi:i<n):(a.take n).getD i (⟨⟨false,[]⟩,⟨false,[]⟩⟩:Qr)=a.getD i (⟨⟨false,[]⟩,⟨false,[]⟩⟩:Qr):=by
 simp[List.getD,List.getElem?_take,hi]
theorem uT(q:Qr):(⟨⟨(q.num.neg,q.num.w,q.den.neg,q.den.w).1,(q.num.neg,q.num.w,q.den.neg,q.den.w).2.1⟩,⟨(q.num.neg,q.num.w,q.den.neg,q.den.w).2.2.1,(q.num.neg,q.num.w,q.den.neg,q.den.w).2.2.2⟩⟩:Qr)=q:=by cases q;rfl
theorem Ud(ha:eK L a f)(hb:eK M b g)(h:(min a.length b.length+2)*(L+M+1)<=4000000000):kU a b=some (qn (eC (λi=>f i*g i) (min a.length b.length)))/\c5 (min a.length b.length*(L+M+1)+1) (qn (eC (λi=>f i*g i) (min a.length b.length))) (eC (λi=>f i*g i) (min a.length b.length)):=by
 have hs:∀n,FQ (n*(L+M+1)+1) (eC (λi=>f i*g i) n):=λn=>BV (λi _=>(ha.fq i).mul (hb.fq i));refine⟨?_,(hs _).rep (by omega)⟩;unfold kU;have hm:∀n:Nat,n<=min a.length b.length->n*(L+M+1)<=min a.length b.length*(L+M+1):=λn hn=>Nat.mul_le_mul_right _ hn;rw[Nat.add_mul]at h;refine aA Y<|aA Y<|aA (congrArg some (BW a b))<|aA (oB (by omega))<|aA (oB (by omega)) ?_;rw[show max (a.take (min a.length b.length)).length (b.take (min a.length b.length)).length=min a.length b.length by simp only[List.length_take];omega];refine sJ (λj=>((qn (eC (λi=>f i*g i) j)).num.neg,(qn (eC (λi=>f i*g i) j)).num.w,(qn (eC (λi=>f i*g i) j)).den.neg,(qn (eC (λi=>f i*g i) j)).den.w)) Y (λj hj=>?_) Y;have hmj:=hm j (by omega);have e1:=aao (ha.gd j) (hb.gd j) ((hs j).rep (by omega)) Y (by omega);simp only[eC];generalize hq0:qn (eC (λi=>f i*g i) j)=q0 at e1⊢;generalize hq3:qn (eC (λi=>f i*g i) j+f j*g j)=q3 at e1⊢;rw[<-FU (a:=a) hj,<-FU (a:=b) hj]at e1;generalize (a.take (min a.length b.length)).getD j (⟨⟨false,[]⟩,⟨false,[]⟩⟩:Qr)=q1 at e1⊢;generalize (b.take (min a.length b.length)).getD j (⟨⟨false,[]⟩,⟨false,[]⟩⟩:Qr)=q2 at e1⊢;obtain⟨⟨_,_⟩,⟨_,_⟩⟩:=q0;obtain⟨⟨_,_⟩,⟨_,_⟩⟩:=q1;obtain⟨⟨_,_⟩,⟨_,_⟩⟩:=q2
 obtain⟨⟨_,_⟩,⟨_,_⟩⟩:=q3;exact aA Y<|aA Y<|aA e1 Y
end ops
end
section
open Go.Fw
theorem pq{l:List Nat}(h:BU l):fy l<65536^l.length:=eJ l h.1
theorem tm{a:Nat}:Int.tmod (a:Int) 65536=((a%65536:Nat):Int):=by
 rw[Int.tmod_eq_emod_of_nonneg (by omega)];omega
theorem td{a:Nat}:Int.tdiv (a:Int) 65536=((a/65536:Nat):Int):=by
 rw[Int.tdiv_eq_ediv_of_nonneg (by omega)];omega
theorem BX(l k:List Nat)(hl:BU l)(hk:BU k):gD (zl l) (zl k)=some (sL (fy l) (fy k)):=by
 unfold gD;simp only[bw];rw[dh,dh,show max (l.length:Int) (k.length:Int)=((max l.length k.length:Nat):Int) by omega,b8 (by have:=hl.2;have:=hk.2;omega) (by have:=hl.2;have:=hk.2;omega)];have h1:fy l<65536^(max l.length k.length):=Nat.lt_of_lt_of_le (pq hl) (Nat.pow_le_pow_right (by decide) (by omega));have h2:fy k<65536^(max l.length k.length):=Nat.lt_of_lt_of_le (pq hk) (Nat.pow_le_pow_right (by decide) (by omega));have hm:max l.length k.length<=100000000000:=by have:=hl.2;have:=hk.2;omega
 have a1:=wL hl.1;have a2:=wL hk.1;generalize fy l=V at*;generalize fy k=W at*;generalize max l.length k.length=n at*;refine fz (λy=>∃m:Nat,y=(m:Int)-1/\m<=n/\V/65536^m=W/65536^m) (λe=>(∃c,e=.inl c/\V=W)\/e=.inr (sL V W)) (λy=>(y+1).toNat) ?_ ⟨n,Y,Nat.le_refl _,by rw[Nat.div_eq_of_lt h1,Nat.div_eq_of_lt h2]⟩ ?_
 ·rintro _ ⟨m,rfl,hmn,he⟩;rcases m with _|m
  ·right;refine⟨_,Y,.inl ⟨_,Y,?_⟩⟩;simpa using he
  rw[show((m+1:Nat):Int)-1=(m:Int) by omega,show decide ((0:Int)<=(m:Int))=true by simp,eD,a1,bw,a2,bw];rcases AJ he with⟨hd,hq⟩|⟨hd,hlt⟩|⟨hd,hlt⟩
  ·left;rw[hd,show decide (((W/65536^m%65536:Nat):Int)<((W/65536^m%65536:Nat):Int))=false by simp,fu,bw,bw,show decide (((W/65536^m%65536:Nat):Int)<((W/65536^m%65536:Nat):Int))=false by simp,fu,b8 (by omega) (by omega)];exact⟨_,Y,⟨m,Y,by omega,hq⟩,by omega⟩
  ·right;rw[show decide (((V/65536^m%65536:Nat):Int)<((W/65536^m%65536:Nat):Int))=true by rw[decide_eq_true_eq];omega,eD];exact⟨_,Y,.inr (by rw[nN hlt])⟩
  right;rw[show decide (((V/65536^m%65536:Nat):Int)<((W/65536^m%65536:Nat):Int))=false by rw[decide_eq_false_iff_not];omega,fu,bw,bw,show decide (((W/65536^m%65536:Nat):Int)<((V/65536^m%65536:Nat):Int))=true by rw[decide_eq_true_eq];omega,eD];exact⟨_,Y,.inr (by rw[o9 hlt])⟩
 rintro e (⟨c,rfl,rfl⟩|rfl)
 ·rw[rm]
 rfl
theorem BY(l k:List Nat)(hl:BU l)(hk:BU k):fH (zl l) (zl k)=some (zl (can 65536 (fy l+fy k))):=by
 unfold fH;have h1:fy l<65536^(max l.length k.length):=Nat.lt_of_lt_of_le (pq hl) (Nat.pow_le_pow_right (by decide) (by omega));have h2:fy k<65536^(max l.length k.length):=Nat.lt_of_lt_of_le (pq hk) (Nat.pow_le_pow_right (by decide) (by omega));have hm:max l.length k.length<=100000000000:=by have:=hl.2;have:=hk.2;omega
 have a1:=wL hl.1;have a2:=wL hk.1;rw[dh,dh];generalize fy l=V at*;generalize fy k=W at*;refine fz (λs=>∃i:Nat,s=(((xA 65536 V W i:Nat):Int),(i:Int),zl (dD 65536 i (V+W)))/\i<=max l.length k.length+1) (λe=>∃i,e=zl (dD 65536 i (V+W))/\V+W<65536^i/\i<=max l.length k.length+1) (λs=>max l.length k.length+1-s.2.1.toNat) ?_ ⟨0,by rw[zg];rfl,by omega⟩ ?_
 ·rintro _ ⟨i,rfl,hi⟩;have hc:=ze (B:=65536) (by decide) V W i;have Hg:=zf (B:=65536) (by decide) V W i;have wO:=xB (B:=65536) (by decide) V W i;have d1:=Nat.mod_lt (V/65536^i) (show 0<65536 by decide);have d2:=Nat.mod_lt (W/65536^i) (show 0<65536 by decide);simp only[bw,cj];have th:∀(K:Bool->Option ((Int×Int×List Int)⊕List Int)),(((bif decide ((i:Int)<(l.length:Int))then some true else some (decide ((i:Int)<(k.length:Int)))):Option Bool).bind λc=>((bif c then some true else some (decide ((0:Int)<((xA 65536 V W i:Nat):Int)))):Option Bool).bind K)=K (decide (i<max l.length k.length\/0<xA 65536 V W i)):=by
   intro K;by_cases q1:i<l.length
   ·have:i<max l.length k.length:=by omega
    simp[q1,this]
   by_cases q2:i<k.length
   ·have:i<max l.length k.length:=by omega
    simp[q1,q2,this]
   have:¬i<max l.length k.length:=by omega
   simp[q1,q2,this]
  rw[th];by_cases DE:i<max l.length k.length\/0<xA 65536 V W i
  ·left;have hi':i<max l.length k.length+1:=by
    rcases Nat.lt_or_ge i (max l.length k.length+1)with h|h
    ·exact h
    have hie:i=max l.length k.length+1:=by omega
    have hp:65536^i=65536^(max l.length k.length)*65536:=by rw[hie,Nat.pow_succ]
    have g3:=BK (B:=65536) (V:=V) (W:=W) (k:=i) (by omega) (by omega);rw[Nat.div_eq_of_lt (by omega)]at g3;omega
   rw[show decide (i<max l.length k.length\/0<xA 65536 V W i)=true by rw[decide_eq_true_eq];exact DE,eD,a1,bw,a2,bw,kA (by omega),kA (by omega),tm,td,Hg,wO,Aa (by decide) (by rw[dh,bz];omega),bw,fo (by have:=ze (B:=65536) (by decide) V W (i+1);omega),bV (by omega)];refine⟨_,Y,⟨i+1,?_,by omega⟩,by simp only[];omega⟩;rw[gB,BT,EW]
  right;rw[show decide (i<max l.length k.length\/0<xA 65536 V W i)=false by rw[decide_eq_false_iff_not];exact DE,fu];refine⟨_,Y,i,Y,?_,hi⟩;have g1:V<65536^i:=Nat.lt_of_lt_of_le h1 (Nat.pow_le_pow_right (by decide) (by omega));have g2:W<65536^i:=Nat.lt_of_lt_of_le h2 (Nat.pow_le_pow_right (by decide) (by omega));have g3:=BK (B:=65536) g1 g2;rcases Nat.lt_or_ge (V+W) (65536^i)with h|h
  ·exact h
  have:=Nat.div_pos h (Nat.pow_pos (by decide));omega
 rintro _ ⟨i,rfl,hlt,hi⟩;rw[iL _ (by rw[bz];omega),bw,lO (by decide) hlt]
theorem xE(l k:List Nat)(hl:BU l)(hk:BU k)(hle:fy k<=fy l):eP (zl l) (zl k)=some (zl (can 65536 (fy l-fy k))):=by
 unfold eP;have h1:=pq hl;have hm:=hl.2;have a1:=wL hl.1;have a2:=wL hk.1;rw[dh];generalize fy l=V at*;generalize fy k=W at*;refine cc (λi=>(((1-vM 65536 V W i:Nat):Int),(i:Int),zl (dD 65536 i (V-W)))) l.length (zl (dD 65536 l.length (V-W))) ?_ (λi hi=>?_) ?_ ?_
 ·rw[zh];rfl
 ·have hc:=EN (B:=65536) (by decide) V W i;have Hg:=zj (B:=65536) (by decide) V W i;have wO:=BL (B:=65536) (by decide) hle i;have d1:=Nat.mod_lt (V/65536^i) (show 0<65536 by decide);have d2:=Nat.mod_lt (W/65536^i) (show 0<65536 by decide);simp only[bw,cj];rw[show decide ((i:Int)<(l.length:Int))=true by simp[hi],eD,a1,bw,a2,bw];rw[<-Hg,gB,BT,EW,<-wO];generalize V/65536^i%65536=a at*;generalize W/65536^i%65536=b at*;generalize vM 65536 V W i=c at*;rw[b8 (x:=(a:Int)-(b:Int)) (by omega) (by omega),b8 (x:=(a:Int)-(b:Int)-((1-c:Nat):Int)) (by omega) (by omega)];by_cases hn:(a:Int)-(b:Int)-((1-c:Nat):Int)<0
  ·rw[show decide ((a:Int)-(b:Int)-((1-c:Nat):Int)<0)=true by rw[decide_eq_true_eq];exact hn,eD,b8 (by omega) (by omega),Aa (by decide) (by rw[dh,bz];omega),bw,bV (by omega)];rw[show(a:Int)-(b:Int)-((1-c:Nat):Int)+65536=(((a+(65536-1-b)+c)%65536:Nat):Int) by omega,show(1-(a+(65536-1-b)+c)/65536)=1 by omega];rfl
  rw[show decide ((a:Int)-(b:Int)-((1-c:Nat):Int)<0)=false by rw[decide_eq_false_iff_not];exact hn,fu,Aa (by decide) (by rw[dh,bz];omega),bw,bV (by omega)];rw[show(a:Int)-(b:Int)-((1-c:Nat):Int)=(((a+(65536-1-b)+c)%65536:Nat):Int) by omega,show(1-(a+(65536-1-b)+c)/65536)=0 by omega];rfl
 ·simp
 rw[iL _ (by rw[bz];omega),bw,lO (by decide) (by omega)]
theorem rB(l:List Nat)(hl:∀x∈l,x<65536)(hn:l.length<=3):dr (zl l)=some ((fy l:Nat):Int):=by
 unfold dr;simp only[bw];have hV:fy l<65536^l.length:=eJ l hl;have hp:65536^l.length<=65536^3:=Nat.pow_le_pow_right (by decide) hn;rw[show(65536:Nat)^3=281474976710656 by decide]at hp;rw[dh,b8 (by omega) (by omega)];refine cc (λj=>(((fy l/65536^(l.length-j):Nat):Int),(l.length:Int)-1-(j:Int))) l.length ((fy l:Nat):Int) ?_ (λj hj=>?_) ?_ Y
 ·rw[show l.length-0=l.length by omega,Nat.div_eq_of_lt hV];simp
 ·obtain⟨m,hm⟩:∃m,l.length=m+j+1:=⟨l.length-j-1,by omega⟩;have hg:=jr hl (i:=m) (by omega);have hst:=uI 65536 (fy l) m;have N8:fy l/65536^m<=fy l:=Nat.div_le_self _ _;rw[show l.length-j=m+1 by omega,show l.length-(j+1)=m by omega,show(l.length:Int)-1-(j:Int)=(m:Int) by omega,show(l.length:Int)-1-((j+1:Nat):Int)=(m:Int)-1 by omega];have hd:=Nat.mod_lt (fy l/65536^m) (show 0<65536 by decide);simp only[];rw[show decide ((0:Int)<=(m:Int))=true by simp,eD,bq (sO hg),bw];generalize fy l/65536^(m+1)=c at*;generalize fy l/65536^m=d at*;rw[b8 (x:=(c:Int)*65536) (by omega) (by omega),b8 (x:=(c:Int)*65536+((d%65536:Nat):Int)) (by omega) (by omega),b8 (x:=(m:Int)-1) (by omega) (by omega),show(c:Int)*65536+((d%65536:Nat):Int)=(d:Int) by omega]
 simp only[];rw[show decide ((0:Int)<=(l.length:Int)-1-(l.length:Int))=false by rw[decide_eq_false_iff_not];omega,fu,Nat.sub_self,Nat.pow_zero,Nat.div_one]
theorem zq(x:Nat)(hx:x<281474976710656):gN (x:Int)=some (zl (can 65536 x)):=by
 unfold gN;simp only[bw];rw[tm,td,fo (by omega),tm,td,fo (by omega)];have:[((x%65536:Nat):Int),((x/65536%65536:Nat):Int),((x/65536/65536:Nat):Int)]=zl [x%65536,x/65536%65536,x/65536/65536]:=rfl;rw[this,iL _ (by simp),bw,iJ (B:=65536) (by decide) (by intro y hy;simp at hy;omega)];congr 3;simp[val];omega
theorem vR(l:List Nat)(f:Nat)(hl:BU l)(hf:f<65536):dw (zl l) (f:Int)=some (zl (can 65536 (fy l*f))):=by
 unfold dw;have h1:=pq hl;have hm:=hl.2;have a1:=wL hl.1;rw[dh];generalize fy l=V at*;have sS:=λi=>JH (B:=65536) (V:=V) (f:=f) (e:=0) (by decide) hf (by decide) i;refine fz (λs=>∃i:Nat,s=(((sC 65536 V f 0 i:Nat):Int),(i:Int),zl (dD 65536 i (V*f)))/\i<=l.length+1) (λe=>∃i,e=zl (dD 65536 i (V*f))/\V*f<65536^i/\i<=l.length+1) (λs=>l.length+1-s.2.1.toNat) ?_ ⟨0,by rw[BN];rfl,by omega⟩ ?_
 ·rintro _ ⟨i,rfl,hi⟩;have hc:=sS i;have hc1:=sS (i+1);have Hg:=BO (B:=65536) (by decide) V f 0 i;have wO:=ER (B:=65536) (by decide) V f 0 i;have d1:=Nat.mod_lt (V/65536^i) (show 0<65536 by decide);have hp:V/65536^i%65536*f<=65535*65535:=Nat.mul_le_mul (by omega) (by omega);rw[Nat.add_zero]at wO;simp only[bw,cj];have th:∀(K:Bool->Option ((Int×Int×List Int)⊕List Int)),(((bif decide ((i:Int)<(l.length:Int))then some true else some (decide ((0:Int)<((sC 65536 V f 0 i:Nat):Int)))):Option Bool).bind K)=K (decide (i<l.length\/0<sC 65536 V f 0 i)):=by
   intro K;by_cases q1:i<l.length
   ·simp[q1]
   simp[q1]
  rw[th];by_cases DE:i<l.length\/0<sC 65536 V f 0 i
  ·left;have hi':i<l.length+1:=by
    rcases Nat.lt_or_ge i (l.length+1)with h|h
    ·exact h
    have hie:i=l.length+1:=by omega
    have g3:=ES (B:=65536) (V:=V) (f:=f) (e:=0) (i:=i) (Nat.lt_of_lt_of_le h1 (Nat.pow_le_pow_right (by decide) (by omega)));rw[Nat.add_zero,Nat.div_eq_of_lt]at g3
    ·omega
    rw[hie,Nat.pow_succ];exact Nat.mul_lt_mul'' h1 hf
   rw[show decide (i<l.length\/0<sC 65536 V f 0 i)=true by rw[decide_eq_true_eq];exact DE,eD,a1,bw,<-Int.natCast_mul,fo (by omega),kA (by omega),tm,td,Hg,wO,Aa (by decide) (by rw[dh,bz];omega),bw,fo (by omega),bV (by omega)];refine⟨_,Y,⟨i+1,?_,by omega⟩,by simp only[];omega⟩;rw[gB,BT,EW]
  right;rw[show decide (i<l.length\/0<sC 65536 V f 0 i)=false by rw[decide_eq_false_iff_not];exact DE,fu];refine⟨_,Y,i,Y,?_,hi⟩;have g3:=ES (B:=65536) (V:=V) (f:=f) (e:=0) (i:=i) (Nat.lt_of_lt_of_le h1 (Nat.pow_le_pow_right (by decide) (by omega)));rw[Nat.add_zero]at g3;rcases Nat.lt_or_ge (V*f) (65536^i)with h|h
  ·exact h
  have:=Nat.div_pos h (Nat.pow_pos (by decide));omega
 rintro _ ⟨i,rfl,hlt,hi⟩;rw[iL _ (by rw[bz];omega),bw,lO (by decide) hlt]
end
section
open Go.Fw
theorem cf(v:Nat):fy (can 65536 v)=v:=iV (by decide) v
theorem BZ{v n:Nat}(h:v<65536^n)(hn:n<=100000000000):BU (can 65536 v):=⟨λ_ hx=>fj (by decide) hx,Nat.le_trans ((bO (by decide)).2 h) hn⟩
theorem L3(l k:List Nat)(hl:BU l)(hk:BU k)(hs:l.length+k.length<=90000000000):lI (zl l) (zl k)=some (zl (can 65536 (fy l*fy k))):=by
 unfold lI;have hV:=pq hl;have hW:=pq hk;simp only[bw];rw[dh,dh,kA (by omega)];by_cases h3:l.length+k.length<=3
 ·rw[show decide (((l.length+k.length:Nat):Int)<=3)=true by rw[decide_eq_true_eq];omega,eD,rB l hl.1 (by omega),bw,rB k hk.1 (by omega),bw,<-Int.natCast_mul];have hlt:fy l*fy k<281474976710656:=by
   have h1:fy l*fy k<65536^l.length*65536^k.length:=Nat.mul_lt_mul'' hV hW;rw[<-Nat.pow_add]at h1;have h2:65536^(l.length+k.length)<=65536^3:=Nat.pow_le_pow_right (by decide) h3;rw[show(65536:Nat)^3=281474976710656 by decide]at h2;omega
  rw[fo (by omega),zq _ hlt,bw]
 rw[show decide (((l.length+k.length:Nat):Int)<=3)=false by rw[decide_eq_false_iff_not];omega,fu,b8 (by omega) (by omega)];refine fz (λs=>∃(u:List Nat) (m:Nat),s=(zl u,(m:Int)-1)/\m<=l.length/\(∀x∈u,x<65536)/\fy u=fy l/65536^m*fy k/\u.length+m<=l.length+k.length) (λe=>∃u:List Nat,e=zl u/\(∀x∈u,x<65536)/\fy u=fy l*fy k/\u.length<=l.length+k.length) (λs=>(s.2+1).toNat) ?_ ⟨[],l.length,Y,Nat.le_refl _,by simp,by rw[Nat.div_eq_of_lt hV];simp[fy,val],by simp⟩ ?_
 ·rintro _ ⟨u,m,rfl,hm,hu,huv,hul⟩;simp only[];rcases m with _|m
  ·right;refine⟨_,Y,u,Y,hu,?_,by omega⟩;rw[huv,Nat.pow_zero,Nat.div_one]
  left;have hg:=jr hl.1 (i:=m) (by omega);obtain⟨d,hd⟩:∃d,fy l/65536^m%65536=d:=⟨_,Y⟩;have N8:d<65536:=by rw[<-hd];exact Nat.mod_lt _ (by decide)
  rw[show val 65536 l/65536^m%65536=d from hd]at hg;have hst:=uI 65536 (fy l) m;rw[hd]at hst;have hgi:=bq (sO hg);have hA:fy l/65536^m<65536^(l.length-m):=by
   rw[Nat.div_lt_iff_lt_mul (Nat.pow_pos (by decide)),<-Nat.pow_add,show l.length-m+m=l.length by omega];exact hV
  have hAW:fy l/65536^m*fy k<65536^(l.length-m+k.length):=by rw[Nat.pow_add];exact Nat.mul_lt_mul'' hA hW
  rw[show((m+1:Nat):Int)-1=(m:Int) by omega,show decide ((0:Int)<=(m:Int))=true by simp,eD,Ly (by decide) (by rw[dh];simp;omega),bw];have h0:[(0:Int)]++zl u=zl (0::u):=rfl;have VF:fy (0::u)=65536*(fy l/65536^(m+1))*fy k:=by
   show 0+65536*fy u=_;rw[huv,Nat.zero_add,Nat.mul_assoc]
  rw[h0];refine(show ∀(X:Option ((List Int×Int)⊕List Int)),(∃w:List Nat,X=some (.inl (zl w,IntKind.i64.wrap ((m:Int)-1)))/\(∀x∈w,x<65536)/\fy w=fy l/65536^m*fy k/\w.length+m<=l.length+k.length)->∃s',X=some (.inl s')/\(∃(u:List Nat) (m:Nat),s'=(zl u,(m:Int)-1)/\m<=l.length/\(∀x∈u,x<65536)/\fy u=fy l/65536^m*fy k/\u.length+m<=l.length+k.length)/\(s'.2+1).toNat<((m:Int)+1).toNat from ?_) _ ?_
  ·rintro X ⟨w,rfl,hw,Ue,hwl⟩;rw[b8 (by omega) (by omega)];exact⟨_,Y,⟨w,m,Y,by omega,hw,Ue,hwl⟩,by simp only[];omega⟩
  have Uf:=dB (body:=λ(EA:(List Int)×Int)=>
      match EA with
      |⟨oz,wG⟩=>
       (show Option (((List Int)×Int)⊕((List Int)))from
        (cm (zl l) (m:Int)).bind λmL=>
        (bif decide ((wG:Int)<mL)then
          (cm (zl l) (m:Int)).bind λuV=>
          (dw (zl k) (min (1024:Int) (IntKind.i64.wrap (uV-wG)))).bind λB7=>
          (fH oz B7).bind λvn=>
          some (.inl (vn,IntKind.i64.wrap (wG+1024)))
         else
          some (.inr oz)))) (s:=(zl (0::u),(0:Int))) (f:=λum=>(some (.inl (um,IntKind.i64.wrap ((m:Int)-1))):Option ((List Int×Int)⊕List Int)))
   (Q:=λr=>∃w:List Nat,r=.inl (zl w,IntKind.i64.wrap ((m:Int)-1))/\(∀x∈w,x<65536)/\fy w=fy l/65536^m*fy k/\w.length+m<=l.length+k.length)
   (λs=>∃(w:List Nat) (j:Nat),s=(zl w,(j:Int))/\(∀x∈w,x<65536)/\j<=70000/\fy w=(65536*(fy l/65536^(m+1))+min j d)*fy k/\w.length+m<=l.length+k.length)
   (λe=>∃w:List Nat,e=zl w/\(∀x∈w,x<65536)/\fy w=fy l/65536^m*fy k/\w.length+m<=l.length+k.length) (λs=>(70000-s.2).toNat) ?_ ⟨0::u,0,Y,by simp;exact hu,by omega,by rw[VF];simp,by simp;omega⟩ ?_
  ·obtain⟨r,h1,w,rfl,h2,h3,h4⟩:=Uf;exact⟨w,h1,h2,h3,h4⟩
  ·rintro _ ⟨w,j,rfl,hw,hj,Ue,hwl⟩;simp only[];rw[hgi,bw];by_cases F9:j<d
   ·left;rw[show decide ((j:Int)<(d:Int))=true by simp[F9],eD,bw,b8 (by omega) (by omega)];obtain⟨f,hf⟩:∃f,min 1024 (d-j)=f:=⟨_,Y⟩;obtain⟨j',hj',hj2⟩:∃j':Nat,(j:Int)+1024=(j':Int)/\j'=j+1024:=⟨j+1024,by omega,Y⟩;have hmu:(70000-(j':Int)).toNat<(70000-(j:Int)).toNat:=by omega
    have hwH:BU w:=⟨hw,by omega⟩;have aar:65536*(fy l/65536^(m+1))+min j d+f<=fy l/65536^m:=by omega
    have aas:fy w+fy k*f<=fy l/65536^m*fy k:=by
     rw[Ue,Nat.mul_comm (fy k),<-Nat.add_mul];exact Nat.mul_le_mul_right _ aar
    have htl:fy k*f<65536^(k.length+1):=by rw[Nat.pow_succ];exact Nat.mul_lt_mul'' hW (by omega)
    rw[show min (1024:Int) ((d:Int)-(j:Int))=(f:Int) by omega,vR _ _ hk (by omega),bw,BY _ _ hwH (BZ htl (by omega)),bw,cf,hj',fo (by omega)];refine⟨_,Y,⟨_,j',Y,λ_ hx=>fj (by decide) hx,by omega,?_,?_⟩,hmu⟩
    ·rw[cf,Ue,Nat.mul_comm (fy k),<-Nat.add_mul];congr 1;omega
    have:=(bO (B:=65536) (by decide)).2 (Nat.lt_of_le_of_lt aas hAW);omega
   right;rw[show decide ((j:Int)<(d:Int))=false by rw[decide_eq_false_iff_not];omega,fu];refine⟨_,Y,w,Y,hw,?_,hwl⟩;rw[Ue,show min j d=d by omega,<-hst]
  rintro _ ⟨w,rfl,h1,h2,h3⟩;exact⟨_,Y,w,Y,h1,h2,h3⟩
 rintro _ ⟨u,rfl,hu,huv,hul⟩;rw[iL _ (by omega),bw,iJ (by decide) hu,show val 65536 u=fy l*fy k from huv]
end
section
open Go.Fw
theorem td2{a:Nat}:Int.tdiv (a:Int) 2=((a/2:Nat):Int):=by
 rw[Int.tdiv_eq_ediv_of_nonneg (by omega)];omega
theorem L4(a b:Nat):decide (sL a b<=0)=decide (a<=b):=by
 rcases Nat.lt_trichotomy a b with h|h|h
 ·rw[nN h];simp;omega
 ·rw[h,rm];simp
 rw[o9 h];simp;omega
theorem J3{B:Nat}(hB:0<B){d:Nat}(hd:0<d)(V m:Nat):(V/B^(m+1)%d*B+V/B^m%B)/d=V/d/B^m%B:=by
 have h1:=N3 (B:=B) hd V m;have h2:=LI (B:=B) hB hd V m;rw[Nat.div_div_eq_div_mul V d,Nat.mul_comm d,<-Nat.div_div_eq_div_mul,h1,Nat.mul_add_mod];symm;apply Nat.mod_eq_of_lt;rw[Nat.div_lt_iff_lt_mul hd,Nat.mul_comm B d];exact h2
theorem DA{a b:Nat}(h:b≠0)(ha:a<=9223372036854775807):pP (a:Int) (b:Int)=some ((a/b:Nat):Int):=by
 unfold pP;rw[if_neg (by omega),Int.tdiv_eq_ediv_of_nonneg (by omega),<-Int.natCast_ediv,fo (Nat.le_trans (Nat.div_le_self _ _) ha)]
theorem DB{a b:Nat}(h:b≠0):zF (a:Int) (b:Int)=some ((a%b:Nat):Int):=by
 unfold zF;rw[if_neg (by omega),Int.tmod_eq_emod_of_nonneg (by omega),<-Int.natCast_emod]
theorem J4(n:Nat):List.replicate n (0:Int)=zl (dD 65536 n 0):=by rw[oD,zl,List.map_replicate];rfl
theorem DC{W X:Nat}(hW:0<W){k:List Nat}(hk:BU k)(hkv:fy k=W){xs:List Nat}(hx:BU xs)(hxv:fy xs=X)(H:Nat)(hH:0<H)(hH2:H<=65536)(hXH:X<H*W){R:Type}(f:Int->Option R)(r:R)(hf:f ((X/W:Nat):Int)=some r)(HG:k.length<=90000000000):
  (b9 (λ(Ni:Int×Int)=>
               match Ni with
               |⟨ko,ni⟩=>
                (show Option ((Int×Int)⊕(Int))from
                 (bif(decide ((1:Int)<(IntKind.i64.wrap (ni-ko))))then
                   (dw (zl k) (IntKind.i64.wrap (Int.tdiv (IntKind.i64.wrap (ko+ni)) 2))).bind λD6=>
                   (gD D6 (zl xs)).bind λD7=>
                   (bif(decide ((D7:Int)<=0))then
                     some (.inl (IntKind.i64.wrap (Int.tdiv (IntKind.i64.wrap (ko+ni)) 2),ni))
                    else
                     some (.inl (ko,IntKind.i64.wrap (Int.tdiv (IntKind.i64.wrap (ko+ni)) 2))))
                  else
                   some (.inr ko)))) ((0:Int),(H:Int))).bind f=some r:=by
 refine fz (λs=>∃lo hi:Nat,s=((lo:Int),(hi:Int))/\lo<hi/\hi<=65536/\lo*W<=X/\X<hi*W) (λe=>e=((X/W:Nat):Int)) (λs=>(s.2-s.1).toNat) ?_ ⟨0,H,Y,hH,hH2,by simp,hXH⟩ (λe he=>by rw[he];exact hf);rintro _ ⟨lo,hi,rfl,h1,h2,h3,h4⟩;simp only[];rw[b8 (x:=(hi:Int)-(lo:Int)) (by omega) (by omega)];by_cases DE:1<hi-lo
 ·left;obtain⟨mid,aat⟩:∃mid,(lo+hi)/2=mid:=⟨_,Y⟩;have hml:fy k*mid<65536^(k.length+1):=by rw[Nat.pow_succ];exact Nat.mul_lt_mul'' (pq hk) (by omega)
  rw[show decide ((1:Int)<(hi:Int)-(lo:Int))=true by rw[decide_eq_true_eq];omega,eD,kA (by omega),td2,aat,fo (by omega),vR _ _ hk (by omega),bw,BX _ _ (BZ hml (by omega)) hx,bw,L4,cf,hkv,hxv];by_cases hle:W*mid<=X
  ·rw[show decide (W*mid<=X)=true by simp[hle],eD];exact⟨_,Y,⟨mid,hi,Y,by omega,h2,by rw[Nat.mul_comm];exact hle,h4⟩,by simp only[];omega⟩
  rw[show decide (W*mid<=X)=false by simp;omega,fu];exact⟨_,Y,⟨lo,mid,Y,by omega,by omega,h3,by rw[Nat.mul_comm];omega⟩,by simp only[];omega⟩
 right;rw[show decide ((1:Int)<(hi:Int)-(lo:Int))=false by rw[decide_eq_false_iff_not];omega,fu];refine⟨_,Y,?_⟩;have:hi=lo+1:=by omega
 subst this;have:X/W=lo:=by
  rw[Nat.div_eq_iff hW];rw[Nat.add_mul,Nat.one_mul]at h4;omega
 rw[this]
theorem FV(V W:Nat)(hW:W≠0)(hV:(can 65536 V).length<=80000000000)(hWl:(can 65536 W).length<=80000000000):jJ (zl (can 65536 V)) (zl (can 65536 W))=some (zl (can 65536 (V/W)),zl (can 65536 (V%W))):=by
 have EF:BU (can 65536 V):=⟨λ_ hx=>fj (by decide) hx,by omega⟩;have L5:BU (can 65536 W):=⟨λ_ hx=>fj (by decide) hx,by omega⟩;have Ug:=bU (B:=65536) (by decide) V;have L6:=bU (B:=65536) (by decide) W;have L7:0<W:=by omega
 unfold jJ;simp only[bw,cj,dh];obtain⟨n,hn⟩:∃n,(can 65536 V).length=n:=⟨_,Y⟩;by_cases h3:n<=3/\(can 65536 W).length<=3
 ·rw[hn,show decide ((n:Int)<=3)=true by rw[decide_eq_true_eq];omega,eD,bw,show decide (((can 65536 W).length:Int)<=3)=true by rw[decide_eq_true_eq];omega,eD,rB _ EF.1 (by omega),bw,rB _ L5.1 (by omega),bw,cf,cf];have hp:V<281474976710656:=by
   rw[hn]at Ug;have h2:65536^n<=65536^3:=Nat.pow_le_pow_right (by decide) h3.1;rw[show(65536:Nat)^3=281474976710656 by decide]at h2;omega
  have hq:V/W<=V:=Nat.div_le_self _ _;have hr:V%W<=V:=Nat.mod_le _ _;rw[DA hW (by omega),bw,zq _ (by omega),bw,bw,bw,DB hW,bw,zq _ (by omega),bw]
 have th:(((bif decide ((n:Int)<=3)then some (decide (((can 65536 W).length:Int)<=3))else some false):Option Bool))=some false:=by
  by_cases q1:n<=3
  ·have q2:¬(can 65536 W).length<=3:=λh=>h3 ⟨q1,h⟩;rw[show decide (((can 65536 W).length:Int)<=3)=false by rw[decide_eq_false_iff_not];omega];exact uN _ _
  rw[show decide ((n:Int)<=3)=false by rw[decide_eq_false_iff_not];omega,fu]
 rw[hn]at Ug hV;have hQ:V/W<65536^n:=Nat.lt_of_le_of_lt (Nat.div_le_self _ _) Ug;rw[hn,th,bw,fu,vK (by decide) (by omega),bw,J4];have hlen:(can 65536 W).length≠0:=λe=>hW (uH (by decide) (List.length_eq_zero_iff.1 e));by_cases h1:(can 65536 W).length=1
 ·have hWs:W<65536:=by rw[h1]at L6;simpa using L6
  have Z8:(can 65536 W)[0]? =some W:=by rw[ri (by decide) (by omega)];simp;exact hWs
  have TS:=rf (sO Z8);rw[h1,show decide (((1:Nat):Int)=1)=true by simp,eD,b8 (by omega) (by omega)];refine cc (λj=>(((V/65536^(n-j)%W:Nat):Int),(n:Int)-1-(j:Int),zl (dD 65536 n (V/W/65536^(n-j)*65536^(n-j))))) n (((V%W:Nat):Int),zl (dD 65536 n (V/W))) ?_ (λj hj=>?_) ?_ ?_
  ·rw[Nat.sub_zero,Nat.div_eq_of_lt Ug,Nat.div_eq_of_lt hQ];simp
  ·obtain⟨m,hm⟩:∃m,n=m+j+1:=⟨n-j-1,by omega⟩;have hg:(can 65536 V)[m]? =some (V/65536^m%65536):=ri (by decide) (by omega);have EP:=J3 (B:=65536) (by decide) L7 V m;have Dr:=JI (B:=65536) (d:=W) V m;have hrl:=Nat.mod_lt (V/65536^(m+1)) L7;have N8:=Nat.mod_lt (V/65536^m) (show 0<65536 by decide);have hput:=BS (B:=65536) (by decide) (N:=n) (k:=m) (by omega) (V/W);rw[show n-j=m+1 by omega,show n-(j+1)=m by omega,show(n:Int)-1-(j:Int)=(m:Int) by omega,show(n:Int)-1-((j+1:Nat):Int)=(m:Int)-1 by omega];simp only[];rw[show decide ((0:Int)<=(m:Int))=true by simp,eD,bq (sO hg),bw,TS,bw];rw[<-EP]at hput;rw[Dr,<-hput];generalize V/65536^(m+1)%W=r at*;generalize V/65536^m%65536=d at*;rw[b8 (x:=(r:Int)*65536) (by omega) (by omega),b8 (x:=(r:Int)*65536+(d:Int)) (by omega) (by omega),show(r:Int)*65536+(d:Int)=((r*65536+d:Nat):Int) by omega,DA hW (by omega),bw,bw,DB hW,bw,fK (by rw[dh,bz];omega),bw,jd (by rw[dh,bz];omega),bw,b8 (x:=(m:Int)-1) (by omega) (by omega),JX]
  ·simp only[];rw[show decide ((0:Int)<=(n:Int)-1-(n:Int))=false by rw[decide_eq_false_iff_not];omega,fu,Nat.sub_self,Nat.pow_zero,Nat.mul_one,Nat.div_one,Nat.div_one]
  simp only[];rw[iL _ (by rw[bz];omega),bw,lO (by decide) hQ,show[((V%W:Nat):Int)]=zl [V%W]from Y,iL _ (by simp),bw];have hr:=Nat.mod_lt V L7;rw[iJ (B:=65536) (l:=[V%W]) (by decide) (by intro y hy;simp at hy;omega)];simp[val]
 rw[show decide (((can 65536 W).length:Int)=1)=false by rw[decide_eq_false_iff_not];omega,fu,b8 (by omega) (by omega)];refine cc (λj=>(zl (can 65536 (V/65536^(n-j)%W)),(n:Int)-1-(j:Int),zl (dD 65536 n (V/W/65536^(n-j)*65536^(n-j))))) n (zl (can 65536 (V%W)),zl (dD 65536 n (V/W))) ?_ (λj hj=>?_) ?_ ?_
 ·rw[Nat.sub_zero,Nat.div_eq_of_lt Ug,Nat.div_eq_of_lt hQ];simp[nn,zl]
 ·obtain⟨m,hm⟩:∃m,n=m+j+1:=⟨n-j-1,by omega⟩;have hg:(can 65536 V)[m]? =some (V/65536^m%65536):=ri (by decide) (by omega);have EP:=J3 (B:=65536) (by decide) L7 V m;have Dr:=JI (B:=65536) (d:=W) V m;have hrl:=Nat.mod_lt (V/65536^(m+1)) L7;have N8:=Nat.mod_lt (V/65536^m) (show 0<65536 by decide);have Vn:=LI (B:=65536) (by decide) L7 V m;have hput:=BS (B:=65536) (by decide) (N:=n) (k:=m) (by omega) (V/W);rw[show n-j=m+1 by omega,show n-(j+1)=m by omega,show(n:Int)-1-(j:Int)=(m:Int) by omega,show(n:Int)-1-((j+1:Nat):Int)=(m:Int)-1 by omega];simp only[];rw[<-EP]at hput;rw[Dr,<-hput,show decide ((0:Int)<=(m:Int))=true by simp,eD,bq (sO hg),bw];generalize V/65536^(m+1)%W=r at*;generalize V/65536^m%65536=d at*;obtain⟨X,hX⟩:∃X,r*65536+d=X:=⟨_,Y⟩;rw[hX]at Vn⊢;have hrc:(can 65536 r).length<=(can 65536 W).length:=(bO (by decide)).2 (Nat.lt_trans hrl L6);have Sl:(can 65536 X).length<=(can 65536 W).length+1:=(bO (by decide)).2 (by rw[Nat.pow_succ];exact Nat.lt_trans Vn (Nat.mul_lt_mul_of_pos_right L6 (by decide)));have hval:val 65536 (d::can 65536 r)=X:=by
   show d+65536*val 65536 (can 65536 r)=X;rw[iV (by decide)];omega
  have Bz:BU (can 65536 X):=⟨λ_ hx=>fj (by decide) hx,by omega⟩;rw[Ly (by decide) (by rw[dh];simp;omega),bw,show[(d:Int)]++zl (can 65536 r)=zl (d::can 65536 r)from rfl,iL _ (by simp;omega),bw,iJ (B:=65536) (by decide) (by intro y hy;simp at hy;rcases hy with rfl|hy;exact N8;exact fj (by decide) hy),hval];have hqW:W*(X/W)<=X:=Nat.mul_div_le X W;have aau:X/W<65536:=by rw[Nat.div_lt_iff_lt_mul L7,Nat.mul_comm];exact Vn
  have JS:((dw (zl (can 65536 W)) ((X/W:Nat):Int)).bind λD8=>(eP (zl (can 65536 X)) D8).bind λJc=>(vh (zl (dD 65536 n (V/W/65536^(m+1)*65536^(m+1)))) (m:Int)).bind λLh=>(stM (zl (dD 65536 n (V/W/65536^(m+1)*65536^(m+1)))) Lh ((X/W:Nat):Int)).bind λTi=>(some (.inl (Jc,IntKind.i64.wrap ((m:Int)-1),Ti)):Option ((List Int×Int×List Int)⊕(List Int×List Int))))=some (.inl (zl (can 65536 (X%W)),(m:Int)-1,zl ((dD 65536 n (V/W/65536^(m+1)*65536^(m+1))).set m (X/W)))):=by
   rw[vR _ _ L5 aau,bw,cf,xE _ _ Bz (BZ (Nat.lt_of_le_of_lt hqW (bU (by decide) X)) (by omega)) (by rw[cf,cf];exact hqW),bw,cf,cf,fK (by rw[dh,bz];omega),bw,jd (by rw[dh,bz];omega),bw,b8 (x:=(m:Int)-1) (by omega) (by omega),JX,<-Nat.mod_eq_sub_mul_div]
  rw[dh];by_cases hsh:(can 65536 X).length<(can 65536 W).length
  ·rw[show decide (((can 65536 X).length:Int)<((can 65536 W).length:Int))=true by rw[decide_eq_true_eq];omega,eD];exact DC L7 L5 (cf W) Bz (cf X) 1 (by decide) (by decide) (by rw[Nat.one_mul];exact sM (by decide) hsh) _ _ JS (by omega)
  rw[show decide (((can 65536 X).length:Int)<((can 65536 W).length:Int))=false by rw[decide_eq_false_iff_not];omega,fu];exact DC L7 L5 (cf W) Bz (cf X) 65536 (by decide) (by decide) (by rw[Nat.mul_comm];exact Vn) _ _ JS (by omega)
 ·simp only[];rw[show decide ((0:Int)<=(n:Int)-1-(n:Int))=false by rw[decide_eq_false_iff_not];omega,fu,Nat.sub_self,Nat.pow_zero,Nat.mul_one,Nat.div_one,Nat.div_one]
 simp only[];rw[iL _ (by rw[bz];omega),bw,lO (by decide) hQ]
end
section
open Go.Fw
theorem uQ{v:Nat}:(can 65536 v).length=0↔v=0:=by
 constructor
 ·intro h;exact uH (by decide) (List.length_eq_zero_iff.1 h)
 intro h;rw[h,nn];rfl
theorem sP{v:Nat}(h:(can 65536 v).length<=100000000000):BU (can 65536 v):=⟨λ_ hx=>fj (by decide) hx,h⟩
theorem uR{x:Zr}(h:Wl x):c9 x=some (zi x).sign:=by
 unfold c9;simp only[eo h,bw,dh];have hz:=uQ (v:=(zi x).natAbs);have hneg:x.neg=true->zi x<=0:=λe=>by unfold zi;rw[e];simp[sv]
 have hpos:x.neg=false->0<=zi x:=λe=>by unfold zi;rw[e];simp[sv]
 by_cases h0:zi x=0
 ·rw[h0];rfl
 rw[show decide (((can 65536 (zi x).natAbs).length:Int)=0)=false by rw[decide_eq_false_iff_not];omega,fu];cases hn:x.neg
 ·have:=hpos hn;rw[fu,Int.sign_eq_one_of_pos (by omega)]
 have:=hneg hn;rw[eD,Int.sign_eq_neg_one_of_neg (by omega)]
theorem L8{x y:Zr}(hx:Wl x)(hy:Wl y):lJ x y=some (jz (zi x) (zi y)):=by
 have cx:=hx.G0;have cy:=hy.G0;unfold lJ;simp only[zeta',uR hx,uR hy,bw,eo hx,eo hy];rw[BX _ _ (sP (by omega)) (sP (by omega)),cf,cf];simp only[bw];generalize zi x=i;generalize zi y=j;rw[zm];rcases Int.lt_trichotomy i 0 with h1|h1|h1<;>rcases Int.lt_trichotomy j 0 with h2|h2|h2
 ·rw[Int.sign_eq_neg_one_of_neg h1,Int.sign_eq_neg_one_of_neg h2,show(i.natAbs:Int)=-i by omega,show(j.natAbs:Int)=-j by omega,Dt];show some (IntKind.i64.wrap (0-jz j i))=_;rw[G1]
 ·rw[Int.sign_eq_neg_one_of_neg h1,show Int.sign j=0 by rw[h2];rfl,show jz i j=-1 from gh (by omega)];rfl
 ·rw[Int.sign_eq_neg_one_of_neg h1,Int.sign_eq_one_of_pos h2,show jz i j=-1 from gh (by omega)];rfl
 ·rw[show Int.sign i=0 by rw[h1];rfl,Int.sign_eq_neg_one_of_neg h2,show jz i j=1 from gi (by omega)];rfl
 ·rw[h1,h2];rfl
 ·rw[show Int.sign i=0 by rw[h1];rfl,Int.sign_eq_one_of_pos h2,show jz i j=-1 from gh (by omega)];rfl
 ·rw[Int.sign_eq_one_of_pos h1,Int.sign_eq_neg_one_of_neg h2,show jz i j=1 from gi (by omega)];rfl
 ·rw[Int.sign_eq_one_of_pos h1,show Int.sign j=0 by rw[h2];rfl,show jz i j=1 from gi (by omega)];rfl
 rw[Int.sign_eq_one_of_pos h1,Int.sign_eq_one_of_pos h2,show(i.natAbs:Int)=i by omega,show(j.natAbs:Int)=j by omega];rfl
theorem QY(x:Zr):sv x.neg (zi x).natAbs=zi x:=by rw[qR];rfl
theorem FW{x:Zr}(hx:Wl x):jK x=some (zn (-zi x)):=by
 have cx:=hx.G0;unfold jK;simp only[bw,eo hx];rw[mc _ _ (by omega),bw,zk,QY]
theorem L9{x:Zr}(hx:Wl x):lK x=some (zn ((zi x).natAbs:Int)):=by
 have cx:=hx.G0;unfold lK;simp only[bw,eo hx];rw[mc _ _ (by omega),bw,iK]
theorem Ma{x y:Zr}(hx:Wl x)(hy:Wl y):lM x y=some (zn (zi x+zi y)):=by
 have cx:=hx.G0;have cy:=hy.G0;unfold lM;simp only[bw,eo hx,eo hy];have ex:=QY x;have ey:=QY y;generalize (zi x).natAbs=a at*;generalize (zi y).natAbs=b at*;have la:=bU (B:=65536) (by decide) a;have lb:=bU (B:=65536) (by decide) b;rw[<-ex,<-ey];generalize x.neg=n;generalize y.neg=m;by_cases hnm:n=m
 ·subst hnm;have hl:(can 65536 (a+b)).length<=max (can 65536 a).length (can 65536 b).length+1:=by
   apply(bO (by decide)).2;have h1:a<65536^max (can 65536 a).length (can 65536 b).length:=Nat.lt_of_lt_of_le la (Nat.pow_le_pow_right (by decide) (by omega));have h2:b<65536^max (can 65536 a).length (can 65536 b).length:=Nat.lt_of_lt_of_le lb (Nat.pow_le_pow_right (by decide) (by omega));rw[Nat.pow_succ];omega
  rw[show(n==n)=true by simp,eD,BY _ _ (sP (by omega)) (sP (by omega)),bw,cf,cf,mc _ _ (by omega),bw,show sv n (a+b)=sv n a+sv n b by cases n<;>simp[sv];omega]
 have hm:m= !n:=by cases n<;>cases m<;>simp_all
 subst hm;rw[show(n== !n)=false by cases n<;>rfl,fu,BX _ _ (sP (by omega)) (sP (by omega)),bw,cf,cf];by_cases hlt:b<=a
 ·have hc:decide ((0:Int)<=sL a b)=true:=by
   rw[decide_eq_true_eq];rcases Nat.lt_or_ge b a with h|h
   ·rw[o9 h];decide
   rw[show a=b by omega,rm];decide
  have hl:(can 65536 (a-b)).length<=(can 65536 a).length:=(bO (by decide)).2 (by omega);rw[hc,eD,xE _ _ (sP (by omega)) (sP (by omega)) (by rw[cf,cf];exact hlt),bw,cf,cf,mc _ _ (by omega),bw,show sv n (a-b)=sv n a+sv (!n) b by cases n<;>simp[sv]<;>omega]
 have hc:decide ((0:Int)<=sL a b)=false:=by rw[nN (by omega)];decide
 have hl:(can 65536 (b-a)).length<=(can 65536 b).length:=(bO (by decide)).2 (by omega);rw[hc,fu,xE _ _ (sP (by omega)) (sP (by omega)) (by rw[cf,cf];omega),bw,cf,cf,mc _ _ (by omega),bw,show sv (!n) (b-a)=sv n a+sv (!n) b by cases n<;>simp[sv]<;>omega]
theorem uS{x y:Zr}(hx:Wl x)(hy:Wl y):fJ x y=some (zn (zi x*zi y)):=by
 have cx:=hx.G0;have cy:=hy.G0;unfold fJ;simp only[bw,eo hx,eo hy];have ex:=QY x;have ey:=QY y;generalize (zi x).natAbs=a at*;generalize (zi y).natAbs=b at*;have la:=bU (B:=65536) (by decide) a;have lb:=bU (B:=65536) (by decide) b;have hl:(can 65536 (a*b)).length<=(can 65536 a).length+(can 65536 b).length:=by
  apply(bO (by decide)).2;rw[Nat.pow_add];exact Nat.mul_lt_mul'' la lb
 rw[L3 _ _ (sP (by omega)) (sP (by omega)) (by omega),bw,cf,cf,mc _ _ (by omega),bw,EV,ex,ey]
theorem FX{x y:Zr}(hx:Wl x)(hy:Wl y):jL x y=some (Du (zi x) (zi y)):=by
 have cx:=hx.G0;have cy:=hy.G0;unfold jL;simp only[bw,cj,eo hx,eo hy,dh];have ex:=QY x;have ey:=QY y;generalize (zi x).natAbs=a at*;generalize (zi y).natAbs=b at*;rw[<-ex,<-ey];generalize x.neg=n;generalize y.neg=m;by_cases h0:b=0
 ·subst h0;rw[show sv m 0=0 by cases m<;>rfl];rfl
 have rS:(can 65536 b).length≠0:=λh=>h0 (uQ.1 h);have hm:a%b<b:=Nat.mod_lt _ (by omega);have la:=bU (B:=65536) (by decide) a;have lb:=bU (B:=65536) (by decide) b;obtain⟨e1,e2⟩:=JV n m (a:=a) (show 0<b by omega);have hj:sv m b≠0:=by cases m<;>simp[sv]<;>omega
 have hq:(can 65536 (a/b)).length<=(can 65536 a).length:=(bO (by decide)).2 (Nat.lt_of_le_of_lt (Nat.div_le_self _ _) la);have hr:(can 65536 (a%b)).length<=(can 65536 b).length:=(bO (by decide)).2 (Nat.lt_trans hm lb);rw[show decide (((can 65536 b).length:Int)=0)=false by rw[decide_eq_false_iff_not];omega,fu,FV a b h0 (by omega) (by omega),bw,Du,if_neg hj,e1,e2];simp only[dh];have hz:=uQ (v:=a%b);have hK:∀c:Bool,(decide (n=true/\0<a%b)=c)->(bif c then(fH (zl (can 65536 (a/b))) [1]).bind λrF=>(eP (zl (can 65536 b)) (zl (can 65536 (a%b)))).bind λnS=>(cC (!(n==m)) rF).bind λx=>(cC false nS).bind λx_1=>some ((⟨x.neg,x.w⟩:Zr),(⟨x_1.neg,x_1.w⟩:Zr),(0:Int))
   else(cC (!(n==m)) (zl (can 65536 (a/b)))).bind λx=>(cC false (zl (can 65536 (a%b)))).bind λx_1=>some ((⟨x.neg,x.w⟩:Zr),(⟨x_1.neg,x_1.w⟩:Zr),(0:Int)))=
   some (zn (if n=true/\0<a%b then sv (!(n==m)) (a/b+1)else sv (!(n==m)) (a/b)),zn (if n=true/\0<a%b then((b-a%b:Nat):Int)else((a%b:Nat):Int)),0):=by
  intro c hc;cases c
  ·have JW:=of_decide_eq_false hc;rw[fu,if_neg JW,if_neg JW,mc _ _ (by omega),bw,mc _ _ (by omega),bw,iK]
  have JW:=of_decide_eq_true hc;have QS:(can 65536 (a/b+1)).length<=(can 65536 a).length+1:=by
   apply(bO (by decide)).2;have:a/b<=a:=Nat.div_le_self _ _;rw[Nat.pow_succ];omega
  have hbr:(can 65536 (b-a%b)).length<=(can 65536 b).length:=(bO (by decide)).2 (by omega);rw[eD,if_pos JW,if_pos JW,show[(1:Int)]=zl [1]from Y,BY _ _ (sP (by omega)) ⟨by simp,by simp⟩,bw,cf,show fy [1]=1 by decide,xE _ _ (sP (by omega)) (sP (by omega)) (by rw[cf,cf];omega),bw,cf,cf,mc _ _ (by omega),bw,mc _ _ (by omega),bw,iK]
 cases n
 ·rw[fu,bw];exact hK false (by simp)
 rw[eD,bw];refine hK _ ?_;simp only[true_and];by_cases h:0<a%b
 ·rw[show decide (0<a%b)=true by simp[h],show decide ((0:Int)<((can 65536 (a%b)).length:Int))=true by rw[decide_eq_true_eq];omega]
 rw[show decide (0<a%b)=false by simp[h],show decide ((0:Int)<((can 65536 (a%b)).length:Int))=false by rw[decide_eq_false_iff_not];omega]
end
section
open Go.Fw
theorem Mb{x y:Zr}(hx:Wl x)(hy:Wl y):lN x y=some (zn (Int.gcd (zi x) (zi y):Int)):=by
 have cx:=hx.G0;have cy:=hy.G0;unfold lN;simp only[bw,eo hx,eo hy];rw[Int.gcd];generalize (zi x).natAbs=a at*;generalize (zi y).natAbs=b at*;refine fz (λs=>∃c d,s=(zl (can 65536 c),zl (can 65536 d))/\Nat.gcd c d=Nat.gcd a b/\(can 65536 c).length<=20000000000/\(can 65536 d).length<=20000000000)
  (λe=>e=zl (can 65536 (Nat.gcd a b))/\(can 65536 (Nat.gcd a b)).length<=20000000000) (λs=>val 65536 (s.2.map Int.toNat)) ?_ ⟨a,b,Y,Y,cx,cy⟩ ?_
 ·rintro _ ⟨c,d,rfl,hg,hc,hd⟩;simp only[dh];have hzl:∀l:List Nat,(zl l).map Int.toNat=l:=λl=>by
   rw[zl,List.map_map];have:(Int.toNat∘λ(n:Nat)=>(n:Int))=id:=by funext n;simp
   rw[this,List.map_id]
  by_cases h0:d=0
  ·right;subst h0;rw[Nat.gcd_zero_right]at hg;subst hg;exact⟨_,Y,Y,hc⟩
  left;have rS:(can 65536 d).length≠0:=λh=>h0 (uQ.1 h);have hm:c%d<d:=Nat.mod_lt _ (by omega);rw[show decide ((0:Int)<((can 65536 d).length:Int))=true by rw[decide_eq_true_eq];omega,eD,FV c d h0 (by omega) (by omega),bw];refine⟨_,Y,⟨d,c%d,Y,?_,hd,?_⟩,?_⟩
  ·rw[<-hg,Nat.gcd_comm d,<-Nat.gcd_rec,Nat.gcd_comm]
  ·exact Nat.le_trans ((bO (by decide)).2 (Nat.lt_trans hm (bU (by decide) d))) hd
  simp only[];rw[hzl,hzl,iV (by decide),iV (by decide)];exact hm
 rintro _ ⟨rfl,hl⟩;rw[mc _ _ (by omega),bw,iK]
end
section
open Go.Fw
theorem FY:jM=some (zn 1):=by
 unfold jM;simp only[zeta',bw,from_eq (x:=1) (by decide)]
section ops
variable {L M:Nat}{a b:Qr}{x y:Rat}
theorem mN(h:c5 L a x)(hL:L<=10000000000):∃n d:Int,eU a=some (zn n)/\dY a=some (zn d)/\0<d/\Rat.divInt n d=x/\Fit L n/\Fit L d:=by
 have wn:=h.wn hL;have wd:=h.wd hL;have hv:=h.v;unfold eU dY;simp only[zeta',bw,uR wd,FY,FW wn,L9 wd,Dw wn];unfold qv qd at hv;rcases Int.lt_trichotomy (zi a.den) 0 with h1|h1|h1
 ·refine⟨-zi a.num,-zi a.den,?_,?_,by omega,?_,h.fn.neg,h.fd.neg⟩
  ·rw[Int.sign_eq_neg_one_of_neg h1];rfl
  ·rw[Int.sign_eq_neg_one_of_neg h1,show((zi a.den).natAbs:Int)=-zi a.den by omega];rfl
  rw[Rat.neg_divInt_neg,<-hv,if_neg (by omega)]
 ·refine⟨zi a.num,1,?_,?_,by decide,?_,h.fn,uO h.l1⟩
  ·rw[h1];rfl
  ·rw[h1];rfl
  rw[<-hv,if_pos h1]
 refine⟨zi a.num,zi a.den,?_,?_,h1,?_,h.fn,h.fd⟩
 ·rw[Int.sign_eq_one_of_pos h1];rfl
 ·rw[Int.sign_eq_one_of_pos h1,show((zi a.den).natAbs:Int)=zi a.den by omega];rfl
 rw[<-hv,if_neg (by omega)]
theorem B0{n d:Int}(hn:Fit L n)(hd:Fit L d)(hL:L<=10000000000)(h:0<d):gO (zn n) (zn d)=some (qn (Rat.divInt n d)):=by
 have wn:=dJ hn hL;have wd:=dJ hd hL;have g0:(Int.gcd n d:Int)≠0:=by
  have:0<Int.gcd n d:=Int.gcd_pos_of_ne_zero_right _ (by omega);omega
 have wg:Wl (zn (Int.gcd n d:Int)):=dJ (hd.le (by
  have:=Nat.le_of_dvd (Int.natAbs_pos.2 (show d≠0 by omega)) (Int.gcd_dvd_natAbs_right n d);simpa using this)) hL
 have wq:Wl (zn (d/(Int.gcd n d:Int))):=dJ (hd.le (Int.natAbs_ediv_le_natAbs _ _)) hL;have one:di 1:=by decide
 unfold gO;simp only[zeta',bw,Mb wn wd,FX wn wg,FX wd wg,FY,dQ];rw[Du,if_neg g0,Du,if_neg g0];simp only[];rw[L8 wq (JY one),bw,dQ,dQ,vO h];by_cases e:d/(Int.gcd n d:Int)=1
 ·rw[e,mM,if_pos rfl];rfl
 have:jz (d/(Int.gcd n d:Int)) 1≠0:=by
  rcases Int.lt_trichotomy (d/(Int.gcd n d:Int)) 1 with q|q|q
  ·rw[gh q];decide
  ·exact absurd q e
  rw[gi q];decide
 rw[decide_eq_false this,fu,if_neg e]
theorem QZ(h1:a.num.w.length<=100000000000)(h2:a.den.w.length<=100000000000):∃c,iG a b=some c/\(c=true↔a=b):=by
 obtain⟨c1,e1,k1⟩:=FO (x:=a.num) (y:=b.num) h1;obtain⟨c2,e2,k2⟩:=FO (x:=a.den) (y:=b.den) h2;unfold iG;simp only[zeta',bw,cj,e1,e2];have hab:a=b↔a.num=b.num/\a.den=b.den:=by
  constructor
  ·rintro rfl;exact⟨rfl,rfl⟩
  rintro⟨e1,e2⟩;rw[<-kM a,<-kM b,e1,e2]
 rw[hab,<-k1,<-k2];cases c1
 ·exact⟨false,Y,by simp⟩
 exact⟨c2,Y,by simp⟩
theorem c5.ris(ha:c5 L (qn x) x)(h:L<=10000000000)(y:Rat):iG (qn x) (qn y)=some (decide (x=y)):=by
 obtain⟨c,e,k⟩:=QZ (a:=qn x) (b:=qn y) (by have:=ha.ln;omega) (by have:=ha.ld;omega);rw[e];congr 1;by_cases q:x=y
 ·rw[decide_eq_true q,k.2 (by rw[q])]
 rw[decide_eq_false q];cases c
 ·rfl
 exact absurd (QU (k.1 Y)) q
theorem c5.Uh(ha:c5 L a x)(h:L<=10000000000):jO a=some (qn (-x)):=by
 obtain⟨n,d,e1,e2,h1,h2,f1,f2⟩:=mN ha h;unfold jO;simp only[zeta',mw,kM,e1,e2,bw,FW (dJ f1 h),dQ,B0 f1.neg f2 h h1];rw[<-Rat.neg_divInt,h2]
theorem c5.Ui(ha:c5 L a x)(hb:c5 M b y)(h:L+M<=4000000000):jN a b=some (qn (x+y)):=by
 obtain⟨n,d,e1,e2,h1,h2,f1,f2⟩:=mN ha (by omega);obtain⟨m,c,e3,e4,h3,h4,f3,f4⟩:=mN hb (by omega);unfold jN;have u1:=(f1.mul f4);have u2:=(f3.mul f2).mono (show M+L<=L+M by omega);simp only[zeta',mw,kM,e1,e2,e3,e4,bw,uS (dJ f1 (by omega)) (dJ f4 (by omega)),uS (dJ f3 (by omega)) (dJ f2 (by omega)),dQ,Ma (dJ u1 (by omega)) (dJ u2 (by omega)),uS (dJ f2 (by omega)) (dJ f4 (by omega)),B0 (u1.add u2) ((f2.mul f4).mono (by omega)) (show L+M+1<=10000000000 by omega) (Int.mul_pos h1 h3)];rw[<-h2,<-h4,Rat.divInt_add_divInt _ _ (by omega) (by omega)]
theorem c5.Uj(ha:c5 L a x)(hb:c5 M b y)(h:L+M<=4000000000):jP a b=some (qn (x-y)):=by
 unfold jP;have r:c5 M (qn (-y)) (-y):=hb.fq.neg.rep hb.l1;simp only[zeta',mw,kM,hb.Uh (by omega),bw,ha.Ui r h];rw[<-Rat.sub_eq_add_neg]
theorem c5.Uk(ha:c5 L a x)(hb:c5 M b y)(h:L+M<=4000000000):jQ a b=some (qn (x*y)):=by
 obtain⟨n,d,e1,e2,h1,h2,f1,f2⟩:=mN ha (by omega);obtain⟨m,c,e3,e4,h3,h4,f3,f4⟩:=mN hb (by omega);unfold jQ;simp only[zeta',mw,kM,e1,e2,e3,e4,bw,uS (dJ f1 (by omega)) (dJ f3 (by omega)),dQ,uS (dJ f2 (by omega)) (dJ f4 (by omega)),B0 (f1.mul f3) (f2.mul f4) (show L+M<=10000000000 by omega) (Int.mul_pos h1 h3)];rw[<-h2,<-h4,Rat.divInt_mul_divInt]
theorem c5.Ul(ha:c5 L a x)(h:L<=10000000000):kq a=some (oH x 0):=by
 obtain⟨n,d,e1,e2,h1,h2,f1,f2⟩:=mN ha h;unfold kq;simp only[zeta',mw,kM,e1,bw,uR (dJ f1 h),dQ];rw[<-h2,<-nO h1]
theorem J5(x y:Rat):oH (x-y) 0=oH x y:=by
 unfold oH;by_cases h:x<y
 ·rw[if_pos h,if_pos (by grind)]
 rw[if_neg h,if_neg (by grind)];by_cases h2:x=y
 ·rw[if_pos h2,if_pos (by grind)]
 rw[if_neg h2,if_neg (by grind)]
theorem c5.Um(ha:c5 L a x)(hb:c5 M b y)(h:L+M<=4000000000):jR a b=some (oH x y):=by
 unfold jR;have r:c5 (L+M+1) (qn (x-y)) (x-y):=(ha.fq.sub hb.fq).rep (by omega);simp only[zeta',mw,kM,ha.Uj hb h,bw,r.Ul (by omega),J5]
end ops
end
section
open Go.Fw
theorem fN{J R:Type}{f:J->Option R}{g:(J->Option R)->Option R}{r:Option R}(h:g f=r):cj f g=r:=h
theorem FZ{J R:Type}(f:J->Option R)(g:(J->Option R)->Option R):cj f g=g f:=rfl
section ops
variable {K L M:Nat}{c:Qr}{a b:List Qr}{k:Rat}{f g:Nat->Rat}
theorem N9{l:List Int}(hl:∀x∈l,di x)(h:l.length<=1000000):cG l=some (vq l.length λi=>((l.getD i 0:Int):Rat))/\eK 2 (vq l.length λi=>((l.getD i 0:Int):Rat)) (λi=>((l.getD i 0:Int):Rat)):=by
 have hx:∀i,di (l.getD i 0):=λi=>by
  by_cases hi:i<l.length
  ·rw[List.getD_eq_getElem?_getD,List.getElem?_eq_getElem hi];exact hl _ (List.getElem_mem hi)
  rw[List.getD_eq_getElem?_getD,List.getElem?_eq_none (by omega)];decide
 refine⟨?_,QW (λi _=>(pg (hx i)).2.fq) (λi hi=>?_) (by decide)⟩
 ·unfold cG;refine aA Y<|aA (vK (by omega) (by omega))<|aA Y ?_;refine cc (λj=>((j:Int),vq j (λi=>((l.getD i 0:Int):Rat))++List.replicate (l.length-j) qz)) l.length (vq l.length λi=>((l.getD i 0:Int):Rat)) Y (λj hj=>?_) ?_ Y
  ·have e3:=(pg (hx j)).1;have h4:=QX (h:=λi=>((l.getD i 0:Int):Rat)) hj;obtain⟨q3,h3⟩:∃q,qn ((l.getD j 0:Int):Rat)=q:=⟨_,Y⟩;rw[h3]at e3 h4;obtain⟨⟨_,_⟩,⟨_,_⟩⟩:=q3;refine aA Y<|dZ (decide_eq_true (by omega))<|aA (bq (iP hj))<|aA e3<|aA (fK (by rw[FR (by omega)];exact hj))<|aA (jd (by rw[FR (by omega)];exact hj))<|aA Y ?_;rw[bV (by omega),h4]
  refine aA Y<|cS (decide_eq_false (by omega)) ?_;simp
 show((l.getD i 0:Int):Rat)=0;rw[nG hi];rfl
end ops
end
section
open Go.Fw
abbrev Vo(q:Qr):Prop:=OkZ q.num/\OkZ q.den
theorem Q0{q:Qr}{L:Nat}(h:Vo q)(h1:q.num.w.length<=L)(h2:q.den.w.length<=L)(hL:1<=L):c5 L q (qv q):=⟨h.1.2.2,h.2.2.2,h1,h2,hL,Y⟩
end
section
open Go.Fw
theorem c5.eqT{L M:Nat}{a b:Qr}{x y:Rat}(ha:c5 L a x)(hb:c5 M b y)(e:x=y)(h:L+M<=4000000000):iQ a b=some true:=by
 rw[ha.eq hb h,decide_eq_true e]
end
section
open Go.Fw
theorem dT{p:Prop}[Decidable p](h:p):(some (decide p):Option Bool)=some true:=congrArg some (decide_eq_true h)
theorem dF{p:Prop}[Decidable p](h:¬p):(some (decide p):Option Bool)=some false:=congrArg some (decide_eq_false h)
theorem rM{β:Type}{x:Option Bool}{f:Bool->Option β}{r:Option β}{y:Option Bool}(h:x=some true)(hf:f true=r):(bif true then x else y).bind f=r:=by rw[eD,h];exact hf
theorem Ru{β:Type}{b c:Bool}{x:Option Bool}{f:Bool->Option β}{r:Option β}(h:b=false->x=some c)(hf:f (b||c)=r):(bif b then some true else x).bind f=r:=by
 cases b
 ·rw[fu,h rfl];exact hf
 rw[eD];exact hf
section ops
variable {K L M:Nat}{a b c:Qr}{x y z:Rat}
theorem c5.add'(ha:c5 L a x)(hb:c5 M b y)(h:L+M<=4000000000):∃q,fP a b=some q/\c5 (L+M+1) q (x+y):=⟨_,ha.add hb h⟩
theorem c5.sub'(ha:c5 L a x)(hb:c5 M b y)(h:L+M<=4000000000):∃q,iB a b=some q/\c5 (L+M+1) q (x-y):=⟨_,ha.sub hb h⟩
theorem c5.mul'(ha:c5 L a x)(hb:c5 M b y)(h:L+M<=4000000000):∃q,gL a b=some q/\c5 (L+M) q (x*y):=⟨_,ha.mul hb h⟩
theorem c5.neg'(ha:c5 L a x)(h:L<=10000000000):∃q,iC a=some q/\c5 L q (-x):=⟨_,ha.neg h⟩
theorem c5.canon'(ha:c5 L a x)(h:L<=10000000000):∃q,dO a=some q/\c5 L q x:=⟨_,ha.canon h⟩
theorem int'{n:Int}(hn:di n):∃q,cK n=some q/\c5 2 q (n:Rat):=⟨_,pg hn⟩
theorem zu{l:List Int}(hl:∀x∈l,di x)(h:l.length<=1000000):∃v,cG l=some v/\eK 2 v (λi=>((l.getD i 0:Int):Rat))/\v.length=l.length:=⟨_,(N9 hl h).1,(N9 hl h).2,vQ _ _⟩
end ops
theorem eK.of{L n:Nat}{v:List Qr}{f:Nat->Rat}(hn:v.length=n)(h:∀i q,v[i]? =some q->c5 L q (f i))(h1:1<=L):eK L v (λi=>if i<n then f i else 0):=by
 refine⟨λi hi=>?_,λi hi=>?_,h1⟩
 ·show c5 L v[i] (if i<n then f i else 0);rw[if_pos (by omega)];exact h i _ (List.getElem?_eq_getElem hi)
 show(if i<n then f i else 0)=0;rw[if_neg (by omega)]
theorem Un(a:List Qr)(i:Nat):nk a (i:Int)=some (L1 a i):=by
 unfold nk L1;rw[FZ];by_cases h:i<a.length
 ·refine aA (dF (by omega))<|aA (a:=false) (cS Y<|aA Y<|aA (dF (by omega)) Y)<|cS Y<|aA (bq (iP (d:=qz) h)) Y
 refine aA (dF (by omega))<|aA (a:=true) (cS Y<|aA Y<|aA (dT (by omega)) Y)<|dZ Y ?_;rw[nG (by omega)];rfl
abbrev szZ(z:Zr):Nat:=1+((z.w.map λ_=>1).sum+1)+1
abbrev Oa(q:Qr):Nat:=szZ q.num+szZ q.den+1
abbrev Vp(v:List Qr):Nat:=(v.map λx=>Oa x).sum+1
theorem F0{α:Type}(f:α->Nat):∀{l:List α} {x:α},x∈l->f x<=(l.map f).sum
 |y::l,x,h=>by
  rw[List.map_cons,List.sum_cons];rcases List.mem_cons.1 h with rfl|h
  ·omega
  have:=F0 f h;omega
theorem F1{α:Type}:∀l:List α,(l.map λ_=>1).sum=l.length
 |[]=>rfl
 |_::l=>by rw[List.map_cons,List.sum_cons,F1 l,List.length_cons];omega
theorem Mc(q:Qr):q.num.w.length<=Oa q/\q.den.w.length<=Oa q:=by
 simp only[Oa,szZ,F1];omega
abbrev OkV(v:List Qr):Prop:=v.length<=9223372036854775807/\∀q∈v,Vo q
theorem Uo{q:Qr}(h:Vo q)(s:Oa q<=1048576):c5 1048576 q (qv q):=by
 have:=Mc q;exact Q0 h (by omega) (by omega) (by decide)
theorem Ob{v:List Qr}(h:OkV v)(s:Vp v<=1048576):eK 1048576 v (G3 v):=by
 refine L2 (λq hq=>Uo (h.2 q hq) ?_) (by decide);have:=F0 (λx=>Oa x) hq;have e:Vp v=(v.map λx=>Oa x).sum+1:=rfl;omega
end
section
open Go.Fw
theorem Q1(l:List (List Qr))(hl:l.length<=9223372036854775807):∃b,kz l=some b/\(b=false->∀v∈l,v.length<=40):=by
 unfold kz;refine dB (λs=>∃(i:Nat) (n:Int),s=(n,(i:Int))/\i<=l.length/\∀v∈l.take i,v.length<=40) (λe=>(e=.inl ()/\∀v∈l,v.length<=40)\/e=.inr true) (λs=>l.length-s.2.toNat) ?_ ⟨0,0,Y,by omega,by simp⟩ ?_
 ·rintro _ ⟨i,n,rfl,hi,ht⟩;by_cases hlt:i<l.length
  ·have g:=List.getElem?_eq_getElem hlt;by_cases h1:40<l[i].length
   ·exact .inr ⟨.inr true,aA Y<|aA (dT (by omega))<|dZ Y<|aA (bq g)<|aA Y<|aA (dT (by omega))<|dZ Y Y,.inr Y⟩
   obtain⟨e,he,-⟩:=vi (body:=λ(s:Int×Int)=>match s with|⟨y3,y5⟩=>(show Option ((Int×Int)⊕Int)from(cm l (i:Int)).bind λgY=>(some (gY.length:Int)).bind λig=>(some (decide ((y5:Int)<ig))).bind λg9=>(bif g9 then(some (IntKind.i64.wrap (y3+1))).bind λn9=>(cm l (i:Int)).bind λnR=>(cm nR y5).bind λ⟨⟨Ar,wz⟩,⟨NC,ND⟩⟩=>(some (wz.length:Int)).bind λsu=>(some (min (100:Int) su)).bind λuX=>(some (IntKind.i64.wrap (n9+uX))).bind λnS=>(cm l (i:Int)).bind λB6=>(cm B6 y5).bind λ⟨⟨NF,NG⟩,⟨NH,FC⟩⟩=>(some (FC.length:Int)).bind λvo=>(some (min (100:Int) vo)).bind λGj=>(some (IntKind.i64.wrap (nS+Gj))).bind λCy=>(some (IntKind.i64.wrap (y5+1))).bind λgR=>some (.inl (Cy,gR))else some (.inr y3))))
    (s:=(n,0)) (λs=>∃(k:Nat) (m:Int),s=(m,(k:Int))/\k<=l[i].length) (λ_=>True) (λs=>l[i].length-s.2.toNat) (by
     rintro _ ⟨k,m,rfl,hk⟩;by_cases hk2:k<l[i].length
     ·have gk:=List.getElem?_eq_getElem hk2;generalize l[i][k]=q at gk;refine .inl ⟨(_,((k+1:Nat):Int)),aA (bq g)<|aA Y<|aA (dT (by omega))<|dZ Y<|aA Y<|aA (bq g)<|aA (bq gk)<|aA Y<|aA Y<|aA Y<|aA (bq g)<|aA (bq gk)<|aA Y<|aA Y<|aA Y<|aA (congrArg some (bV (by omega))) Y,⟨k+1,_,Y,hk2⟩,by simp only[Int.toNat_natCast];omega⟩
     exact .inr ⟨m,aA (bq g)<|aA Y<|aA (dF (by omega))<|cS Y Y,aq⟩) ⟨0,n,Y,by omega⟩
   by_cases h2:400<e
   ·exact .inr ⟨.inr true,aA Y<|aA (dT (by omega))<|dZ Y<|aA (bq g)<|aA Y<|aA (dF (by omega))<|cS Y<|aA he<|aA (dT h2)<|dZ Y Y,.inr Y⟩
   refine .inl ⟨(e,((i+1:Nat):Int)),aA Y<|aA (dT (by omega))<|dZ Y<|aA (bq g)<|aA Y<|aA (dF (by omega))<|cS Y<|aA he<|aA (dF h2)<|cS Y<|aA (congrArg some (bV (by omega))) Y,⟨i+1,e,Y,hlt,?_⟩,by simp only[Int.toNat_natCast];omega⟩;rw[List.take_add_one,g];intro u hu;rcases List.mem_append.1 hu with h|h
   ·exact ht u h
   simp at h;rw[h];omega
  refine .inr ⟨.inl (),aA Y<|aA (dF (by omega))<|cS Y Y,.inl ⟨Y,?_⟩⟩;rw[List.take_of_length_le (by omega)]at ht;exact ht
 rintro e (⟨rfl,he⟩|rfl)
 ·exact⟨false,Y,λ_=>he⟩
 exact⟨true,rfl,λh=>by cases h⟩
end
section
open Go.Fw
theorem xF{P:Nat->Qr->Prop}{l:List Qr}{j:Nat}{q:Qr}(h:∀i q',i<j->l[i]? =some q'->P i q')(hq:P j q):∀i q',i<j+1->(l.set j q)[i]? =some q'->P i q':=by
 intro i q' hi e;rw[List.getElem?_set]at e;by_cases hj:j=i
 ·subst hj;by_cases hl:j<l.length
  ·rw[if_pos Y,if_pos hl]at e;rw[<-Option.some.inj e];exact hq
  rw[if_pos rfl,if_neg hl]at e;cases e
 rw[if_neg hj]at e;exact h i q' (by omega) e
def fI(f:Nat->Rat)(i:Int):Rat:=if i<0 then 0 else f i.toNat
theorem nelem{L:Nat}{a:List Qr}{f:Nat->Rat}(h:eK L a f)(i:Int):∃q,gz a i=some q/\c5 L q (fI f i):=by
 unfold gz;rw[FZ];by_cases h0:i<0
 ·refine⟨qz,aA (dT h0)<|aA (a:=true) (dZ Y Y)<|dZ Y Y,?_⟩;unfold fI;rw[if_pos h0];exact lT h.l1
 obtain⟨k,rfl⟩:∃k:Nat,i=(k:Int):=⟨i.toNat,by omega⟩;have e:fI f (k:Int)=f k:=by unfold fI;rw[if_neg h0,Int.toNat_natCast]
 rw[e];by_cases hk:k<a.length
 ·obtain⟨q,hq,rq⟩:=h.get hk;exact⟨q,aA (dF (by omega))<|aA (a:=false) (cS Y<|aA Y<|aA (dF (by omega)) Y)<|cS Y<|aA (bq hq) Y,rq⟩
 refine⟨qz,aA (dF (by omega))<|aA (a:=true) (cS Y<|aA Y<|aA (dT (by omega)) Y)<|dZ Y Y,?_⟩;rw[h.z k (by omega)];exact lT h.l1
theorem Q2(f:Nat->Rat)(k:Nat):fI f (k:Int)=f k:=by unfold fI;rw[if_neg (by omega),Int.toNat_natCast]
def Md(L:Nat)(m:List (List Qr))(F:Nat->Nat->Rat):Prop:=∀l v,m[l]? =some v->eK L v (F l)
theorem Up{L n b:Nat}{lines:List Qr}{cW:List (List Qr)}{g:Nat->Rat}{F:Nat->Nat->Rat}(hg:eK L lines g)(hF:Md L cW F)(hn:n<=cW.length)(hn':n<=lines.length)(hL:(n+1)*(2*L+1)+1<=4000000000):
  ∃q,lG (n:Int) lines cW (b:Int)=some q/\c5 (n*(2*L+1)+1) q (eC (λl=>g l*F l b) n):=by
 have hlen:n<=4000000000:=by
  have:n*1<=n*(2*L+1):=Nat.mul_le_mul_left _ (by omega);rw[Nat.add_mul]at hL;omega
 unfold lG;refine dB (λs=>∃(j:Nat) (q:Qr),s=((j:Int),q.num.neg,q.num.w,q.den.neg,q.den.w)/\j<=n/\c5 (j*(2*L+1)+1) q (eC (λl=>g l*F l b) j)) (λe=>∃q:Qr,e=(q.num.neg,q.num.w,q.den.neg,q.den.w)/\c5 (n*(2*L+1)+1) q (eC (λl=>g l*F l b) n)) (λs=>n-s.1.toNat) ?_ ⟨0,qz,Y,by omega,by rw[Nat.zero_mul];exact lT (by omega)⟩ ?_
 ·rintro _ ⟨j,q,rfl,hj,hq⟩;by_cases hlt:j<n
  ·obtain⟨p,e1,r1⟩:=hg.get (show j<lines.length by omega);have e2:=List.getElem?_eq_getElem (show j<cW.length by omega);generalize cW[j]=v at e2;obtain⟨p2,e3,r3⟩:=nelem (hF j v e2) (b:Int);rw[Q2]at r3;have hj2:j*(2*L+1)<=n*(2*L+1):=Nat.mul_le_mul_right _ (by omega);rw[Nat.add_mul]at hL;obtain⟨p3,e4,r4⟩:=r1.mul' r3 (by omega);obtain⟨q2,e5,r5⟩:=hq.add' r4 (by omega);have hS:iD (j:Int) lines cW (b:Int)=some p3:=by
    unfold iD;exact aA (bq e1)<|aA (bq e2)<|aA e3<|aA e4 Y
   refine .inl ⟨(((j+1:Nat):Int),q2.num.neg,q2.num.w,q2.den.neg,q2.den.w),?_,⟨j+1,q2,Y,hlt,r5.mono (by rw[Nat.add_mul];omega)⟩,by simp only[Int.toNat_natCast];omega⟩;exact aA (dT (by omega))<|dZ Y<|aA hS<|aA e5<|aA (congrArg some (bV (by omega))) Y
  obtain rfl:j=n:=by omega
  exact .inr ⟨_,aA (dF (by omega))<|cS Y Y,q,Y,hq⟩
 rintro _ ⟨q,rfl,hq⟩;exact⟨q,Y,hq⟩
def Uq(isl:List Int)(f:Nat->Rat)(i:Nat):Rat:=fI f (isl.getD i 0)
def Ur(m:Nat)(g:Nat->Rat)(F:Nat->Nat->Rat)(i:Nat):Rat:=-eC (λl=>g l*F l i) m
def cut(n:Nat)(f:Nat->Rat)(i:Nat):Rat:=if i<n then f i else 0
theorem Q3{n i:Nat}{f:Nat->Rat}(h:i<n):cut n f i=f i:=if_pos h
theorem Vq(n:Nat)(h:n<=1000):DT 64 ((n:Nat):Int) (⟨⟨false,[]⟩,⟨false,[]⟩⟩:Qr)=some (List.replicate n ⟨⟨false,[]⟩,⟨false,[]⟩⟩):=vK (by omega) (by omega)
theorem J6{L M:Nat}{isl:List Int}{base lines:List Qr}{cW:List (List Qr)}{f g:Nat->Rat}{F:Nat->Nat->Rat}(hf:eK L base f)(hg:eK L lines g)(hF:Md L cW F)(hi:isl.length<=1000)(hL:(min cW.length lines.length+1)*(2*L+1)+1<=M)(hM:M<=4000000000):
  ∃u v,fG isl base cW lines=some (u,v)/\u.length=isl.length/\v.length=isl.length/\eK L u (cut isl.length (Uq isl f))/\eK M v (cut isl.length (Ur (min cW.length lines.length) g F)):=by
 have Rh:=hf.l1;have hL0:L<=4000000000:=by
  have:1*(2*L+1)<=(min cW.length lines.length+1)*(2*L+1):=Nat.mul_le_mul_right _ (by omega);omega
 have hM1:min cW.length lines.length*(2*L+1)+1<=M:=by rw[Nat.add_mul]at hL;omega
 suffices H:∃r,fG isl base cW lines=some r/\r.1.length=isl.length/\r.2.length=isl.length/\(∀i q,r.1[i]? =some q->c5 L q (Uq isl f i))/\(∀i q,r.2[i]? =some q->c5 M q (Ur (min cW.length lines.length) g F i)) by
  obtain⟨⟨u,v⟩,h1,h2,h3,h4,h5⟩:=H;exact⟨u,v,h1,h2,h3,eK.of h2 h4 Rh,eK.of h3 h5 (by omega)⟩
 unfold fG;rw[bw,Vq _ hi,bw,bw,Vq _ hi,bw,bw,bw,BW,bw,bw];have hm1:min cW.length lines.length<=cW.length:=Nat.min_le_left _ _;have Ol:min cW.length lines.length<=lines.length:=Nat.min_le_right _ _;generalize min cW.length lines.length=m at*;refine dB (λs=>∃(j:Nat) (u v:List Qr),s=((j:Int),u,v)/\j<=isl.length/\u.length=isl.length/\v.length=isl.length/\(∀i q,i<j->u[i]? =some q->c5 L q (Uq isl f i))/\(∀i q,i<j->v[i]? =some q->c5 M q (Ur m g F i)))
  (λe=>e.1.length=isl.length/\e.2.length=isl.length/\(∀i q,e.1[i]? =some q->c5 L q (Uq isl f i))/\(∀i q,e.2[i]? =some q->c5 M q (Ur m g F i))) (λs=>isl.length-s.1.toNat) ?_ ⟨0,_,_,Y,by omega,by simp,by simp,λi q h=>by omega,λi q h=>by omega⟩ ?_
 ·rintro _ ⟨j,u,v,rfl,hj,hu,hv,ru,rv⟩;by_cases hlt:j<isl.length
  ·have g1:=iP (l:=isl) (d:=0) hlt;obtain⟨q1,e1,r1⟩:=nelem hf (isl.getD j 0);obtain⟨q2,e2,r2⟩:=r1.canon' (by omega);obtain⟨q3,e3,r3⟩:=Up (b:=j) (n:=m) hg hF (by omega) (by omega) (by omega);obtain⟨q4,e4,r4⟩:=r3.neg' (by omega);refine .inl ⟨(((j+1:Nat):Int),u.set j q2,v.set j q4),?_,⟨j+1,_,_,Y,hlt,by simp[hu],by simp[hv],xF ru r2,xF rv (r4.mono hM1)⟩,by simp only[Int.toNat_natCast];omega⟩;exact aA (dT (by omega))<|dZ Y<|aA (bq g1)<|aA e1<|aA e2<|aA (fK (by omega))<|aA (jd (by omega))<|aA e3<|aA e4<|aA (fK (by omega))<|aA (jd (by omega))<|aA (congrArg some (bV (by omega))) Y
  refine .inr ⟨(u,v),aA (dF (by omega))<|cS Y Y,hu,hv,λi q hq=>ru i q ?_ hq,λi q hq=>rv i q ?_ hq⟩
  ·have:i<u.length:=(List.getElem?_eq_some_iff.1 hq).1;omega
  have:i<v.length:=(List.getElem?_eq_some_iff.1 hq).1;omega
 rintro⟨u,v⟩ h;exact⟨(u,v),Y,h⟩
def Us(isl:List Int)(m:Nat)(f g:Nat->Rat)(F:Nat->Nat->Rat)(i:Nat):Rat:=Uq isl f i+Ur m g F i
theorem Me{L M:Nat}{isl:List Int}{base lines:List Qr}{cW:List (List Qr)}{f g:Nat->Rat}{F:Nat->Nat->Rat}(hf:eK L base f)(hg:eK L lines g)(hF:Md L cW F)(hi:isl.length<=1000)(hL:(min cW.length lines.length+1)*(2*L+1)+1<=M)(hM:L+M<=4000000000):
  ∃v,fS isl base cW lines=some v/\v.length=isl.length/\eK (L+M+1) v (cut isl.length (Us isl (min cW.length lines.length) f g F)):=by
 obtain⟨u,w,h1,h2,h3,h4,h5⟩:=J6 hf hg hF hi hL (by omega)
 suffices H:∃v,fS isl base cW lines=some v/\v.length=isl.length/\∀i q,v[i]? =some q->c5 (L+M+1) q (Us isl (min cW.length lines.length) f g F i) by
  obtain⟨v,k1,k2,k3⟩:=H;exact⟨v,k1,k2,eK.of k2 k3 (by omega)⟩
 unfold fS;rw[h1,bw];dsimp only;rw[bw,Vq _ hi,bw,bw,List.length_replicate];generalize min cW.length lines.length=m at*;refine dB (λs=>∃(j:Nat) (v:List Qr),s=((j:Int),v)/\j<=isl.length/\v.length=isl.length/\(∀i q,i<j->v[i]? =some q->c5 (L+M+1) q (Us isl m f g F i)))
  (λv=>v.length=isl.length/\(∀i q,v[i]? =some q->c5 (L+M+1) q (Us isl m f g F i))) (λs=>isl.length-s.1.toNat) ?_ ⟨0,_,Y,by omega,by simp,λi q h=>by omega⟩ ?_
 ·rintro _ ⟨j,v,rfl,hj,hv,rv⟩;by_cases hlt:j<isl.length
  ·obtain⟨q1,e1,r1⟩:=h4.get (show j<u.length by omega);obtain⟨q2,e2,r2⟩:=h5.get (show j<w.length by omega);rw[Q3 hlt]at r1 r2;obtain⟨q3,e3,r3⟩:=r1.add' r2 hM;refine .inl ⟨(((j+1:Nat):Int),v.set j q3),?_,⟨j+1,_,Y,hlt,by simp[hv],xF rv r3⟩,by simp only[Int.toNat_natCast];omega⟩;exact aA (dT (by omega))<|dZ Y<|aA (bq e1)<|aA (bq e2)<|aA e3<|aA (fK (show j<v.length by omega))<|aA (jd (show j<v.length by omega))<|aA (congrArg some (bV (by omega))) Y
  refine .inr ⟨v,aA (dF (by omega))<|cS Y Y,hv,λi q hq=>rv i q ?_ hq⟩;have:=(List.getElem?_eq_some_iff.1 hq).1;omega
 rintro v h;exact⟨v,Y,h⟩
theorem Ut{L M:Nat}{a b:List Qr}{f g:Nat->Rat}(ha:eK L a f)(hb:eK M b g)(h:(min a.length b.length+2)*(L+M+1)<=4000000000):∃q,kU a b=some q/\c5 (min a.length b.length*(L+M+1)+1) q (eC (λi=>f i*g i) (min a.length b.length)):=⟨_,Ud ha hb h⟩
theorem aay{L M:Nat}{a b:List Qr}{f g:Nat->Rat}(ha:eK L a f)(hb:eK M b g)(h:(min a.length b.length+2)*(L+M+1)<=4000000000):∃q,iF a b=some q/\c5 (min a.length b.length*(L+M+1)+1) q (eC (λi=>f i*g i) (min a.length b.length)):=by
 obtain⟨q,e,r⟩:=Ut ha hb h;refine⟨q,?_,r⟩;unfold iF;exact aA e Y
theorem Uu{L M:Nat}{a b:List Qr}{f g:Nat->Rat}(ha:eK L a f)(hb:eK M b g)(h:(min a.length b.length+2)*(L+M+1)<=4000000000):∃q,gC a b=some q/\c5 (min a.length b.length*(L+M+1)+1) q (-eC (λi=>f i*g i) (min a.length b.length)):=by
 obtain⟨q,e,r⟩:=Ut ha hb h;have:min a.length b.length*(L+M+1)+1<=10000000000:=by rw[Nat.add_mul]at h;omega
 obtain⟨q2,e2,r2⟩:=r.neg' this;refine⟨q2,?_,r2⟩;unfold gC;exact aA e<|aA e2 Y
theorem Q4{L K a b:Nat}{p:List Qr}{q:Qr}{f:Nat->Rat}{x:Rat}(hp:eK L p f)(hq:c5 K q x)(ha:a<p.length)(hb:b<p.length)(h:K+(2*L+1)<=4000000000):∃r,c8 p (a:Int) (b:Int) q=some (r,0)/\c5 (K+(2*L+1)) r (x*(f b-f a)):=by
 obtain⟨q1,e1,r1⟩:=hp.get ha;obtain⟨q2,e2,r2⟩:=hp.get hb;obtain⟨q3,e3,r3⟩:=r2.sub' r1 (by omega);obtain⟨q4,e4,r4⟩:=hq.mul' r3 (by omega);refine⟨q4,?_,r4.mono (by omega)⟩;unfold c8;refine fN ?_;exact aA (dF (by omega))<|aA (a:=false) (cS Y<|aA Y<|aA (dF (by omega)) Y)<|aA (a:=false) (cS Y<|aA (dF (by omega)) Y)<|aA (a:=false) (cS Y<|aA Y<|aA (dF (by omega)) Y)<|cS Y<|aA (bq e2)<|aA (bq e1)<|aA e3<|aA e4 Y
theorem AO{p:List Qr}{q:Qr}{a b:Int}(h:a<0\/p.length<=a\/b<0\/p.length<=b):c8 p a b q=some (qz,1):=by
 unfold c8;refine fN<|aA Y<|Ru (λ_=>aA Y<|aA Y Y)<|Ru (λ_=>aA Y Y)<|Ru (λ_=>aA Y<|aA Y Y)<|dZ ?_ Y;simp only[Bool.or_eq_true,decide_eq_true_eq];omega
end
section
open Go.Fw
def toF(pl:List Int)(k:Nat->Rat)(b i:Nat):Rat:=if pl.getD i 0=(b:Int)then k i else 0
theorem J7{L b:Nat}{pl:List Int}{v:List Qr}{k:Nat->Rat}(h:eK L v k)(hL:(min pl.length v.length+1)*(L+1)+1<=4000000000):
  ∃q,iS pl (b:Int) v=some q/\c5 (min pl.length v.length*(L+1)+1) q (eC (toF pl k b) (min pl.length v.length)):=by
 have hm1:min pl.length v.length<=pl.length:=Nat.min_le_left _ _;have Ol:min pl.length v.length<=v.length:=Nat.min_le_right _ _;unfold iS;rw[bw,bw,BW,bw];generalize min pl.length v.length=n at*;have hlen:n<=4000000000:=by
  have:n*1<=n*(L+1):=Nat.mul_le_mul_left _ (by omega);rw[Nat.add_mul]at hL;omega
 have hs:∃q,lH (n:Int) pl (b:Int) v=some q/\c5 (n*(L+1)+1) q (eC (toF pl k b) n):=by
  unfold lH;refine dB (λs=>∃(j:Nat) (q:Qr),s=((j:Int),q.num.neg,q.num.w,q.den.neg,q.den.w)/\j<=n/\c5 (j*(L+1)+1) q (eC (toF pl k b) j)) (λe=>∃q:Qr,e=(q.num.neg,q.num.w,q.den.neg,q.den.w)/\c5 (n*(L+1)+1) q (eC (toF pl k b) n)) (λs=>n-s.1.toNat) ?_ ⟨0,qz,Y,by omega,by rw[Nat.zero_mul];exact lT (by omega)⟩ ?_
  ·rintro _ ⟨j,q,rfl,hj,hq⟩;by_cases hlt:j<n
   ·have g:=iP (l:=pl) (d:=0) (show j<pl.length by omega);obtain⟨p,e1,r1⟩:=h.get (show j<v.length by omega);have hj2:j*(L+1)<=n*(L+1):=Nat.mul_le_mul_right _ (by omega);rw[Nat.add_mul]at hL;have hS:∃p',iE (j:Int) pl (b:Int) v=some p'/\c5 L p' (toF pl k b j):=by
     unfold iE toF;by_cases hb:pl.getD j 0=(b:Int)
     ·rw[if_pos hb];exact⟨p,aA (bq g)<|aA (dF (by omega))<|cS Y<|aA (bq e1) Y,r1⟩
     rw[if_neg hb];exact⟨qz,aA (bq g)<|aA (dT hb)<|dZ Y Y,lT h.l1⟩
    obtain⟨p',e2,r2⟩:=hS;obtain⟨q2,e3,r3⟩:=hq.add' r2 (by omega);refine .inl ⟨(((j+1:Nat):Int),q2.num.neg,q2.num.w,q2.den.neg,q2.den.w),?_,⟨j+1,q2,Y,hlt,r3.mono (by rw[Nat.add_mul];omega)⟩,by simp only[Int.toNat_natCast];omega⟩;exact aA (dT (by omega))<|dZ Y<|aA e2<|aA e3<|aA (congrArg some (bV (by omega))) Y
   obtain rfl:j=n:=by omega
   exact .inr ⟨_,aA (dF (by omega))<|cS Y Y,q,Y,hq⟩
  rintro _ ⟨q,rfl,hq⟩;exact⟨q,Y,hq⟩
 obtain⟨q,e,r⟩:=hs;exact⟨q,aA e Y,r⟩
def Vr(units bids:List Int)(n m:Nat)(k t:Nat->Rat)(b:Nat):Rat:=eC (toF units k b) n-eC (toF bids t b) m
theorem nin{L M:Nat}{n:Int}{units bids:List Int}{gen take:List Qr}{k t:Nat->Rat}(hk:eK L gen k)(ht:eK L take t)(hn:1<=n)(hL:(min units.length gen.length+1)*(L+1)+1<=M)(hL':(min bids.length take.length+1)*(L+1)+1<=M)(hM:2*M+1<=4000000000):
  ∃v,kV n units bids gen take=some v/\v.length=(min n 6).toNat/\eK (2*M+1) v (cut (min n 6).toNat (Vr units bids (min units.length gen.length) (min bids.length take.length) k t)):=by
 suffices H:∃v,kV n units bids gen take=some v/\v.length=(min n 6).toNat/\∀i q,v[i]? =some q->c5 (2*M+1) q (Vr units bids (min units.length gen.length) (min bids.length take.length) k t i) by
  obtain⟨v,k1,k2,k3⟩:=H;exact⟨v,k1,k2,eK.of k2 k3 (by omega)⟩
 unfold kV;obtain⟨N,hN⟩:∃N:Nat,min n 6=(N:Int):=⟨(min n 6).toNat,by omega⟩;have hN6:N<=6:=by omega
 rw[bw,show decide (n<1)=false from decide_eq_false (by omega),fu,bw,hN,Vq _ (by omega),bw,bw,List.length_replicate,Int.toNat_natCast];refine dB (λs=>∃(j:Nat) (v:List Qr),s=((j:Int),v)/\j<=N/\v.length=N/\(∀i q,i<j->v[i]? =some q->c5 (2*M+1) q (Vr units bids (min units.length gen.length) (min bids.length take.length) k t i)))
  (λv=>v.length=N/\(∀i q,v[i]? =some q->c5 (2*M+1) q (Vr units bids (min units.length gen.length) (min bids.length take.length) k t i))) (λs=>N-s.1.toNat) ?_ ⟨0,_,Y,by omega,by simp,λi q h=>by omega⟩ ?_
 ·rintro _ ⟨j,v,rfl,hj,hv,rv⟩;by_cases hlt:j<N
  ·obtain⟨q1,e1,r1⟩:=J7 (b:=j) (pl:=units) hk (by omega);obtain⟨q2,e2,r2⟩:=J7 (b:=j) (pl:=bids) ht (by omega);have a1:min units.length gen.length*(L+1)+1<=M:=by rw[Nat.add_mul]at hL;omega
   have a2:min bids.length take.length*(L+1)+1<=M:=by rw[Nat.add_mul]at hL';omega
   obtain⟨q3,e3,r3⟩:=(r1.mono a1).sub' (r2.mono a2) (by omega);refine .inl ⟨(((j+1:Nat):Int),v.set j q3),?_,⟨j+1,_,Y,hlt,by simp[hv],xF rv (r3.mono (by omega))⟩,by simp only[Int.toNat_natCast];omega⟩;exact aA (dT (by omega))<|dZ Y<|aA e1<|aA e2<|aA e3<|aA (fK (show j<v.length by omega))<|aA (jd (show j<v.length by omega))<|aA (congrArg some (bV (by omega))) Y
  refine .inr ⟨v,aA (dF (by omega))<|cS Y Y,hv,λi q hq=>rv i q ?_ hq⟩;have:i<v.length:=(List.getElem?_eq_some_iff.1 hq).1;omega
 rintro v h;exact⟨v,Y,h⟩
structure r7 (f:Nat->Rat) (n a b:Nat):Prop where
 la:a<n
 lb:b<n
 lo:∀i,i<n->f a<=f i
 Vs:∀i,i<a->f a<f i
 hi:∀i,i<n->f i<=f b
 Rt:∀i,i<b->f i<f b
theorem Oc{L:Nat}{p:List Qr}{f:Nat->Rat}(h:eK L p f)(hL:L+L<=4000000000)(hs:p.length<=1000):∃r,jI p=some r/\∃a b:Nat,r=((a:Int),(b:Int))/\((p.length=0/\a=0/\b=0)\/r7 f p.length a b):=by
 unfold jI;rw[bw];refine dB (λs=>∃(a b j:Nat),s=((a:Int),(b:Int),(j:Int))/\j<=p.length/\((j=0/\a=0/\b=0)\/r7 f j a b)) (λe=>∃a b:Nat,e=((a:Int),(b:Int))/\((p.length=0/\a=0/\b=0)\/r7 f p.length a b)) (λs=>p.length-s.2.2.toNat) ?_ ⟨0,0,0,Y,by omega,.inl ⟨Y,Y,Y⟩⟩ ?_
 ·rintro _ ⟨a,b,j,rfl,hj,hI⟩;by_cases hlt:j<p.length
  ·have ha:a<p.length:=by rcases hI with⟨_,rfl,_⟩|q;omega;have:=q.la;omega
   have hb:b<p.length:=by rcases hI with⟨_,_,rfl⟩|q;omega;have:=q.lb;omega
   obtain⟨q1,e1,r1⟩:=h.get hlt;obtain⟨q2,e2,r2⟩:=h.get ha;obtain⟨q3,e3,r3⟩:=h.get hb;have c1:=r1.cmp r2 hL;have c2:=r1.cmp r3 hL;refine .inl ⟨(((if f j<f a then j else a:Nat):Int),((if f b<f j then j else b:Nat):Int),((j+1:Nat):Int)),?_,⟨_,_,j+1,Y,hlt,.inr ?_⟩,by simp only[Int.toNat_natCast];omega⟩
   ·refine aA (dT (by omega))<|dZ Y<|aA (bq e1)<|aA (bq e2)<|aA c1<|aA Y<|fN ?_;by_cases d1:f j<f a<;>by_cases d2:f b<f j
    ·rw[if_pos d1,if_pos d2];exact dZ (decide_eq_true (lQ.2 d1))<|aA (bq e3)<|aA c2<|aA Y<|fN<|dZ (decide_eq_true (lS.2 d2))<|aA (congrArg some (bV (by omega))) Y
    ·rw[if_pos d1,if_neg d2];exact dZ (decide_eq_true (lQ.2 d1))<|aA (bq e3)<|aA c2<|aA Y<|fN<|cS (decide_eq_false (λq=>d2 (lS.1 q)))<|aA (congrArg some (bV (by omega))) Y
    ·rw[if_neg d1,if_pos d2];exact cS (decide_eq_false (λq=>d1 (lQ.1 q)))<|aA (bq e3)<|aA c2<|aA Y<|fN<|dZ (decide_eq_true (lS.2 d2))<|aA (congrArg some (bV (by omega))) Y
    rw[if_neg d1,if_neg d2];exact cS (decide_eq_false (λq=>d1 (lQ.1 q)))<|aA (bq e3)<|aA c2<|aA Y<|fN<|cS (decide_eq_false (λq=>d2 (lS.1 q)))<|aA (congrArg some (bV (by omega))) Y
   have hlo:∀i,i<j->f a<=f i:=λi hi=>by rcases hI with⟨rfl,_⟩|q;omega;exact q.lo i hi
   have hhi:∀i,i<j->f i<=f b:=λi hi=>by rcases hI with⟨rfl,_⟩|q;omega;exact q.hi i hi
   have Q5:∀i,i<a->f a<f i:=λi hi=>by rcases hI with⟨_,rfl,_⟩|q;omega;exact q.Vs i hi
   have Q6:∀i,i<b->f i<f b:=λi hi=>by rcases hI with⟨_,_,rfl⟩|q;omega;exact q.Rt i hi
   have haj:a<=j:=by rcases hI with⟨rfl,rfl,_⟩|q;omega;have:=q.la;omega
   have Mo:b<=j:=by rcases hI with⟨rfl,_,rfl⟩|q;omega;have:=q.lb;omega
   refine⟨by split<;>omega,by split<;>omega,λi hi=>?_,λi hi=>?_,λi hi=>?_,λi hi=>?_⟩
   ·rcases Nat.lt_or_ge i j with d|d
    ·have:=hlo i d;split<;>grind
    obtain rfl:i=j:=by omega
    split<;>grind
   ·split at hi
    ·rename_i d;rw[if_pos d];have:=hlo i hi;grind
    rename_i d;rw[if_neg d];exact Q5 i hi
   ·rcases Nat.lt_or_ge i j with d|d
    ·have:=hhi i d;split<;>grind
    obtain rfl:i=j:=by omega
    split<;>grind
   split at hi
   ·rename_i d;rw[if_pos d];have:=hhi i hi;grind
   rename_i d;rw[if_neg d];exact Q6 i hi
  obtain rfl:j=p.length:=by omega
  exact .inr ⟨_,aA (dF (by omega))<|cS Y Y,a,b,Y,hI⟩
 rintro _ ⟨a,b,rfl,hI⟩;exact⟨_,Y,a,b,Y,hI⟩
theorem r7.uniq{f:Nat->Rat}{n a b c d:Nat}(h:r7 f n a b)(k:r7 f n c d):a=c/\b=d:=by
 have h1:=h.lo c k.la;have h2:=k.lo a h.la;have h3:=h.hi d k.lb;have h4:=k.hi b h.lb;constructor
 ·rcases Nat.lt_trichotomy a c with q|q|q
  ·have:=k.Vs a q;grind
  ·exact q
  have:=h.Vs c q;grind
 rcases Nat.lt_trichotomy b d with q|q|q
 ·have:=k.Rt b q;grind
 ·exact q
 have:=h.Rt d q;grind
theorem Mf{L:Nat}{q:Qr}{x:Rat}{n:Int}(h:c5 L q x)(hn:di n)(e:x=(n:Rat))(hL:L+2<=4000000000):iH q n=some true:=by
 obtain⟨p,e1,r1⟩:=int' hn;unfold iH;exact aA e1<|aA (h.eqT r1 e hL) Y
theorem F2{L:Nat}{v:List Qr}{f:Nat->Rat}{l:List Int}(h:eK L v f)(hl:v.length=l.length)(hi:∀x∈l,di x)(e:∀i,i<l.length->f i=((l.getD i 0:Int):Rat))(hL:L+2<=4000000000)(hs:l.length<=1000):gE v l=some true:=by
 unfold gE;refine aA Y<|aA Y<|aA (dF (by omega))<|cS Y ?_;refine cc (λj=>(j:Int)) l.length (.inl ()) Y (λj hj=>?_) ?_ Y
 ·obtain⟨q,hq,rq⟩:=h.get (show j<v.length by omega);have g:=iP (l:=l) (d:=0) hj;have hm:l.getD j 0∈l:=by rw[List.getD_eq_getElem?_getD,List.getElem?_eq_getElem hj];exact List.getElem_mem hj
  exact aA Y<|aA (dT (by omega))<|dZ Y<|aA (bq hq)<|aA (bq g)<|aA (Mf rq (hi _ hm) (e j hj) hL)<|aA Y<|cS Y<|aA (congrArg some (bV (by omega))) Y
 exact aA Y<|aA (dF (by omega))<|cS Y Y
end
section
open Go.Fw
theorem Od{L:Nat}{v:List Qr}{f:Nat->Rat}(h:eK L v f):Md L [v] (λ_=>f):=λl u e=>by
 match l with
 |0=>simp at e;subst e;exact h
 |l+1=>simp at e
theorem mO{P:Nat->Prop}(h0:P 0)(h1:P 1):∀i,i<2->P i:=λi hi=>by
 match i with
 |0=>exact h0
 |1=>exact h1
 |i+2=>omega
theorem J8{P:Nat->Prop}(h0:P 0):∀i,i<1->P i:=λi hi=>by
 match i with
 |0=>exact h0
 |i+1=>omega
theorem Mg:fU=some true:=by
 obtain⟨v1,e1,r1,l1⟩:=zu (l:=[20]) (by decide) (by decide);obtain⟨v2,e2,r2,l2⟩:=zu (l:=[0,-1]) (by decide) (by decide);obtain⟨v3,e3,r3,l3⟩:=zu (l:=[5]) (by decide) (by decide);obtain⟨v4,e4,r4,l4⟩:=zu (l:=[8,-8]) (by decide) (by decide);obtain⟨v5,e5,r5,l5⟩:=zu (l:=[8]) (by decide) (by decide);obtain⟨q8,g8,t8⟩:=int' (n:=8) (by decide);have hm:min [v2].length v3.length=1:=by rw[l3];rfl
 obtain⟨lv,jm,f1,n1,n2,s1,s2⟩:=J6 (M:=100) (isl:=[0,0]) r1 r3 (Od r2) (by decide) (by rw[hm];decide) (by decide);obtain⟨pr,f2,n3,s3⟩:=Me (M:=100) (isl:=[0,0]) r1 r3 (Od r2) (by decide) (by rw[hm];decide) (by decide);rw[hm]at s2 s3;have n3':pr.length=2:=n3;obtain⟨t,f3,s4⟩:=Q4 (a:=0) (b:=1) s3 t8 (by omega) (by omega) (by decide);have f4:=AO (p:=pr) (q:=q8) (a:=0) (b:=2) (by omega);obtain⟨_,f5,a,b,rfl,hab⟩:=Oc s3 (by decide) (by omega);have hE:r7 (cut [(0:Int),0].length (Us [0,0] 1 (λi=>(([20]:List Int).getD i 0:Rat)) (λi=>(([5]:List Int).getD i 0:Rat)) (λ_ i=>(([0,-1]:List Int).getD i 0:Rat)))) pr.length 0 1:=by
  rw[n3'];exact⟨by decide,by decide,mO (by decide+kernel) (by decide+kernel),λi hi=>by omega,mO (by decide+kernel) (by decide+kernel),J8 (by decide+kernel)⟩
 obtain⟨rfl,rfl⟩:a=0/\b=1:=by
  rcases hab with h|h
  ·omega
  exact h.uniq hE
 have w1:=F2 (l:=[20,20]) s1 n1 (by decide) (mO (by decide+kernel) (by decide+kernel)) (by decide) (by decide);have w2:=F2 (l:=[0,5]) s2 n2 (by decide) (mO (by decide+kernel) (by decide+kernel)) (by decide) (by decide);have w3:=F2 (l:=[20,25]) s3 n3 (by decide) (mO (by decide+kernel) (by decide+kernel)) (by decide) (by decide);have Ol:min pr.length v4.length=2:=by rw[n3',l4];rfl
 obtain⟨q1,f6,s6⟩:=Uu s3 r4 (by rw[Ol];decide);rw[Ol]at s6;have w4:=Mf (n:=40) s6 (by decide) (by decide+kernel) (by decide);have hm3:min v3.length v5.length=1:=by rw[l3,l5];rfl
 obtain⟨q2,f7,s7⟩:=aay r3 r5 (by rw[hm3];decide);rw[hm3]at s7;have w5:=Mf (n:=40) s7 (by decide) (by decide+kernel) (by decide);have w6:=Mf (n:=40) s4 (by decide) (by decide+kernel) (by decide);have hm4:min [(0:Int)].length v5.length=1:=by rw[l5];rfl
 have hm5:min [(1:Int)].length v5.length=1:=by rw[l5];rfl
 obtain⟨u,f8,n8,s8⟩:=nin (M:=100) (n:=2) (units:=[0]) (bids:=[1]) r5 r5 (by decide) (by rw[hm4];decide) (by rw[hm5];decide) (by decide);rw[hm4,hm5]at s8;have w7:=F2 (l:=[8,-8]) s8 n8 (by decide) (mO (by decide+kernel) (by decide+kernel)) (by decide) (by decide);unfold fU;refine aA e1<|aA e2<|aA e3<|aA f1<|aA f2<|aA g8<|aA f3<|aA g8<|aA f4<|aA f5<|fN ?_;refine aA w1<|rM (aA w2 Y)<|rM (aA w3 Y)<|rM (aA e4<|aA f6<|aA w4 Y)<|rM (aA e5<|aA f7<|aA w5 Y)<|rM (aA (dT Y) Y)<|rM (aA w6 Y) ?_;exact rM (aA (dT Y) Y)<|rM (aA (dT Y) Y)<|rM (aA (dT Y) Y)<|rM (aA e5<|aA e5<|aA f8<|aA w7 Y) Y
theorem Uv:(fU.bind λx=>some x)=some true:=aA Mg Y
section aaz
variable {K L M:Nat}{a b:List Qr}{f g:Nat->Rat}{c:Qr}{k:Rat}
end aaz
end
section
open Go.Fw
section ops
variable {K L M:Nat}{p a b:List Qr}{q:Qr}{f g:Nat->Rat}{x:Rat}
theorem Mh{i j:Nat}(hp:eK L p f)(hq:c5 K q x)(ha:i<p.length)(hb:j<p.length)(h:K+(2*L+1)<=4000000000):c8 p (i:Int) (j:Int) q=some (qn (x*(f j-f i)),0)/\eV p (i:Int) (j:Int) q=some (qn (x*(f j-f i)),0)/\c5 (K+(2*L+1)) (qn (x*(f j-f i))) (x*(f j-f i)):=by
 obtain⟨q1,e1,r1⟩:=hp.get ha;obtain⟨q2,e2,r2⟩:=hp.get hb;obtain⟨e3,r3⟩:=r2.sub r1 (by omega);obtain⟨e4,r4⟩:=hq.mul r3 (by omega);have e5:=r2.Uj r1 (by omega);have e6:=hq.Uk r3 (by omega);refine⟨?_,?_,r4.mono (by omega)⟩
 ·clear r3 r4;generalize qn (f j-f i)=q3 at e3 e4;generalize qn (x*(f j-f i))=q4 at e4;unfold c8;refine fN ?_;exact aA (dF (by omega))<|aA (a:=false) (cS Y<|aA Y<|aA (dF (by omega)) Y)<|aA (a:=false) (cS Y<|aA (dF (by omega)) Y)<|aA (a:=false) (cS Y<|aA Y<|aA (dF (by omega)) Y)<|cS Y<|aA (bq e2)<|aA (bq e1)<|aA e3<|aA e4 Y
 clear r3 r4;generalize qn (f j-f i)=q3 at e5 e6;generalize qn (x*(f j-f i))=q4 at e6;unfold eV;refine fN ?_;exact aA (dF (by omega))<|aA (a:=false) (cS Y<|aA Y<|aA (dF (by omega)) Y)<|aA (a:=false) (cS Y<|aA (dF (by omega)) Y)<|aA (a:=false) (cS Y<|aA Y<|aA (dF (by omega)) Y)<|cS Y<|aA (bq e2)<|aA (bq e1)<|aA e5<|aA e6 Y
theorem G4{i j:Int}(h:i<0\/p.length<=i\/j<0\/p.length<=j):eV p i j q=some (qz,1):=by
 unfold eV;refine fN<|aA Y<|Ru (λ_=>aA Y<|aA Y Y)<|Ru (λ_=>aA Y Y)<|Ru (λ_=>aA Y<|aA Y Y)<|dZ ?_ Y;simp only[Bool.or_eq_true,decide_eq_true_eq];omega
theorem Uw(h:eK L p f)(hL:L+L<=4000000000)(hs:p.length<=1000):∃r,kx p=some r/\∃a b:Nat,r=((a:Int),(b:Int))/\((p.length=0/\a=0/\b=0)\/r7 f p.length a b):=by
 unfold kx;refine dB (λs=>∃(a b j:Nat),s=((a:Int),(b:Int),(j:Int))/\j<=p.length/\((j=0/\a=0/\b=0)\/r7 f j a b)) (λe=>∃a b:Nat,e=((a:Int),(b:Int))/\((p.length=0/\a=0/\b=0)\/r7 f p.length a b)) (λs=>p.length-s.2.2.toNat) ?_ ⟨0,0,0,Y,by omega,.inl ⟨Y,Y,Y⟩⟩ ?_
 ·rintro _ ⟨a,b,j,rfl,hj,hI⟩;by_cases hlt:j<p.length
  ·have ha:a<p.length:=by rcases hI with⟨_,rfl,_⟩|q;omega;have:=q.la;omega
   have hb:b<p.length:=by rcases hI with⟨_,_,rfl⟩|q;omega;have:=q.lb;omega
   obtain⟨q1,e1,r1⟩:=h.get hlt;obtain⟨q2,e2,r2⟩:=h.get ha;obtain⟨q3,e3,r3⟩:=h.get hb;have c1:=r1.Um r2 hL;have c2:=r1.Um r3 hL;refine .inl ⟨(((if f j<f a then j else a:Nat):Int),((if f b<f j then j else b:Nat):Int),((j+1:Nat):Int)),?_,⟨_,_,j+1,Y,hlt,.inr ?_⟩,by simp only[Int.toNat_natCast];omega⟩
   ·refine aA Y<|aA (dT (by omega))<|dZ Y<|aA (bq e1)<|aA (bq e2)<|aA c1<|aA Y<|fN ?_;by_cases d1:f j<f a<;>by_cases d2:f b<f j
    ·rw[if_pos d1,if_pos d2];exact dZ (decide_eq_true (lQ.2 d1))<|aA (bq e1)<|aA (bq e3)<|aA c2<|aA Y<|fN<|dZ (decide_eq_true (lS.2 d2))<|aA (congrArg some (bV (by omega))) Y
    ·rw[if_pos d1,if_neg d2];exact dZ (decide_eq_true (lQ.2 d1))<|aA (bq e1)<|aA (bq e3)<|aA c2<|aA Y<|fN<|cS (decide_eq_false (λq=>d2 (lS.1 q)))<|aA (congrArg some (bV (by omega))) Y
    ·rw[if_neg d1,if_pos d2];exact cS (decide_eq_false (λq=>d1 (lQ.1 q)))<|aA (bq e1)<|aA (bq e3)<|aA c2<|aA Y<|fN<|dZ (decide_eq_true (lS.2 d2))<|aA (congrArg some (bV (by omega))) Y
    rw[if_neg d1,if_neg d2];exact cS (decide_eq_false (λq=>d1 (lQ.1 q)))<|aA (bq e1)<|aA (bq e3)<|aA c2<|aA Y<|fN<|cS (decide_eq_false (λq=>d2 (lS.1 q)))<|aA (congrArg some (bV (by omega))) Y
   have hlo:∀i,i<j->f a<=f i:=λi hi=>by rcases hI with⟨rfl,_⟩|q;omega;exact q.lo i hi
   have hhi:∀i,i<j->f i<=f b:=λi hi=>by rcases hI with⟨rfl,_⟩|q;omega;exact q.hi i hi
   have Q5:∀i,i<a->f a<f i:=λi hi=>by rcases hI with⟨_,rfl,_⟩|q;omega;exact q.Vs i hi
   have Q6:∀i,i<b->f i<f b:=λi hi=>by rcases hI with⟨_,_,rfl⟩|q;omega;exact q.Rt i hi
   have haj:a<=j:=by rcases hI with⟨rfl,rfl,_⟩|q;omega;have:=q.la;omega
   have Mo:b<=j:=by rcases hI with⟨rfl,_,rfl⟩|q;omega;have:=q.lb;omega
   refine⟨by split<;>omega,by split<;>omega,λi hi=>?_,λi hi=>?_,λi hi=>?_,λi hi=>?_⟩
   ·rcases Nat.lt_or_ge i j with d|d
    ·have:=hlo i d;split<;>grind
    obtain rfl:i=j:=by omega
    split<;>grind
   ·split at hi
    ·rename_i d;rw[if_pos d];have:=hlo i hi;grind
    rename_i d;rw[if_neg d];exact Q5 i hi
   ·rcases Nat.lt_or_ge i j with d|d
    ·have:=hhi i d;split<;>grind
    obtain rfl:i=j:=by omega
    split<;>grind
   split at hi
   ·rename_i d;rw[if_pos d];have:=hhi i hi;grind
   rename_i d;rw[if_neg d];exact Q6 i hi
  obtain rfl:j=p.length:=by omega
  exact .inr ⟨_,aA Y<|aA (dF (by omega))<|cS Y Y,a,b,Y,hI⟩
 rintro _ ⟨a,b,rfl,hI⟩;exact⟨_,Y,a,b,Y,hI⟩
theorem Q7(ha:eK L a f)(hb:eK M b g)(h:(a.length+2)*(L+M+1)<=4000000000)(la:a.length<=1000000):jS a b=some (qn (eC (λi=>f i*g i) (min a.length b.length))):=by
 have hs:∀n,FQ (n*(L+M+1)+1) (eC (λi=>f i*g i) n):=λn=>BV (λi _=>(ha.fq i).mul (hb.fq i));rw[<-J2 (h:=λi=>f i*g i) (n:=min a.length b.length) (m:=a.length) (by omega) (λi h1 h2=>by show f i*g i=0;rw[hb.z i (by omega)];grind)];have hm:∀n:Nat,n<=a.length->n*(L+M+1)<=a.length*(L+M+1):=λn hn=>Nat.mul_le_mul_right _ hn;rw[Nat.add_mul]at h;unfold jS;refine cc (λj=>((j:Int),(qn (eC (λi=>f i*g i) j)).num.neg,(qn (eC (λi=>f i*g i) j)).num.w,(qn (eC (λi=>f i*g i) j)).den.neg,(qn (eC (λi=>f i*g i) j)).den.w)) a.length
  ((qn (eC (λi=>f i*g i) a.length)).num.neg,(qn (eC (λi=>f i*g i) a.length)).num.w,(qn (eC (λi=>f i*g i) a.length)).den.neg,(qn (eC (λi=>f i*g i) a.length)).den.w) Y (λj hj=>?_) ?_ Y
 ·have hmj:=hm j (by omega);obtain⟨q1,QS,rq1⟩:=ha.get hj;have a2:=Un b j;have e1:=rq1.Uk (hb.at j) (by omega);have e3:=((hs j).rep (by omega)).Ui (rq1.mul (hb.at j) (by omega)).2 (by omega);simp only[eC];generalize hq0:qn (eC (λi=>f i*g i) j)=q0 at e3⊢;generalize hq3:qn (eC (λi=>f i*g i) j+f j*g j)=q3 at e3⊢;generalize L1 b j=q2 at e1 a2;generalize qn (f j*g j)=q4 at e1 e3;obtain⟨⟨_,_⟩,⟨_,_⟩⟩:=q0;obtain⟨⟨_,_⟩,⟨_,_⟩⟩:=q1;obtain⟨⟨_,_⟩,⟨_,_⟩⟩:=q2;obtain⟨⟨_,_⟩,⟨_,_⟩⟩:=q3;obtain⟨⟨_,_⟩,⟨_,_⟩⟩:=q4;refine aA Y<|aA (dT (by omega))<|dZ Y<|aA (bq QS)<|aA a2<|aA e1<|aA e3<|aA (congrArg some (bV (by omega))) Y
 exact aA Y<|aA (dF (by omega))<|cS Y Y
end ops
theorem G5(p w:List Qr)(i j:Int)(q:Qr)(op:OkV p)(ow:OkV w)(_oi:di i)(_oj:di j)(oq:Vo q)(hs:Vp p+Vp w+1+1+Oa q<=1048576):eI p w i j q=some true:=by
 obtain⟨t,ht,hl⟩:=Q1 [p,w,[q]] (by simp);have rp:=Ob op (by omega);have Vt:=Ob ow (by omega);have rq:=Uo oq (by omega);generalize G3 p=f at rp;generalize G3 w=g at Vt;generalize qv q=x at rq;unfold eI;refine aA ht ?_;cases t
 case true=>exact dZ Y Uv
 have lp:=hl Y p (by simp);have lw:=hl Y w (by simp);obtain⟨t1,t2,et1,et2,tr⟩:∃(y:Rat) (e:Int),c8 p i j q=some (qn y,e)/\eV p i j q=some (qn y,e)/\c5 3145729 (qn y) y:=by
  by_cases hb:i<0\/p.length<=i\/j<0\/p.length<=j
  ·exact⟨0,1,AO hb,G4 hb,lT (by decide)⟩
  obtain⟨a,rfl⟩:∃a:Nat,i=(a:Int):=⟨i.toNat,by omega⟩;obtain⟨b,rfl⟩:∃b:Nat,j=(b:Int):=⟨j.toNat,by omega⟩;obtain⟨h1,h2,h3⟩:=Mh (i:=a) (j:=b) rp rq (by omega) (by omega) (by decide);exact⟨_,_,h1,h2,h3⟩
 obtain⟨r1,ee1,a,b,rfl,h1⟩:=Oc rp (by decide) (by omega);obtain⟨r2,ee2,c,d,rfl,h2⟩:=Uw rp (by decide) (by omega);obtain⟨hac,hbd⟩:a=c/\b=d:=by
  rcases h1 with⟨h0,rfl,rfl⟩|h1
  ·rcases h2 with⟨_,rfl,rfl⟩|h2
   ·exact⟨Y,Y⟩
   have:=h2.la;omega
  rcases h2 with⟨h0,_,_⟩|h2
  ·have:=h1.la;omega
  exact h1.uniq h2
 subst hac;subst hbd;have hd:(min p.length w.length+2)*(1048576+1048576+1)<=4000000000:=Nat.le_trans (Nat.mul_le_mul_right _ (show min p.length w.length+2<=42 by omega)) (by decide);obtain⟨ed,rd⟩:=Ud rp Vt hd;have rd:=rd.mono (show _<=100000000 from Nat.le_trans (Nat.add_le_add_right (Nat.mul_le_mul_right _ (show min p.length w.length<=40 by omega)) 1) (by decide));have erd:=Q7 rp Vt (Nat.le_trans (Nat.mul_le_mul_right _ (show p.length+2<=42 by omega)) (by decide)) (by omega);obtain⟨en,rn⟩:=rd.neg (by decide);have ern:=rd.Uh (by decide);have s1:=tr.ris (by decide) t1;have s2:=rn.ris (by decide) (-eC (λi=>f i*g i) (min p.length w.length));have s3:=rd.ris (by decide) (eC (λi=>f i*g i) (min p.length w.length));rw[decide_eq_true rfl]at s1 s2 s3;have er1:gC p w=some (qn (-eC (λi=>f i*g i) (min p.length w.length))):=by
  unfold gC;exact aA ed<|aA en Y
 have er2:ku p w=some (qn (-eC (λi=>f i*g i) (min p.length w.length))):=by
  unfold ku;exact aA erd<|aA ern Y
 have er3:iF p w=some (qn (eC (λi=>f i*g i) (min p.length w.length))):=by
  unfold iF;exact aA ed Y
 clear tr rn rd ed en ern h1 h2 rp Vt rq;generalize qn t1=z1 at*;generalize qn (-eC (λi=>f i*g i) (min p.length w.length))=z2 at*;generalize qn (eC (λi=>f i*g i) (min p.length w.length))=z3 at*;refine cS Y<|aA et1<|aA et2<|aA ee1<|aA ee2<|fN<|aA (dT Y) ?_;exact rM (aA s1 Y)<|rM (aA (dT Y) Y)<|rM (aA (dT Y) Y)<|rM (aA er1<|aA er2<|aA s2 Y)<|rM (aA er3<|aA erd<|aA s3 Y)<|rM Uv Y
end
section
open Go.Fw Go.RowKit Go.ChangeShapes Go.WideShapes Go.ChangeAt
set_option linter.unusedVariables false
set_option maxRecDepth 100000 in
theorem mI(H:Type)(enc:TypeId×Value->H)(W:World)(base:Nat)(args:Array Value)(ds gs:List (DataW H))(before:List MemPlace)
  (hval:∀(j:Nat) t v,Tryz.f3.params[j]? =some t->args[j]? =some v->Value.okWide ah W .any base t v)
  (hW:DataW.Whole enc ah Tryz.f3.params.toList Rows.nodeRentsMatchSpec.vars false W args.toList ds gs before) (hk:Rows.uptoSmall H (ds++gs)=true):
  Calls ah 3 args W λe W'=>∃v,e=.returned v/\Rows.nodeRentsMatchSpec.post enc ah Tryz.f3 false true false false W args v W':=by
 have hW':=hW;obtain⟨p,q,T6,hV,rfl,hfz,hnd⟩:=hW;have hA:DataW.TrodAll enc ah W 0 (λ_=>true) true Tryz.f3.params.toList args.toList ds p:=T6;rw[Tryz.params3]at hA hval;obtain⟨v0,Kt,d0,ds0,p0,q0,hargs,rfl,rfl,h0,r0⟩:=trodAll_cons hA;obtain⟨v1,vs1,d1,ds1,p1,q1,rfl,rfl,rfl,h1,r1⟩:=trodAll_cons r0;obtain⟨v2,vs2,d2,ds2,p2,q2,rfl,rfl,rfl,h2,r2⟩:=trodAll_cons r1;obtain⟨v3,vs3,d3,ds3,p3,q3,rfl,rfl,rfl,h3,r3⟩:=trodAll_cons r2;obtain⟨v4,vs4,d4,ds4,p4,q4,rfl,rfl,rfl,h4,r4⟩:=trodAll_cons r3;obtain⟨rfl,rfl,rfl⟩:=trodAll_nil r4;obtain rfl:args=#[v0,v1,v2,v3,v4]:=by cases args;simp_all
 obtain⟨rfl,rfl⟩:=trodVars_none hV;have lt0:∀x∈p0,x.block<W.heap.size:=by obtain⟨m,hm⟩:=h0;exact DataW.trod_lt m _ _ _ hm
 obtain⟨x0,ok0,sz0,al0⟩:=xp (P:=ah) (T:=22) (e:=(eS 4 eQ)) (hval 0 22 v0 Y Y) h0;have lt1:∀x∈p1,x.block<W.heap.size:=by obtain⟨m,hm⟩:=h1;exact DataW.trod_lt m _ _ _ hm
 obtain⟨x1,ok1,sz1,al1⟩:=xp (P:=ah) (T:=22) (e:=(eS 4 eQ)) (hval 1 22 v1 Y Y) h1;have lt2:∀x∈p2,x.block<W.heap.size:=by obtain⟨m,hm⟩:=h2;exact DataW.trod_lt m _ _ _ hm
 obtain⟨x2,ok2,sz2,al2⟩:=xp (P:=ah) (T:=3) (e:=bB) (hval 2 3 v2 Y Y) h2;have lt3:∀x∈p3,x.block<W.heap.size:=by obtain⟨m,hm⟩:=h3;exact DataW.trod_lt m _ _ _ hm
 obtain⟨x3,ok3,sz3,al3⟩:=xp (P:=ah) (T:=3) (e:=bB) (hval 3 3 v3 Y Y) h3;have lt4:∀x∈p4,x.block<W.heap.size:=by obtain⟨m,hm⟩:=h4;exact DataW.trod_lt m _ _ _ hm
 obtain⟨x4,ok4,sz4,al4⟩:=KN (P:=ah) (T:=27) (e:=eQ) (hval 4 27 v4 Y Y) h4;have hsz:Rows.uptoBulk d0+Rows.uptoBulk d1+Rows.uptoBulk d2+Rows.uptoBulk d3+Rows.uptoBulk d4<=1048576:=by
  have:=of_decide_eq_true hk;simp only[List.cons_append,List.nil_append,List.append_nil,Rows.uptoBulkAll]at this;omega
 clear T6;refine(KO (oA (G5 x0 x1 x2 x3 x4 ok0 ok1 ok2 ok3 ok4 (Nat.le_trans (Nat.add_le_add (Nat.add_le_add (Nat.add_le_add (Nat.add_le_add sz0 sz1) sz2) sz3) sz4) hsz))) (W:=W) (vs:=[v0,v1,v2,v3,v4]) ⟨al0.1,al1.1,al2.1,al3.1,al4,aq⟩).mono λe W' ⟨he,Rv⟩=>?_;subst he;exact⟨_,rfl,_,_,_,[],_,[],hW',trodAll_mk1 (shut_bool Tryz.underlying4 _),(trodAll_cons_mk (Below.trod qi (by kernel_rfl) (of_decide_eq_true (by kernel_rfl)) h0 Rv lt0) (trodAll_cons_mk (Below.trod qi (by kernel_rfl) (of_decide_eq_true (by kernel_rfl)) h1 Rv lt1) (trodAll_cons_mk (Below.trod qi (by kernel_rfl) (of_decide_eq_true (by kernel_rfl)) h2 Rv lt2) (trodAll_cons_mk (Below.trod qi (by kernel_rfl) (of_decide_eq_true (by kernel_rfl)) h3 Rv lt3) (trodAll_cons_mk (Below.trod qi (by kernel_rfl) (of_decide_eq_true (by kernel_rfl)) h4 Rv lt4) trodAll_mk0))))),rfl,Rv.frame _,λh=>by cases h⟩
set_option maxRecDepth 100000 in
theorem nB(os:Os)(started:os.Started)(H:Type)(enc:TypeId×Value->H)(F:Stop.Interp):
  ReturnsInHanded {} Tryz.checked os 3 .any ((Rows.OpenSpec.upto Rows.nodeRentsMatchSpec).pre6 enc ah Tryz.f3 Rows.nodeRentsMatchUptoRow.domain false) (((Rows.OpenSpec.upto Rows.nodeRentsMatchSpec).at F).post enc ah Tryz.f3 false true false false):=by
 refine returnsInHanded_of_cond (C:=Tryz.checked) (s:=Rows.OpenSpec.upto Rows.nodeRentsMatchSpec) (k:=Rows.uptoSmall) Y Wm started (by kernel_rfl) Tryz.func3
  (OpenSpec.witness (enc:=enc) (C:=Tryz.checked) (s:=Rows.OpenSpec.upto Rows.nodeRentsMatchSpec) (k:=Rows.uptoSmall) Y false ⟨#[],#[.slice none 0 0,.slice none 0 0,.int .i64 0,.int .i64 0,.agg #[.bool false,.slice none 0 0,.bool false,.slice none 0 0]],[]⟩ 8 (by kernel_rfl) (by kernel_rfl) (by kernel_rfl)
   (x:=([.nil,.nil,.lit (.int .i64 0),.lit (.int .i64 0),.agg [.agg [.lit (.bool false),.nil],.agg [.lit (.bool false),.nil]]],[],[])) (by kernel_rfl) Y (by kernel_rfl)) ?_
 intro W base args ds gs before hval hW _ hk _;exact mI H enc W base args ds gs before hval hW hk
theorem nodeRentsMatchUpto_holds:Rows.NodeRentsMatchUptoSaid:=
 OpenClaim.holds_of_cond 3 Tryz.f3 Y Y Y Y Y Y Y ⟨Y,Y,Y,Y,Y⟩ Y Y Y Y Y (by kernel_rfl) Tryz.func3 (by kernel_rfl)
  (of_decide_eq_true (by kernel_rfl)) (by unfold Func.isWrapper;first|(rw[if_pos (by decide+kernel)];kernel_rfl)|(rw[if_neg (by decide+kernel)];exact⟨Y,Y⟩))
  (λos started H enc _ F=>nB os started H enc F)
end
end Go.Proofs.YtdpjpoekcgigkaaGreat
