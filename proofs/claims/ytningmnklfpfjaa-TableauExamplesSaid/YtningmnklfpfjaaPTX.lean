/- The law TableauExamples answers true for every input. -/
import Derived.Test.YtningmnklfpfjaaPTX4
set_option linter.unusedVariables false
set_option linter.unusedSimpArgs false
namespace Go.Proofs.Ytningmnklfpfjaa
open Go.Fw
theorem Fit.div{L:Nat}{i:Int}(h:Fit L i)(j:Int):Fit L (i/j):=h.le (Int.natAbs_ediv_le_natAbs i j)
theorem Fit.gcd{L:Nat}{i j:Int}(h:Fit L i)(h':Fit L j):Fit L (Int.gcd i j:Int):=by
 by_cases h0:i=0
 ·subst h0;rw[Int.gcd_zero_left];exact h'.le (by simp)
 ·have:Int.gcd i j∣i.natAbs:=Nat.gcd_dvd_left _ _
  exact h.le (by have:=Nat.le_of_dvd (by omega) this;simpa using this)
end Go.Proofs.Ytningmnklfpfjaa
namespace Go.Proofs.Ytningmnklfpfjaa
open Go.Fw
def qd(q:Qr):Int:=if zi q.den=0 then 1 else zi q.den
def qv(q:Qr):Rat:=Rat.divInt (zi q.num) (qd q)
def qn(r:Rat):Qr:=⟨zn r.num,if r.den=1 then⟨false,[]⟩else zn (r.den:Int)⟩
def FQ(L:Nat)(r:Rat):Prop:=Fit L r.num∧Fit L (r.den:Int)
structure kE (L:Nat) (q:Qr) (r:Rat):Prop where
 n:∀x∈q.num.w,x<4294967296
 d:∀x∈q.den.w,x<4294967296
 ln:q.num.w.length≤L
 ld:q.den.w.length≤L
 l1:1≤L
 v:qv q=r
theorem VH(q:Qr):qd q≠0:=by
 unfold qd
 by_cases h:zi q.den=0
 ·rw[if_pos h];decide
 ·rw[if_neg h];exact h
theorem VI(r:Rat):qv (qn r)=r:=by
 unfold qv qd qn
 by_cases h:r.den=1
 ·rw[if_pos h]
  show Rat.divInt (zi (zn r.num)) (if zi ⟨false,[]⟩=0 then 1 else zi ⟨false,[]⟩)=r
  rw[if_pos (show zi ⟨false,[]⟩=0 from rfl),eM]
  have:=Rat.num_divInt_den r
  rw[h]at this;exact this
 ·rw[if_neg h]
  show Rat.divInt (zi (zn r.num)) (if zi (zn (r.den:Int))=0 then 1 else zi (zn (r.den:Int)))=r
  have:=r.den_nz
  rw[eM,eM,if_neg (by omega),Rat.num_divInt_den]
theorem GG{w:List Nat}{n:Bool}{L:Nat}(h:∀x∈w,x<4294967296)(hl:w.length≤L):Fit L (zi ⟨n,w⟩):=by
 unfold Fit
 rw[CM]
 exact Nat.lt_of_lt_of_le (iw w h) (Nat.pow_le_pow_right (by decide) hl)
theorem xU{L:Nat}(h:1≤L):Fit L 1:=by
 unfold Fit
 exact Nat.lt_of_lt_of_le (show(1:Int).natAbs<4294967296^1 by decide) (Nat.pow_le_pow_right (by decide) h)
theorem FQ.rep{L:Nat}{r:Rat}(h:FQ L r)(h1:1≤L):kE L (qn r) r:=by
 refine⟨fun x hx=>ko (by decide) hx,?_,(ep (by decide)).2 h.1,?_,h1,VI r⟩
 ·unfold qn
  by_cases e:r.den=1
  ·rw[if_pos e];simp
  ·rw[if_neg e];exact fun x hx=>ko (by decide) hx
 ·unfold qn
  by_cases e:r.den=1
  ·rw[if_pos e];simp
  ·rw[if_neg e];exact(ep (by decide)).2 h.2
theorem kE.wn{L:Nat}{q:Qr}{r:Rat}(h:kE L q r)(hL:L≤10000000000):Wl q.num:=⟨h.n,Nat.le_trans h.ln hL⟩
theorem kE.wd{L:Nat}{q:Qr}{r:Rat}(h:kE L q r)(hL:L≤10000000000):Wl q.den:=⟨h.d,Nat.le_trans h.ld hL⟩
theorem kE.fn{L:Nat}{q:Qr}{r:Rat}(h:kE L q r):Fit L (zi q.num):=GG (n:=q.num.neg) h.n h.ln
theorem kE.fd{L:Nat}{q:Qr}{r:Rat}(h:kE L q r):Fit L (zi q.den):=GG (n:=q.den.neg) h.d h.ld
theorem kE.fqd{L:Nat}{q:Qr}{r:Rat}(h:kE L q r):Fit L (qd q):=by
 unfold qd
 by_cases e:zi q.den=0
 ·rw[if_pos e];exact xU h.l1
 ·rw[if_neg e];exact h.fd
theorem kE.mono{L M:Nat}{q:Qr}{r:Rat}(h:kE L q r)(hl:L≤M):kE M q r:=⟨h.n,h.d,Nat.le_trans h.ln hl,Nat.le_trans h.ld hl,Nat.le_trans h.l1 hl,h.v⟩
theorem FQ.mono{L M:Nat}{r:Rat}(h:FQ L r)(hl:L≤M):FQ M r:=⟨h.1.mono hl,h.2.mono hl⟩
theorem oL{L:Nat}{a d:Int}(h0:d≠0)(ha:Fit L a)(hd:Fit L d):FQ L (Rat.divInt a d):=by
 generalize hr:Rat.divInt a d=r
 obtain⟨n',d',z',c⟩:=r
 obtain⟨m,hm,h1,h2⟩:=Rat.divInt_num_den h0 hr
 have hm':0<m.natAbs:=Int.natAbs_pos.2 hm
 refine⟨ha.le ?_,hd.le ?_⟩
 ·rw[h1,Int.natAbs_mul];exact Nat.le_mul_of_pos_right _ hm'
 ·rw[h2,Int.natAbs_mul];exact Nat.le_mul_of_pos_right _ hm'
theorem kE.fq{L:Nat}{q:Qr}{r:Rat}(h:kE L q r):FQ L r:=by rw[←h.v];exact oL (VH q) h.fn h.fqd
theorem r8(r:Rat):r=Rat.divInt r.num (r.den:Int):=(Rat.num_divInt_den r).symm
theorem nS(r:Rat):(r.den:Int)≠0:=by have:=r.den_nz;omega
theorem FQ.add{L M:Nat}{x y:Rat}(hx:FQ L x)(hy:FQ M y):FQ (L+M+1) (x+y):=by
 have e:x+y=Rat.divInt (x.num*y.den+y.num*x.den) (x.den*y.den):=by
  conv=>lhs;rw[r8 x,r8 y,Rat.divInt_add_divInt _ _ (nS x) (nS y)]
 rw[e]
 refine oL (Int.mul_ne_zero (nS x) (nS y)) ?_ ?_
 ·exact(hx.1.mul hy.2).add (by rw[Nat.add_comm L M];exact hy.1.mul hx.2)
 ·exact(hx.2.mul hy.2).mono (by omega)
theorem FQ.sub{L M:Nat}{x y:Rat}(hx:FQ L x)(hy:FQ M y):FQ (L+M+1) (x-y):=by
 have e:x-y=Rat.divInt (x.num*y.den-y.num*x.den) (x.den*y.den):=by
  conv=>lhs;rw[r8 x,r8 y,Rat.divInt_sub_divInt _ _ (nS x) (nS y)]
 rw[e]
 refine oL (Int.mul_ne_zero (nS x) (nS y)) ?_ ?_
 ·exact(hx.1.mul hy.2).sub (by rw[Nat.add_comm L M];exact hy.1.mul hx.2)
 ·exact(hx.2.mul hy.2).mono (by omega)
theorem FQ.mul{L M:Nat}{x y:Rat}(hx:FQ L x)(hy:FQ M y):FQ (L+M) (x*y):=by
 have e:x*y=Rat.divInt (x.num*y.num) (x.den*y.den):=by
  conv=>lhs;rw[r8 x,r8 y,Rat.divInt_mul_divInt]
 rw[e]
 exact oL (Int.mul_ne_zero (nS x) (nS y)) (hx.1.mul hy.1) (hx.2.mul hy.2)
theorem FQ.neg{L:Nat}{x:Rat}(hx:FQ L x):FQ L (-x):=⟨hx.1.neg,hx.2⟩
theorem FQ.inv{L:Nat}{x:Rat}(hx:FQ L x)(h:x≠0):FQ L x⁻¹:=by
 have hn:x.num≠0:=fun e=>h (Rat.num_eq_zero.1 e)
 rw[Rat.inv_def]
 exact oL hn hx.2 hx.1
theorem FQ.div{L M:Nat}{x y:Rat}(hx:FQ L x)(hy:FQ M y)(h:y≠0):FQ (L+M) (x/y):=by rw[Rat.div_def];exact hx.mul (hy.inv h)
theorem FQ.int{L:Nat}{i:Int}(h:Fit L i)(h1:1≤L):FQ L (i:Rat):=⟨h,xU h1⟩
def nT(x y:Rat):Int:=if x<y then-1 else if x=y then 0 else 1
theorem HJ(x:Rat):nT x x=0:=by unfold nT;rw[if_neg Rat.lt_irrefl,if_pos rfl]
theorem HK{a b c d:Int}(hb:0<b)(hd:0<d):Rat.divInt a b<Rat.divInt c d↔a*d<c*b:=by
 have hb':(0:Rat)<(b:Rat):=Rat.intCast_pos.2 hb
 have hd':(0:Rat)<(d:Rat):=Rat.intCast_pos.2 hd
 rw[Rat.divInt_eq_div,Rat.divInt_eq_div,Rat.div_lt_iff hb',Rat.div_def,Rat.mul_assoc,Rat.mul_comm (d:Rat)⁻¹,←Rat.mul_assoc,←Rat.div_def,Rat.lt_div_iff hd',←Rat.intCast_mul,←Rat.intCast_mul,Rat.intCast_lt_intCast]
theorem Ep{a b c d:Int}(hb:0<b)(hd:0<d):nT (Rat.divInt a b) (Rat.divInt c d)=oJ (a*d) (c*b):=by
 unfold nT oJ
 have e1:=HK (a:=a) (c:=c) hb hd
 have e2:=Rat.divInt_eq_divInt_iff (n₁:=a) (d₁:=b) (n₂:=c) (d₂:=d) (by omega) (by omega)
 by_cases h1:a*d<c*b
 ·rw[if_pos (e1.2 h1),if_pos h1]
 ·rw[if_neg (fun h=>h1 (e1.1 h)),if_neg h1]
  by_cases h2:a*d=c*b
  ·rw[if_pos (e2.2 h2),if_pos h2]
  ·rw[if_neg (fun h=>h2 (e2.1 h)),if_neg h2]
theorem rJ{a b:Int}(hb:0<b):a.sign=nT (Rat.divInt a b) 0:=by
 have:(0:Rat)=Rat.divInt 0 1:=rfl
 rw[this,Ep hb (by decide),Int.mul_one,Int.zero_mul,←Ln,Int.sub_zero]
theorem BB{a d:Int}(hd:0<d):qn (Rat.divInt a d)=⟨zn (a/(Int.gcd a d:Int)),if d/(Int.gcd a d:Int)=1 then⟨false,[]⟩else zn (d/(Int.gcd a d:Int))⟩:=by
 have h1:(Rat.divInt a d).num=a/(Int.gcd a d:Int):=by rw[Rat.num_divInt,Int.sign_eq_one_of_pos hd,Int.one_mul,Int.gcd_comm]
 have h2:((Rat.divInt a d).den:Int)=d/(Int.gcd a d:Int):=by
  rw[Rat.den_divInt,if_neg (by omega),Int.gcd_comm]
  have:(d.natAbs:Int)=d:=by omega
  rw[Int.natCast_ediv,this]
 unfold qn
 rw[h1,h2]
 by_cases e:(Rat.divInt a d).den=1
 ·rw[if_pos e,if_pos (by omega)]
 ·rw[if_neg e,if_neg (by omega)]
theorem Nl(k:Int):((bif(rI k).2 then some (decide ((rI k).1=1))else some false):Option Bool)=some (decide (k=1)):=by
 by_cases h:eF k
 ·rw[gW h];rfl
 ·rw[mY h]
  have:¬k=1:=by rintro rfl;exact h (by decide)
  rw[decide_eq_false this];rfl
theorem z8{n d:Zr}(hn:Wl n)(hd:Wl d)(h:0<zi d):((gy n d).bind fun g=>(cY n g).bind fun a=>(cY d g).bind fun b=>(cJ b.1).bind fun c=>
  (bif c.2 then some (decide (c.1=1))else some false).bind fun e=>bif e then some (⟨a.1,⟨false,[]⟩⟩:Qr)else some ⟨a.1,b.1⟩)=some (qn (Rat.divInt (zi n) (zi d))):=by
 have g0:(Int.gcd (zi n) (zi d):Int)≠0:=by
  have:0<Int.gcd (zi n) (zi d):=Int.gcd_pos_of_ne_zero_right _ (by omega)
  omega
 have wg:Wl (zn (Int.gcd (zi n) (zi d):Int)):=jw ((Wl.fit hd).le (by
  have:=Nat.le_of_dvd (Int.natAbs_pos.2 (show zi d≠0 by omega)) (Int.gcd_dvd_natAbs_right (zi n) (zi d))
  simpa using this)) hd.2
 have wq:Wl (zn (zi d/(Int.gcd (zi n) (zi d):Int))):=jw ((Wl.fit hd).le (Int.natAbs_ediv_le_natAbs _ _)) hd.2
 rw[St hn hd,bC,divMod_eq hn wg,bC,divMod_eq hd wg,bC,eM,Nj,if_neg g0,Nj,if_neg g0]
 simp only[]
 rw[mX wq,bC,eM,Nl,bC,BB h]
 by_cases e:zi d/(Int.gcd (zi n) (zi d):Int)=1
 ·rw[decide_eq_true e,ji,if_pos e]
 ·rw[decide_eq_false e,ju,if_neg e]
theorem reduce_eq{x y:Zr}(hx:Wl x)(hy:Wl y)(h0:zi y≠0):cZ x y=some (qn (Rat.divInt (zi x) (zi y))):=by
 unfold cZ
 simp only[cQ,bC,zeta',sign_eq hy]
 by_cases h:zi y<0
 ·rw[show decide ((zi y).sign<0)=true by rw[Int.sign_eq_neg_one_of_neg h];rfl,ji,neg_eq hx,bC,neg_eq hy,bC]
  have hp:=z8 (jw (Wl.fit hx).neg hx.2) (jw (Wl.fit hy).neg hy.2) (by rw[eM];omega)
  rw[eM,eM,Rat.neg_divInt_neg]at hp
  exact hp
 ·rw[show decide ((zi y).sign<0)=false by rw[Int.sign_eq_one_of_pos (by omega)];rfl,ju]
  exact z8 hx hy (by omega)
end Go.Proofs.Ytningmnklfpfjaa
namespace Go.Proofs.Ytningmnklfpfjaa
open Go.Fw
theorem rK(q:Qr):(⟨⟨q.num.neg,q.num.w⟩,⟨q.den.neg,q.den.w⟩⟩:Qr)=q:=by cases q;rfl
theorem rL(q:Qr):(⟨q.num,q.den⟩:Qr)=q:=by cases q;rfl
theorem parts_eq{L:Nat}{q:Qr}{r:Rat}(h:kE L q r)(hL:L≤10000000000):∃n d:Zr,cg q=some (n,d)∧Wl n∧Wl d∧0<zi d∧Rat.divInt (zi n) (zi d)=r∧Fit L (zi n)∧Fit L (zi d):=by
 have wn:=h.wn hL
 have wd:=h.wd hL
 have hv:=h.v
 unfold cg
 simp only[zeta',bC,sign_eq wd,kQ (x:=1) (by decide) (by decide),neg_eq wn,neg_eq wd]
 unfold qv qd at hv
 rcases Int.lt_trichotomy (zi q.den) 0 with h1|h1|h1
 ·refine⟨_,_,?_,jw h.fn.neg hL,jw h.fd.neg hL,by rw[eM];omega,?_,by rw[eM];exact h.fn.neg,by rw[eM];exact h.fd.neg⟩
  ·rw[Int.sign_eq_neg_one_of_neg h1];rfl
  ·rw[eM,eM,Rat.neg_divInt_neg,←hv,if_neg (by omega)]
 ·refine⟨_,_,?_,wn,jw (xU h.l1) hL,by rw[eM];decide,?_,h.fn,by rw[eM];exact xU h.l1⟩
  ·rw[h1];rfl
  ·rw[eM,←hv,if_pos h1]
 ·refine⟨_,_,?_,wn,wd,h1,?_,h.fn,h.fd⟩
  ·rw[Int.sign_eq_one_of_pos h1];rfl
  ·rw[←hv,if_neg (by omega)]
def Sm(a:Int):Prop:=-2147483648<a∧a<2147483648
theorem Sm.ok{a:Int}(h:Sm a):eF a:=by unfold Sm at h;unfold eF;omega
theorem kq{L:Nat}{q:Qr}{r:Rat}(h:kE L q r)(hL:L≤10000000000):∃a b c,cM q=some (a,b,c)∧(c=true→Sm a∧0<b∧Sm b∧Rat.divInt a b=r):=by
 have wn:=h.wn hL
 have wd:=h.wd hL
 have hv:=h.v
 unfold cM
 simp only[zeta',bC,cQ,mX wn,mX wd]
 unfold qv qd at hv
 generalize zi q.num=n at*
 generalize zi q.den=d at*
 by_cases hs:Sm n∧Sm d
 ·obtain⟨h1,h2⟩:=hs
  rw[gW h1.ok,gW h2.ok]
  unfold Sm at h1 h2
  simp only[]
  rw[decide_eq_false (show ¬n≤-2147483648 by omega),decide_eq_false (show ¬2147483648≤n by omega),decide_eq_false (show ¬d≤-2147483648 by omega),decide_eq_false (show ¬2147483648≤d by omega)]
  simp only[Bool.not_true,ju,bC]
  by_cases h0:d=0
  ·rw[decide_eq_true h0,ji]
   refine⟨_,_,_,rfl,fun _=>⟨h1,by decide,⟨by decide,by decide⟩,?_⟩⟩
   rw[←hv,if_pos h0]
  ·rw[decide_eq_false h0,ju]
   rw[if_neg h0]at hv
   by_cases hneg:d<0
   ·rw[decide_eq_true hneg,ji,bZ (by omega) (by omega),bZ (by omega) (by omega)]
    refine⟨_,_,_,rfl,fun _=>⟨⟨by omega,by omega⟩,by omega,⟨by omega,by omega⟩,?_⟩⟩
    rw[Int.zero_sub,Int.zero_sub,Rat.neg_divInt_neg,hv]
   ·rw[decide_eq_false hneg,ju]
    exact⟨_,_,_,rfl,fun _=>⟨h1,by omega,h2,hv⟩⟩
 ·refine⟨0,0,false,?_,fun e=>by cases e⟩
  by_cases o1:eF n
  ·by_cases o2:eF d
   ·rw[gW o1,gW o2]
    simp only[Bool.not_true,ju,bC]
    unfold Sm at hs
    by_cases c1:n≤-2147483648
    ·rw[decide_eq_true c1];simp only[bC,ji]
    ·rw[decide_eq_false c1];simp only[bC,ju]
     by_cases c2:2147483648≤n
     ·rw[decide_eq_true c2];simp only[bC,ji]
     ·rw[decide_eq_false c2];simp only[bC,ju]
      by_cases c3:d≤-2147483648
      ·rw[decide_eq_true c3];simp only[bC,ji]
      ·rw[decide_eq_false c3];simp only[bC,ju]
       rw[decide_eq_true (show 2147483648≤d by omega)];simp only[ji]
   ·rw[gW o1,mY o2];simp only[Bool.not_true,Bool.not_false,ju,bC,ji]
  ·rw[mY o1];simp only[Bool.not_false,bC,ji]
theorem Er{a g:Int}(hg:0<g)(h:g∣a):Int.tdiv a g=a/g:=by
 obtain⟨k,rfl⟩:=h
 rw[Int.mul_tdiv_cancel_left _ (by omega),Int.mul_ediv_cancel_left _ (by omega)]
theorem oM{n d:Int}(hd:0<d)(hd':d≤9223372036854775807)(hn: -9223372036854775807≤n)(hn':n≤9223372036854775807):dG n d=some (qn (Rat.divInt n d)):=by
 unfold dG
 simp only[bC,cQ]
 refine oE (fun s=>Int.gcd s.1 s.2=Int.gcd n d∧s.1.natAbs≤9223372036854775807∧s.2.natAbs≤9223372036854775807) (fun e=>e.natAbs=Int.gcd n d∧e.natAbs≤9223372036854775807) (fun s=>s.2.natAbs) ?_ ⟨rfl,by simp only[];omega,by simp only[];omega⟩ ?_
 ·rintro⟨a,b⟩ ⟨i1,i2,i3⟩
  simp only at i1 i2 i3⊢
  by_cases hb:b=0
  ·right
   subst hb
   refine⟨a,by simp,?_,i2⟩
   rw[←i1];simp[Int.gcd]
  ·left
   rw[decide_eq_true hb,ji,GX,if_neg hb,bC]
   have hm:(Int.tmod a b).natAbs=a.natAbs%b.natAbs:=Int.natAbs_tmod a b
   have hlt:=Nat.mod_lt a.natAbs (Int.natAbs_pos.2 hb)
   refine⟨_,rfl,⟨?_,i3,by simp only[];omega⟩,by simp only[];omega⟩
   simp only[]
   rw[←i1,Int.gcd,Int.gcd,hm,Nat.gcd_comm b.natAbs,←Nat.gcd_rec,Nat.gcd_comm]
 ·rintro e ⟨he,hle⟩
  obtain⟨g,hg⟩:∃g:Int,(Int.gcd n d:Int)=g:=⟨_,rfl⟩
  have V9:0<g:=by have:=Int.gcd_pos_of_ne_zero_right n (show d≠0 by omega);omega
  have hgn:g∣n:=hg▸Int.gcd_dvd_left ..
  have hgd:g∣d:=hg▸Int.gcd_dvd_right ..
  have hK:∀m:Int,m=g→(bif decide (m=d)then(uj n m).bind fun gD=>(aY gD).bind fun x=>some (⟨⟨x.neg,x.w⟩,⟨false,[]⟩⟩:Qr)else(uj n m).bind fun gO=>(aY gO).bind fun x=>(uj d m).bind fun o8=>(aY o8).bind fun y=>some ⟨⟨x.neg,x.w⟩,⟨y.neg,y.w⟩⟩)=some (qn (Rat.divInt n d)):=by
   rintro m rfl
   have b1:(n/m).natAbs≤n.natAbs:=Int.natAbs_ediv_le_natAbs _ _
   have b2:(d/m).natAbs≤d.natAbs:=Int.natAbs_ediv_le_natAbs _ _
   have q1:uj n m=some (n/m):=by
    rw[uj,if_neg (by omega),Er V9 hgn,bZ (by omega) (by omega)]
   have q2:uj d m=some (d/m):=by
    rw[uj,if_neg (by omega),Er V9 hgd,bZ (by omega) (by omega)]
   rw[BB hd,hg,q1,q2]
   simp only[bC,kQ (x:=n/m) (by omega) (by omega),kQ (x:=d/m) (by omega) (by omega),zeta']
   by_cases e1:m=d
   ·rw[decide_eq_true e1,ji,if_pos (by rw[e1];exact Int.ediv_self (by omega))]
   ·rw[decide_eq_false e1,ju,if_neg]
    intro e2
    have:=Int.ediv_mul_cancel hgd
    rw[e2]at this;omega
  by_cases hneg:e<0
  ·rw[decide_eq_true hneg,ji,bZ (by omega) (by omega)]
   exact hK _ (by omega)
  ·rw[decide_eq_false hneg,ju]
   exact hK _ (by omega)
theorem ia{a b:Int}(ha:Sm a)(hb:Sm b): -4611686018427387904<a*b∧a*b<4611686018427387904:=by
 unfold Sm at ha hb
 have h1:(a*b).natAbs=a.natAbs*b.natAbs:=Int.natAbs_mul a b
 have h2:a.natAbs*b.natAbs≤2147483647*2147483647:=Nat.mul_le_mul (by omega) (by omega)
 omega
theorem nD{a b:Int}(ha:0<a)(hb:0<b):0<a*b:=Int.mul_pos ha hb
section ops
variable {L M:Nat}{a b:Qr}{x y:Rat}
theorem kE.add(ha:kE L a x)(hb:kE M b y)(h:L+M≤4000000000):jF a b=some (qn (x+y))∧kE (L+M+1) (qn (x+y)) (x+y):=by
 refine⟨?_,(ha.fq.add hb.fq).rep (by omega)⟩
 obtain⟨n1,d1,c1,e1,k1⟩:=kq ha (by omega)
 obtain⟨n2,d2,c2,e2,k2⟩:=kq hb (by omega)
 obtain⟨p1,q1,f1,w1,w2,g1,v1,t1,t2⟩:=parts_eq ha (by omega)
 obtain⟨p2,q2,f2,w3,w4,g2,v2,t3,t4⟩:=parts_eq hb (by omega)
 have z9:eW a b=some (qn (x+y)):=by
  unfold eW dI
  have u1:=jw (t1.mul t4) (by omega)
  have u2:=jw (t3.mul t2) (by omega)
  have u3:=jw (t2.mul t4) (by omega)
  have u4:=jw ((t1.mul t4).add ((t3.mul t2).mono (by omega))) (by omega)
  simp only[zeta',rK,rL,f1,f2,bC,mul_eq w1 w4,mul_eq w3 w2,add_eq u1 u2,mul_eq w2 w4,eM]
  rw[reduce_eq u4 u3 (by rw[eM];have:=nD g1 g2;omega),bC,eM,eM,←v1,←v2,Rat.divInt_add_divInt _ _ (by omega) (by omega)]
 unfold jF
 simp only[zeta',rK,rL,e1,e2,bC,cQ,z9]
 cases c1
 ·rw[ju,bC,ju]
 ·cases c2
  ·rw[ji,bC,ju]
  ·obtain⟨s1,s2,s3,s4⟩:=k1 rfl
   obtain⟨s5,s6,s7,s8⟩:=k2 rfl
   have m1:=ia s1 s7
   have m2:=ia s5 s3
   have m3:=ia s3 s7
   have m4:=nD s2 s6
   rw[ji,bC,ji,bZ (x:=n1*d2) (by omega) (by omega),bZ (x:=n2*d1) (by omega) (by omega),bZ (x:=d1*d2) (by omega) (by omega),bZ (by omega) (by omega),oM m4 (by omega) (by omega) (by omega),bC,←s4,←s8,Rat.divInt_add_divInt _ _ (by omega) (by omega)]
theorem kE.sub(ha:kE L a x)(hb:kE M b y)(h:L+M≤4000000000):jG a b=some (qn (x-y))∧kE (L+M+1) (qn (x-y)) (x-y):=by
 refine⟨?_,(ha.fq.sub hb.fq).rep (by omega)⟩
 obtain⟨n1,d1,c1,e1,k1⟩:=kq ha (by omega)
 obtain⟨n2,d2,c2,e2,k2⟩:=kq hb (by omega)
 obtain⟨p1,q1,f1,w1,w2,g1,v1,t1,t2⟩:=parts_eq ha (by omega)
 obtain⟨p2,q2,f2,w3,w4,g2,v2,t3,t4⟩:=parts_eq hb (by omega)
 have z9:eX a b=some (qn (x-y)):=by
  unfold eX dJ
  have u1:=jw (t1.mul t4) (by omega)
  have u2:=jw (t3.mul t2) (by omega)
  have u3:=jw (t2.mul t4) (by omega)
  have u4:=jw ((t1.mul t4).sub ((t3.mul t2).mono (by omega))) (by omega)
  simp only[zeta',rK,rL,f1,f2,bC,mul_eq w1 w4,mul_eq w3 w2,sub_eq u1 u2,mul_eq w2 w4,eM]
  rw[reduce_eq u4 u3 (by rw[eM];have:=nD g1 g2;omega),bC,eM,eM,←v1,←v2,Rat.divInt_sub_divInt _ _ (by omega) (by omega)]
 unfold jG
 simp only[zeta',rK,rL,e1,e2,bC,cQ,z9]
 cases c1
 ·rw[ju,bC,ju]
 ·cases c2
  ·rw[ji,bC,ju]
  ·obtain⟨s1,s2,s3,s4⟩:=k1 rfl
   obtain⟨s5,s6,s7,s8⟩:=k2 rfl
   have m1:=ia s1 s7
   have m2:=ia s5 s3
   have m3:=ia s3 s7
   have m4:=nD s2 s6
   rw[ji,bC,ji,bZ (x:=n1*d2) (by omega) (by omega),bZ (x:=n2*d1) (by omega) (by omega),bZ (x:=d1*d2) (by omega) (by omega),bZ (by omega) (by omega),oM m4 (by omega) (by omega) (by omega),bC,←s4,←s8,Rat.divInt_sub_divInt _ _ (by omega) (by omega)]
theorem kE.mul(ha:kE L a x)(hb:kE M b y)(h:L+M≤4000000000):iU a b=some (qn (x*y))∧kE (L+M) (qn (x*y)) (x*y):=by
 have l1:=ha.l1
 refine⟨?_,(ha.fq.mul hb.fq).rep (by omega)⟩
 obtain⟨n1,d1,c1,e1,k1⟩:=kq ha (by omega)
 obtain⟨n2,d2,c2,e2,k2⟩:=kq hb (by omega)
 obtain⟨p1,q1,f1,w1,w2,g1,v1,t1,t2⟩:=parts_eq ha (by omega)
 obtain⟨p2,q2,f2,w3,w4,g2,v2,t3,t4⟩:=parts_eq hb (by omega)
 have z9:eY a b=some (qn (x*y)):=by
  unfold eY dK
  have u1:=jw (t1.mul t3) (by omega)
  have u3:=jw (t2.mul t4) (by omega)
  simp only[zeta',rK,rL,f1,f2,bC,mul_eq w1 w3,mul_eq w2 w4]
  rw[reduce_eq u1 u3 (by rw[eM];have:=nD g1 g2;omega),bC,eM,eM,←v1,←v2,Rat.divInt_mul_divInt]
 unfold iU
 simp only[zeta',rK,rL,e1,e2,bC,cQ,z9]
 cases c1
 ·rw[ju,bC,ju]
 ·cases c2
  ·rw[ji,bC,ju]
  ·obtain⟨s1,s2,s3,s4⟩:=k1 rfl
   obtain⟨s5,s6,s7,s8⟩:=k2 rfl
   have m1:=ia s1 s5
   have m3:=ia s3 s7
   have m4:=nD s2 s6
   rw[ji,bC,ji,bZ (by omega) (by omega),bZ (x:=d1*d2) (by omega) (by omega),oM m4 (by omega) (by omega) (by omega),bC,←s4,←s8,Rat.divInt_mul_divInt]
theorem kE.sign(ha:kE L a x)(h:L≤10000000000):fF a=some (nT x 0):=by
 unfold fF
 have wn:=ha.wn h
 have wd:=ha.wd h
 have hv:=ha.v
 simp only[zeta',bC,sign_eq wn,sign_eq wd]
 unfold qv qd at hv
 rcases Int.lt_trichotomy (zi a.den) 0 with h1|h1|h1
 ·rw[Int.sign_eq_neg_one_of_neg h1]
  rw[if_neg (by omega),←Rat.neg_divInt_neg]at hv
  rw[←hv,←rJ (by omega),Int.sign_neg]
  show some (IntKind.i64.wrap (0-(zi a.num).sign))=_
  have:(zi a.num).sign=-1∨(zi a.num).sign=0∨(zi a.num).sign=1:=by
   rcases Int.lt_trichotomy (zi a.num) 0 with e|e|e
   ·left;exact Int.sign_eq_neg_one_of_neg e
   ·right;left;rw[e];rfl
   ·right;right;exact Int.sign_eq_one_of_pos e
  rw[bZ (by omega) (by omega),Int.zero_sub]
 ·rw[if_pos h1]at hv
  rw[←hv,←rJ (by omega),h1];rfl
 ·rw[if_neg (by omega)]at hv
  rw[Int.sign_eq_one_of_pos h1,←hv,←rJ h1];rfl
theorem oN{x:Rat}:nT x 0=0↔x=0:=by
 unfold nT
 by_cases h:x<0
 ·rw[if_pos h]
  refine⟨fun e=>absurd e (by decide),fun e=>?_⟩
  rw[e]at h;exact absurd h Rat.lt_irrefl
 ·rw[if_neg h]
  by_cases h2:x=0
  ·rw[if_pos h2];simp[h2]
  ·rw[if_neg h2];simp[h2]
theorem kE.div(ha:kE L a x)(hb:kE M b y)(h:L+M≤4000000000)(h0:y≠0):mF a b=some (qn (x/y),0)∧kE (L+M) (qn (x/y)) (x/y):=by
 have l1:=ha.l1
 refine⟨?_,(ha.fq.div hb.fq h0).rep (by omega)⟩
 obtain⟨n1,d1,c1,e1,k1⟩:=kq ha (by omega)
 obtain⟨n2,d2,c2,e2,k2⟩:=kq hb (by omega)
 obtain⟨p1,q1,f1,w1,w2,g1,v1,t1,t2⟩:=parts_eq ha (by omega)
 obtain⟨p2,q2,f2,w3,w4,g2,v2,t3,t4⟩:=parts_eq hb (by omega)
 have hdiv:∀a b c d:Int,Rat.divInt a b/Rat.divInt c d=Rat.divInt (a*d) (b*c):=fun a b c d=>by rw[Rat.div_def,Rat.inv_divInt,Rat.divInt_mul_divInt]
 have Wa:∀a b:Int,Rat.divInt a b=y→a≠0:=fun a b e e'=>h0 (by rw[←e,e',Rat.zero_divInt])
 have z9:iT a b=some (qn (x/y)):=by
  unfold iT fU
  have u1:=jw (t1.mul t4) (by omega)
  have u3:=jw (t2.mul t3) (by omega)
  simp only[zeta',rK,rL,f1,f2,bC,mul_eq w1 w4,mul_eq w2 w3]
  rw[reduce_eq u1 u3 (by rw[eM];exact Int.mul_ne_zero (by omega) (Wa _ _ v2)),bC,eM,eM,←v1,←v2,hdiv]
 unfold mF
 simp only[zeta',rK,rL,hb.sign (by omega),e1,e2,bC,cQ,z9]
 rw[decide_eq_false (fun e=>h0 (oN.1 e)),ju]
 cases c1
 ·rw[ju,bC,ju]
 ·cases c2
  ·rw[ji,bC,ju]
  ·obtain⟨s1,s2,s3,s4⟩:=k1 rfl
   obtain⟨s5,s6,s7,s8⟩:=k2 rfl
   have hn2:=Wa _ _ s8
   have m1:=ia s1 s7
   have m3:=ia s3 s5
   rw[ji,bC,ji]
   unfold Sm at s1 s3 s5 s7
   by_cases hneg:n2<0
   ·have m4:=nD s2 (show 0< -n2 by omega)
    have m5:(-n1)*d2=-(n1*d2):=Int.neg_mul _ _
    have m6:d1*(-n2)=-(d1*n2):=Int.mul_neg _ _
    rw[decide_eq_true hneg,ji,bZ (x:=0-n1) (by omega) (by omega),bZ (x:=0-n2) (by omega) (by omega),Int.zero_sub,Int.zero_sub,bZ (by omega) (by omega),bZ (by omega) (by omega),oM m4 (by omega) (by omega) (by omega),bC,m5,m6,Rat.neg_divInt_neg,←s4,←s8,hdiv]
   ·have m4:=nD s2 (show 0<n2 by omega)
    rw[decide_eq_false hneg,ju,bZ (by omega) (by omega),bZ (by omega) (by omega),oM m4 (by omega) (by omega) (by omega),bC,←s4,←s8,hdiv]
theorem kE.canon(ha:kE L a x)(h:L≤10000000000):bM a=some (qn x)∧kE L (qn x) x:=by
 refine⟨?_,ha.fq.rep ha.l1⟩
 obtain⟨n1,d1,c1,e1,k1⟩:=kq ha (by omega)
 obtain⟨p1,q1,f1,w1,w2,g1,v1,t1,t2⟩:=parts_eq ha (by omega)
 unfold bM
 simp only[zeta',rK,rL,e1,bC,f1]
 cases c1
 ·rw[ju,reduce_eq w1 w2 (by omega),bC,v1]
 ·obtain⟨s1,s2,s3,s4⟩:=k1 rfl
  unfold Sm at s1 s3
  rw[ji,oM s2 (by omega) (by omega) (by omega),bC,s4]
end ops
end Go.Proofs.Ytningmnklfpfjaa
namespace Go.Proofs.Ytningmnklfpfjaa
open Go.Fw
theorem BC{p q u v:Int}(hq:0<q)(hv:0<v)(h:p.sign≠u.sign∨p.sign=0):nn (IntKind.i64.wrap (p.sign-u.sign))=some (oJ (p*v) (u*q)):=by
 have pv:0<p→0<p*v:=fun h=>Int.mul_pos h hv
 have pv':p<0→p*v<0:=fun h=>Int.mul_neg_of_neg_of_pos h hv
 have uq:0<u→0<u*q:=fun h=>Int.mul_pos h hq
 have uq':u<0→u*q<0:=fun h=>Int.mul_neg_of_neg_of_pos h hq
 rcases Int.lt_trichotomy p 0 with e1|e1|e1<;>rcases Int.lt_trichotomy u 0 with e2|e2|e2
 ·rw[Int.sign_eq_neg_one_of_neg e1,Int.sign_eq_neg_one_of_neg e2]at h;simp at h
 ·have:=pv' e1
  rw[Int.sign_eq_neg_one_of_neg e1,e2,Int.zero_mul,kW this];rfl
 ·have:=pv' e1
  have:=uq e2
  rw[Int.sign_eq_neg_one_of_neg e1,Int.sign_eq_one_of_pos e2,kW (by omega)];rfl
 ·have:=uq' e2
  rw[Int.sign_eq_neg_one_of_neg e2,e1,Int.zero_mul,kX this];rfl
 ·rw[e1,e2,Int.zero_mul,Int.zero_mul];rfl
 ·have:=uq e2
  rw[Int.sign_eq_one_of_pos e2,e1,Int.zero_mul,kW this];rfl
 ·have:=pv e1
  have:=uq' e2
  rw[Int.sign_eq_one_of_pos e1,Int.sign_eq_neg_one_of_neg e2,kX (by omega)];rfl
 ·have:=pv e1
  rw[Int.sign_eq_one_of_pos e1,e2,Int.zero_mul,kX this];rfl
 ·rw[Int.sign_eq_one_of_pos e1,Int.sign_eq_one_of_pos e2]at h;simp at h
theorem Lo{x y:Rat}:nT x y=0↔x=y:=by
 unfold nT
 by_cases h:x<y
 ·rw[if_pos h]
  refine⟨fun e=>absurd e (by decide),fun e=>?_⟩
  rw[e]at h;exact absurd h Rat.lt_irrefl
 ·rw[if_neg h]
  by_cases h2:x=y
  ·rw[if_pos h2];simp[h2]
  ·rw[if_neg h2];simp[h2]
theorem Es{x y:Rat}:nT x y<0↔x<y:=by
 unfold nT
 by_cases h:x<y
 ·rw[if_pos h];simp[h]
 ·rw[if_neg h]
  by_cases h2:x=y
  ·rw[if_pos h2];simp[h2,Rat.lt_irrefl]
  ·rw[if_neg h2];simp[h]
theorem Su(i:Int):qn (i:Rat)=⟨zn i,⟨false,[]⟩⟩:=by
 unfold qn
 rw[Rat.den_intCast,if_pos rfl,Rat.num_intCast]
section ops
variable {L M:Nat}{a b:Qr}{x y:Rat}
theorem kE.neg(ha:kE L a x)(h:L≤10000000000):mG a=some (qn (-x))∧kE L (qn (-x)) (-x):=by
 refine⟨?_,ha.fq.neg.rep ha.l1⟩
 unfold mG
 have r:=(ha.canon h).2
 simp only[zeta',rK,rL,(ha.canon h).1,bC,neg_eq (r.wn h)]
 show some (⟨zn (-zi (zn x.num)),_⟩:Qr)=some (qn (-x))
 rw[eM];rfl
theorem kE.cmp(ha:kE L a x)(hb:kE M b y)(h:L+M≤4000000000):mH a b=some (nT x y):=by
 obtain⟨p1,q1,f1,w1,w2,g1,v1,t1,t2⟩:=parts_eq ha (by omega)
 obtain⟨p2,q2,f2,w3,w4,g2,v2,t3,t4⟩:=parts_eq hb (by omega)
 unfold mH
 have u1:=jw (t1.mul t4) (by omega)
 have u2:=jw (t3.mul t2) (by omega)
 simp only[zeta',rK,rL,f1,f2,bC,cQ,sign_eq w1,sign_eq w3,mul_eq w1 w4,mul_eq w3 w2,Sq u1 u2,eM]
 rw[←v1,←v2,Ep g1 g2]
 by_cases e1:(zi p1).sign=(zi p2).sign
 ·rw[show decide ((zi p1).sign≠(zi p2).sign)=false by simp[e1],ju,bC]
  by_cases e2:(zi p1).sign=0
  ·rw[decide_eq_true e2,ji,BC g1 g2 (.inr e2),bC]
  ·rw[decide_eq_false e2,ju]
 ·rw[show decide ((zi p1).sign≠(zi p2).sign)=true by simp[e1],ji,bC,ji,BC g1 g2 (.inl e1),bC]
theorem mm{n:Int}(hn:eF n):cy n=some (qn (n:Rat))∧kE 2 (qn (n:Rat)) (n:Rat):=by
 refine⟨?_,(FQ.int (HI hn) (by decide)).rep (by decide)⟩
 unfold cy
 simp only[zeta',bC,kQ hn.1 hn.2]
 rw[Su]
end ops
end Go.Proofs.Ytningmnklfpfjaa
namespace Go.Proofs.Ytningmnklfpfjaa
open Go.Fw
def vq(n:Nat)(h:Nat→Rat):List Qr:=(List.range n).map fun i=>qn (h i)
structure eD (L:Nat) (v:List Qr) (f:Nat→Rat):Prop where
 e:∀i (h:i<v.length),kE L v[i] (f i)
 z:∀i,v.length≤i→f i=0
 l1:1≤L
theorem bQ(n:Nat)(h:Nat→Rat):(vq n h).length=n:=by simp[vq]
theorem lT{n i:Nat}{h:Nat→Rat}(hi:i<n):(vq n h)[i]? =some (qn (h i)):=by simp[vq,hi]
theorem Nm{n i:Nat}{h:Nat→Rat}(hi:i<(vq n h).length):(vq n h)[i]=qn (h i):=by simp[vq]
theorem xV(n:Nat)(h:Nat→Rat):vq (n+1) h=vq n h++[qn (h n)]:=by simp[vq,List.range_succ]
theorem gp{n:Nat}{h k:Nat→Rat}(e:∀i,i<n→h i=k i):vq n h=vq n k:=by
 unfold vq
 apply List.map_congr_left
 intro i hi
 rw[e i (List.mem_range.1 hi)]
theorem nU{L n:Nat}{h:Nat→Rat}(hf:∀i,i<n→FQ L (h i))(hz:∀i,n≤i→h i=0)(h1:1≤L):eD L (vq n h) h:=by
 refine⟨fun i hi=>?_,fun i hi=>hz i (by rwa[bQ]at hi),h1⟩
 rw[Nm hi]
 exact(hf i (by rwa[bQ]at hi)).rep h1
def qz:Qr:=⟨⟨false,[]⟩,⟨false,[]⟩⟩
theorem Nn:qn 0=qz:=rfl
theorem Et{L:Nat}(h:1≤L):kE L qz 0:=⟨by simp[qz],by simp[qz],by simp[qz],by simp[qz],h,by decide⟩
theorem xW{L:Nat}(h:1≤L):FQ L 0:=(Et h).fq
def Z1(v:List Qr)(i:Nat):Qr:=v.getD i qz
theorem eD.at{L:Nat}{v:List Qr}{f:Nat→Rat}(h:eD L v f)(i:Nat):kE L (Z1 v i) (f i):=by
 unfold Z1
 by_cases hi:i<v.length
 ·rw[List.getD_eq_getElem?_getD,List.getElem?_eq_getElem hi];exact h.e i hi
 ·rw[List.getD_eq_getElem?_getD,List.getElem?_eq_none (by omega),h.z i (by omega)];exact Et h.l1
theorem eD.fq{L:Nat}{v:List Qr}{f:Nat→Rat}(h:eD L v f)(i:Nat):FQ L (f i):=(h.at i).fq
theorem eD.mono{L M:Nat}{v:List Qr}{f:Nat→Rat}(h:eD L v f)(hl:L≤M):eD M v f:=⟨fun i hi=>(h.e i hi).mono hl,h.z,Nat.le_trans h.l1 hl⟩
theorem eD.nil{L:Nat}(h:1≤L):eD L [] (fun _=>0):=⟨fun i hi=>by simp at hi,fun _ _=>rfl,h⟩
theorem eD.get{L:Nat}{v:List Qr}{f:Nat→Rat}(h:eD L v f){i:Nat}(hi:i<v.length):∃q,v[i]? =some q∧kE L q (f i):=⟨v[i],by simp,h.e i hi⟩
theorem eD.congr{L:Nat}{v:List Qr}{f g:Nat→Rat}(h:eD L v f)(e:∀i,f i=g i):eD L v g:=by
 have:f=g:=funext e
 rw[←this];exact h
def Z2(v:List Qr)(i:Nat):Rat:=qv (Z1 v i)
def AT(h:Nat→Rat):Nat→Rat
 |0=>0
 |n+1=>AT h n+h n
theorem Aa{h k:Nat→Rat}:∀{n:Nat},(∀i,i<n→h i=k i)→AT h n=AT k n
 |0,_=>rfl
 |n+1,e=>by rw[AT,AT,Aa (fun i hi=>e i (by omega)),e n (by omega)]
theorem BD:∀n,AT (fun _=>0) n=0
 |0=>rfl
 |n+1=>by rw[AT,BD n];grind
end Go.Proofs.Ytningmnklfpfjaa
namespace Go.Proofs.Ytningmnklfpfjaa
open Go.Fw
theorem GH{α β:Type}(a:List α)(b:List β):max (a.length:Int) (b.length:Int)=((max a.length b.length:Nat):Int):=by omega
theorem No{α β:Type}(a:List α)(b:List β):min (a.length:Int) (b.length:Int)=((min a.length b.length:Nat):Int):=by omega
theorem eD.gd{L:Nat}{v:List Qr}{f:Nat→Rat}(h:eD L v f)(k:Nat):kE L (v.getD k (⟨⟨false,[]⟩,⟨false,[]⟩⟩:Qr)) (f k):=h.at k
theorem CO{n k:Nat}{h:Nat→Rat}(hk:k<n):(vq k h++List.replicate (n-k) qz).set k (qn (h k))=vq (k+1) h++List.replicate (n-(k+1)) qz:=by
 rw[show n-k=(n-(k+1))+1 by omega,List.replicate_succ,List.set_append_right _ _ (by rw[bQ];exact Nat.le_refl _),bQ,Nat.sub_self,xV,List.append_assoc];rfl
theorem Sv{n c:Nat}{h:Nat→Rat}(hc:c≤n)(hz:∀i,c≤i→i<n→h i=0):vq c h++List.replicate (n-c) qz=vq n h:=by
 induction n with
 |zero=>rw[show c=0 by omega];rfl
 |succ n ih=>
  rcases Nat.lt_or_ge n c with q|q
  ·rw[show c=n+1 by omega,Nat.sub_self];simp
  ·rw[show n+1-c=(n-c)+1 by omega,List.replicate_succ',←List.append_assoc,ih q (fun i h1 h2=>hz i h1 (by omega)),xV,hz n q (by omega),Nn]
theorem pS{n k:Nat}{h:Nat→Rat}(hk:k≤n):(vq k h++List.replicate (n-k) qz).length=n:=by rw[List.length_append,bQ,List.length_replicate];omega
section ops
variable {K L M:Nat}{c:Qr}{a b:List Qr}{k:Rat}{f g:Nat→Rat}
theorem Z3(ha:eD L a f)(hb:eD M b g)(h:L+M≤4000000000)(la:a.length≤1000000)(lb:b.length≤1000000):kM a b=some (vq (max a.length b.length) fun i=>f i-g i)∧eD (L+M+1) (vq (max a.length b.length) fun i=>f i-g i) (fun i=>f i-g i):=by
 refine⟨?_,nU (fun i _=>(ha.fq i).sub (hb.fq i)) (fun i hi=>?_) (by omega)⟩
 ·unfold kM gZ
  refine bind_eq (a:=vq (max a.length b.length) (fun i=>f i-g i)) ?_ rfl
  refine bind_eq rfl<|bind_eq rfl<|bind_eq (congrArg some (GH a b))<|bind_eq (z3 (by omega) (by omega)) ?_
  refine pO (fun k=>vq k (fun i=>f i-g i)) rfl (fun k hk=>?_) rfl
  have e3:=((ha.gd k).sub (hb.gd k) h).1
  generalize a.getD k (⟨⟨false,[]⟩,⟨false,[]⟩⟩:Qr)=q1 at e3⊢
  generalize b.getD k (⟨⟨false,[]⟩,⟨false,[]⟩⟩:Qr)=q2 at e3⊢
  obtain⟨⟨_,_⟩,⟨_,_⟩⟩:=q1
  obtain⟨⟨_,_⟩,⟨_,_⟩⟩:=q2
  obtain⟨q3,h3⟩:∃q,qn (f k-g k)=q:=⟨_,rfl⟩
  rw[xV,h3]
  rw[h3]at e3
  obtain⟨⟨_,_⟩,⟨_,_⟩⟩:=q3
  refine bind_eq rfl<|bind_eq rfl<|bind_eq e3<|bind_eq (AP (by omega) (by rw[bQ];omega)) rfl
 ·rw[ha.z i (by omega),hb.z i (by omega)];grind
theorem O1(hc:kE K c k)(ha:eD L a f)(hb:eD M b g)(h:K+L+M≤4000000000)(la:a.length≤1000000)(lb:b.length≤1000000):dN c a b=some (vq (max a.length b.length) fun i=>k*f i+g i)∧eD (K+L+M+1) (vq (max a.length b.length) fun i=>k*f i+g i) (fun i=>k*f i+g i):=by
 refine⟨?_,nU (fun i _=>(hc.fq.mul (ha.fq i)).add (hb.fq i)) (fun i hi=>?_) (by omega)⟩
 ·unfold dN eR
  obtain⟨⟨_,_⟩,⟨_,_⟩⟩:=c
  refine bind_eq (a:=vq (max a.length b.length) (fun i=>k*f i+g i)) ?_ rfl
  refine bind_eq rfl<|bind_eq rfl<|bind_eq (congrArg some (GH a b))<|bind_eq (z3 (by omega) (by omega)) ?_
  refine pO (fun j=>vq j (fun i=>k*f i+g i)) rfl (fun j hj=>?_) rfl
  have e1:=hc.mul (ha.gd j) (by omega)
  have e3:=(e1.2.add (hb.gd j) (by omega)).1
  replace e1:=e1.1
  generalize a.getD j (⟨⟨false,[]⟩,⟨false,[]⟩⟩:Qr)=q1 at e1⊢
  generalize b.getD j (⟨⟨false,[]⟩,⟨false,[]⟩⟩:Qr)=q2 at e3⊢
  obtain⟨⟨_,_⟩,⟨_,_⟩⟩:=q1
  obtain⟨⟨_,_⟩,⟨_,_⟩⟩:=q2
  generalize qn (k*f j)=q4 at e1 e3
  obtain⟨⟨_,_⟩,⟨_,_⟩⟩:=q4
  obtain⟨q3,h3⟩:∃q,qn (k*f j+g j)=q:=⟨_,rfl⟩
  rw[xV,h3]
  rw[h3]at e3
  obtain⟨⟨_,_⟩,⟨_,_⟩⟩:=q3
  refine bind_eq rfl<|bind_eq rfl<|bind_eq (bind_eq e1<|bind_eq e3 rfl)<|bind_eq (AP (by omega) (by rw[bQ];omega)) rfl
 ·rw[ha.z i (by omega),hb.z i (by omega)];grind
theorem Sw(hc:kE K c k)(ha:eD L a f)(h:K+L≤4000000000)(la:a.length≤1000000):lD c a=some (vq a.length fun i=>k*f i)∧eD (K+L) (vq a.length fun i=>k*f i) (fun i=>k*f i):=by
 have Pe:=ha.l1
 refine⟨?_,nU (fun i _=>hc.fq.mul (ha.fq i)) (fun i hi=>?_) (by omega)⟩
 ·unfold lD
  obtain⟨⟨_,_⟩,⟨_,_⟩⟩:=c
  refine bind_eq rfl<|bind_eq (pM (by omega) (by omega))<|bind_eq rfl ?_
  refine bh (fun j=>((j:Int),vq j (fun i=>k*f i)++List.replicate (a.length-j) qz)) a.length (vq a.length fun i=>k*f i) rfl (fun j hj=>?_) ?_ rfl
  ·obtain⟨q,hq,rq⟩:=ha.get hj
   have e3:=(hc.mul rq h).1
   obtain⟨q3,h3⟩:∃q,qn (k*f j)=q:=⟨_,rfl⟩
   have h4:=CO (h:=fun i=>k*f i) hj
   rw[h3]at e3 h4
   obtain⟨⟨_,_⟩,⟨_,_⟩⟩:=q
   obtain⟨⟨_,_⟩,⟨_,_⟩⟩:=q3
   refine bind_eq rfl<|fk (decide_eq_true (by omega))<|bind_eq (aU hq)<|bind_eq e3<|bind_eq (cj (by rw[pS (by omega)];exact hj))<|bind_eq (e9 (by rw[pS (by omega)];exact hj))<|bind_eq rfl ?_
   rw[bK (by omega),h4]
  ·refine bind_eq rfl<|bH (decide_eq_false (by omega)) ?_
   simp
 ·rw[ha.z i hi];grind
end ops
end Go.Proofs.Ytningmnklfpfjaa
namespace Go.Proofs.Ytningmnklfpfjaa
open Go.Fw
def mZ(f g:Nat→Rat):Nat→Int
 |0=>0
 |n+1=>if mZ f g n≠0 then mZ f g n else nT (f n) (g n)
theorem Ab{f g:Nat→Rat}:∀{n:Nat},mZ f g n=0↔∀i,i<n→f i=g i
 |0=>by simp[mZ]
 |n+1=>by
  rw[mZ]
  by_cases h:mZ f g n=0
  ·rw[if_neg (by simpa using h),Lo]
   have:=Ab.1 h
   refine⟨fun e i hi=>?_,fun e=>e n (by omega)⟩
   rcases Nat.lt_or_ge i n with q|q
   ·exact this i q
   ·obtain rfl:i=n:=by omega
    exact e
  ·rw[if_pos h]
   refine⟨fun e=>absurd e h,fun e=>absurd (Ab.2 (fun i hi=>e i (by omega))) h⟩
section ops
variable {K L M:Nat}{c:Qr}{a b:List Qr}{k:Rat}{f g:Nat→Rat}
theorem sN(q:Qr):(⟨⟨(q.num.neg,q.num.w,q.den.neg,q.den.w).1,(q.num.neg,q.num.w,q.den.neg,q.den.w).2.1⟩,⟨(q.num.neg,q.num.w,q.den.neg,q.den.w).2.2.1,(q.num.neg,q.num.w,q.den.neg,q.den.w).2.2.2⟩⟩:Qr)=q:=by cases q;rfl
theorem VJ(ha:eD L a f)(hb:eD M b g)(h:L+M≤4000000000):g9 a b=some (mZ f g (max a.length b.length)):=by
 unfold g9
 generalize max a.length b.length=n
 refine bind_eq (a:=if mZ f g n≠0 then .inr (mZ f g n)else .inl ()) ?_ ?_
 ·induction n with
  |zero=>rfl
  |succ n ih=>
   rw[mz]
   refine bind_eq ih ?_
   by_cases h0:mZ f g n=0
   ·have hl:mZ f g (n+1)=nT (f n) (g n):=by rw[mZ,if_neg (by simpa using h0)]
    rw[hl,if_neg (show ¬mZ f g n≠0 by simpa using h0)]
    have e1:=(ha.gd n).cmp (hb.gd n) h
    generalize a.getD n (⟨⟨false,[]⟩,⟨false,[]⟩⟩:Qr)=q1 at e1⊢
    generalize b.getD n (⟨⟨false,[]⟩,⟨false,[]⟩⟩:Qr)=q2 at e1⊢
    obtain⟨⟨_,_⟩,⟨_,_⟩⟩:=q1
    obtain⟨⟨_,_⟩,⟨_,_⟩⟩:=q2
    refine bind_eq rfl<|bind_eq rfl<|bind_eq e1<|bind_eq rfl ?_
    by_cases h1:nT (f n) (g n)=0
    ·rw[if_neg (by simpa using h1)];exact bH (decide_eq_false (by simpa using h1)) rfl
    ·rw[if_pos h1];exact fk (decide_eq_true h1) rfl
   ·have hl:mZ f g (n+1)=mZ f g n:=by rw[mZ,if_pos h0]
    rw[hl,if_pos h0]
 ·by_cases h0:mZ f g n=0
  ·rw[if_neg (by simpa using h0),h0]
  ·rw[if_pos h0]
theorem VK(ha:eD L a f)(h:L+1≤4000000000):mK a=some (mZ f (fun _=>0) a.length):=by
 unfold mK
 refine bind_eq (VJ ha (eD.nil (L:=1) (by omega)) h) ?_
 simp
theorem veq(ha:eD L a f)(hb:eD M b g)(h:L+M≤4000000000):dx a b=some (decide (∀i,i<max a.length b.length→f i=g i)):=by
 unfold dx
 refine bind_eq (VJ ha hb h)<|bind_eq rfl ?_
 congr 1
 rw[decide_eq_decide];exact Ab
end ops
end Go.Proofs.Ytningmnklfpfjaa
namespace Go.Proofs.Ytningmnklfpfjaa
open Go.Fw
theorem tm{a:Nat}:Int.tmod (a:Int) 65536=((a%65536:Nat):Int):=by
 rw[Int.tmod_eq_emod_of_nonneg (by omega)];omega
end Go.Proofs.Ytningmnklfpfjaa
namespace Go.Proofs.Ytningmnklfpfjaa
open Go.Fw
theorem eJ{J R:Type}{f:J→Option R}{g:(J→Option R)→Option R}{r:Option R}(h:g f=r):cQ f g=r:=h
section ops
variable {K L M:Nat}{c:Qr}{a b:List Qr}{k:Rat}{f g:Nat→Rat}
theorem Eu(ha:eD L a f)(h:L≤10000000000)(m:Nat)(hm:m≤65536){body:Int×List Qr→Option ((Int×List Qr)⊕List Qr)}
  (hb:∀s,body s=(some (decide (s.1<((min a.length m:Nat):Int)))).bind fun fg=>(bif fg then(dD a s.1).bind fun q=>(bM q).bind fun w=>(nX s.2 s.1).bind fun lf=>(stM s.2 lf w).bind fun vH=>(some (IntKind.i64.wrap (s.1+1))).bind fun og=>some (.inl (og,vH))else some (.inr s.2))):
  (cq body (0,List.replicate m qz)).bind (fun r=>some r)=some (vq m f):=by
 refine bh (fun j=>((j:Int),vq j f++List.replicate (m-j) qz)) (min a.length m) (vq m f) rfl (fun j hj=>?_) ?_ rfl
 ·obtain⟨q,hq,rq⟩:=ha.get (show j<a.length by omega)
  rw[hb]
  refine bind_eq rfl<|fk (decide_eq_true (by show(j:Int)<_;omega))<|bind_eq (aU hq)<|bind_eq (rq.canon h).1<|bind_eq (cj (by rw[pS (by omega)];omega))<|bind_eq (e9 (by rw[pS (by omega)];omega))<|bind_eq rfl ?_
  rw[CO (by omega),bK (by omega)]
 ·rw[hb]
  refine bind_eq rfl<|bH (decide_eq_false (by show ¬((min a.length m:Nat):Int)<_;omega)) ?_
  rw[Sv (by omega) (fun i h1 h2=>ha.z i (by omega))]
theorem Np(ha:eD L a f)(h:L≤10000000000)(la:a.length≤1000000)(n:Int):jZ a n=some (vq (min n 65536).toNat f):=by
 unfold jZ
 refine bind_eq rfl ?_
 by_cases hn:n<1
 ·refine fk (decide_eq_true hn) ?_
  rw[show(min n 65536).toNat=0 by omega];rfl
 ·refine bH (decide_eq_false hn) ?_
  obtain⟨m,hm⟩:∃m:Nat,min n 65536=(m:Int):=⟨(min n 65536).toNat,by omega⟩
  rw[hm]
  refine bind_eq rfl<|bind_eq (pM (by omega) (by omega))<|bind_eq rfl<|bind_eq rfl<|bind_eq (congrArg some (No a _)) ?_
  rw[List.length_replicate]
  refine Eu ha h m (by omega) (fun s=>?_)
  obtain⟨i,l⟩:=s
  rfl
theorem vi{l:List Int}(hl:∀x∈l,eF x)(h:l.length≤1000000):bY l=some (vq l.length fun i=>((l.getD i 0:Int):Rat))∧eD 2 (vq l.length fun i=>((l.getD i 0:Int):Rat)) (fun i=>((l.getD i 0:Int):Rat)):=by
 have hx:∀i,eF (l.getD i 0):=fun i=>by
  by_cases hi:i<l.length
  ·rw[List.getD_eq_getElem?_getD,List.getElem?_eq_getElem hi];exact hl _ (List.getElem_mem hi)
  ·rw[List.getD_eq_getElem?_getD,List.getElem?_eq_none (by omega)];decide
 refine⟨?_,nU (fun i _=>(mm (hx i)).2.fq) (fun i hi=>?_) (by decide)⟩
 ·unfold bY
  refine bind_eq rfl<|bind_eq (pM (by omega) (by omega))<|bind_eq rfl ?_
  refine bh (fun j=>((j:Int),vq j (fun i=>((l.getD i 0:Int):Rat))++List.replicate (l.length-j) qz)) l.length (vq l.length fun i=>((l.getD i 0:Int):Rat)) rfl (fun j hj=>?_) ?_ rfl
  ·have e3:=(mm (hx j)).1
   have h4:=CO (h:=fun i=>((l.getD i 0:Int):Rat)) hj
   obtain⟨q3,h3⟩:∃q,qn ((l.getD j 0:Int):Rat)=q:=⟨_,rfl⟩
   rw[h3]at e3 h4
   obtain⟨⟨_,_⟩,⟨_,_⟩⟩:=q3
   refine bind_eq rfl<|fk (decide_eq_true (by omega))<|bind_eq (aU (jb hj))<|bind_eq e3<|bind_eq (cj (by rw[pS (by omega)];exact hj))<|bind_eq (e9 (by rw[pS (by omega)];exact hj))<|bind_eq rfl ?_
   rw[bK (by omega),h4]
  ·refine bind_eq rfl<|bH (decide_eq_false (by omega)) ?_
   simp
 ·show((l.getD i 0:Int):Rat)=0
  rw[iG hi];rfl
end ops
end Go.Proofs.Ytningmnklfpfjaa
namespace Go.Proofs.Ytningmnklfpfjaa
open Go.Fw
theorem dT{p:Prop}[Decidable p](h:p):(some (decide p):Option Bool)=some true:=congrArg some (decide_eq_true h)
theorem dF{p:Prop}[Decidable p](h:¬p):(some (decide p):Option Bool)=some false:=congrArg some (decide_eq_false h)
theorem Lp{β:Type}{x:Option Bool}{f:Bool→Option β}{r:Option β}{y:Option Bool}(h:x=some true)(hf:f true=r):(bif true then x else y).bind f=r:=by rw[ji,h];exact hf
theorem Wh{β:Type}{b c:Bool}{x:Option Bool}{f:Bool→Option β}{r:Option β}(h:b=false→x=some c)(hf:f (b||c)=r):(bif b then some true else x).bind f=r:=by
 cases b
 ·rw[ju,h rfl];exact hf
 ·rw[ji];exact hf
theorem Z4{β:Type}{b c:Bool}{x:Option Bool}{f:Bool→Option β}{r:Option β}(h:b=true→x=some c)(hf:f (b&&c)=r):(bif b then x else some false).bind f=r:=by
 cases b
 ·rw[ju];exact hf
 ·rw[ji,h rfl];exact hf
section ops
variable {K L M:Nat}{a b c:Qr}{x y z:Rat}
end ops
theorem eD.val{L:Nat}{v:List Qr}{f:Nat→Rat}(h:eD L v f)(i:Nat):f i=Z2 v i:=(h.at i).v.symm
theorem eD.of{L n:Nat}{v:List Qr}{f:Nat→Rat}(hn:v.length=n)(h:∀i q,v[i]? =some q→kE L q (f i))(h1:1≤L):eD L v (fun i=>if i<n then f i else 0):=by
 refine⟨fun i hi=>?_,fun i hi=>?_,h1⟩
 ·show kE L v[i] (if i<n then f i else 0)
  rw[if_pos (by omega)];exact h i _ (List.getElem?_eq_getElem hi)
 ·show(if i<n then f i else 0)=0
  rw[if_neg (by omega)]
end Go.Proofs.Ytningmnklfpfjaa
namespace Go.Proofs.Ytningmnklfpfjaa
open Go.Fw
def rM{α:Type}(f:Nat→α)(n k:Nat)(z:α):List α:=(List.range k).map f++List.replicate (n-k) z
theorem HL{α:Type}{f:Nat→α}{n k:Nat}{z:α}(hk:k≤n):(rM f n k z).length=n:=by simp[rM];omega
theorem FL{α:Type}{f:Nat→α}{n:Nat}{z:α}:rM f n 0 z=List.replicate n z:=by simp[rM]
theorem HM{α:Type}{f:Nat→α}{n:Nat}{z:α}:rM f n n z=(List.range n).map f:=by simp[rM]
theorem HN{α:Type}{f:Nat→α}{n k:Nat}{z:α}(hk:k<n):(rM f n k z).set k (f k)=rM f n (k+1) z:=by
 unfold rM
 rw[show n-k=(n-(k+1))+1 by omega,List.replicate_succ,List.set_append_right _ _ (by simp),List.length_map,List.length_range,Nat.sub_self,List.range_succ,List.map_append,List.append_assoc];rfl
def mq(n:Nat)(ln:Nat→Nat)(F:Nat→Nat→Rat):List (List Qr):=(List.range n).map fun i=>vq (ln i) (F i)
theorem gN(n:Nat)(ln:Nat→Nat)(F:Nat→Nat→Rat):(mq n ln F).length=n:=by simp[mq]
theorem nV{n i:Nat}{ln:Nat→Nat}{F:Nat→Nat→Rat}(hi:i<n):(mq n ln F)[i]? =some (vq (ln i) (F i)):=by simp[mq,hi]
theorem vk{n:Nat}{ln ln':Nat→Nat}{F G:Nat→Nat→Rat}(h:∀i,i<n→ln i=ln' i∧∀k,k<ln i→F i k=G i k):mq n ln F=mq n ln' G:=by
 unfold mq
 apply List.map_congr_left
 intro i hi
 obtain⟨h1,h2⟩:=h i (List.mem_range.1 hi)
 rw[gp h2,h1]
structure vm (L:Nat) (m:List (List Qr)) (F:Nat→Nat→Rat):Prop where
 e:∀i v,m[i]? =some v→eD L v (F i)
 z:∀i,m.length≤i→∀k,F i k=0
 l1:1≤L
theorem vm.row{L:Nat}{m:List (List Qr)}{F:Nat→Nat→Rat}(h:vm L m F)(i:Nat):eD L (m.getD i []) (F i):=by
 by_cases hi:i<m.length
 ·rw[List.getD_eq_getElem?_getD,List.getElem?_eq_getElem hi];exact h.e i _ (List.getElem?_eq_getElem hi)
 ·rw[List.getD_eq_getElem?_getD,List.getElem?_eq_none (by omega)]
  exact(eD.nil h.l1).congr (fun k=>(h.z i (by omega) k).symm)
theorem vm.mono{L M:Nat}{m:List (List Qr)}{F:Nat→Nat→Rat}(h:vm L m F)(hl:L≤M):vm M m F:=⟨fun i v e=>(h.e i v e).mono hl,h.z,Nat.le_trans h.l1 hl⟩
theorem Sx{L n:Nat}{ln:Nat→Nat}{F:Nat→Nat→Rat}(hf:∀i,i<n→∀k,k<ln i→FQ L (F i k))(hz:∀i,i<n→∀k,ln i≤k→F i k=0)(hz':∀i,n≤i→∀k,F i k=0)(h1:1≤L):vm L (mq n ln F) F:=by
 refine⟨fun i v e=>?_,fun i hi=>hz' i (by rwa[gN]at hi),h1⟩
 have hi:i<n:=by have:=(List.getElem?_eq_some_iff.1 e).1;rwa[gN]at this
 rw[nV hi]at e
 cases e
 exact nU (hf i hi) (hz i hi) h1
theorem mkm{n:Nat}(h:n≤1000000):A0 24 ((n:Nat):Int) ([]:List Qr)=some (List.replicate n []):=pM (by decide) (by omega)
theorem Lq(n:Nat)(h:n≤1000000):A0 64 ((n:Nat):Int) (⟨⟨false,[]⟩,⟨false,[]⟩⟩:Qr)=some (List.replicate n ⟨⟨false,[]⟩,⟨false,[]⟩⟩):=pM (by omega) (by omega)
theorem FM{E:Type}{body:Nat→Unit→Option (Unit⊕E)}{n:Nat}{p:Nat→Prop}[DecidablePred p]{e:E}(h:∀k,k<n→body k ()=some (if p k then .inl ()else .inr e)):mz body n ()=some (if ∀k,k<n→p k then .inl ()else .inr e):=by
 induction n with
 |zero=>rw[mz,if_pos (fun k hk=>by omega)]
 |succ n ih=>
  rw[mz,ih (fun k hk=>h k (by omega))]
  by_cases h1:∀k,k<n→p k
  ·rw[if_pos h1]
   show body n ()=_
   rw[h n (by omega)]
   by_cases h2:p n
   ·rw[if_pos h2,if_pos]
    intro k hk
    rcases Nat.lt_or_ge k n with q|q
    ·exact h1 k q
    ·obtain rfl:k=n:=by omega
     exact h2
   ·rw[if_neg h2,if_neg (fun q=>h2 (q n (by omega)))]
  ·rw[if_neg h1,if_neg (fun q=>h1 (fun k hk=>q k (by omega)))];rfl
section ops
variable {K L M:Nat}{c:Qr}{k:Rat}{a b:List (List Qr)}{F G:Nat→Nat→Rat}{x:List Qr}{f:Nat→Rat}
theorem Nq(a:List (List Qr))(i:Nat):ow a (i:Int)=some (a.getD i []):=by
 unfold ow
 refine eJ<|bind_eq (dF (by omega)) ?_
 by_cases h:i<a.length
 ·exact bind_eq (a:=false) (bH rfl<|bind_eq rfl<|bind_eq (dF (by omega)) rfl)<|bH rfl<|bind_eq (aU (jb h)) rfl
 ·rw[iG (by omega)]
  exact bind_eq (a:=true) (bH rfl<|bind_eq rfl<|bind_eq (dT (by omega)) rfl)<|fk rfl rfl
def wP(m:List (List Qr)):Nat:=m.foldl (fun n v=>max n v.length) 0
theorem Ad{m:List (List Qr)}{n:Nat}:wP m≤n↔∀v∈m,v.length≤n:=by
 have key:∀(l:List (List Qr)) (s:Nat),l.foldl (fun n v=>max n v.length) s≤n↔s≤n∧∀v∈l,v.length≤n:=by
  intro l
  induction l with
  |nil=>intro s;simp
  |cons v l ih=>
   intro s
   rw[List.foldl_cons,ih];simp only[List.mem_cons,forall_eq_or_imp]
   constructor
   ·rintro⟨h1,h2⟩;exact⟨by omega,by omega,h2⟩
   ·rintro⟨h1,h2,h3⟩;exact⟨by omega,h3⟩
 unfold wP
 rw[key];simp
theorem O2(m:List (List Qr))(h:m.length≤9223372036854775806):kN m=some (wP m:Int):=by
 unfold kN
 refine bind_eq rfl ?_
 refine bh (fun j=>(((m.take j).foldl (fun n v=>max n v.length) 0:Nat),(j:Int))) m.length ((wP m:Nat):Int) (by simp) (fun j hj=>?_) ?_ rfl
 ·refine bind_eq (dT (by omega))<|fk rfl<|bind_eq (aU (List.getElem?_eq_getElem hj))<|bind_eq rfl<|bind_eq rfl<|bind_eq (congrArg some (bK (by omega))) ?_
  rw[List.take_add_one,List.getElem?_eq_getElem hj,List.foldl_append]
  simp only[Option.toList_some,List.foldl_cons,List.foldl_nil]
  congr 3
  omega
 ·refine bind_eq (dF (by omega))<|bH rfl ?_
  rw[List.take_length];rfl
theorem Sy(h:vm L a F)(hL:L≤10000000000)(i j:Nat):rf a (i:Int) (j:Int)=some (qn (F i j)):=by
 unfold rf
 refine bind_eq (Nq a i)<|eJ<|bind_eq (dF (by omega)) ?_
 have hr:=h.row i
 generalize a.getD i []=v at hr
 by_cases hj:j<v.length
 ·obtain⟨q,e1,r1⟩:=hr.get hj
  have e2:=(r1.canon hL).1
  exact bind_eq (a:=false) (bH rfl<|bind_eq rfl<|bind_eq (dF (by omega)) rfl)<|bH rfl<|bind_eq (aU e1)<|bind_eq e2 rfl
 ·rw[hr.z j (by omega)]
  exact bind_eq (a:=true) (bH rfl<|bind_eq rfl<|bind_eq (dT (by omega)) rfl)<|fk rfl rfl
theorem O3{l:List (List Int)}(hl:∀v∈l,v.length≤1000∧∀y∈v,eF y)(hn:l.length≤1000):gb l=some (mq l.length (fun i=>(l.getD i []).length) (fun i j=>(((l.getD i []).getD j 0:Int):Rat)))∧vm 2 (mq l.length (fun i=>(l.getD i []).length) (fun i j=>(((l.getD i []).getD j 0:Int):Rat))) (fun i j=>(((l.getD i []).getD j 0:Int):Rat)):=by
 have hw:∀i,(l.getD i []).length≤1000∧∀y∈l.getD i [],eF y:=fun i=>by
  by_cases hi:i<l.length
  ·exact hl _ (List.mem_of_getElem? (jb (d:=[]) hi))
  ·rw[iG (by omega)];simp
 constructor
 ·unfold gb
  refine bind_eq rfl<|bind_eq (mkm (by omega))<|bind_eq rfl ?_
  refine bh (fun j=>((j:Int),rM (fun i=>vq (l.getD i []).length (fun j=>(((l.getD i []).getD j 0:Int):Rat))) l.length j [])) l.length (mq l.length (fun i=>(l.getD i []).length) (fun i j=>(((l.getD i []).getD j 0:Int):Rat))) (by rw[FL];rfl) (fun j hj=>?_) ?_ rfl
  ·have e1:=(vi (hw j).2 (by have:=(hw j).1;omega)).1
   have hl:(rM (fun i=>vq (l.getD i []).length (fun j=>(((l.getD i []).getD j 0:Int):Rat))) l.length j []).length=l.length:=HL (by omega)
   refine bind_eq (dT (by omega))<|fk rfl<|bind_eq (aU (jb (d:=[]) hj))<|bind_eq e1<|bind_eq (cj (show j<_ by rw[hl];exact hj))<|bind_eq (e9 (show j<_ by rw[hl];exact hj))<|bind_eq (congrArg some (bK (by omega))) ?_
   rw[←HN hj]
  ·refine bind_eq (dF (by omega))<|bH rfl ?_
   rw[HM];rfl
 ·refine Sx (fun i hi j hj=>(vi (hw i).2 (by have:=(hw i).1;omega)).2.fq j) (fun i hi j hj=>by rw[iG hj];rfl) (fun i hi j=>by rw[iG hi];rfl) (by decide)
end ops
end Go.Proofs.Ytningmnklfpfjaa
namespace Go.Proofs.Ytningmnklfpfjaa
open Go.Fw
theorem O4{α:Type}{b:Bool}{x y r:α}(ht:b=true→x=r)(hf:b=false→y=r):(bif b then x else y)=r:=by
 cases b
 ·rw[ju];exact hf rfl
 ·rw[ji];exact ht rfl
theorem HO{E:Type}{body:Int→Option (Int⊕(Unit⊕E))}{n:Nat}{p:Nat→Prop}[DecidablePred p]{e:E}(h:∀k:Nat,k<n→body (k:Int)=some (if p k then .inl ((k+1:Nat):Int)else .inr (.inr e)))(hn:body (n:Int)=some (.inr (.inl ()))):
  cq body 0=some (if ∀k,k<n→p k then .inl ()else .inr e):=by
 obtain⟨r,h1,h2⟩:=vC (body:=body) (s:=0) (fun s=>∃k:Nat,s=(k:Int)∧k≤n∧∀i,i<k→p i) (fun r=>(r=.inl ()∧∀k,k<n→p k)∨(r=.inr e∧¬∀k,k<n→p k)) (fun s=>n-s.toNat) (by
  rintro _ ⟨k,rfl,hk,hp⟩
  by_cases hlt:k<n
  ·by_cases hpk:p k
   ·refine .inl ⟨_,by rw[h k hlt,if_pos hpk],⟨k+1,rfl,hlt,fun i hi=>?_⟩,by simp only[Int.toNat_natCast];omega⟩
    rcases Nat.lt_or_ge i k with q|q
    ·exact hp i q
    ·obtain rfl:i=k:=by omega
     exact hpk
   ·exact .inr ⟨_,by rw[h k hlt,if_neg hpk],.inr ⟨rfl,fun q=>hpk (q k hlt)⟩⟩
  ·obtain rfl:k=n:=by omega
   exact .inr ⟨_,hn,.inl ⟨rfl,hp⟩⟩) ⟨0,rfl,by omega,fun i hi=>by omega⟩
 rw[h1]
 rcases h2 with⟨rfl,h2⟩|⟨rfl,h2⟩
 ·rw[if_pos h2]
 ·rw[if_neg h2]
def Nr(n:Nat)(f:Nat→Rat)(i:Nat):Rat:=if i<n then f i else 0
theorem vn{n i:Nat}{f:Nat→Rat}(h:i<n):Nr n f i=f i:=if_pos h
theorem Ns{n i:Nat}{f:Nat→Rat}(h:n≤i):Nr n f i=0:=if_neg (by omega)
theorem SA(n:Nat)(f:Nat→Rat):vq n f=vq n (Nr n f):=gp (fun i hi=>(vn hi).symm)
theorem GI{L n:Nat}{f:Nat→Rat}(h:∀i,i<n→FQ L (f i))(h1:1≤L):eD L (vq n f) (Nr n f):=by
 rw[SA]
 exact nU (fun i hi=>by rw[vn hi];exact h i hi) (fun i hi=>Ns hi) h1
def LR(n:Int)(ob rw:List (List Qr))(bd:List Qr):Prop:=0≤n∧n≤64∧1≤ob.length∧ob.length≤4∧rw.length≤128∧bd.length=rw.length∧(wP ob:Int)≤n∧(wP rw:Int)≤n
instance(n:Int)(ob rw:List (List Qr))(bd:List Qr):Decidable (LR n ob rw bd):=by unfold LR;exact inferInstance
theorem Ls{n:Int}{ob rw:List (List Qr)}{bd:List Qr}(h1:ob.length≤9223372036854775806)(h2:rw.length≤9223372036854775806):mP ⟨n,ob,rw,bd⟩=some (decide (LR n ob rw bd)):=by
 unfold mP mg
 refine bind_eq (bind_eq rfl<|bind_eq rfl<|bind_eq rfl rfl)<|eJ<|bind_eq rfl<|Wh (fun _=>bind_eq rfl rfl)<|Wh (fun _=>bind_eq rfl rfl)<|Wh (fun _=>bind_eq rfl rfl)<|O4 (fun h=>?_) (fun h=>eJ<|bind_eq rfl<|Wh (fun _=>bind_eq rfl rfl)<|O4 (fun h'=>?_) (fun h'=>eJ<|bind_eq (O2 ob h1)<|bind_eq rfl<|Z4 (fun _=>bind_eq (O2 rw h2)<|bind_eq rfl rfl) ?_))
 ·congr 1;symm;rw[decide_eq_false_iff_not]
  simp only[Bool.or_eq_true,decide_eq_true_eq]at h
  unfold LR;omega
 ·congr 1;symm;rw[decide_eq_false_iff_not]
  simp only[Bool.or_eq_true,decide_eq_true_eq]at h'
  unfold LR;omega
 ·congr 1
  simp only[Bool.or_eq_false_iff,decide_eq_false_iff_not]at h h'
  rw[←Bool.decide_and,decide_eq_decide]
  unfold LR;omega
section lps
variable {K L M N:Nat}{n:Int}{ob rw:List (List Qr)}{bd x y:List Qr}{O F:Nat→Nat→Rat}{g f:Nat→Rat}
end lps
end Go.Proofs.Ytningmnklfpfjaa
namespace Go.Proofs.Ytningmnklfpfjaa
open Go.Fw
def bq(m:Nat)(b:Nat→Nat):List Int:=(List.range m).map fun j=>((b j:Nat):Int)
theorem wj(m:Nat)(b:Nat→Nat):(bq m b).length=m:=by simp[bq]
theorem wm{m j:Nat}{b:Nat→Nat}(h:j<m):(bq m b)[j]? =some ((b j:Nat):Int):=by simp[bq,h]
theorem Nt(m:Nat)(b:Nat→Nat):bq (m+1) b=bq m b++[((b m:Nat):Int)]:=by simp[bq,List.range_succ]
theorem SB{m r c:Nat}{b:Nat→Nat}(hr:r<m):(bq m b).set r (c:Int)=bq m (fun j=>if j=r then c else b j):=by
 apply List.ext_getElem?
 intro j
 rw[List.getElem?_set,wj]
 by_cases hj:j<m
 ·rw[wm hj]
  by_cases e:r=j
  ·subst e;rw[if_pos rfl,if_pos hr,wm hr,if_pos rfl]
  ·rw[if_neg e,wm hj,if_neg (fun q=>e q.symm)]
 ·rw[List.getElem?_eq_none (l:=bq m _) (by rw[wj];omega),List.getElem?_eq_none (l:=bq m _) (by rw[wj];omega)]
  by_cases e:r=j
  ·rw[if_pos e,if_neg (by omega)]
  ·rw[if_neg e]
abbrev FN(n m p:Nat)(O F:Nat→Nat→Rat)(b:Nat→Nat):Tb:=⟨true,(n:Int),mq p (fun _=>n) O,bq m b,mq m (fun _=>n+m+1) F⟩
structure xx (L n m p:Nat) (O F:Nat→Nat→Rat) (b:Nat→Nat):Prop where
 f:∀i,i<m→∀k,FQ L (F i k)
 o:∀i,i<p→∀k,FQ L (O i k)
 z:∀i,i<m→∀k,n+m+1≤k→F i k=0
 l1:1≤L
 hn:n≤64
 hm:m≤128
 hp:p≤4
 hb:∀j,j<m→b j<n+m
section Z5
variable {L n m p:Nat}{O F:Nat→Nat→Rat}{b:Nat→Nat}
theorem lI(n m p:Nat)(O F:Nat→Nat→Rat)(b:Nat→Nat):b9 (FN n m p O F b)=some false:=by
 unfold b9
 exact eJ<|bind_eq (a:=false) (bH rfl<|bind_eq rfl rfl) rfl
theorem FO(hn:n≤64)(hm:m≤128):eL (FN n m p O F b)=some ((n+m:Nat):Int):=by
 unfold eL
 refine bind_eq rfl<|bind_eq (congrArg some ?_) rfl
 rw[gN,bZ (by omega) (by omega)];omega
theorem VL{i:Nat}(h:xx L n m p O F b)(hi:i<m):eD L (vq (n+m+1) (F i)) (F i):=nU (fun k _=>h.f i hi k) (fun k hk=>h.z i hi k hk) h.l1
theorem GJ(h:xx L n m p O F b)(hL:L≤4000000000){c:Nat}(hc:c<n+m+1):fJ (FN n m p O F b) (c:Int)=some (vq m (fun i=>F i c)):=by
 have hm:=h.hm
 unfold fJ
 show(some ((mq m (fun _=>n+m+1) F).length:Int)).bind _=_
 refine bind_eq rfl ?_
 rw[gN]
 refine bind_eq (Lq m (by omega))<|bind_eq rfl ?_
 refine bh (fun k=>((k:Int),vq k (fun i=>F i c)++List.replicate (m-k) qz)) m (vq m (fun i=>F i c)) rfl (fun k hk=>?_) ?_ rfl
 ·have g1:(mq m (fun _=>n+m+1) F)[k]? =some (vq (n+m+1) (F k)):=nV hk
  have g2:(vq (n+m+1) (F k))[c]? =some (qn (F k c)):=lT hc
  have e:=(((h.f k hk c).rep h.l1).canon (by omega)).1
  have s:=CO (h:=fun i=>F i c) hk
  have hl:(vq k (fun i=>F i c)++List.replicate (m-k) qz).length=m:=pS (by omega)
  rw[←s]
  generalize vq k (fun i=>F i c)++List.replicate (m-k) qz=l at*
  clear s
  show(some (decide ((k:Int)<(m:Int)))).bind _=_
  generalize qn (F k c)=q at*
  obtain⟨⟨_,_⟩,⟨_,_⟩⟩:=q
  exact bind_eq (dT (by omega))<|fk rfl<|bind_eq (aU g1)<|bind_eq (aU g2)<|bind_eq e<|bind_eq (cj (by omega))<|bind_eq (e9 (by omega))<|bind_eq (congrArg some (bK (by omega))) rfl
 ·simp only[Nat.sub_self,List.replicate_zero,List.append_nil]
  exact bind_eq (dF (by omega))<|bH rfl rfl
def pU(n p:Nat)(O:Nat→Nat→Rat)(c:Nat)(i:Nat):Rat:=if c<n then(if i<p then O i c else if i=p+c then-1 else 0)else 0
theorem oO{k j:Nat}{h:Nat→Rat}{x:Rat}(hj:j<k):(vq k h).set j (qn x)=vq k (fun i=>if i=j then x else h i):=by
 apply List.ext_getElem?
 intro i
 rw[List.getElem?_set,bQ]
 by_cases hi:i<k
 ·rw[lT hi]
  by_cases e:j=i
  ·subst e;rw[if_pos rfl,if_pos hj,lT hj,if_pos rfl]
  ·rw[if_neg e,lT hi,if_neg (fun q=>e q.symm)]
 ·rw[List.getElem?_eq_none (l:=vq k _) (by rw[bQ];omega),List.getElem?_eq_none (l:=vq k _) (by rw[bQ];omega)]
  by_cases e:j=i
  ·rw[if_pos e,if_neg (by omega)]
  ·rw[if_neg e]
theorem xX(k:Nat):List.replicate k (⟨⟨false,[]⟩,⟨false,[]⟩⟩:Qr)=vq k (fun _=>0):=by
 apply List.ext_getElem?
 intro i
 by_cases hi:i<k
 ·rw[lT hi,List.getElem?_replicate,if_pos hi];rfl
 ·rw[List.getElem?_eq_none (by simp;omega),List.getElem?_eq_none (by rw[bQ];omega)]
theorem Nu:cy (-1)=some (qn (-1)):=(mm (n:=-1) (by decide)).1
theorem one_eq:cy 1=some (qn 1)∧kE 2 (qn 1) 1:=mm (n:=1) (by decide)
theorem Lt(h:xx L n m p O F b){c:Nat}(hc:c<n+m):hG (FN n m p O F b) (c:Int)=some (vq (p+n) (pU n p O c)):=by
 have hm:=h.hm
 have hn:=h.hn
 have hp:=h.hp
 unfold hG
 show(some ((mq p (fun _=>n) O).length:Int)).bind _=_
 refine bind_eq rfl ?_
 rw[gN]
 refine bind_eq (congrArg some (show IntKind.i64.wrap ((p:Int)+(n:Int))=((p+n:Nat):Int) by rw[bZ (by omega) (by omega)];omega))<|bind_eq (Lq (p+n) (by omega))<|bind_eq rfl<|eJ ?_
 rw[xX]
 by_cases Z6:c<n
 ·refine fk (decide_eq_true (show(c:Int)<(n:Int) by omega))<|bind_eq rfl ?_
  refine bh (fun k=>((k:Int),vq (p+n) (fun i=>if i<k then O i c else 0))) p (vq (p+n) (fun i=>if i<p then O i c else 0)) (by simp) (fun k hk=>?_) ?_ ?_
  ·have g1:(mq p (fun _=>n) O)[k]? =some (vq n (O k)):=nV hk
   have g2:(vq n (O k))[c]? =some (qn (O k c)):=lT Z6
   have s:=oO (k:=p+n) (j:=k) (h:=fun i=>if i<k then O i c else 0) (x:=O k c) (by omega)
   have s2:vq (p+n) (fun i=>if i=k then O k c else if i<k then O i c else 0)=vq (p+n) (fun i=>if i<k+1 then O i c else 0):=gp (fun i _=>by
    by_cases e:i=k
    ·subst e;simp
    ·rw[if_neg e]
     by_cases e2:i<k
     ·rw[if_pos e2,if_pos (by omega)]
     ·rw[if_neg e2,if_neg (by omega)])
   rw[s2]at s
   have hl:=bQ (p+n) (fun i=>if i<k then O i c else 0)
   rw[←s]
   generalize vq (p+n) (fun i=>if i<k then O i c else 0)=l at*
   clear s s2
   show(some (decide ((k:Int)<(p:Int)))).bind _=_
   generalize qn (O k c)=q at*
   obtain⟨⟨_,_⟩,⟨_,_⟩⟩:=q
   exact bind_eq (dT (by omega))<|fk rfl<|bind_eq (aU g1)<|bind_eq (aU g2)<|bind_eq (cj (by omega))<|bind_eq (e9 (by omega))<|bind_eq (congrArg some (bK (by omega))) rfl
  ·exact bind_eq (dF (by omega))<|bH rfl rfl
  ·have s:=oO (k:=p+n) (j:=p+c) (h:=fun i=>if i<p then O i c else 0) (x:=-1) (by omega)
   have s2:vq (p+n) (fun i=>if i=p+c then(-1:Rat)else if i<p then O i c else 0)=vq (p+n) (pU n p O c):=gp (fun i _=>by
    unfold pU
    rw[if_pos Z6]
    by_cases e:i=p+c
    ·rw[if_pos e,if_neg (by omega),if_pos e]
    ·rw[if_neg e,if_neg e])
   rw[s2]at s
   have hl:=bQ (p+n) (fun i=>if i<p then O i c else 0)
   have e1:=Nu
   rw[←s]
   generalize vq (p+n) (fun i=>if i<p then O i c else 0)=l at*
   clear s s2
   generalize qn (-1)=q at*
   obtain⟨⟨_,_⟩,⟨_,_⟩⟩:=q
   exact bind_eq rfl<|bind_eq (congrArg some (show IntKind.i64.wrap ((p:Int)+(c:Int))=((p+c:Nat):Int) by rw[bZ (by omega) (by omega)];omega))<|bind_eq e1<|bind_eq (cj (by omega))<|bind_eq (e9 (by omega)) rfl
 ·refine bH (decide_eq_false (show ¬(c:Int)<(n:Int) by omega)) ?_
  exact congrArg some (gp (fun i _=>by unfold pU;rw[if_neg Z6]))
theorem Lu(h:xx L n m p O F b)(c i:Nat):FQ L (pU n p O c i):=by
 unfold pU
 have hl:=h.l1
 split
 ·split
  ·exact h.o _ (by assumption) _
  ·split
   ·exact(FQ.int (i:=-1) (L:=L) (by unfold Fit;exact Nat.lt_of_lt_of_le (by decide:(-1:Int).natAbs<4294967296^1) (Nat.pow_le_pow_right (by decide) hl)) hl)
   ·exact xW hl
 ·exact xW hl
theorem GK(h:xx L n m p O F b)(c:Nat):eD L (vq (p+n) (pU n p O c)) (pU n p O c):=nU (fun i _=>Lu h c i) (fun i hi=>by
 unfold pU
 split
 ·rw[if_neg (by omega),if_neg (by omega)]
 ·rfl) h.l1
def pV(n p:Nat)(O:Nat→Nat→Rat)(b:Nat→Nat)(g:Nat→Rat)(m:Nat)(i:Nat):Rat:=AT (fun j=>g j*pU n p O (b j) i) m
theorem SC{g:Nat→Rat}{k i:Nat}(hi:p+n≤i):pV n p O b g k i=0:=by
 unfold pV
 rw[Aa (k:=fun _=>0) (fun j _=>?_),BD]
 unfold pU
 split
 ·rw[if_neg (by omega),if_neg (by omega)];grind
 ·grind
theorem xY(h:xx L n m p O F b){g:Nat→Rat}(hg:∀j,j<m→FQ L (g j)):∀k,k≤m→∀i,FQ (k*(L+L+1)+1) (pV n p O b g k i)
 |0,_,i=>by show FQ (0*(L+L+1)+1) (0:Rat);rw[Nat.zero_mul];exact xW (by decide)
 |k+1,hk,i=>by
  have e:=(xY h hg k (by omega) i).add ((hg k (by omega)).mul (Lu h (b k) i))
  exact e.mono (by rw[Nat.succ_mul];generalize k*(L+L+1)=q;omega)
theorem Ev(h:xx L n m p O F b){g:Nat→Rat}(hg:∀j,j<m→FQ L (g j)){k:Nat}(hk:k≤m):eD (k*(L+L+1)+1) (vq (p+n) (pV n p O b g k)) (pV n p O b g k):=nU (fun i _=>xY h hg k hk i) (fun i hi=>SC hi) (by omega)
theorem BE(h:xx L n m p O F b)(hL:L≤10000000){g:Nat→Rat}(hg:∀j,j<m→FQ L (g j)):ei (FN n m p O F b) (vq m g)=some (vq (p+n) (pV n p O b g m)):=by
 have hm:=h.hm
 have hn:=h.hn
 have hp:=h.hp
 have h1:=h.l1
 unfold ei
 show(some ((mq p (fun _=>n) O).length:Int)).bind _=_
 refine bind_eq rfl ?_
 rw[gN]
 refine bind_eq (congrArg some (show IntKind.i64.wrap ((p:Int)+(n:Int))=((p+n:Nat):Int) by rw[bZ (by omega) (by omega)];omega))<|bind_eq (Lq (p+n) (by omega))<|bind_eq (congrArg some (show((vq m g).length:Int)=(m:Int) by rw[bQ])) ?_
 rw[xX]
 refine bh (fun k=>(vq (p+n) (pV n p O b g k),(k:Int))) m (vq (p+n) (pV n p O b g m)) rfl (fun k hk=>?_) ?_ rfl
 ·have g1:(vq m g)[k]? =some (qn (g k)):=lT hk
  have g2:=wm (b:=b) hk
  have rg:=(hg k hk).rep h1
  have sg:=rg.sign (by omega)
  have Pn:=h.hb k hk
  have tv:=Lt h Pn
  have va:=O1 rg (GK h (b k)) (Ev h hg (Nat.le_of_lt hk)) (by have:=Nat.mul_le_mul_right (L+L+1) (show k≤128 by omega);omega) (by rw[bQ];omega) (by rw[bQ];omega)
  have e0:vq (max (vq (p+n) (pU n p O (b k))).length (vq (p+n) (pV n p O b g k)).length) (fun i=>g k*pU n p O (b k) i+pV n p O b g k i)=vq (p+n) (pV n p O b g (k+1)):=by
   rw[bQ,bQ,Nat.max_self]
   refine gp (fun i _=>?_)
   show _=AT _ k+_
   unfold pV;grind
  rw[e0]at va
  have same:g k*pU n p O (b k) 0=g k*pU n p O (b k) 0:=rfl
  have skip:(¬(b k<n)∨g k=0)→vq (p+n) (pV n p O b g k)=vq (p+n) (pV n p O b g (k+1)):=fun q=>gp (fun i _=>by
   show pV n p O b g k i=AT _ k+_
   have:g k*pU n p O (b k) i=0:=by
    rcases q with q|q
    ·unfold pU;rw[if_neg q];grind
    ·rw[q];grind
   show pV n p O b g k i=pV n p O b g k i+g k*pU n p O (b k) i
   rw[this];grind)
  replace va:=va.1
  show(some (decide ((k:Int)<(m:Int)))).bind _=_
  have Z7:(some (decide (nT (g k) 0≠0)):Option Bool)=some (decide (g k≠0)):=by
   congr 1
   by_cases q:g k=0
   ·rw[decide_eq_false (by rw[q,HJ];simp),decide_eq_false (by simp[q])]
   ·rw[decide_eq_true (show nT (g k) 0≠0 from fun e=>q (oN.1 e)),decide_eq_true q]
  generalize hq:qn (g k)=q at*
  obtain⟨⟨q1,q2⟩,⟨q3,q4⟩⟩:=q
  refine bind_eq (dT (by omega))<|fk rfl<|bind_eq (aU g1)<|eJ<|bind_eq (aU g2)<|bind_eq rfl ?_
  by_cases Px:b k<n
  ·refine bind_eq (a:=decide (g k≠0)) (fk (decide_eq_true (show((b k:Nat):Int)<(n:Int) by omega))<|bind_eq sg<|bind_eq Z7 rfl)<|eJ ?_
   by_cases h0:g k=0
   ·refine bH (by simp[h0]) ?_
    rw[skip (.inr h0)]
    exact bind_eq (congrArg some (bK (by omega))) rfl
   ·refine fk (by simp[h0]) ?_
    exact bind_eq (aU g2)<|bind_eq tv<|bind_eq va<|bind_eq (congrArg some (bK (by omega))) rfl
  ·refine bind_eq (a:=false) (bH (decide_eq_false (show ¬((b k:Nat):Int)<(n:Int) by omega)) rfl)<|eJ<|bH rfl ?_
   rw[skip (.inl Px)]
   exact bind_eq (congrArg some (bK (by omega))) rfl
 ·exact bind_eq (dF (by omega))<|bH rfl rfl
theorem HP(h:xx L n m p O F b)(hL:L≤4000000000):eT (FN n m p O F b)=some (vq m (fun i=>F i (n+m))):=by
 unfold eT
 exact bind_eq (lI n m p O F b)<|bH rfl<|bind_eq (FO h.hn h.hm)<|bind_eq (GJ h hL (by omega)) rfl
def Ew(n m p:Nat)(O F:Nat→Nat→Rat)(b:Nat→Nat)(c:Nat)(i:Nat):Rat:=pV n p O b (fun j=>F j c) m i-pU n p O c i
theorem Lw(h:xx L n m p O F b)(hL:L≤10000000){c:Nat}(hc:c<n+m):cC (FN n m p O F b) (c:Int)=some (vq (p+n) (Ew n m p O F b c))∧eD (m*(L+L+1)+1+L+1) (vq (p+n) (Ew n m p O F b c)) (Ew n m p O F b c):=by
 have hm:=h.hm
 have hn:=h.hn
 have hp:=h.hp
 have w:=BE h hL (g:=fun j=>F j c) (fun j hj=>h.f j hj c)
 have s:=Z3 (Ev h (g:=fun j=>F j c) (fun j hj=>h.f j hj c) (Nat.le_refl m)) (GK h c) (by have:=Nat.mul_le_mul_right (L+L+1) hm;omega) (by rw[bQ];omega) (by rw[bQ];omega)
 rw[bQ,bQ,Nat.max_self]at s
 refine⟨?_,s.2⟩
 unfold cC
 exact eJ<|bind_eq (lI n m p O F b)<|bind_eq (a:=false) (bH rfl<|bind_eq (dF (by omega)) rfl)<|bind_eq (a:=false) (bH rfl<|bind_eq (FO hn hm)<|bind_eq (dF (by omega)) rfl)<|bH rfl<|bind_eq (GJ h (by omega) (by omega))<|bind_eq w<|bind_eq (Lt h hc)<|bind_eq s.1 rfl
theorem GL(h:xx L n m p O F b)(hL:L≤10000000):iY (FN n m p O F b)=some (vq (p+n) (pV n p O b (fun j=>F j (n+m)) m)):=by
 unfold iY
 exact bind_eq (lI n m p O F b)<|bH rfl<|bind_eq (HP h (by omega))<|bind_eq (BE h hL (g:=fun j=>F j (n+m)) (fun j hj=>h.f j hj _)) rfl
def xy(n m:Nat)(F:Nat→Nat→Rat)(b:Nat→Nat):Nat→Nat→Rat
 |0,_=>0
 |j+1,i=>if b j<n∧i=b j then F j (n+m)else xy n m F b j i
theorem HQ(h:xx L n m p O F b)(hL:L≤4000000000):gh (FN n m p O F b)=some (vq n (xy n m F b m)):=by
 have hm:=h.hm
 have hn:=h.hn
 unfold gh
 refine bind_eq (lI n m p O F b)<|bH rfl<|bind_eq (Lq n (by omega))<|bind_eq (HP h hL)<|bind_eq (congrArg some (show((vq m _).length:Int)=(m:Int) by rw[bQ])) ?_
 rw[xX]
 refine bh (fun k=>((k:Int),vq n (xy n m F b k))) m (vq n (xy n m F b m)) rfl (fun k hk=>?_) ?_ rfl
 ·have g1:(vq m (fun i=>F i (n+m)))[k]? =some (qn (F k (n+m))):=lT hk
  have g2:=wm (b:=b) hk
  have hl:=bQ n (xy n m F b k)
  show(some (decide ((k:Int)<(m:Int)))).bind _=_
  by_cases Px:b k<n
  ·have s:=oO (k:=n) (j:=b k) (h:=xy n m F b k) (x:=F k (n+m)) Px
   have s2:vq n (fun i=>if i=b k then F k (n+m)else xy n m F b k i)=vq n (xy n m F b (k+1)):=gp (fun i _=>by
    show _=if b k<n∧i=b k then _ else _
    by_cases e:i=b k
    ·rw[if_pos e,if_pos ⟨Px,e⟩]
    ·rw[if_neg e,if_neg (fun q=>e q.2)])
   rw[s2]at s
   rw[←s]
   clear s s2
   generalize vq n (xy n m F b k)=l at*
   generalize qn (F k (n+m))=q at*
   obtain⟨⟨_,_⟩,⟨_,_⟩⟩:=q
   exact bind_eq (dT (by omega))<|fk rfl<|bind_eq (aU g1)<|bind_eq (aU g2)<|bind_eq rfl<|eJ<|fk (decide_eq_true (show((b k:Nat):Int)<(n:Int) by omega))<|bind_eq (aU g2)<|bind_eq (cj (by omega))<|bind_eq (e9 (by omega))<|bind_eq (congrArg some (bK (by omega))) rfl
  ·have s2:vq n (xy n m F b k)=vq n (xy n m F b (k+1)):=gp (fun i _=>by
    show _=if b k<n∧i=b k then _ else _
    rw[if_neg (fun q=>Px q.1)])
   rw[←s2]
   generalize qn (F k (n+m))=q at*
   obtain⟨⟨_,_⟩,⟨_,_⟩⟩:=q
   exact bind_eq (dT (by omega))<|fk rfl<|bind_eq (aU g1)<|bind_eq (aU g2)<|bind_eq rfl<|eJ<|bH (decide_eq_false (show ¬((b k:Nat):Int)<(n:Int) by omega))<|bind_eq (congrArg some (bK (by omega))) rfl
 ·exact bind_eq (dF (by omega))<|bH rfl rfl
theorem HR(h:xx L n m p O F b)(hL:L≤4000000000):gi (FN n m p O F b)=some (decide (∀i,i<m→0≤F i (n+m))):=by
 have hm:=h.hm
 unfold gi
 refine bind_eq (lI n m p O F b)<|bH rfl<|bind_eq (HP h hL)<|bind_eq (congrArg some (show((vq m _).length:Int)=(m:Int) by rw[bQ])) ?_
 refine bind_eq (HO (n:=m) (p:=fun i=>0≤F i (n+m)) (e:=false) (fun k hk=>?_) (bind_eq (dF (by omega))<|bH rfl rfl)) ?_
 ·have g1:(vq m (fun i=>F i (n+m)))[k]? =some (qn (F k (n+m))):=lT hk
  have sg:=((h.f k hk (n+m)).rep h.l1).sign (by omega)
  generalize qn (F k (n+m))=q at*
  obtain⟨⟨_,_⟩,⟨_,_⟩⟩:=q
  refine bind_eq (dT (by omega))<|fk rfl<|bind_eq (aU g1)<|bind_eq sg<|bind_eq rfl ?_
  by_cases q:F k (n+m)<0
  ·rw[if_neg (by grind)]
   exact fk (decide_eq_true (Es.2 q)) rfl
  ·rw[if_pos (by grind)]
   exact bH (decide_eq_false (fun e=>q (Es.1 e)))<|bind_eq (congrArg some (bK (by omega))) rfl
 ·by_cases q:∀i,i<m→0≤F i (n+m)
  ·rw[if_pos q,decide_eq_true q]
  ·rw[if_neg q,decide_eq_false q]
theorem Ex(h:xx L n m p O F b)(hL:L≤10000000):fN (FN n m p O F b)=some (decide (∀c,c<n+m→0≤mZ (Ew n m p O F b c) (fun _=>0) (p+n))):=by
 have hm:=h.hm
 have hn:=h.hn
 unfold fN
 refine bind_eq (lI n m p O F b)<|bH rfl ?_
 have hw:(IntKind.i64.wrap (Tb.vars (FN n m p O F b)+((Tb.rows (FN n m p O F b)).length:Int))).toNat=n+m:=by
  show(IntKind.i64.wrap ((n:Int)+((mq m (fun _=>n+m+1) F).length:Int))).toNat=_
  rw[gN,bZ (by omega) (by omega)];omega
 refine bind_eq (a:=if ∀c,c<n+m→0≤mZ (Ew n m p O F b c) (fun _=>0) (p+n)then .inl ()else .inr false) ?_ ?_
 ·refine Eq.trans (congrArg (fun k=>mz _ k ()) hw) ?_
  refine FM (n:=n+m) (p:=fun c=>0≤mZ (Ew n m p O F b c) (fun _=>0) (p+n)) (e:=false) (fun k hk=>?_)
  obtain⟨e,r⟩:=Lw h hL hk
  have sg:=VK r (by have:=Nat.mul_le_mul_right (L+L+1) hm;omega)
  rw[bQ]at sg
  refine bind_eq rfl<|bind_eq e<|bind_eq sg<|bind_eq rfl ?_
  by_cases q:0≤mZ (Ew n m p O F b k) (fun _=>0) (p+n)
  ·rw[if_pos q];exact bH (decide_eq_false (by omega)) rfl
  ·rw[if_neg q];exact fk (decide_eq_true (by omega)) rfl
 ·by_cases q:∀c,c<n+m→0≤mZ (Ew n m p O F b c) (fun _=>0) (p+n)
  ·rw[if_pos q,decide_eq_true q]
  ·rw[if_neg q,decide_eq_false q]
end Z5
end Go.Proofs.Ytningmnklfpfjaa
namespace Go.Proofs.Ytningmnklfpfjaa
open Go.Fw
def oP(F:Nat→Nat→Rat)(r c i k:Nat):Rat:=if i=r then F r k/F r c else F i k-F i c*(F r k/F r c)
section Z5
variable {L n m p:Nat}{O F:Nat→Nat→Rat}{b:Nat→Nat}
theorem Lx(h:xx L n m p O F b){r c:Nat}(hr:r<m)(h0:F r c≠0){i:Nat}(hi:i<m)(k:Nat):FQ (4*L+1) (oP F r c i k):=by
 have e:=(h.f r hr k).div (h.f r hr c) h0
 unfold oP
 split
 ·exact e.mono (by omega)
 ·exact((h.f i hi k).sub ((h.f i hi c).mul e)).mono (by omega)
theorem O5(h:xx L n m p O F b){r i:Nat}(hr:r<m)(c:Nat)(hi:i<m){k:Nat}(hk:n+m+1≤k):oP F r c i k=0:=by
 unfold oP
 rw[h.z r hr k hk,h.z i hi k hk]
 have e:(0:Rat)/F r c=0:=by rw[Rat.div_def,Rat.zero_mul]
 rw[e]
 split
 ·rfl
 ·grind
theorem Ly(h:xx L n m p O F b){r c:Nat}(hr:r<m)(hc:c<n+m)(h0:F r c≠0):xx (4*L+1) n m p O (oP F r c) (fun j=>if j=r then c else b j):=
 ⟨fun i hi k=>Lx h hr h0 hi k,fun i hi k=>(h.o i hi k).mono (by omega),fun i hi k hk=>O5 h hr c hi hk,by omega,h.hn,h.hm,h.hp,fun j hj=>by
  show(if j=r then c else b j)<n+m
  split
  ·exact hc
  ·exact h.hb j hj⟩
theorem Nv(h:xx L n m p O F b)(hL:L≤100000000){r c:Nat}(hr:r<m)(hc:c<n+m+1)(h0:F r c≠0){o0:Bool}{o1:Int}{o2 rows:List (List Qr)}{o3:List Int}(hrow:rows[r]? =some (vq (n+m+1) (oP F r c r))){i:Nat}(hi:i<m)(hne:i≠r):
  jg o0 o1 o2 o3 rows (vq (n+m+1) (F i)) c r=some (vq (n+m+1) (oP F r c i)):=by
 have hm:=h.hm
 have hn:=h.hn
 have h1:=h.l1
 have g1:(vq (n+m+1) (F i))[c]? =some (qn (F i c)):=lT hc
 have rq:=(h.f i hi c).rep h1
 have sg:=rq.sign (by omega)
 have ng:=rq.neg (by omega)
 have Nk:r<rows.length:=(List.getElem?_eq_some_iff.1 hrow).1
 have va:=O1 ng.2 (nU (n:=n+m+1) (h:=oP F r c r) (fun k _=>Lx h hr h0 hr k) (fun k hk=>O5 h hr c hr hk) (show 1≤4*L+1 by omega)) (VL h hi) (by omega) (by rw[bQ];omega) (by rw[bQ];omega)
 have e0:vq (max (vq (n+m+1) (oP F r c r)).length (vq (n+m+1) (F i)).length) (fun k=>-F i c*oP F r c r k+F i k)=vq (n+m+1) (oP F r c i):=by
  rw[bQ,bQ,Nat.max_self]
  refine gp (fun k _=>?_)
  unfold oP
  rw[if_pos rfl,if_neg hne];grind
 rw[e0]at va
 replace va:=va.1
 have same:F i c=0→vq (n+m+1) (F i)=vq (n+m+1) (oP F r c i):=fun q=>gp (fun k _=>by
  unfold oP
  rw[if_neg hne,q];grind)
 have Z7:(some (decide (nT (F i c) 0=0)):Option Bool)=some (decide (F i c=0)):=by
  congr 1
  by_cases q:F i c=0
  ·rw[decide_eq_true (show nT (F i c) 0=0 from oN.2 q),decide_eq_true q]
  ·rw[decide_eq_false (show ¬nT (F i c) 0=0 from fun e=>q (oN.1 e)),decide_eq_false q]
 unfold jg
 replace ng:=ng.1
 generalize qn (F i c)=q at*
 generalize qn (-F i c)=q' at*
 obtain⟨⟨_,_⟩,⟨_,_⟩⟩:=q
 obtain⟨⟨_,_⟩,⟨_,_⟩⟩:=q'
 refine bind_eq (aU g1)<|bind_eq sg<|bind_eq Z7 ?_
 by_cases q:F i c=0
 ·rw[←same q]
  exact fk (decide_eq_true q) rfl
 ·exact bH (decide_eq_false q)<|bind_eq (aU g1)<|bind_eq ng<|bind_eq (cj Nk)<|bind_eq hrow<|bind_eq va rfl
theorem Lz{w r:Nat}{G:Nat→Nat→Rat}{f:Nat→Rat}(hr:r<m):(mq m (fun _=>w) G).set r (vq w f)=mq m (fun _=>w) (fun i=>if i=r then f else G i):=by
 apply List.ext_getElem?
 intro j
 rw[List.getElem?_set,gN]
 by_cases hj:j<m
 ·rw[nV hj]
  by_cases e:r=j
  ·subst e;rw[if_pos rfl,if_pos hr,nV hr,if_pos rfl]
  ·rw[if_neg e,nV hj,if_neg (fun q=>e q.symm)]
 ·rw[List.getElem?_eq_none (l:=mq m _ _) (by rw[gN];omega),List.getElem?_eq_none (l:=mq m _ _) (by rw[gN];omega)]
  by_cases e:r=j
  ·rw[if_pos e,if_neg (by omega)]
  ·rw[if_neg e]
theorem SD(h:xx L n m p O F b)(hL:L≤100000000){r c:Nat}(hr:r<m)(hc:c<n+m+1)(h0:F r c≠0){o0:Bool}{o1:Int}{o2:List (List Qr)}{o3:List Int}:
  cI o0 o1 o2 o3 (mq m (fun _=>n+m+1) F) r c=some (o2,o3,mq m (fun _=>n+m+1) (oP F r c)):=by
 have hm:=h.hm
 have hn:=h.hn
 have h1:=h.l1
 have g1:(mq m (fun _=>n+m+1) F)[r]? =some (vq (n+m+1) (F r)):=nV hr
 have Nk:r<(mq m (fun _=>n+m+1) F).length:=by rw[gN];exact hr
 have g2:(vq (n+m+1) (F r))[c]? =some (qn (F r c)):=lT hc
 have dv:=one_eq.2.div ((h.f r hr c).rep h1) (by omega) h0
 have sc:=(Sw dv.2 (VL h hr) (by omega) (by rw[bQ];omega)).1
 rw[bQ]at sc
 have e0:vq (n+m+1) (fun k=>1/F r c*F r k)=vq (n+m+1) (oP F r c r):=gp (fun k _=>by
  unfold oP
  rw[if_pos rfl,Rat.div_def,Rat.div_def];grind)
 rw[e0]at sc
 have st:=e9 (y:=vq (n+m+1) (oP F r c r)) Nk
 rw[Lz hr]at st
 have e1:=one_eq.1
 replace dv:=dv.1
 have loop:∀(o:List (List Qr)→Option ((List (List Qr))×(List Int)×(List (List Qr)))),o (mq m (fun _=>n+m+1) (oP F r c))=some (o2,o3,mq m (fun _=>n+m+1) (oP F r c))→((cq (fun(uw:Int×(List (List Qr)))=>match uw with|⟨nA,ff⟩=>(show Option ((Int×(List (List Qr)))⊕((List (List Qr))))from(some (decide ((nA:Int)<(m:Int)))).bind fun OM=>(bif OM then(nX ff nA).bind fun tW=>(ff[tW]?).bind fun BV=>(some (decide ((nA:Int)≠(r:Int)))).bind fun EX=>cQ (fun(rD:(List (List Qr)))=>(some (IntKind.i64.wrap (nA+1))).bind fun I8=>some (.inl (I8,rD))) fun U1=>(bif EX then(jg o0 o1 o2 o3 ff BV c r).bind fun HZ=>(nX ff nA).bind fun I2=>(stM ff I2 HZ).bind fun U3=>U1 U3 else U1 ff)else some (.inr ff)))) (0,mq m (fun _=>n+m+1) (fun i=>if i=r then oP F r c r else F i))).bind o)=some (o2,o3,mq m (fun _=>n+m+1) (oP F r c)):=fun o ho=>by
  refine bh (fun k=>((k:Int),mq m (fun _=>n+m+1) (fun i=>if i=r∨i<k then oP F r c i else F i))) m (mq m (fun _=>n+m+1) (oP F r c)) ?_ (fun k hk=>?_) ?_ ho
  ·refine Prod.ext rfl (vk (fun i hi=>⟨rfl,fun k _=>?_⟩))
   by_cases e:i=r
   ·subst e;simp
   ·simp[e]
  ·have gk:(mq m (fun _=>n+m+1) (fun i=>if i=r∨i<k then oP F r c i else F i))[k]? =some (vq (n+m+1) (if k=r then oP F r c k else F k)):=by
    rw[nV hk]
    congr 2
    by_cases e:k=r
    ·rw[if_pos (.inl e),if_pos e]
    ·rw[if_neg (by omega),if_neg e]
   have hl:(mq m (fun _=>n+m+1) (fun i=>if i=r∨i<k then oP F r c i else F i)).length=m:=gN _ _ _
   have gr:(mq m (fun _=>n+m+1) (fun i=>if i=r∨i<k then oP F r c i else F i))[r]? =some (vq (n+m+1) (oP F r c r)):=by
    rw[nV hr,if_pos (.inl rfl)]
   by_cases e:k=r
   ·have s:mq m (fun _=>n+m+1) (fun i=>if i=r∨i<k then oP F r c i else F i)=mq m (fun _=>n+m+1) (fun i=>if i=r∨i<k+1 then oP F r c i else F i):=vk (fun i _=>⟨rfl,fun _ _=>by
     by_cases q:i=r∨i<k
     ·rw[if_pos q,if_pos (by omega)]
     ·rw[if_neg q,if_neg (by omega)]⟩)
    show(some (decide ((k:Int)<(m:Int)))).bind _=_
    refine bind_eq (dT (by omega))<|fk rfl<|bind_eq (cj (by omega))<|bind_eq gk<|bind_eq (dF (by omega))<|eJ<|bH rfl<|bind_eq (congrArg some (bK (by omega))) ?_
    rw[s]
   ·rw[if_neg e]at gk
    have rm:=Nv h hL hr hc h0 (o0:=o0) (o1:=o1) (o2:=o2) (o3:=o3) gr hk e
    have s:(mq m (fun _=>n+m+1) (fun i=>if i=r∨i<k then oP F r c i else F i)).set k (vq (n+m+1) (oP F r c k))=mq m (fun _=>n+m+1) (fun i=>if i=r∨i<k+1 then oP F r c i else F i):=by
     rw[Lz hk]
     refine vk (fun i _=>⟨rfl,fun _ _=>?_⟩)
     by_cases q:i=k
     ·subst q;rw[if_pos rfl,if_pos (.inr (by omega))]
     ·rw[if_neg q]
      by_cases q2:i=r∨i<k
      ·rw[if_pos q2,if_pos (by omega)]
      ·rw[if_neg q2,if_neg (by omega)]
    rw[←s]
    generalize mq m (fun _=>n+m+1) (fun i=>if i=r∨i<k then oP F r c i else F i)=rows at*
    show(some (decide ((k:Int)<(m:Int)))).bind _=_
    exact bind_eq (dT (by omega))<|fk rfl<|bind_eq (cj (by omega))<|bind_eq gk<|bind_eq (dT (by omega))<|eJ<|fk rfl<|bind_eq rm<|bind_eq (cj (by omega))<|bind_eq (e9 (by omega))<|bind_eq (congrArg some (bK (by omega))) rfl
  ·have s:mq m (fun _=>n+m+1) (fun i=>if i=r∨i<m then oP F r c i else F i)=mq m (fun _=>n+m+1) (oP F r c):=vk (fun i hi=>⟨rfl,fun _ _=>by rw[if_pos (.inr hi)]⟩)
   show(some (decide ((m:Int)<(m:Int)))).bind _=_
   rw[s]
   exact bind_eq (dF (by omega))<|bH rfl rfl
 unfold cI
 have scM:lG (vq (n+m+1) (F r)) (qn (1/F r c))=some (vq (n+m+1) (oP F r c r)):=by
  unfold lG
  generalize qn (1/F r c)=q at*
  obtain⟨⟨_,_⟩,⟨_,_⟩⟩:=q
  exact bind_eq sc rfl
 generalize qn (1/F r c)=q3 at*
 generalize qn (F r c)=q2 at*
 generalize qn 1=q1 at*
 obtain⟨⟨_,_⟩,⟨_,_⟩⟩:=q1
 obtain⟨⟨_,_⟩,⟨_,_⟩⟩:=q2
 obtain⟨⟨_,_⟩,⟨_,_⟩⟩:=q3
 refine bind_eq e1<|bind_eq (cj Nk)<|bind_eq g1<|bind_eq (aU g2)<|bind_eq dv<|bind_eq (cj Nk)<|bind_eq g1<|bind_eq scM<|bind_eq (cj Nk)<|bind_eq st<|bind_eq (congrArg some (by rw[gN])) ?_
 refine Eq.trans (congrArg (fun G=>(cq _ ((0:Int),mq m (fun _=>n+m+1) G)).bind _) ?_) (loop _ rfl)
 funext i
 by_cases e:i=r
 ·rw[if_pos e]
 ·rw[if_neg e]
theorem LA(h:xx L n m p O F b)(hL:L≤100000000){r c:Nat}(hr:r<m)(hc:c<n+m)(hb:∀j,j<m→b j≠c)(h0:F r c≠0):
  bG true n (mq p (fun _=>n) O) (bq m b) (mq m (fun _=>n+m+1) F) r c=some (0,mq p (fun _=>n) O,bq m (fun j=>if j=r then c else b j),mq m (fun _=>n+m+1) (oP F r c)):=by
 have hm:=h.hm
 have hn:=h.hn
 have sv:=SD h hL hr (show c<n+m+1 by omega) h0 (o0:=true) (o1:=(n:Int)) (o2:=mq p (fun _=>n) O) (o3:=bq m b)
 have g1:(mq m (fun _=>n+m+1) F)[r]? =some (vq (n+m+1) (F r)):=nV hr
 have g2:(vq (n+m+1) (F r))[c]? =some (qn (F r c)):=lT (by omega)
 have sg:=((h.f r hr c).rep h.l1).sign (by omega)
 have Nk:r<(mq m (fun _=>n+m+1) F).length:=by rw[gN];exact hr
 have NM:=wj m b
 have bs:=SB (b:=b) (c:=c) hr
 have bg:∀j,j<m→(bq m b)[j]? =some ((b j:Nat):Int):=fun j hj=>wm hj
 have wd:eL (⟨true,(n:Int),mq p (fun _=>n) O,bq m b,mq m (fun _=>n+m+1) F⟩:Tb)=some ((n+m:Nat):Int):=FO hn hm
 have ms:b9 (⟨true,(n:Int),mq p (fun _=>n) O,bq m b,mq m (fun _=>n+m+1) F⟩:Tb)=some false:=lI n m p O F b
 have rl:=gN m (fun _=>n+m+1) F
 unfold bG
 rw[←bs]
 generalize bq m b=B at*
 generalize mq m (fun _=>n+m+1) F=rows at*
 refine bind_eq ms<|bH rfl<|eJ<|bind_eq (dF (by omega))<|bind_eq (a:=false) (bH rfl<|bind_eq rfl<|bind_eq (dF (by omega)) rfl)<|bind_eq (a:=false) (bH rfl<|bind_eq (dF (by omega)) rfl)<|bind_eq (a:=false) (bH rfl<|bind_eq wd<|bind_eq (dF (by omega)) rfl)<|bH rfl<|bind_eq rfl ?_
 refine bh (fun k=>(k:Int)) m (.inl ()) rfl (fun k hk=>?_) ?_ ?_
 ·exact bind_eq (dT (by omega))<|fk rfl<|bind_eq (cj (by omega))<|bind_eq (bg k hk)<|bind_eq (dF (by have:=hb k hk;omega))<|bH rfl<|bind_eq (congrArg some (bK (by omega))) rfl
 ·exact bind_eq (dF (by omega))<|bH rfl rfl
 ·generalize qn (F r c)=q at*
  obtain⟨⟨_,_⟩,⟨_,_⟩⟩:=q
  exact bind_eq (cj Nk)<|bind_eq g1<|bind_eq (aU g2)<|bind_eq sg<|bind_eq (dF (fun e=>h0 (oN.1 e)))<|bH rfl<|bind_eq sv<|bind_eq (cj (by omega))<|bind_eq (e9 (by omega)) rfl
end Z5
def wv(n m:Nat)(R:Nat→Nat→Rat)(g:Nat→Rat)(i k:Nat):Rat:=if k<n then R i k else if k=n+i then 1 else if k=n+m then g i else 0
theorem GM(k w:Nat)(G:Nat→Nat→Rat):mq (k+1) (fun _=>w) G=mq k (fun _=>w) G++[vq w (G k)]:=by simp[mq,List.range_succ]
section new
variable {L M K n:Nat}{ob rw:List (List Qr)}{bd:List Qr}{O R:Nat→Nat→Rat}{g:Nat→Rat}
theorem LB{m i:Nat}(hi:i<m):(fun j=>if j=n+m then g i else if j=n+i then(1:Rat)else if j<n then R i j else 0)=wv n m R g i:=by
 funext j
 unfold wv
 by_cases h1:j<n
 ·rw[if_neg (by omega),if_neg (by omega),if_pos h1,if_pos h1]
 ·rw[if_neg h1,if_neg h1]
  by_cases h2:j=n+i
  ·rw[if_neg (by omega),if_pos h2,if_pos h2]
  ·rw[if_neg h2,if_neg h2]
theorem Z8(ho:vm M ob O)(hr:vm L rw R)(hb:eD K bd g)(hM:M≤4000000000)(hL:L≤4000000000)(hK:K≤4000000000)(hv:LR n ob rw bd):
  ek ⟨(n:Int),ob,rw,bd⟩=some (true,(n:Int),mq ob.length (fun _=>n) O,bq rw.length (fun j=>n+j),mq rw.length (fun _=>n+rw.length+1) (wv n rw.length R g)):=by
 obtain⟨v1,v2,v3,v4,v5,v6,v7,v8⟩:=hv
 have n64:n≤64:=by omega
 have Z9:∀v∈ob,v.length≤n:=Ad.1 (by omega)
 unfold ek
 refine bind_eq rfl ?_
 refine bh (fun k=>((k:Int),mq k (fun _=>n) O)) ob.length (mq ob.length (fun _=>n) O) rfl (fun k hk=>?_) ?_ ?_
 ·have g1:=jb (d:=[]) hk
  have rs:=Np (ho.row k) (by omega) (by have:=Z9 _ (List.mem_of_getElem? g1);omega) (n:Int)
  rw[show(min (n:Int) 65536).toNat=n by omega]at rs
  refine bind_eq (dT (by omega))<|fk rfl<|bind_eq (aU g1)<|bind_eq rs<|bind_eq (AP (by decide) (by rw[gN];omega))<|bind_eq (congrArg some (bK (by omega))) ?_
  rw[GM]
 ·exact bind_eq (dF (by omega))<|bH rfl rfl
 refine bind_eq rfl ?_
 refine bh (fun k=>((k:Int),bq k (fun j=>n+j),mq k (fun _=>n+rw.length+1) (wv n rw.length R g))) rw.length (bq rw.length (fun j=>n+j),mq rw.length (fun _=>n+rw.length+1) (wv n rw.length R g)) rfl (fun i hi=>?_) (bind_eq (dF (by omega))<|bH rfl rfl) rfl
 obtain⟨q,hq,rq⟩:=hb.get (i:=i) (by omega)
 have cn:=(rq.canon (by omega)).1
 have e1:=one_eq.1
 have wl:IntKind.i64.wrap ((n:Int)+(rw.length:Int))=((n+rw.length:Nat):Int):=by rw[bZ (by omega) (by omega)];omega
 have wl2:IntKind.i64.wrap (((n+rw.length:Nat):Int)+1)=((n+rw.length+1:Nat):Int):=bK (by omega)
 have wi:IntKind.i64.wrap ((n:Int)+(i:Int))=((n+i:Nat):Int):=by rw[bZ (by omega) (by omega)];omega
 refine bind_eq (dT (by omega))<|fk rfl<|bind_eq rfl<|bind_eq (congrArg some wl)<|bind_eq (congrArg some wl2)<|bind_eq (Lq (n+rw.length+1) (by omega)) ?_
 rw[xX]
 refine bh (fun k=>((k:Int),vq (n+rw.length+1) (fun j=>if j<k then R i j else 0))) n (vq (n+rw.length+1) (fun j=>if j<n then R i j else 0)) (by simp) (fun k hk=>?_) (bind_eq (dF (by omega))<|bH rfl rfl) ?_
 ·have at_:=Sy hr (by omega) i k
  have s:=oO (k:=n+rw.length+1) (j:=k) (h:=fun j=>if j<k then R i j else 0) (x:=R i k) (by omega)
  have s2:vq (n+rw.length+1) (fun j=>if j=k then R i k else if j<k then R i j else 0)=vq (n+rw.length+1) (fun j=>if j<k+1 then R i j else 0):=gp (fun j _=>by
   by_cases e:j=k
   ·subst e;simp
   ·rw[if_neg e]
    by_cases e2:j<k
    ·rw[if_pos e2,if_pos (by omega)]
    ·rw[if_neg e2,if_neg (by omega)])
  rw[s2]at s
  have hl:=bQ (n+rw.length+1) (fun j=>if j<k then R i j else 0)
  rw[←s]
  generalize vq (n+rw.length+1) (fun j=>if j<k then R i j else 0)=l at*
  clear s s2
  generalize qn (R i k)=q at*
  obtain⟨⟨_,_⟩,⟨_,_⟩⟩:=q
  exact bind_eq (dT (by omega))<|fk rfl<|bind_eq at_<|bind_eq (cj (by omega))<|bind_eq (e9 (by omega))<|bind_eq (congrArg some (bK (by omega))) rfl
 ·have s1:=oO (k:=n+rw.length+1) (j:=n+i) (h:=fun j=>if j<n then R i j else 0) (x:=1) (by omega)
  have s2:=oO (k:=n+rw.length+1) (j:=n+rw.length) (h:=fun j=>if j=n+i then 1 else if j<n then R i j else 0) (x:=g i) (by omega)
  rw[LB hi]at s2
  have Pe:=bQ (n+rw.length+1) (fun j=>if j<n then R i j else 0)
  have VN:=bQ (n+rw.length+1) (fun j=>if j=n+i then 1 else if j<n then R i j else 0)
  have b1:=wj i (fun j=>n+j)
  have b2:=Nt i (fun j=>n+j)
  have m1:=gN i (fun _=>n+rw.length+1) (wv n rw.length R g)
  have m2:=GM i (n+rw.length+1) (wv n rw.length R g)
  have st1:=e9 (y:=qn 1) (show n+i<(vq (n+rw.length+1) (fun j=>if j<n then R i j else 0)).length by omega)
  have st2:=e9 (y:=qn (g i)) (show n+rw.length<(vq (n+rw.length+1) (fun j=>if j=n+i then 1 else if j<n then R i j else 0)).length by omega)
  rw[s1]at st1
  rw[s2]at st2
  generalize vq (n+rw.length+1) (fun j=>if j<n then R i j else 0)=l1 at*
  generalize vq (n+rw.length+1) (fun j=>if j=n+i then 1 else if j<n then R i j else 0)=l2 at*
  generalize vq (n+rw.length+1) (wv n rw.length R g i)=l3 at*
  generalize qn (g i)=q' at*
  generalize qn 1=q1 at*
  obtain⟨⟨_,_⟩,⟨_,_⟩⟩:=q
  obtain⟨⟨_,_⟩,⟨_,_⟩⟩:=q'
  obtain⟨⟨_,_⟩,⟨_,_⟩⟩:=q1
  refine bind_eq (congrArg some wi)<|bind_eq e1<|bind_eq (cj (by omega))<|bind_eq st1<|bind_eq rfl<|bind_eq (congrArg some (show IntKind.i64.wrap ((l2.length:Int)-1)=((n+rw.length:Nat):Int) by rw[VN,bZ (by omega) (by omega)];omega))<|bind_eq (aU hq)<|bind_eq cn<|bind_eq (cj (by omega))<|bind_eq st2<|bind_eq (AP (by decide) (by omega))<|bind_eq (congrArg some wi)<|bind_eq (AP (by decide) (by omega))<|bind_eq (congrArg some (bK (by omega))) ?_
  rw[b2,m2]
theorem Nw(ho:vm L ob O)(hr:vm L rw R)(hb:eD L bd g)(hL:2≤L)(hv:LR n ob rw bd):xx L n rw.length ob.length O (wv n rw.length R g) (fun j=>n+j):=by
 obtain⟨v1,v2,v3,v4,v5,v6,v7,v8⟩:=hv
 refine⟨fun i hi k=>?_,fun i hi k=>(ho.row i).fq k,fun i hi k hk=>?_,by omega,by omega,by omega,by omega,fun j hj=>by show n+j<_;omega⟩
 ·unfold wv
  split
  ·exact(hr.row i).fq k
  ·split
   ·exact one_eq.2.fq.mono hL
   ·split
    ·exact hb.fq i
    ·exact xW (by omega)
 ·unfold wv
  rw[if_neg (by omega),if_neg (by omega),if_neg (by omega)]
theorem aaa(ho:vm M ob O)(hr:vm L rw R)(hb:eD K bd g)(hM:M≤4000000000)(hL:L≤4000000000)(hK:K≤4000000000)(hv:LR n ob rw bd):
  hH ⟨(n:Int),ob,rw,bd⟩=some (true,(n:Int),mq ob.length (fun _=>n) O,bq rw.length (fun j=>n+j),mq rw.length (fun _=>n+rw.length+1) (wv n rw.length R g)):=by
 have v:=Ls (n:=(n:Int)) (ob:=ob) (rw:=rw) (bd:=bd) (by obtain⟨_,_,_,h,_⟩:=hv;omega) (by obtain⟨_,_,_,_,h,_⟩:=hv;omega)
 rw[decide_eq_true hv]at v
 unfold hH
 exact bind_eq v<|bind_eq rfl<|bH rfl<|bind_eq (Z8 ho hr hb hM hL hK hv) rfl
end new
end Go.Proofs.Ytningmnklfpfjaa
namespace Go.Proofs.Ytningmnklfpfjaa
open Go.Fw
theorem LC(k:List Int):CR (List.replicate k.length 0) k=k:=by unfold CR;simp
theorem SE{n m p:Nat}{O F:Nat→Nat→Rat}{b:Nat→Nat}(hm:m≤128):iX (FN n m p O F b)=some (bq m b):=by
 unfold iX
 refine bind_eq (lI n m p O F b)<|bH rfl<|bind_eq rfl<|bind_eq (pM (n:=(bq m b).length) (by decide) (by rw[wj];omega)) ?_
 show some (CR (List.replicate (bq m b).length 0) (bq m b))=_
 rw[LC]
theorem HS(l:List Int)(h:l.length≤1000000):kg l l=some true:=by
 unfold kg
 refine bind_eq rfl<|bind_eq rfl<|bind_eq (dF (by simp))<|bH rfl ?_
 refine bh (fun k=>(k:Int)) l.length (.inl ()) rfl (fun k hk=>?_) (bind_eq rfl<|bind_eq (dF (by omega))<|bH rfl rfl) rfl
 have g:=List.getElem?_eq_getElem hk
 exact bind_eq rfl<|bind_eq (dT (by omega))<|fk rfl<|bind_eq (aU g)<|bind_eq (aU g)<|bind_eq (dF (by simp))<|bH rfl<|bind_eq (congrArg some (bK (by omega))) rfl
def Nx(i j:Nat):Rat:=(((([[3,5]]:List (List Int)).getD i []).getD j 0:Int):Rat)
def exR(i j:Nat):Rat:=(((([[1,0],[0,2],[3,2]]:List (List Int)).getD i []).getD j 0:Int):Rat)
def exG(i:Nat):Rat:=((([4,12,18]:List Int).getD i 0:Int):Rat)
def HT:Nat→Nat→Rat:=wv 2 3 exR exG
def LD:Nat→Nat→Rat:=oP HT 1 1
def SF:Nat→Nat→Rat:=oP LD 2 0
def LF(j:Nat):Nat:=2+j
def Ny(j:Nat):Nat:=if j=1 then 1 else LF j
def SG(j:Nat):Nat:=if j=2 then 0 else Ny j
theorem rR{L n:Nat}{f:Nat→Rat}{v:List Qr}{k:Nat→Rat}(h:∀i,i<n→FQ L (f i))(h1:1≤L)(hL:L≤1000000000)(hv:eD 2 v k)(hn:v.length=n)(e:∀i,i<n→f i=k i):dx (vq n f) v=some true:=by
 have:=veq (GI h h1) hv (by omega)
 rw[this,bQ,hn,Nat.max_self,decide_eq_true (fun i hi=>by rw[vn hi];exact e i hi)]
theorem F5{L n:Nat}{f:Nat→Rat}{v:List Qr}{k:Nat→Rat}(h:∀i,i<n→FQ L (f i))(h1:1≤L)(hL:L≤1000000000)(hv:eD 2 v k)(hn:v.length=n):dx (vq n f) v=some (decide (∀i,i<n→f i=k i)):=by
 have:=veq (GI h h1) hv (by omega)
 rw[this,bQ,hn,Nat.max_self]
 congr 1
 exact decide_eq_decide.2 ⟨fun q i hi=>by have:=q i hi;rw[vn hi]at this;exact this,fun q i hi=>by rw[vn hi];exact q i hi⟩
set_option maxRecDepth 100000 in
theorem SH:jt=some true:=by
 obtain⟨eo,ro⟩:=O3 (l:=[[3,5]]) (by decide) (by decide)
 obtain⟨er,rr⟩:=O3 (l:=[[1,0],[0,2],[3,2]]) (by decide) (by decide)
 obtain⟨eb,rb⟩:=vi (l:=[4,12,18]) (by decide) (by decide)
 obtain⟨i1,q1⟩:=vi (l:=[-3,1,0]) (by decide) (by decide)
 obtain⟨i2,q2⟩:=vi (l:=[4,6,6]) (by decide) (by decide)
 obtain⟨i3,q3⟩:=vi (l:=[30,0,-6]) (by decide) (by decide)
 obtain⟨i4,q4⟩:=vi (l:=[2,6,2]) (by decide) (by decide)
 obtain⟨i5,q5⟩:=vi (l:=[2,6]) (by decide) (by decide)
 obtain⟨i6,q6⟩:=vi (l:=[36,-2,-6]) (by decide) (by decide)
 have l0:(vq [(4:Int),12,18].length (fun i=>(([(4:Int),12,18].getD i 0:Int):Rat))).length=3:=bQ _ _
 have l1:(vq [(-3:Int),1,0].length (fun i=>(([(-3:Int),1,0].getD i 0:Int):Rat))).length=3:=bQ _ _
 have l2:(vq [(4:Int),6,6].length (fun i=>(([(4:Int),6,6].getD i 0:Int):Rat))).length=3:=bQ _ _
 have l3:(vq [(30:Int),0,-6].length (fun i=>(([(30:Int),0,-6].getD i 0:Int):Rat))).length=3:=bQ _ _
 have l4:(vq [(2:Int),6,2].length (fun i=>(([(2:Int),6,2].getD i 0:Int):Rat))).length=3:=bQ _ _
 have l5:(vq [(2:Int),6].length (fun i=>(([(2:Int),6].getD i 0:Int):Rat))).length=2:=bQ _ _
 have l6:(vq [(36:Int),-2,-6].length (fun i=>(([(36:Int),-2,-6].getD i 0:Int):Rat))).length=3:=bQ _ _
 generalize hmo:mq [[(3:Int),5]].length _ _=mo at eo ro
 generalize hmr:mq [[(1:Int),0],[0,2],[3,2]].length _ _=mr at er rr
 generalize vq [(4:Int),12,18].length _=vb at eb rb l0
 generalize vq [(-3:Int),1,0].length _=v1 at i1 q1 l1
 generalize vq [(4:Int),6,6].length _=v2 at i2 q2 l2
 generalize vq [(30:Int),0,-6].length _=v3 at i3 q3 l3
 generalize vq [(2:Int),6,2].length _=v4 at i4 q4 l4
 generalize vq [(2:Int),6].length _=v5 at i5 q5 l5
 generalize vq [(36:Int),-2,-6].length _=v6 at i6 q6 l6
 have lo:mo.length=1:=by rw[←hmo,gN];rfl
 have lr:mr.length=3:=by rw[←hmr,gN];rfl
 have wo:∀v∈mo,v.length≤2:=by rw[←hmo];decide+kernel
 have wr:∀v∈mr,v.length≤2:=by rw[←hmr];decide+kernel
 have co:wP mo≤2:=Ad.2 wo
 have cr:wP mr≤2:=Ad.2 wr
 have hv:LR ((2:Nat):Int) mo mr vb:=⟨by decide,by decide,by omega,by omega,by omega,by omega,by omega,by omega⟩
 have eN:=aaa (n:=2) ro rr rb (by decide) (by decide) (by decide) hv
 have k0:=Nw (n:=2) ro rr rb (by decide) hv
 rw[lo,lr]at eN k0
 have k0:xx 2 2 3 1 Nx HT LF:=k0
 have eN:hH ⟨2,mo,mr,vb⟩=some (true,2,mq 1 (fun _=>2) Nx,bq 3 LF,mq 3 (fun _=>6) HT):=eN
 have p1:HT 1 1≠0:=by decide+kernel
 have p2:LD 2 0≠0:=by decide+kernel
 have k1:xx 9 2 3 1 Nx LD Ny:=Ly k0 (r:=1) (c:=1) (by decide) (by decide) p1
 have k2:xx 37 2 3 1 Nx SF SG:=Ly k1 (r:=2) (c:=0) (by decide) (by decide) p2
 have t1:bG true 2 (mq 1 (fun _=>2) Nx) (bq 3 LF) (mq 3 (fun _=>6) HT) 1 1=some (0,mq 1 (fun _=>2) Nx,bq 3 Ny,mq 3 (fun _=>6) LD):=LA k0 (by decide) (r:=1) (c:=1) (by decide) (by decide) (by decide+kernel) p1
 have t2:bG true 2 (mq 1 (fun _=>2) Nx) (bq 3 Ny) (mq 3 (fun _=>6) LD) 2 0=some (0,mq 1 (fun _=>2) Nx,bq 3 SG,mq 3 (fun _=>6) SF):=LA k1 (by decide) (r:=2) (c:=0) (by decide) (by decide) (by decide+kernel) p2
 have a0:iX (FN 2 3 1 Nx HT LF)=some [2,3,4]:=SE (by decide)
 have a0':=HS [2,3,4] (by decide)
 have a1:=HP k0 (by decide)
 have b1:=rR (fun i hi=>k0.f i hi 5) (by decide) (by decide) rb l0 (by decide+kernel)
 have a2:=(Lw k0 (by decide) (c:=0) (by decide)).1
 have b2:=rR (fun i (_:i<3)=>(Lw k0 (by decide) (c:=0) (by decide)).2.fq i) (by decide) (by decide) q1 l1 (by decide+kernel)
 have a3:=HP k1 (by decide)
 have b3:=rR (fun i hi=>k1.f i hi 5) (by decide) (by decide) q2 l2 (by decide+kernel)
 have a4:=GL k1 (by decide)
 have b4:=rR (fun i (_:i<3)=>xY k1 (fun j hj=>k1.f j hj 5) 3 (Nat.le_refl _) i) (by decide) (by decide) q3 l3 (by decide+kernel)
 have a5:=Ex k1 (by decide)
 rw[decide_eq_false (by decide+kernel)]at a5
 have a6:=HP k2 (by decide)
 have b6:=rR (fun i hi=>k2.f i hi 5) (by decide) (by decide) q4 l4 (by decide+kernel)
 have a7:=HQ k2 (by decide)
 have s7:∀i,i<2→FQ 37 (xy 2 3 SF SG 3 i):=fun i hi=>by
  match i,hi with
  |0,_=>exact k2.f 2 (by decide) 5
  |1,_=>exact k2.f 1 (by decide) 5
 have b7:=rR s7 (by decide) (by decide) q5 l5 (by decide+kernel)
 have a8:=GL k2 (by decide)
 have b8:=rR (fun i (_:i<3)=>xY k2 (fun j hj=>k2.f j hj 5) 3 (Nat.le_refl _) i) (by decide) (by decide) q6 l6 (by decide+kernel)
 have a9:=Ex k2 (by decide)
 rw[decide_eq_true (by decide+kernel)]at a9
 have VT:=HR k2 (by decide)
 rw[decide_eq_true (by decide+kernel)]at VT
 unfold jt kV
 refine bind_eq (bind_eq eo<|bind_eq er<|bind_eq eb rfl)<|bind_eq eN<|eJ ?_
 refine bind_eq (a:=false) (bH rfl rfl)<|bind_eq (a:=false) (bH rfl<|bind_eq a0<|bind_eq a0'<|bind_eq rfl rfl)<|bind_eq (a:=false) (bH rfl<|bind_eq a1<|bind_eq eb<|bind_eq b1<|bind_eq rfl rfl)<|bind_eq (a:=false) (bH rfl<|bind_eq a2<|bind_eq i1<|bind_eq b2<|bind_eq rfl rfl)<|bH rfl<|bind_eq t1<|eJ ?_
 refine bind_eq (dF (by decide))<|bind_eq (a:=false) (bH rfl<|bind_eq a3<|bind_eq i2<|bind_eq b3<|bind_eq rfl rfl)<|bind_eq (a:=false) (bH rfl<|bind_eq a4<|bind_eq i3<|bind_eq b4<|bind_eq rfl rfl)<|bind_eq (a:=false) (bH rfl<|bind_eq a5 rfl)<|bH rfl<|bind_eq t2<|eJ ?_
 exact bind_eq (dT rfl)<|Lp (bind_eq a6<|bind_eq i4<|bind_eq b6 rfl)<|Lp (bind_eq a7<|bind_eq i5<|bind_eq b7 rfl)<|Lp (bind_eq a8<|bind_eq i6<|bind_eq b8 rfl)<|Lp (bind_eq a9 rfl)<|Lp (bind_eq VT rfl) rfl
theorem AU:gj=some true:=bind_eq SH rfl
end Go.Proofs.Ytningmnklfpfjaa
namespace Go.Proofs.Ytningmnklfpfjaa
open Go.Fw Go.RowKit Go.ChangeShapes Go.WideShapes Go.ChangeAt
set_option linter.unusedVariables false
set_option maxRecDepth 100000 in
theorem nW(H:Type)(enc:TypeId×Value→H)(W:World)(base:Nat)(args:Array Value)(ds gs:List (DataW H))(before:List MemPlace)
  (hval:∀(j:Nat) t v,Try.f3.params[j]? =some t→args[j]? =some v→Value.okWide Try.prog W .any base t v)
  (hW:DataW.Whole enc Try.prog Try.f3.params.toList Rows.tableauExamplesSpec.vars false W args.toList ds gs before):
  Calls Try.prog 3 args W fun e W'=>∃v,e=.returned v∧Rows.tableauExamplesSpec.post enc Try.prog Try.f3 false true false false W args v W':=by
 have hW':=hW
 obtain⟨p,q,VA,hV,rfl,hfz,hnd⟩:=hW
 have hA:DataW.TrodAll enc Try.prog W 0 (fun _=>true) true Try.f3.params.toList args.toList ds p:=VA
 rw[Try.params3]at hA hval
 obtain⟨hargs,rfl,rfl⟩:=trodAll_nil hA
 obtain rfl:args=#[]:=by cases args;simp_all
 obtain⟨rfl,rfl⟩:=trodVars_none hV
 clear VA
 refine(Mi (nR (AU)) (W:=W) (vs:=[]) trivial).mono fun e W' ⟨he,bel⟩=>?_
 subst he
 exact⟨_,rfl,_,_,_,[],_,[],hW',trodAll_mk1 (shut_bool Try.underlying4 _),trodAll_mk0,rfl,bel.frame _,fun h=>by cases h⟩
set_option maxRecDepth 100000 in
theorem pW(os:Os)(started:os.Started)(H:Type)(enc:TypeId×Value→H):
  ReturnsInHanded {} Try.checked os 3 .any (Rows.tableauExamplesSpec.pre6 enc Try.prog Try.f3 Rows.tableauExamplesRow.domain false) (Rows.tableauExamplesSpec.post enc Try.prog Try.f3 false true false false):=by
 refine returnsInHanded_of_change (C:=Try.checked) W6 started (by kernel_rfl) Try.func3
  (ChangeSpec.witness6 (enc:=enc) (C:=Try.checked) false ⟨#[],#[],[]⟩ 8 (by kernel_rfl) (by kernel_rfl) (by kernel_rfl) (by kernel_rfl)) ?_
 intro W base args ds gs before hval hW _ _
 exact nW H enc W base args ds gs before hval hW
theorem tableauExamples_holds:Rows.TableauExamplesSaid:=
 OpenClaim.holds_of_wide 3 Try.f3 rfl rfl rfl rfl rfl rfl rfl ⟨rfl,rfl,rfl,rfl,rfl⟩ rfl rfl rfl rfl rfl (by kernel_rfl) Try.func3 (by kernel_rfl)
  (of_decide_eq_true (by kernel_rfl)) (by unfold Func.isWrapper;first|(rw[if_pos (by decide+kernel)];kernel_rfl)|(rw[if_neg (by decide+kernel)];exact⟨rfl,rfl⟩))
  (fun os started H enc _=>pW os started H enc)
end Go.Proofs.Ytningmnklfpfjaa
