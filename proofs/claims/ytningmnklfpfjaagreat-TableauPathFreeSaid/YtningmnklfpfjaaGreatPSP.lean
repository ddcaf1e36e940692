/- The law TableauPathFree answers true for every input. -/
import Derived.Test.YtningmnklfpfjaaGreatPSP4
set_option linter.unusedVariables false
set_option linter.unusedSimpArgs false
set_option linter.unusedSectionVars false
namespace Go.Proofs.YtningmnklfpfjaaGreat
section
open Go.Fw
theorem Ej(h:Nat->Nat->Rat)(m:Nat):∀n,dJ (λi=>dJ (λj=>h i j) m) n=dJ (λj=>dJ (λi=>h i j) n) m
 |0=>by
  show(0:Rat)=dJ (λj=>(0:Rat)) m;rw[mR]
 |n+1=>by
  show dJ (λi=>dJ (λj=>h i j) m) n+dJ (λj=>h n j) m=dJ (λj=>dJ (λi=>h i j) n+h n j) m;rw[Ej h m n,CO]
def r7(n m:Nat)(F:Nat->Nat->Rat)(z:Nat->Rat):Prop:=∀i,i<m->dJ (λk=>F i k*z k) (n+m)=F i (n+m)
def Uc(m:Nat)(F:Nat->Nat->Rat)(b:Nat->Nat):Prop:=∀i j,i<m->j<m->F i (b j)=if i=j then 1 else 0
section lz
variable {n m r c:Nat}{F:Nat->Nat->Rat}{b:Nat->Nat}{z:Nat->Rat}
theorem Ek(N:Nat):dJ (λk=>lz F r c r k*z k) N=(F r c)⁻¹*dJ (λk=>F r k*z k) N:=by
 rw[<-um];refine eM (λk _=>?_);unfold lz;rw[if_pos Y,Rat.div_def];grind
theorem El{i:Nat}(hne:i≠r)(N:Nat):dJ (λk=>lz F r c i k*z k) N=dJ (λk=>F i k*z k) N-F i c*((F r c)⁻¹*dJ (λk=>F r k*z k) N):=by
 rw[<-um,<-um,<-CP];refine eM (λk _=>?_);unfold lz;rw[if_neg hne,Rat.div_def];grind
theorem yw(hr:r<m)(h0:F r c≠0):r7 n m (lz F r c) z↔r7 n m F z:=by
 have hi:F r c*(F r c)⁻¹=1:=Rat.mul_inv_cancel _ h0;have pr:lz F r c r (n+m)=(F r c)⁻¹*F r (n+m):=by unfold lz;rw[if_pos Y,Rat.div_def];grind
 have pi:∀i,i≠r->lz F r c i (n+m)=F i (n+m)-F i c*((F r c)⁻¹*F r (n+m)):=λi h=>by unfold lz;rw[if_neg h,Rat.div_def];grind
 constructor
 ·intro h;have e:=h r hr;rw[Ek,pr]at e;have er:dJ (λk=>F r k*z k) (n+m)=F r (n+m):=by
   have:=congrArg (λx=>F r c*x) e;simp only[<-Rat.mul_assoc,hi,Rat.one_mul]at this;exact this
  intro i hi';by_cases q:i=r
  ·subst q;exact er
  have e2:=h i hi';rw[El q,pi i q,er]at e2;grind
 intro h i hi';by_cases q:i=r
 ·subst q;rw[Ek,pr,h _ hi']
 rw[El q,pi i q,h i hi',h r hr]
theorem uu(hr:r<m)(h0:F r c≠0)(hu:Uc m F b):Uc m (lz F r c) (λj=>if j=r then c else b j):=by
 have hi:F r c*(F r c)⁻¹=1:=Rat.mul_inv_cancel _ h0;intro i j hi' hj;show lz F r c i (if j=r then c else b j)=_;by_cases e:j=r
 ·subst e;rw[if_pos rfl];unfold lz;by_cases q:i=j
  ·subst q;rw[if_pos Y,if_pos Y,Rat.div_def];exact hi
  rw[if_neg q,if_neg q,Rat.div_def,hi];grind
 rw[if_neg e];have z0:F r (b j)=0:=by rw[hu r j hr hj,if_neg (λq=>e q.symm)]
 unfold lz;rw[z0];by_cases q:i=r
 ·subst q;rw[if_pos Y,if_neg (λq=>e q.symm),Rat.div_def];grind
 rw[if_neg q,hu i j hi' hj,Rat.div_def];grind
theorem xe(hu:Uc m F b){i j:Nat}(hi:i<m)(hj:j<m)(e:b i=b j):i=j:=by
 by_cases q:i=j
 ·exact q
 have h1:=hu i i hi hi;have h2:=hu i j hi hj;rw[if_pos rfl]at h1;rw[if_neg q,<-e,h1]at h2;exact absurd h2 (by decide)
end lz
theorem mS.mono{L M n m p:Nat}{O F:Nat->Nat->Rat}{b:Nat->Nat}(h:mS L n m p O F b)(hl:L<=M):mS M n m p O F b:=
 ⟨λi hi k=>(h.f i hi k).mono hl,λi hi k=>(h.o i hi k).mono hl,h.z,Nat.le_trans h.l1 hl,h.hn,h.hm,h.hp,h.hb⟩
theorem Kv{L n m p:Nat}{O F:Nat->Nat->Rat}{b:Nat->Nat}(h:mS L n m p O F b)(hL:L<=100000000)(hu:Uc m F b)(r c:Int):∃e F' b',
  bp true n (mq p (λ_=>n) O) (bq m b) (mq m (λ_=>n+m+1) F) r c=some (e,mq p (λ_=>n) O,bq m b',mq m (λ_=>n+m+1) F')/\mS (4*L+1) n m p O F' b'/\Uc m F' b'/\∀z,r7 n m F' z↔r7 n m F z:=by
 have hm:=h.hm;have hn:=h.hn;have same:∀e,bp true n (mq p (λ_=>n) O) (bq m b) (mq m (λ_=>n+m+1) F) r c=some (e,mq p (λ_=>n) O,bq m b,mq m (λ_=>n+m+1) F)->∃e F' b',bp true n (mq p (λ_=>n) O) (bq m b) (mq m (λ_=>n+m+1) F) r c=some (e,mq p (λ_=>n) O,bq m b',mq m (λ_=>n+m+1) F')/\mS (4*L+1) n m p O F' b'/\Uc m F' b'/\∀z,r7 n m F' z↔r7 n m F z:=
  λe he=>⟨e,F,b,he,h.mono (by omega),hu,λ_=>Iff.rfl⟩
 have wd:dP (⟨true,(n:Int),mq p (λ_=>n) O,bq m b,mq m (λ_=>n+m+1) F⟩:Tb)=some ((n+m:Nat):Int):=xd hn hm;have ms:cw (⟨true,(n:Int),mq p (λ_=>n) O,bq m b,mq m (λ_=>n+m+1) F⟩:Tb)=some false:=gV n m p O F b;have rl:=dI m (λ_=>n+m+1) F;by_cases h1:r<0
 ·refine same 1 ?_;unfold bp;exact aA ms<|bt Y<|bO<|aA (dT h1)<|aA (a:=true) (bN Y Y)<|aA (a:=true) (bN Y Y)<|aA (a:=true) (bN Y Y)<|bN Y Y
 by_cases h2:(m:Int)<=r
 ·refine same 1 ?_;unfold bp;exact aA ms<|bt Y<|bO<|aA (dF h1)<|aA (a:=true) (bt Y<|aA Y<|aA (dT (by omega)) Y)<|aA (a:=true) (bN Y Y)<|aA (a:=true) (bN Y Y)<|bN Y Y
 by_cases h3:c<0
 ·refine same 1 ?_;unfold bp;exact aA ms<|bt Y<|bO<|aA (dF h1)<|aA (a:=false) (bt Y<|aA Y<|aA (dF (by omega)) Y)<|aA (a:=true) (bt Y<|aA (dT h3) Y)<|aA (a:=true) (bN Y Y)<|bN Y Y
 by_cases h4:((n+m:Nat):Int)<=c
 ·refine same 1 ?_;unfold bp;exact aA ms<|bt Y<|bO<|aA (dF h1)<|aA (a:=false) (bt Y<|aA Y<|aA (dF (by omega)) Y)<|aA (a:=false) (bt Y<|aA (dF h3) Y)<|aA (a:=true) (bt Y<|aA wd<|aA (dT h4) Y)<|bN Y Y
 obtain⟨r,rfl⟩:∃k:Nat,r=(k:Int):=⟨r.toNat,by omega⟩;obtain⟨c,rfl⟩:∃k:Nat,c=(k:Int):=⟨c.toNat,by omega⟩;have hr:r<m:=by omega
 have hc:c<n+m:=by omega
 have g1:(mq m (λ_=>n+m+1) F)[r]? =some (vq (n+m+1) (F r)):=ia hr;have g2:(vq (n+m+1) (F r))[c]? =some (qn (F r c)):=k7 (by omega);have sg:=((h.f r hr c).rep h.l1).sign (by omega);have Kq:r<(mq m (λ_=>n+m+1) F).length:=by rw[dI];exact hr
 have QN:=iG m b;have bg:∀j,j<m->(bq m b)[j]? =some ((b j:Nat):Int):=λj hj=>nP hj;by_cases h5:∀j,j<m->b j≠c
 ·by_cases h6:F r c=0
  ·refine same 7 ?_;unfold bp;generalize bq m b=B at*;generalize mq m (λ_=>n+m+1) F=rows at*;refine aA ms<|bt Y<|bO<|aA (dF (by omega))<|aA (a:=false) (bt Y<|aA Y<|aA (dF (by omega)) Y)<|aA (a:=false) (bt Y<|aA (dF (by omega)) Y)<|aA (a:=false) (bt Y<|aA wd<|aA (dF (by omega)) Y)<|bt Y<|aA Y ?_;refine bP (λk=>(k:Int)) m (.inl ()) Y (λk hk=>?_) ?_ ?_
   ·exact aA (dT (by omega))<|bN Y<|aA (bR (by omega))<|aA (bg k hk)<|aA (dF (by have:=h5 k hk;omega))<|bt Y<|aA (congrArg some (bQ (by omega))) Y
   ·exact aA (dF (by omega))<|bt Y Y
   generalize qn (F r c)=q at*;obtain⟨⟨_,_⟩,⟨_,_⟩⟩:=q;exact aA (bR Kq)<|aA g1<|aA (bK g2)<|aA sg<|aA (dT (lq.2 h6))<|bN Y Y
  exact⟨0,_,_,CT h hL hr hc h5 h6,zJ h hr hc h6,uu hr h6 hu,λz=>yw hr h6⟩
 refine same 1 ?_;unfold bp;generalize bq m b=B at*;generalize mq m (λ_=>n+m+1) F=rows at*;refine aA ms<|bt Y<|bO<|aA (dF (by omega))<|aA (a:=false) (bt Y<|aA Y<|aA (dF (by omega)) Y)<|aA (a:=false) (bt Y<|aA (dF (by omega)) Y)<|aA (a:=false) (bt Y<|aA wd<|aA (dF (by omega)) Y)<|bt Y<|aA Y ?_;refine aA (uQ (n:=m) (p:=λj=>b j≠c) (e:=(1,mq p (λ_=>n) O,B,rows)) (λk hk=>?_) (aA (dF (by omega))<|bt Y Y)) ?_
 ·refine aA (dT (by omega))<|bN Y<|aA (bR (by omega))<|aA (bg k hk)<|aA Y ?_;by_cases q:b k=c
  ·rw[if_neg (λe=>e q)];exact bN (decide_eq_true (show((b k:Nat):Int)=(c:Int) by omega)) Y
  rw[if_pos q];exact bt (decide_eq_false (show ¬((b k:Nat):Int)=(c:Int) by omega))<|aA (congrArg some (bQ (by omega))) Y
 rw[if_neg h5]
end
section
open Go.Fw
theorem IP(k:List Int):uB (List.replicate k.length 0) k=k:=by unfold uB;simp
theorem QC{n m p:Nat}{O F:Nat->Nat->Rat}{b:Nat->Nat}(hm:m<=128):ez (F4 n m p O F b)=some (bq m b):=by
 unfold ez;refine aA (gV n m p O F b)<|bt Y<|aA Y<|aA (oR (n:=(bq m b).length) (by decide) (by rw[iG];omega)) ?_;show some (uB (List.replicate (bq m b).length 0) (bq m b))=_;rw[IP]
theorem Em(l:List Int)(h:l.length<=1000000):gQ l l=some true:=by
 unfold gQ;refine aA Y<|aA Y<|aA (dF (by simp))<|bt Y ?_;refine bP (λk=>(k:Int)) l.length (.inl ()) Y (λk hk=>?_) (aA Y<|aA (dF (by omega))<|bt Y Y) Y;have g:=List.getElem?_eq_getElem hk;exact aA Y<|aA (dT (by omega))<|bN Y<|aA (bK g)<|aA (bK g)<|aA (dF (by simp))<|bt Y<|aA (congrArg some (bQ (by omega))) Y
def S7(i j:Nat):Rat:=(((([[3,5]]:List (List Int)).getD i []).getD j 0:Int):Rat)
def exR(i j:Nat):Rat:=(((([[1,0],[0,2],[3,2]]:List (List Int)).getD i []).getD j 0:Int):Rat)
def exG(i:Nat):Rat:=((([4,12,18]:List Int).getD i 0:Int):Rat)
def MU:Nat->Nat->Rat:=rW 2 3 exR exG
def QD:Nat->Nat->Rat:=lz MU 1 1
def Yo:Nat->Nat->Rat:=lz QD 2 0
def QE(j:Nat):Nat:=2+j
def S8(j:Nat):Nat:=if j=1 then 1 else QE j
def Yp(j:Nat):Nat:=if j=2 then 0 else S8 j
theorem xg{L n:Nat}{f:Nat->Rat}{v:List Qr}{k:Nat->Rat}(h:∀i,i<n->FQ L (f i))(h1:1<=L)(hL:L<=1000000000)(hv:fM 2 v k)(hn:v.length=n)(e:∀i,i<n->f i=k i):dA (vq n f) v=some true:=by
 have:=veq (LF h h1) hv (by omega);rw[this,cM,hn,Nat.max_self,decide_eq_true (λi hi=>by rw[F3 hi];exact e i hi)]
set_option maxRecDepth 100000 in
theorem Yq:dZ=some true:=by
 obtain⟨eo,ro⟩:=U3 (l:=[[3,5]]) (by decide) (by decide);obtain⟨er,rr⟩:=U3 (l:=[[1,0],[0,2],[3,2]]) (by decide) (by decide);obtain⟨eb,rb⟩:=yt (l:=[4,12,18]) (by decide) (by decide);obtain⟨i1,q1⟩:=yt (l:=[-3,1,0]) (by decide) (by decide);obtain⟨i2,q2⟩:=yt (l:=[4,6,6]) (by decide) (by decide);obtain⟨i3,q3⟩:=yt (l:=[30,0,-6]) (by decide) (by decide);obtain⟨i4,q4⟩:=yt (l:=[2,6,2]) (by decide) (by decide);obtain⟨i5,q5⟩:=yt (l:=[2,6]) (by decide) (by decide);obtain⟨i6,q6⟩:=yt (l:=[36,-2,-6]) (by decide) (by decide);have l0:(vq [(4:Int),12,18].length (λi=>(([(4:Int),12,18].getD i 0:Int):Rat))).length=3:=cM _ _;have l1:(vq [(-3:Int),1,0].length (λi=>(([(-3:Int),1,0].getD i 0:Int):Rat))).length=3:=cM _ _;have l2:(vq [(4:Int),6,6].length (λi=>(([(4:Int),6,6].getD i 0:Int):Rat))).length=3:=cM _ _;have l3:(vq [(30:Int),0,-6].length (λi=>(([(30:Int),0,-6].getD i 0:Int):Rat))).length=3:=cM _ _;have l4:(vq [(2:Int),6,2].length (λi=>(([(2:Int),6,2].getD i 0:Int):Rat))).length=3:=cM _ _;have l5:(vq [(2:Int),6].length (λi=>(([(2:Int),6].getD i 0:Int):Rat))).length=2:=cM _ _;have l6:(vq [(36:Int),-2,-6].length (λi=>(([(36:Int),-2,-6].getD i 0:Int):Rat))).length=3:=cM _ _
 generalize hmo:mq [[(3:Int),5]].length _ _=mo at eo ro;generalize hmr:mq [[(1:Int),0],[0,2],[3,2]].length _ _=mr at er rr;generalize vq [(4:Int),12,18].length _=vb at eb rb l0;generalize vq [(-3:Int),1,0].length _=v1 at i1 q1 l1;generalize vq [(4:Int),6,6].length _=v2 at i2 q2 l2;generalize vq [(30:Int),0,-6].length _=v3 at i3 q3 l3;generalize vq [(2:Int),6,2].length _=v4 at i4 q4 l4;generalize vq [(2:Int),6].length _=v5 at i5 q5 l5;generalize vq [(36:Int),-2,-6].length _=v6 at i6 q6 l6;have lo:mo.length=1:=by rw[<-hmo,dI];rfl
 have lr:mr.length=3:=by rw[<-hmr,dI];rfl
 have wo:∀v∈mo,v.length<=2:=by rw[<-hmo];decide+kernel
 have wr:∀v∈mr,v.length<=2:=by rw[<-hmr];decide+kernel
 have co:q9 mo<=2:=rf.2 wo;have cr:q9 mr<=2:=rf.2 wr;have hv:CZ ((2:Nat):Int) mo mr vb:=⟨by decide,by decide,by omega,by omega,by omega,by omega,by omega,by omega⟩;have eN:=acE (n:=2) ro rr rb (by decide) (by decide) (by decide) hv;have k0:=F5 (n:=2) ro rr rb (by decide) hv;rw[lo,lr]at eN k0;have k0:mS 2 2 3 1 S7 MU QE:=k0;have eN:g9 ⟨2,mo,mr,vb⟩=some (true,2,mq 1 (λ_=>2) S7,bq 3 QE,mq 3 (λ_=>6) MU):=eN;have p1:MU 1 1≠0:=by decide+kernel
 have p2:QD 2 0≠0:=by decide+kernel
 have k1:mS 9 2 3 1 S7 QD S8:=zJ k0 (r:=1) (c:=1) (by decide) (by decide) p1;have k2:mS 37 2 3 1 S7 Yo Yp:=zJ k1 (r:=2) (c:=0) (by decide) (by decide) p2;have t1:bp true 2 (mq 1 (λ_=>2) S7) (bq 3 QE) (mq 3 (λ_=>6) MU) 1 1=some (0,mq 1 (λ_=>2) S7,bq 3 S8,mq 3 (λ_=>6) QD):=CT k0 (by decide) (r:=1) (c:=1) (by decide) (by decide) (by decide+kernel) p1;have t2:bp true 2 (mq 1 (λ_=>2) S7) (bq 3 S8) (mq 3 (λ_=>6) QD) 2 0=some (0,mq 1 (λ_=>2) S7,bq 3 Yp,mq 3 (λ_=>6) Yo):=CT k1 (by decide) (r:=2) (c:=0) (by decide) (by decide) (by decide+kernel) p2;have a0:ez (F4 2 3 1 S7 MU QE)=some [2,3,4]:=QC (by decide);have a0':=Em [2,3,4] (by decide);have a1:=Ku k0 (by decide);have b1:=xg (λi hi=>k0.f i hi 5) (by decide) (by decide) rb l0 (by decide+kernel);have a2:=(IM k0 (by decide) (c:=0) (by decide)).1;have b2:=xg (λi (_:i<3)=>(IM k0 (by decide) (c:=0) (by decide)).2.fq i) (by decide) (by decide) q1 l1 (by decide+kernel);have a3:=Ku k1 (by decide);have b3:=xg (λi hi=>k1.f i hi 5) (by decide) (by decide) q2 l2 (by decide+kernel);have a4:=LI k1 (by decide);have b4:=xg (λi (_:i<3)=>Bl k1 (λj hj=>k1.f j hj 5) 3 (Nat.le_refl _) i) (by decide) (by decide) q3 l3 (by decide+kernel)
 have a5:=IN k1 (by decide);rw[decide_eq_false (by decide+kernel)]at a5;have a6:=Ku k2 (by decide);have b6:=xg (λi hi=>k2.f i hi 5) (by decide) (by decide) q4 l4 (by decide+kernel);have a7:=zH k2 (by decide);have s7:∀i,i<2->FQ 37 (pA 2 3 Yo Yp 3 i):=λi hi=>by
  match i,hi with
  |0,_=>exact k2.f 2 (by decide) 5
  |1,_=>exact k2.f 1 (by decide) 5
 have b7:=xg s7 (by decide) (by decide) q5 l5 (by decide+kernel);have a8:=LI k2 (by decide);have b8:=xg (λi (_:i<3)=>Bl k2 (λj hj=>k2.f j hj 5) 3 (Nat.le_refl _) i) (by decide) (by decide) q6 l6 (by decide+kernel);have a9:=IN k2 (by decide);rw[decide_eq_true (by decide+kernel)]at a9;have a10:=MT k2 (by decide);rw[decide_eq_true (by decide+kernel)]at a10;unfold dZ m7;refine aA (aA eo<|aA er<|aA eb Y)<|aA eN<|bO ?_;refine aA (a:=false) (bt Y Y)<|aA (a:=false) (bt Y<|aA a0<|aA a0'<|aA Y Y)<|aA (a:=false) (bt Y<|aA a1<|aA eb<|aA b1<|aA Y Y)<|aA (a:=false) (bt Y<|aA a2<|aA i1<|aA b2<|aA Y Y)<|bt Y<|aA t1<|bO ?_;refine aA (dF (by decide))<|aA (a:=false) (bt Y<|aA a3<|aA i2<|aA b3<|aA Y Y)<|aA (a:=false) (bt Y<|aA a4<|aA i3<|aA b4<|aA Y Y)<|aA (a:=false) (bt Y<|aA a5 Y)<|bt Y<|aA t2<|bO ?_;exact aA (dT Y)<|Qs (aA a6<|aA i4<|aA b6 Y)<|Qs (aA a7<|aA i5<|aA b7 Y)<|Qs (aA a8<|aA i6<|aA b8 Y)<|Qs (aA a9 Y)<|Qs (aA a10 Y) Y
end
section
open Go.Fw
theorem QF{l:List (List Qr)}{i:Nat}{P:List Qr->Prop}(hi:i<l.length)(ht:∀v∈l.take i,P v)(hp:P l[i]):∀v∈l.take (i+1),P v:=by
 rw[List.take_add_one,List.getElem?_eq_getElem hi];intro u hu;rcases List.mem_append.1 hu with h|h
 ·exact ht u h
 simp at h;rw[h];exact hp
abbrev Sml(v:List Qr):Prop:=v.length<=20/\∀q∈v,q.num.w.length<=6/\q.den.w.length<=6
abbrev Sm8(v:List Qr):Prop:=v.length<=8/\∀q∈v,q.num.w.length<=6/\q.den.w.length<=6
theorem IQ(l:List (List Qr))(hl:l.length<=9223372036854775807):∃b,kf l=some b/\(b=false->∀v∈l,Sml v):=by
 unfold kf;refine l7 (λy=>∃i:Nat,y=(i:Int)/\i<=l.length/\∀v∈l.take i,Sml v) (λe=>(∃c,e=.inl c/\∀v∈l,Sml v)\/e=.inr true) (λy=>l.length-y.toNat) ?_ ⟨0,Y,by omega,by simp⟩ ?_
 ·rintro _ ⟨i,rfl,hi,ht⟩;by_cases hlt:i<l.length
  ·have g:=List.getElem?_eq_getElem hlt;by_cases h1:20<l[i].length
   ·exact .inr ⟨.inr true,aA Y<|aA (dT (by omega))<|bN Y<|bO<|aA (bK g)<|aA Y<|aA (dT (by omega))<|aA (a:=true) (bN Y Y) Y,.inr Y⟩
   obtain⟨b,hb,hs⟩:=Qp l[i] (by omega);cases b
   ·refine .inl ⟨((i+1:Nat):Int),?_,⟨i+1,Y,hlt,QF hlt ht ⟨by omega,hs Y⟩⟩,by simp only[Int.toNat_natCast];omega⟩;exact aA Y<|aA (dT (by omega))<|bN Y<|bO<|aA (bK g)<|aA Y<|aA (dF (by omega))<|aA (a:=false) (bt Y<|aA (bK g)<|aA hb Y)<|bt Y<|aA (congrArg some (bQ (by omega))) Y
   exact .inr ⟨.inr true,aA Y<|aA (dT (by omega))<|bN Y<|bO<|aA (bK g)<|aA Y<|aA (dF (by omega))<|aA (a:=true) (bt Y<|aA (bK g)<|aA hb Y) Y,.inr Y⟩
  refine .inr ⟨.inl (),?_,.inl ⟨(),Y,?_⟩⟩
  ·exact aA Y<|aA (dF (by omega))<|bt Y Y
  rw[List.take_of_length_le (by omega)]at ht;exact ht
 rintro e (⟨c,rfl,he⟩|rfl)
 ·exact⟨false,Y,λ_=>he⟩
 exact⟨true,rfl,λh=>by cases h⟩
theorem LJ(m:List (List Qr))(h:m.length<=9223372036854775806):ke m=some (q9 m:Int):=by
 unfold ke;refine bP (λj=>(((m.take j).foldl (λn v=>max n v.length) 0:Nat),(j:Int))) m.length ((q9 m:Nat):Int) (by simp) (λj hj=>?_) ?_ Y
 ·refine aA Y<|aA (dT (by omega))<|bN Y<|aA (bK (List.getElem?_eq_getElem hj))<|aA Y<|aA Y<|aA (congrArg some (bQ (by omega))) ?_;rw[List.take_add_one,List.getElem?_eq_getElem hj,List.foldl_append];simp only[Option.toList_some,List.foldl_cons,List.foldl_nil];congr 3;omega
 refine aA Y<|aA (dF (by omega))<|bt Y ?_;rw[List.take_length];rfl
theorem IS(m:List (List Qr)):∃b,kg [m]=some b/\(b=false->m.length<=8/\∀v∈m,Sm8 v):=by
 unfold kg;have hg:cU [m] (0:Int)=some m:=rfl;by_cases h8:8<m.length
 ·refine⟨true,?_,λh=>by cases h⟩;refine bP (λj=>(j:Int)) 0 (.inr true) Y (λj hj=>by omega) ?_ Y;exact aA Y<|aA (dT (by simp))<|bN Y<|bO<|aA hg<|aA Y<|aA (dT (by omega))<|aA (a:=true) (bN Y Y)<|aA (a:=true) (bN Y Y) Y
 by_cases hc:8<q9 m
 ·refine⟨true,?_,λh=>by cases h⟩;refine bP (λj=>(j:Int)) 0 (.inr true) Y (λj hj=>by omega) ?_ Y;exact aA Y<|aA (dT (by simp))<|bN Y<|bO<|aA hg<|aA Y<|aA (dF (by omega))<|aA (a:=true) (bt Y<|aA hg<|aA (LJ m (by omega))<|aA (dT (by omega)) Y)<|aA (a:=true) (bN Y Y) Y
 obtain⟨b,hb,hs⟩:=IQ m (by omega);cases b
 ·refine⟨false,?_,λ_=>⟨by omega,λv hv=>⟨?_,(hs Y v hv).2⟩⟩⟩
  ·refine bP (λj=>(j:Int)) 1 (.inl ()) Y (λj hj=>?_) (aA Y<|aA (dF (by simp))<|bt Y Y) Y;obtain rfl:j=0:=by omega
   exact aA Y<|aA (dT (by simp))<|bN Y<|bO<|aA hg<|aA Y<|aA (dF (by omega))<|aA (a:=false) (bt Y<|aA hg<|aA (LJ m (by omega))<|aA (dF (by omega)) Y)<|aA (a:=false) (bt Y<|aA hg<|aA hb Y)<|bt Y<|aA (congrArg some (bQ (by omega))) Y
  have:=rf.1 (Nat.le_refl (q9 m)) v hv;omega
 refine⟨true,?_,λh=>by cases h⟩;refine bP (λj=>(j:Int)) 0 (.inr true) Y (λj hj=>by omega) ?_ Y;exact aA Y<|aA (dT (by simp))<|bN Y<|bO<|aA hg<|aA Y<|aA (dF (by omega))<|aA (a:=false) (bt Y<|aA hg<|aA (LJ m (by omega))<|aA (dF (by omega)) Y)<|aA (a:=true) (bt Y<|aA hg<|aA hb Y)<|bN Y Y
theorem S9(m:List (List Qr))(h:m.length<=1000):lX m=some (decide (∀i,i<m.length->(m.getD i []).length=0)):=by
 unfold lX;refine aA (uQ (p:=λi=>(m.getD i []).length=0) (e:=false) (n:=m.length) (λi hi=>?_) (aA Y<|aA (dF (by omega))<|bt Y Y)) ?_
 ·refine aA Y<|aA (dT (by omega))<|bN Y<|aA (bK (jh (d:=[]) hi))<|aA Y<|aA Y ?_;by_cases hz:(m.getD i []).length=0
  ·rw[if_pos hz];exact bt (decide_eq_false (by omega))<|aA (congrArg some (bQ (by omega))) Y
  rw[if_neg hz];exact bN (decide_eq_true (by omega)) Y
 by_cases hp:∀i,i<m.length->(m.getD i []).length=0
 ·rw[if_pos hp,decide_eq_true hp]
 rw[if_neg hp,decide_eq_false hp]
structure Sm6 (ob rw:List (List Qr)) (bd:List Qr):Prop where
 lo:ob.length<=6
 lr:rw.length<=140
 lb:bd.length<=140
 so:∀v∈ob,Sm8 v
 sr:∀v∈rw,Sm8 v
 sb:Sml (bd.take (min bd.length 20))
theorem QG{n:Int}{ob rw:List (List Qr)}{bd:List Qr}:∃b,lY ⟨n,ob,rw,bd⟩=some b/\(b=false->Sm6 ob rw bd):=by
 unfold lY;obtain⟨b1,e1,s1⟩:=IS rw;obtain⟨b2,e2,s2⟩:=IS ob;have acG:nD bd=some (bd.take (min bd.length 20)):=by
  unfold nD;have hm:min (bd.length:Int) 20=((min bd.length 20:Nat):Int):=by omega
  refine aA Y<|aA (congrArg some hm)<|aA (zE (by omega)) Y
 obtain⟨b3,e3,s3⟩:=IQ [bd.take (min bd.length 20)] (by simp);by_cases c1:6<ob.length
 ·exact⟨true,bO<|aA rfl<|aA (dT (by omega))<|aA (a:=true) (bN rfl rfl)<|aA (a:=true) (bN rfl rfl)<|aA (a:=true) (bN rfl rfl)<|aA (a:=true) (bN rfl rfl)<|aA (a:=true) (bN rfl rfl)<|aA (a:=true) (bN rfl rfl) rfl,λh=>by cases h⟩
 by_cases c2:140<rw.length
 ·exact⟨true,bO<|aA rfl<|aA (dF (by omega))<|aA (a:=true) (bt rfl<|aA rfl<|aA (dT (by omega)) rfl)<|aA (a:=true) (bN rfl rfl)<|aA (a:=true) (bN rfl rfl)<|aA (a:=true) (bN rfl rfl)<|aA (a:=true) (bN rfl rfl)<|aA (a:=true) (bN rfl rfl) rfl,λh=>by cases h⟩
 by_cases c3:140<bd.length
 ·exact⟨true,bO<|aA rfl<|aA (dF (by omega))<|aA (a:=false) (bt rfl<|aA rfl<|aA (dF (by omega)) rfl)<|aA (a:=true) (bt rfl<|aA rfl<|aA (dT (by omega)) rfl)<|aA (a:=true) (bN rfl rfl)<|aA (a:=true) (bN rfl rfl)<|aA (a:=true) (bN rfl rfl)<|aA (a:=true) (bN rfl rfl) rfl,λh=>by cases h⟩
 have eb:=S9 rw (by omega);by_cases c4:8<rw.length
 ·by_cases c5:∀i,i<rw.length->(rw.getD i []).length=0
  ·rw[decide_eq_true c5]at eb;refine⟨_,bO<|aA Y<|aA (dF (by omega))<|aA (a:=false) (bt Y<|aA Y<|aA (dF (by omega)) Y)<|aA (a:=false) (bt Y<|aA Y<|aA (dF (by omega)) Y)<|aA (a:=false) (bt Y<|aA Y<|aA (dT (by omega))<|aA (a:=false) (bN Y<|aA eb<|aA Y Y) Y)<|aA (a:=false) (bt Y<|aA Y<|aA (dF (by omega))<|aA (a:=false) (bt Y Y) Y)<|CY (λ_=>aA e2 Y)<|CY (λ_=>aA acG<|aA e3 Y) Y,λh=>?_⟩;simp only[Bool.false_or,Bool.or_eq_false_iff]at h;refine⟨by omega,by omega,by omega,(s2 h.1).2,λv hv=>?_,s3 h.2 _ (by simp)⟩;obtain⟨i,hi,rfl⟩:=List.getElem_of_mem hv;have:=c5 i hi;rw[List.getD_eq_getElem?_getD,List.getElem?_eq_getElem hi]at this;have h0:rw[i]=[]:=List.eq_nil_of_length_eq_zero this;rw[h0];exact⟨by decide,by simp⟩
  rw[decide_eq_false c5]at eb;exact⟨true,bO<|aA rfl<|aA (dF (by omega))<|aA (a:=false) (bt rfl<|aA rfl<|aA (dF (by omega)) rfl)<|aA (a:=false) (bt rfl<|aA rfl<|aA (dF (by omega)) rfl)<|aA (a:=true) (bt rfl<|aA rfl<|aA (dT (by omega))<|aA (a:=true) (bN rfl<|aA eb<|aA rfl rfl) rfl)<|aA (a:=true) (bN rfl rfl)<|aA (a:=true) (bN rfl rfl)<|aA (a:=true) (bN rfl rfl) rfl,λh=>by cases h⟩
 refine⟨_,bO<|aA Y<|aA (dF (by omega))<|aA (a:=false) (bt Y<|aA Y<|aA (dF (by omega)) Y)<|aA (a:=false) (bt Y<|aA Y<|aA (dF (by omega)) Y)<|aA (a:=false) (bt Y<|aA Y<|aA (dF (by omega))<|aA (a:=false) (bt Y Y) Y)<|CY (c:=b1) (λ_=>aA Y<|aA (dT (by omega))<|aA (a:=b1) (bN Y<|aA e1 Y) Y)<|CY (λ_=>aA e2 Y)<|CY (λ_=>aA acG<|aA e3 Y) Y,λh=>?_⟩;simp only[Bool.false_or,Bool.or_eq_false_iff]at h;exact⟨by omega,by omega,by omega,(s2 h.1.2).2,(s1 h.1.1).2,s3 h.2 _ (by simp)⟩
end
section
open Go.Fw
abbrev OkM(m:List (List Qr)):Prop:=m.length<=9223372036854775807/\∀v∈m,OkV v
abbrev OkL(p:Lr):Prop:=fT p.vars/\OkM p.EE/\OkM p.rows/\OkV p.bounds
theorem U5{m:List (List Qr)}(h:OkM m)(s:∀v∈m,Sm8 v):qZ 6 m (Ks m):=
 SW (λv hv=>LB (λq hq=>Qq ((h.2 v hv).2 q hq) ((s v hv).2 q hq).1 ((s v hv).2 q hq).2 (by decide)) (by decide)) (by decide)
theorem acI{v:List Qr}(h:OkV v)(s:Sml v):fM 6 v (FZ v):=LB (λq hq=>Qq (h.2 q hq) (s.2 q hq).1 (s.2 q hq).2 (by decide)) (by decide)
section refs
variable {n:Int}{ob rw:List (List Qr)}{bd:List Qr}
theorem ajx:lp ⟨n,ob,rw,bd⟩=some (decide (CZ n ob rw bd)):=by
 have sh:∀(m:List (List Qr)),m.length<=9223372036854775806->jl m n=some (decide ((q9 m:Int)<=n)):=λm hm=>by
  unfold jl;exact aA (LJ m hm)<|aA Y Y
 unfold lp;refine bO<|aA Y<|CY (λ_=>aA Y Y)<|CY (λ_=>aA Y<|aA Y Y)<|CY (λ_=>aA Y<|aA Y Y)<|CY (λ_=>aA Y<|aA Y Y)<|CY (λ_=>aA Y<|aA Y<|aA Y Y)<|CS (λh=>?_) (λh=>bO<|aA (sh ob (by simp only[Bool.or_eq_false_iff,decide_eq_false_iff_not]at h;omega))<|Qt (λ_=>aA (sh rw (by simp only[Bool.or_eq_false_iff,decide_eq_false_iff_not]at h;omega)) Y) ?_)
 ·congr 1;symm;rw[decide_eq_false_iff_not];simp only[Bool.or_eq_true,decide_eq_true_eq]at h;unfold CZ;omega
 congr 1;simp only[Bool.or_eq_false_iff,decide_eq_false_iff_not]at h;rw[<-Bool.decide_and,decide_eq_decide];unfold CZ;omega
end refs
end
section
open Go.Fw
section sol
variable {L n m p:Nat}{O F:Nat->Nat->Rat}{b:Nat->Nat}{z:Nat->Rat}
theorem F6(hu:Uc m F b):∀j,j<=m->∀k,k<n->pA n m F b j k=dJ (λj=>if b j=k then F j (n+m)else 0) j
 |0,_,_,_=>rfl
 |j+1,hj,k,hk=>by
  show(if b j<n/\k=b j then F j (n+m)else pA n m F b j k)=dJ (λj=>if b j=k then F j (n+m)else 0) j+(if b j=k then F j (n+m)else 0);by_cases e:b j=k
  ·rw[if_pos ⟨by omega,e.symm⟩,if_pos e,eM (k:=λ_=>0) (λi hi=>if_neg (λq=>by
    have:=xe hu (i:=i) (j:=j) (by omega) (by omega) (q.trans e.symm);omega)),mR];grind
  rw[if_neg (λq=>e q.2.symm),if_neg e,F6 hu j (by omega) k hk];grind
theorem IT:∀j k,n<=k->pA n m F b j k=0
 |0,_,_=>rfl
 |j+1,k,hk=>by
  show(if b j<n/\k=b j then F j (n+m)else pA n m F b j k)=0;rw[if_neg (by omega),IT j k hk]
theorem LK(h:mS L n m p O F b):∀j,j<=m->∀k,FQ L (pA n m F b j k)
 |0,_,_=>uP h.l1
 |j+1,hj,k=>by
  show FQ L (if b j<n/\k=b j then F j (n+m)else pA n m F b j k);split
  ·exact h.f j (by omega) _
  exact LK h j (by omega) k
theorem zK{R:Nat->Nat->Rat}{g:Nat->Rat}:Uc m (rW n m R g) (λj=>n+j):=λi j hi hj=>by
 show rW n m R g i (n+j)=_;unfold rW;rw[if_neg (by omega)];by_cases e:i=j
 ·rw[if_pos (by omega),if_pos e]
 rw[if_neg (by omega),if_neg (by omega),if_neg e]
end sol
def LL:Nat->Nat
 |0=>6
 |k+1=>4*LL k+1
theorem acJ:∀k,k<13->LL k<=106255701:=by decide
theorem U6:∀k,k<12->LL k<=100000000:=by decide
abbrev acK(v:Pv):Prop:=(-9223372036854775808<=v.row/\v.row<=9223372036854775807)/\(-9223372036854775808<=v.col/\v.col<=9223372036854775807)
theorem al7:(dZ.bind λx=>some x)=some true:=aA Yq Y
theorem QH{n:Int}{ob rw:List (List Qr)}{bd:List Qr}:∃b,kj ⟨n,ob,rw,bd⟩=some b/\(b=false->Sm6 ob rw bd/\(CZ n ob rw bd->rw.length<=5/\n<=6)):=by
 obtain⟨b1,e1,s1⟩:=QG (n:=n) (ob:=ob) (rw:=rw) (bd:=bd);have my:=ajx (n:=n) (ob:=ob) (rw:=rw) (bd:=bd);unfold kj;refine⟨_,bO<|aA e1<|CY (c:=decide (5<rw.length)&&decide (CZ n ob rw bd)) (λ_=>aA Y<|aA (congrArg some (decide_eq_decide.2 (show(5:Int)<(rw.length:Int)↔5<rw.length by omega)))<|Qt (λ_=>aA my Y) Y)<|CY (c:=decide (6<n)&&decide (CZ n ob rw bd)) (λ_=>aA Y<|Qt (λ_=>aA my Y) Y) Y,λh=>?_⟩;simp only[Bool.or_eq_false_iff,Bool.and_eq_false_iff,decide_eq_false_iff_not]at h;refine⟨s1 h.1.1,λhv=>⟨?_,?_⟩⟩
 ·rcases h.1.2 with q|q
  ·omega
  exact absurd hv q
 rcases h.2 with q|q
 ·omega
 exact absurd hv q
theorem acM{n:Int}{ob rw:List (List Qr)}{bd:List Qr}(v:fW ⟨n,ob,rw,bd⟩=some false):oQ ⟨n,ob,rw,bd⟩=some ():=by
 unfold oQ;exact aA v<|aA Y<|bN Y Y
theorem MV{n m p:Nat}{O F0:Nat->Nat->Rat}{b0:Nat->Nat}{l:List Pv}(hl:l.length<=12)(h:mS 6 n m p O F0 b0)(hu:Uc m F0 b0){R:Type}{f:List (List Qr)×List Int×List (List Qr)->Option R}{r:R}
  (hf:∀F b,mS 106255701 n m p O F b->Uc m F b->(∀z,r7 n m F z↔r7 n m F0 z)->f (mq p (λ_=>n) O,bq m b,mq m (λ_=>n+m+1) F)=some r):
  ((cy (λ(s33:Int×(List (List Qr))×(List Int)×(List (List Qr)))=>match s33 with|⟨LM,LN,LO,LP⟩=>(show Option ((Int×(List (List Qr))×(List Int)×(List (List Qr)))⊕((List (List Qr))×(List Int)×(List (List Qr))))from(some (l.length:Int)).bind λwm=>(some (decide ((LM:Int)<wm))).bind λsu=>(bif su then(cU l LM).bind λ⟨acN,akz⟩=>(cU l LM).bind λ⟨La,HX⟩=>(bp true n LN LO LP acN HX).bind λ⟨Q1,l37,RI,l39⟩=>(some (IntKind.i64.wrap (LM+1))).bind λsi=>some (.inl (si,l37,RI,l39))else some (.inr (LN,LO,LP))))) (0,mq p (λ_=>n) O,bq m b0,mq m (λ_=>n+m+1) F0)).bind f)=some r:=by
 refine mP (λs=>∃(k:Nat) (F:Nat->Nat->Rat) (b:Nat->Nat),s=((k:Int),mq p (λ_=>n) O,bq m b,mq m (λ_=>n+m+1) F)/\k<=l.length/\mS (LL k) n m p O F b/\Uc m F b/\∀z,r7 n m F z↔r7 n m F0 z) (λe=>∃(F:Nat->Nat->Rat) (b:Nat->Nat),e=(mq p (λ_=>n) O,bq m b,mq m (λ_=>n+m+1) F)/\mS 106255701 n m p O F b/\Uc m F b/\∀z,r7 n m F z↔r7 n m F0 z) (λs=>l.length-s.1.toNat) ?_ ⟨0,F0,b0,Y,Nat.zero_le _,h,hu,λ_=>Iff.rfl⟩ ?_
 ·rintro _ ⟨k,F,b,rfl,hk,ht,hu,hz⟩;by_cases hlt:k<l.length
  ·have g:=List.getElem?_eq_getElem hlt;generalize l[k]=v at g;obtain⟨r,c⟩:=v;obtain⟨e,F',b',hp,ht',hu',YC⟩:=Kv ht (U6 k (by omega)) hu r c;refine .inl ⟨(((k+1:Nat):Int),mq p (λ_=>n) O,bq m b',mq m (λ_=>n+m+1) F'),?_,⟨k+1,F',b',Y,hlt,ht',hu',λz=>(YC z).trans (hz z)⟩,by simp only[Int.toNat_natCast];omega⟩;exact aA Y<|aA (dT (by omega))<|bN Y<|aA (bK g)<|aA (bK g)<|aA hp<|aA (congrArg some (bQ (by omega))) Y
  exact .inr ⟨_,aA Y<|aA (dF (by omega))<|bt Y Y,F,b,Y,ht.mono (acJ k (by omega)),hu,hz⟩
 rintro _ ⟨F,b,rfl,ht,hu,hz⟩;exact hf F b ht hu hz
end
section
open Go.Fw
section two
variable {L K n m p:Nat}{O F G:Nat->Nat->Rat}{b c:Nat->Nat}
theorem yx(hb:∀j,j<m->b j<n+m)(f h:Nat->Rat):dJ (λl=>f l*dJ (λj=>if b j=l then h j else 0) m) (n+m)=dJ (λj=>f (b j)*h j) m:=by
 rw[show(λl=>f l*dJ (λj=>if b j=l then h j else 0) m)=λl=>dJ (λj=>f l*(if b j=l then h j else 0)) m from funext λl=>(um _ _ _).symm,Ej];refine eM (λj hj=>?_);rw[lu (hb j hj) (λi _ hne=>by rw[if_neg (λq=>hne q.symm)];grind),if_pos rfl]
theorem zL(hb:∀j,j<m->b j<n+m)(hu:Uc m F b)(hs:∀z,r7 n m F z->r7 n m G z){i k:Nat}(hi:i<m)(hk:k<=n+m):G i k=dJ (λs=>G i (b s)*F s k) m:=by
 have one:∀(h:Nat->Rat) (i:Nat),i<m->dJ (λj=>F i (b j)*h j) m=h i:=λh i hi=>by
  rw[lu hi (λj hj hne=>by rw[hu i j hi hj,if_neg (λq=>hne q.symm)];grind),hu i i hi hi,if_pos rfl];grind
 have s0:r7 n m F (λl=>dJ (λj=>if b j=l then F j (n+m)else 0) m):=λi hi=>by rw[yx hb,one _ i hi]
 have g0:=hs _ s0 i hi;rw[yx hb]at g0;by_cases e:k=n+m
 ·rw[e,<-g0]
 have hk':k<n+m:=by omega
 have pt:∀(f:Nat->Rat),dJ (λl=>f l*(dJ (λj=>if b j=l then F j (n+m)else 0) m+((if l=k then 1 else 0)-dJ (λj=>if b j=l then F j k else 0) m))) (n+m)=dJ (λj=>f (b j)*F j (n+m)) m+(f k-dJ (λj=>f (b j)*F j k) m):=λf=>by
  rw[<-yx hb f (λj=>F j (n+m)),<-yx hb f (λj=>F j k)];have e1:f k=dJ (λl=>f l*(if l=k then 1 else 0)) (n+m):=by
   rw[lu hk' (λi _ hne=>by rw[if_neg hne];grind),if_pos rfl];grind
  rw[e1,<-CP,<-CO];exact eM (λl _=>by grind)
 have s1:r7 n m F (λl=>dJ (λj=>if b j=l then F j (n+m)else 0) m+((if l=k then 1 else 0)-dJ (λj=>if b j=l then F j k else 0) m)):=λi hi=>by
  rw[pt (F i),one _ i hi,one _ i hi];grind
 have g1:=hs _ s1 i hi;rw[pt (G i),g0]at g1;grind
theorem uw(hb:∀j,j<m->b j<n+m)(hu:Uc m F b)(hv:Uc m G c)(hs:∀z,r7 n m F z->r7 n m G z)(hc:∀s,s<m->∃j,j<m/\c j=b s){i j k:Nat}(hi:i<m)(hj:j<m)(e:c j=b i)(hk:k<=n+m):F i k=G j k:=by
 rw[zL hb hu hs hj hk,lu hi (λs hs' hne=>?_),<-e,hv j j hj hj,if_pos rfl]
 ·grind
 obtain⟨t,ht,et⟩:=hc s hs';rw[<-et,hv j t hj ht,if_neg (λq=>?_)]
 ·grind
 subst q;exact hne (xe hu hs' hi (et.symm.trans e))
theorem reach(h:mS L n m p O F b)(hu:Uc m F b){G:Nat->Nat->Rat}{c:Nat->Nat}(hg:mS (LL 0) n m p O G c)(hv:Uc m G c)(hs:∀z,r7 n m F z↔r7 n m G z):∀t,t<=m->∃G' c',mS (LL t) n m p O G' c'/\Uc m G' c'/\(∀z,r7 n m F z↔r7 n m G' z)/\∀s,s<t->∃j,j<m/\c' j=b s
 |0,_=>⟨G,c,hg,hv,hs,λs hs=>by omega⟩
 |t+1,ht=>by
  obtain⟨G',c',h1,h2,h3,h4⟩:=reach h hu hg hv hs t (by omega);by_cases q:∃j,j<m/\c' j=b t
  ·refine⟨G',c',h1.mono (by show _<=4*LL t+1;omega),h2,h3,λs hs=>?_⟩;by_cases e:s=t
   ·subst e;exact q
   exact h4 s (by omega)
  by_cases q2:∃r,r<m/\G' r (b t)≠0/\∀s,s<t->c' r≠b s
  ·obtain⟨r,hr,h0,hn⟩:=q2;refine⟨_,_,zJ h1 hr (h.hb t (by omega)) h0,uu hr h0 h2,λz=>(h3 z).trans (yw hr h0).symm,λs hs=>?_⟩;by_cases e:s=t
   ·subst e;exact⟨r,hr,if_pos Y⟩
   obtain⟨j,hj,ej⟩:=h4 s (by omega);refine⟨j,hj,?_⟩;show(if j=r then _ else c' j)=_;rw[if_neg (λ(q:j=r)=>hn s (by omega) (by rw[<-q];exact ej))];exact ej
  exfalso;have e:=zL h1.hb h2 (λz=>(h3 z).2) (i:=t) (k:=b t) (show t<m by omega) (Nat.le_of_lt (h.hb t (by omega)));rw[hu t t (by omega) (by omega),if_pos Y,eM (k:=λ_=>0) (λs hs=>?_),mR]at e
  ·exact absurd e (by decide)
  by_cases w:G' s (b t)=0
  ·rw[w];grind
  by_cases w2:∃u,u<t/\c' s=b u
  ·obtain⟨u,Yv,hu2⟩:=w2;rw[hu2,hu t u (by omega) (by omega),if_neg (by omega)];grind
  exact absurd ⟨s,hs,w,λu hu q=>w2 ⟨u,hu,q⟩⟩ q2
theorem short(h:mS L n m p O F b)(hu:Uc m F b){G:Nat->Nat->Rat}{c:Nat->Nat}(hg:mS 6 n m p O G c)(hv:Uc m G c)(hs:∀z,r7 n m F z↔r7 n m G z)(hm:m<=5):mS 6485 n m p O F b:=by
 obtain⟨G',c',h1,h2,h3,h4⟩:=reach h hu (G:=G) (c:=c) hg hv hs m (Nat.le_refl m);have sz:LL m<=6485:=by
  have:∀k,k<6->LL k<=6485:=by decide
  exact this m (by omega)
 have h1:=h1.mono sz;refine⟨λi hi k=>?_,h1.o,h.z,by decide,h.hn,h.hm,h.hp,h.hb⟩;by_cases hk:k<=n+m
 ·obtain⟨j,hj,e⟩:=h4 i hi;rw[uw h.hb hu h2 (λz=>(h3 z).1) h4 hi hj e hk];exact h1.f j hj k
 rw[h.z i hi k (by omega)];exact uP (by decide)
end two
end
section
open Go.Fw
def sp(i q r:Nat):Nat:=if r=i then q else if r=q then i else r
theorem LQ(i q r:Nat):sp i q (sp i q r)=r:=by
 unfold sp;by_cases h1:r=i
 ·rw[if_pos h1];by_cases h2:q=i
  ·rw[if_pos h2];omega
  rw[if_neg h2,if_pos rfl];exact h1.symm
 rw[if_neg h1];by_cases h2:r=q
 ·rw[if_pos h2,if_pos rfl];exact h2.symm
 rw[if_neg h2,if_neg h1,if_neg h2]
theorem ux{i q r m:Nat}(hi:i<m)(hq:q<m)(hr:r<m):sp i q r<m:=by
 unfold sp;split
 ·exact hq
 split
 ·exact hi
 exact hr
theorem QI{i q r s:Nat}(h:sp i q r=sp i q s):r=s:=by rw[<-LQ i q r,h,LQ]
theorem U7{m w i q:Nat}{F:Nat->Nat->Rat}(hi:i<m)(hq:q<m):((mq m (λ_=>w) F).set i (vq w (F q))).set q (vq w (F i))=mq m (λ_=>w) (λr=>F (sp i q r)):=by
 apply List.ext_getElem?;intro j;rw[List.getElem?_set,List.getElem?_set,List.length_set,dI];by_cases hj:j<m
 ·rw[ia hj,ia hj];show _=some (vq w (F (sp i q j)));unfold sp;by_cases e1:q=j
  ·rw[if_pos e1,if_pos hq];by_cases e2:j=i
   ·rw[if_pos e2,e1,e2]
   rw[if_neg e2,if_pos e1.symm]
  rw[if_neg e1];by_cases e2:i=j
  ·rw[if_pos e2,if_pos hi,if_pos e2.symm]
  rw[if_neg e2,if_neg (λe=>e2 e.symm),if_neg (λe=>e1 e.symm)]
 rw[List.getElem?_eq_none (l:=mq m _ _) (by rw[dI];omega),List.getElem?_eq_none (l:=mq m _ _) (by rw[dI];omega),if_neg (by omega),if_neg (by omega)]
section sw
variable {L n m p i q:Nat}{O F:Nat->Nat->Rat}{b:Nat->Nat}
theorem mS.sw(h:mS L n m p O F b)(hi:i<m)(hq:q<m):mS L n m p O (λr=>F (sp i q r)) (λr=>b (sp i q r)):=
 ⟨λr hr k=>h.f _ (ux hi hq hr) k,h.o,λr hr k hk=>h.z _ (ux hi hq hr) k hk,h.l1,h.hn,h.hm,h.hp,λj hj=>h.hb _ (ux hi hq hj)⟩
theorem acO(hu:Uc m F b)(hi:i<m)(hq:q<m):Uc m (λr=>F (sp i q r)) (λr=>b (sp i q r)):=λr s hr hs=>by
 show F (sp i q r) (b (sp i q s))=_;rw[hu _ _ (ux hi hq hr) (ux hi hq hs)];by_cases e:r=s
 ·rw[if_pos e,if_pos (by rw[e])]
 rw[if_neg e,if_neg (λw=>e (QI w))]
theorem Yr{z:Nat->Rat}(hi:i<m)(hq:q<m):r7 n m (λr=>F (sp i q r)) z↔r7 n m F z:=
 ⟨λh r hr=>by have:=h (sp i q r) (ux hi hq hr);simp only[LQ]at this;exact this,λh r hr=>h _ (ux hi hq hr)⟩
end sw
section from_
variable {n:Nat}{ob rw:List (List Qr)}{bd:List Qr}{O R F:Nat->Nat->Rat}{g:Nat->Rat}{b c:Nat->Nat}
theorem En{m p:Nat}(hm:rw.length=m)(hp:ob.length=p)(ro:qZ 6 ob O)(rr:qZ 6 rw R)(rb:fM 6 bd g)(hv:CZ (n:Int) ob rw bd)(hm5:m<=5)(ry:∀i,i<m->c i<n+m)(hinj:∀i j,i<m->j<m->c i=c j->i=j)
  (hu:Uc m F b) (hz:∀z,r7 n m F z↔r7 n m (rW n m R g) z) (hc:∀i,i<m->∃j,j<m/\b j=c i):
  ∃G,eO ⟨(n:Int),ob,rw,bd⟩ (bq m c)=some (true,(n:Int),mq p (λ_=>n) O,bq m c,mq m (λ_=>n+m+1) G)/\mS 6485 n m p O G c/\Uc m G c/\∀z,r7 n m F z↔r7 n m G z:=by
 have v:=IK (n:=(n:Int)) (ob:=ob) (rw:=rw) (bd:=bd) (by obtain⟨_,_,_,h,_⟩:=hv;omega) (by omega);rw[decide_eq_true hv]at v;have eN:=acD (n:=n) ro rr rb (by decide) (by decide) (by decide) hv;have k0:=F5 (n:=n) ro rr rb (by decide) hv;have hn:=k0.hn;rw[hm,hp]at k0 eN;have u0:Uc m (rW n m R g) (λj=>n+j):=zK;generalize rW n m R g=F0 at*;have bl:=iG m c;have bg:∀j,j<m->(bq m c)[j]? =some ((c j:Nat):Int):=λj hj=>nP hj
 have fin:∃e,(cy (λ(Q0:Int×(List (List Qr))×(List Int)×(List (List Qr)))=>match Q0 with|⟨gL,m9,nc,dK⟩=>(show Option ((Int×(List (List Qr))×(List Int)×(List (List Qr)))⊕(((List (List Qr))×(List Int)×(List (List Qr)))⊕(Bool×Int×(List (List Qr))×(List Int)×(List (List Qr)))))from(some (decide ((gL:Int)<(m:Int)))).bind λGc=>(bif Gc then(cU (bq m c) gL).bind λQ1=>(cy (λ(jU:Int)=>(show Option ((Int)⊕(Int))from cK (λ(w7:Bool)=>(bif w7 then(some (IntKind.i64.wrap (jU+1))).bind λJt=>some (.inl Jt)else some (.inr jU))) λK80=>(some (dK.length:Int)).bind λDS=>(some (decide ((jU:Int)<DS))).bind λI5=>(bif I5 then(ko dK jU).bind λSf=>(dK[Sf]?).bind λI2=>(cU I2 Q1).bind λ⟨⟨D6,D7⟩,⟨D8,D9⟩⟩=>(eV ⟨⟨D6,D7⟩,⟨D8,D9⟩⟩).bind λQZ=>(some (decide ((QZ:Int)=0))).bind λQW=>some QW else some false).bind λzB=>K80 zB)) gL).bind λmO=>(some (dK.length:Int)).bind λM4=>(some (decide ((mO:Int)=M4))).bind λMF=>(bif MF then none else(ko dK mO).bind λIg=>(dK[Ig]?).bind λER=>(ko dK gL).bind λGP=>(dK[GP]?).bind λPG=>(ko dK gL).bind λSi=>(stM dK Si ER).bind λY0=>(ko Y0 mO).bind λSj=>(stM Y0 Sj PG).bind λl85=>(cJ true (n:Int) m9 nc l85 gL Q1).bind λ⟨l89,l90,l91⟩=>(some (IntKind.i64.wrap (gL+1))).bind λES=>some (.inl (ES,l89,l90,l91)))else some (.inr (.inl (m9,nc,dK)))))) (0,mq p (λ_=>n) O,bq m (λj=>n+j),mq m (λ_=>n+m+1) F0))=some e/\∃G,e=.inl (mq p (λ_=>n) O,bq m (λj=>n+j),mq m (λ_=>n+m+1) G)/\mS 6485 n m p O G c/\Uc m G c/\∀z,r7 n m F z↔r7 n m G z:=by
  refine qC (λs=>∃(k:Nat) (H:Nat->Nat->Rat) (d:Nat->Nat),s=((k:Int),mq p (λ_=>n) O,bq m (λj=>n+j),mq m (λ_=>n+m+1) H)/\k<=m/\mS (LL k) n m p O H d/\Uc m H d/\(∀z,r7 n m F z↔r7 n m H z)/\∀s,s<k->d s=c s) (λe=>∃G,e=Sum.inl (mq p (λ_=>n) O,bq m (λj=>n+j),mq m (λ_=>n+m+1) G)/\mS 6485 n m p O G c/\Uc m G c/\∀z,r7 n m F z↔r7 n m G z) (λs=>m-s.1.toNat) ?_ ⟨0,F0,λj=>n+j,Y,Nat.zero_le _,(show mS (LL 0) n m p O F0 (λj=>n+j)from k0),u0,hz,λs hs=>by omega⟩;rintro _ ⟨k,H,d,rfl,hk,ht,hd,hs,hdc⟩;by_cases hlt:k<m
  ·left;obtain⟨t,To,et⟩:=hc k hlt;have ex:∃q,k<=q/\q<m/\H q (c k)≠0:=by
    refine Classical.byContradiction (λno=>?_);have e:=zL ht.hb hd (λz=>(hs z).2) (i:=t) (k:=c k) To (Nat.le_of_lt (ry k hlt));rw[<-et,hu t t To To,if_pos Y,eM (k:=λ_=>0) (λs hs'=>?_),mR]at e
    ·exact absurd e (by decide)
    by_cases w:s<k
    ·obtain⟨j,hj,ej⟩:=hc s hs';rw[hdc s w,<-ej,hu t j To hj,if_neg (λq=>?_)]
     ·grind
     have:=hinj s k hs' hlt (by rw[<-ej,<-et,q]);omega
    have:H s (b t)=0:=Classical.byContradiction (λw2=>no ⟨s,by omega,hs',by rw[<-et];exact w2⟩);rw[this];grind
   have szk:LL k<=100000000:=U6 k (by omega);have hck:=ry k hlt;have Kq:=dI m (λ_=>n+m+1) H;have fl:∃y,(cy (λ(jU:Int)=>(show Option ((Int)⊕(Int))from cK (λ(w7:Bool)=>(bif w7 then(some (IntKind.i64.wrap (jU+1))).bind λJt=>some (.inl Jt)else some (.inr jU))) λK80=>(some ((mq m (λ_=>n+m+1) H).length:Int)).bind λDS=>(some (decide ((jU:Int)<DS))).bind λI5=>(bif I5 then(ko (mq m (λ_=>n+m+1) H) jU).bind λSf=>((mq m (λ_=>n+m+1) H)[Sf]?).bind λI2=>(cU I2 ((c k:Nat):Int)).bind λ⟨⟨D6,D7⟩,⟨D8,D9⟩⟩=>(eV ⟨⟨D6,D7⟩,⟨D8,D9⟩⟩).bind λQZ=>(some (decide ((QZ:Int)=0))).bind λQW=>some QW else some false).bind λzB=>K80 zB)) (k:Int))=some y/\∃q:Nat,y=(q:Int)/\k<=q/\q<m/\H q (c k)≠0:=by
    refine qC (λy=>∃t q:Nat,y=(t:Int)/\k<=t/\t<=q/\q<m/\H q (c k)≠0) (λy=>∃q:Nat,y=(q:Int)/\k<=q/\q<m/\H q (c k)≠0) (λy=>m-y.toNat) ?_ (by obtain⟨q,h1,h2,h3⟩:=ex;exact⟨k,q,Y,Nat.le_refl _,h1,h2,h3⟩);rintro _ ⟨t,q,rfl,h1,h2,h3,h4⟩;have g1:(mq m (λ_=>n+m+1) H)[t]? =some (vq (n+m+1) (H t)):=ia (by omega);have g2:(vq (n+m+1) (H t))[c k]? =some (qn (H t (c k))):=k7 (by omega);have sg:=((ht.f t (by omega) (c k)).rep ht.l1).sign (by omega);have zz:pz (H t (c k)) 0=0↔H t (c k)=0:=lq;generalize mq m (λ_=>n+m+1) H=rows at*;generalize qn (H t (c k))=w at*;obtain⟨⟨_,_⟩,⟨_,_⟩⟩:=w;by_cases e:H t (c k)=0
    ·left;have:t≠q:=λw=>h4 (w▸e);refine⟨((t+1:Nat):Int),?_,⟨t+1,q,Y,by omega,by omega,h3,h4⟩,by simp only[Int.toNat_natCast];omega⟩;exact bO<|aA Y<|aA (dT (by omega))<|aA (a:=true) (bN Y<|aA (bR (by omega))<|aA g1<|aA (bK g2)<|aA sg<|aA (dT (zz.2 e)) Y)<|bN Y<|aA (congrArg some (bQ (by omega))) Y
    right;refine⟨(t:Int),?_,t,Y,h1,by omega,e⟩;exact bO<|aA Y<|aA (dT (by omega))<|aA (a:=false) (bN Y<|aA (bR (by omega))<|aA g1<|aA (bK g2)<|aA sg<|aA (dF (λw=>e (zz.1 w))) Y)<|bt Y Y
   obtain⟨y,fl,q,rfl,hkq,hqm,hq0⟩:=fl;have s1:=ht.sw hlt hqm;have h0:(λr=>H (sp k q r)) k (c k)≠0:=by
    show H (sp k q k) (c k)≠0;unfold sp;rw[if_pos rfl];exact hq0
   have sv:=QA s1 szk hlt (show c k<n+m+1 by omega) h0 (o0:=true) (o1:=(n:Int)) (o2:=mq p (λ_=>n) O) (o3:=bq m (λj=>n+j));rw[<-U7 hlt hqm]at sv;have gq:(mq m (λ_=>n+m+1) H)[q]? =some (vq (n+m+1) (H q)):=ia hqm;have gk:(mq m (λ_=>n+m+1) H)[k]? =some (vq (n+m+1) (H k)):=ia hlt;refine⟨(((k+1:Nat):Int),mq p (λ_=>n) O,bq m (λj=>n+j),mq m (λ_=>n+m+1) (lz (λr=>H (sp k q r)) k (c k))),?_,⟨k+1,_,_,Y,hlt,zJ s1 hlt hck h0,uu hlt h0 (acO hd hlt hqm),λz=>((hs z).trans (Yr hlt hqm).symm).trans (yw hlt h0).symm,λs hs'=>?_⟩,by simp only[Int.toNat_natCast];omega⟩
   ·generalize mq m (λ_=>n+m+1) (lz (λr=>H (sp k q r)) k (c k))=akB at*;refine aA (dT (by omega))<|bN Y<|aA (bK (bg k hlt))<|aA fl ?_;generalize mq m (λ_=>n+m+1) H=rows at*;exact aA Y<|aA (dF (by omega))<|bt Y<|aA (bR (by omega))<|aA gq<|aA (bR (by omega))<|aA gk<|aA (bR (by omega))<|aA (eD (by omega))<|aA (bR (by rw[List.length_set];omega))<|aA (eD (by rw[List.length_set];omega))<|aA sv<|aA (congrArg some (bQ (by omega))) Y
   show(if s=k then c k else d (sp k q s))=c s;by_cases e:s=k
   ·rw[if_pos e,e]
   rw[if_neg e];unfold sp;rw[if_neg e,if_neg (by omega)];exact hdc s (by omega)
  right;obtain rfl:k=m:=by omega
  have sz:LL k<=6485:=by
   have:∀k,k<6->LL k<=6485:=by decide
   exact this k (by omega)
  have t1:=ht.mono sz;refine⟨_,aA (dF (by omega))<|bt Y Y,H,Y,⟨t1.f,t1.o,t1.z,t1.l1,t1.hn,t1.hm,t1.hp,ry⟩,λi j hi hj=>by rw[<-hdc j hj];exact hd i j hi hj,hs⟩
 obtain⟨e,hl,G,rfl,hG,hGu,hGs⟩:=fin;refine⟨G,?_,hG,hGu,hGs⟩;have cp:uB (bq m (λj=>n+j)) (bq m c)=bq m c:=by
  unfold uB;rw[iG,iG,List.drop_eq_nil_of_le (by rw[iG];exact Nat.le_refl m),List.append_nil,List.take_of_length_le (by rw[iG];exact Nat.le_refl m)]
 unfold eO;refine bO<|aA v<|aA Y<|aA (a:=false) (bt Y<|aA Y<|aA Y<|aA (dF (by omega)) Y)<|bt Y<|aA Y<|aA (congrArg some (show IntKind.i64.wrap ((n:Int)+(rw.length:Int))=((n+m:Nat):Int) by rw[cQ (by omega) (by omega)];omega))<|aA (oR (by decide) (by omega))<|aA (congrArg some (show((bq m c).length:Int)=(m:Int) by rw[bl])) ?_;refine mP (λs=>∃(k:Nat) (u:List Bool),s=((k:Int),u)/\k<=m/\u.length=n+m/\∀l,u[l]? =some true->∃s,s<k/\c s=l) (λe=>e=.inl ()) (λs=>m-s.1.toNat) ?_ ⟨0,_,Y,Nat.zero_le _,by simp,λl hl=>by
  rw[List.getElem?_replicate]at hl;split at hl
  ·cases hl
  cases hl⟩ ?_
 ·rintro _ ⟨k,u,rfl,hk,hul,hut⟩;by_cases hlt:k<m
  ·left;have hck:=ry k hlt;obtain⟨w,hw⟩:∃w,u[c k]? =some w:=⟨u[c k]'(by omega),List.getElem?_eq_getElem (by omega)⟩;have hw2:w=false:=by
    cases w
    ·rfl
    obtain⟨s,hs,es⟩:=hut _ hw;have:=hinj s k (by omega) hlt es;omega
   subst hw2;refine⟨(((k+1:Nat):Int),u.set (c k) true),?_,⟨k+1,_,Y,hlt,by rw[List.length_set];exact hul,λl hl=>?_⟩,by simp only[Int.toNat_natCast];omega⟩
   ·exact aA (dT (by omega))<|bN Y<|aA (bK (bg k hlt))<|bO<|aA (dF (by omega))<|aA (a:=false) (bt Y<|aA Y<|aA (dF (by omega)) Y)<|aA (a:=false) (bt Y<|aA (bR (by omega))<|aA hw Y)<|bt Y<|aA (bR (by omega))<|aA (eD (by omega))<|aA (congrArg some (bQ (by omega))) Y
   rw[List.getElem?_set]at hl;by_cases e:c k=l
   ·exact⟨k,by omega,e⟩
   rw[if_neg e]at hl;obtain⟨s,hs,es⟩:=hut l hl;exact⟨s,by omega,es⟩
  right;exact⟨_,aA (dF (by omega))<|bt Y Y,Y⟩
 rintro _ rfl;refine aA eN<|aA (congrArg some (show((bq m c).length:Int)=(m:Int) by rw[bl])) ?_;refine aA hl ?_;show some (true,(n:Int),mq p (λ_=>n) O,uB (bq m (λj=>n+j)) (bq m c),mq m (λ_=>n+m+1) G)=_;rw[cp]
end from_
end
section
open Go.Fw
theorem QJ{α:Type}{l:List α}{x:α}(h:l.length<=1000):yM 24 l [x]=some (l++[x]):=CG (by decide) (by omega)
section Ym
variable {L n m p:Nat}{O F:Nat->Nat->Rat}{b:Nat->Nat}
theorem U8(h:mS L n m p O F b)(hL:L<=4000000000):fX (F4 n m p O F b)=some (mq m (λ_=>n+m) F):=by
 have hm:=h.hm;have hn:=h.hn;unfold fX;refine aA (gV n m p O F b)<|bt Y<|aA (congrArg some (show((mq m (λ_=>n+m+1) F).length:Int)=(m:Int) by rw[dI])) ?_;refine bP (λk=>((k:Int),mq k (λ_=>n+m) F)) m (mq m (λ_=>n+m) F) Y (λk hk=>?_) ?_ Y
 ·have g1:(mq m (λ_=>n+m+1) F)[k]? =some (vq (n+m+1) (F k)):=ia hk;have rs:=F2 (S4 h hk) (by omega) (by rw[cM];omega) ((n+m:Nat):Int);rw[show(min (((n+m:Nat):Int)) 65536).toNat=n+m by omega]at rs;have ap:=QJ (l:=mq k (λ_=>n+m) F) (x:=vq (n+m) (F k)) (by rw[dI];omega);rw[<-yu]at ap;refine aA (dT (by omega))<|bN Y<|aA (bK g1)<|aA (xd hn hm)<|aA rs<|aA ap<|aA (congrArg some (bQ (by omega))) Y
 exact aA (dF (by omega))<|bt Y Y
theorem QK(h:mS L n m p O F b)(hL:(m+1)*(L+L+1)<=2000000000):dm (F4 n m p O F b)=some (mq (n+m) (λ_=>p+n) (ur n m p O F b)):=by
 have hm:=h.hm;have hn:=h.hn;unfold dm;refine aA (gV n m p O F b)<|bt Y ?_;have hw:(IntKind.i64.wrap (Tb.vars (F4 n m p O F b)+((Tb.rows (F4 n m p O F b)).length:Int))).toNat=n+m:=by
  show(IntKind.i64.wrap ((n:Int)+((mq m (λ_=>n+m+1) F).length:Int))).toNat=_;rw[dI,cQ (by omega) (by omega)];omega
 refine aA (a:=mq (n+m) (λ_=>p+n) (ur n m p O F b)) ?_ Y;refine Eq.trans (congrArg (λk=>nJ _ k []) hw) ?_;refine yN (λk=>mq k (λ_=>p+n) (ur n m p O F b)) (n+m) (λk hk=>?_);have ap:=QJ (l:=mq k (λ_=>p+n) (ur n m p O F b)) (x:=vq (p+n) (ur n m p O F b k)) (by rw[dI];omega);rw[<-yu]at ap;exact aA Y<|aA (IM h hL hk).1<|aA ap Y
end Ym
end
section
open Go.Fw
theorem F7{L n m p:Nat}{O F:Nat->Nat->Rat}{b:Nat->Nat}(h:mS L n m p O F b)(hL:L<=100000000)(r c:Int):(∃e,e≠0/\bp true n (mq p (λ_=>n) O) (bq m b) (mq m (λ_=>n+m+1) F) r c=some (e,mq p (λ_=>n) O,bq m b,mq m (λ_=>n+m+1) F))\/∃(r' c':Nat),r=(r':Int)/\c=(c':Int)/\r'<m/\c'<n+m/\(∀j,j<m->b j≠c')/\F r' c'≠0:=by
 have hm:=h.hm;have hn:=h.hn;have same:∀e,e≠0->bp true n (mq p (λ_=>n) O) (bq m b) (mq m (λ_=>n+m+1) F) r c=some (e,mq p (λ_=>n) O,bq m b,mq m (λ_=>n+m+1) F)->(∃e,e≠0/\bp true n (mq p (λ_=>n) O) (bq m b) (mq m (λ_=>n+m+1) F) r c=some (e,mq p (λ_=>n) O,bq m b,mq m (λ_=>n+m+1) F))\/∃(r' c':Nat),r=(r':Int)/\c=(c':Int)/\r'<m/\c'<n+m/\(∀j,j<m->b j≠c')/\F r' c'≠0:=
  λe h0 he=>.inl ⟨e,h0,he⟩
 have wd:dP (⟨true,(n:Int),mq p (λ_=>n) O,bq m b,mq m (λ_=>n+m+1) F⟩:Tb)=some ((n+m:Nat):Int):=xd hn hm;have ms:cw (⟨true,(n:Int),mq p (λ_=>n) O,bq m b,mq m (λ_=>n+m+1) F⟩:Tb)=some false:=gV n m p O F b;have rl:=dI m (λ_=>n+m+1) F;by_cases h1:r<0
 ·refine same 1 (by decide) ?_;unfold bp;exact aA ms<|bt Y<|bO<|aA (dT h1)<|aA (a:=true) (bN Y Y)<|aA (a:=true) (bN Y Y)<|aA (a:=true) (bN Y Y)<|bN Y Y
 by_cases h2:(m:Int)<=r
 ·refine same 1 (by decide) ?_;unfold bp;exact aA ms<|bt Y<|bO<|aA (dF h1)<|aA (a:=true) (bt Y<|aA Y<|aA (dT (by omega)) Y)<|aA (a:=true) (bN Y Y)<|aA (a:=true) (bN Y Y)<|bN Y Y
 by_cases h3:c<0
 ·refine same 1 (by decide) ?_;unfold bp;exact aA ms<|bt Y<|bO<|aA (dF h1)<|aA (a:=false) (bt Y<|aA Y<|aA (dF (by omega)) Y)<|aA (a:=true) (bt Y<|aA (dT h3) Y)<|aA (a:=true) (bN Y Y)<|bN Y Y
 by_cases h4:((n+m:Nat):Int)<=c
 ·refine same 1 (by decide) ?_;unfold bp;exact aA ms<|bt Y<|bO<|aA (dF h1)<|aA (a:=false) (bt Y<|aA Y<|aA (dF (by omega)) Y)<|aA (a:=false) (bt Y<|aA (dF h3) Y)<|aA (a:=true) (bt Y<|aA wd<|aA (dT h4) Y)<|bN Y Y
 obtain⟨r,rfl⟩:∃k:Nat,r=(k:Int):=⟨r.toNat,by omega⟩;obtain⟨c,rfl⟩:∃k:Nat,c=(k:Int):=⟨c.toNat,by omega⟩;have hr:r<m:=by omega
 have hc:c<n+m:=by omega
 have g1:(mq m (λ_=>n+m+1) F)[r]? =some (vq (n+m+1) (F r)):=ia hr;have g2:(vq (n+m+1) (F r))[c]? =some (qn (F r c)):=k7 (by omega);have sg:=((h.f r hr c).rep h.l1).sign (by omega);have Kq:r<(mq m (λ_=>n+m+1) F).length:=by rw[dI];exact hr
 have QN:=iG m b;have bg:∀j,j<m->(bq m b)[j]? =some ((b j:Nat):Int):=λj hj=>nP hj;by_cases h5:∀j,j<m->b j≠c
 ·by_cases h6:F r c=0
  ·refine same 7 (by decide) ?_;unfold bp;generalize bq m b=B at*;generalize mq m (λ_=>n+m+1) F=rows at*;refine aA ms<|bt Y<|bO<|aA (dF (by omega))<|aA (a:=false) (bt Y<|aA Y<|aA (dF (by omega)) Y)<|aA (a:=false) (bt Y<|aA (dF (by omega)) Y)<|aA (a:=false) (bt Y<|aA wd<|aA (dF (by omega)) Y)<|bt Y<|aA Y ?_;refine bP (λk=>(k:Int)) m (.inl ()) Y (λk hk=>?_) ?_ ?_
   ·exact aA (dT (by omega))<|bN Y<|aA (bR (by omega))<|aA (bg k hk)<|aA (dF (by have:=h5 k hk;omega))<|bt Y<|aA (congrArg some (bQ (by omega))) Y
   ·exact aA (dF (by omega))<|bt Y Y
   generalize qn (F r c)=q at*;obtain⟨⟨_,_⟩,⟨_,_⟩⟩:=q;exact aA (bR Kq)<|aA g1<|aA (bK g2)<|aA sg<|aA (dT (lq.2 h6))<|bN Y Y
  exact .inr ⟨r,c,Y,Y,hr,hc,h5,h6⟩
 refine same 1 (by decide) ?_;unfold bp;generalize bq m b=B at*;generalize mq m (λ_=>n+m+1) F=rows at*;refine aA ms<|bt Y<|bO<|aA (dF (by omega))<|aA (a:=false) (bt Y<|aA Y<|aA (dF (by omega)) Y)<|aA (a:=false) (bt Y<|aA (dF (by omega)) Y)<|aA (a:=false) (bt Y<|aA wd<|aA (dF (by omega)) Y)<|bt Y<|aA Y ?_;refine aA (uQ (n:=m) (p:=λj=>b j≠c) (e:=(1,mq p (λ_=>n) O,B,rows)) (λk hk=>?_) (aA (dF (by omega))<|bt Y Y)) ?_
 ·refine aA (dT (by omega))<|bN Y<|aA (bR (by omega))<|aA (bg k hk)<|aA Y ?_;by_cases q:b k=c
  ·rw[if_neg (λe=>e q)];exact bN (decide_eq_true (show((b k:Nat):Int)=(c:Int) by omega)) Y
  rw[if_pos q];exact bt (decide_eq_false (show ¬((b k:Nat):Int)=(c:Int) by omega))<|aA (congrArg some (bQ (by omega))) Y
 rw[if_neg h5]
theorem Ys{α β:Type}{x:Option α}{a:α}{f:α->Option β}{Q:β->Prop}(h:x=some a)(hf:∃r,f a=some r/\Q r):∃r,x.bind f=some r/\Q r:=by rw[h];exact hf
theorem exT{β:Type}{b:Bool}{x y:Option β}{Q:β->Prop}(hb:b=true)(h:∃r,x=some r/\Q r):∃r,(bif b then x else y)=some r/\Q r:=by rw[hb];exact h
theorem IU{S E R:Type}{body:S->Option (S⊕E)}{s:S}{f:E->Option R}{Q:R->Prop}(I:S->Prop)(Post:E->Prop)(μ:S->Nat)
  (step:∀s,I s->∃r,body s=some r/\((∃s',r=.inl s'/\I s'/\μ s'<μ s)\/(∃e,r=.inr e/\Post e))) (h:I s) (hf:∀e,Post e->∃r,f e=some r/\Q r):∃r,(cy body s).bind f=some r/\Q r:=
 l7 I Post μ (λs hs=>by
  obtain⟨r,hr,h1⟩:=step s hs;rcases h1 with⟨s',rfl,h2⟩|⟨e,rfl,h2⟩
  ·exact .inl ⟨s',hr,h2⟩
  exact .inr ⟨e,hr,h2⟩) h hf
structure F8 (m:Nat) (π:Nat->Nat):Prop where
 lt:∀i,i<m->π i<m
 inj:∀i j,i<m->j<m->π i=π j->i=j
 sur:∀i,i<m->∃j,j<m/\π j=i
theorem Ta(m:Nat):F8 m (λi=>i):=⟨λ_ h=>h,λ_ _ _ _ h=>h,λi h=>⟨i,h,Y⟩⟩
theorem F8.sw{m i q:Nat}{π:Nat->Nat}(h:F8 m π)(hi:i<m)(hq:q<m):F8 m (λj=>π (sp i q j)):=
 ⟨λj hj=>h.lt _ (ux hi hq hj),λj k hj hk e=>QI (h.inj _ _ (ux hi hq hj) (ux hi hq hk) e),λj hj=>by
  obtain⟨k,hk,e⟩:=h.sur j hj;exact⟨sp i q k,ux hi hq hk,by show π (sp i q (sp i q k))=j;rw[LQ];exact e⟩⟩
theorem acQ{m i q:Nat}{b:Nat->Nat}(hi:i<m)(hq:q<m):((bq m b).set i ((b q:Nat):Int)).set q ((b i:Nat):Int)=bq m (λr=>b (sp i q r)):=by
 rw[Kt hi,Kt hq];unfold bq;refine List.map_congr_left (λj _=>?_);show(((if j=q then b i else if j=i then b q else b j):Nat):Int)=((b (sp i q j):Nat):Int);unfold sp;by_cases e1:j=i
 ·rw[if_pos e1,if_pos e1];by_cases e2:j=q
  ·rw[if_pos e2,<-e1,e2]
  rw[if_neg e2]
 rw[if_neg e1,if_neg e1];by_cases e2:j=q
 ·rw[if_pos e2,if_pos e2]
 rw[if_neg e2,if_neg e2]
section Ym
variable {L n m p:Nat}{O F G:Nat->Nat->Rat}{b c:Nat->Nat}
theorem Tc(hm:m<=128):eA true (n:Int) (mq p (λ_=>n) O) (bq m b) (mq m (λ_=>n+m+1) F)=some (bq m b):=by
 unfold eA;refine aA (gV n m p O F b)<|bt Y<|aA Y<|aA (oR (by decide) (by rw[iG];omega)) ?_;rw[IP]
theorem Yt(h:mS L n m p O F b)(hL:L<=4000000000):eL true (n:Int) (mq p (λ_=>n) O) (bq m b) (mq m (λ_=>n+m+1) F)=some (mq m (λ_=>n+m) F):=by
 have hm:=h.hm;have hn:=h.hn;have Kq:=dI m (λ_=>n+m+1) F;have wd:dP (⟨true,(n:Int),mq p (λ_=>n) O,bq m b,mq m (λ_=>n+m+1) F⟩:Tb)=some ((n+m:Nat):Int):=xd hn hm;unfold eL;refine aA (gV n m p O F b)<|bt Y<|aA (congrArg some (show((mq m (λ_=>n+m+1) F).length:Int)=(m:Int) by rw[dI])) ?_;refine bP (λk=>((k:Int),mq k (λ_=>n+m) F)) m (mq m (λ_=>n+m) F) Y (λk hk=>?_) ?_ Y
 ·have g1:(mq m (λ_=>n+m+1) F)[k]? =some (vq (n+m+1) (F k)):=ia hk;have rs:=F2 (S4 h hk) (by omega) (by rw[cM];omega) ((n+m:Nat):Int);rw[show(min (((n+m:Nat):Int)) 65536).toNat=n+m by omega]at rs;have ap:=QJ (l:=mq k (λ_=>n+m) F) (x:=vq (n+m) (F k)) (by rw[dI];omega);rw[<-yu]at ap;generalize mq m (λ_=>n+m+1) F=rows at*;refine aA (dT (by omega))<|bN Y<|aA (bR (by omega))<|aA g1<|aA wd<|aA rs<|aA ap<|aA (congrArg some (bQ (by omega))) Y
 exact aA (dF (by omega))<|bt Y Y
theorem MW(h:mS L n m p O F b)(hL:L<=4000000000):∃r,jV true (n:Int) (mq p (λ_=>n) O) (bq m b) (mq m (λ_=>n+m+1) F)=some r/\∃π,F8 m π/\r=(bq m (λi=>b (π i)),mq m (λ_=>n+m) (λi=>F (π i)),true):=by
 have hm:=h.hm;unfold jV;refine Ys (Tc hm)<|Ys (Yt h hL)<|Ys Y<|Ys Y<|Ys (dF (by rw[iG,dI];simp)) ?_;rw[jF];refine IU (λs=>∃(k:Nat) (π:Nat->Nat),s=((k:Int),bq m (λi=>b (π i)),mq m (λ_=>n+m) (λi=>F (π i)))/\F8 m π) (λe=>∃π,F8 m π/\e=(bq m (λi=>b (π i)),mq m (λ_=>n+m) (λi=>F (π i)))) (λs=>m-s.1.toNat) ?_ ⟨1,λi=>i,Y,Ta m⟩ ?_
 ·rintro _ ⟨k,π,rfl,hπ⟩;by_cases hk:k<m
  ·refine Ys Y<|Ys (dT (by rw[iG];omega))<|exT Y ?_;refine IU (λs=>∃(t:Nat) (π:Nat->Nat),s=((t:Int),bq m (λi=>b (π i)),mq m (λ_=>n+m) (λi=>F (π i)))/\t<m/\F8 m π) (λe=>∃π,F8 m π/\e=(bq m (λi=>b (π i)),mq m (λ_=>n+m) (λi=>F (π i)))) (λs=>s.1.toNat) ?_ ⟨k,π,Y,hk,hπ⟩ ?_
   ·rintro _ ⟨t,π,rfl,ht,hπ⟩;by_cases h0:0<t
    ·have w1:IntKind.i64.wrap ((t:Int)-1)=((t-1:Nat):Int):=by rw[cQ (by omega) (by omega)];omega
     have g1:(bq m (λi=>b (π i)))[t]? =some ((b (π t):Nat):Int):=nP ht;have g2:(bq m (λi=>b (π i)))[t-1]? =some ((b (π (t-1)):Nat):Int):=nP (b:=λi=>b (π i)) (by omega);have g3:(mq m (λ_=>n+m) (λi=>F (π i)))[t]? =some (vq (n+m) (F (π t))):=ia ht;have g4:(mq m (λ_=>n+m) (λi=>F (π i)))[t-1]? =some (vq (n+m) (F (π (t-1)))):=ia (F:=λi=>F (π i)) (ln:=λ_=>n+m) (by omega);have e1:=acQ (b:=λi=>b (π i)) ht (show t-1<m by omega);have e2:=U7 (w:=n+m) (F:=λi=>F (π i)) ht (show t-1<m by omega);have l1:=iG m (λi=>b (π i));have l2:=dI m (λ_=>n+m) (λi=>F (π i));have hs:=hπ.sw ht (show t-1<m by omega);have cond:∀{β:Type} {B:List Int} {f:Bool->Option β} {r:Option β},B[t]? =some ((b (π t):Nat):Int)->B[t-1]? =some ((b (π (t-1)):Nat):Int)->B.length=m->f (decide (((b (π t):Nat):Int)<((b (π (t-1)):Nat):Int)))=r->
       ((bif decide ((0:Int)<(t:Int))then(ko B (t:Int)).bind λvk=>(B[vk]?).bind λrE=>(some (IntKind.i64.wrap ((t:Int)-1))).bind λoq=>(ko B oq).bind λot=>(B[ot]?).bind λqa=>(some (decide ((rE:Int)<qa))).bind λuE=>some uE else some false).bind f)=r:=λp1 p2 p3 hf=>
      aA (bN (decide_eq_true (by omega))<|aA (bR (by omega))<|aA p1<|aA (congrArg some w1)<|aA (bR (by omega))<|aA p2<|aA Y Y) hf
     by_cases q:((b (π t):Nat):Int)<((b (π (t-1)):Nat):Int)
     ·refine⟨.inl (((t-1:Nat):Int),bq m (λr=>b (π (sp t (t-1) r))),mq m (λ_=>n+m) (λr=>F (π (sp t (t-1) r)))),?_,.inl ⟨_,Y,⟨t-1,_,Y,by omega,hs⟩,by simp only[Int.toNat_natCast];omega⟩⟩;rw[<-e1,<-e2];generalize bq m (λi=>b (π i))=B at*;generalize mq m (λ_=>n+m) (λi=>F (π i))=W at*;refine bO<|aA Y<|cond g1 g2 l1 ?_;refine bN (decide_eq_true q) ?_;exact aA (congrArg some w1)<|aA (congrArg some w1)<|aA (bR (by omega))<|aA g2<|aA (bR (by omega))<|aA g1<|aA (bR (by omega))<|aA (eD (by omega))<|aA (bR (by rw[List.length_set];omega))<|aA (eD (by rw[List.length_set];omega))<|aA (congrArg some w1)<|aA (congrArg some w1)<|aA (bR (by omega))<|aA g4<|aA (bR (by omega))<|aA g3<|aA (bR (by omega))<|aA (eD (by omega))<|aA (bR (by rw[List.length_set];omega))<|aA (eD (by rw[List.length_set];omega))<|aA (congrArg some w1) Y
     refine⟨.inr (bq m (λi=>b (π i)),mq m (λ_=>n+m) (λi=>F (π i))),?_,.inr ⟨_,Y,π,hπ,Y⟩⟩;generalize bq m (λi=>b (π i))=B at*;refine bO<|aA Y<|cond g1 g2 l1 ?_;exact bt (decide_eq_false q) Y
    refine⟨.inr (bq m (λi=>b (π i)),mq m (λ_=>n+m) (λi=>F (π i))),?_,.inr ⟨_,Y,π,hπ,Y⟩⟩;exact bO<|aA Y<|aA (bt (decide_eq_false (by omega)) Y)<|bt Y Y
   rintro _ ⟨π,hπ,rfl⟩;exact⟨_,aA (congrArg some (bQ (by omega))) Y,.inl ⟨_,Y,⟨k+1,π,Y,hπ⟩,by simp only[Int.toNat_natCast];omega⟩⟩
  exact⟨_,aA Y<|aA (dF (by rw[iG];omega))<|bt Y Y,.inr ⟨_,Y,π,hπ,Y⟩⟩
 rintro _ ⟨π,hπ,rfl⟩;exact⟨_,Y,π,hπ,Y⟩
theorem Yu(IW:∀j,j<m->b j<n+m)(hbc:∀j,j<m->c j<n+m)(hu:Uc m F b)(hv:Uc m G c)(hs:∀z,r7 n m G z->r7 n m F z)(h1:∀s,s<m->∃j,j<m/\b j=c s)(h2:∀s,s<m->∃j,j<m/\c j=b s){l k:Nat}(hk:k<=n+m):dJ (λj=>if c j=l then G j k else 0) m=dJ (λj=>if b j=l then F j k else 0) m:=by
 by_cases e:∃i,i<m/\c i=l
 ·obtain⟨i,hi,rfl⟩:=e;obtain⟨j,hj,ej⟩:=h1 i hi;rw[lu hi (λs hs' hne=>if_neg (λq=>hne (xe hv hs' hi q))),if_pos Y,lu hj (λs hs' hne=>if_neg (λq=>hne (xe hu hs' hj (q.trans ej.symm)))),if_pos ej];exact uw hbc hv hu hs h1 hi hj ej hk
 rw[eM (k:=λ_=>0) (λs hs'=>if_neg (λq=>e ⟨s,hs',q⟩)),eM (h:=λj=>if b j=l then F j k else 0) (k:=λ_=>0) (λs hs'=>if_neg (λq=>by
  obtain⟨i,hi,ei⟩:=h2 s hs';exact e ⟨i,hi,ei.trans q⟩))]
theorem F9{w:Nat}(hf:∀i,i<m->∀k,k<w->FQ L (F i k))(h1:1<=L)(hL:L<=2000000000):eW (mq m (λ_=>w) F) (mq m (λ_=>w) F)=some true:=by
 have eF:mq m (λ_=>w) F=mq m (λ_=>w) (λi k=>if i<m/\k<w then F i k else 0):=mh (λi hi=>⟨Y,λk hk=>by rw[if_pos ⟨hi,hk⟩]⟩);rw[eF];have rF:qZ L (mq m (λ_=>w) (λi k=>if i<m/\k<w then F i k else 0)) (λi k=>if i<m/\k<w then F i k else 0):=Qu (λi hi k hk=>by
  show FQ L (if i<m/\k<w then F i k else 0);rw[if_pos ⟨hi,hk⟩];exact hf i hi k hk) (λi hi k hk=>if_neg (by omega)) (λi hi k=>if_neg (by omega)) h1
 exact SY rF rF (by omega) (λ_ _=>rfl)
end Ym
end
section
open Go.Fw
theorem DE(q:Lr)(l:List Pv)(x:Pv)(op:OkL q)(ol:l.length<=9223372036854775807/\∀v∈l,acK v)(ox:acK x):fR q l x=some true:=by
 obtain⟨n,ob,rw,bd⟩:=q;obtain⟨on,oo,or_,ob_⟩:=op;replace oo:OkM ob:=oo;replace or_:OkM rw:=or_;replace ob_:OkV bd:=ob_;obtain⟨b1,e1,s1⟩:=QH (n:=n) (ob:=ob) (rw:=rw) (bd:=bd);obtain⟨x0,x1⟩:=x;have v:=Yl (n:=n) (ob:=ob) (rw:=rw) (bd:=bd);unfold fR;by_cases hv:CZ n ob rw bd
 ·rw[decide_eq_true hv]at v;rw[if_pos v];unfold fF;refine bO<|aA e1<|CY (λ_=>aA Y<|aA Y Y)<|CS (λ_=>al7) (λhb=>?_);simp only[Bool.or_eq_false_iff,decide_eq_false_iff_not]at hb;obtain⟨yH,AO⟩:=hb;obtain⟨s6,s7⟩:=s1 yH;obtain⟨hr5,hn6⟩:=s7 hv;obtain⟨v1,v2,v3,v4,v5,v6,v7,v8⟩:=id hv;obtain⟨n,rfl⟩:∃k:Nat,n=(k:Int):=⟨n.toNat,by omega⟩;have ro:=U5 oo s6.so;have rr:=U5 or_ s6.sr;have hbd:bd.take (min bd.length 20)=bd:=by rw[show min bd.length 20=bd.length by omega,List.take_length]
  have sb:=s6.sb;rw[hbd]at sb;have rb:=acI ob_ sb;have co:∀v∈ob,v.length<=n:=rf.1 (by omega);have cr:∀v∈rw,v.length<=n:=rf.1 (by omega);generalize Ks ob=O at ro;generalize Ks rw=R at rr;generalize FZ bd=g at rb;have eN:=acE (n:=n) ro rr rb (by decide) (by decide) (by decide) hv;have k0:=F5 (n:=n) ro rr rb (by decide) hv;have JE:l.length<=12:=by omega
  refine aA eN<|bO<|aA (a:=false) (bt Y Y)<|bt Y ?_;refine MV JE k0 zK ?_;intro F b ht hu hz;obtain⟨m,hm⟩:∃m,rw.length=m:=⟨_,Y⟩;obtain⟨p,hp⟩:∃p,ob.length=p:=⟨_,Y⟩;rw[hm,hp]at ht k0;rw[hm]at hu hz;rw[hm,hp];have m5:m<=5:=by omega
  have n6:n<=6:=by omega
  replace ht:=short ht hu k0 zK hz m5;obtain⟨K,hK⟩:∃K,K=6485:=⟨_,Y⟩;obtain⟨D,hD⟩:∃D,D=90:=⟨_,Y⟩;obtain⟨E,hE⟩:∃E,E=80000:=⟨_,Y⟩;rw[<-hK]at ht;have hX5:m*(K+K+1)<=5*(K+K+1):=Nat.mul_le_mul_right _ m5;have hX:(m+1)*(K+K+1)<=2000000000:=by have:=Nat.mul_le_mul_right (K+K+1) (show m+1<=6 by omega);omega
  have ajA:∀i,i<m->∀k,k<n+m->FQ K (F i k):=λi hi k _=>ht.f i hi k;have tR:=U8 ht (by omega);have tC:=QK ht hX;have tB:=QC (n:=n) (m:=m) (p:=p) (O:=O) (F:=F) (b:=b) (by omega);have is:=Em (bq m b) (by rw[iG];omega);have eR:=F9 (w:=n+m) ajA (by omega) (by omega);have cq:∀i,i<n+m->∀k,k<p+n->FQ E (ur n m p O F b i k):=λi hi k _=>((IM ht hX hi).2.fq k).mono (by omega);have eC:=F9 (w:=p+n) cq (by omega) (by omega);obtain⟨G1,f1,g1,u1,z1⟩:=En (F:=F) (b:=b) (c:=b) hm hp ro rr rb hv (by omega) ht.hb (λi j hi hj e=>xe hu hi hj e) hu hz (λi hi=>⟨i,hi,Y⟩);have q1:mq m (λ_=>n+m+1) G1=mq m (λ_=>n+m+1) F:=mh (λi hi=>⟨Y,λk hk=>uw ht.hb u1 hu (λz=>(z1 z).2) (λs hs=>⟨s,hs,Y⟩) hi hi Y (by omega)⟩);rw[q1]at f1;obtain⟨_,so,π,hπ,rfl⟩:=MW (p:=p) (O:=O) ht (by omega);obtain⟨G2,f2,g2,u2,z2⟩:=En (F:=F) (b:=b) (c:=λi=>b (π i)) hm hp ro rr rb hv (by omega) (λi hi=>ht.hb _ (hπ.lt i hi)) (λi j hi hj e=>hπ.inj i j hi hj (xe hu (hπ.lt i hi) (hπ.lt j hj) e)) hu hz (λi hi=>⟨π i,hπ.lt i hi,Y⟩);rw[<-hK]at g2;have wR:=U8 g2 (by omega);have wC:=QK g2 hX;have wS:=zH g2 (by omega);have tS:=zH ht (by omega);have hbc:∀j,j<m->b (π j)<n+m:=λj hj=>ht.hb _ (hπ.lt j hj)
  have c1:∀s,s<m->∃j,j<m/\b j=(λi=>b (π i)) s:=λs hs=>⟨π s,hπ.lt s hs,Y⟩;have c2:∀s,s<m->∃j,j<m/\(λi=>b (π i)) j=b s:=λs hs=>by
   obtain⟨j,hj,e⟩:=hπ.sur s hs;exact⟨j,hj,by show b (π j)=b s;rw[e]⟩
  have col:∀l k,k<=n+m->dJ (λj=>if b (π j)=l then G2 j k else 0) m=dJ (λj=>if b j=l then F j k else 0) m:=λl k hk=>Yu (c:=λi=>b (π i)) ht.hb hbc hu u2 (λz=>(z2 z).2) c1 c2 hk;have q2:mq m (λ_=>n+m) G2=mq m (λ_=>n+m) (λi=>F (π i)):=mh (λi hi=>⟨Y,λk hk=>uw (c:=b) (b:=λi=>b (π i)) hbc u2 hu (λz=>(z2 z).2) c1 hi (hπ.lt i hi) Y (by omega)⟩);have q3:vq n (pA n m G2 (λi=>b (π i)) m)=vq n (pA n m F b m):=gU (λk hk=>by
   rw[F6 u2 m (Nat.le_refl m) k hk,F6 hu m (Nat.le_refl m) k hk];exact col k (n+m) (Nat.le_refl _))
  have q4:mq (n+m) (λ_=>p+n) (ur n m p O G2 (λi=>b (π i)))=mq (n+m) (λ_=>p+n) (ur n m p O F b):=mh (λk hk=>⟨Y,λi _=>by
   have w:∀(H:Nat->Nat->Rat) (d:Nat->Nat),(∀j,j<m->d j<n+m)->rj n p O d (λj=>H j k) m i=dJ (λl=>qk n p O l i*dJ (λj=>if d j=l then H j k else 0) m) (n+m):=λH d hd=>by
    rw[yx hd (λl=>qk n p O l i) (λj=>H j k)];exact eM (λj _=>Rat.mul_comm _ _)
   unfold ur;rw[w G2 (λi=>b (π i)) hbc,w F b ht.hb];congr 1;exact eM (λl _=>by rw[col l k (by omega)])⟩)
  rw[q2]at wR;rw[q3]at wS;rw[q4]at wC;have acR:∀i,i<m->∀k,k<n+m->FQ K ((λi=>F (π i)) i k):=λi hi k _=>ht.f _ (hπ.lt i hi) k;have eR2:=F9 (w:=n+m) acR (by omega) (by omega);have ryS:fM K (vq n (pA n m F b m)) (pA n m F b m):=oW (λi _=>LK ht m (Nat.le_refl m) i) (λi hi=>IT m i hi) (by omega);have eS:=acC ryS ryS (by omega) (λ_=>rfl);have tH:=Ku ht (by omega);have r3:=LF (L:=K) (n:=m) (f:=λi=>F i (n+m)) (λi hi=>ht.f i hi _) (by omega);have eH:=acC r3 r3 (by omega) (λ_=>rfl);refine aA tB<|aA f1<|aA so<|bO<|aA (a:=false) (bt Y Y)<|aA (a:=false) (bt Y<|aA Y Y)<|aA (a:=false) (bt Y<|aA tB<|aA tB<|aA is<|aA Y Y)<|aA (a:=false) (bt Y<|aA tR<|aA tR<|aA eR<|aA Y Y)<|aA (a:=false) (bt Y<|aA tC<|aA tC<|aA eC<|aA Y Y)<|bt Y ?_;refine aA f2<|bO<|aA (a:=false) (bt Y Y)<|aA (a:=false) (bt Y<|aA wR<|aA eR2<|aA Y Y)<|aA (a:=false) (bt Y<|aA wS<|aA tS<|aA eS<|aA Y Y)<|aA (a:=false) (bt Y<|aA wC<|aA tC<|aA eC<|aA Y Y)<|bt Y ?_;refine aA tB ?_;rcases F7 ht (by omega) x0 x1 with⟨e,he,hp1⟩|⟨r,c,rfl,rfl,hr,hc,h5,h6⟩
  ·refine aA hp1<|aA (dT he)<|bN Y<|bO<|aA tB<|aA is<|aA (bN Y<|aA tR<|aA tR<|aA eR Y)<|aA (bN Y al7) Y
  have hp1:=CT ht (by omega) hr hc h5 h6;have t1:=zJ ht hr hc h6;have v1:=uu hr h6 hu;have hbr:∀j,j<m->(λj=>if j=r then c else b j) j≠b r:=λj hj=>by
   show(if j=r then c else b j)≠b r;by_cases e:j=r
   ·rw[if_pos e];exact λw=>h5 r hr w.symm
   rw[if_neg e];exact λw=>e (xe hu hj hr w)
  have h7:lz F r c r (b r)≠0:=by
   unfold lz;rw[if_pos Y,hu r r hr hr,if_pos Y,Rat.div_def,Rat.one_mul];intro w;have:=Rat.mul_inv_cancel _ h6;rw[w]at this;exact absurd (show(1:Rat)=0 by rw[<-this];grind) (by decide)
  have SK:=CT t1 (by omega) hr (ht.hb r hr) hbr h7;have v2:=uu hr h7 v1;have AO:(λj=>if j=r then b r else(λj=>if j=r then c else b j) j)=b:=funext λj=>by
   show(if j=r then b r else if j=r then c else b j)=b j;by_cases e:j=r
   ·rw[if_pos e,e]
   rw[if_neg e,if_neg e]
  rw[AO]at SK v2;have q5:mq m (λ_=>n+m+1) (lz (lz F r c) r (b r))=mq m (λ_=>n+m+1) F:=mh (λi hi=>⟨Y,λk hk=>uw ht.hb v2 hu (λz YC=>(yw hr h6).1 ((yw hr h7).1 YC)) (λs hs=>⟨s,hs,Y⟩) hi hi Y (by omega)⟩);rw[q5]at SK;have gb:(bq m b)[r]? =some ((b r:Nat):Int):=nP hr;have bl:=iG m b;refine aA hp1<|aA Y<|bt Y<|bO<|aA (dF (by omega))<|aA (a:=false) (bt Y<|aA Y<|aA (dF (by omega)) Y)<|aA (a:=(false,mq p (λ_=>n) O,bq m b,mq m (λ_=>n+m+1) F)) (bt Y<|aA (bK gb)<|aA SK<|aA Y Y) ?_;refine bt Y<|bO<|aA tB<|aA is<|aA (bN Y<|aA tR<|aA tR<|aA eR Y)<|aA (bN Y<|aA tH<|aA tH<|aA eH Y)<|aA (bN Y al7) Y
 rw[decide_eq_false hv]at v;rw[if_neg (by rw[v];decide)];unfold fG;refine bO<|aA e1<|CY (λ_=>aA Y<|aA Y Y)<|CS (λ_=>al7) (λ_=>?_);exact aA (acM v)<|bO<|aA v<|aA Y<|aA (bN Y al7) Y
end
section
open Go.Fw Go.RowKit Go.ChangeShapes Go.WideShapes Go.ChangeAt
set_option linter.unusedVariables false
set_option maxRecDepth 100000 in
theorem ql(H:Type)(enc:TypeId×Value->H)(W:World)(base:Nat)(args:Array Value)(ds gs:List (DataW H))(before:List MemPlace)
  (hval:∀(j:Nat) t v,Tryz.f7.params[j]? =some t->args[j]? =some v->Value.okWide ah W .any base t v)
  (hW:DataW.Whole enc ah Tryz.f7.params.toList Rows.tableauPathFreeSpec.vars false W args.toList ds gs before):
  Calls ah 7 args W λe W'=>∃v,e=.returned v/\Rows.tableauPathFreeSpec.post enc ah Tryz.f7 false true false false W args v W':=by
 have hW':=hW;obtain⟨p,q,hA0,hV,rfl,hfz,hnd⟩:=hW;have hA:DataW.TrodAll enc ah W 0 (λ_=>true) true Tryz.f7.params.toList args.toList ds p:=hA0;rw[Tryz.params7]at hA hval;obtain⟨v0,QM,d0,ds0,p0,q0,hargs,rfl,rfl,h0,r0⟩:=trodAll_cons hA;obtain⟨v1,vs1,d1,ds1,p1,q1,rfl,rfl,rfl,h1,r1⟩:=trodAll_cons r0;obtain⟨v2,YY,d2,ds2,p2,q2,rfl,rfl,rfl,h2,r2⟩:=trodAll_cons r1;obtain⟨rfl,rfl,rfl⟩:=trodAll_nil r2;obtain rfl:args=#[v0,v1,v2]:=by cases args;simp_all
 obtain⟨rfl,rfl⟩:=trodVars_none hV;have lt0:∀x∈p0,x.block<W.heap.size:=by obtain⟨m,hm⟩:=h0;exact DataW.trod_lt m _ _ _ hm
 obtain⟨x0,ok0,sz0,al0⟩:=KN (P:=ah) (T:=25) (e:=Jm) (hval 0 25 v0 Y Y) h0;have lt1:∀x∈p1,x.block<W.heap.size:=by obtain⟨m,hm⟩:=h1;exact DataW.trod_lt m _ _ _ hm
 obtain⟨x1,ok1,sz1,al1⟩:=Ry (P:=ah) (T:=26) (e:=(eS 2 KK)) (hval 1 26 v1 Y Y) h1;have lt2:∀x∈p2,x.block<W.heap.size:=by obtain⟨m,hm⟩:=h2;exact DataW.trod_lt m _ _ _ hm
 obtain⟨x2,ok2,sz2,al2⟩:=KN (P:=ah) (T:=38) (e:=KK) (hval 2 38 v2 Y Y) h2;clear hA0;refine(Rz (qi (DE x0 x1 x2 ok0 ok1 ok2)) (W:=W) (vs:=[v0,v1,v2]) ⟨al0,al1.1,al2,aq⟩).mono λe W' ⟨he,bel⟩=>?_;subst he;exact⟨_,rfl,_,_,_,[],_,[],hW',trodAll_mk1 (shut_bool Tryz.underlying4 _),(trodAll_cons_mk (Below.trod BF (by kernel_rfl) (of_decide_eq_true (by kernel_rfl)) h0 bel lt0) (trodAll_cons_mk (Below.trod BF (by kernel_rfl) (of_decide_eq_true (by kernel_rfl)) h1 bel lt1) (trodAll_cons_mk (Below.trod BF (by kernel_rfl) (of_decide_eq_true (by kernel_rfl)) h2 bel lt2) trodAll_mk0))),rfl,bel.frame _,λh=>by cases h⟩
set_option maxRecDepth 100000 in
theorem rX(os:Os)(started:os.Started)(H:Type)(enc:TypeId×Value->H):
  ReturnsInHanded {} Tryz.checked os 7 .any (Rows.tableauPathFreeSpec.pre6 enc ah Tryz.f7 Rows.tableauPathFreeRow.domain false) (Rows.tableauPathFreeSpec.post enc ah Tryz.f7 false true false false):=by
 refine returnsInHanded_of_change (C:=Tryz.checked) aes started (by kernel_rfl) Tryz.func7
  (ChangeSpec.witness6 (enc:=enc) (C:=Tryz.checked) false ⟨#[],#[.agg #[.int .i64 0,.slice none 0 0,.slice none 0 0,.slice none 0 0],.slice none 0 0,.agg #[.int .i64 0,.int .i64 0]],[]⟩ 8 (by kernel_rfl) (by kernel_rfl) (by kernel_rfl) (by kernel_rfl)) ?_
 intro W base args ds gs before hval hW _ _;exact ql H enc W base args ds gs before hval hW
theorem tableauPathFree_holds:Rows.TableauPathFreeSaid:=
 OpenClaim.holds_of_wide 7 Tryz.f7 Y Y Y Y Y Y Y ⟨Y,Y,Y,Y,Y⟩ Y Y Y Y Y (by kernel_rfl) Tryz.func7 (by kernel_rfl)
  (of_decide_eq_true (by kernel_rfl)) (by unfold Func.isWrapper;first|(rw[if_pos (by decide+kernel)];kernel_rfl)|(rw[if_neg (by decide+kernel)];exact⟨Y,Y⟩))
  (λos started H enc _=>rX os started H enc)
end
end Go.Proofs.YtningmnklfpfjaaGreat
