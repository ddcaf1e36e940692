/- The law TableauEquations answers true for every input. -/
import Derived.Test.YtningmnklfpfjaaGreatPSE4
set_option linter.unusedVariables false
set_option linter.unusedSimpArgs false
set_option linter.unusedSectionVars false
namespace Go.Proofs.YtningmnklfpfjaaGreat
section
open Go.Fw
theorem KL(n m:Nat)(h k:Nat->Rat):vq n h++vq m k=vq (n+m) (λi=>if i<n then h i else k (i-n)):=by
 unfold vq;rw[List.range_add,List.map_append,List.map_map];congr 1
 ·exact List.map_congr_left (λi hi=>by show qn (h i)=qn (if i<n then h i else k (i-n));rw[if_pos (List.mem_range.1 hi)])
 exact List.map_congr_left (λi _=>by show qn (k i)=qn (if n+i<n then h (n+i)else k (n+i-n));rw[if_neg (by omega),show n+i-n=i by omega])
theorem SH{α:Type}{l:List α}{x:α}(h:l.length<=1000):wh 24 l [x]=some (l++[x]):=zQ (by decide) (by omega)
section Zh
variable {L n m p:Nat}{O F:Nat->Nat->Rat}{b:Nat->Nat}
theorem Zs(h:pQ L n m p O F b)(hL:L<=4000000000):mm (EK n m p O F b)=some (mq m (λ_=>n+m) F):=by
 have hm:=h.hm;have hn:=h.hn;unfold mm;refine aA (ju n m p O F b)<|bJ Y<|aA (congrArg some (show((mq m (λ_=>n+m+1) F).length:Int)=(m:Int) by rw[eJ])) ?_;refine bN (λk=>((k:Int),mq k (λ_=>n+m) F)) m (mq m (λ_=>n+m) F) Y (λk hk=>?_) ?_ Y
 ·have g1:(mq m (λ_=>n+m+1) F)[k]? =some (vq (n+m+1) (F k)):=kC hk;have rs:=Ao (VF h hk) (by omega) (by rw[bY];omega) ((n+m:Nat):Int);rw[show(min (((n+m:Nat):Int)) 65536).toNat=n+m by omega]at rs;have ap:=SH (l:=mq k (λ_=>n+m) F) (x:=vq (n+m) (F k)) (by rw[eJ];omega);rw[<-At]at ap;refine aA (dT (by omega))<|bQ Y<|aA (bL g1)<|aA (B6 hn hm)<|aA rs<|aA ap<|aA (congrArg some (bX (by omega))) Y
 exact aA (dF (by omega))<|bJ Y Y
theorem VO(h:pQ L n m p O F b)(hL:(m+1)*(L+L+1)<=2000000000):eR (EK n m p O F b)=some (mq (n+m) (λ_=>p+n) (tN n m p O F b)):=by
 have hm:=h.hm;have hn:=h.hn;unfold eR;refine aA (ju n m p O F b)<|bJ Y ?_;have hw:(IntKind.i64.wrap (Tb.vars (EK n m p O F b)+((Tb.rows (EK n m p O F b)).length:Int))).toNat=n+m:=by
  show(IntKind.i64.wrap ((n:Int)+((mq m (λ_=>n+m+1) F).length:Int))).toNat=_;rw[eJ,cS (by omega) (by omega)];omega
 refine aA (a:=mq (n+m) (λ_=>p+n) (tN n m p O F b)) ?_ Y;refine Eq.trans (congrArg (λk=>kS _ k []) hw) ?_;refine xU (λk=>mq k (λ_=>p+n) (tN n m p O F b)) (n+m) (λk hk=>?_);have ap:=SH (l:=mq k (λ_=>p+n) (tN n m p O F b)) (x:=vq (p+n) (tN n m p O F b k)) (by rw[eJ];omega);rw[<-At]at ap;exact aA Y<|aA (Hg h hL hk).1<|aA ap Y
end Zh
theorem VP{L M N W:Nat}{f:Nat->Rat}{C:Nat->Nat->Rat}(hx:∀k,k<N->FQ M (f k))(hM:1<=M)(hC:∀k,k<N->dA L (vq W (C k)) (C k))(hL:(N+1)*(L+M+1)+1<=2000000000)(hN:N<=1000)(hW:W<=1000):
  ∃v,jA (vq N f) (mq N (λ_=>W) C)=some v/\v.length<=W/\dA (N*(L+M+1)+1) v (λi=>bP (λk=>f k*C k i) N):=by
 have ln:=eJ N (λ_=>W) C;by_cases h0:N=0
 ·subst h0;refine⟨[],?_,by simp,dA.nil (by omega)⟩;unfold jA;refine aA (Ds [] (by simp))<|aA (Hf 0 (by omega))<|aA (a:=(0:Int)) Y<|aA (a:=(0:Int)) Y<|aA (a:=(0:Int)) Y<|aA (a:=([]:List (List Qr))) Y<|aA (a:=(0:Int)) Y ?_;exact bN (λk=>(([]:List Qr),(k:Int))) 0 [] Y (λk hk=>by omega) (aA (dF (by decide))<|bJ Y Y) Y
 have cn:oO (mq N (λ_=>W) C)=W:=by
  refine Nat.le_antisymm (nk.2 (λv hv=>?_)) ?_
  ·obtain⟨i,hi,rfl⟩:=List.getElem_of_mem hv;have:=kC (n:=N) (i:=i) (ln:=λ_=>W) (F:=C) (by rwa[ln]at hi);rw[List.getElem?_eq_getElem hi]at this;rw[Option.some.inj this,bY];exact Nat.le_refl _
  have:=nk.1 (Nat.le_refl (oO (mq N (λ_=>W) C))) (vq W (C 0)) (List.mem_of_getElem? (kC (i:=0) (by omega)));rwa[bY]at this
 have rp:∀k,k<=N->dA (k*(L+M+1)+1) (vq W (λi=>bP (λk=>f k*C k i) k)) (λi=>bP (λk=>f k*C k i) k):=λk hk=>by
  refine nA (λi _=>?_) (λi hi=>?_) (by omega)
  ·exact(EI (L:=L+M) (n:=k) (λj hj=>((hC j (by omega)).fq i).mul (hx j (by omega)) |> λe=>by rw[Rat.mul_comm]at e;exact e))
  rw[cY (k:=λ_=>0) (λj hj=>by rw[(hC j (by omega)).z i (by rwa[bY])];grind),jG]
 refine⟨vq W (λi=>bP (λk=>f k*C k i) N),?_,by rw[bY];exact Nat.le_refl _,rp N (Nat.le_refl N)⟩;unfold jA;have mc:=Ds (mq N (λ_=>W) C) (by rw[ln];omega);rw[cn]at mc;have sm:wH (mq N (λ_=>W) C) 0 ((N:Nat):Int)=some (mq N (λ_=>W) C):=by rw[nV (by rw[ln];omega),List.take_of_length_le (by rw[ln];omega)]
 refine aA mc<|aA (Hf W (by omega))<|aA (congrArg some (show((mq N (λ_=>W) C).length:Int)=(N:Int) by rw[ln]))<|aA (congrArg some (show((vq N f).length:Int)=(N:Int) by rw[bY]))<|aA (congrArg some (show min (N:Int) (N:Int)=(N:Int) by omega))<|aA sm<|aA (congrArg some (show((mq N (λ_=>W) C).length:Int)=(N:Int) by rw[ln])) ?_;rw[xG];refine bN (λk=>(vq W (λi=>bP (λk=>f k*C k i) k),(k:Int))) N (vq W (λi=>bP (λk=>f k*C k i) N)) Y (λk hk=>?_) ?_ Y
 ·have g1:(mq N (λ_=>W) C)[k]? =some (vq W (C k)):=kC hk;have g2:(vq N f)[k]? =some (qn (f k)):=lM hk;have rg:=(hx k hk).rep hM;have hB:k*(L+M+1)+(L+M+1)+1<=2000000000:=by
   have:=Nat.mul_le_mul_right (L+M+1) (show k+1<=N+1 by omega);rw[Nat.succ_mul]at this;omega
  have sg:=rg.sign (by omega);have va:=(N2 rg (hC k hk) (rp k (by omega)) (by generalize k*(L+M+1)=w at*;omega) (by rw[bY];omega) (by rw[bY];omega)).1;have e0:vq (max (vq W (C k)).length (vq W (λi=>bP (λk=>f k*C k i) k)).length) (λi=>f k*C k i+bP (λk=>f k*C k i) k)=vq W (λi=>bP (λk=>f k*C k i) (k+1)):=by
   rw[bY,bY,Nat.max_self];exact fB (λi _=>by show _=bP (λk=>f k*C k i) k+f k*C k i;grind)
  rw[e0]at va;have skip:f k=0->vq W (λi=>bP (λk=>f k*C k i) k)=vq W (λi=>bP (λk=>f k*C k i) (k+1)):=λq=>fB (λi _=>by
   show _=bP (λk=>f k*C k i) k+f k*C k i;rw[q];grind)
  have Zi:(some (decide (oK (f k) 0≠0)):Option Bool)=some (decide (f k≠0)):=by
   congr 1;by_cases q:f k=0
   ·rw[decide_eq_false (by rw[q,uo];simp),decide_eq_false (by simp[q])]
   rw[decide_eq_true (show oK (f k) 0≠0 from λe=>q (iQ.1 e)),decide_eq_true q]
  generalize hq:qn (f k)=q at*;obtain⟨⟨_,_⟩,⟨_,_⟩⟩:=q;refine aA (dT (by omega))<|bQ Y<|aA (bL g1)<|aA (bL g2)<|aA sg<|aA Zi<|bZ ?_;by_cases q0:f k=0
  ·refine bJ (by simp[q0]) ?_;rw[skip q0];exact aA (congrArg some (bX (by omega))) Y
  refine bQ (by simp[q0]) ?_;exact aA (bL g2)<|aA va<|aA (congrArg some (bX (by omega))) Y
 exact aA (dF (by omega))<|bJ Y Y
theorem B9(q:Lr)(l:List Pv)(x:List Qr)(op:OkL q)(ol:l.length<=9223372036854775807/\∀v∈l,afA v)(ox:Zf x):fe q l x=some true:=by
 obtain⟨n,ob,rw,bd⟩:=q;obtain⟨on,oo,or_,ob_⟩:=op;replace oo:Zm ob:=oo;replace or_:Zm rw:=or_;replace ob_:Zf bd:=ob_;obtain⟨b1,e1,s1⟩:=Ot (n:=n) (ob:=ob) (rw:=rw) (bd:=bd);obtain⟨b2,e2,s2⟩:=B8 [x] (by simp);have v:=VD (n:=n) (ob:=ob) (rw:=rw) (bd:=bd);unfold fe;by_cases hv:CT n ob rw bd
 ·rw[decide_eq_true hv]at v;rw[if_pos v];unfold eK;refine bZ<|aA e1<|Ap (λ_=>aA Y<|aA Y Y)<|Ap (λ_=>aA e2 Y)<|B5 (λ_=>al7) (λhb=>?_);simp only[Bool.or_eq_false_iff,decide_eq_false_iff_not]at hb;obtain⟨⟨xO,Cb⟩,Zw⟩:=hb;obtain⟨s6,s7⟩:=s1 xO;obtain⟨hr5,hn6⟩:=s7 hv;have sx:=s2 Zw x (by simp);have lx:=sx.1;obtain⟨v1,v2,v3,v4,v5,v6,v7,v8⟩:=id hv;obtain⟨n,rfl⟩:∃k:Nat,n=(k:Int):=⟨n.toNat,by omega⟩;have ro:=SF oo s6.so;have rr:=SF or_ s6.sr;have hbd:bd.take (min bd.length 20)=bd:=by rw[show min bd.length 20=bd.length by omega,List.take_length]
  have sb:=s6.sb;rw[hbd]at sb;have rb:=SG ob_ sb;have rx:=SG ox sx;have co:∀v∈ob,v.length<=n:=nk.1 (by omega);have cr:∀v∈rw,v.length<=n:=nk.1 (by omega);generalize Iv ob=O at ro;generalize Iv rw=R at rr;generalize CS bd=g at rb;generalize CS x=f at rx;have eN:=Zj (n:=n) ro rr rb (by decide) (by decide) (by decide) hv;have k0:=JF (n:=n) ro rr rb (by decide) hv;have HP:l.length<=12:=by omega
  refine aA eN<|bZ<|aA (a:=false) (bJ Y Y)<|bJ Y ?_;refine KK HP k0 Dw ?_;intro F b ht hu hz;obtain⟨m,hm⟩:∃m,rw.length=m:=⟨_,Y⟩;obtain⟨p,hp⟩:∃p,ob.length=p:=⟨_,Y⟩;rw[hm,hp]at ht k0;rw[hm]at hu hz;rw[hm,hp];have m5:m<=5:=by omega
  have n6:n<=6:=by omega
  replace ht:=short ht hu k0 Dw hz m5;obtain⟨K,hK⟩:∃K,K=6485:=⟨_,Y⟩;obtain⟨D,hD⟩:∃D,D=90:=⟨_,Y⟩;obtain⟨E,hE⟩:∃E,E=80000:=⟨_,Y⟩;rw[<-hK]at ht;have hX5:m*(K+K+1)<=5*(K+K+1):=Nat.mul_le_mul_right _ m5;have hX:(m+1)*(K+K+1)<=2000000000:=by have:=Nat.mul_le_mul_right (K+K+1) (show m+1<=6 by omega);omega
  have y0:=Ao rx (by decide) (by omega) (n:Int);rw[show(min ((n:Int)) 65536).toNat=n by omega]at y0;have ry:=Ar (L:=6) (n:=n) (f:=f) (λi _=>rx.fq i) (by decide);have y1:=N4 ry (by decide) (by rw[bY];omega) (n:Int);rw[show(min ((n:Int)) 65536).toNat=n by omega]at y1;have ly:(vq n f).length=n:=bY _ _;have hN8:(n+2)*(6+6+1)<=104:=by omega
  obtain⟨y2,y3⟩:=Ob (n:=(n:Int)) (ob:=ob) (N:=n) rr rb ry (λv hv=>by have:=cr v hv;omega) (by omega) (by decide) (by omega);rw[hm]at y2 y3;have y4:=Vc (b:=64) (l:=vq n (xF n f)) (k:=vq m (λi=>g i-bP (λj=>R i j*xF n f j) n)) (by decide) (by rw[bY,bY];omega);rw[KL]at y4;obtain⟨z,hzd⟩:∃z:Nat->Rat,z=λk=>if k<n then xF n f k else g (k-n)-bP (λj=>R (k-n) j*xF n f j) n:=⟨_,Y⟩;rw[<-hzd]at y4;have zf:∀k,k<n->z k=xF n f k:=λk hk=>by rw[hzd];exact if_pos hk
  have zs:∀i,z (n+i)=g i-bP (λj=>R i j*xF n f j) n:=λi=>by rw[hzd];show(if n+i<n then _ else _)=_;rw[if_neg (by omega),show n+i-n=i by omega]
  have zq:∀k,k<n+m->FQ D (z k):=λk hk=>by
   by_cases q:k<n
   ·rw[zf k q];exact(ry.fq k).mono (by omega)
   have e:=zs (k-n);rw[show n+(k-n)=k by omega]at e;rw[e];exact(y3 (k-n) (by omega)).mono (by omega)
  have VQ:yL n m F z:=(hz z).2 (afz.2 (λi hi=>by
   rw[zs,cY (k:=λk=>R i k*xF n f k) (λk hk=>by rw[zf k hk])];grind))
  have rz:=Ar (L:=D) (n:=n+m) (f:=z) zq (by omega);have lz:(vq (n+m) z).length=n+m:=bY _ _;have a1:=Zs ht (by omega);have eF:mq m (λ_=>n+m) F=mq m (λ_=>n+m) (λi k=>if i<m/\k<n+m then F i k else 0):=tK (λi hi=>⟨Y,λk hk=>by rw[if_pos ⟨hi,hk⟩]⟩);have rF:tL K (mq m (λ_=>n+m) (λi k=>if i<m/\k<n+m then F i k else 0)) (λi k=>if i<m/\k<n+m then F i k else 0):=N9 (λi hi k hk=>by
   show FQ K (if i<m/\k<n+m then F i k else 0);rw[if_pos ⟨hi,hk⟩];exact ht.f i hi k) (λi hi k hk=>if_neg (by omega)) (λi hi k=>if_neg (by omega)) (by omega)
  have a2:=(Zg (N:=n+m) rF rz (λv _=>by omega) (by have:=Nat.mul_le_mul_right (K+D+1) (show n+m+2<=13 by omega);omega) (by rw[eJ];omega)).1;rw[<-eF,eJ,show vq m (λi=>bP (λj=>(if i<m/\j<n+m then F i j else 0)*xF (n+m) z j) (n+m))=vq m (λi=>F i (n+m))from fB (λi hi=>by
   rw[<-VQ i hi];exact cY (λk hk=>by rw[if_pos ⟨hi,hk⟩,Aq hk]))]at a2
  have a3:=Iy ht (by omega);have r3:=Ar (L:=K) (n:=m) (f:=λi=>F i (n+m)) (λi hi=>ht.f i hi _) (by omega);have a4:=Ze r3 r3 (by omega) (λ_=>rfl);obtain⟨a6,r6⟩:=eval_eq (n:=(n:Int)) (rw:=rw) (bd:=bd) (N:=n) ro ry (λv hv=>by have:=co v hv;omega) (by omega) (by omega);rw[hp]at a6 r6;have evn:=Ov ⟨(n:Int),ob,rw,bd⟩ (vq n f);rw[a6]at evn;have one:=lK (n:=-1) (by decide);obtain⟨a7,r7⟩:=N3 one.2 ry (by decide) (by omega);rw[ly]at a7 r7;have a8:=Vc (b:=64) (l:=vq p (λi=>bP (λj=>O i j*xF n f j) n)) (k:=vq n (λi=>((-1:Int):Rat)*xF n f i)) (by decide) (by rw[bY,bY];omega);have r8:=Oo (L:=D) (r6.mono (by omega)) (r7.mono (by omega));have b1:=EM ht hX;have b2:=VO ht hX;have s3:=B7 ht (g:=λj=>F j (n+m)) (λj hj=>ht.f j hj _) (Nat.le_refl m);obtain⟨w,b3,lw,rw3⟩:=VP (L:=E) (M:=D) (N:=n+m) (W:=p+n) (f:=z) (C:=tN n m p O F b) zq (by omega) (λk hk=>(Hg ht hX hk).2.mono (by omega)) (by have:=Nat.mul_le_mul_right (E+D+1) (show n+m+1<=12 by omega);omega) (by omega) (by omega);obtain⟨b4,r9⟩:=Za s3 rw3 (by have:=Nat.mul_le_mul_right (E+D+1) (show n+m<=11 by omega);omega) (by rw[bY];omega) (by omega);have b5:=Ze r8 r9 (by have:=Nat.mul_le_mul_right (E+D+1) (show n+m<=11 by omega);omega) (λi=>by
   rw[Oq VQ,bY];have e:∀a c:Rat,a-(a-c)=c:=λa c=>by grind
   rw[e,VN];by_cases h1:i<p
   ·rw[if_pos h1,if_pos h1];exact cY (λk hk=>by rw[zf k hk])
   rw[if_neg h1,if_neg h1];have en:((-1:Int):Rat)=-1:=by decide
   by_cases h2:i<p+n
   ·rw[if_pos h2,zf _ (by omega),en];grind
   rw[if_neg h2,JC (by omega)];grind)
  have o1:=one.1;clear r8 r9 rw3 s3 r7 r6 r3 rF rz VQ zq hzd zf zs y3 ry;generalize qn ((-1:Int):Rat)=q1 at*;obtain⟨⟨_,_⟩,⟨_,_⟩⟩:=q1;refine aA y0<|aA y1<|aA y2<|aA y4<|aA a1<|aA a2<|aA a3<|aA a4<|aA Y<|bJ Y ?_;refine aA evn<|aA o1<|aA a7<|aA a8<|bZ<|aA b1<|aA b2<|aA b3<|aA b4<|aA b5<|aA (bQ Y al7) Y
 rw[decide_eq_false hv]at v;rw[if_neg (by rw[v];decide)];unfold eL;refine bZ<|aA e1<|Ap (λ_=>aA Y<|aA Y Y)<|Ap (λ_=>aA e2 Y)<|B5 (λ_=>al7) (λ_=>?_);exact aA (Zp v)<|bZ<|aA v<|aA Y<|aA (bQ Y al7) Y
end
section
open Go.Fw Go.RowKit Go.ChangeShapes Go.WideShapes Go.ChangeAt
set_option linter.unusedVariables false
set_option maxRecDepth 100000 in
theorem oW(H:Type)(enc:TypeId×Value->H)(W:World)(base:Nat)(args:Array Value)(ds gs:List (DataW H))(before:List MemPlace)
  (hval:∀(j:Nat) t v,Tryz.f8.params[j]? =some t->args[j]? =some v->Value.okWide ah W .any base t v)
  (hW:DataW.Whole enc ah Tryz.f8.params.toList Rows.tableauEquationsSpec.vars false W args.toList ds gs before):
  Calls ah 8 args W λe W'=>∃v,e=.returned v/\Rows.tableauEquationsSpec.post enc ah Tryz.f8 false true false false W args v W':=by
 have hW':=hW;obtain⟨p,q,Y1,hV,rfl,hfz,hnd⟩:=hW;have hA:DataW.TrodAll enc ah W 0 (λ_=>true) true Tryz.f8.params.toList args.toList ds p:=Y1;rw[Tryz.params8]at hA hval;obtain⟨v0,Ox,d0,ds0,p0,q0,hargs,rfl,rfl,h0,r0⟩:=trodAll_cons hA;obtain⟨v1,vs1,d1,ds1,p1,q1,rfl,rfl,rfl,h1,r1⟩:=trodAll_cons r0;obtain⟨v2,vs2,d2,ds2,p2,q2,rfl,rfl,rfl,h2,r2⟩:=trodAll_cons r1;obtain⟨rfl,rfl,rfl⟩:=trodAll_nil r2;obtain rfl:args=#[v0,v1,v2]:=by cases args;simp_all
 obtain⟨rfl,rfl⟩:=trodVars_none hV;have lt0:∀x∈p0,x.block<W.heap.size:=by obtain⟨m,hm⟩:=h0;exact DataW.trod_lt m _ _ _ hm
 obtain⟨x0,ok0,sz0,al0⟩:=O7 (P:=ah) (T:=25) (e:=Fi) (hval 0 25 v0 Y Y) h0;have lt1:∀x∈p1,x.block<W.heap.size:=by obtain⟨m,hm⟩:=h1;exact DataW.trod_lt m _ _ _ hm
 obtain⟨x1,ok1,sz1,al1⟩:=IU (P:=ah) (T:=26) (e:=(eS 2 Oy)) (hval 1 26 v1 Y Y) h1;have lt2:∀x∈p2,x.block<W.heap.size:=by obtain⟨m,hm⟩:=h2;exact DataW.trod_lt m _ _ _ hm
 obtain⟨x2,ok2,sz2,al2⟩:=IU (P:=ah) (T:=23) (e:=(eS 4 eQ)) (hval 2 23 v2 Y Y) h2;clear Y1;refine(O8 (oU (B9 x0 x1 x2 ok0 ok1 ok2)) (W:=W) (vs:=[v0,v1,v2]) ⟨al0,al1.1,al2.1,aq⟩).mono λe W' ⟨he,bel⟩=>?_;subst he;exact⟨_,rfl,_,_,_,[],_,[],hW',trodAll_mk1 (shut_bool Tryz.underlying4 _),(trodAll_cons_mk (Below.trod AT (by kernel_rfl) (of_decide_eq_true (by kernel_rfl)) h0 bel lt0) (trodAll_cons_mk (Below.trod AT (by kernel_rfl) (of_decide_eq_true (by kernel_rfl)) h1 bel lt1) (trodAll_cons_mk (Below.trod AT (by kernel_rfl) (of_decide_eq_true (by kernel_rfl)) h2 bel lt2) trodAll_mk0))),rfl,bel.frame _,λh=>by cases h⟩
set_option maxRecDepth 100000 in
theorem qD(os:Os)(started:os.Started)(H:Type)(enc:TypeId×Value->H):
  ReturnsInHanded {} Tryz.checked os 8 .any (Rows.tableauEquationsSpec.pre6 enc ah Tryz.f8 Rows.tableauEquationsRow.domain false) (Rows.tableauEquationsSpec.post enc ah Tryz.f8 false true false false):=by
 refine returnsInHanded_of_change (C:=Tryz.checked) aa0 started (by kernel_rfl) Tryz.func8
  (ChangeSpec.witness6 (enc:=enc) (C:=Tryz.checked) false ⟨#[],#[.agg #[.int .i64 0,.slice none 0 0,.slice none 0 0,.slice none 0 0],.slice none 0 0,.slice none 0 0],[]⟩ 8 (by kernel_rfl) (by kernel_rfl) (by kernel_rfl) (by kernel_rfl)) ?_
 intro W base args ds gs before hval hW _ _;exact oW H enc W base args ds gs before hval hW
theorem tableauEquations_holds:Rows.TableauEquationsSaid:=
 OpenClaim.holds_of_wide 8 Tryz.f8 Y Y Y Y Y Y Y ⟨Y,Y,Y,Y,Y⟩ Y Y Y Y Y (by kernel_rfl) Tryz.func8 (by kernel_rfl)
  (of_decide_eq_true (by kernel_rfl)) (by unfold Func.isWrapper;first|(rw[if_pos (by decide+kernel)];kernel_rfl)|(rw[if_neg (by decide+kernel)];exact⟨Y,Y⟩))
  (λos started H enc _=>qD os started H enc)
end
end Go.Proofs.YtningmnklfpfjaaGreat
