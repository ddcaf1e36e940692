/- A part of the proof: the framework, the plain functions, the followed functions, the plain laws. -/
import Derived.Test.YtmiflmkdaeianaaPSI2
set_option linter.unusedVariables false
set_option linter.unusedSimpArgs false
set_option linter.unusedSectionVars false
namespace Go.Fw
section
open Go.RowKit
def hG:List (Nat×Row×Value)->(Nat->Value)->Nat->Value
 |[],ν,j=>ν j
 |(k,_,v)::l,ν,j=>if j=k then v else hG l ν j
theorem jC{ν:Nat->Value}:∀{l:List (Nat×Row×Value)} {j:Nat},(∀R v,(j,R,v)∉l)->hG l ν j=ν j
 |[],_,_=>rfl
 |(k,R,v)::l,j,h=>by
  have:j≠k:=λe=>h R v (by rw[e];simp);rw[hG,if_neg this];exact jC (λR v hm=>h R v (List.mem_cons_of_mem _ hm))
theorem fy{ν:Nat->Value}:∀{l:List (Nat×Row×Value)} {j:Nat} {R:Row} {v:Value},(l.map (·.1)).Nodup->(j,R,v)∈l->hG l ν j=v
 |(k,R',v')::l,j,R,v,hn,h=>by
  rw[List.map_cons,List.nodup_cons]at hn;rcases List.mem_cons.1 h with e|e
  ·cases e;rw[hG,if_pos rfl]
  have:j≠k:=λq=>hn.1 (List.mem_map.2 ⟨(j,R,v),e,q⟩);rw[hG,if_neg this];exact fy hn.2 e
def rC(olds:List Nat)(news:List (Nat×Row×Value)):List (Nat×ir):=olds.map (λj=>(j,.dead))++news.map (λn=>(n.1,.live n.2.1))
theorem mG:∀(l k:List (Nat×ir)) (j:Nat),cS (l++k) j=match cS k j with|some R=>some R|none=>cS l j
 |[],k,j=>by cases h:cS k j<;>simp[h,cS]
 |(i,R)::l,k,j=>by
  rw[List.cons_append,cS,cS,mG l k j];cases h:cS k j<;>simp
theorem mH{l:List (Nat×ir)}{j:Nat}(h:∀R,(j,R)∉l):cS l j=none:=by
 induction l with
 |nil=>rfl
 |cons p l ih=>
  obtain⟨i,R⟩:=p;rw[cS,ih (λR hm=>h R (List.mem_cons_of_mem _ hm))];have:j≠i:=λe=>h R (by rw[e];simp);simp[this]
theorem mI{l:List (Nat×ir)}{j:Nat}{R:ir}(h:cS l j=some R):(j,R)∈l:=by
 induction l with
 |nil=>cases h
 |cons p l ih=>
  obtain⟨i,R'⟩:=p;rw[cS]at h;cases e:cS l j with
  |some R2=>rw[e]at h;cases h;exact List.mem_cons_of_mem _ (ih e)
  |none=>
   rw[e]at h;by_cases q:j=i
   ·subst q;simp at h;subst h;simp
   simp[q]at h
theorem rD{l:List (Nat×ir)}{j:Nat}{R:ir}(h:(j,R)∈l):∃R',cS l j=some R':=by
 induction l with
 |nil=>cases h
 |cons p l ih=>
  obtain⟨i,R'⟩:=p;rw[cS];rcases List.mem_cons.1 h with e|e
  ·cases e;cases q:cS l j with
   |some R2=>exact⟨R2,Y⟩
   |none=>exact⟨R,by simp⟩
  obtain⟨R2,h2⟩:=ih e;exact⟨R2,by rw[h2]⟩
section swap
variable {C:Ctx}{S:AS}
theorem aY.Rf{E:Env}{a:Act}{w w':World}(h:aY C S E a w){i:Nat}{T:TypeId}{cells cells':List AV}{us':List Value}{M':Mem}(hB:S.b i=some ⟨T,cells⟩)(olds:List Nat)(news:List (Nat×Row×Value))
  (hold:∀j∈olds,∃R,S.r j=.live R) (hnew:∀k R v,(k,R,v)∈news->S.r k=.un/\k<1000) (hnd:(news.map (·.1)).Nodup)
  (hM:E.M.le M') (hmn:∀b o x,M' b o=some x->E.M b o=some x\/w.heap.size<=b\/∃j∈olds,(E.ν j).ownBlock=some b) (hin:M'.b8 w')
  (aaD:w'.heap[E.β i]? =some (.cells ⟨us'⟩ T (0,0))) (hnb:∀o,M' (E.β i) o=none) (pJ:cc {E with M:=M',ν:=hG news E.ν} cells' us')
  (hcb:∀x∈cells',(∀j,¬x.mb j)/\∀j,x.mr j->∃R v,(j,R,v)∈news)
  (hrow:∀k R v,(k,R,v)∈news->(∃vs:List Value,w'.ownsRow 0 R.E R.sz v R.n vs/\SV.dj M' R.cells vs)/\∀g,v.ownBlock=some g->((∃j∈olds,(E.ν j).ownBlock=some g)\/w.heap.size<=g)/\(∀o,M' g o=none)/\g≠E.β i)
  (Rg:∀k R v k' R' v' g,(k,R,v)∈news->(k',R',v')∈news->v.ownBlock=some g->v'.ownBlock=some g->k=k')
  (hos:w'.os=w.os) (hH:w'.tape=w.tape) (hout:w'.output=w.output) (hsize:w.heap.size<=w'.heap.size)
  (eT:∀k,k<w.heap.size->k≠E.β i->(∀j∈olds,(E.ν j).ownBlock≠some k)->w'.heap[k]? =w.heap[k]?):
  aY C (AS.bz (rC olds news) (AS.dA [(i,⟨T,cells'⟩)] S)) {E with M:=M',ν:=hG news E.ν} a w':=by
 obtain⟨ET,aaE,Jw,Fm,EU,_⟩:=h.bx i _ hB;have acS:E.β i<w.heap.size:=(Array.getElem?_eq_some_iff.1 EU).1;obtain⟨n1,n2,n3,n4,n5⟩:=cW (rC olds news) (AS.dA [(i,⟨T,cells'⟩)] S);have tOf:(AS.bz (rC olds news) (AS.dA [(i,⟨T,cells'⟩)] S)).t=S.t:=n2;have sn:∀j,(AS.bz (rC olds news) (AS.dA [(i,⟨T,cells'⟩)] S)).b j=if j=i then some ⟨T,cells'⟩else S.b j:=λj=>by
  rw[n3];by_cases e:j=i
  ·subst e;rw[if_pos rfl];exact AS.cj _ _ _
  rw[if_neg e];exact AS.bF _ _ _ _ e
 have Rh:∀k R v,(k,R,v)∈news->cS (news.map (λn=>(n.1,ir.live n.2.1))) k=some (.live R):=λk R v hm=>by
  obtain⟨R',jv⟩:=rD (l:=news.map (λn=>(n.1,ir.live n.2.1))) (j:=k) (R:=.live R) (List.mem_map.2 ⟨(k,R,v),hm,Y⟩);obtain⟨⟨k2,R2,v2⟩,FD,e⟩:=List.mem_map.1 (mI jv);have e1:k2=k:=congrArg Prod.fst e;have e2:ir.live R2=R':=congrArg Prod.snd e;rw[e1]at FD;have:R2=R:=by
   have key:∀(l:List (Nat×Row×Value)),(l.map (·.1)).Nodup->(k,R2,v2)∈l->(k,R,v)∈l->R2=R:=by
    intro l
    induction l with
    |nil=>intro _ h;cases h
    |cons p l ih=>
     intro hn h1 h2;rw[List.map_cons,List.nodup_cons]at hn;rcases List.mem_cons.1 h1 with e1|e1<;>rcases List.mem_cons.1 h2 with e2|e2
     ·rw[<-e1]at e2;cases e2;rfl
     ·exact absurd (List.mem_map.2 ⟨_,e2,by rw[<-e1]⟩) hn.1
     ·exact absurd (List.mem_map.2 ⟨_,e1,by rw[<-e2]⟩) hn.1
     exact ih hn.2 e1 e2
   exact key news hnd FD hm
  rw[jv,<-e2,this]
 have Ri:∀k R v,(k,R,v)∈news->(AS.bz (rC olds news) (AS.dA [(i,⟨T,cells'⟩)] S)).r k=.live R:=λk R v hm=>by
  rw[gh,rC,mG,Rh k R v hm];rfl
 have Rj:∀j,(∀R v,(j,R,v)∉news)->(AS.bz (rC olds news) (AS.dA [(i,⟨T,cells'⟩)] S)).r j=if j∈olds then .dead else S.r j:=λj hn=>by
  have e1:cS (news.map (λn=>(n.1,ir.live n.2.1))) j=none:=mH (λR hm=>by
   obtain⟨⟨k2,R2,v2⟩,FD,e⟩:=List.mem_map.1 hm;cases e;exact hn R2 v2 FD)
  rw[gh,rC,mG,e1];by_cases ho:j∈olds
  ·rw[if_pos ho];obtain⟨R',jv⟩:=rD (l:=olds.map (λj=>(j,ir.dead))) (j:=j) (R:=.dead) (List.mem_map.2 ⟨j,ho,Y⟩);obtain⟨j2,_,e⟩:=List.mem_map.1 (mI jv);cases e;rw[jv];rfl
  rw[if_neg ho,mH (λR hm=>by obtain⟨j2,FD,e⟩:=List.mem_map.1 hm;cases e;exact ho FD)];rfl
 have GX:∀j,S.r j≠ .un->∀R v,(j,R,v)∉news:=λj hj R v hm=>hj (hnew j R v hm).1;have rne:∀j,S.r j≠ .un->(AS.bz (rC olds news) (AS.dA [(i,⟨T,cells'⟩)] S)).r j≠ .un:=λj hj=>by
  rw[Rj j (GX j hj)];split
  ·simp
  exact hj
 have sO:∀j∈olds,∀g,(E.ν j).ownBlock=some g->(C.w0.heap.size<=g\/C.nm g)/\(∀o,E.M g o=none)/\¬E.O g/\(∀n B,S.b n=some B->E.β n≠g)/\g<w.heap.size/\∃c e,w.heap[g]? =some (Obj.cells c e (0,0)):=λj hj g hg=>by
  obtain⟨R,hR⟩:=hold j hj;obtain⟨⟨us,q1,_⟩,q2⟩:=h.rx j R hR;obtain⟨q3,q4,q5,q6⟩:=q2 g hg;refine⟨q3,q4,q5,q6,gi h hR hg,?_⟩;rcases q1.2 with⟨q7,_⟩|⟨g',cap,cur,q7,_,q8,_⟩
  ·rw[q7]at hg;cases hg
  rw[q7]at hg;cases hg;exact⟨_,_,q8⟩
 have keep:∀x:AV,(∀j,x.mr j->S.r j≠ .un)->∀v,x.holds E v->x.holds {E with M:=M',ν:=hG news E.ν} v:=λx hx v hv=>
  AV.bY (E:=E) (E':={E with M:=M',ν:=hG news E.ν}) hM (λ_ _=>rfl) (λj hj=>jC (GX j (hx j hj))) hv
 have N9:∀b,b<w.heap.size->(∀o,E.M b o=none)->(∀j∈olds,(E.ν j).ownBlock≠some b)->∀o,M' b o=none:=λb h1 h2 h3 o=>by
  cases e:M' b o with
  |none=>rfl
  |some v=>
   rcases hmn b o v e with q|q|⟨j,q1,q2⟩
   ·rw[h2 o]at q;cases q
   ·omega
   exact absurd q2 (h3 j q1)
 have live:∀j R,(AS.bz (rC olds news) (AS.dA [(i,⟨T,cells'⟩)] S)).r j=.live R->(∃v,(j,R,v)∈news)\/((∀R v,(j,R,v)∉news)/\j∉olds/\S.r j=.live R):=λj R hj=>by
  by_cases hn:∃R v,(j,R,v)∈news
  ·obtain⟨R',v,hm⟩:=hn;rw[Ri j R' v hm]at hj;cases hj;exact .inl ⟨v,hm⟩
  have hn:∀R v,(j,R,v)∉news:=λR v hm=>hn ⟨R,v,hm⟩;rw[Rj j hn]at hj;by_cases ho:j∈olds
  ·rw[if_pos ho]at hj;cases hj
  rw[if_neg ho]at hj;exact .inr ⟨hn,ho,hj⟩
 have Rk:∀j R,S.r j=.live R->j∉olds->∀g,(E.ν j).ownBlock=some g->∀j'∈olds,(E.ν j').ownBlock≠some g:=λj R hR ho g hg j' hj' e=>by
  obtain⟨R',jv⟩:=hold j' hj';have:=h.dw j j' R R' hR jv g hg e;subst this;exact ho hj'
 exact{
  wf:=by
   refine⟨λs j hj=>?_,λs j hj=>?_,λj B dK x hx m hm=>?_,λj B dK x hx m hm=>?_⟩
   ·rw[tOf]at hj;obtain⟨B,dK⟩:=h.wf.tb s j hj;rw[sn];by_cases e:j=i
    ·exact⟨_,if_pos e⟩
    exact⟨B,by rw[if_neg e];exact dK⟩
   ·rw[tOf]at hj;exact rne j (h.wf.tr s j hj)
   ·rw[sn]at dK⊢;by_cases e:j=i
    ·rw[if_pos e]at dK;cases dK;exact absurd hm ((hcb x hx).1 m)
    rw[if_neg e]at dK;obtain⟨B2,PA⟩:=h.wf.bb j B dK x hx m hm;by_cases e2:m=i
    ·exact⟨_,if_pos e2⟩
    exact⟨B2,by rw[if_neg e2];exact PA⟩
   rw[sn]at dK;by_cases e:j=i
   ·rw[if_pos e]at dK;cases dK;obtain⟨R,v,FD⟩:=(hcb x hx).2 m hm;rw[Ri m R v FD];simp
   rw[if_neg e]at dK;exact rne m (h.wf.br j B dK x hx m hm)
  marks:=by
   obtain⟨ds,d1,d2,d3⟩:=h.marks;refine⟨ds,d1,d2,λr hr=>?_⟩;obtain⟨p1,p2,p3⟩:=d3 r hr;refine⟨p1,p2,?_⟩;rw[eT r (Array.getElem?_eq_some_iff.1 p3).1 (λe=>by rw[e,EU]at p3;cases p3) (λj hj e=>by
    obtain⟨_,_,_,_,_,c,e2,q⟩:=sO j hj r e;rw[q]at p3;cases p3)]
   exact p3
  size:=by rw[n1];exact h.size
  os:=hos.trans h.os
  tape:=hH.trans h.tape
  output:=hout.trans h.output
  grown:=Nat.le_trans h.grown hsize
  frame:=λk hk hown=>by
   rw[eT k (Nat.lt_of_lt_of_le hk h.grown) (λe=>by
    rcases ET with q|q
    ·omega
    ·exact hown (C.w6 _ (by rw[e];exact q))) (λj hj e=>by
    rcases(sO j hj k e).1 with q|q
    ·omega
    exact hown (C.w6 _ q))]
   exact h.frame k hk hown
  m0:=Mem.le_trans h.m0 hM
  cV:=λb o v e=>by
   rcases hmn b o v e with q|q|⟨j,q1,q2⟩
   ·exact h.cV b o v q
   ·exact .inr (.inl (Nat.le_trans h.grown q))
   rcases(sO j q1 b q2).1 with q|q
   ·exact .inr (.inl q)
   exact .inr (.inr (C.w6 _ q))
  b8:=hin
  tm:=λs=>by rw[tOf];exact keep _ (h.wf.tr s) _ (h.tm s)
  bx:=λj B dK=>by
   rw[sn]at dK;by_cases e:j=i
   ·rw[if_pos e]at dK;cases dK;subst e;exact⟨ET,hnb,Jw,us',aaD,pJ⟩
   rw[if_neg e]at dK;obtain⟨p1,p2,p3,vs,p4,p5⟩:=h.bx j B dK;have hlt:=(Array.getElem?_eq_some_iff.1 p4).1;have hno:∀j'∈olds,(E.ν j').ownBlock≠some (E.β j):=λj' hj' q=>(sO j' hj' _ q).2.2.2.1 j B dK Y;refine⟨p1,N9 _ hlt p2 hno,p3,vs,?_,p5.imp (λx hx v hv=>keep x (h.wf.br j B dK x hx) v hv)⟩;show w'.heap[E.β j]? =_;rw[eT _ hlt (λq=>e (h.inj j i B _ dK hB q)) hno];exact p4
  inj:=λj j' B B' h1 h2 e=>by
   have key:∀n B,(AS.bz (rC olds news) (AS.dA [(i,⟨T,cells'⟩)] S)).b n=some B->∃B',S.b n=some B':=λn B hn=>by
    rw[sn]at hn;by_cases e:n=i
    ·subst e;exact⟨_,hB⟩
    rw[if_neg e]at hn;exact⟨B,hn⟩
   obtain⟨B1,p1⟩:=key j B h1;obtain⟨B2,p2⟩:=key j' B' h2;exact h.inj j j' B1 B2 p1 p2 e
  rx:=λj R hj=>by
   have boxes:∀g,(∀n B,S.b n=some B->E.β n≠g)->∀n B,(AS.bz (rC olds news) (AS.dA [(i,⟨T,cells'⟩)] S)).b n=some B->E.β n≠g:=λg hg n B hn=>by
    rw[sn]at hn;by_cases e:n=i
    ·subst e;exact hg _ _ hB
    rw[if_neg e]at hn;exact hg n B hn
   rcases live j R hj with⟨v,hm⟩|⟨hn,ho,hR⟩
   ·rw[show({E with M:=M',ν:=hG news E.ν}:Env).ν j=v from fy hnd hm];obtain⟨p1,p2⟩:=hrow j R v hm;refine⟨p1,λg hg=>?_⟩;obtain⟨p3,p4,p5⟩:=p2 g hg;rcases p3 with⟨j',q1,q2⟩|p3
    ·obtain⟨o1,o2,o3,o4,_⟩:=sO j' q1 g q2;exact⟨o1,p4,o3,boxes g o4⟩
    refine⟨.inl (Nat.le_trans h.grown p3),p4,λq=>?_,boxes g (λn B hn q=>?_)⟩
    ·have:=(h.gD g q).1;omega
    obtain⟨_,_,_,vs,q4,_⟩:=h.bx n B hn;have:=(Array.getElem?_eq_some_iff.1 q4).1;omega
   rw[show({E with M:=M',ν:=hG news E.ν}:Env).ν j=E.ν j from jC hn];obtain⟨⟨us,p1,p2⟩,p3⟩:=h.rx j R hR;refine⟨⟨us,cx p1 λg hg=>eT g (gi h hR hg) (λe=>(p3 g hg).2.2.2 i _ hB e.symm) (Rk j R hR ho g hg),p2.mono hM⟩,λg hg=>?_⟩;obtain⟨p4,p5,p6,p7⟩:=p3 g hg;exact⟨p4,N9 g (gi h hR hg) p5 (Rk j R hR ho g hg),p6,boxes g p7⟩
  dw:=λj j' R R' h1 h2 g e1 e2=>by
   have mixed:∀j R v j' R' g,(j,R,v)∈news->S.r j'=.live R'->j'∉olds->v.ownBlock=some g->(E.ν j').ownBlock=some g->False:=λj R v j' R' g hm jv ho e1 e2=>by
    rcases((hrow j R v hm).2 g e1).1 with⟨j2,q1,q2⟩|q
    ·exact Rk j' R' jv ho g e2 j2 q1 q2
    have:=gi h jv e2;omega
   rcases live j R h1 with⟨v,hm⟩|⟨hn,ho,hR⟩<;>rcases live j' R' h2 with⟨v',hm'⟩|⟨hn',ho',jv⟩
   ·rw[show({E with M:=M',ν:=hG news E.ν}:Env).ν j=v from fy hnd hm]at e1;rw[show({E with M:=M',ν:=hG news E.ν}:Env).ν j'=v' from fy hnd hm']at e2;exact Rg j R v j' R' v' g hm hm' e1 e2
   ·rw[show({E with M:=M',ν:=hG news E.ν}:Env).ν j=v from fy hnd hm]at e1;rw[show({E with M:=M',ν:=hG news E.ν}:Env).ν j'=E.ν j' from jC hn']at e2;exact(mixed j R v j' R' g hm jv ho' e1 e2).elim
   ·rw[show({E with M:=M',ν:=hG news E.ν}:Env).ν j=E.ν j from jC hn]at e1;rw[show({E with M:=M',ν:=hG news E.ν}:Env).ν j'=v' from fy hnd hm']at e2;exact(mixed j' R' v' j R g hm' hR ho e2 e1).elim
   rw[show({E with M:=M',ν:=hG news E.ν}:Env).ν j=E.ν j from jC hn]at e1;rw[show({E with M:=M',ν:=hG news E.ν}:Env).ν j'=E.ν j' from jC hn']at e2;exact h.dw j j' R R' hR jv g e1 e2
  ey:=h.ey
  cQ:=λk v e=>by
   rw[show({E with M:=M',ν:=hG news E.ν}:Env).ν k=E.ν k from jC (λR v hm=>by have:=(hnew k R v hm).2;have:=C.C2 k _ e;omega)];exact h.cQ k v e
  gD:=λb hb=>by
   obtain⟨p1,p2,p3⟩:=h.gD b hb;exact⟨Nat.lt_of_lt_of_le p1 hsize,N9 b p1 p2 (λj hj e=>(sO j hj b e).2.2.1 hb),p3⟩
  jj:=by
   have hj:=C.jf S.g S.go E.O E.M M' w w' h.jj hM hin (λb o v e=>by
    rcases hmn b o v e with q|q|⟨j,q1,q2⟩
    ·exact .inl q
    ·exact .inr ⟨.inl (Nat.le_trans h.grown q),λq2=>by have:=(h.gD b q2).1;omega⟩
    ·obtain⟨o1,_,o3,_⟩:=sO j q1 b q2;exact .inr ⟨o1,o3⟩) (λb hb=>by
    have hlt:b<w.heap.size\/w.heap.size<=b:=Nat.lt_or_ge _ _;have hb':b<w.heap.size:=by
     rcases hb with⟨q,_⟩|q
     ·exact Nat.lt_of_lt_of_le q h.grown
     exact(h.gD b q).1
    refine eT b hb' (λe=>?_) (λj hj e=>?_)
    ·subst e;rcases hb with⟨q1,q2⟩|q
     ·rcases ET with p|p
      ·omega
      exact q2 p
     exact Jw q
    obtain⟨o1,_,o3,_⟩:=sO j hj b e;rcases hb with⟨q1,q2⟩|q
    ·rcases o1 with p|p
     ·omega
     exact q2 p
    exact o3 q) hos hH hout hsize
   rw[n4,n5];exact hj}
end swap
end
section
open Go.RowKit
inductive Oc where
 |s (x:SV)
 |r (R:Row)
def nW(M:Mem)(w:World):List Oc->List Value->Prop
 |[],[]=>True
 |.s x::l,v::vs=>x.h M v/\nW M w l vs
 |.r R::l,v::vs=>(∃us:List Value,w.ownsRow 0 R.E R.sz v R.n us/\SV.dj M R.cells us)/\nW M w l vs
 |_,_=>False
def rowsOf:List Oc->List Row
 |[]=>[]
 |.s _::l=>rowsOf l
 |.r R::l=>R::rowsOf l
def bD:List Oc->List Value->List (Row×Value)
 |.s _::l,_::vs=>bD l vs
 |.r R::l,v::vs=>(R,v)::bD l vs
 |_,_=>[]
def dW(c:List Oc)(us:List Value)(g:Nat):Prop:=∃p∈bD c us,p.2.ownBlock=some g
def bC:List Nat->List Oc->List AV
 |ids,.s x::l=>.sv x::bC ids l
 |i::ids,.r _::l=>.row i::bC ids l
 |[],.r _::l=>.sv .any::bC [] l
 |_,[]=>[]
def Ds(l:List (Row×Value)):Prop:=l.Pairwise λp q=>∀g,p.2.ownBlock=some g->q.2.ownBlock≠some g
structure jV (M:Mem) (w:World) (β:Nat) (T:TypeId) (c:List Oc) (us:List Value):Prop where
 hp:w.heap[β]? =some (.cells ⟨us⟩ T (0,0))
 al:nW M w c us
 nb:∀o,M β o=none
 nr:∀g,dW c us g->g≠β/\∀o,M g o=none
 ap:Ds (bD c us)
theorem dO{M:Mem}{w:World}:∀{c:List Oc} {us:List Value},nW M w c us->(bD c us).map (·.1)=rowsOf c
 |[],[],_=>rfl
 |.s _::l,_::vs,h=>dO (c:=l) (us:=vs) h.2
 |.r R::l,v::vs,h=>congrArg (R:: ·) (dO (c:=l) (us:=vs) h.2)
 |[],_::_,h=>h.elim
 |.s _::_,[],h=>h.elim
 |.r _::_,[],h=>h.elim
theorem iB{M:Mem}{w:World}:∀{c:List Oc} {us:List Value},nW M w c us->∀p∈bD c us,∃vs:List Value,w.ownsRow 0 p.1.E p.1.sz p.2 p.1.n vs/\SV.dj M p.1.cells vs
 |[],[],_,p,hp=>by cases hp
 |.s _::l,_::vs,h,p,hp=>iB (c:=l) (us:=vs) h.2 p hp
 |.r R::l,v::vs,h,p,hp=>by
  rcases List.mem_cons.1 hp with rfl|hp
  ·exact h.1
  exact iB (c:=l) (us:=vs) h.2 p hp
 |[],_::_,h,_,_=>h.elim
 |.s _::_,[],h,_,_=>h.elim
 |.r _::_,[],h,_,_=>h.elim
theorem fg{α β:Type}:∀{l:List α} {k:List β} {a:α} {b:β},(a,b)∈l.zip k->a∈l/\b∈k
 |_::_,_::_,_,_,h=>by
  rw[List.zip_cons_cons]at h;rcases List.mem_cons.1 h with e|e
  ·cases e;simp
  have:=fg e;exact⟨List.mem_cons_of_mem _ this.1,List.mem_cons_of_mem _ this.2⟩
 |[],_,_,_,h=>by simp at h
 |_::_,[],_,_,h=>by simp at h
theorem rE{α β:Type}:∀{l:List α} {k:List β},l.length=k.length->(l.zip k).map (·.1)=l
 |[],[],_=>rfl
 |_::l,_::k,h=>by rw[List.zip_cons_cons,List.map_cons,rE (by simpa using h)]
 |[],_::_,h=>by simp at h
 |_::_,[],h=>by simp at h
theorem sP:∀{ids:List Nat} {l:List (Row×Value)},ids.Nodup->Ds l->∀k R v k' R' v' g,(k,R,v)∈ids.zip l->(k',R',v')∈ids.zip l->v.ownBlock=some g->v'.ownBlock=some g->k=k'
 |i::ids,p::l,hn,ha,k,R,v,k',R',v',g,h1,h2,e1,e2=>by
  rw[List.zip_cons_cons]at h1 h2;rw[List.nodup_cons]at hn;obtain⟨V9,ha2⟩:=List.pairwise_cons.1 ha;rcases List.mem_cons.1 h1 with q1|q1<;>rcases List.mem_cons.1 h2 with q2|q2
  ·cases q1;cases q2;rfl
  ·cases q1;exact absurd e2 (V9 (R',v') (fg q2).2 g e1)
  ·cases q2;exact absurd e1 (V9 (R,v) (fg q1).2 g e2)
  exact sP hn.2 ha2 k R v k' R' v' g q1 q2 e1 e2
 |[],_,_,_,_,_,_,_,_,_,_,h1,_,_,_=>by simp at h1
 |_::_,[],_,_,_,_,_,_,_,_,_,h1,_,_,_=>by simp at h1
theorem jo{E:Env}{w:World}:∀{ids:List Nat} {c:List Oc} {us:List Value},ids.length=(rowsOf c).length->nW E.M w c us->(∀i p,(i,p)∈ids.zip (bD c us)->E.ν i=p.2)->cc E (bC ids c) us
 |ids,[],[],_,_,_=>by cases ids<;>exact trivial
 |ids,.s x::l,v::vs,hl,h,hv=>by
  have ih:=jo (E:=E) (w:=w) (ids:=ids) (c:=l) (us:=vs) hl h.2 hv;cases ids<;>exact⟨h.1,ih⟩
 |i::ids,.r R::l,v::vs,hl,h,hv=>by
  refine⟨(hv i (R,v) (by rw[bD,List.zip_cons_cons];simp)).symm,jo (w:=w) (ids:=ids) (c:=l) (us:=vs) (by simpa[rowsOf]using hl) h.2 (λj p hm=>hv j p ?_)⟩;rw[bD,List.zip_cons_cons];exact List.mem_cons_of_mem _ hm
 |[],.r R::l,_::_,hl,_,_=>by simp[rowsOf]at hl
 |_,[],_::_,_,h,_=>h.elim
 |_,.s _::_,[],_,h,_=>h.elim
 |_,.r _::_,[],_,h,_=>h.elim
theorem jD:∀{ids:List Nat} {c:List Oc} (x:AV),x∈bC ids c->(∀j,¬x.mb j)/\∀j,x.mr j->j∈ids
 |ids,[],x,h=>by cases ids<;>simp[bC]at h
 |ids,.s y::l,x,h=>by
  have h':x∈AV.sv y::bC ids l:=by cases ids<;>exact h
  rcases List.mem_cons.1 h' with rfl|h'
  ·exact⟨λj e=>e,λj e=>e.elim⟩
  exact jD x h'
 |i::ids,.r _::l,x,h=>by
  rcases List.mem_cons.1 (show x∈AV.row i::bC ids l from h)with rfl|h'
  ·exact⟨λj e=>e,λj e=>by cases e;simp⟩
  obtain⟨h1,h2⟩:=jD x h';exact⟨h1,λj e=>List.mem_cons_of_mem _ (h2 j e)⟩
 |[],.r _::l,x,h=>by
  rcases List.mem_cons.1 (show x∈AV.sv .any::bC [] l from h)with rfl|h'
  ·exact⟨λj e=>e,λj e=>e.elim⟩
  exact jD x h'
def Lv(S:AS):List Nat->List Row->Prop
 |[],[]=>True
 |j::js,R::Rs=>S.r j=.live R/\Lv S js Rs
 |_,_=>False
theorem Lv.len{S:AS}:∀{js:List Nat} {Rs:List Row},Lv S js Rs->js.length=Rs.length
 |[],[],_=>rfl
 |_::_,_::_,h=>congrArg (· +1) (Lv.len h.2)
 |[],_::_,h=>h.elim
 |_::_,[],h=>h.elim
theorem Lv.mem{S:AS}:∀{js:List Nat} {Rs:List Row},Lv S js Rs->∀j∈js,∃R,S.r j=.live R
 |j::js,R::Rs,h,k,hk=>by
  rcases List.mem_cons.1 hk with rfl|hk
  ·exact⟨R,h.1⟩
  exact Lv.mem h.2 k hk
 |[],_,_,k,hk=>by cases hk
 |_::_,[],h,_,_=>h.elim
theorem lI{C:Ctx}{S:AS}{E:Env}{a:Act}{w:World}(h:aY C S E a w):∀{js:List Nat} {c:List Oc} {us:List Value},Lv S js (rowsOf c)->cc E (bC js c) us->nW E.M w c us/\bD c us=(rowsOf c).zip (js.map E.ν)
 |[],[],[],_,_=>⟨aq,Y⟩
 |js,.s x::l,v::vs,hL,hv=>by
  have oI:cc E (AV.sv x::bC js l) (v::vs):=by cases js<;>exact hv
  obtain⟨h1,h2⟩:=lI h (js:=js) (c:=l) (us:=vs) hL oI.2;exact⟨⟨oI.1,h1⟩,h2⟩
 |j::js,.r R::l,v::vs,hL,hv=>by
  have hL:S.r j=.live R/\Lv S js (rowsOf l):=hL;have oI:cc E (AV.row j::bC js l) (v::vs):=hv;obtain⟨h1,h2⟩:=lI h (js:=js) (c:=l) (us:=vs) hL.2 oI.2;have e:v=E.ν j:=oI.1;obtain⟨q1,_⟩:=h.rx j R hL.1;rw[<-e]at q1;refine⟨⟨q1,h1⟩,?_⟩;rw[bD,h2,e];rfl
 |[],.r _::_,_,hL,_=>hL.elim
 |_::_,[],_,hL,_=>hL.elim
 |[],[],_::_,_,hv=>by simp[bC]at hv;exact hv.elim
 |js,.s x::l,[],_,hv=>by
  have oI:cc E (AV.sv x::bC js l) []:=by cases js<;>exact hv
  exact oI.elim
 |_::_,.r _::_,[],_,hv=>hv.elim
theorem nX{α β:Type}:∀{l:List α} {k:List β} {b:β},l.length=k.length->b∈k->∃a,(a,b)∈l.zip k
 |a::l,c::k,b,h,hb=>by
  rcases List.mem_cons.1 hb with rfl|hb
  ·exact⟨a,by rw[List.zip_cons_cons];simp⟩
  obtain⟨a',h'⟩:=nX (l:=l) (k:=k) (by simpa using h) hb;exact⟨a',by rw[List.zip_cons_cons];exact List.mem_cons_of_mem _ h'⟩
 |[],[],_,_,hb=>by cases hb
 |[],_::_,_,h,_=>by simp at h
theorem ia{C:Ctx}{S:AS}{E:Env}{a:Act}{w:World}(h:aY C S E a w){i:Nat}{T:TypeId}{js:List Nat}{c:List Oc}(hB:S.b i=some ⟨T,bC js c⟩)(hL:Lv S js (rowsOf c))(hn:js.Nodup):
  ∃us,jV E.M w (E.β i) T c us/\(∀g,dW c us g↔∃j∈js,(E.ν j).ownBlock=some g):=by
 obtain⟨_,q1,_,us,q2,q3⟩:=h.bx i _ hB;obtain⟨p1,p2⟩:=lI h hL q3;have hlen:=hL.len;have yM:∀g,dW c us g↔∃j∈js,(E.ν j).ownBlock=some g:=λg=>by
  unfold dW;rw[p2];constructor
  ·rintro⟨⟨R,v⟩,hm,hg⟩;obtain⟨j,hj,rfl⟩:=List.mem_map.1 (fg hm).2;exact⟨j,hj,hg⟩
  rintro⟨j,hj,hg⟩;obtain⟨R,hR⟩:=nX (l:=rowsOf c) (k:=js.map E.ν) (by simp[hlen]) (List.mem_map.2 ⟨j,hj,Y⟩);exact⟨(R,E.ν j),hR,hg⟩
 refine⟨us,⟨q2,p1,q1,λg hg=>?_,?_⟩,yM⟩
 ·obtain⟨j,hj,pK⟩:=(yM g).1 hg;obtain⟨R,hR⟩:=hL.mem j hj;obtain⟨_,q4⟩:=h.rx j R hR;obtain⟨_,q5,_,q6⟩:=q4 g pK;exact⟨λe=>q6 i _ hB e.symm,q5⟩
 rw[p2];have key:∀(js:List Nat) (Rs:List Row),Lv S js Rs->js.Nodup->Ds (Rs.zip (js.map E.ν)):=by
  intro js
  induction js with
  |nil=>intro Rs hL _;cases Rs with|nil=>exact List.Pairwise.nil|cons _ _=>exact hL.elim
  |cons j js ih=>
   intro Rs hL hn;cases Rs with
   |nil=>exact hL.elim
   |cons R Rs=>
    rw[List.nodup_cons]at hn;rw[List.map_cons,List.zip_cons_cons];refine List.pairwise_cons.2 ⟨λp hp g e1 e2=>?_,ih Rs hL.2 hn.2⟩;obtain⟨R',v'⟩:=p;obtain⟨j',hj',rfl⟩:=List.mem_map.1 (fg hp).2;obtain⟨R2,hR2⟩:=hL.2.mem j' hj';have:=h.dw j j' R R2 hL.1 hR2 g e1 e2;subst this;exact hn.1 hj'
 exact key js _ hL hn
def mJ(M:Mem)(β:Nat):Env:=⟨λ_=>β,λ_=>.nilIface,λ_=>False,M⟩
def Fc.oy:Fc->Bool
 |.val _=>true
 |.box i=>Nat.beq i 1000
 |.row _=>false
def AV.oy:AV->Bool
 |.sv _=>true
 |.ptr i _=>Nat.beq i 1000
 |.cmp _ js=>js.all Fc.oy
 |_=>false
def Fc.Iv(i:Nat):Fc->Fc
 |.box _=>.box i
 |c=>c
def AV.Iv(i:Nat):AV->AV
 |.ptr _ o=>.ptr i o
 |.cmp t js=>.cmp t (js.map (Fc.Iv i))
 |x=>x
theorem EV{E:Env}{i:Nat}{x:AV}{v:Value}(hx:x.oy=true)(h:(x.Iv i).holds E v):x.holds (mJ E.M (E.β i)) v:=by
 cases x with
 |sv s=>exact h
 |ptr k o=>exact h
 |cmp t js=>
  obtain⟨vs,rfl,h⟩:=h;refine⟨vs,Y,?_⟩;have key:∀(l:List Fc) (vs:List Value),(l.all Fc.oy)=true->oH E (l.map (Fc.Iv i)) vs->oH (mJ E.M (E.β i)) l vs:=by
   intro l
   induction l with
   |nil=>intro vs _ h;cases vs with|nil=>trivial|cons _ _=>exact h.elim
   |cons c l ih=>
    intro vs ho h;rw[List.all_cons,Bool.and_eq_true]at ho;cases vs with
    |nil=>exact h.elim
    |cons u vs=>
     refine⟨?_,ih vs ho.2 h.2⟩;cases c with
     |val s=>exact h.1
     |box k=>exact h.1
     |row k=>exact(Bool.false_ne_true ho.1).elim
  exact key js vs hx h
 |_=>exact(Bool.false_ne_true hx).elim
theorem oB{E:Env}{i:Nat}:∀{l:List AV} {vs:List Value},(l.all AV.oy)=true->cc E (l.map (AV.Iv i)) vs->cc (mJ E.M (E.β i)) l vs
 |[],[],_,_=>trivial
 |x::l,v::vs,h,hv=>by
  rw[List.all_cons,Bool.and_eq_true]at h;exact⟨EV h.1 hv.1,oB h.2 hv.2⟩
 |[],_::_,_,h=>h.elim
 |_::_,[],_,h=>h.elim
def Oa(P:Program)(f:FuncId)(args:List AV)(T:TypeId)(c0:List Oc)(res:SV)(c1:List Oc):Prop:=
 ∀(M:Mem) (w:World) (β:Nat) (vs us:List Value),M.b8 w->jV M w β T c0 us->cc (mJ M β) args vs->
  Calls P f ⟨vs⟩ w λe w'=>∃v M' us',e=.returned v/\M.le M'/\(∀b o x,M' b o=some x->M b o=some x\/w.heap.size<=b\/dW c0 us b)/\M'.b8 w'/\res.h M' v/\
   jV M' w' β T c1 us'/\(∀g,dW c1 us' g->dW c0 us g\/w.heap.size<=g)/\w'.os=w.os/\w'.tape=w.tape/\w'.output=w.output/\w.heap.size<=w'.heap.size/\
   ∀k,k<w.heap.size->k≠β->¬dW c0 us k->w'.heap[k]? =w.heap[k]?
def Ob(w:World)(M:Mem)(β:Nat)(c:List Oc)(us:List Value):Ctx:={w0:=w,M0:=M,own:=λk=>k=β\/dW c us k,nm:=λk=>k=β\/dW c us k,ey:=λi=>bif Nat.beq i 1000 then some β else none,cQ:=λ_=>none,ro:=none,J:=λ_ _ _ _ _=>True,w6:=λ_ h=>h,C2:=λ_ _ h=>(by cases h),jf:=λ_ _ _ _ _ _ _ _ _ _ _ _ _ _ _ _=>trivial}
theorem rF{M:Mem}{w:World}:∀{ids:List Nat} {c:List Oc} {us:List Value},nW M w c us->∀{i:Nat} {R:Row},(i,R)∈ids.zip (rowsOf c)->∃v,(i,R,v)∈ids.zip (bD c us)
 |ids,.s x::l,v::vs,h,i,R,hm=>by
  have hm':(i,R)∈ids.zip (rowsOf l):=hm;exact rF (c:=l) (us:=vs) h.2 hm'
 |k::ids,.r R'::l,v::vs,h,i,R,hm=>by
  have hm':(i,R)∈(k,R')::ids.zip (rowsOf l):=hm;rw[bD,List.zip_cons_cons];rcases List.mem_cons.1 hm' with e|e
  ·cases e;exact⟨v,by simp⟩
  obtain⟨v',h'⟩:=rF (ids:=ids) (c:=l) (us:=vs) h.2 e;exact⟨v',List.mem_cons_of_mem _ h'⟩
 |[],.r _::_,_::_,_,_,_,hm=>by simp at hm
 |_,[],[],_,_,_,hm=>by simp[rowsOf]at hm
 |_,[],_::_,h,_,_,_=>h.elim
 |_,.s _::_,[],h,_,_,_=>h.elim
 |_,.r _::_,[],h,_,_,_=>h.elim
theorem zy{n:Nat}{args:List AV}{T:TypeId}{c:List Oc}{M:Mem}{w:World}{β:Nat}{vs us:List Value}(ids:List Nat)(hM:M.b8 w)(ho:jV M w β T c us)(hv:cc (mJ M β) args vs)(xd:args.all AV.oy=true)(hn:args.length<=n)(r9:ids.Nodup)(Fu:ids.length=(rowsOf c).length):
  aY (Ob w M β c us) (AS.uE n args [(1000,⟨T,bC ids c⟩)] (ids.zip (rowsOf c))) ⟨λ_=>β,hG (ids.zip (bD c us)) (λ_=>.nilIface),λ_=>False,M⟩ {tmps:=⟨vs⟩++Array.replicate (n-(⟨vs⟩:Array Value).size) undef,defers:=[]} w:=by
 have hl:=hv.length;have La:(bD c us).length=(rowsOf c).length:=by rw[<-dO ho.al,List.length_map]
 have hnd:((ids.zip (bD c us)).map (·.1)).Nodup:=by rw[rE (by omega)];exact r9
 have Lb:∀s,(mc args s).oy=true:=λs=>by
  rcases qK (l:=args) (k:=s)with e|e
  ·rw[e];rfl
  exact List.all_eq_true.1 xd _ e
 have oyB:∀x:AV,x.oy=true->(∀j,x.mb j->j=1000)/\∀j,¬x.mr j:=λx hx=>by
  cases x with
  |sv s=>exact⟨λj e=>e.elim,λj e=>e⟩
  |ptr k o=>exact⟨λj e=>by cases e;exact Nat.eq_of_beq_eq_true hx,λj e=>e⟩
  |cmp t js=>
   refine⟨λj e=>?_,λj e=>?_⟩
   ·exact Nat.eq_of_beq_eq_true (List.all_eq_true.1 hx _ e)
   exact Bool.false_ne_true (List.all_eq_true.1 hx _ e)
  |_=>exact(Bool.false_ne_true hx).elim
 have hall:cc ⟨λ_=>β,hG (ids.zip (bD c us)) (λ_=>.nilIface),λ_=>False,M⟩ args vs:=by
  refine hv.imp (λx hx v hh=>?_);exact AV.bY (E:=mJ M β) (E':=⟨λ_=>β,hG (ids.zip (bD c us)) (λ_=>.nilIface),λ_=>False,M⟩) (Mem.le_refl _) (λ_ _=>rfl) (λj hj=>absurd hj ((oyB x (List.all_eq_true.1 xd x hx)).2 j)) hh
 have live:∀j R,(AS.uE n args [(1000,⟨T,bC ids c⟩)] (ids.zip (rowsOf c))).r j=.live R->(j,R)∈ids.zip (rowsOf c):=λj R hj=>by
  have hj:(match w7 (ids.zip (rowsOf c)) j with|some R=>ir.live R|none=>.un)=.live R:=hj;cases e:w7 (ids.zip (rowsOf c)) j with
  |none=>rw[e]at hj;cases hj
  |some R'=>rw[e]at hj;cases hj;exact uX e
 have isLive:∀j∈ids,(AS.uE n args [(1000,⟨T,bC ids c⟩)] (ids.zip (rowsOf c))).r j≠ .un:=λj hj=>by
  have key:∀(ids:List Nat) (Rs:List Row),ids.length=Rs.length->j∈ids->∃R,w7 (ids.zip Rs) j=some R:=by
   intro ids
   induction ids with
   |nil=>intro _ _ h;cases h
   |cons k ids ih=>
    intro Rs hl hm;cases Rs with
    |nil=>simp at hl
    |cons R Rs=>
     rw[List.zip_cons_cons,w7];by_cases e:j=k
     ·subst e;exact⟨R,by simp⟩
     rw[cG e];rcases List.mem_cons.1 hm with q|q
     ·exact absurd q e
     exact ih Rs (by simpa using hl) q
  obtain⟨R,hR⟩:=key ids _ Fu hj;show(match w7 (ids.zip (rowsOf c)) j with|some R=>ir.live R|none=>.un)≠ .un;rw[hR];simp
 have box:∀j B,(AS.uE n args [(1000,⟨T,bC ids c⟩)] (ids.zip (rowsOf c))).b j=some B->j=1000/\B=⟨T,bC ids c⟩:=λj B h=>by
  have:=iP h;simpa using this
 have F2:(AS.uE n args [(1000,⟨T,bC ids c⟩)] (ids.zip (rowsOf c))).b 1000=some ⟨T,bC ids c⟩:=rfl
 exact{
  wf:=by
   refine⟨λs j hj=>?_,λs j hj=>?_,λi B hB x hx j hj=>?_,λi B hB x hx j hj=>?_⟩
   ·have:=(oyB _ (Lb s)).1 j hj;subst this;exact⟨_,F2⟩
   ·exact absurd hj ((oyB _ (Lb s)).2 j)
   ·obtain⟨rfl,rfl⟩:=box i B hB;exact absurd hj ((jD x hx).1 j)
   obtain⟨rfl,rfl⟩:=box i B hB;exact isLive j ((jD x hx).2 j hj)
  marks:=⟨[],Y,List.nodup_nil,by simp⟩
  size:=by simp[AS.uE];omega
  os:=rfl
  tape:=rfl
  output:=rfl
  grown:=Nat.le_refl _
  frame:=λ_ _ _=>rfl
  m0:=Mem.le_refl _
  cV:=λ_ _ _ e=>.inl e
  b8:=hM
  tm:=λs=>Cc hall s
  bx:=λi B h=>by
   obtain⟨rfl,rfl⟩:=box i B h;refine⟨.inr (.inl Y),ho.nb,λh=>h,us,ho.hp,?_⟩;exact jo (w:=w) Fu ho.al (λj p hm=>fy (R:=p.1) (v:=p.2) hnd hm)
  inj:=λi j B1 B2 hi hj _=>by rw[(box i B1 hi).1,(box j B2 hj).1]
  rx:=λj R hj=>by
   obtain⟨v,hm⟩:=rF ho.al (live j R hj);have hν:hG (ids.zip (bD c us)) (λ_=>Value.nilIface) j=v:=fy hnd hm;show(∃vs:List Value,w.ownsRow 0 R.E R.sz (hG (ids.zip (bD c us)) (λ_=>.nilIface) j) R.n vs/\SV.dj M R.cells vs)/\_;rw[hν];refine⟨iB ho.al (R,v) (fg hm).2,λg hg=>?_⟩;have hg:v.ownBlock=some g:=by rw[<-hν];exact hg
   have hb:dW c us g:=⟨(R,v),(fg hm).2,hg⟩;obtain⟨q1,q2⟩:=ho.nr g hb;refine⟨.inr (.inr hb),q2,λh=>h,λk B _ e=>q1 e.symm⟩
  dw:=λj j' R R' h1 h2 g e1 e2=>by
   obtain⟨v,hm⟩:=rF ho.al (live j R h1);obtain⟨v',hm'⟩:=rF ho.al (live j' R' h2);have hν:hG (ids.zip (bD c us)) (λ_=>Value.nilIface) j=v:=fy hnd hm;have aaI:hG (ids.zip (bD c us)) (λ_=>Value.nilIface) j'=v':=fy hnd hm';exact sP r9 ho.ap j R v j' R' v' g hm hm' (by rw[<-hν];exact e1) (by rw[<-aaI];exact e2)
  ey:=λi b e=>by
   simp only[Ob]at e;cases h:Nat.beq i 1000 with
   |false=>rw[h]at e;cases e
   |true=>rw[h]at e;cases e;rfl
  cQ:=λi v e=>by cases e
  gD:=λb e=>e.elim
  jj:=trivial}
theorem CO{P:Program}{f:FuncId}{fn:Func}{code:Code}{args:List AV}{T:TypeId}{c0 c1:List Oc}{res:SV}(ids:List Nat)(hf:P.funcs[f]? =some fn)(hb:fn.body=some code)(hn:args.length<=fn.ntmps)(xd:args.all AV.oy=true)(r9:ids.Nodup)(Fu:ids.length=(rowsOf c0).length)
  (h:∀(w:World) (M:Mem) (β:Nat) (us:List Value),Ok P (Ob w M β c0 us) code (AS.uE fn.ntmps args [(1000,⟨T,bC ids c0⟩)] (ids.zip (rowsOf c0))) (λe S=>(e=.normal\/e=.ret)/\Fl P S fn.results.toList res/\∃ks:List Nat,S.b 1000=some ⟨T,bC ks c1⟩/\Lv S ks (rowsOf c1)/\ks.Nodup)):Oa P f args T c0 res c1:=by
 intro M w β vs us hM ho hv;refine ef Y hf hb (zy ids hM ho hv xd hn r9 Fu) (h w M β us) ?_;rintro S' E a w' ⟨hr,ks,hB,hL,hk⟩ hh;obtain⟨v,hv,hx⟩:=(qJ.sv hr).run hh;have hβ:E.β 1000=β:=hh.ey 1000 β Y;obtain⟨us',ho',eT⟩:=ia hh hB hL hk;rw[hβ]at ho';refine⟨v,hv,v,E.M,us',Y,hh.m0,λb o x e=>?_,hh.b8,hx,ho',λg hg=>?_,hh.os,hh.tape,hh.output,hh.grown,λk hk hne hno=>hh.frame k hk (λe=>e.elim hne hno)⟩
 ·rcases hh.cV b o x e with q|q|q|q
  ·exact .inl q
  ·exact .inr (.inl q)
  ·rw[show b=β from q,ho'.nb o]at e;cases e
  exact .inr (.inr q)
 obtain⟨j,hj,pK⟩:=(eT g).1 hg;obtain⟨R,hR⟩:=hL.mem j hj;obtain⟨_,q⟩:=hh.rx j R hR;rcases(q g pK).1 with q1|q1|q1
 ·exact .inr q1
 ·exact absurd q1 (ho'.nr g hg).1
 exact .inl q1
end
section
open Go.RowKit
def Un(S:AS):List Nat->Prop
 |[]=>True
 |k::ks=>(S.r k=.un/\k<1000)/\Un S ks
theorem Un.mem{S:AS}:∀{ks:List Nat},Un S ks->∀k∈ks,S.r k=.un/\k<1000
 |k::ks,h,j,hj=>by
  rcases List.mem_cons.1 hj with rfl|hj
  ·exact h.1
  exact Un.mem h.2 j hj
 |[],_,j,hj=>by cases hj
theorem Un.congr{S S':AS}:∀{ks:List Nat},(∀k∈ks,S'.r k=S.r k)->Un S ks->Un S' ks
 |[],_,_=>trivial
 |k::ks,h,hu=>⟨by rw[h k (by simp)];exact hu.1,Un.congr (λj hj=>h j (List.mem_cons_of_mem _ hj)) hu.2⟩
theorem Lv.congr{S S':AS}:∀{js:List Nat} {Rs:List Row},(∀k∈js,S'.r k=S.r k)->Lv S js Rs->Lv S' js Rs
 |[],[],_,_=>trivial
 |j::js,R::Rs,h,hl=>⟨by rw[h j (by simp)];exact hl.1,Lv.congr (λk hk=>h k (List.mem_cons_of_mem _ hk)) hl.2⟩
 |[],_::_,_,h=>h.elim
 |_::_,[],_,h=>h.elim
def k8(js ks:List Nat)(c:List Oc):List (Nat×ir):=js.map (λj=>(j,ir.dead))++(ks.zip (rowsOf c)).map (λp=>(p.1,.live p.2))
theorem A9:∀(ks:List Nat) (l:List (Row×Value)),(ks.zip l).map (λn=>(n.1,ir.live n.2.1))=(ks.zip (l.map (·.1))).map (λp=>(p.1,.live p.2))
 |[],_=>rfl
 |_::_,[]=>rfl
 |k::ks,p::l=>by rw[List.map_cons,List.zip_cons_cons,List.zip_cons_cons,List.map_cons,List.map_cons,A9 ks l]
theorem wI{M:Mem}{w:World}{c:List Oc}{us:List Value}(h:nW M w c us)(js ks:List Nat):rC js (ks.zip (bD c us))=k8 js ks c:=by
 unfold rC k8;rw[A9,dO h]
section steps
variable {P:Program}{C:Ctx}{ops:Array Oper}{S:AS}{nd:Bool}{K:List Ac->AS->Prop}{rest:List Oper}{acc:List Ac}
variable {gd:Option (Nat×Bool)}{rg:List Nat}{d:Nat}{ty:TypeId}{pos:String}{aft:Array Edge}{x y z:Operand}{T U E0:TypeId}
theorem aY.Jx{E:Env}{a:Act}{w w':World}(h:aY C S E a w){i:Nat}{js ks:List Nat}{c0 c1:List Oc}{us us':List Value}{M':Mem}(hB:S.b i=some ⟨T,bC js c0⟩)(hL:Lv S js (rowsOf c0))(hks:ks.Nodup)(oS:ks.length=(rowsOf c1).length)(EW:Un S ks)
  (rG:∀g,dW c0 us g↔∃j∈js,(E.ν j).ownBlock=some g) (hM:E.M.le M') (hn:∀b o x,M' b o=some x->E.M b o=some x\/w.heap.size<=b\/dW c0 us b) (hin:M'.b8 w') (ho:jV M' w' (E.β i) T c1 us') (hg:∀g,dW c1 us' g->dW c0 us g\/w.heap.size<=g)
  (hos:w'.os=w.os) (hH:w'.tape=w.tape) (hout:w'.output=w.output) (hsize:w.heap.size<=w'.heap.size) (eT:∀k,k<w.heap.size->k≠E.β i->¬dW c0 us k->w'.heap[k]? =w.heap[k]?):
  ∃E':Env,E'.M=M'/\E'.β=E.β/\aY C (AS.bz (k8 js ks c1) (AS.dA [(i,⟨T,bC ks c1⟩)] S)) E' a w':=by
 have La:(bD c1 us').length=(rowsOf c1).length:=by rw[<-dO ho.al,List.length_map]
 have hnd:((ks.zip (bD c1 us')).map (·.1)).Nodup:=by rw[rE (by omega)];exact hks
 rw[<-wI ho.al js ks];refine⟨{E with M:=M',ν:=hG (ks.zip (bD c1 us')) E.ν},Y,Y,h.Rf hB js (ks.zip (bD c1 us')) (λj hj=>hL.mem j hj) (λk R v hm=>EW.mem k (fg hm).1) hnd hM (λb o x e=>?_) hin ho.hp ho.nb ?_ (λx hx=>?_) (λk R v hm=>?_) (sP hks ho.ap) hos hH hout hsize (λk hk hne hno=>eT k hk hne (λq=>?_))⟩
 ·rcases hn b o x e with q|q|q
  ·exact .inl q
  ·exact .inr (.inl q)
  exact .inr (.inr ((rG b).1 q))
 ·exact jo (E:={E with M:=M',ν:=hG (ks.zip (bD c1 us')) E.ν}) (w:=w') oS ho.al (λj p hm=>fy (R:=p.1) (v:=p.2) hnd hm)
 ·obtain⟨q1,q2⟩:=jD x hx;refine⟨q1,λj hj=>?_⟩;have hj:=q2 j hj;have key:∀(ks:List Nat) (l:List (Row×Value)),ks.length=l.length->j∈ks->∃R v,(j,R,v)∈ks.zip l:=by
   intro ks
   induction ks with
   |nil=>intro _ _ h;cases h
   |cons k ks ih=>
    intro l hl hm;cases l with
    |nil=>simp at hl
    |cons p l=>
     rw[List.zip_cons_cons];rcases List.mem_cons.1 hm with q|q
     ·subst q;exact⟨p.1,p.2,by simp⟩
     obtain⟨R,v,h⟩:=ih l (by simpa using hl) q;exact⟨R,v,List.mem_cons_of_mem _ h⟩
  exact key ks _ (by omega) hj
 ·refine⟨iB ho.al (R,v) (fg hm).2,λg xH=>?_⟩;have hb:dW c1 us' g:=⟨(R,v),(fg hm).2,xH⟩;obtain⟨q1,q2⟩:=ho.nr g hb;refine⟨?_,q2,q1⟩;rcases hg g hb with q|q
  ·exact .inl ((rG g).1 q)
  exact .inr q
 obtain⟨j,hj,e⟩:=(rG k).1 q;exact hno j hj e
theorem RT.rH(hg:Gd ops S gd rg){f:FuncId}[dX P f]{g:Operand}{xs:Array Operand}{at_:Array TypeId}{args:List AV}{T:TypeId}{c0 c1:List Oc}{res:SV}(hp:Oa P f args T c0 res c1)(i:Nat)(js ks:List Nat)(hB:S.b i=some ⟨T,bC js c0⟩)(hL:Lv S js (rowsOf c0))(Dt:js.Nodup)(hks:ks.Nodup)(oS:ks.length=(rowsOf c1).length)(EW:Un S ks)
  (xd:args.all AV.oy=true) (hf:S.ev g=.sv (.v (.func (.func f) #[] #[]))) (hargs:me S xs.toList (args.map (AV.Iv i))) (hd:d<S.n)
  (next:RunT P C ops nd K rest (⟨rg++(aW g++xs.toList.flatMap aW),[i],js++ks,⟨some (d,.sv res),[(i,⟨T,bC ks c1⟩)],k8 js ks c1⟩⟩::acc) ((AS.bz (k8 js ks c1) (AS.dA [(i,⟨T,bC ks c1⟩)] S)).set d (.sv res))):RunT P C ops nd K (⟨some d,.call ⟨.value g,xs,at_⟩,ty,pos,aft,gd⟩::rest) acc S:=by
 refine .inl ⟨_,[i],js++ks,_,?_,next⟩;rintro S' hn ht hb hr k a w L Q ho ⟨E,h⟩ Jy;refine bO (C:=C) ho (hg.wanted h (λs hs=>ht s (List.mem_append_left _ hs)) Y) ?_;have nx:a.eval g=.func (.func f) #[] ⟨[]⟩:=by
  have h1:=h.ev g;rw[bk (λ_ h=>List.mem_append_right _ (List.mem_append_left _ h)) ht,hf]at h1;exact h1
 have hall:=oB xd (me.vals h hargs (λs hs=>ht s (List.mem_append_right _ (List.mem_append_right _ hs))));have dK:S'.b i=some ⟨T,bC js c0⟩:=by rw[hb i (by simp)];exact hB
 have Du:Lv S' js (rowsOf c0):=hL.congr (λk hk=>hr k (List.mem_append_left _ hk));have aaJ:Un S' ks:=EW.congr (λk hk=>hr k (List.mem_append_right _ hk));obtain⟨us,CP,rG⟩:=ia h dK Du Dt;refine bP (C:=C) (by intro c h;cases h) (gY nx) ?_;rw[List.append_nil];refine⟨λh=>by simp at h,dV ((hp E.M w (E.β i) _ us h.b8 CP hall).mono ?_)⟩;rintro e w' ⟨v,M',us',rfl,hM,hnew,hin,hv,xP,Iw,hos,hH,hout,hsize,eT⟩;obtain⟨E',e1,e2,h1⟩:=h.Jx dK Du hks oS aaJ rG hM hnew hin xP Iw hos hH hout hsize eT;refine Jy _ _ ⟨_,h1.put (x:=.sv res) (v:=v) (by show res.h E'.M v;rw[e1];exact hv) ?_ dD⟩;rw[(cW _ _).1];show d<S'.n;omega
theorem EX{f:FuncId}[dX P f]{o:Option Nat}{g:Operand}{xs:Array Operand}{at_:Array TypeId}{a:Act}{w:World}{bs:List Value}(nx:a.eval g=.func (.func f) ⟨bs⟩ #[]):
  (execOp a.eval ⟨o,.call ⟨.value g,xs,at_⟩,ty,pos,aft,gd⟩).run P w=.ok (.enter f ⟨bs++xs.toList.map a.eval⟩) w:=by
 have e2:(⟨bs⟩:Array Value)++xs.map a.eval=⟨bs++xs.toList.map a.eval⟩:=by apply Array.ext';simp
 have e1:=dX.run (P:=P) (f:=f) (⟨bs⟩++xs.map a.eval) w;rw[<-e2];simp[execOp,resolve,nx,Deferred.ofValue,invoke,e1]
theorem RT.Jz(hg:Gd ops S gd rg){g:FuncId}{i:Nat}(hx:S.ev x=.ptr i 0)(hd:d<S.n)
  (next:RunT P C ops nd K rest (⟨rg++aW x,[],[],⟨some (d,.cmp (.Pc g) [.box i]),[],[]⟩⟩::acc) (S.set d (.cmp (.Pc g) [.box i]))):RunT P C ops nd K (⟨some d,.makeFunc (.func g) #[x] #[],ty,pos,aft,gd⟩::rest) acc S:=
 RT.value hg (aW x) [] [] (.cmp (.Pc g) [.box i]) hd (by intro c h;cases h) (λS' ht _ _ E a w h=>by
  have hx':S'.ev x=.ptr i 0:=by rw[bk (λ_ h=>h) ht,hx]
  have h1:=h.ev x;rw[hx']at h1;obtain⟨l1,l2⟩:=gE h.wf hx';refine⟨.func (.func g) #[a.eval x] #[],by simp[execOp,Instr.makeFunc],⟨[a.eval x],Y,h1,aq⟩,λj e=>?_,λj e=>?_⟩
  ·have:j=i:=by simpa[AV.mb]using e
   exact l1 j this
  simp[AV.mr]at e) next
theorem RT.eu(hg:Gd ops S gd rg){i o:Nat}(hx:S.ev x=.ptr i o)(hd:d<S.n)
  (next:RunT P C ops nd K rest (⟨rg++aW x,[],[],⟨some (d,.ptr i o),[],[]⟩⟩::acc) (S.set d (.ptr i o))):RunT P C ops nd K (⟨some d,.nilCheck x,ty,pos,aft,gd⟩::rest) acc S:=
 RT.value hg (aW x) [] [] (.ptr i o) hd (by intro c h;cases h) (λS' ht _ _ E a w h=>by
  have hx':S'.ev x=.ptr i o:=by rw[bk (λ_ h=>h) ht,hx]
  have h1:=h.ev x;rw[hx']at h1;have h2:a.eval x=.pointer (some ⟨E.β i,o,none⟩):=h1;exact⟨a.eval x,by simp[execOp,h2],h1,gE h.wf hx'⟩) next
class GY (P:Program) (T:TypeId):Prop where
 u:P.underlying T=some (.pointer (P.pointee T))
theorem RT.GZ(hg:Gd ops S gd rg)[tT:GY P T]{i o:Nat}(hx:S.ev x=.ptr i o)(hy:S.ev y=.sv (.v (.pointer none)))(hd:d<S.n)
  (next:RunT P C ops nd K rest (⟨rg++(aW x++aW y),[],[],⟨some (d,.sv (.v (.bool false))),[],[]⟩⟩::acc) (S.set d (.sv (.v (.bool false))))):RunT P C ops nd K (⟨some d,.binOp .eql T x y U,ty,pos,aft,gd⟩::rest) acc S:=
 RT.value hg (aW x++aW y) [] [] (.sv (.v (.bool false))) hd (by intro c h;cases h) (λS' ht _ _ E a w h=>by
  have h1:=h.ev x;rw[bk (λ_ h=>List.mem_append_left _ h) ht,hx]at h1;have h2:=h.ev y;rw[bk (λ_ h=>List.mem_append_right _ h) ht,hy]at h2;have h1:a.eval x=.pointer (some ⟨E.β i,o,none⟩):=h1;have h2:a.eval y=.pointer none:=h2;have e:=run_eql_pointer_nil (P:=P) w T (some ⟨E.β i,o,none⟩) tT.u;refine⟨.bool false,?_,Y,dD⟩;simp[execOp,h1,h2,eqGuard,e]) next
def Fc.av:Fc->AV
 |.val s=>.sv s
 |.box i=>.ptr i 0
 |.row i=>.row i
theorem RT.rI(hg:Gd ops S gd rg){i:Nat}{js:List Fc}{s:Fc}(hx:S.ev x=.cmp .uB js)(hi:js[i]? =some s)(hd:d<S.n)
  (next:RunT P C ops nd K rest (⟨rg++aW x,[],[],⟨some (d,s.av),[],[]⟩⟩::acc) (S.set d s.av)):RunT P C ops nd K (⟨some d,.extract x i,ty,pos,aft,gd⟩::rest) acc S:=
 RT.value hg (aW x) [] [] s.av hd (by intro c h;cases h) (λS' ht _ _ E a w h=>by
  have hx':S'.ev x=.cmp .uB js:=by rw[bk (λ_ h=>h) ht,hx]
  have h1:=h.ev x;rw[hx']at h1;obtain⟨l1,l2⟩:=gE h.wf hx';obtain⟨vs,hv,hall⟩:=h1;have hv:a.eval x=.tuple ⟨vs⟩:=hv;obtain⟨u,hu,hs⟩:=hall.get hi;have hm:=List.mem_of_getElem? hi;refine⟨u,by simp[execOp,hv,Instr.extract,hu],?_,λj e=>?_,λj e=>?_⟩
  ·cases s<;>exact hs
  ·cases s with
   |val s=>exact e.elim
   |box k=>have e:j=k:=e;subst e;exact l1 j hm
   |row k=>exact e.elim
  cases s with
  |val s=>exact e.elim
  |box k=>exact e.elim
  |row k=>have e:j=k:=e;subst e;exact l2 j hm) next
def aaK(tp:Bool)(p:Value)(rs:List Value):Value:=bif tp then .tuple ⟨p::rs⟩else p
def EY(P:Program)(f:FuncId)(args:List SV)(tp:Bool)(rest:List SV)(T:TypeId)(c:List Oc):Prop:=
 ∀(M:Mem) (w:World) (vs:List Value),M.b8 w->SV.dj M args vs->
  Calls P f ⟨vs⟩ w λe w'=>∃β rs M' us,e=.returned (aaK tp (.pointer (some ⟨β,0,none⟩)) rs)/\M.le M'/\(∀b o x,M' b o=some x->M b o=some x\/w.heap.size<=b)/\M'.b8 w'/\SV.dj M' rest rs/\
   jV M' w' β T c us/\w.heap.size<=β/\(∀g,dW c us g->w.heap.size<=g)/\Below w.heap.size w w'
theorem Ba{w:World}{M:Mem}{S':AS}{E:Env}{a:Act}{w':World}{k:Nat}{ks:List Nat}{c:List Oc}(hB:S'.b k=some ⟨T,bC ks c⟩)(hL:Lv S' ks (rowsOf c))(hk:ks.Nodup)(hh:aY (yK w M) S' E a w'):
  ∃us,M.le E.M/\(∀b o x,E.M b o=some x->M b o=some x\/w.heap.size<=b)/\E.M.b8 w'/\jV E.M w' (E.β k) T c us/\w.heap.size<=E.β k/\(∀g,dW c us g->w.heap.size<=g)/\Below w.heap.size w w':=by
 obtain⟨us,ho,eT⟩:=ia hh hB hL hk;refine⟨us,hh.m0,λb o x e=>?_,hh.b8,ho,(hh.bx k _ hB).1.elim id (λh=>h.elim),λg hg=>?_,hh.os,hh.tape,hh.output,hh.grown,λk hk=>hh.frame k hk (λh=>h)⟩
 ·rcases hh.cV b o x e with h|h|h
  ·exact .inl h
  ·exact .inr h
  exact h.elim
 obtain⟨j,hj,pK⟩:=(eT g).1 hg;obtain⟨R,hR⟩:=hL.mem j hj;exact((hh.rx j R hR).2 g pK).1.elim id (λh=>h.elim)
theorem Bb{f:FuncId}{fn:Func}{code:Code}{args:List SV}{c:List Oc}(hf:P.funcs[f]? =some fn)(hb:fn.body=some code)(hn:args.length<=fn.ntmps)
  (h:∀(w:World) (M:Mem) (vs:List Value),SV.dj M args vs->Ok P (yK w M) code (AS.init fn.ntmps args) (λe S=>(e=.normal\/e=.ret)/\∃(k:Nat) (ks:List Nat),qJ P S fn.results.toList (.ptr k 0)/\S.b k=some ⟨T,bC ks c⟩/\Lv S ks (rowsOf c)/\ks.Nodup)):EY P f args false [] T c:=by
 intro M w vs hM hvs;refine ef Y hf hb (fH hM hvs hn) (h w M vs hvs) ?_;rintro S' E a w' ⟨k,ks,hr,hB,hL,hk⟩ hh;obtain⟨v,hv,hx⟩:=hr.run hh;obtain rfl:v=.pointer (some ⟨E.β k,0,none⟩):=hx;obtain⟨us,q1,q2,q3,q4,q5,q6,q7⟩:=Ba hB hL hk hh;exact⟨_,hv,E.β k,[],E.M,us,Y,q1,q2,q3,aq,q4,q5,q6,q7⟩
theorem Bc{f:FuncId}{fn:Func}{code:Code}{args:List SV}{s:SV}{c:List Oc}{t1 t2:Nat}(hf:P.funcs[f]? =some fn)(hb:fn.body=some code)(hn:args.length<=fn.ntmps)(hres:fn.results=#[.tmp t1,.tmp t2])
  (h:∀(w:World) (M:Mem) (vs:List Value),SV.dj M args vs->Ok P (yK w M) code (AS.init fn.ntmps args) (λe S=>(e=.normal\/e=.ret)/\∃(k:Nat) (ks:List Nat),S.t t1=.ptr k 0/\S.t t2=.sv s/\S.b k=some ⟨T,bC ks c⟩/\Lv S ks (rowsOf c)/\ks.Nodup)):EY P f args true [s] T c:=by
 intro M w vs hM hvs;refine ef Y hf hb (fH hM hvs hn) (h w M vs hvs) ?_;rintro S' E a w' ⟨k,ks,G0,Od,hB,hL,hk⟩ hh;have h1:=hh.tm t1;rw[G0]at h1;have h1:a.tmps.getD t1 undef=.pointer (some ⟨E.β k,0,none⟩):=h1;have h2:=hh.tm t2;rw[Od]at h2;obtain⟨us,q1,q2,q3,q4,q5,q6,q7⟩:=Ba hB hL hk hh;refine⟨.tuple #[.pointer (some ⟨E.β k,0,none⟩),a.tmps.getD t2 undef],?_,E.β k,[a.tmps.getD t2 undef],E.M,us,Y,q1,q2,q3,⟨h2,aq⟩,q4,q5,q6,q7⟩;rw[Array.getD_eq_getD_getElem?]at h1;simp[results,hres,h1]
theorem aY.zA{a:Act}{w:World}:∀(ks:List Nat) (l:List (Row×Value)) {S:AS} {E:Env},aY C S E a w->ks.length=l.length->ks.Nodup->Un S ks->(∀p∈l,∃vs:List Value,w.ownsRow 0 p.1.E p.1.sz p.2 p.1.n vs/\SV.dj E.M p.1.cells vs)->Ds l->(∀p∈l,∀g,p.2.ownBlock=some g->yL C S E g)->
  ∃E':Env,E'.M=E.M/\E'.β=E.β/\E'.O=E.O/\(∀i p,(i,p)∈ks.zip l->E'.ν i=p.2)/\(∀i,i∉ks->E'.ν i=E.ν i)/\aY C (AS.bz ((ks.zip l).map (λn=>(n.1,.live n.2.1))) S) E' a w
 |[],[],S,E,h,_,_,_,_,_,_=>⟨E,Y,Y,Y,λi p hm=>(by simp at hm),λ_ _=>Y,h⟩
 |k::ks,p::l,S,E,h,hl,hn,hu,ho,ha,hf=>by
  obtain⟨R,v⟩:=p;rw[List.nodup_cons]at hn;obtain⟨V9,ha2⟩:=List.pairwise_cons.1 ha;obtain⟨vs,CP,xP⟩:=ho (R,v) (by simp);have h1:=h.uY hu.1.1 hu.1.2 [] none (.inl ⟨Y,Y⟩) (R':=R) CP xP (λg hg=>.inr (hf (R,v) (by simp) g hg)) (kj w none);have hu':Un (AS.bz ([]++[(k,.live R)]) S) ks:=hu.2.congr (λj hj=>by
   show(AS.kX S k _).r j=_;exact AS.iy _ _ _ _ (λe=>hn.1 (e▸hj)))
  obtain⟨E',q1,q2,q3,q4,q5,q6⟩:=aY.zA ks l h1 (by simpa using hl) hn.2 hu' (λp hp=>ho p (List.mem_cons_of_mem _ hp)) ha2 (λp hp g hg=>by
   obtain⟨f1,f2,f3,f4,f5⟩:=hf p (List.mem_cons_of_mem _ hp) g hg;refine⟨f1,f2,f3,f4,λj R' jv e=>?_⟩;have jv:(AS.kX S k (.live R)).r j=.live R':=jv;by_cases ej:j=k
   ·subst ej;have e:(if j=j then v else E.ν j).ownBlock=some g:=e;rw[if_pos rfl]at e;exact V9 p hp g e hg
   rw[AS.iy _ _ _ _ ej]at jv;have e:(if j=k then v else E.ν j).ownBlock=some g:=e;rw[if_neg ej]at e;exact f5 j R' jv e)
  refine⟨E',q1,q2,q3,λi p hm=>?_,λi hi=>?_,q6⟩
  ·rw[List.zip_cons_cons]at hm;rcases List.mem_cons.1 hm with e|e
   ·cases e;rw[q5 k hn.1];show(if k=k then v else E.ν k)=v;rw[if_pos rfl]
   exact q4 i p e
  rw[q5 i (λhm=>hi (List.mem_cons_of_mem _ hm))];show(if i=k then v else E.ν i)=E.ν i;rw[if_neg (λe=>hi (by rw[e];simp))]
 |[],_::_,_,_,_,hl,_,_,_,_,_=>by simp at hl
 |_::_,[],_,_,_,hl,_,_,_,_,_=>by simp at hl
theorem qf(i:Nat)(B:ju):∀(l:List (Nat×ir)) (S:AS),AS.bz l (S.gP i B)=(AS.bz l S).gP i B
 |[],_=>rfl
 |(j,R)::l,S=>qf i B l (S.kX j R)
theorem jE{α β:Type}:∀{l:List α} {k:List β} {a:α},l.length=k.length->a∈l->∃b,(a,b)∈l.zip k
 |a::l,c::k,b,h,hb=>by
  rcases List.mem_cons.1 hb with rfl|hb
  ·exact⟨c,by rw[List.zip_cons_cons];simp⟩
  obtain⟨a',h'⟩:=jE (l:=l) (k:=k) (by simpa using h) hb;exact⟨a',by rw[List.zip_cons_cons];exact List.mem_cons_of_mem _ h'⟩
 |[],_,_,_,hb=>by cases hb
 |_::_,[],_,h,_=>by simp at h
theorem aY.newObj{E:Env}{a:Act}{w w':World}(h:aY C S E a w){i:Nat}(hi:S.b i=none)(hp:C.ey i=none){ks:List Nat}{c:List Oc}{us:List Value}{M':Mem}{β:Nat}(hks:ks.Nodup)(oS:ks.length=(rowsOf c).length)(EW:Un S ks)
  (hM:E.M.le M') (hn:∀b o x,M' b o=some x->E.M b o=some x\/w.heap.size<=b) (hin:M'.b8 w') (ho:jV M' w' β T c us) (hβ:w.heap.size<=β) (hg:∀g,dW c us g->w.heap.size<=g) (MQ:Below w.heap.size w w'):
  ∃E':Env,E'.M=M'/\E'.β i=β/\aY C (AS.bz (k8 [] ks c) (AS.dA [(i,⟨T,bC ks c⟩)] S)) E' a w':=by
 have La:(bD c us).length=(rowsOf c).length:=by rw[<-dO ho.al,List.length_map]
 have h0:=h.grow hM hn hin MQ;obtain⟨E1,q1,q2,q3,q4,q5,h1⟩:=aY.zA ks (bD c us) h0 (by omega) hks EW (iB ho.al) ho.ap (λp hp g xH=>h.mg (hg g ⟨p,hp,xH⟩) (ho.nr g ⟨p,hp,xH⟩).2);have hS1:AS.bz ((ks.zip (bD c us)).map (λn=>(n.1,.live n.2.1))) S=AS.bz (k8 [] ks c) S:=by rw[<-wI ho.al [] ks];rfl
 rw[hS1]at h1;obtain⟨f1,f2,f3,f4,f5⟩:=h.mg (M':=M') hβ ho.nb;have Rl:(AS.bz (k8 [] ks c) S).b i=none:=by rw[(cW _ _).2.2.1];exact hi
 have hfree:yL C (AS.bz (k8 [] ks c) S) E1 β:=by
  refine⟨f1,by rw[q1];exact f2,by rw[q3];exact f3,λj B hB=>?_,λj R hR e=>?_⟩
  ·rw[(cW _ _).2.2.1]at hB;rw[q2];exact f4 j B hB
  by_cases hj:j∈ks
  ·obtain⟨p,hm⟩:=jE (l:=ks) (k:=bD c us) (by omega) hj;rw[q4 j p hm]at e;exact(ho.nr β ⟨p,(fg hm).2,e⟩).1 Y
  rw[gh,mH (λR hm=>by
   obtain⟨x,hx,e⟩:=List.mem_map.1 (show(j,R)∈(ks.zip (rowsOf c)).map (λp=>(p.1,ir.live p.2))from hm);obtain⟨k,R2⟩:=x;have e:k=j:=congrArg Prod.fst e;exact hj (e▸(fg hx).1))]at hR
  rw[q5 j hj]at e;exact f5 j R hR e
 have h2:=h1.yP Rl hp hfree ho.hp (jo (w:=w') oS (by rw[q1];exact ho.al) q4) (λx hx=>by
  obtain⟨p1,p2⟩:=jD x hx;refine⟨λj e=>absurd e (p1 j),λj e=>?_⟩;obtain⟨R,hm⟩:=jE (l:=ks) (k:=rowsOf c) oS (p2 j e);obtain⟨R',jv⟩:=rD (l:=k8 [] ks c) (j:=j) (R:=.live R) (List.mem_map.2 ⟨(j,R),hm,Y⟩);rw[gh,jv];obtain⟨x,hx,e⟩:=List.mem_map.1 (show(j,R')∈(ks.zip (rowsOf c)).map (λp=>(p.1,ir.live p.2))from mI jv);rw[<-show ir.live x.2=R' from congrArg Prod.snd e];simp)
 refine⟨{E1 with β:=λj=>if j=i then β else E1.β j},q1,?_,?_⟩
 rotate_left 1
 ·rw[show AS.dA [(i,(⟨T,bC ks c⟩:ju))] S=S.gP i ⟨T,bC ks c⟩from Y,qf];exact h2
 show(if i=i then β else E1.β i)=β;rw[if_pos rfl]
theorem RT.G1(hg:Gd ops S gd rg){f:FuncId}[dX P f]{g:Operand}{xs:Array Operand}{at_:Array TypeId}{args:List SV}{T:TypeId}{c:List Oc}(hp:EY P f args false [] T c)(ks:List Nat)(hks:ks.Nodup)(oS:ks.length=(rowsOf c).length)(EW:Un S ks)(hf:S.ev g=.sv (.v (.func (.func f) #[] #[])))(hargs:fD S xs.toList args)(hd:d<S.n)(hdb:S.b d=none)(vQ:C.ey d=none)
  (next:RunT P C ops nd K rest (⟨rg++(aW g++xs.toList.flatMap aW),[d],ks,⟨some (d,.ptr d 0),[(d,⟨T,bC ks c⟩)],k8 [] ks c⟩⟩::acc) ((AS.bz (k8 [] ks c) (AS.dA [(d,⟨T,bC ks c⟩)] S)).set d (.ptr d 0))):RunT P C ops nd K (⟨some d,.call ⟨.value g,xs,at_⟩,ty,pos,aft,gd⟩::rest) acc S:=by
 refine .inl ⟨_,[d],ks,_,?_,next⟩;rintro S' hn ht hb hr i a w L Q ho ⟨E,h⟩ hL;refine bO (C:=C) ho (hg.wanted h (λs hs=>ht s (List.mem_append_left _ hs)) Y) ?_;have nx:a.eval g=.func (.func f) #[] ⟨[]⟩:=by
  have h1:=h.ev g;rw[bk (λ_ h=>List.mem_append_right _ (List.mem_append_left _ h)) ht,hf]at h1;exact h1
 have hall:=fD.vals h hargs (λs hs=>ht s (List.mem_append_right _ (List.mem_append_right _ hs)));have hdn:S'.b d=none:=by rw[hb d (by simp)];exact hdb
 refine bP (C:=C) (by intro c h;cases h) (gY nx) ?_;rw[List.append_nil];refine⟨λh=>by simp at h,dV ((hp E.M w _ h.b8 hall).mono ?_)⟩;rintro e w' ⟨β,rs,M',us,rfl,hM,hnew,hin,Lc,xP,hβ,Iw,MQ⟩;obtain⟨E',e1,e2,h1⟩:=h.newObj hdn vQ hks oS (EW.congr hr) hM hnew hin xP hβ Iw MQ;refine hL _ _ ⟨_,h1.put (x:=.ptr d 0) (v:=.pointer (some ⟨β,0,none⟩)) (by show _=Value.pointer (some ⟨E'.β d,0,none⟩);rw[e2]) ?_ ⟨λj e=>?_,λj e=>e.elim⟩⟩
 ·rw[(cW _ _).1];show d<S'.n;omega
 have e:j=d:=e;subst e;rw[(cW _ _).2.2.1];exact⟨_,AS.cj _ _ _⟩
theorem RT.Dv(hg:Gd ops S gd rg){f:FuncId}[dX P f]{g:Operand}{xs:Array Operand}{at_:Array TypeId}{args:List SV}{T:TypeId}{c:List Oc}{s:SV}(hp:EY P f args true [s] T c)(ks:List Nat)(hks:ks.Nodup)(oS:ks.length=(rowsOf c).length)(EW:Un S ks)(hf:S.ev g=.sv (.v (.func (.func f) #[] #[])))(hargs:fD S xs.toList args)(hd:d<S.n)(hdb:S.b d=none)(vQ:C.ey d=none)
  (next:RunT P C ops nd K rest (⟨rg++(aW g++xs.toList.flatMap aW),[d],ks,⟨some (d,.cmp .uB [.box d,.val s]),[(d,⟨T,bC ks c⟩)],k8 [] ks c⟩⟩::acc) ((AS.bz (k8 [] ks c) (AS.dA [(d,⟨T,bC ks c⟩)] S)).set d (.cmp .uB [.box d,.val s]))):RunT P C ops nd K (⟨some d,.call ⟨.value g,xs,at_⟩,ty,pos,aft,gd⟩::rest) acc S:=by
 refine .inl ⟨_,[d],ks,_,?_,next⟩;rintro S' hn ht hb hr i a w L Q ho ⟨E,h⟩ hL;refine bO (C:=C) ho (hg.wanted h (λs hs=>ht s (List.mem_append_left _ hs)) Y) ?_;have nx:a.eval g=.func (.func f) #[] ⟨[]⟩:=by
  have h1:=h.ev g;rw[bk (λ_ h=>List.mem_append_right _ (List.mem_append_left _ h)) ht,hf]at h1;exact h1
 have hall:=fD.vals h hargs (λs hs=>ht s (List.mem_append_right _ (List.mem_append_right _ hs)));have hdn:S'.b d=none:=by rw[hb d (by simp)];exact hdb
 refine bP (C:=C) (by intro c h;cases h) (gY nx) ?_;rw[List.append_nil];refine⟨λh=>by simp at h,dV ((hp E.M w _ h.b8 hall).mono ?_)⟩;rintro e w' ⟨β,rs,M',us,rfl,hM,hnew,hin,Lc,xP,hβ,Iw,MQ⟩;obtain⟨E',e1,e2,h1⟩:=h.newObj hdn vQ hks oS (EW.congr hr) hM hnew hin xP hβ Iw MQ
 match rs,Lc with
 |[r],Lc=>
  refine hL _ _ ⟨_,h1.put (x:=.cmp .uB [.box d,.val s]) (v:=.tuple #[.pointer (some ⟨β,0,none⟩),r]) ⟨[.pointer (some ⟨β,0,none⟩),r],Y,by show _=Value.pointer (some ⟨E'.β d,0,none⟩);rw[e2],by show s.h E'.M r;rw[e1];exact Lc.1,aq⟩ ?_ ⟨λj e=>?_,λj e=>?_⟩⟩
  ·rw[(cW _ _).1];show d<S'.n;omega
  ·have e:j=d:=by simpa[AV.mb]using e
   subst e;rw[(cW _ _).2.2.1];exact⟨_,AS.cj _ _ _⟩
  simp[AV.mr]at e
end steps
end
section
open Go.RowKit
def zB(P:Program)(f:FuncId)(args:List AV)(T:TypeId)(c:List Oc)(res:SV):Prop:=
 ∀(M:Mem) (w:World) (β:Nat) (vs us:List Value),M.b8 w->jV M w β T c us->cc (mJ M β) args vs->
  Calls P f ⟨vs⟩ w λe w'=>∃v M',e=.returned v/\M.le M'/\(∀b o x,M' b o=some x->M b o=some x\/w.heap.size<=b)/\M'.b8 w'/\res.h M' v/\
   jV M' w' β T c us/\w'.os=w.os/\w'.tape=w.tape/\w'.output=w.output/\w.heap.size<=w'.heap.size/\∀k,k<w.heap.size->k≠β->¬dW c us k->w'.heap[k]? =w.heap[k]?
def PB:List (Nat×Row×Value)->Nat->Option Value
 |[],_=>none
 |(k,_,v)::l,j=>if j=k then some v else PB l j
theorem vk:∀{l:List (Nat×Row×Value)} {j:Nat} {v:Value},PB l j=some v->∃R,(j,R,v)∈l
 |(k,R,u)::l,j,v,h=>by
  rw[PB]at h;by_cases e:j=k
  ·rw[if_pos e]at h;cases h;subst e;exact⟨R,by simp⟩
  rw[if_neg e]at h;obtain⟨R',hm⟩:=vk h;exact⟨R',List.mem_cons_of_mem _ hm⟩
 |[],_,_,h=>by cases h
theorem CQ:∀{l:List (Nat×Row×Value)} {j:Nat} {R:Row} {v:Value},(l.map (·.1)).Nodup->(j,R,v)∈l->PB l j=some v
 |(k,R',v')::l,j,R,v,hn,h=>by
  rw[List.map_cons,List.nodup_cons]at hn;rw[PB];rcases List.mem_cons.1 h with e|e
  ·cases e;rw[if_pos rfl]
  have:j≠k:=λq=>hn.1 (List.mem_map.2 ⟨(j,R,v),e,q⟩);rw[if_neg this];exact CQ hn.2 e
theorem Oe{ids:List Nat}(h:(ids.all λi=>Nat.ble 1000 i)=true):∀i∈ids,1000<=i:=λi hi=>af (List.all_eq_true.1 h i hi)
def Bd(w:World)(M:Mem)(β:Nat)(c:List Oc)(us:List Value)(ids:List Nat)(r9:(ids.all λi=>Nat.ble 1000 i)=true):Ctx:={w0:=w,M0:=M,own:=λk=>k=β\/dW c us k,nm:=λk=>k=β\/dW c us k,ey:=λi=>bif Nat.beq i 1000 then some β else none,cQ:=PB (ids.zip (bD c us)),ro:=none,J:=λ_ _ _ _ _=>True,w6:=λ_ h=>h,C2:=λ_ _ h=>(by obtain⟨R,hm⟩:=vk h;exact Oe r9 _ (fg hm).1),jf:=λ_ _ _ _ _ _ _ _ _ _ _ _ _ _ _ _=>trivial}
def Oc.cst:Oc->Prop
 |.s x=>∃v,x=.v v
 |.r _=>True
def sQ:List Oc->Prop
 |[]=>True
 |c::l=>c.cst/\sQ l
theorem vm{M M':Mem}{w w':World}:∀{c:List Oc} {us us':List Value},sQ c->nW M w c us->nW M' w' c us'->bD c us=bD c us'->us=us'
 |[],[],[],_,_,_,_=>rfl
 |.s x::l,v::vs,v'::vs',hc,h,h',e=>by
  obtain⟨y,rfl⟩:=hc.1;have e1:v=y:=h.1;have e2:v'=y:=h'.1;rw[e1,e2,vm hc.2 h.2 h'.2 e]
 |.r R::l,v::vs,v'::vs',hc,h,h',e=>by
  rw[bD,bD]at e;have e1:=(List.cons.inj e).1;have e2:=(List.cons.inj e).2;rw[vm hc.2 h.2 h'.2 e2];rw[(Prod.mk.inj e1).2]
 |[],[],_::_,_,_,h,_=>h.elim
 |[],_::_,_,_,h,_,_=>h.elim
 |.s _::_,[],_,_,h,_,_=>h.elim
 |.r _::_,[],_,_,h,_,_=>h.elim
 |.s _::_,_::_,[],_,_,h,_=>h.elim
 |.r _::_,_::_,[],_,_,h,_=>h.elim
theorem jq{P:Program}{f:FuncId}{fn:Func}{code:Code}{args:List AV}{T:TypeId}{c:List Oc}{res:SV}(ids:List Nat)(hf:P.funcs[f]? =some fn)(hb:fn.body=some code)(hn:args.length<=fn.ntmps)(xd:args.all AV.oy=true)(r9:ids.Nodup)(Fu:ids.length=(rowsOf c).length)(hge:(ids.all λi=>Nat.ble 1000 i)=true)(CR:sQ c)
  (h:∀(w:World) (M:Mem) (β:Nat) (us:List Value),Ok P (Bd w M β c us ids hge) code (AS.uE fn.ntmps args [(1000,⟨T,bC ids c⟩)] (ids.zip (rowsOf c))) (λe S=>(e=.normal\/e=.ret)/\Fl P S fn.results.toList res/\S.b 1000=some ⟨T,bC ids c⟩/\Lv S ids (rowsOf c))):zB P f args T c res:=by
 intro M w β vs us hM ho hv;have La:(bD c us).length=(rowsOf c).length:=by rw[<-dO ho.al,List.length_map]
 have hnd:((ids.zip (bD c us)).map (·.1)).Nodup:=by rw[rE (by omega)];exact r9
 have Ci:aY (Bd w M β c us ids hge) (AS.uE fn.ntmps args [(1000,⟨T,bC ids c⟩)] (ids.zip (rowsOf c))) ⟨λ_=>β,hG (ids.zip (bD c us)) (λ_=>.nilIface),λ_=>False,M⟩ {tmps:=⟨vs⟩++Array.replicate (fn.ntmps-(⟨vs⟩:Array Value).size) undef,defers:=[]} w:=by
  have h0:=zy (n:=fn.ntmps) ids hM ho hv xd hn r9 Fu
  exact{wf:=h0.wf,marks:=h0.marks,size:=h0.size,os:=h0.os,tape:=h0.tape,output:=h0.output,grown:=h0.grown,frame:=h0.frame,m0:=h0.m0,cV:=h0.cV,b8:=h0.b8,tm:=h0.tm,bx:=h0.bx,inj:=h0.inj,rx:=h0.rx,dw:=h0.dw,ey:=h0.ey,cQ:=λi v e=>(by
   obtain⟨R,hm⟩:=vk e
   exact fy hnd hm),gD:=h0.gD,jj:=trivial}
 refine ef Y hf hb Ci (h w M β us) ?_;rintro S' E a w' ⟨hr,hB,hL⟩ hh;obtain⟨v,hv,hx⟩:=(qJ.sv hr).run hh;have hβ:E.β 1000=β:=hh.ey 1000 β Y;obtain⟨us',ho',eT⟩:=ia hh hB hL r9;rw[hβ]at ho';obtain⟨_,_,_,Ek,q2,q3⟩:=hh.bx 1000 _ hB;rw[hβ,ho'.hp]at q2;obtain rfl:us'=Ek:=by
  have:=Option.some.inj q2;injection this with e
  injection e
 obtain⟨_,Of⟩:=lI hh hL q3;have gN:bD c us=bD c us':=by
  rw[Of];have key:∀(ids:List Nat) (l:List (Row×Value)) (Rs:List Row),ids.length=l.length->l.map (·.1)=Rs->(∀i R v,(i,R,v)∈ids.zip l->E.ν i=v)->l=Rs.zip (ids.map E.ν):=by
   intro ids
   induction ids with
   |nil=>intro l Rs hl hm _;cases l with|nil=>cases hm;rfl|cons _ _=>simp at hl
   |cons i ids ih=>
    intro l Rs hl hm hν;cases l with
    |nil=>simp at hl
    |cons p l=>
     cases hm;obtain⟨R,v⟩:=p;rw[List.map_cons,List.map_cons,List.zip_cons_cons,hν i R v (by rw[List.zip_cons_cons];simp),<-ih l _ (by simpa using hl) Y (λi R v hm=>hν i R v (by rw[List.zip_cons_cons];exact List.mem_cons_of_mem _ hm))]
  exact key ids _ _ (by omega) (dO ho.al) (λi R v hm=>hh.cQ i v (CQ hnd hm))
 obtain rfl:us=us':=vm CR ho.al ho'.al gN;refine⟨v,hv,v,E.M,Y,hh.m0,λb o x e=>?_,hh.b8,hx,ho',hh.os,hh.tape,hh.output,hh.grown,λk hk hne hno=>hh.frame k hk (λe=>e.elim hne hno)⟩;rcases hh.cV b o x e with q|q|q|q
 ·exact .inl q
 ·exact .inr q
 ·rw[show b=β from q,ho'.nb o]at e;cases e
 rw[(ho'.nr b q).2 o]at e;cases e
section steps
variable {P:Program}{C:Ctx}{ops:Array Oper}{S:AS}{nd:Bool}{K:List Ac->AS->Prop}{rest:List Oper}{acc:List Ac}
variable {gd:Option (Nat×Bool)}{rg:List Nat}{d:Nat}{ty:TypeId}{pos:String}{aft:Array Edge}{x y z:Operand}{T U E0:TypeId}
theorem aY.vn{E:Env}{a:Act}{w w':World}(h:aY C S E a w){i:Nat}{js:List Nat}{c:List Oc}{us:List Value}{M':Mem}(hB:S.b i=some ⟨T,bC js c⟩)(hL:Lv S js (rowsOf c))(Dt:js.Nodup)(vB:jV E.M w (E.β i) T c us)
  (hM:E.M.le M') (hn:∀b o x,M' b o=some x->E.M b o=some x\/w.heap.size<=b) (hin:M'.b8 w') (ho:jV M' w' (E.β i) T c us)
  (hos:w'.os=w.os) (hH:w'.tape=w.tape) (hout:w'.output=w.output) (hsize:w.heap.size<=w'.heap.size) (eT:∀k,k<w.heap.size->k≠E.β i->¬dW c us k->w'.heap[k]? =w.heap[k]?):
  aY C S {E with M:=M'} a w':=by
 obtain⟨ET,aaE,Jw,Iy,EU,Rm⟩:=h.bx i _ hB;obtain rfl:Iy=us:=by
  rw[vB.hp]at EU;have:=Option.some.inj EU;injection this with e
  injection e with e
  exact e.symm
 obtain⟨_,La⟩:=lI h hL Rm;have hlen:=hL.len;have yM:∀g,dW c Iy g↔∃j∈js,(E.ν j).ownBlock=some g:=λg=>by
  unfold dW;rw[La];constructor
  ·rintro⟨⟨R,v⟩,hm,hg⟩;obtain⟨j,hj,rfl⟩:=List.mem_map.1 (fg hm).2;exact⟨j,hj,hg⟩
  rintro⟨j,hj,hg⟩;obtain⟨R,hR⟩:=nX (l:=rowsOf c) (k:=js.map E.ν) (by simp[hlen]) (List.mem_map.2 ⟨j,hj,Y⟩);exact⟨(R,E.ν j),hR,hg⟩
 have sO:∀g,dW c Iy g->(C.w0.heap.size<=g\/C.nm g)/\¬E.O g/\(∀n B,S.b n=some B->E.β n≠g)/\∃c e,w.heap[g]? =some (Obj.cells c e (0,0)):=λg hg=>by
  obtain⟨j,hj,pK⟩:=(yM g).1 hg;obtain⟨R,hR⟩:=hL.mem j hj;obtain⟨⟨us,q1,_⟩,q2⟩:=h.rx j R hR;obtain⟨q3,q4,q5,q6⟩:=q2 g pK;refine⟨q3,q5,q6,?_⟩;rcases q1.2 with⟨q7,_⟩|⟨g',cap,cur,q7,_,q8,_⟩
  ·rw[q7]at pK;cases pK
  rw[q7]at pK;cases pK;exact⟨_,_,q8⟩
 have keep:∀x:AV,∀v,x.holds E v->x.holds {E with M:=M'} v:=λx v hv=>AV.bY (E:=E) (E':={E with M:=M'}) hM (λ_ _=>rfl) (λ_ _=>rfl) hv;have N9:∀b,b<w.heap.size->(∀o,E.M b o=none)->∀o,M' b o=none:=λb h1 h2 o=>by
  cases e:M' b o with
  |none=>rfl
  |some v=>
   rcases hn b o v e with q|q
   ·rw[h2 o]at q;cases q
   omega
 exact{
  wf:=h.wf
  marks:=by
   obtain⟨ds,d1,d2,d3⟩:=h.marks;refine⟨ds,d1,d2,λr hr=>?_⟩;obtain⟨p1,p2,p3⟩:=d3 r hr;refine⟨p1,p2,?_⟩;rw[eT r (Array.getElem?_eq_some_iff.1 p3).1 (λe=>by rw[e,EU]at p3;cases p3) (λe=>by
    obtain⟨_,_,_,c,e2,q⟩:=sO r e;rw[q]at p3;cases p3)]
   exact p3
  size:=h.size
  os:=hos.trans h.os
  tape:=hH.trans h.tape
  output:=hout.trans h.output
  grown:=Nat.le_trans h.grown hsize
  frame:=λk hk hown=>by
   rw[eT k (Nat.lt_of_lt_of_le hk h.grown) (λe=>by
    rcases ET with q|q
    ·omega
    ·exact hown (C.w6 _ (by rw[e];exact q))) (λe=>by
    rcases(sO k e).1 with q|q
    ·omega
    exact hown (C.w6 _ q))]
   exact h.frame k hk hown
  m0:=Mem.le_trans h.m0 hM
  cV:=λb o v e=>by
   rcases hn b o v e with q|q
   ·exact h.cV b o v q
   exact .inr (.inl (Nat.le_trans h.grown q))
  b8:=hin
  tm:=λs=>keep _ _ (h.tm s)
  bx:=λj B dK=>by
   obtain⟨p1,p2,p3,vs,p4,p5⟩:=h.bx j B dK;have hlt:=(Array.getElem?_eq_some_iff.1 p4).1;by_cases e:j=i
   ·subst e;rw[hB]at dK;cases dK;refine⟨p1,ho.nb,p3,Iy,ho.hp,?_⟩;exact Rm.imp (λx _ v hv=>keep x v hv)
   refine⟨p1,N9 _ hlt p2,p3,vs,?_,p5.imp (λx _ v hv=>keep x v hv)⟩;show w'.heap[E.β j]? =_;rw[eT _ hlt (λq=>e (h.inj j i B _ dK hB q)) (λq=>(sO _ q).2.2.1 j B dK Y)];exact p4
  inj:=h.inj
  rx:=λj R hR=>by
   obtain⟨⟨vs,p1,p2⟩,p3⟩:=h.rx j R hR;by_cases hj:j∈js
   ·have hz:(R,E.ν j)∈bD c Iy:=by
     rw[La];have key:∀(js:List Nat) (Rs:List Row),Lv S js Rs->j∈js->(R,E.ν j)∈Rs.zip (js.map E.ν):=by
      intro js
      induction js with
      |nil=>intro _ _ h;cases h
      |cons k js ih=>
       intro Rs hl hm;cases Rs with
       |nil=>exact hl.elim
       |cons R' Rs=>
        rw[List.map_cons,List.zip_cons_cons];rcases List.mem_cons.1 hm with q|q
        ·subst q;have:=hl.1;rw[hR]at this;cases this;simp
        exact List.mem_cons_of_mem _ (ih Rs hl.2 q)
     exact key js _ hL hj
    refine⟨iB ho.al _ hz,λg hg=>?_⟩;obtain⟨p4,p5,p6,p7⟩:=p3 g hg;exact⟨p4,(ho.nr g ⟨_,hz,hg⟩).2,p6,p7⟩
   have Rk:∀g,(E.ν j).ownBlock=some g->¬dW c Iy g:=λg hg q=>by
    obtain⟨j',hj',e⟩:=(yM g).1 q;obtain⟨R',jv⟩:=hL.mem j' hj';have:=h.dw j j' R R' hR jv g hg e;subst this;exact hj hj'
   refine⟨⟨vs,cx p1 λg hg=>eT g (gi h hR hg) (λe=>(p3 g hg).2.2.2 i _ hB e.symm) (Rk g hg),p2.mono hM⟩,λg hg=>?_⟩;obtain⟨p4,p5,p6,p7⟩:=p3 g hg;exact⟨p4,N9 g (gi h hR hg) p5,p6,p7⟩
  dw:=h.dw
  ey:=h.ey
  cQ:=h.cQ
  gD:=λb hb=>by
   obtain⟨p1,p2,p3⟩:=h.gD b hb;exact⟨Nat.lt_of_lt_of_le p1 hsize,N9 b p1 p2,p3⟩
  jj:=C.jf S.g S.go E.O E.M M' w w' h.jj hM hin (λb o v e=>by
    rcases hn b o v e with q|q
    ·exact .inl q
    ·exact .inr ⟨.inl (Nat.le_trans h.grown q),λq2=>by have:=(h.gD b q2).1;omega⟩) (λb hb=>by
    have hb':b<w.heap.size:=by
     rcases hb with⟨q,_⟩|q
     ·exact Nat.lt_of_lt_of_le q h.grown
     exact(h.gD b q).1
    refine eT b hb' (λe=>?_) (λe=>?_)
    ·subst e;rcases hb with⟨q1,q2⟩|q
     ·rcases ET with p|p
      ·omega
      exact q2 p
     exact Jw q
    obtain⟨o1,o3,_⟩:=sO b e;rcases hb with⟨q1,q2⟩|q
    ·rcases o1 with p|p
     ·omega
     exact q2 p
    exact o3 q) hos hH hout hsize}
theorem RT.jM(hg:Gd ops S gd rg){f:FuncId}[dX P f]{g:Operand}{xs:Array Operand}{at_:Array TypeId}{args:List AV}{T:TypeId}{c:List Oc}{res:SV}(hp:zB P f args T c res)(i:Nat)(js:List Nat)(hB:S.b i=some ⟨T,bC js c⟩)(hL:Lv S js (rowsOf c))(Dt:js.Nodup)
  (xd:args.all AV.oy=true) (hf:S.ev g=.sv (.v (.func (.func f) #[] #[]))) (hargs:me S xs.toList (args.map (AV.Iv i))) (hd:d<S.n)
  (next:RunT P C ops nd K rest (⟨rg++(aW g++xs.toList.flatMap aW),[i],js,⟨some (d,.sv res),[],[]⟩⟩::acc) (S.set d (.sv res))):RunT P C ops nd K (⟨some d,.call ⟨.value g,xs,at_⟩,ty,pos,aft,gd⟩::rest) acc S:=by
 refine .inl ⟨_,[i],js,_,?_,next⟩;rintro S' hn ht hb hr k a w L Q ho ⟨E,h⟩ Jy;refine bO (C:=C) ho (hg.wanted h (λs hs=>ht s (List.mem_append_left _ hs)) Y) ?_;have nx:a.eval g=.func (.func f) #[] ⟨[]⟩:=by
  have h1:=h.ev g;rw[bk (λ_ h=>List.mem_append_right _ (List.mem_append_left _ h)) ht,hf]at h1;exact h1
 have hall:=oB xd (me.vals h hargs (λs hs=>ht s (List.mem_append_right _ (List.mem_append_right _ hs))));have dK:S'.b i=some ⟨T,bC js c⟩:=by rw[hb i (by simp)];exact hB
 have Du:Lv S' js (rowsOf c):=hL.congr (λk hk=>hr k hk);obtain⟨us,CP,rG⟩:=ia h dK Du Dt;refine bP (C:=C) (by intro c h;cases h) (gY nx) ?_;rw[List.append_nil];refine⟨λh=>by simp at h,dV ((hp E.M w (E.β i) _ us h.b8 CP hall).mono ?_)⟩;rintro e w' ⟨v,M',rfl,hM,hnew,hin,hv,xP,hos,hH,hout,hsize,eT⟩;have h1:=h.vn dK Du Dt CP hM hnew hin xP hos hH hout hsize eT;exact Jy _ _ ⟨_,h1.put (x:=.sv res) (v:=v) hv (by show d<S'.n;omega) dD⟩
theorem RT.JA(hg:Gd ops S gd rg){f:FuncId}[dX P f]{g:Operand}{xs:Array Operand}{at_:Array TypeId}{args:List AV}{T:TypeId}{c:List Oc}{res:SV}(hp:zB P f (.ptr 1000 0::args) T c res)(i:Nat)(js:List Nat)(hB:S.b i=some ⟨T,bC js c⟩)(hL:Lv S js (rowsOf c))(Dt:js.Nodup)
  (xd:args.all AV.oy=true) (hf:S.ev g=.cmp (.Pc f) [.box i]) (hargs:me S xs.toList (args.map (AV.Iv i))) (hd:d<S.n)
  (next:RunT P C ops nd K rest (⟨rg++(aW g++xs.toList.flatMap aW),[i],js,⟨some (d,.sv res),[],[]⟩⟩::acc) (S.set d (.sv res))):RunT P C ops nd K (⟨some d,.call ⟨.value g,xs,at_⟩,ty,pos,aft,gd⟩::rest) acc S:=by
 refine .inl ⟨_,[i],js,_,?_,next⟩;rintro S' hn ht hb hr k a w L Q ho ⟨E,h⟩ Jy;refine bO (C:=C) ho (hg.wanted h (λs hs=>ht s (List.mem_append_left _ hs)) Y) ?_;have nx:a.eval g=.func (.func f) ⟨[.pointer (some ⟨E.β i,0,none⟩)]⟩ #[]:=by
  have h1:=h.ev g;rw[bk (λ_ h=>List.mem_append_right _ (List.mem_append_left _ h)) ht,hf]at h1;obtain⟨vs,h2,h3⟩:=h1;cases vs with
  |nil=>exact h3.elim
  |cons v vs=>
   cases vs with
   |cons _ _=>exact h3.2.elim
   |nil=>rw[h2,show v=_ from h3.1];rfl
 have hall:cc (mJ E.M (E.β i)) (.ptr 1000 0::args) (.pointer (some ⟨E.β i,0,none⟩)::xs.toList.map a.eval):=⟨Y,oB xd (me.vals h hargs (λs hs=>ht s (List.mem_append_right _ (List.mem_append_right _ hs))))⟩;have dK:S'.b i=some ⟨T,bC js c⟩:=by rw[hb i (by simp)];exact hB
 have Du:Lv S' js (rowsOf c):=hL.congr (λk hk=>hr k hk);obtain⟨us,CP,rG⟩:=ia h dK Du Dt;refine bP (C:=C) (by intro c h;cases h) (EX nx) ?_;refine⟨λh=>by simp at h,dV ((hp E.M w (E.β i) _ us h.b8 CP hall).mono ?_)⟩;rintro e w' ⟨v,M',rfl,hM,hnew,hin,hv,xP,hos,hH,hout,hsize,eT⟩;have h1:=h.vn dK Du Dt CP hM hnew hin xP hos hH hout hsize eT;exact Jy _ _ ⟨_,h1.put (x:=.sv res) (v:=v) hv (by show d<S'.n;omega) dD⟩
end steps
end
end Go.Fw
namespace Go.Proofs.Ytmiflmkdaeianaa
section
open Go.Fw
noncomputable def dY(x0:Qr):Option (Zr):=match x0 with|⟨⟨bT,bN⟩,⟨gZ,iJ⟩⟩=>(iA 1 2).bind λ⟨⟨⟨wF,wG⟩,⟨G2,G3⟩⟩,aaM⟩=>(iT ⟨⟨bT,bN⟩,⟨gZ,iJ⟩⟩).bind λ⟨kQ,kR⟩=>(bp 1).bind λ⟨kS,kT⟩=>(da ⟨kQ,kR⟩ ⟨kS,kT⟩).bind λ⟨G4,G5⟩=>(c7 ⟨kQ,kR⟩).bind λ⟨⟨yd,Dw⟩,⟨Dx,ye⟩⟩=>(jm ⟨⟨bT,bN⟩,⟨gZ,iJ⟩⟩ ⟨⟨yd,Dw⟩,⟨Dx,ye⟩⟩).bind λ⟨⟨ua,uc⟩,⟨ud,yf⟩⟩=>(jn ⟨⟨ua,uc⟩,⟨ud,yf⟩⟩ ⟨⟨wF,wG⟩,⟨G2,G3⟩⟩).bind λfe=>(some (decide ((fe:Int)=(-1)))).bind λjH=>(bif jH then some ⟨kQ,kR⟩else(some (decide ((fe:Int)=1))).bind λiu=>(bif iu then some ⟨G4,G5⟩else(bp 2).bind λ⟨ic,pq⟩=>(cm ⟨kQ,kR⟩ ⟨ic,pq⟩).bind λ⟨⟨Og,Oh⟩,⟨G7,He⟩,aaN⟩=>(cA ⟨G7,He⟩).bind λmZ=>(some (decide ((mZ:Int)=0))).bind λou=>(bif ou then some ⟨kQ,kR⟩else some ⟨G4,G5⟩)))
noncomputable def jr(x0:Int):Option (Int×(List En)):=di (λ(Oi:Bool)=>(bif Oi then none else some (x0,[]))) λK3=>(some (decide ((x0:Int)<1))).bind λx5=>(bif x5 then some true else(some (decide ((64:Int)<x0))).bind λx8=>some x8).bind λRn=>K3 Rn
noncomputable def cf(o0:Int)(o1:List En):Option (Bool):=di (λ(Hf:Bool)=>some Hf) λK3=>(bif false then none else(some (decide ((o0:Int)=0))).bind λfU=>some fU).bind λBe=>K3 Be
noncomputable def fz(o0:Int)(o1:List En)(x1:Int):Option (Bool):=di (λ(Ro:Bool)=>some Ro) λK3=>(some (decide ((0:Int)<x1))).bind λx6=>(bif x6 then(some (decide ((x1:Int)<o0))).bind λgR=>some gR else some false).bind λLd=>K3 Ld
noncomputable def iU(x0:En)(o0:Int)(o1:List En):Option (Int):=match x0 with|⟨bT,bN,gZ,⟨iJ,Rp⟩⟩=>(fz o0 o1 bT).bind λx8=>(some (!x8)).bind λx9=>(bif x9 then some 1 else di (λ(Hg:Bool)=>(bif Hg then some 12 else di (λ(Hh:Bool)=>(bif Hh then some 1 else some 0)) λK6=>(some (decide ((gZ:Int)<(-1)))).bind λiz=>(bif iz then some true else(some (decide ((8:Int)<=gZ))).bind λfe=>some fe).bind λLe=>K6 Le)) λK3=>(some (decide ((bN:Nat)<1))).bind λgO=>(bif gO then some true else(some (decide ((4:Nat)<bN))).bind λjI=>some jI).bind λLf=>K3 Lf)
noncomputable def bJ(o0:Int)(o1:List En)(x1:Int)(x2:Nat)(x3:Int)(x4:Qr):Option (Int×(List En)):=match x4 with|⟨⟨ER,ES⟩,⟨Rr,Rt⟩⟩=>(cf o0 o1).bind λjU=>(bif jU then some (2,o1)else(iU ⟨x1,x2,x3,⟨false,[]⟩⟩ o0 o1).bind λjT=>(some (decide ((jT:Int)≠0))).bind λfe=>(bif fe then some (jT,o1)else(some (o1.length:Int)).bind λow=>(some (decide ((1024:Int)<=ow))).bind λmX=>(bif mX then some (5,o1)else(dY ⟨⟨ER,ES⟩,⟨Rr,Rt⟩⟩).bind λ⟨ic,pq⟩=>(w9 56 o1 [⟨x1,x2,x3,⟨ic,pq⟩⟩]).bind λr5=>some (0,r5))))
noncomputable def cw(o0:Int)(o1:List En):Option (List En):=(cf o0 o1).bind λx7=>(bif x7 then some []else(some (o1.length:Int)).bind λgO=>(Fp 56 gO (⟨0,0,0,⟨false,[]⟩⟩:En)).bind λgR=>(some (o1.length:Int)).bind λfJ=>(cH (λ(s8:Int×(List En))=>match s8 with|⟨je,iV⟩=>(show Option ((Int×(List En))⊕((List En)))from(some (decide ((je:Int)<fJ))).bind λiz=>(bif iz then(qu o1 je).bind λjT=>(o1[jT]?).bind λ⟨pz,pA,pB,⟨ue,Bf⟩⟩=>(da ⟨ue,Bf⟩ ⟨false,[]⟩).bind λ⟨jc,jd⟩=>(qu iV je).bind λjJ=>(stM iV jJ ⟨pz,pA,pB,⟨jc,jd⟩⟩).bind λvg=>(some (IntKind.i64.wrap (je+1))).bind λmY=>some (.inl (mY,vg))else some (.inr iV)))) (0,gR)).bind λeY=>some eY)
noncomputable def fW(o0:Int)(o1:List En):Option (List Zr):=(cf o0 o1).bind λx7=>(bif x7 then some []else(Fp 32 o0 (⟨false,[]⟩:Zr)).bind λgO=>(some (o1.length:Int)).bind λgV=>(cH (λ(AI:Int×(List Zr))=>match AI with|⟨Dy,wJ⟩=>(show Option ((Int×(List Zr))⊕((List Zr)))from(some (decide ((Dy:Int)<gV))).bind λng=>(bif ng then(qu o1 Dy).bind λiz=>(o1[iz]?).bind λ⟨yd,Dw,Dx,⟨ye,Hi⟩⟩=>(qu wJ yd).bind λlX=>(wJ[lX]?).bind λ⟨uf,ug⟩=>(da ⟨uf,ug⟩ ⟨ye,Hi⟩).bind λ⟨ko,jA⟩=>(qu wJ yd).bind λmY=>(stM wJ mY ⟨ko,jA⟩).bind λHj=>(qu Hj 0).bind λv8=>(Hj[v8]?).bind λ⟨o8,o9⟩=>(gy ⟨o8,o9⟩ ⟨ye,Hi⟩).bind λ⟨m8,m9⟩=>(qu Hj 0).bind λxn=>(stM Hj xn ⟨m8,m9⟩).bind λl14=>(some (IntKind.i64.wrap (Dy+1))).bind λr5=>some (.inl (r5,l14))else some (.inr wJ)))) (0,gO)).bind λwK=>some wK)
noncomputable def gC(o0:Int)(o1:List En)(x1:Nat):Option (Zr):=(cf o0 o1).bind λfU=>(bif fU then some ⟨false,[]⟩else(some (o1.length:Int)).bind λjI=>(cH (λ(s8:Int×Bool×(List Nat))=>match s8 with|⟨Bg,sS,sV⟩=>(show Option ((Int×Bool×(List Nat))⊕(Bool×(List Nat)))from(some (decide ((Bg:Int)<jI))).bind λfJ=>(bif fJ then(qu o1 Bg).bind λng=>(o1[ng]?).bind λ⟨ya,tY,yc,⟨wD,Lg⟩⟩=>(some (decide ((tY:Nat)=x1))).bind λfe=>di (λ(PC:Bool×(List Nat))=>match PC with|⟨CS,CT⟩=>(some (IntKind.i64.wrap (Bg+1))).bind λiu=>some (.inl (iu,CS,CT))) λK10=>(bif fe then(da ⟨sS,sV⟩ ⟨wD,Lg⟩).bind λ⟨Hl,Ho⟩=>K10 (Hl,Ho)else K10 (sS,sV))else some (.inr (sS,sV))))) (0,false,[])).bind λe8=>match e8 with|⟨Hp,Hq⟩=>some ⟨Hp,Hq⟩)
end
section
open Go.Fw Go.Fw.Z Go.RowKit
instance:GY ah 35:=⟨by kernel_rfl⟩
theorem ig{x0:Qr}{r:Zr}(h:dY x0=some r):Pure ah 12 [.agg (eQ x0)] (.agg (eZ r)):=by
 obtain⟨⟨bT,bN⟩,⟨gZ,iJ⟩⟩:=x0;refine bL Try.func12 Y (af Y) (λgz M vs hvs=>?_);unfold dY at h;refine sr<|bx Y<|al (cs:=[az false,ax]) (by exact⟨au,aB,aq⟩) Y<|dn<|sr ?_;obtain⟨⟨⟨⟨wF,wG⟩,⟨G2,G3⟩⟩,aaM⟩,pV,h⟩:=bS h;refine cl (tZ pV) ⟨Y,Y,aq⟩<|mv Y<|ex Y Y<|ex Y Y<|al (cs:=[az false,ax,az false,ax]) (by exact⟨au,aB,au,aB,aq⟩) Y<|so Y Y Y<|ag Y<|dn<|sr<|ld Y Y (.k4 Y Y Y Y) ?_;obtain⟨⟨kQ,kR⟩,uK,h⟩:=bS h;refine cl (xA uK) ⟨Y,aq⟩<|al (cs:=[az false,ax]) (by exact⟨au,aB,aq⟩) Y<|so Y Y Y<|dn<|qq<|bf mixed<|ld Y Y (.k2 Y Y) ?_;obtain⟨⟨kS,kT⟩,mw,h⟩:=bS h;refine cl (fM mw) ⟨Y,aq⟩ ?_;obtain⟨⟨G4,G5⟩,jW,h⟩:=bS h;refine cl (gH jW) ⟨Y,Y,aq⟩<|al (cs:=[az false,ax]) (by exact⟨au,aB,aq⟩) Y<|so Y Y Y ?_;refine RT.done ⟨by kernel_rfl,?_⟩;refine aV.n<|qq<|qq<|bf mixed<|ld Y Y (.k4 Y Y Y Y)<|ld Y Y (.k2 Y Y) ?_;obtain⟨⟨⟨yd,Dw⟩,⟨Dx,ye⟩⟩,pX,h⟩:=bS h;refine cl (oO pX) ⟨Y,aq⟩ ?_;obtain⟨⟨⟨ua,uc⟩,⟨ud,yf⟩⟩,pW,h⟩:=bS h;refine cl (A7 pW) ⟨Y,Y,aq⟩<|ld Y Y (.k4 Y Y Y Y)<|bE h λfe nk h=>cl (A8 nk) ⟨Y,Y,aq⟩ ?_;refine RT.done ⟨by kernel_rfl,?_⟩;refine aV.n<|bj<|sr<|lE h λjH qx h=>eq _ Y Y (qw (p:=fe) (q:=(-1)) qx)<|ag Y<|dn ?_;cases jH;refine cF<|sr<|lE (F h) λiu lY h=>eq _ Y Y (qw (p:=fe) (q:=1) lY)<|ag Y<|dn ?_
 cases iu;refine cF<|bu<|bw.n<|aV.n<|qq<|qq<|bf mixed<|ld Y Y (.k2 Y Y) ?_;obtain⟨⟨ic,pq⟩,qy,h⟩:=bS (F h);refine cl (fM qy) ⟨Y,aq⟩ ?_;obtain⟨⟨⟨Og,Oh⟩,⟨G7,He⟩,aaN⟩,pZ,h⟩:=bS h;refine cl (nc pZ) ⟨Y,Y,aq⟩<|mv Y<|ex Y Y<|ex Y Y<|ex Y Y<|al (cs:=[az false,ax]) (by exact⟨au,aB,aq⟩) Y<|al (cs:=[az false,ax]) (by exact⟨au,aB,aq⟩) Y<|so Y Y Y<|so Y Y Y<|ag Y ?_;refine RT.done ⟨by kernel_rfl,?_⟩;refine aV.n<|sr<|ld Y Y (.k2 Y Y)<|bE h λmZ CG h=>cl (eU CG) ⟨Y,aq⟩<|lE h λou tQ h=>eq _ Y Y (qw (p:=mZ) (q:=0) tQ)<|dn ?_;cases ou;refine fs<|sr<|ld Y Y (.k2 Y Y)<|so Y Y Y<|dn<|bg ?_;obtain rfl:=O (F h);exact RZ (.agg Y Y (.k2 Y Y) Y (.nil));refine cT<|sr<|ld Y Y (.k2 Y Y)<|so Y Y Y<|dn<|bg<|aV.r ?_;obtain rfl:=O (V h);exact RZ (.agg Y Y (.k2 Y Y) Y (.nil));refine cT<|sr<|ld Y Y (.k2 Y Y)<|so Y Y Y<|dn<|bg<|bw.r<|aV.r ?_;obtain rfl:=O (V h);exact RZ (.agg Y Y (.k2 Y Y) Y (.nil));refine cT<|sr<|ld Y Y (.k2 Y Y)<|so Y Y Y<|dn<|bg<|bw.r<|aV.r ?_;obtain rfl:=O (V h);exact RZ (.agg Y Y (.k2 Y Y) Y (.nil))
theorem uh{x0:Int}{r:Int×(List En)}(h:jr x0=some r):EY ah 28 [ay x0] true [ay 0] 66 [.s (ay r.1),.r (TR 43 5 ew r.2)]:=by
 refine Bc (t1:=2) (t2:=3) Try.func28 Y (af Y) Y (λgz M vs hvs=>?_);unfold jr at h;refine sr<|ag Y<|ag Y<|dn<|qq<|qq ?_;refine bH h (λj3=>AS.cZ 13 [(0,ai x0),(9,aj j3)] [] []) (λh=>?_) (λOi h=>?_);refine aX<|mv Y<|lE h λx5 h5 h=>ls _ Y Y h5<|mv Y<|bE h λRn o7 h=>?_;cases x5;refine gm Y<|lE (F o7) λx8 h8 o7=>gg _ Y Y h8 ?_;obtain rfl:=O o7;exact pF Y<|dn<|⟨x8,h,wR []⟩;obtain rfl:=O (V o7);exact ww<|ww<|pT Y<|dn<|⟨true,h,wR []⟩
 try dsimp only
 refine aV.n ?_;cases Oi;refine fs<|sr<|mv Y<|bI (cs:=[_,_]) (cs':=[ay x0,.v (.slice none 0 0)]) (.one Y (.nil)) ⟨au,au,aq⟩<|bx Y<|an (s:=.ptr _ _) Y<|ag Y<|dn<|dg (Eu 12 1 302 43 5 Y Y Y T)<|bg ?_;obtain rfl:=O (F h);exact⟨.inr Y,12,[302],Y,Y,Y,⟨Y,aq⟩,by decide⟩;refine cT<|sr<|ag Y<|ag Y<|dn<|bg<|aV.r ?_;replace h:=V h;cases h
theorem eC{o0:Int}{o1:List En}{r:Bool}(h:cf o0 o1=some r):zB ah 50 [.ptr 1000 0] 66 [.s (ay o0),.r (TR 43 5 ew o1)] (az r):=by
 refine jq [1001] Try.func50 Y (af Y) Y (by decide) Y Y ⟨⟨_,Y⟩,aq,aq⟩ (λgz M β us=>?_);unfold cf at h;refine sr<|ag Y<|dn<|qq ?_;refine bH h (λj3=>AS.cZ 12 [(2,aj j3)] [(1000,⟨66,[ai o0,.row 1001]⟩)] [(1001,TR 43 5 ew o1)]) (λh=>?_) (λHf h=>?_);refine aX<|mo (s:=.ptr _ _) Y<|RT.GZ .none Y Y T<|mv Y<|bE h λBe o7 h=>RT.move (.some Y Y) (s:=.ptr _ _) Y T<|RT.eu (.some Y Y) Y T<|RT.fieldAddr (.some Y Y) Y T Y<|RT.MK (.some Y Y) Y Y Y T<|lE (F o7) λfU iN o7=>Co _ Y Y (qw (p:=o0) (q:=0) iN) ?_;obtain rfl:=O o7;exact pF Y<|ag Y<|dn<|⟨fU,h,wR []⟩
 try dsimp only
 refine aV.n<|bg ?_;obtain rfl:=O h;exact⟨.inr Y,dh (.tmp Y (.nil)) au,Y,⟨Y,aq⟩⟩
theorem rJ{o0:Int}{o1:List En}{x1:Int}{r:Bool}(h:fz o0 o1 x1=some r):zB ah 58 [.ptr 1000 0,ai x1] 66 [.s (ay o0),.r (TR 43 5 ew o1)] (az r):=by
 refine jq [1001] Try.func58 Y (af Y) Y (by decide) Y Y ⟨⟨_,Y⟩,aq,aq⟩ (λgz M β us=>?_);unfold fz at h;refine sr<|ag Y<|dn<|qq ?_;refine bH h (λj3=>AS.cZ 15 [(4,aj j3)] [(1000,⟨66,[ai o0,.row 1001]⟩)] [(1001,TR 43 5 ew o1)]) (λh=>?_) (λRo h=>?_);refine aX<|mv Y<|lE h λx6 h6 h=>gt _ Y Y h6<|mv Y<|bE h λLd o7 h=>?_;cases x6;obtain rfl:=O (F o7);exact ww<|ww<|ww<|ww<|ww<|ww<|pF Y<|ag Y<|dn<|⟨false,h,wR []⟩;refine gm Y<|RT.move (.some Y Y) (s:=.ptr _ _) Y T<|RT.eu (.some Y Y) Y T<|RT.fieldAddr (.some Y Y) Y T Y<|RT.MK (.some Y Y) Y Y Y T<|lE (V o7) λgR kI o7=>RT.lss (.some Y Y) _ Y Y T kI ?_;obtain rfl:=O o7;exact pT Y<|ag Y<|dn<|⟨gR,h,wR []⟩
 try dsimp only
 refine aV.n<|bg ?_;obtain rfl:=O h;exact⟨.inr Y,dh (.tmp Y (.nil)) au,Y,⟨Y,aq⟩⟩
theorem xB{x0:En}{o0:Int}{o1:List En}{r:Int}(h:iU x0 o0 o1=some r):zB ah 57 [.sv (.agg (ew x0)),.cmp (.Pc 58) [.box 1000]] 66 [.s (ay o0),.r (TR 43 5 ew o1)] (ay r):=by
 obtain⟨bT,bN,gZ,⟨iJ,Rp⟩⟩:=x0;refine jq [1001] Try.func57 Y (af Y) Y (by decide) Y Y ⟨⟨_,Y⟩,aq,aq⟩ (λgz M β us=>?_);unfold iU at h;refine sr<|bx Y<|ag Y<|dn<|qq<|sr<|mo (s:=.cmp _ _) Y<|fa Y Y<|lV Y Y Y<|bE h λx8 h8 h=>RT.JA .none (rJ h8) 1000 [1001] Y ⟨Y,aq⟩ (by decide) Y Y (.cons Y (.nil)) T<|lE h λx9 h9 h=>nt Y _ h9<|dn ?_;cases x9;refine fs<|qq<|qq ?_;refine bH (F h) (λj3=>AS.cZ 26 [(2,.ptr 2 0),(17,aj j3)] [(1000,⟨66,[ai o0,.row 1001]⟩),(2,⟨43,[ai bT,.sv (.v (.int .u8 ((bN:Nat):Int))),ai gZ,aj iJ,.sv (slc 1 (List.map aZ Rp))]⟩)] [(1001,TR 43 5 ew o1)]) (λh=>?_) (λHg h=>?_);refine aX<|fa Y Y<|lV Y Y Y<|lE h λgO kp h=>ls _ Y Y (Pq (p:=bN) (q:=1) kp)<|mv Y<|bE h λLf Js h=>?_;cases gO;refine RT.fieldAddr (.some Y Y) Y T Y<|RT.MK (.some Y Y) Y Y Y T<|lE (F Js) λjI oK Js=>gg _ Y Y (Pq (p:=4) (q:=bN) oK) ?_;obtain rfl:=O Js;exact pF Y<|dn<|⟨jI,h,wR []⟩;obtain rfl:=O (V Js);exact ww<|ww<|ww<|pT Y<|dn<|⟨true,h,wR []⟩
 try dsimp only
 refine aV.n ?_;cases Hg;refine fs<|qq<|qq ?_;refine bH (F h) (λj6=>AS.cZ 26 [(25,aj j6)] [(1000,⟨66,[ai o0,.row 1001]⟩)] [(1001,TR 43 5 ew o1)]) (λh=>?_) (λHh h=>?_);refine aX<|fa Y Y<|lV Y Y Y<|lE h λiz my h=>ls _ Y Y my<|mv Y<|bE h λLe Wa h=>?_;cases iz;refine RT.fieldAddr (.some Y Y) Y T Y<|RT.MK (.some Y Y) Y Y Y T<|lE (F Wa) λfe nk Wa=>RT.geq (.some Y Y) _ Y Y T nk ?_;obtain rfl:=O Wa;exact pF Y<|dn<|⟨fe,h,wR []⟩;obtain rfl:=O (V Wa);exact ww<|ww<|ww<|pT Y<|dn<|⟨true,h,wR []⟩
 try dsimp only
 refine aV.n ?_;cases Hh;refine fs<|sr<|ag Y<|dn<|bg ?_;obtain rfl:=O (F h);exact⟨.inr Y,dh (.tmp Y (.nil)) au,Y,⟨Y,aq⟩⟩;refine cT<|sr<|ag Y<|dn<|bg<|aV.r ?_;obtain rfl:=O (V h);exact⟨.inr Y,dh (.tmp Y (.nil)) au,Y,⟨Y,aq⟩⟩;refine cT<|sr<|ag Y<|dn<|bg<|aV.r ?_;obtain rfl:=O (V h);exact⟨.inr Y,dh (.tmp Y (.nil)) au,Y,⟨Y,aq⟩⟩;refine cT<|sr<|ag Y<|dn<|bg<|aV.r ?_;obtain rfl:=O (V h);exact⟨.inr Y,dh (.tmp Y (.nil)) au,Y,⟨Y,aq⟩⟩
theorem cD{o0:Int}{o1:List En}{x1:Int}{x2:Nat}{x3:Int}{x4:Qr}{r:Int×(List En)}(h:bJ o0 o1 x1 x2 x3 x4=some r):Oa ah 25 [.ptr 1000 0,ai x1,.sv (.v (.int .u8 ((x2:Nat):Int))),ai x3,.sv (.agg (eQ x4))] 66 [.s (ay o0),.r (TR 43 5 ew o1)] (ay r.1) [.s (ay o0),.r (TR 43 5 ew r.2)]:=by
 obtain⟨⟨ER,ES⟩,⟨Rr,Rt⟩⟩:=x4;refine CO [1001] Try.func25 Y (af Y) Y (by decide) Y (λgz M β us=>?_);unfold bJ at h;refine sr<|bx Y<|ag Y<|dn<|qq<|sr<|mo (s:=.ptr _ _) Y<|bE h λjU o5 h=>RT.jM .none (eC o5) 1000 [1001] Y ⟨Y,aq⟩ (by decide) Y Y (.cons Y (.nil)) T<|dn ?_;cases jU;refine fs<|sr<|mv Y<|mv Y<|mv Y<|bI (cs:=[_,_,_,_,_]) (cs':=[ay x1,.v (.int .u8 ((x2:Nat):Int)),ay x3,az false,ax]) (.one Y (.one Y (.one Y (.nil)))) ⟨au,au,au,au,aB,aq⟩<|al (cs:=[ay 0,.v (.int .u8 ((0:Nat):Int)),ay 0,az false,ax]) (by exact⟨au,au,au,au,aB,aq⟩) Y ?_;refine so Y Y Y<|dn<|qq<|sr<|ld Y Y (.cons Y (.k4 Y Y Y Y))<|mo (s:=.ptr _ _) Y<|RT.Jz .none Y T<|bE (F h) λjT pW h=>RT.jM .none (xB pW) 1000 [1001] Y ⟨Y,aq⟩ (by decide) Y Y (.k2 Y Y) T<|ag Y<|dn<|sr<|mv Y<|lE h λfe nk h=>ne _ Y Y (I1 (p:=jT) (q:=0) nk)<|dn ?_;cases fe;refine fs<|qq<|sr<|mo (s:=.ptr _ _) Y<|RT.eu .none Y T<|fa Y Y<|RT.jP .none (s:=.row _) Y Y Y T<|lE (F h) λow xq h=>lL Y Y xq<|lE h λmX xb h=>ge _ Y Y xb<|dn ?_;cases mX;refine fs<|sr<|ld Y Y (.k4 Y Y Y Y) ?_;obtain⟨⟨ic,pq⟩,qy,h⟩:=bS (F h)
 refine cl (ig qy) ⟨Y,aq⟩<|fa Y Y<|RT.vC (cells:=[_,_,_,_,_]) .none Y Y Y Y T Y<|dn<|qq<|bf mixed<|mo (s:=.ptr _ _) Y<|mo (s:=.ptr _ _) Y<|RT.eu .none Y T<|fa Y Y<|RT.jP .none (s:=.row _) Y Y Y T<|ld Y Y (.cons Y (.k4 Y Y Y Y))<|bl (l:=[⟨x1,x2,x3,⟨ic,pq⟩⟩]) (e:=ew) (.agg Y (.nil)) Y Y Y Y Y Y ?_;refine bE h λr5 AP h=>aR (k:=[⟨x1,x2,x3,⟨ic,pq⟩⟩]) (e:=ew) Y Y Y AP<|RT.eu .none Y T<|fa Y Y<|RT.vD (cells:=[_,_]) .none Y Y Y Y T Y ?_;refine RT.done ⟨by kernel_rfl,?_⟩;refine aV.n<|sr<|ag Y<|dn<|bg ?_;obtain rfl:=O h;exact⟨.inr Y,dh (.tmp Y (.nil)) au,[42],Y,⟨Y,aq⟩,by decide⟩;refine cT<|sr<|ag Y<|dn<|bg<|aV.r ?_;obtain rfl:=O (V h);exact⟨.inr Y,dh (.tmp Y (.nil)) au,[1001],Y,⟨Y,aq⟩,by decide⟩;refine cT<|sr<|mv Y<|ag Y<|dn<|bg<|aV.r ?_;obtain rfl:=O (V h);exact⟨.inr Y,dh (.tmp Y (.nil)) au,[1001],Y,⟨Y,aq⟩,by decide⟩;refine cT<|sr<|ag Y<|dn<|bg<|aV.r ?_;obtain rfl:=O (V h);exact⟨.inr Y,dh (.tmp Y (.nil)) au,[1001],Y,⟨Y,aq⟩,by decide⟩
theorem eM{o0:Int}{o1:List En}{r:List En}(h:cw o0 o1=some r):zB ah 17 [.ptr 1000 0] 66 [.s (ay o0),.r (TR 43 5 ew o1)] (slc 5 (List.map ew r)):=by
 refine jq [1001] Try.func17 Y (af Y) Y (by decide) Y Y ⟨⟨_,Y⟩,aq,aq⟩ (λgz M β us=>?_);unfold cw at h;refine sr<|aI Y (aB (n:=5) (e:=ew))<|dn<|qq<|sr<|mo (s:=.ptr _ _) Y<|bE h λx7 h7 h=>RT.jM .none (eC h7) 1000 [1001] Y ⟨Y,aq⟩ (by decide) Y Y (.cons Y (.nil)) T<|dn ?_;cases x7;refine fs<|sr<|mo (s:=.ptr _ _) Y<|RT.eu .none Y T<|fa Y Y<|RT.jP .none (s:=.row _) Y Y Y T<|lE (F h) λgO kp h=>lL Y Y kp<|bE h λgR kI h=>RT.tK (n:=5) (e:=ew) .none Y Y T Y T (by rfl) (by decide) (by exact⟨au,au,au,au,aB,aq⟩) kI<|an (s:=.row _) Y<|dn<|qq<|sr<|mo (s:=.ptr _ _) Y<|RT.eu .none Y T ?_;refine fa Y Y<|RT.jP .none (s:=.row _) Y Y Y T<|lE h λfJ jW h=>lL Y Y jW<|mv Y<|dn<|bE h λe8 AQ sI=>?_;refine bW (λ(eY:(List En))=>AS.cZ 35 [(3,.row 13)] [(1000,⟨66,[ai o0,.row 1001]⟩)] [(13,TR 43 5 ew eY),(1001,TR 43 5 ew o1)]) (λeY=>eY=e8) ?_ (λeY AR=>?_);refine bj ?_;refine bX AQ (λs8=>AS.cZ 35 [(3,.row 13),(17,.row 1001),(18,ai fJ),(19,ai s8.1)] [(1000,⟨66,[ai o0,.row 1001]⟩)] [(13,TR 43 5 ew s8.2),(1001,TR 43 5 ew o1)]) (wR []) (λs8 y8 G8 h AT AU=>?_);obtain⟨je,iV⟩:=s8
 try dsimp only
 refine sr<|lE h λiz my h=>ls _ Y Y my<|dn<|qq ?_;cases iz;refine cF<|b7<|aV.x<|aV.x<|bw.x<|aV.n ?_;obtain rfl:=O (F h);exact⟨iV,AU _ Y,wR []⟩;refine cT<|bu<|aV.n<|qq<|bj<|sr<|mv Y<|bE (V h) λjT pW h=>iR Y Y Y pW ?_;obtain⟨⟨pz,pA,pB,⟨ue,Bf⟩⟩,oJ,h⟩:=bS h;refine lA Y Y oJ<|al (cs:=[ay 0,.v (.int .u8 ((0:Nat):Int)),ay 0,az false,ax]) (by exact⟨au,au,au,au,aB,aq⟩) Y<|ag Y<|so Y Y Y<|dn<|sr<|fa Y Y<|ld Y Y (.k2 Y Y)<|bI (cs:=[_,_]) (cs':=[az false,ax]) (.nil) ⟨au,aB,aq⟩ ?_;obtain⟨⟨jc,jd⟩,o6,h⟩:=bS h;refine cl (gH o6) ⟨Y,Y,aq⟩<|fa Y Y<|RT.vC (cells:=[_,_,_,_,_]) .none Y Y Y Y T Y<|dn<|aX<|mo (s:=.row _) Y<|mv Y<|ld Y Y (.cons Y (.k4 Y Y Y Y))<|bE h λjJ nj h=>iR Y Y Y nj<|bE h λvg rj h=>sA ⟨pz,pA,pB,⟨jc,jd⟩⟩ Y Y Y rj<|RT.done<|bw.n<|aV.n<|aX<|lE h λmY qy h=>ad _ Y Y qy<|mv Y ?_;refine RT.done ?_;obtain rfl:=O h;exact aV.n ⟨(mY,vg),AT _ Y,wR []⟩;subst AR
 try dsimp only
 refine aV.n<|sr<|mo (s:=.row _) Y<|an (s:=.row _) Y<|dn<|dg (ji (i:=13) (E1:=43) (n:=5) (e:=ew) (l:=eY) Y)<|bg ?_;obtain rfl:=O sI;exact⟨.inr Y,dh (.tmp Y (.nil)) au,Y,⟨Y,aq⟩⟩;refine cT<|sr<|aI Y (aB (n:=5) (e:=ew))<|dn<|bg<|aV.r ?_;obtain rfl:=O (V h);exact⟨.inr Y,dh (.tmp Y (.nil)) au,Y,⟨Y,aq⟩⟩
theorem sW{o0:Int}{o1:List En}{r:List Zr}(h:fW o0 o1=some r):zB ah 16 [.ptr 1000 0] 66 [.s (ay o0),.r (TR 43 5 ew o1)] (slc 2 (List.map eZ r)):=by
 refine jq [1001] Try.func16 Y (af Y) Y (by decide) Y Y ⟨⟨_,Y⟩,aq,aq⟩ (λgz M β us=>?_);unfold fW at h;refine sr<|aI Y (aB (n:=2) (e:=eZ))<|dn<|qq<|sr<|mo (s:=.ptr _ _) Y<|bE h λx7 h7 h=>RT.jM .none (eC h7) 1000 [1001] Y ⟨Y,aq⟩ (by decide) Y Y (.cons Y (.nil)) T<|dn ?_;cases x7;refine fs<|sr<|mo (s:=.ptr _ _) Y<|RT.eu .none Y T<|fa Y Y<|lV Y Y Y<|bE (F h) λgO kp h=>RT.tK (n:=2) (e:=eZ) .none Y Y T Y T (by rfl) (by decide) (by exact⟨au,aB,aq⟩) kp<|an (s:=.row _) Y<|dn<|qq<|sr<|mo (s:=.ptr _ _) Y<|RT.eu .none Y T<|fa Y Y<|RT.jP .none (s:=.row _) Y Y Y T<|lE h λgV mw h=>lL Y Y mw ?_;refine mv Y<|dn<|bE h λNx CB ze=>?_;refine bW (λ(wK:(List Zr))=>AS.cZ 44 [(3,.row 12)] [(1000,⟨66,[ai o0,.row 1001]⟩)] [(12,TR 24 2 eZ wK),(1001,TR 43 5 ew o1)]) (λwK=>wK=Nx) ?_ (λwK CC=>?_);refine bj ?_;refine bX CB (λAI=>AS.cZ 44 [(3,.row 12),(16,.row 1001),(17,ai gV),(18,ai AI.1)] [(1000,⟨66,[ai o0,.row 1001]⟩)] [(12,TR 24 2 eZ AI.2),(1001,TR 43 5 ew o1)]) (wR []) (λAI Y6 Y7 h CD AO=>?_);obtain⟨Dy,wJ⟩:=AI
 try dsimp only
 refine sr<|lE h λng q9 h=>ls _ Y Y q9<|dn<|qq ?_;cases ng;refine cF<|b7<|aV.x<|aV.x<|bw.x<|aV.n ?_;obtain rfl:=O (F h);exact⟨wJ,AO _ Y,wR []⟩;refine cT<|bu<|aV.n<|qq<|bj<|sr<|bE (V h) λiz my h=>iR Y Y Y my ?_;obtain⟨⟨yd,Dw,Dx,⟨ye,Hi⟩⟩,pX,h⟩:=bS h;refine lA Y Y pX<|al (cs:=[ay 0,.v (.int .u8 ((0:Nat):Int)),ay 0,az false,ax]) (by exact⟨au,au,au,au,aB,aq⟩) Y<|so Y Y Y<|dn<|qq<|bf mixed<|mo (s:=.row _) Y<|fa Y Y<|lV Y Y Y<|mo (s:=.row _) Y<|fa Y Y<|lV Y Y Y<|bE h λlX wm h=>iR Y Y Y wm ?_;obtain⟨⟨uf,ug⟩,lY,h⟩:=bS h;refine lA Y Y lY<|fa Y Y<|ld Y Y (.k2 Y Y) ?_;obtain⟨⟨ko,jA⟩,nj,h⟩:=bS h;refine cl (gH nj) ⟨Y,Y,aq⟩<|bE h λmY qy h=>iR Y Y Y qy<|bE h λHj Ru h=>sA ⟨ko,jA⟩ Y Y Y Ru ?_;refine RT.done ⟨by kernel_rfl,?_⟩;refine aV.n<|bf mixed<|mo (s:=.row _) Y<|mo (s:=.row _) Y<|bE h λv8 xu h=>iR Y Y Y xu ?_;obtain⟨⟨o8,o9⟩,zf,h⟩:=bS h;refine lA Y Y zf<|fa Y Y<|ld Y Y (.k2 Y Y) ?_;obtain⟨⟨m8,m9⟩,tQ,h⟩:=bS h;refine cl (zg tQ) ⟨Y,Y,aq⟩<|bE h λxn EE h=>iR Y Y Y EE<|bE h λl14 Rv h=>sA ⟨m8,m9⟩ Y Y Y Rv ?_;refine RT.done ⟨by kernel_rfl,?_⟩;refine bw.n<|aV.n<|aX<|lE h λr5 AP h=>ad _ Y Y AP<|mv Y<|RT.done ?_;obtain rfl:=O h;exact aV.n ⟨(r5,l14),CD _ Y,wR []⟩;subst CC
 try dsimp only
 refine aV.n<|sr<|mo (s:=.row _) Y<|an (s:=.row _) Y<|dn<|dg (ji (i:=12) (E1:=24) (n:=2) (e:=eZ) (l:=wK) Y)<|bg ?_;obtain rfl:=O ze;exact⟨.inr Y,dh (.tmp Y (.nil)) au,Y,⟨Y,aq⟩⟩;refine cT<|sr<|aI Y (aB (n:=2) (e:=eZ))<|dn<|bg<|aV.r ?_;obtain rfl:=O (V h);exact⟨.inr Y,dh (.tmp Y (.nil)) au,Y,⟨Y,aq⟩⟩
theorem uP{o0:Int}{o1:List En}{x1:Nat}{r:Zr}(h:gC o0 o1 x1=some r):zB ah 19 [.ptr 1000 0,.sv (.v (.int .u8 ((x1:Nat):Int)))] 66 [.s (ay o0),.r (TR 43 5 ew o1)] (.agg (eZ r)):=by
 refine jq [1001] Try.func19 Y (af Y) Y (by decide) Y Y ⟨⟨_,Y⟩,aq,aq⟩ (λgz M β us=>?_);unfold gC at h;refine sr<|al (cs:=[az false,ax]) (by exact⟨au,aB,aq⟩) Y<|dn<|sr<|bI (cs:=[_,_]) (cs':=[az false,ax]) (.nil) ⟨au,aB,aq⟩<|al (cs:=[az false,ax]) (by exact⟨au,aB,aq⟩) Y<|so Y Y Y<|dn<|qq<|sr<|mo (s:=.ptr _ _) Y<|bE h λfU iN h=>RT.jM .none (eC iN) 1000 [1001] Y ⟨Y,aq⟩ (by decide) Y Y (.cons Y (.nil)) T ?_;refine dn ?_;cases fU;refine fs<|qq<|sr<|mo (s:=.ptr _ _) Y<|RT.eu .none Y T<|fa Y Y<|RT.jP .none (s:=.row _) Y Y Y T<|lE (F h) λjI oK h=>lL Y Y oK<|mv Y<|dn<|bE h λe8 AQ sI=>?_;refine bW (λ(sJ:Bool×(List Nat))=>AS.cZ 31 [(4,.ptr 4 0),(5,.ptr 5 0)] [(1000,⟨66,[ai o0,.row 1001]⟩),(5,⟨24,[aj sJ.1,.sv (slc 1 (List.map aZ sJ.2))]⟩),(4,⟨24,[aj false,.sv ax]⟩)] [(1001,TR 43 5 ew o1)]) (λsJ=>sJ=e8) ?_ (λsJ AR=>?_);refine bj ?_;refine bX AQ (λs8=>AS.cZ 31 [(1,.sv (.v (.int .u8 ((x1:Nat):Int)))),(4,.ptr 4 0),(5,.ptr 5 0),(15,.row 1001),(16,ai jI),(17,ai s8.1)] [(1000,⟨66,[ai o0,.row 1001]⟩),(5,⟨24,[aj s8.2.1,.sv (slc 1 (List.map aZ s8.2.2))]⟩),(4,⟨24,[aj false,.sv ax]⟩)] [(1001,TR 43 5 ew o1)]) (wR []) (λs8 y8 G8 h AT AU=>?_);obtain⟨Bg,sS,sV⟩:=s8
 try dsimp only
 refine sr<|lE h λfJ jW h=>ls _ Y Y jW<|dn<|qq ?_;cases fJ;refine cF<|b7<|aV.x<|aV.x<|bw.x<|aV.n ?_;obtain rfl:=O (F h);exact⟨(sS,sV),AU _ Y,wR []⟩;refine cT<|bu<|aV.n<|qq<|bj<|sr<|bE (V h) λng q9 h=>iR Y Y Y q9 ?_;obtain⟨⟨ya,tY,yc,⟨wD,Lg⟩⟩,my,h⟩:=bS h;refine lA Y Y my<|al (cs:=[ay 0,.v (.int .u8 ((0:Nat):Int)),ay 0,az false,ax]) (by exact⟨au,au,au,au,aB,aq⟩) Y<|so Y Y Y<|dn<|sr<|fa Y Y<|lV Y Y Y<|mv Y<|lE h λfe nk h=>eq _ Y Y (Qh (p:=tY) (q:=x1) nk)<|dn ?_;refine bH h (λPC=>AS.cZ 31 [(1,.sv (.v (.int .u8 ((x1:Nat):Int)))),(4,.ptr 4 0),(5,.ptr 5 0),(15,.row 1001),(16,ai jI),(17,ai Bg)] [(1000,⟨66,[ai o0,.row 1001]⟩),(5,⟨24,[aj PC.1,.sv (slc 1 (List.map aZ PC.2))]⟩),(4,⟨24,[aj false,.sv ax]⟩)] [(1001,TR 43 5 ew o1)]) (λh=>?_) (λPC h=>?_);cases fe;exact fs<|⟨(sS,sV),(F h),wR []⟩;refine cT<|aX<|ld Y Y (.k2 Y Y)<|fa Y Y<|ld Y Y (.k2 Y Y) ?_;obtain⟨⟨Hl,Ho⟩,wm,h⟩:=bS (V h);exact cl (gH wm) ⟨Y,Y,aq⟩<|so Y Y Y<|dn<|⟨(Hl,Ho),h,wR []⟩;obtain⟨CS,CT⟩:=PC
 try dsimp only
 refine bw.n<|aV.n<|aX<|lE h λiu lY h=>ad _ Y Y lY<|mv Y<|RT.done ?_;obtain rfl:=O h;exact aV.n ⟨(iu,CS,CT),AT _ Y,wR []⟩;subst AR;obtain⟨Hp,Hq⟩:=sJ
 try dsimp only
 refine aV.n<|sr<|ld Y Y (.k2 Y Y)<|so Y Y Y<|dn<|bg ?_;obtain rfl:=O sI;exact⟨.inr Y,dh (.agg Y Y (.k2 Y Y) Y (.nil)) au,Y,⟨Y,aq⟩⟩;refine cT<|sr<|ld Y Y (.k2 Y Y)<|so Y Y Y<|dn<|bg<|aV.r ?_;obtain rfl:=O (V h);exact⟨.inr Y,dh (.agg Y Y (.k2 Y Y) Y (.nil)) au,Y,⟨Y,aq⟩⟩
end
section
open Go.Fw
noncomputable def fN(x0:Zr)(x1:Zr):Option (Bool):=match x0 with|⟨bT,bN⟩=>match x1 with|⟨dz,dm⟩=>di (λ(Hr:Bool)=>(bif Hr then some false else(cH (λ(uJ:Int)=>(show Option ((Int)⊕((Unit)⊕(Bool)))from(some (bN.length:Int)).bind λjx=>(some (decide ((uJ:Int)<jx))).bind λfe=>(bif fe then(cq bN uJ).bind λow=>(cq dm uJ).bind λqT=>(some (decide ((ow:Nat)≠qT))).bind λtN=>(bif tN then some (.inr (.inr false))else(some (IntKind.i64.wrap (uJ+1))).bind λjH=>some (.inl jH))else some (.inr (.inl ()))))) 0).bind λe9=>match e9 with|.inr v9=>some v9|.inl _=>some true)) λK3=>(some (!(bT==dz))).bind λfU=>(bif fU then some true else(some (bN.length:Int)).bind λjU=>(some (dm.length:Int)).bind λgV=>(some (decide ((jU:Int)≠gV))).bind λfJ=>some fJ).bind λHs=>K3 Hs
end
section
open Go.Fw Go.Fw.Z Go.RowKit
theorem pC{x0:Zr}{x1:Zr}{r:Bool}(h:fN x0 x1=some r):Pure ah 11 [.agg (eZ x0),.agg (eZ x1)] (az r):=by
 obtain⟨bT,bN⟩:=x0;obtain⟨dz,dm⟩:=x1;refine bL Try.func11 Y (af Y) (λgz M vs hvs=>?_);unfold fN at h;refine sr<|bx Y<|bx Y<|ag Y<|dn<|qq<|qq ?_;refine bH h (λj3=>AS.cZ 38 [(2,.ptr 2 0),(3,.ptr 3 0),(19,aj j3)] [(3,⟨24,[aj dz,.sv (slc 1 (List.map aZ dm))]⟩),(2,⟨24,[aj bT,.sv (slc 1 (List.map aZ bN))]⟩)] []) (λh=>?_) (λHr h=>?_);refine aX<|fa Y Y<|lV Y Y Y<|fa Y Y<|lV Y Y Y<|lE h λfU iN h=>RT.II .none _ Y Y T iN<|mv Y<|bE h λHs Bh h=>?_;cases fU;refine RT.fieldAddr (.some Y Y) Y T Y<|RT.MK (.some Y Y) Y Y Y T<|lE (F Bh) λjU o5 Bh=>gn Y o5<|RT.fieldAddr (.some Y Y) Y T Y<|RT.MK (.some Y Y) Y Y Y T<|lE Bh λgV mw Bh=>gn Y mw<|lE Bh λfJ jW Bh=>gq _ Y Y (I1 (p:=jU) (q:=gV) jW) ?_;obtain rfl:=O Bh;exact pF Y<|dn<|⟨fJ,h,wR []⟩;obtain rfl:=O (V Bh);exact ww<|ww<|ww<|ww<|ww<|ww<|ww<|pT Y<|dn<|⟨true,h,wR []⟩
 try dsimp only
 refine aV.n ?_;cases Hr;refine fs<|qq<|sr<|ag Y<|dn<|bE (F h) λe9 hl9 ho9=>?_;refine bW (λ(xe9:Unit)=>AS.cZ 38 [] [] []) (λxe9=>.inl xe9=e9) ?_ (λxe9 hx9=>?_);refine bj ?_;refine bX hl9 (λs9=>AS.cZ 38 [(2,.ptr 2 0),(3,.ptr 3 0),(5,ai s9)] [(3,⟨24,[aj dz,.sv (slc 1 (List.map aZ dm))]⟩),(2,⟨24,[aj bT,.sv (slc 1 (List.map aZ bN))]⟩)] []) (wR []) (λuJ y9 G9 h hG9 hE9=>?_)
 try dsimp only
 refine qq<|sr<|mv Y<|fa Y Y<|lV Y Y Y<|lE h λjx oJ h=>ln Y oJ<|lE h λfe nk h=>ls _ Y Y nk<|dn ?_;cases fe;refine cF<|b7<|aV.x<|aV.x<|bw.x<|aV.n ?_;obtain rfl:=O (F h);exact⟨(),hE9 _ Y,wR []⟩;refine cT<|bu<|aV.n<|qq<|bj<|qq<|bf mixed<|fa Y Y<|lV Y Y Y<|mv Y<|bE (V h) λow xq h=>ix Y Y xq<|lr Y Y<|fa Y Y<|lV Y Y Y<|mv Y<|bE h λqT CF h=>ix Y Y CF<|lr Y Y<|lE h λtN zf h=>ne _ Y Y (Pp (p:=ow) (q:=qT) zf) ?_;refine RT.done ⟨by kernel_rfl,?_⟩;refine aV.n ?_;cases tN;refine cF<|bu<|bw.n<|aV.n<|aX<|mv Y<|lE (F h) λjH qx h=>ad _ Y Y qx<|ag Y<|RT.done ?_;obtain rfl:=O h;exact aV.n ⟨jH,hG9 _ Y,wR []⟩;refine cT<|sr<|ag Y<|dn<|bg<|bw.r<|aV.r ?_;obtain rfl:=O (V h);have he9:=hE9 _ Y;subst he9;refine aV.r<|bw.r<|aV.r<|aV.r ?_;obtain rfl:=O ho9;exact R1 Y;subst hx9
 try dsimp only
 refine aV.n<|sr<|ag Y<|dn<|bg ?_;obtain rfl:=O ho9;exact R1 Y;refine cT<|sr<|ag Y<|dn<|bg<|aV.r ?_;obtain rfl:=O (V h);exact R1 Y
end
section
open Go.Fw
noncomputable def fO(x0:List En)(x1:List En):Option (Bool):=(some (x0.length:Int)).bind λx7=>(some (x1.length:Int)).bind λx9=>(some (decide ((x7:Int)≠x9))).bind λfU=>(bif fU then some false else(cH (λ(nf:Int)=>(show Option ((Int)⊕((Unit)⊕(Bool)))from(some (x0.length:Int)).bind λgR=>(some (decide ((nf:Int)<gR))).bind λjU=>(bif jU then di (λ(CU:Bool)=>(bif CU then some (.inr (.inr false))else(some (IntKind.i64.wrap (nf+1))).bind λjI=>some (.inl jI))) λK34=>(cq x0 nf).bind λ⟨nP,rz,Rw,⟨Rx,Ry⟩⟩=>(cq x1 nf).bind λ⟨Ht,Rz,RA,⟨RB,RC⟩⟩=>(some (decide ((nP:Int)≠Ht))).bind λnh=>(bif nh then some true else(cq x0 nf).bind λ⟨Dk,xV,RE,⟨RF,RG⟩⟩=>(cq x1 nf).bind λ⟨oZ,m7,Dz,⟨DA,RH⟩⟩=>(some (decide ((xV:Nat)≠m7))).bind λmZ=>some mZ).bind λHu=>(bif Hu then some true else(cq x0 nf).bind λ⟨Dn,Dp,Hv,⟨RI,RJ⟩⟩=>(cq x1 nf).bind λ⟨Dl,Dm,Hw,⟨RK,RL⟩⟩=>(some (decide ((Hv:Int)≠Hw))).bind λuI=>some uI).bind λOj=>(bif Oj then some true else(cq x0 nf).bind λ⟨RM,RN,RO,⟨Lh,Li⟩⟩=>(cq x1 nf).bind λ⟨RQ,RR,RU,⟨Lj,Lk⟩⟩=>(fN ⟨Lh,Li⟩ ⟨Lj,Lk⟩).bind λPt=>(some (!Pt)).bind λFq=>some Fq).bind λOl=>K34 Ol else some (.inr (.inl ()))))) 0).bind λNI=>match NI with|.inr v24=>some v24|.inl _=>some true)
end
section
open Go.Fw Go.Fw.Z Go.RowKit
theorem lf{x0:List En}{x1:List En}{r:Bool}(h:fO x0 x1=some r):Pure ah 22 [slc 5 (List.map ew x0),slc 5 (List.map ew x1)] (.v (.bool r)):=by
 refine bL Try.func22 Y (af Y) (λgz M vs hvs=>?_);unfold fO at h;refine sr<|ag Y<|dn<|qq<|sr<|mv Y<|lE h λx7 h7 h=>ln Y h7<|mv Y<|lE h λx9 h9 h=>ln Y h9<|lE h λfU iN h=>ne _ Y Y (I1 (p:=x7) (q:=x9) iN)<|dn ?_;cases fU;refine fs<|qq<|sr<|ag Y<|dn<|bE (F h) λNI GL kx=>?_;refine bW (λ(Om:Unit)=>AS.cZ 68 [] [] []) (λOm=>.inl Om=NI) ?_ (λOm GM=>?_);refine bj ?_;refine bX GL (λCA=>AS.cZ 68 [(0,.sv (slc 5 (List.map ew x0))),(1,.sv (slc 5 (List.map ew x1))),(5,.sv (.v (.int .i64 CA)))] [] []) (wR []) (λnf y24 G24 h GN EK=>?_)
 try dsimp only
 refine qq<|sr<|mv Y<|mv Y<|lE h λgR kI h=>ln Y kI<|lE h λjU o5 h=>ls _ Y Y o5<|dn ?_;cases jU;refine cF<|b7<|aV.x<|aV.x<|bw.x<|aV.n ?_;obtain rfl:=O (F h);exact⟨(),EK _ Y,wR []⟩;refine cT<|bu<|aV.n<|qq<|bj<|qq ?_;refine bH (V h) (λj34=>AS.cZ 68 [(0,.sv (slc 5 (List.map ew x0))),(1,.sv (slc 5 (List.map ew x1))),(5,.sv (.v (.int .i64 nf))),(67,.sv (.v (.bool j34)))] [] []) (λh=>?_) (λCU h=>?_);refine bf mixed<|mv Y<|mv Y ?_;obtain⟨⟨nP,rz,Rw,⟨Rx,Ry⟩⟩,q9,h⟩:=bS h;refine ix Y Y q9<|RT.bG .none Y T Y<|lr Y Y<|mv Y<|mv Y ?_;obtain⟨⟨Ht,Rz,RA,⟨RB,RC⟩⟩,nk,h⟩:=bS h;refine ix Y Y nk<|RT.bG .none Y T Y<|lr Y Y<|lE h λnh o6 h=>ne _ Y Y (I1 (p:=nP) (q:=Ht) o6)<|mv Y<|bE h λHu xx h=>?_;cases nh;refine gm Y<|gm Y ?_;obtain⟨⟨Dk,xV,RE,⟨RF,RG⟩⟩,xb,xx⟩:=bS (F xx);refine RT.Gc (.some Y Y) Y Y T xb<|RT.bG (.some Y Y) Y T Y<|gr Y Y<|gm Y<|gm Y ?_;obtain⟨⟨oZ,m7,Dz,⟨DA,RH⟩⟩,xu,xx⟩:=bS xx;refine RT.Gc (.some Y Y) Y Y T xu<|RT.bG (.some Y Y) Y T Y<|gr Y Y<|lE xx λmZ CG xx=>gq _ Y Y (Pp (p:=xV) (q:=m7) CG) ?_;obtain rfl:=O xx;refine pF Y<|mv Y<|bE h λaaQ xy h=>?_;cases mZ;refine gm Y<|gm Y ?_;obtain⟨⟨Dn,Dp,Hv,⟨RI,RJ⟩⟩,GJ,xy⟩:=bS (F xy)
 refine RT.Gc (.some Y Y) Y Y T GJ<|RT.bG (.some Y Y) Y T Y<|gr Y Y<|gm Y<|gm Y ?_;obtain⟨⟨Dl,Dm,Hw,⟨RK,RL⟩⟩,Q0,xy⟩:=bS xy;refine RT.Gc (.some Y Y) Y Y T Q0<|RT.bG (.some Y Y) Y T Y<|gr Y Y<|lE xy λuI EG xy=>gq _ Y Y (I1 (p:=Hv) (q:=Hw) EG) ?_;obtain rfl:=O xy;refine pF Y<|mv Y<|bE h λaaR uN h=>?_;cases uI;refine gm Y<|gm Y ?_;obtain⟨⟨RM,RN,RO,⟨Lh,Li⟩⟩,Q2,uN⟩:=bS (F uN);refine RT.Gc (.some Y Y) Y Y T Q2<|RT.bG (.some Y Y) Y T Y<|RT.mS (cs:=[_,_]) (.some Y Y) Y T Y Y<|gm Y<|gm Y ?_;obtain⟨⟨RQ,RR,RU,⟨Lj,Lk⟩⟩,ZE,uN⟩:=bS uN;refine RT.Gc (.some Y Y) Y Y T ZE<|RT.bG (.some Y Y) Y T Y<|RT.mS (cs:=[_,_]) (.some Y Y) Y T Y Y<|bE uN λPt ZF uN=>gc (pC ZF) ⟨Y,Y,aq⟩<|lE uN λFq Q5 uN=>YE Y _ Q5 ?_;obtain rfl:=O uN;refine pF Y ?_;refine RT.done ⟨by kernel_rfl,?_⟩;exact aV.n<|⟨Fq,h,wR []⟩;obtain rfl:=O (V uN);refine ww<|ww<|ww<|ww<|ww<|ww<|ww<|ww<|ww<|ww<|ww<|ww<|pT Y ?_;refine RT.done ⟨by kernel_rfl,?_⟩;exact aV.n<|⟨true,h,wR []⟩;obtain rfl:=O (V xy);refine ww<|ww<|ww<|ww<|ww<|ww<|ww<|ww<|ww<|ww<|ww<|pT Y<|mv Y<|bE h λaaS N6 h=>?_;obtain rfl:=O (V N6);refine ww<|ww<|ww<|ww<|ww<|ww<|ww<|ww<|ww<|ww<|ww<|ww<|pT Y ?_;refine RT.done ⟨by kernel_rfl,?_⟩;exact aV.n<|⟨true,h,wR []⟩;obtain rfl:=O (V xx)
 refine ww<|ww<|ww<|ww<|ww<|ww<|ww<|ww<|ww<|ww<|ww<|pT Y<|mv Y<|bE h λaaT N7 h=>?_;obtain rfl:=O (V N7);refine ww<|ww<|ww<|ww<|ww<|ww<|ww<|ww<|ww<|ww<|ww<|pT Y<|mv Y<|bE h λaaU N8 h=>?_;obtain rfl:=O (V N8);refine ww<|ww<|ww<|ww<|ww<|ww<|ww<|ww<|ww<|ww<|ww<|ww<|pT Y ?_;refine RT.done ⟨by kernel_rfl,?_⟩;exact aV.n<|⟨true,h,wR []⟩
 try dsimp only
 refine aV.n ?_;cases CU;refine cF<|bu<|bw.n<|aV.n<|aX<|mv Y<|lE (F h) λjI oK h=>ad _ Y Y oK<|ag Y<|RT.done ?_;obtain rfl:=O h;exact aV.n ⟨jI,GN _ Y,wR []⟩;refine cT<|sr<|ag Y<|dn<|bg<|bw.r<|aV.r ?_;obtain rfl:=O (V h);have aaV:=EK _ Y;subst aaV;refine aV.r<|bw.r<|aV.r<|aV.r ?_;obtain rfl:=O kx;exact R1 Y;subst GM
 try dsimp only
 refine aV.n<|sr<|ag Y<|dn<|bg ?_;obtain rfl:=O kx;exact R1 Y;refine cT<|sr<|ag Y<|dn<|bg<|aV.r ?_;obtain rfl:=O (V h);exact R1 Y
end
section
open Go.Fw
noncomputable def eN(x0:List (List Qr)):Option (Bool):=(cH (λ(PD:Int×Int)=>match PD with|⟨RV,zC⟩=>(show Option ((Int×Int)⊕((Unit)⊕(Bool)))from(some (x0.length:Int)).bind λx8=>(some (decide ((zC:Int)<x8))).bind λx9=>(bif x9 then(cq x0 zC).bind λjU=>(some (jU.length:Int)).bind λjI=>(some (decide ((40:Int)<jI))).bind λgV=>(bif gV then some (.inr (.inr true))else(cH (λ(PE:Int×Int)=>match PE with|⟨DB,Bi⟩=>(show Option ((Int×Int)⊕(Int))from(cq x0 zC).bind λja=>(some (ja.length:Int)).bind λjx=>(some (decide ((Bi:Int)<jx))).bind λfe=>(bif fe then(some (IntKind.i64.wrap (DB+1))).bind λlX=>(cq x0 zC).bind λmX=>(cq mX Bi).bind λ⟨⟨xZ,tX⟩,⟨Ll,Lm⟩⟩=>(some (tX.length:Int)).bind λvc=>(some (min (100:Int) vc)).bind λmZ=>(some (IntKind.i64.wrap (lX+mZ))).bind λou=>(cq x0 zC).bind λAd=>(cq Ad Bi).bind λ⟨⟨Bj,Bl⟩,⟨Ln,DC⟩⟩=>(some (DC.length:Int)).bind λvf=>(some (min (100:Int) vf)).bind λIt=>(some (IntKind.i64.wrap (ou+It))).bind λuI=>(some (IntKind.i64.wrap (Bi+1))).bind λjH=>some (.inl (uI,jH))else some (.inr DB)))) (RV,0)).bind λuj=>(some (decide ((400:Int)<uj))).bind λNv=>(bif Nv then some (.inr (.inr true))else(some (IntKind.i64.wrap (zC+1))).bind λlq=>some (.inl (uj,lq))))else some (.inr (.inl ()))))) (0,0)).bind λe16=>match e16 with|.inr v16=>some v16|.inl _=>some false
end
section
open Go.Fw Go.Fw.Z Go.RowKit
theorem xC{x0:List (List Qr)}{r:Bool}(h:eN x0=some r):Pure ah 9 [slc 1 (List.map (eS 4 eQ) x0)] (az r):=by
 refine bL Try.func9 Y (af Y) (λgz M vs hvs=>?_);unfold eN at h;refine sr<|ag Y<|dn<|sr<|ag Y<|dn<|qq<|sr<|ag Y<|dn<|bE h λe16 aaX On=>?_;refine bW (λ(Oo:Unit)=>AS.cZ 55 [] [] []) (λOo=>.inl Oo=e16) ?_ (λOo aaY=>?_);refine bj ?_;refine bX aaX (λPD=>AS.cZ 55 [(0,.sv (slc 1 (List.map (eS 4 eQ) x0))),(3,ai PD.1),(4,ai PD.2)] [] []) (wR []) (λPD y16 G16 h aaZ Oq=>?_);obtain⟨RV,zC⟩:=PD
 try dsimp only
 refine qq<|sr<|mv Y<|mv Y<|lE h λx8 h8 h=>ln Y h8<|lE h λx9 h9 h=>ls _ Y Y h9<|dn ?_;cases x9;refine cF<|b7<|aV.x<|aV.x<|bw.x<|aV.n ?_;obtain rfl:=O (F h);exact⟨(),Oq _ Y,wR []⟩;refine cT<|bu<|aV.n<|qq<|bj<|qq<|sr<|mv Y<|mv Y<|bE (V h) λjU o5 h=>ix Y Y o5<|lr Y Y<|lE h λjI oK h=>ln Y oK<|lE h λgV mw h=>gt _ Y Y mw<|dn ?_;cases gV;refine fs<|qq<|sr<|ag Y<|dn<|bE (F h) λe22 aa0 EZ=>?_;refine bW (λ(uj:Int)=>AS.cZ 55 [(0,.sv (slc 1 (List.map (eS 4 eQ) x0))),(3,ai uj),(4,ai zC)] [] []) (λuj=>uj=e22) ?_ (λuj aa1=>?_);refine bj ?_;refine bX aa0 (λPE=>AS.cZ 55 [(0,.sv (slc 1 (List.map (eS 4 eQ) x0))),(3,ai PE.1),(4,ai zC),(5,ai PE.2)] [] []) (wR []) (λPE y22 G22 h aa2 aa3=>?_);obtain⟨DB,Bi⟩:=PE
 try dsimp only
 refine qq<|sr<|mv Y<|mv Y<|mv Y<|bE h λja pX h=>ix Y Y pX<|lr Y Y<|lE h λjx oJ h=>ln Y oJ<|lE h λfe nk h=>ls _ Y Y nk<|dn ?_;cases fe;refine cF<|b7<|aV.x<|aV.x<|bw.x<|aV.n ?_;obtain rfl:=O (F h);exact⟨DB,aa3 _ Y,wR []⟩;refine cT<|bu<|aV.n<|qq<|bj<|bf mixed<|mv Y<|lE (V h) λlX wm h=>ad _ Y Y wm<|mv Y<|mv Y<|bE h λmX xb h=>ix Y Y xb<|lr Y Y<|mv Y ?_;obtain⟨⟨⟨xZ,tX⟩,⟨Ll,Lm⟩⟩,pZ,h⟩:=bS h;refine ix Y Y pZ<|RT.bG .none Y T Y<|RT.bG .none Y T Y<|lr Y Y<|lE h λvc EC h=>ln Y EC<|lE h λmZ CG h=>RT.min .none _ Y Y T (Qi (p:=100) (q:=vc) CG)<|lE h λou tQ h=>ad _ Y Y tQ<|mv Y<|mv Y<|bE h λAd Fs h=>ix Y Y Fs<|lr Y Y<|mv Y ?_;obtain⟨⟨⟨Bj,Bl⟩,⟨Ln,DC⟩⟩,h46,h⟩:=bS h;refine ix Y Y h46<|RT.bG .none Y T Y<|RT.bG .none Y T Y<|lr Y Y<|lE h λvf EF h=>ln Y EF<|lE h λIt Jk h=>RT.min .none _ Y Y T (Qi (p:=100) (q:=vf) Jk)<|lE h λuI EG h=>ad _ Y Y EG<|ag Y ?_;refine RT.done ⟨by kernel_rfl,?_⟩;refine bw.n<|aV.n<|aX<|mv Y<|lE h λjH qx h=>ad _ Y Y qx<|ag Y<|RT.done ?_;obtain rfl:=O h;exact aV.n ⟨(uI,jH),aa2 _ Y,wR []⟩;subst aa1
 try dsimp only
 refine aV.n<|sr<|mv Y<|lE EZ λNv V8 EZ=>gt _ Y Y V8<|dn ?_;cases Nv;refine cF<|bu<|bw.n<|aV.n<|aX<|mv Y<|lE (F EZ) λlq pV EZ=>ad _ Y Y pV<|ag Y<|RT.done ?_;obtain rfl:=O EZ;exact aV.n ⟨(uj,lq),aaZ _ Y,wR []⟩;refine cT<|sr<|ag Y<|dn<|bg<|bw.r<|aV.r ?_;obtain rfl:=O (V EZ);have Ot:=Oq _ Y;subst Ot;refine aV.r<|bw.r<|aV.r<|aV.r ?_;obtain rfl:=O On;exact R1 Y;refine cT<|sr<|ag Y<|dn<|bg<|aV.r<|bw.r<|aV.r ?_;obtain rfl:=O (V h);have Ot:=Oq _ Y;subst Ot;refine aV.r<|bw.r<|aV.r<|aV.r ?_;obtain rfl:=O On;exact R1 Y;subst aaY
 try dsimp only
 refine aV.n<|sr<|ag Y<|dn<|bg ?_;obtain rfl:=O On;exact R1 Y
end
section
open Go.Fw
noncomputable def gJ(x0:List Mv):Option (Bool):=(some (x0.length:Int)).bind λx6=>(some (decide ((60:Int)<x6))).bind λx7=>(bif x7 then some true else(cH (λ(vi:Int×(List Qr))=>match vi with|⟨qg,zD⟩=>(show Option ((Int×(List Qr))⊕((Unit)⊕(Bool)))from(some (x0.length:Int)).bind λfU=>(some (decide ((qg:Int)<fU))).bind λlq=>(bif lq then(cq x0 qg).bind λ⟨kS,kT,Bm,⟨⟨rK,yg⟩,⟨yh,yj⟩⟩⟩=>(w9 64 zD [⟨⟨rK,yg⟩,⟨yh,yj⟩⟩]).bind λja=>di (λ(wL:Bool)=>di (λ(rL:(List Qr))=>(some (IntKind.i64.wrap (qg+1))).bind λgR=>some (.inl (gR,rL))) λRW=>(bif wL then(eN [ja]).bind λkH=>(bif kH then some (.inr (.inr true))else RW [])else RW ja)) λK15=>(some (Int.tmod qg 40)).bind λjx=>(some (decide ((jx:Int)=39))).bind λfe=>(bif fe then some true else(some (x0.length:Int)).bind λlX=>(some (IntKind.i64.wrap (lX-1))).bind λiu=>(some (decide ((qg:Int)=iu))).bind λow=>some ow).bind λzE=>K15 zE else some (.inr (.inl ()))))) (0,[])).bind λEz=>match Ez with|.inr v12=>some v12|.inl _=>some false)
noncomputable def dI(x0:Zr)(x1:Int):Option (Bool):=match x0 with|⟨bT,bN⟩=>(bp x1).bind λ⟨RX,RY⟩=>(fN ⟨bT,bN⟩ ⟨RX,RY⟩).bind λx8=>some x8
noncomputable def cE(x0:Int)(x1:Int):Option (Qr):=(iA x0 x1).bind λ⟨⟨⟨Hx,Hy⟩,⟨Hz,HA⟩⟩,Jl⟩=>some ⟨⟨Hx,Hy⟩,⟨Hz,HA⟩⟩
noncomputable def dZ(x0:List En):Option (List En):=(cH (λ(s6:Int×(List En))=>match s6 with|⟨JB,zF⟩=>(show Option ((Int×(List En))⊕((List En)))from(some (x0.length:Int)).bind λx7=>(some (decide ((JB:Int)<x7))).bind λx8=>(bif x8 then(cq x0 JB).bind λ⟨tR,tW,DD,⟨DE,DF⟩⟩=>(w9 56 zF [⟨tR,tW,DD,⟨DE,DF⟩⟩]).bind λgV=>(some (IntKind.i64.wrap (JB+1))).bind λfU=>some (.inl (fU,gV))else some (.inr zF)))) (0,[])).bind λqh=>some qh
noncomputable def ga:Option (Bool):=(jr 3).bind λ⟨lH,AW⟩=>(cE 5 2).bind λ⟨⟨kS,kT⟩,⟨Bm,rK⟩⟩=>(bJ lH AW 1 1 0 ⟨⟨kS,kT⟩,⟨Bm,rK⟩⟩).bind λ⟨fJ,l2⟩=>(cE (-7) 1).bind λ⟨⟨ya,tY⟩,⟨yc,wD⟩⟩=>(bJ lH l2 2 1 0 ⟨⟨ya,tY⟩,⟨yc,wD⟩⟩).bind λ⟨ja,l4⟩=>(cE 1 1).bind λ⟨⟨pz,pA⟩,⟨pB,ue⟩⟩=>(bJ lH l4 3 1 0 ⟨⟨pz,pA⟩,⟨pB,ue⟩⟩).bind λ⟨fe,l6⟩=>(cE 1 1).bind λ⟨⟨iH,rM⟩,⟨Lo,Lp⟩⟩=>(bJ lH l6 0 1 0 ⟨⟨iH,rM⟩,⟨Lo,Lp⟩⟩).bind λ⟨nh,l8⟩=>(cE 1 1).bind λ⟨⟨uf,ug⟩,⟨Lq,Lr⟩⟩=>(bJ lH l8 1 5 0 ⟨⟨uf,ug⟩,⟨Lq,Lr⟩⟩).bind λ⟨ow,vg⟩=>(cE 1 1).bind λ⟨⟨ko,jA⟩,⟨rA,rB⟩⟩=>(bJ lH vg 1 4 8 ⟨⟨ko,jA⟩,⟨rA,rB⟩⟩).bind λ⟨mY,Hj⟩=>(fW lH Hj).bind λqT=>di (λ(HB:Bool)=>some HB) λaa6=>(cE 5 2).bind λ⟨⟨oZ,m7⟩,⟨Dz,DA⟩⟩=>(dY ⟨⟨oZ,m7⟩,⟨Dz,DA⟩⟩).bind λ⟨o8,o9⟩=>(dI ⟨o8,o9⟩ 2).bind λvc=>(bif vc then(cE 7 2).bind λ⟨⟨m8,m9⟩,⟨AY,AZ⟩⟩=>(dY ⟨⟨m8,m9⟩,⟨AY,AZ⟩⟩).bind λ⟨A0,A3⟩=>(dI ⟨A0,A3⟩ 4).bind λr5=>some r5 else some false).bind λDG=>(bif DG then(cE (-5) 2).bind λ⟨⟨Ls,Lt⟩,⟨Lu,Lw⟩⟩=>(dY ⟨⟨Ls,Lt⟩,⟨Lu,Lw⟩⟩).bind λ⟨Bj,Bl⟩=>(dI ⟨Bj,Bl⟩ (-2)).bind λAG=>some AG else some false).bind λJC=>(bif JC then(cE 8 3).bind λ⟨⟨Lx,Ly⟩,⟨Lz,LA⟩⟩=>(dY ⟨⟨Lx,Ly⟩,⟨Lz,LA⟩⟩).bind λ⟨AM,AN⟩=>(dI ⟨AM,AN⟩ 3).bind λuI=>some uI else some false).bind λJD=>(bif JD then(some (decide ((fJ:Int)=0))).bind λJg=>some Jg else some false).bind λJE=>(bif JE then(some (decide ((ja:Int)=0))).bind λEv=>some Ev else some false).bind λJF=>(bif JF then(some (decide ((fe:Int)=1))).bind λPF=>some PF else some false).bind λJG=>(bif JG then(some (decide ((nh:Int)=1))).bind λNg=>some Ng else some false).bind λJH=>(bif JH then(some (decide ((ow:Int)=12))).bind λNk=>some Nk else some false).bind λJI=>(bif JI then(some (decide ((mY:Int)=1))).bind λx76=>some x76 else some false).bind λJJ=>(bif JJ then(some (qT.length:Int)).bind λx80=>(some (decide ((x80:Int)=3))).bind λx81=>some x81 else some false).bind λJK=>(bif JK then(cq qT 0).bind λ⟨LB,LC⟩=>(dI ⟨LB,LC⟩ 5).bind λNl=>some Nl else some false).bind λJM=>(bif JM then(cq qT 1).bind λ⟨DH,DI⟩=>(dI ⟨DH,DI⟩ 2).bind λNm=>some Nm else some false).bind λJN=>(bif JN then(cq qT 2).bind λ⟨LD,LF⟩=>(dI ⟨LD,LF⟩ (-7)).bind λR3=>some R3 else some false).bind λHC=>(bif HC then(gC lH Hj 1).bind λ⟨HD,HE⟩=>(dI ⟨HD,HE⟩ (-5)).bind λy7=>some y7 else some false).bind λHF=>(bif HF then(cw lH Hj).bind λR4=>(some (R4.length:Int)).bind λOu=>(some (decide ((Ou:Int)=2))).bind λE4=>some E4 else some false).bind λHG=>aa6 HG
noncomputable def gK(x0:Nat)(x1:List Mv):Option (Int×(List En)):=(some (IntKind.i64.wrap (x0:Int))).bind λfU=>(some (Int.tmod fU 64)).bind λlq=>(some (IntKind.i64.wrap (1+lq))).bind λgO=>(jr gO).bind λ⟨nK,tO⟩=>(cH (λ(s8:Int×(List En))=>match s8 with|⟨CV,zG⟩=>(show Option ((Int×(List En))⊕((List En)))from(some (x1.length:Int)).bind λiz=>(some (decide ((CV:Int)<iz))).bind λja=>(bif ja then(cq x1 CV).bind λ⟨jc,jd,R5,⟨⟨R6,R7⟩,⟨R8,R9⟩⟩⟩=>(cq x1 CV).bind λ⟨ko,jA,rA,⟨⟨rB,Sa⟩,⟨Sb,Sc⟩⟩⟩=>(cq x1 CV).bind λ⟨o8,o9,AX,⟨⟨Dr,Sd⟩,⟨Se,Sf⟩⟩⟩=>(cq x1 CV).bind λ⟨Sg,Sh,Si,⟨⟨LG,LH⟩,⟨LI,LJ⟩⟩⟩=>(bJ nK zG jc jA AX ⟨⟨LG,LH⟩,⟨LI,LJ⟩⟩).bind λ⟨Cr,vg⟩=>(some (IntKind.i64.wrap (CV+1))).bind λjx=>some (.inl (jx,vg))else some (.inr zG)))) (0,tO)).bind λsX=>some (nK,sX)
end
section
open Go.Fw Go.Fw.Z Go.RowKit
theorem pD{x0:List Mv}{r:Bool}(h:gJ x0=some r):Pure ah 14 [slc 7 (List.map Ax x0)] (az r):=by
 refine bL Try.func14 Y (af Y) (λgz M vs hvs=>?_);unfold gJ at h;refine sr<|ag Y<|dn<|qq<|sr<|mv Y<|lE h λx6 h6 h=>ln Y h6<|lE h λx7 h7 h=>gt _ Y Y h7<|dn ?_;cases x7;refine fs<|sr<|ag Y<|dn<|dg (gp 3 304 26 4 Y Y T)<|qq<|sr<|ag Y<|dn<|bE (F h) λEz GG kq=>?_;refine bW (λ(nN:Unit)=>AS.cZ 35 [] [] []) (λnN=>.inl nN=Ez) ?_ (λnN GH=>?_);refine bj ?_;refine bX GG (λvi=>AS.cZ 35 [(0,.sv (slc 7 (List.map Ax x0))),(3,.row 309),(4,ai vi.1)] [] [(309,TR 26 4 eQ vi.2)]) (eG (λi=>bif Nat.beq i 309 then 304 else i) Y Y Y Y Y ⟨.sv au,.row Y,.sv au,aq⟩ trivial ⟨⟨_,Y,cJ.refl _⟩,aq⟩ (λi hi=>by rw[cG (show i≠309 by omega)];rfl)) (λvi y12 G12 h GI EH=>?_);obtain⟨qg,zD⟩:=vi
 try dsimp only
 refine qq<|sr<|mv Y<|mv Y<|lE h λfU iN h=>ln Y iN<|lE h λlq pV h=>ls _ Y Y pV<|dn ?_;cases lq;refine cF<|b7<|aV.x<|aV.x<|bw.x<|aV.n ?_;obtain rfl:=O (F h);exact⟨(),EH _ Y,wR []⟩;refine cT<|bu<|aV.n<|qq<|bj<|sr<|mo (s:=.row _) Y<|mv Y<|mv Y ?_;obtain⟨⟨kS,kT,Bm,⟨⟨rK,yg⟩,⟨yh,yj⟩⟩⟩,mw,h⟩:=bS (V h);refine ix Y Y mw<|RT.bG .none Y T Y<|RT.mS (cs:=[_,_,_,_]) .none Y T Y Y<|bl (l:=[⟨⟨rK,yg⟩,⟨yh,yj⟩⟩]) (e:=eQ) (.agg Y (.nil)) Y Y Y Y Y Y<|bE h λja pX h=>aR (k:=[⟨⟨rK,yg⟩,⟨yh,yj⟩⟩]) (e:=eQ) Y Y Y pX<|an (s:=.row _) Y<|dn<|qq ?_;refine bH h (λj15=>AS.cZ 35 [(0,.sv (slc 7 (List.map Ax x0))),(3,.row 21),(4,ai qg),(31,aj j15)] [] [(21,TR 26 4 eQ ja)]) (λh=>?_) (λwL h=>?_);refine aX<|mv Y<|lE h λjx oJ h=>RT.rem .none _ Y Y T (by decide) oJ<|lE h λfe nk h=>eq _ Y Y (qw (p:=jx) (q:=39) nk)<|mv Y<|bE h λzE qc h=>?_;cases fe;refine gm Y<|gm Y<|lE (F qc) λlX wm qc=>gn Y wm<|lE qc λiu lY qc=>RT.sub (.some Y Y) _ Y Y T lY<|lE qc λow xq qc=>Co _ Y Y (qw (p:=qg) (q:=iu) xq) ?_;obtain rfl:=O qc;exact pF Y<|dn<|⟨ow,h,wR []⟩;obtain rfl:=O (V qc);exact ww<|ww<|ww<|ww<|ww<|pT Y<|dn<|⟨true,h,wR []⟩
 try dsimp only
 refine aV.n ?_;refine bH h (λj17=>AS.cZ 35 [(0,.sv (slc 7 (List.map Ax x0))),(3,.row 316),(4,ai qg)] [] [(316,TR 26 4 eQ j17)]) (λh=>?_) (λrL h=>?_);cases wL;exact fs<|⟨ja,(F h),eG (λi=>bif Nat.beq i 316 then 21 else i) Y Y Y Y Y ⟨.sv au,.row Y,.sv au,aq⟩ trivial ⟨⟨_,Y,cJ.refl _⟩,aq⟩ (λi hi=>by rw[cG (show i≠316 by omega)];rfl)⟩;refine cT<|qq<|qq<|dg (ji (i:=21) (E1:=26) (n:=4) (e:=eQ) (l:=ja) Y)<|aX<|mv Y<|bl (l:=[ja]) (e:=(eS 4 eQ)) (.one Y (.nil)) Y Y Y Y Y Y<|bE (V h) λkH pZ h=>cl (xC pZ) ⟨Y,aq⟩<|dn ?_;cases kH;refine fs<|aX<|ag Y<|dn ?_;refine⟨[],(F h),?_⟩
 try dsimp only
 exact Cn (gp 3 320 26 4 Y Y T)<|eG (λi=>bif Nat.beq i 316 then 320 else i) Y Y Y Y Y ⟨.sv au,.row Y,.sv au,aq⟩ trivial ⟨⟨_,Y,cJ.refl _⟩,aq⟩ (λi hi=>by rw[cG (show i≠316 by omega)];rfl);refine cT<|sr<|ag Y<|dn<|bg<|aV.r<|aV.r<|bw.r<|aV.r ?_;obtain rfl:=O (V h);have aba:=EH _ Y;subst aba;refine aV.r<|bw.r<|aV.r<|aV.r ?_;obtain rfl:=O kq;exact R1 Y
 try dsimp only
 refine bw.n<|aV.n<|aX<|mv Y<|lE h λgR kI h=>ad _ Y Y kI<|ag Y<|RT.done ?_;obtain rfl:=O h;exact aV.n ⟨(gR,rL),GI _ Y,eG (λi=>bif Nat.beq i 309 then 316 else i) Y Y Y Y Y ⟨.sv au,.row Y,.sv au,aq⟩ trivial ⟨⟨_,Y,cJ.refl _⟩,aq⟩ (λi hi=>by rw[cG (show i≠309 by omega)];rfl)⟩;subst GH
 try dsimp only
 refine aV.n<|sr<|ag Y<|dn<|bg ?_;obtain rfl:=O kq;exact R1 Y;refine cT<|sr<|ag Y<|dn<|bg<|aV.r ?_;obtain rfl:=O (V h);exact R1 Y
theorem fE{x0:Zr}{x1:Int}{r:Bool}(h:dI x0 x1=some r):Pure ah 20 [.agg (eZ x0),ay x1] (az r):=by
 obtain⟨bT,bN⟩:=x0;refine bL Try.func20 Y (af Y) (λgz M vs hvs=>?_);unfold dI at h;refine sr<|bx Y<|ag Y<|dn<|qq<|bf mixed<|ld Y Y (.k2 Y Y)<|mv Y ?_;obtain⟨⟨RX,RY⟩,h7,h⟩:=bS h;refine cl (fM h7) ⟨Y,aq⟩<|bE h λx8 h8 h=>cl (pC h8) ⟨Y,Y,aq⟩<|ag Y ?_;refine RT.done ⟨by kernel_rfl,?_⟩;refine aV.n<|bg ?_;obtain rfl:=O h;exact R1 Y
theorem dr{x0:Int}{x1:Int}{r:Qr}(h:cE x0 x1=some r):Pure ah 27 [ay x0,ay x1] (.agg (eQ r)):=by
 refine bL Try.func27 Y (af Y) (λgz M vs hvs=>?_);unfold cE at h;refine sr<|al (cs:=[az false,ax,az false,ax]) (by exact⟨au,aB,au,aB,aq⟩) Y<|dn<|sr<|mv Y<|mv Y ?_;obtain⟨⟨⟨⟨Hx,Hy⟩,⟨Hz,HA⟩⟩,Jl⟩,iN,h⟩:=bS h;refine cl (tZ iN) ⟨Y,Y,aq⟩<|mv Y<|ex Y Y<|ex Y Y<|al (cs:=[az false,ax,az false,ax]) (by exact⟨au,aB,au,aB,aq⟩) Y<|so Y Y Y<|ag Y<|dn<|sr<|ld Y Y (.k4 Y Y Y Y)<|so Y Y Y<|dn<|bg ?_;obtain rfl:=O h;exact RZ (.agg Y Y (.k4 Y Y Y Y) Y (.nil))
theorem ij{x0:List En}{r:List En}(h:dZ x0=some r):Pure ah 23 [slc 5 (List.map ew x0)] (slc 5 (List.map ew r)):=by
 refine bL Try.func23 Y (af Y) (λgz M vs hvs=>?_);unfold dZ at h;refine sr<|aI Y (aB (n:=5) (e:=ew))<|dn<|sr<|ag Y<|dn<|dg (gp 3 304 88 5 Y Y T)<|qq<|sr<|ag Y<|dn<|bE h λe6 QX pY=>?_;refine bW (λ(qh:(List En))=>AS.cZ 19 [(3,.row 306)] [] [(306,TR 88 5 ew qh)]) (λqh=>qh=e6) ?_ (λqh QY=>?_);refine bj ?_;refine bX QX (λs6=>AS.cZ 19 [(0,.sv (slc 5 (List.map ew x0))),(3,.row 306),(4,ai s6.1)] [] [(306,TR 88 5 ew s6.2)]) (eG (λi=>bif Nat.beq i 306 then 304 else i) Y Y Y Y Y ⟨.sv au,.row Y,.sv au,aq⟩ trivial ⟨⟨_,Y,cJ.refl _⟩,aq⟩ (λi hi=>by rw[cG (show i≠306 by omega)];rfl)) (λs6 y6 G6 h QZ Ny=>?_);obtain⟨JB,zF⟩:=s6
 try dsimp only
 refine qq<|sr<|mv Y<|mv Y<|lE h λx7 h7 h=>ln Y h7<|lE h λx8 h8 h=>ls _ Y Y h8<|dn ?_;cases x8;refine cF<|b7<|aV.x<|aV.x<|bw.x<|aV.n ?_;obtain rfl:=O (F h);exact⟨zF,Ny _ Y,wR []⟩;refine cT<|bu<|aV.n<|qq<|bj<|aX<|mo (s:=.row _) Y<|mv Y<|mv Y ?_;obtain⟨⟨tR,tW,DD,⟨DE,DF⟩⟩,o5,h⟩:=bS (V h);refine ix Y Y o5<|RT.mS (cs:=[_,_,_,_,_]) .none Y T Y Y<|bl (l:=[⟨tR,tW,DD,⟨DE,DF⟩⟩]) (e:=ew) (.agg Y (.nil)) Y Y Y Y Y Y<|bE h λgV mw h=>aR (k:=[⟨tR,tW,DD,⟨DE,DF⟩⟩]) (e:=ew) Y Y Y mw<|an (s:=.row _) Y<|RT.done<|bw.n<|aV.n<|aX<|mv Y<|lE h λfU iN h=>ad _ Y Y iN<|ag Y<|RT.done ?_;obtain rfl:=O h;exact aV.n ⟨(fU,gV),QZ _ Y,eG (λi=>bif Nat.beq i 306 then 17 else i) Y Y Y Y Y ⟨.sv au,.row Y,.sv au,aq⟩ trivial ⟨⟨_,Y,cJ.refl _⟩,aq⟩ (λi hi=>by rw[cG (show i≠306 by omega)];rfl)⟩;subst QY
 try dsimp only
 refine aV.n<|sr<|mo (s:=.row _) Y<|an (s:=.row _) Y<|dn<|dg (ji (i:=306) (E1:=88) (n:=5) (e:=ew) (l:=qh) Y)<|bg ?_;obtain rfl:=O pY;exact R1 Y
set_option maxHeartbeats 4000000 in
theorem nY{r:Bool}(h:ga=some r):Pure ah 10 [] (az r):=by
 refine bL Try.func10 Y (af Y) (λgz M vs hvs=>?_);unfold ga at h;refine sr<|ag Y<|dn<|sr ?_;obtain⟨⟨lH,AW⟩,pV,h⟩:=bS h;refine RT.Dv .none (uh pV) [302] (by decide) Y ⟨⟨Y,T⟩,aq⟩ Y ⟨Y,aq⟩ T Y Y<|mo (s:=.cmp _ _) Y<|RT.rI .none Y Y T<|RT.rI .none Y Y T<|an (s:=.ptr _ _) Y<|ag Y<|dn<|qq<|sr<|mv Y<|ne false Y Y (by decide)<|dn<|fs<|sr<|mo (s:=.ptr _ _) Y ?_;obtain⟨⟨⟨kS,kT⟩,⟨Bm,rK⟩⟩,mw,h⟩:=bS h;refine cl (dr mw) ⟨Y,Y,aq⟩ ?_;obtain⟨⟨fJ,l2⟩,jW,h⟩:=bS h;refine RT.rH .none (cD jW) 11 [302] [304] Y ⟨Y,aq⟩ (by decide) (by decide) Y ⟨⟨Y,T⟩,aq⟩ Y Y (.cons Y (.k4 Y Y Y Y)) T<|ag Y<|dn<|sr<|mo (s:=.ptr _ _) Y ?_;obtain⟨⟨⟨ya,tY⟩,⟨yc,wD⟩⟩,my,h⟩:=bS h;refine cl (dr my) ⟨Y,Y,aq⟩ ?_;obtain⟨⟨ja,l4⟩,pX,h⟩:=bS h;refine RT.rH .none (cD pX) 11 [304] [306] Y ⟨Y,aq⟩ (by decide) (by decide) Y ⟨⟨Y,T⟩,aq⟩ Y Y (.cons Y (.k4 Y Y Y Y)) T<|ag Y<|dn<|sr<|mo (s:=.ptr _ _) Y ?_;obtain⟨⟨⟨pz,pA⟩,⟨pB,ue⟩⟩,oJ,h⟩:=bS h;refine cl (dr oJ) ⟨Y,Y,aq⟩ ?_;obtain⟨⟨fe,l6⟩,nk,h⟩:=bS h;refine RT.rH .none (cD nk) 11 [306] [308] Y ⟨Y,aq⟩ (by decide) (by decide) Y ⟨⟨Y,T⟩,aq⟩ Y Y (.cons Y (.k4 Y Y Y Y)) T<|ag Y<|dn<|sr<|mo (s:=.ptr _ _) Y ?_;obtain⟨⟨⟨iH,rM⟩,⟨Lo,Lp⟩⟩,qx,h⟩:=bS h;refine cl (dr qx) ⟨Y,Y,aq⟩ ?_;obtain⟨⟨nh,l8⟩,o6,h⟩:=bS h
 refine RT.rH .none (cD o6) 11 [308] [310] Y ⟨Y,aq⟩ (by decide) (by decide) Y ⟨⟨Y,T⟩,aq⟩ Y Y (.cons Y (.k4 Y Y Y Y)) T<|ag Y<|dn<|sr<|mo (s:=.ptr _ _) Y ?_;obtain⟨⟨⟨uf,ug⟩,⟨Lq,Lr⟩⟩,lY,h⟩:=bS h;refine cl (dr lY) ⟨Y,Y,aq⟩ ?_;obtain⟨⟨ow,vg⟩,xq,h⟩:=bS h;refine RT.rH .none (cD xq) 11 [310] [312] Y ⟨Y,aq⟩ (by decide) (by decide) Y ⟨⟨Y,T⟩,aq⟩ Y Y (.cons Y (.k4 Y Y Y Y)) T<|ag Y<|dn<|sr<|mo (s:=.ptr _ _) Y ?_;obtain⟨⟨⟨ko,jA⟩,⟨rA,rB⟩⟩,nj,h⟩:=bS h;refine cl (dr nj) ⟨Y,Y,aq⟩ ?_;obtain⟨⟨mY,Hj⟩,qy,h⟩:=bS h;refine RT.rH .none (cD qy) 11 [312] [314] Y ⟨Y,aq⟩ (by decide) (by decide) Y ⟨⟨Y,T⟩,aq⟩ Y Y (.cons Y (.k4 Y Y Y Y)) T<|ag Y<|dn<|sr<|mo (s:=.ptr _ _) Y<|bE h λqT CF h=>RT.jM .none (sW CF) 11 [314] Y ⟨Y,aq⟩ (by decide) Y Y (.cons Y (.nil)) T<|ag Y<|dn<|qq ?_;refine bH h (λabb=>AS.cZ 112 [(0,aj abb)] [] []) (λh=>?_) (λHB h=>?_);refine aX ?_;obtain⟨⟨⟨oZ,m7⟩,⟨Dz,DA⟩⟩,xu,h⟩:=bS h;refine cl (dr xu) ⟨Y,Y,aq⟩ ?_;obtain⟨⟨o8,o9⟩,zf,h⟩:=bS h;refine cl (ig zf) ⟨Y,aq⟩<|bE h λvc EC h=>cl (fE EC) ⟨Y,Y,aq⟩<|mv Y<|bE h λDG um h=>?_;cases vc;obtain rfl:=O (F um);refine ww<|ww<|ww<|pF Y<|mv Y<|bE h λWb Sj h=>?_;obtain rfl:=O (F Sj);refine ww<|ww<|ww<|pF Y<|mv Y<|bE h λWc Sk h=>?_;obtain rfl:=O (F Sk)
 refine ww<|ww<|ww<|pF Y<|mv Y<|bE h λWd Sl h=>?_;obtain rfl:=O (F Sl);refine ww<|ww<|pF Y<|mv Y<|bE h λWe Sn h=>?_;obtain rfl:=O (F Sn);refine ww<|ww<|pF Y<|mv Y<|bE h λWf So h=>?_;obtain rfl:=O (F So);refine ww<|ww<|pF Y<|mv Y<|bE h λWg Sq h=>?_;obtain rfl:=O (F Sq);refine ww<|ww<|pF Y<|mv Y<|bE h λWh Sr h=>?_;obtain rfl:=O (F Sr);refine ww<|ww<|pF Y<|mv Y<|bE h λWi Ss h=>?_;obtain rfl:=O (F Ss);refine ww<|ww<|pF Y<|mv Y<|bE h λWj St h=>?_;obtain rfl:=O (F St);refine ww<|ww<|ww<|pF Y<|mv Y<|bE h λWk Su h=>?_;obtain rfl:=O (F Su);refine ww<|ww<|ww<|ww<|pF Y<|mv Y<|bE h λWm Sv h=>?_;obtain rfl:=O (F Sv);refine ww<|ww<|ww<|ww<|pF Y<|mv Y<|bE h λSw Sx h=>?_;obtain rfl:=O (F Sx);refine ww<|ww<|ww<|ww<|pF Y<|mv Y<|bE h λSy Sz h=>?_;obtain rfl:=O (F Sz);refine ww<|ww<|ww<|pF Y<|mv Y<|bE h λSA SB h=>?_;obtain rfl:=O (F SB);exact ww<|ww<|ww<|ww<|pF Y<|ag Y<|dn<|⟨false,h,wR []⟩;obtain⟨⟨⟨m8,m9⟩,⟨AY,AZ⟩⟩,tQ,um⟩:=bS (V um);refine gc (dr tQ) ⟨Y,Y,aq⟩ ?_;obtain⟨⟨A0,A3⟩,EE,um⟩:=bS um;refine gc (ig EE) ⟨Y,aq⟩<|bE um λr5 AP um=>gc (fE AP) ⟨Y,Y,aq⟩ ?_;obtain rfl:=O um;refine pT Y<|mv Y<|bE h λWn uo h=>?_;cases r5;obtain rfl:=O (F uo);refine ww<|ww<|ww<|pF Y<|mv Y<|bE h λWo SC h=>?_
 obtain rfl:=O (F SC);refine ww<|ww<|ww<|pF Y<|mv Y<|bE h λWp SD h=>?_;obtain rfl:=O (F SD);refine ww<|ww<|pF Y<|mv Y<|bE h λWq SE h=>?_;obtain rfl:=O (F SE);refine ww<|ww<|pF Y<|mv Y<|bE h λWr SF h=>?_;obtain rfl:=O (F SF);refine ww<|ww<|pF Y<|mv Y<|bE h λWs SG h=>?_;obtain rfl:=O (F SG);refine ww<|ww<|pF Y<|mv Y<|bE h λWt SH h=>?_;obtain rfl:=O (F SH);refine ww<|ww<|pF Y<|mv Y<|bE h λWu SI h=>?_;obtain rfl:=O (F SI);refine ww<|ww<|pF Y<|mv Y<|bE h λWv SJ h=>?_;obtain rfl:=O (F SJ);refine ww<|ww<|ww<|pF Y<|mv Y<|bE h λWw SK h=>?_;obtain rfl:=O (F SK);refine ww<|ww<|ww<|ww<|pF Y<|mv Y<|bE h λWy SL h=>?_;obtain rfl:=O (F SL);refine ww<|ww<|ww<|ww<|pF Y<|mv Y<|bE h λSM SN h=>?_;obtain rfl:=O (F SN);refine ww<|ww<|ww<|ww<|pF Y<|mv Y<|bE h λSO SP h=>?_;obtain rfl:=O (F SP);refine ww<|ww<|ww<|pF Y<|mv Y<|bE h λSQ SR h=>?_;obtain rfl:=O (F SR);exact ww<|ww<|ww<|ww<|pF Y<|ag Y<|dn<|⟨false,h,wR []⟩;obtain⟨⟨⟨Ls,Lt⟩,⟨Lu,Lw⟩⟩,GD,uo⟩:=bS (V uo);refine gc (dr GD) ⟨Y,Y,aq⟩ ?_;obtain⟨⟨Bj,Bl⟩,h46,uo⟩:=bS uo;refine gc (ig h46) ⟨Y,aq⟩<|bE uo λAG GF uo=>gc (fE GF) ⟨Y,Y,aq⟩ ?_;obtain rfl:=O uo;refine pT Y<|mv Y<|bE h λWz ur h=>?_;cases AG;obtain rfl:=O (F ur)
 refine ww<|ww<|ww<|pF Y<|mv Y<|bE h λWA SS h=>?_;obtain rfl:=O (F SS);refine ww<|ww<|pF Y<|mv Y<|bE h λWB SU h=>?_;obtain rfl:=O (F SU);refine ww<|ww<|pF Y<|mv Y<|bE h λWC SW h=>?_;obtain rfl:=O (F SW);refine ww<|ww<|pF Y<|mv Y<|bE h λWD SX h=>?_;obtain rfl:=O (F SX);refine ww<|ww<|pF Y<|mv Y<|bE h λWE SY h=>?_;obtain rfl:=O (F SY);refine ww<|ww<|pF Y<|mv Y<|bE h λWG SZ h=>?_;obtain rfl:=O (F SZ);refine ww<|ww<|pF Y<|mv Y<|bE h λWH S0 h=>?_;obtain rfl:=O (F S0);refine ww<|ww<|ww<|pF Y<|mv Y<|bE h λWI S3 h=>?_;obtain rfl:=O (F S3);refine ww<|ww<|ww<|ww<|pF Y<|mv Y<|bE h λWJ S4 h=>?_;obtain rfl:=O (F S4);refine ww<|ww<|ww<|ww<|pF Y<|mv Y<|bE h λS5 S6 h=>?_;obtain rfl:=O (F S6);refine ww<|ww<|ww<|ww<|pF Y<|mv Y<|bE h λS7 S8 h=>?_;obtain rfl:=O (F S8);refine ww<|ww<|ww<|pF Y<|mv Y<|bE h λS9 Ta h=>?_;obtain rfl:=O (F Ta);exact ww<|ww<|ww<|ww<|pF Y<|ag Y<|dn<|⟨false,h,wR []⟩;obtain⟨⟨⟨Lx,Ly⟩,⟨Lz,LA⟩⟩,EF,ur⟩:=bS (V ur);refine gc (dr EF) ⟨Y,Y,aq⟩ ?_;obtain⟨⟨AM,AN⟩,Jk,ur⟩:=bS ur;refine gc (ig Jk) ⟨Y,aq⟩<|bE ur λuI EG ur=>gc (fE EG) ⟨Y,Y,aq⟩ ?_;obtain rfl:=O ur;refine pT Y<|mv Y<|bE h λWK DJ h=>?_;cases uI;obtain rfl:=O (F DJ);refine ww<|ww<|pF Y<|mv Y<|bE h λWL Tb h=>?_;obtain rfl:=O (F Tb)
 refine ww<|ww<|pF Y<|mv Y<|bE h λWM Tc h=>?_;obtain rfl:=O (F Tc);refine ww<|ww<|pF Y<|mv Y<|bE h λWN Td h=>?_;obtain rfl:=O (F Td);refine ww<|ww<|pF Y<|mv Y<|bE h λWO Te h=>?_;obtain rfl:=O (F Te);refine ww<|ww<|pF Y<|mv Y<|bE h λWQ Tf h=>?_;obtain rfl:=O (F Tf);refine ww<|ww<|pF Y<|mv Y<|bE h λWR Tg h=>?_;obtain rfl:=O (F Tg);refine ww<|ww<|ww<|pF Y<|mv Y<|bE h λWS Th h=>?_;obtain rfl:=O (F Th);refine ww<|ww<|ww<|ww<|pF Y<|mv Y<|bE h λWT Ti h=>?_;obtain rfl:=O (F Ti);refine ww<|ww<|ww<|ww<|pF Y<|mv Y<|bE h λTj Tk h=>?_;obtain rfl:=O (F Tk);refine ww<|ww<|ww<|ww<|pF Y<|mv Y<|bE h λTl Tm h=>?_;obtain rfl:=O (F Tm);refine ww<|ww<|ww<|pF Y<|mv Y<|bE h λTn To h=>?_;obtain rfl:=O (F To);exact ww<|ww<|ww<|ww<|pF Y<|ag Y<|dn<|⟨false,h,wR []⟩;refine gm Y<|lE (V DJ) λJg NB DJ=>Co _ Y Y (qw (p:=fJ) (q:=0) NB) ?_;obtain rfl:=O DJ;refine pT Y<|mv Y<|bE h λWU DK h=>?_;cases Jg;obtain rfl:=O (F DK);refine ww<|ww<|pF Y<|mv Y<|bE h λWV Tp h=>?_;obtain rfl:=O (F Tp);refine ww<|ww<|pF Y<|mv Y<|bE h λWW Tq h=>?_;obtain rfl:=O (F Tq);refine ww<|ww<|pF Y<|mv Y<|bE h λWX Tr h=>?_;obtain rfl:=O (F Tr);refine ww<|ww<|pF Y<|mv Y<|bE h λWY Ts h=>?_;obtain rfl:=O (F Ts)
 refine ww<|ww<|pF Y<|mv Y<|bE h λWZ Tt h=>?_;obtain rfl:=O (F Tt);refine ww<|ww<|ww<|pF Y<|mv Y<|bE h λW0 Tu h=>?_;obtain rfl:=O (F Tu);refine ww<|ww<|ww<|ww<|pF Y<|mv Y<|bE h λW2 Tv h=>?_;obtain rfl:=O (F Tv);refine ww<|ww<|ww<|ww<|pF Y<|mv Y<|bE h λTw Tx h=>?_;obtain rfl:=O (F Tx);refine ww<|ww<|ww<|ww<|pF Y<|mv Y<|bE h λTy Tz h=>?_;obtain rfl:=O (F Tz);refine ww<|ww<|ww<|pF Y<|mv Y<|bE h λTA TB h=>?_;obtain rfl:=O (F TB);exact ww<|ww<|ww<|ww<|pF Y<|ag Y<|dn<|⟨false,h,wR []⟩;refine gm Y<|lE (V DK) λEv KP DK=>Co _ Y Y (qw (p:=ja) (q:=0) KP) ?_;obtain rfl:=O DK;refine pT Y<|mv Y<|bE h λW4 DL h=>?_;cases Ev;obtain rfl:=O (F DL);refine ww<|ww<|pF Y<|mv Y<|bE h λW5 TC h=>?_;obtain rfl:=O (F TC);refine ww<|ww<|pF Y<|mv Y<|bE h λW6 TD h=>?_;obtain rfl:=O (F TD);refine ww<|ww<|pF Y<|mv Y<|bE h λW7 TE h=>?_;obtain rfl:=O (F TE);refine ww<|ww<|pF Y<|mv Y<|bE h λW8 TF h=>?_;obtain rfl:=O (F TF);refine ww<|ww<|ww<|pF Y<|mv Y<|bE h λW9 TG h=>?_;obtain rfl:=O (F TG);refine ww<|ww<|ww<|ww<|pF Y<|mv Y<|bE h λXa TH h=>?_;obtain rfl:=O (F TH);refine ww<|ww<|ww<|ww<|pF Y<|mv Y<|bE h λTI TJ h=>?_;obtain rfl:=O (F TJ);refine ww<|ww<|ww<|ww<|pF Y<|mv Y<|bE h λTK TL h=>?_;obtain rfl:=O (F TL)
 refine ww<|ww<|ww<|pF Y<|mv Y<|bE h λTM TN h=>?_;obtain rfl:=O (F TN);exact ww<|ww<|ww<|ww<|pF Y<|ag Y<|dn<|⟨false,h,wR []⟩;refine gm Y<|lE (V DL) λPF h64 DL=>Co _ Y Y (qw (p:=fe) (q:=1) h64) ?_;obtain rfl:=O DL;refine pT Y<|mv Y<|bE h λXb DM h=>?_;cases PF;obtain rfl:=O (F DM);refine ww<|ww<|pF Y<|mv Y<|bE h λXc TO h=>?_;obtain rfl:=O (F TO);refine ww<|ww<|pF Y<|mv Y<|bE h λXd TP h=>?_;obtain rfl:=O (F TP);refine ww<|ww<|pF Y<|mv Y<|bE h λXe TQ h=>?_;obtain rfl:=O (F TQ);refine ww<|ww<|ww<|pF Y<|mv Y<|bE h λXf TS h=>?_;obtain rfl:=O (F TS);refine ww<|ww<|ww<|ww<|pF Y<|mv Y<|bE h λXg TT h=>?_;obtain rfl:=O (F TT);refine ww<|ww<|ww<|ww<|pF Y<|mv Y<|bE h λTU TV h=>?_;obtain rfl:=O (F TV);refine ww<|ww<|ww<|ww<|pF Y<|mv Y<|bE h λTW TX h=>?_;obtain rfl:=O (F TX);refine ww<|ww<|ww<|pF Y<|mv Y<|bE h λTY TZ h=>?_;obtain rfl:=O (F TZ);exact ww<|ww<|ww<|ww<|pF Y<|ag Y<|dn<|⟨false,h,wR []⟩;refine gm Y<|lE (V DM) λNg Zw DM=>Co _ Y Y (qw (p:=nh) (q:=1) Zw) ?_;obtain rfl:=O DM;refine pT Y<|mv Y<|bE h λXh DN h=>?_;cases Ng;obtain rfl:=O (F DN);refine ww<|ww<|pF Y<|mv Y<|bE h λXi T1 h=>?_;obtain rfl:=O (F T1);refine ww<|ww<|pF Y<|mv Y<|bE h λXj T3 h=>?_;obtain rfl:=O (F T3)
 refine ww<|ww<|ww<|pF Y<|mv Y<|bE h λXk T4 h=>?_;obtain rfl:=O (F T4);refine ww<|ww<|ww<|ww<|pF Y<|mv Y<|bE h λXl T5 h=>?_;obtain rfl:=O (F T5);refine ww<|ww<|ww<|ww<|pF Y<|mv Y<|bE h λT6 T7 h=>?_;obtain rfl:=O (F T7);refine ww<|ww<|ww<|ww<|pF Y<|mv Y<|bE h λT8 T9 h=>?_;obtain rfl:=O (F T9);refine ww<|ww<|ww<|pF Y<|mv Y<|bE h λUa Ub h=>?_;obtain rfl:=O (F Ub);exact ww<|ww<|ww<|ww<|pF Y<|ag Y<|dn<|⟨false,h,wR []⟩;refine gm Y<|lE (V DN) λNk ZN DN=>Co _ Y Y (qw (p:=ow) (q:=12) ZN) ?_;obtain rfl:=O DN;refine pT Y<|mv Y<|bE h λXm DO h=>?_;cases Nk;obtain rfl:=O (F DO);refine ww<|ww<|pF Y<|mv Y<|bE h λXn Uc h=>?_;obtain rfl:=O (F Uc);refine ww<|ww<|ww<|pF Y<|mv Y<|bE h λXo Ud h=>?_;obtain rfl:=O (F Ud);refine ww<|ww<|ww<|ww<|pF Y<|mv Y<|bE h λXp Ue h=>?_;obtain rfl:=O (F Ue);refine ww<|ww<|ww<|ww<|pF Y<|mv Y<|bE h λUf Ug h=>?_;obtain rfl:=O (F Ug);refine ww<|ww<|ww<|ww<|pF Y<|mv Y<|bE h λUh Ui h=>?_;obtain rfl:=O (F Ui);refine ww<|ww<|ww<|pF Y<|mv Y<|bE h λUj Uk h=>?_;obtain rfl:=O (F Uk);exact ww<|ww<|ww<|ww<|pF Y<|ag Y<|dn<|⟨false,h,wR []⟩;refine gm Y<|lE (V DO) λx76 h76 DO=>Co _ Y Y (qw (p:=mY) (q:=1) h76) ?_;obtain rfl:=O DO;refine pT Y<|mv Y<|bE h λXq yl h=>?_;cases x76
 obtain rfl:=O (F yl);refine ww<|ww<|ww<|pF Y<|mv Y<|bE h λXr Ul h=>?_;obtain rfl:=O (F Ul);refine ww<|ww<|ww<|ww<|pF Y<|mv Y<|bE h λXs Um h=>?_;obtain rfl:=O (F Um);refine ww<|ww<|ww<|ww<|pF Y<|mv Y<|bE h λUo Up h=>?_;obtain rfl:=O (F Up);refine ww<|ww<|ww<|ww<|pF Y<|mv Y<|bE h λUq Ur h=>?_;obtain rfl:=O (F Ur);refine ww<|ww<|ww<|pF Y<|mv Y<|bE h λUs Ut h=>?_;obtain rfl:=O (F Ut);exact ww<|ww<|ww<|ww<|pF Y<|ag Y<|dn<|⟨false,h,wR []⟩;refine gm Y<|lE (V yl) λx80 h80 yl=>gn Y h80<|lE yl λx81 h81 yl=>Co _ Y Y (qw (p:=x80) (q:=3) h81) ?_;obtain rfl:=O yl;refine pT Y<|mv Y<|bE h λXt ym h=>?_;cases x81;obtain rfl:=O (F ym);refine ww<|ww<|ww<|ww<|pF Y<|mv Y<|bE h λXu Uu h=>?_;obtain rfl:=O (F Uu);refine ww<|ww<|ww<|ww<|pF Y<|mv Y<|bE h λUv Uw h=>?_;obtain rfl:=O (F Uw);refine ww<|ww<|ww<|ww<|pF Y<|mv Y<|bE h λUx Uy h=>?_;obtain rfl:=O (F Uy);refine ww<|ww<|ww<|pF Y<|mv Y<|bE h λUz UA h=>?_;obtain rfl:=O (F UA);exact ww<|ww<|ww<|ww<|pF Y<|ag Y<|dn<|⟨false,h,wR []⟩;refine gm Y ?_;obtain⟨⟨LB,LC⟩,ZP,ym⟩:=bS (V ym);refine RT.Gc (.some Y Y) Y Y T ZP<|RT.mS (cs:=[_,_]) (.some Y Y) Y T Y Y<|bE ym λNl ZR ym=>gc (fE ZR) ⟨Y,Y,aq⟩ ?_;obtain rfl:=O ym;refine pT Y<|mv Y<|bE h λXv yn h=>?_;cases Nl
 obtain rfl:=O (F yn);refine ww<|ww<|ww<|ww<|pF Y<|mv Y<|bE h λUB UC h=>?_;obtain rfl:=O (F UC);refine ww<|ww<|ww<|ww<|pF Y<|mv Y<|bE h λUD UE h=>?_;obtain rfl:=O (F UE);refine ww<|ww<|ww<|pF Y<|mv Y<|bE h λUF UG h=>?_;obtain rfl:=O (F UG);exact ww<|ww<|ww<|ww<|pF Y<|ag Y<|dn<|⟨false,h,wR []⟩;refine gm Y ?_;obtain⟨⟨DH,DI⟩,Q7,yn⟩:=bS (V yn);refine RT.Gc (.some Y Y) Y Y T Q7<|RT.mS (cs:=[_,_]) (.some Y Y) Y T Y Y<|bE yn λNm ZS yn=>gc (fE ZS) ⟨Y,Y,aq⟩ ?_;obtain rfl:=O yn;refine pT Y<|mv Y<|bE h λUH yo h=>?_;cases Nm;obtain rfl:=O (F yo);refine ww<|ww<|ww<|ww<|pF Y<|mv Y<|bE h λUI UJ h=>?_;obtain rfl:=O (F UJ);refine ww<|ww<|ww<|pF Y<|mv Y<|bE h λUL UM h=>?_;obtain rfl:=O (F UM);exact ww<|ww<|ww<|ww<|pF Y<|ag Y<|dn<|⟨false,h,wR []⟩;refine gm Y ?_;obtain⟨⟨LD,LF⟩,ZT,yo⟩:=bS (V yo);refine RT.Gc (.some Y Y) Y Y T ZT<|RT.mS (cs:=[_,_]) (.some Y Y) Y T Y Y<|bE yo λR3 h99 yo=>gc (fE h99) ⟨Y,Y,aq⟩ ?_;obtain rfl:=O yo;refine pT Y<|mv Y<|bE h λUN yp h=>?_;cases R3;obtain rfl:=O (F yp);refine ww<|ww<|ww<|pF Y<|mv Y<|bE h λUO UP h=>?_;obtain rfl:=O (F UP);exact ww<|ww<|ww<|ww<|pF Y<|ag Y<|dn<|⟨false,h,wR []⟩;refine RT.move (.some Y Y) (s:=.ptr _ _) Y T ?_;obtain⟨⟨HD,HE⟩,ND,yp⟩:=bS (V yp)
 refine RT.jM (.some Y Y) (uP ND) 11 [314] Y ⟨Y,aq⟩ (by decide) Y Y (.k2 Y Y) T<|bE yp λy7 GK yp=>gc (fE GK) ⟨Y,Y,aq⟩ ?_;obtain rfl:=O yp;refine pT Y<|mv Y<|bE h λUQ uu h=>?_;cases y7;obtain rfl:=O (F uu);exact ww<|ww<|ww<|ww<|pF Y<|ag Y<|dn<|⟨false,h,wR []⟩;refine RT.move (.some Y Y) (s:=.ptr _ _) Y T<|bE (V uu) λR4 abf uu=>RT.jM (.some Y Y) (eM abf) 11 [314] Y ⟨Y,aq⟩ (by decide) Y Y (.cons Y (.nil)) T<|lE uu λOu abg uu=>gn Y abg<|lE uu λE4 Ov uu=>Co _ Y Y (qw (p:=Ou) (q:=2) Ov) ?_;obtain rfl:=O uu;exact pT Y<|ag Y<|dn<|⟨E4,h,wR []⟩
 try dsimp only
 refine aV.n<|bg ?_;obtain rfl:=O h;exact R1 Y
theorem pE{x0:Nat}{x1:List Mv}{r:Int×(List En)}(h:gK x0 x1=some r):EY ah 15 [.v (.int .u8 ((x0:Nat):Int)),slc 7 (List.map Ax x1)] false [] 66 [.s (ay r.1),.r (TR 43 5 ew r.2)]:=by
 refine Bb Try.func15 Y (af Y) (λgz M vs hvs=>?_);unfold gK at h;refine sr<|ag Y<|dn<|sr<|mv Y<|lE h λfU iN h=>cv _ Y iN<|lE h λlq pV h=>RT.rem .none _ Y Y T (by decide) pV<|lE h λgO kp h=>ad _ Y Y kp ?_;obtain⟨⟨nK,tO⟩,kI,h⟩:=bS h;refine RT.Dv .none (uh kI) [302] (by decide) Y ⟨⟨Y,T⟩,aq⟩ Y ⟨Y,aq⟩ T Y Y<|mo (s:=.cmp _ _) Y<|RT.rI .none Y Y T<|RT.rI .none Y Y T<|an (s:=.ptr _ _) Y<|ag Y<|dn<|qq<|sr<|mv Y<|ne false Y Y (by decide)<|dn<|fs<|qq<|sr<|ag Y<|dn<|bE h λe8 AQ sI=>?_;refine bW (λ(sX:(List En))=>AS.cZ 47 [(5,.ptr 13 0)] [(13,⟨66,[ai nK,.row 305]⟩)] [(305,TR 43 5 ew sX)]) (λsX=>sX=e8) ?_ (λsX AR=>?_);refine bj ?_;refine bX AQ (λs8=>AS.cZ 47 [(1,.sv (slc 7 (List.map Ax x1))),(5,.ptr 13 0),(7,ai s8.1)] [(13,⟨66,[ai nK,.row 305]⟩)] [(305,TR 43 5 ew s8.2)]) (eG (λi=>bif Nat.beq i 305 then 302 else i) Y Y Y Y Y ⟨.sv au,.ptr,.sv au,aq⟩ ⟨⟨_,Y,⟨.sv au,.row Y,aq⟩⟩,aq⟩ ⟨⟨_,Y,cJ.refl _⟩,aq⟩ (λi hi=>by rw[cG (show i≠305 by omega)];rfl)) (λs8 y8 G8 h AT AU=>?_);obtain⟨CV,zG⟩:=s8
 try dsimp only
 refine qq<|sr<|mv Y<|mv Y<|lE h λiz my h=>ln Y my<|lE h λja pX h=>ls _ Y Y pX<|dn ?_;cases ja;refine cF<|b7<|aV.x<|aV.x<|bw.x<|aV.n ?_;obtain rfl:=O (F h);exact⟨zG,AU _ Y,wR []⟩;refine cT<|bu<|aV.n<|qq<|bj<|bf mixed<|mo (s:=.ptr _ _) Y<|mv Y<|mv Y ?_;obtain⟨⟨jc,jd,R5,⟨⟨R6,R7⟩,⟨R8,R9⟩⟩⟩,o6,h⟩:=bS (V h);refine ix Y Y o6<|RT.bG .none Y T Y<|lr Y Y<|mv Y<|mv Y ?_;obtain⟨⟨ko,jA,rA,⟨⟨rB,Sa⟩,⟨Sb,Sc⟩⟩⟩,nj,h⟩:=bS h;refine ix Y Y nj<|RT.bG .none Y T Y<|lr Y Y<|mv Y<|mv Y ?_;obtain⟨⟨o8,o9,AX,⟨⟨Dr,Sd⟩,⟨Se,Sf⟩⟩⟩,zf,h⟩:=bS h;refine ix Y Y zf<|RT.bG .none Y T Y<|lr Y Y<|mv Y<|mv Y ?_;obtain⟨⟨Sg,Sh,Si,⟨⟨LG,LH⟩,⟨LI,LJ⟩⟩⟩,AP,h⟩:=bS h;refine ix Y Y AP<|RT.bG .none Y T Y<|RT.mS (cs:=[_,_,_,_]) .none Y T Y Y ?_;obtain⟨⟨Cr,vg⟩,GD,h⟩:=bS h;refine RT.rH .none (cD GD) 13 [305] [309] Y ⟨Y,aq⟩ (by decide) (by decide) Y ⟨⟨Y,T⟩,aq⟩ Y Y (.cons Y (.k4 Y Y Y Y)) T ?_;refine RT.done ⟨by kernel_rfl,?_⟩;refine bw.n<|aV.n<|aX<|mv Y<|lE h λjx oJ h=>ad _ Y Y oJ<|ag Y<|RT.done ?_;obtain rfl:=O h;exact aV.n ⟨(jx,vg),AT _ Y,eG (λi=>bif Nat.beq i 305 then 309 else i) Y Y Y Y Y ⟨.sv au,.ptr,.sv au,aq⟩ ⟨⟨_,Y,⟨.sv au,.row Y,aq⟩⟩,aq⟩ ⟨⟨_,Y,cJ.refl _⟩,aq⟩ (λi hi=>by rw[cG (show i≠305 by omega)];rfl)⟩;subst AR
 try dsimp only
 refine aV.n<|sr<|mo (s:=.ptr _ _) Y<|an (s:=.ptr _ _) Y<|dn<|bg ?_;obtain rfl:=O sI;exact⟨.inr Y,13,[305],.tmp Y,Y,⟨Y,aq⟩,by decide⟩
end
end Go.Proofs.Ytmiflmkdaeianaa
namespace Go.Fw
section
open Go.RowKit
def Mem.to(M:Mem)(N:Nat):Mem:=λb o=>if b<N then M b o else none
theorem Mem.LK(M:Mem)(N:Nat):(M.to N).le M:=λb o v h=>by
 unfold Mem.to at h;split at h
 ·exact h
 cases h
theorem Mem.JO{M M':Mem}(h:M.le M')(N:Nat):(M.to N).le (M'.to N):=λb o v e=>by
 unfold Mem.to at*;split at e
 ·rename_i hn;rw[if_pos hn];exact h b o v e
 cases e
def od(N:Nat)(s:SV):SV:=⟨λM v=>s.h (M.to N) v,λhM h=>s.mono (Mem.JO hM N) h⟩
theorem zH{N:Nat}{s:SV}:SV.imp (od N s) s:=λM _ h=>s.mono (Mem.LK M N) h
def AV.od(N:Nat):AV->AV
 |.sv s=>.sv (Fw.od N s)
 |x=>x
theorem AV.LL{N:Nat}{x:AV}{j:Nat}:(x.od N).mb j↔x.mb j:=by cases x<;>exact Iff.rfl
theorem AV.LM{N:Nat}{x:AV}{j:Nat}:(x.od N).mr j↔x.mr j:=by cases x<;>exact Iff.rfl
def AS.od(N:Nat)(S:AS):AS:={S with t:=λs=>(S.t s).od N,b:=λj=>(S.b j).map λB=>⟨B.T,B.cells.map (AV.od N)⟩}
theorem AV.Bn{E:Env}{N:Nat}(h:E.M.le (E.M.to N)){x:AV}{v:Value}(hx:x.holds E v):(x.od N).holds E v:=by
 cases x with
 |sv s=>exact s.mono h hx
 |_=>exact hx
theorem cc.od{E:Env}{N:Nat}(h:E.M.le (E.M.to N)):∀{l:List AV} {vs:List Value},cc E l vs->cc E (l.map (AV.od N)) vs
 |[],[],_=>trivial
 |_::_,_::_,hv=>⟨AV.Bn h hv.1,cc.od h hv.2⟩
 |[],_::_,hv=>hv.elim
 |_::_,[],hv=>hv.elim
section
variable {P:Program}{C:Ctx}{S:AS}{Q:Exit->AS->Prop}
theorem aY.odd{E:Env}{a:Act}{w:World}(h:aY C S E a w){N:Nat}(hN:w.heap.size<=N):aY C (S.od N) E a w:=by
 have hle:E.M.le (E.M.to N):=λb o v e=>by
  have:=gQ h.b8 e;unfold Mem.to;rw[if_pos (by omega)];exact e
 have sn:∀i B,(S.od N).b i=some B->∃B0,S.b i=some B0/\B=⟨B0.T,B0.cells.map (AV.od N)⟩:=λi B hB=>by
  have hB:(S.b i).map (λB=>(⟨B.T,B.cells.map (AV.od N)⟩:ju))=some B:=hB;cases e:S.b i with
  |none=>rw[e]at hB;cases hB
  |some B0=>rw[e]at hB;cases hB;exact⟨B0,rfl,rfl⟩
 have bTo:∀i B0,S.b i=some B0->∃B,(S.od N).b i=some B:=λi B0 e=>⟨_,by show(S.b i).map _=_;rw[e];rfl⟩
 exact{h with
  wf:=by
   refine⟨λs j hj=>?_,λs j hj=>h.wf.tr s j (AV.LM.1 hj),λi B hB x hx j hj=>?_,λi B hB x hx j hj=>?_⟩
   ·obtain⟨B,hB⟩:=h.wf.tb s j (AV.LL.1 hj);exact bTo j B hB
   ·obtain⟨B0,h0,rfl⟩:=sn i B hB;obtain⟨y,hy,rfl⟩:=List.mem_map.1 hx;obtain⟨B1,h1⟩:=h.wf.bb i B0 h0 y hy j (AV.LL.1 hj);exact bTo j B1 h1
   obtain⟨B0,h0,rfl⟩:=sn i B hB;obtain⟨y,hy,rfl⟩:=List.mem_map.1 hx;exact h.wf.br i B0 h0 y hy j (AV.LM.1 hj)
  tm:=λs=>AV.Bn hle (h.tm s)
  bx:=λi B hB=>by
   obtain⟨B0,h0,rfl⟩:=sn i B hB;obtain⟨h1,h2,h3,vs,h4,h5⟩:=h.bx i B0 h0;exact⟨h1,h2,h3,vs,h4,h5.od hle⟩
  inj:=λi j B B' hi hj e=>by
   obtain⟨B0,h0,_⟩:=sn i B hi;obtain⟨B1,h1,_⟩:=sn j B' hj;exact h.inj i j B0 B1 h0 h1 e
  rx:=λi R hR=>by
   obtain⟨p1,p2⟩:=h.rx i R hR;refine⟨p1,λg hg=>?_⟩;obtain⟨q1,q2,q3,q4⟩:=p2 g hg;refine⟨q1,q2,q3,λj B hB=>?_⟩;obtain⟨B0,h0,_⟩:=sn j B hB
   exact q4 j B0 h0}
theorem Bo{f:FuncId}{fn:Func}{code:Code}{args:List SV}{r:SV}(hf:P.funcs[f]? =some fn)(hb:fn.body=some code)(hn:args.length<=fn.ntmps)
  (h:∀(w:World) (M:Mem) (vs:List Value),M.b8 w->SV.dj M args vs->Ok P (yK w M) code (AS.init fn.ntmps args) (λe S=>(e=.normal\/e=.ret)/\Fl P S fn.results.toList r)):Pure P f args r:=by
 intro M w vs hM hvs;refine(callsIn_wide (n:=0)).1 (callsIn_of_wp_marks (F:=Fence.wide) hf hb trivial ?_);refine wpIn_mono (h w M vs hM hvs _ w ⟨_,fH hM hvs hn⟩) ?_;rintro e a' w' ⟨S',⟨he,ss,Iq,himp⟩,E,hh⟩;have key:LeavesInM Fence.wide 0 P fn a'.tmps (λe w'=>∃v M',e=.returned v/\M.le M'/\(∀b o x,M' b o=some x->M b o=some x\/w.heap.size<=b)/\M'.b8 w'/\r.h M' v/\Below w.heap.size w w') a'.defers .returning w':=by
  obtain⟨ds,h1,h2,h3⟩:=hh.marks;rw[h1];refine gG ds w' h2 (λr hr=>(h3 r hr).2.2) (λw2 g1 g2 g3 g4 g5=>?_);have mU:=hh.ny h3 g1 g2 g3 g4 g5;obtain⟨v,hv,hs⟩:=qD mU Iq;refine⟨v,hv,v,E.M,Y,mU.m0,λb o x e=>?_,mU.b8,himp _ _ hs,mU.os,mU.tape,mU.output,mU.grown,λk hk=>mU.frame k hk (λh=>h)⟩;rcases mU.cV b o x e with h|h|h
  ·exact .inl h
  ·exact .inr h
  exact h.elim
 rcases he with rfl|rfl
 ·exact key
 exact key
def Mem.ct(M:Mem)(N1 N2:Nat):Mem:=λb o=>if N1<=b/\b<N2 then none else M b o
theorem Mem.HH(M:Mem)(N1 N2:Nat):(M.ct N1 N2).le M:=λb o v h=>by
 unfold Mem.ct at h;split at h
 ·cases h
 exact h
def KpS(N1 N2:Nat)(s s':SV):Prop:=∀M v,s.h M v->s'.h (M.ct N1 N2) v
theorem DP{N1 N2:Nat}{s s':SV}(h:SV.imp s (od N1 s')):KpS N1 N2 s (od N1 s'):=λM v hv=>by
 refine s'.mono (λb o x e=>?_) (h M v hv);unfold Mem.to Mem.ct at*;split at e
 ·rename_i hb;rw[if_pos hb,if_neg (by omega)];exact e
 cases e
inductive Ox (N1 N2:Nat):AV->AV->Prop
 |sv {s s':SV} (h:KpS N1 N2 s s'):Ox N1 N2 (.sv s) (.sv s')
 |ptr {i o:Nat}:Ox N1 N2 (.ptr i o) (.ptr i o)
theorem Ox.holds{N1 N2:Nat}{x y:AV}{E:Env}{v:Value}(h:Ox N1 N2 x y)(hx:x.holds E v):y.holds {E with M:=E.M.ct N1 N2} v:=by
 cases h with
 |sv h=>exact h _ _ hx
 |ptr=>exact hx
def E5(N1 N2:Nat):List AV->List AV->Prop
 |[],[]=>True
 |x::l,y::l'=>Ox N1 N2 x y/\E5 N1 N2 l l'
 |_,_=>False
theorem E5.holds{N1 N2:Nat}{E:Env}:∀{l l':List AV} {vs:List Value},E5 N1 N2 l l'->cc E l vs->cc {E with M:=E.M.ct N1 N2} l' vs
 |[],[],[],_,_=>trivial
 |_::_,_::_,_::_,h,hv=>⟨h.1.holds hv.1,E5.holds h.2 hv.2⟩
 |[],[],_::_,_,hv=>hv.elim
 |_::_,_::_,[],_,hv=>hv.elim
 |[],_::_,_,h,_=>h.elim
 |_::_,[],_,h,_=>h.elim
def PG(N1 N2:Nat)(S:AS):List (Nat×AV)->Prop
 |[]=>True
 |(k,x)::l=>Ox N1 N2 (S.t k) x/\PG N1 N2 S l
def PI(N1 N2:Nat)(S:AS):List (Nat×ju)->Prop
 |[]=>True
 |(k,x)::l=>(∃cs,S.b k=some ⟨x.T,cs⟩/\E5 N1 N2 cs x.cells)/\PI N1 N2 S l
theorem PG.mem{N1 N2:Nat}{S:AS}:∀{l:List (Nat×AV)},PG N1 N2 S l->∀p∈l,Ox N1 N2 (S.t p.1) p.2
 |_::_,h,p,hp=>by
  rcases List.mem_cons.1 hp with rfl|hp
  ·exact h.1
  exact PG.mem h.2 p hp
theorem PI.mem{N1 N2:Nat}{S:AS}:∀{l:List (Nat×ju)},PI N1 N2 S l->∀p∈l,∃cs,S.b p.1=some ⟨p.2.T,cs⟩/\E5 N1 N2 cs p.2.cells
 |_::_,h,p,hp=>by
  rcases List.mem_cons.1 hp with rfl|hp
  ·exact h.1
  exact PI.mem h.2 p hp
theorem aY.abh{E:Env}{a:Act}{w w':World}(h:aY C S E a w){N1 N2:Nat}(hC:∀b o v,C.M0 b o=some v->b<C.w0.heap.size)(hJ:∀g go O M w,C.J g go O M w)(vQ:∀i,C.cQ i=none)(hN:C.w0.heap.size<=N1)
  {n:Nat} {ts:List (Nat×AV)} {bs:List (Nat×ju)} {g:Nat} {go:Bool} (hn:S.n=n) (hwf:((ts.all λp=>p.2.iO bs [])&&(bs.all λp=>p.2.cells.all λx=>x.iO bs []))=true) (ht:PG N1 N2 S ts) (hb:PI N1 N2 S bs)
  (hos:w'.os=w.os) (hH:w'.tape=w.tape) (hout:w'.output=w.output) (hsize:w.heap.size<=w'.heap.size) (hsame:∀k,k<w.heap.size->(k<N1\/N2<=k\/∀o,E.M k o=none)->w'.heap[k]? =w.heap[k]?):
  aY C (AS.cZ n ts bs [] g go) {E with M:=E.M.ct N1 N2} a w' where
 wf:=FK hwf
 marks:=by
  obtain⟨ds,d1,d2,d3⟩:=h.marks;refine⟨ds,d1,d2,λr hr=>?_⟩;obtain⟨p1,p2,p3⟩:=d3 r hr;refine⟨p1,p2,?_⟩;rw[hsame r (Array.getElem?_eq_some_iff.1 p3).1 (.inr (.inr λo=>?_))]
  ·exact p3
  cases e:E.M r o with
  |none=>rfl
  |some v=>exact((h.b8 _ _ _ e).no (by simp[World.cell?,p3]) (λes ck q=>by rw[p3]at q;cases q) (λc T q=>by rw[p3]at q;cases q)).elim
 size:=by rw[h.size,hn];rfl
 os:=hos.trans h.os
 tape:=hH.trans h.tape
 output:=hout.trans h.output
 grown:=Nat.le_trans h.grown hsize
 frame:=λk hk ho=>by rw[hsame k (Nat.lt_of_lt_of_le hk h.grown) (.inl (by omega))];exact h.frame k hk ho
 m0:=λb o v e=>by
  have:=hC b o v e;show Mem.ct E.M N1 N2 b o=some v;unfold Mem.ct;rw[if_neg (by omega)];exact h.m0 b o v e
 cV:=λb o v e=>h.cV b o v (Mem.HH _ _ _ _ _ _ e)
 b8:=λb o v e=>by
  have e0:=Mem.HH _ _ _ _ _ _ e;refine(h.b8 b o v e0).same (hsame b (gQ h.b8 e0) ?_);have e:Mem.ct E.M N1 N2 b o=some v:=e;unfold Mem.ct at e;split at e
  ·cases e
  omega
 tm:=λs=>by
  rcases og (ts:=ts) (s:=s)with e|⟨p,hp,rfl,e⟩
  ·show(Am ts s).holds _ _;rw[e];exact trivial
  show(Am ts p.1).holds _ _;rw[e];exact(ht.mem p hp).holds (h.tm p.1)
 bx:=λi B hB=>by
  obtain⟨cs,h1,h2⟩:=hb.mem (i,B) (iP hB);obtain⟨h3,h4,h5,vs,h6,h7⟩:=h.bx i _ h1;refine⟨h3,λo=>?_,h5,vs,?_,h2.holds h7⟩
  ·show Mem.ct E.M N1 N2 _ o=none;unfold Mem.ct;split
   ·rfl
   exact h4 o
  show w'.heap[E.β i]? =_;rw[hsame _ (Array.getElem?_eq_some_iff.1 h6).1 (.inr (.inr h4))];exact h6
 inj:=λi j B B' hi hj e=>by
  obtain⟨cs,h1,_⟩:=hb.mem (i,B) (iP hi);obtain⟨cs',h2,_⟩:=hb.mem (j,B') (iP hj);exact h.inj i j _ _ h1 h2 e
 rx:=λi R hR=>by cases hR
 dw:=λi j R R' hi=>by cases hi
 ey:=h.ey
 cQ:=λi v e=>by rw[vQ i]at e;cases e
 gD:=λb hb=>by
  obtain⟨p1,p2,p3⟩:=h.gD b hb;refine⟨Nat.lt_of_lt_of_le p1 hsize,λo=>?_,p3⟩;show Mem.ct E.M N1 N2 _ o=none;unfold Mem.ct;split
  ·rfl
  exact p2 o
 jj:=hJ _ _ _ _ _
def Own(M:Mem)(N1 N2 k:Nat):Prop:=∃o,((M.to N2).fr N1) k o=some (.agg #[])
def CW(P:Program)(f:FuncId)(X:Nat->SV):Prop:=
 ∀(M:Mem) (w:World) (v:Value) (N1 N2:Nat),M.b8 w->(nw N1 (X N1)).h (M.to N2) v->
  Calls P f ⟨[v]⟩ w λe w'=>∃u,e=.returned u/\w'.os=w.os/\w'.tape=w.tape/\w'.output=w.output/\w.heap.size<=w'.heap.size/\∀k,k<w.heap.size->¬Own M N1 N2 k->w'.heap[k]? =w.heap[k]?
theorem HI{M:Mem}{N1 N2 k:Nat}(h:Own M N1 N2 k):N1<=k/\k<N2/\∃o,M k o=some (.agg #[]):=by
 obtain⟨o,e⟩:=h;unfold Mem.fr Mem.to at e;split at e
 ·split at e
  ·exact⟨by assumption,by assumption,o,e⟩
  cases e
 cases e
end
section
variable {P:Program}{C:Ctx}{ops:Array Oper}{S:AS}{K:List Ac->AS->Prop}{rest:List Oper}{acc:List Ac}
variable {gd:Option (Nat×Bool)}{rg:List Nat}{d:Nat}{ty:TypeId}{pos:String}{aft:Array Edge}{x y z:Operand}{T U E0:TypeId}
theorem RT.Oy(hg:Gd ops S gd rg){f:FuncId}[dX P f]{g:Operand}{xs:Array Operand}{at_:Array TypeId}{args:Nat->List SV}{r:Nat->SV}(hp:∀N,dR P f N (args N) (r N))(hf:S.ev g=.sv (.v (.func (.func f) #[] #[])))(hargs:∀N,fD S xs.toList (args N))(hd:d<S.n)
  (next:∀N,C.w0.heap.size<=N->RunT P C ops true K rest [] ((S.od N).set d (.sv (r N)))):RunT P C ops true K (⟨some d,.call ⟨.value g,xs,at_⟩,ty,pos,aft,gd⟩::rest) acc S:=by
 refine .inr ⟨Y,λS'=>∃N,C.w0.heap.size<=N/\S'=(S.od N).set d (.sv (r N)),?_,λS' ⟨N,h1,h2⟩=>by subst h2;exact next N h1⟩;rintro i a w L Q ho ⟨E,h⟩ hL;refine bO (C:=C) ho (hg.wanted h (λs _=>rfl) rfl) ?_;have nx:a.eval g=.func (.func f) #[] #[]:=by
  have h1:=h.ev g;rw[hf]at h1;exact h1
 have hall:=fD.vals h (hargs w.heap.size) (λs _=>rfl);have hr:(execOp a.eval ⟨some d,.call ⟨.value g,xs,at_⟩,ty,pos,aft,gd⟩).run P w=.ok (.enter f ⟨xs.toList.map a.eval⟩) w:=by
  have e2:xs.map a.eval=⟨xs.toList.map a.eval⟩:=by apply Array.ext';simp
  have e1:=dX.run (P:=P) (f:=f) (xs.map a.eval) w;rw[<-e2];simp[execOp,resolve,nx,Deferred.ofValue,invoke,e1]
 refine bP (C:=C) (by intro c h;cases h) hr ?_;refine⟨λh=>by simp at h,dV ((hp w.heap.size E.M w _ (Nat.le_refl _) h.b8 hall).mono ?_)⟩;rintro e w' ⟨v,M',rfl,hM,hnew,hin,hv,hb⟩;exact hL _ _ _ ⟨w.heap.size,h.grown,Y⟩ ⟨_,((h.odd (Nat.le_refl _)).grow hM hnew hin hb).put (x:=.sv (r w.heap.size)) hv hd dD⟩
end
end
section
open Go.RowKit
structure Iz where
 W:World
 Mx:Mem
 b0:Nat
 o0:Nat
 n:Nat
 sz:Nat
 hin:Mx.b8 W
 hb:0<n->∃o,Mx b0 o=some (.agg #[])
 cell:∀i k,i<n->k<sz->∃y,Mx b0 (o0+i*sz+k)=some y/\y.oneCell'=true
def Ow(D:Iz)(b:Nat):Prop:=∃o,D.Mx b o=some (.agg #[])
def rN(D:Iz)(g:Nat)(w:World):Prop:=
 (∀i k y,g<=i->i<D.n->k<D.sz->D.Mx D.b0 (D.o0+i*D.sz+k)=some y->w.cell? ⟨D.b0,D.o0+i*D.sz+k,none⟩=some y)/\
 ∀b,Ow D b->∃us vs T,D.W.heap[b]? =some (.cells ⟨us⟩ T (0,0))/\w.heap[b]? =some (.cells ⟨vs⟩ T (0,0))/\vs.length=us.length
theorem rN.same{D:Iz}{g:Nat}{w w':World}(h:rN D g w)(hs:∀b,Ow D b->w'.heap[b]? =w.heap[b]?):rN D g w':=by
 refine⟨λi k y h1 h2 h3 h4=>?_,λb hb=>?_⟩
 ·rw[World.cell?_of_block (w:=w) (a:=⟨D.b0,D.o0+i*D.sz+k,none⟩) (hs _ (D.hb (by omega)))];exact h.1 i k y h1 h2 h3 h4
 obtain⟨us,vs,T,q1,q2,q3⟩:=h.2 b hb;exact⟨us,vs,T,q1,by rw[hs b hb];exact q2,q3⟩
theorem Oz(D:Iz):rN D 0 D.W:=by
 refine⟨λi k y _ h2 h3 h4=>?_,λb ⟨o,hb⟩=>?_⟩
 ·obtain⟨y',e,ho⟩:=D.cell i k h2 h3;rw[h4]at e;cases e;exact(D.hin _ _ _ h4).cell ho
 obtain⟨c,T,e⟩:=(show ∃c T,D.W.heap[b]? =some (.cells c T (0,0))from D.hin _ _ _ hb);exact⟨c.toList,c.toList,T,by simpa using e,by simpa using e,Y⟩
def lJ(D:Iz)(M:Mem):Ctx:={w0:=D.W,M0:=M,own:=Ow D,nm:=λ_=>False,ey:=λ_=>none,cQ:=λ_=>none,ro:=none,J:=λg _ O _ w=>(∀b,Ow D b->O b)/\rN D g w,w6:=λ_ h=>h.elim,C2:=λ_ _ h=>(by cases h),jf:=λ_ _ _ _ _ _ _ j _ _ _ hs _ _ _ _=>⟨j.1,j.2.same λb hb=>hs b (.inr (j.1 b hb))⟩}
section
variable {P:Program}{D:Iz}{M0:Mem}{S:AS}
theorem aY.abi{E:Env}{a:Act}{w:World}(h:aY (lJ D M0) S E a w){b:Nat}{vs vs':List Value}{T:TypeId}(hO:Ow D b)(hw:w.heap[b]? =some (.cells ⟨vs⟩ T (0,0))){g':Nat}(hI:rN D g' (dy w b vs' T)):aY (lJ D M0) {S with g:=g'} E a (dy w b vs' T):=by
 have Xw:E.O b:=h.jj.1 b hO;obtain⟨hlt,hno,_⟩:=h.gD b Xw
 exact{
  wf:=⟨h.wf.tb,h.wf.tr,h.wf.bb,h.wf.br⟩
  marks:=by
   obtain⟨ds,d1,d2,d3⟩:=h.marks;refine⟨ds,d1,d2,λr hr=>?_⟩;obtain⟨p1,p2,p3⟩:=d3 r hr;exact⟨p1,p2,by rw[cy (λe=>p2 (by rw[e];exact Xw))];exact p3⟩
  size:=h.size
  os:=h.os
  tape:=h.tape
  output:=h.output
  grown:=by rw[iE];exact h.grown
  frame:=λk hk ho=>by rw[cy (λe=>ho (by rw[e];exact hO))];exact h.frame k hk ho
  m0:=h.m0
  cV:=h.cV
  b8:=c9 h.b8 λk ⟨o,v,e⟩=>cy (λq=>by rw[q,hno o]at e;cases e)
  tm:=h.tm
  bx:=λi B hB=>by
   obtain⟨p1,p2,p3,us,p4,p5⟩:=h.bx i B hB;exact⟨p1,p2,p3,us,by rw[cy (λe=>p3 (by rw[e];exact Xw))];exact p4,p5⟩
  inj:=h.inj
  rx:=λi R hR=>by
   obtain⟨⟨us,p1,p2⟩,p3⟩:=h.rx i R hR;exact⟨⟨us,cx p1 λg hg=>cy (λe=>(p3 g hg).2.2.1 (by rw[e];exact Xw)),p2⟩,p3⟩
  dw:=h.dw
  ey:=h.ey
  cQ:=h.cQ
  gD:=λk hk=>by rw[iE];exact h.gD k hk
  jj:=⟨h.jj.1,hI⟩}
theorem DQ:∀(xs:List Value) (l:List Value) (k:Nat),(gU l k xs).length=l.length
 |[],_,_=>rfl
 |x::xs,l,k=>by rw[gU,DQ xs];simp
theorem DR:∀(xs:List Value) (l:List Value) (k j:Nat),(j<k\/k+xs.length<=j)->(gU l k xs)[j]? =l[j]?
 |[],_,_,_,_=>rfl
 |x::xs,l,k,j,h=>by
  rw[List.length_cons]at h;rw[gU,DR xs _ _ _ (by omega),List.getElem?_set,if_neg (by omega)]
theorem rN.put{g g':Nat}{w:World}(h:rN D g w)(hg:g<=g'){b o:Nat}{us vs:List Value}{T:TypeId}(hw:w.heap[b]? =some (.cells ⟨vs⟩ T (0,0)))
  (hne:∀i k,g'<=i->i<D.n->k<D.sz->b=D.b0->D.o0+i*D.sz+k<o\/o+us.length<=D.o0+i*D.sz+k):rN D g' (dy w b (gU vs o us) T):=by
 refine⟨λi k y h1 h2 h3 h4=>?_,λb' hb=>?_⟩
 ·have e:=h.1 i k y (Nat.le_trans hg h1) h2 h3 h4;by_cases hb:D.b0=b
  ·subst hb;have q:=hne i k h1 h2 h3 Y;simp only[World.cell?,hw]at e;simp only[World.cell?,lB hw];simp only[Option.isSome_none,Bool.false_eq_true,if_false,List.getElem?_toArray]at e⊢;rw[DR us vs o _ q];exact e
  rw[World.cell?_of_block (w:=w) (a:=⟨D.b0,D.o0+i*D.sz+k,none⟩) (cy hb)];exact e
 obtain⟨Iy,Fm,T0,q1,q2,q3⟩:=h.2 b' hb;by_cases e:b'=b
 ·subst e;rw[hw]at q2;cases q2;exact⟨Iy,gU vs o us,T,q1,lB hw,by rw[DQ];exact q3⟩
 exact⟨Iy,Fm,T0,q1,by rw[cy e];exact q2,q3⟩
end
section
variable {P:Program}{C:Ctx}{ops:Array Oper}{S:AS}{nd:Bool}{K:List Ac->AS->Prop}{rest:List Oper}{acc:List Ac}
variable {gd:Option (Nat×Bool)}{rg:List Nat}{d:Nat}{ty:TypeId}{pos:String}{aft:Array Edge}{x y z:Operand}{T U E0:TypeId}{D:Iz}{M0:Mem}
instance{a:Option Addr}{n c:Nat}:PS (.v (.slice a n c)) n:=⟨λ_ v h=>⟨a,c,h⟩⟩
theorem RT.JP(hg:Gd ops S gd rg){m:Nat}[tS:dB P T E0 m]{a:Option Addr}{n c:Nat}(hx:S.ev x=.sv (.v (.slice a n c)))(hd:d<S.n)
  (next:RunT P C ops nd K rest (⟨rg++aW x,[],[],⟨some (d,.sv (.v (.int .i64 n))),[],[]⟩⟩::acc) (S.set d (.sv (.v (.int .i64 n))))):RunT P C ops nd K (⟨some d,.call ⟨.builtin .len,#[x],#[T]⟩,ty,pos,aft,gd⟩::rest) acc S:=
 RT.len hg hx hd next
theorem RT.UR(hg:Gd ops S gd rg){sz:Nat}[tS:dB P T E0 sz]{b o n c:Nat}{kk:IntKind}{i:Nat}(hx:S.ev x=.sv (.v (.slice (some ⟨b,o,none⟩) n c)))(hy:S.ev y=.sv (.v (.int kk (i:Int))))(hd:d<S.n)(hi:i<n)
  (next:RunT P C ops nd K rest (⟨rg++(aW x++aW y),[],[],⟨some (d,.sv (.v (.pointer (some ⟨b,o+i*sz,none⟩)))),[],[]⟩⟩::acc) (S.set d (.sv (.v (.pointer (some ⟨b,o+i*sz,none⟩)))))):RunT P C ops nd K (⟨some d,.indexAddr T x y,ty,pos,aft,gd⟩::rest) acc S:=
 RT.value hg (aW x++aW y) [] [] _ hd (by intro c h;cases h) (λS' ht _ _ E a w h=>by
  have h1:a.eval x=.slice (some ⟨b,o,none⟩) n c:=by have h1:=h.ev x;rw[bk (λ_ h=>List.mem_append_left _ h) ht,hx]at h1;exact h1
  have h2:a.eval y=.int kk (i:Int):=by have h2:=h.ev y;rw[bk (λ_ h=>List.mem_append_right _ h) ht,hy]at h2;exact h2
  refine⟨.pointer (some ⟨b,o+i*sz,none⟩),?_,Y,dD⟩;have hsz:=tS.size w;have hb:(0:Int)<=(i:Int)/\(i:Int)<(n:Int):=⟨by omega,by omega⟩;simp[execOp,h2,h1,Instr.indexAt,asIntOf,underlying,tS.u,hsz,ez,hb];exact λq=>absurd q (by omega)) next
theorem RT.PJ(hg:Gd ops S gd rg){f off:Nat}[hf:sg P T f off U][sU:vE P U]{b o:Nat}(hx:S.ev x=.sv (.v (.pointer (some ⟨b,o,none⟩))))(hd:d<S.n)
  (next:RunT P C ops nd K rest (⟨rg++aW x,[],[],⟨some (d,.sv (.v (.pointer (some ⟨b,o+off,none⟩)))),[],[]⟩⟩::acc) (S.set d (.sv (.v (.pointer (some ⟨b,o+off,none⟩)))))):RunT P C ops nd K (⟨some d,.fieldAddr T x f,ty,pos,aft,gd⟩::rest) acc S:=
 RT.value hg (aW x) [] [] _ hd (by intro c h;cases h) (λS' ht _ _ E a w h=>by
  have h1:a.eval x=.pointer (some ⟨b,o,none⟩):=by have h1:=h.ev x;rw[bk (λ_ h=>h) ht,hx]at h1;exact h1
  have:=nv (P:=P) (T:=T) (f:=f) (off:=off) (U:=U) sU.h b o w;exact⟨.pointer (some ⟨b,o+off,none⟩),by simp[execOp,h1,this],Y,dD⟩) next
theorem RT.OA(hg:Gd ops S gd rg)[tV:ni P T]{i k p:Nat}{v:Value}(hx:S.ev x=.sv (.v (.pointer (some ⟨D.b0,p,none⟩))))(hd:d<S.n)(hp:p=D.o0+i*D.sz+k)(hgi:S.g<=i)(hi:i<D.n)(hk:k<D.sz)(hv:D.Mx D.b0 (D.o0+i*D.sz+k)=some v)
  (next:RunT P (lJ D M0) ops true K rest [] (S.set d (.sv (.v v)))):RunT P (lJ D M0) ops true K (⟨some d,.load T x,ty,pos,aft,gd⟩::rest) acc S:=by
 refine .inr ⟨Y,λS'=>S'=S.set d (.sv (.v v)),?_,λS' h=>by subst h;exact next⟩;rintro i' a w L Q ho ⟨E,h⟩ hL;refine bO (C:=lJ D M0) ho (hg.wanted h (λs _=>rfl) rfl) ?_;have h1:a.eval x=.pointer (some ⟨D.b0,p,none⟩):=by have h1:=h.ev x;rw[hx]at h1;exact h1
 have MG:w.cell? ⟨D.b0,p,none⟩=some v:=by rw[hp];exact h.jj.2.1 i k v hgi hi hk hv
 refine bP (C:=lJ D M0) (by intro c h;cases h) (r:=.ok (.value v) w) ?_ (hL _ _ _ rfl ⟨E,h.put (x:=.sv (.v v)) rfl hd dD⟩);simp[execOp,h1,Instr.loadAt,Instr.sureAddr,loadVar,tV.isAgg,MG]
theorem RT.US(hg:Gd ops S gd rg){b o:Nat}(us:List Value)(g':Nat)(hx:S.ev x=.sv (.v (.pointer (some ⟨b,o,none⟩))))(hy:∀E a w,aY (lJ D M0) S E a w->(a.eval y).cells=⟨us⟩)(hone:∀u∈us,u.oneCell'=true)(hs:∀w:World,(sizeOf T).run P w=.ok us.length w)(hO:Ow D b)
  (hsz:∀j,j<us.length->∃v,D.W.cell? ⟨b,o+j,none⟩=some v) (hle:S.g<=g') (hne:∀i k,g'<=i->i<D.n->k<D.sz->b=D.b0->D.o0+i*D.sz+k<o\/o+us.length<=D.o0+i*D.sz+k)
  (next:RunT P (lJ D M0) ops true K rest [] {S with g:=g'}):RunT P (lJ D M0) ops true K (⟨none,.store T x y,ty,pos,aft,gd⟩::rest) acc S:=by
 refine .inr ⟨Y,λS'=>S'={S with g:=g'},?_,λS' h=>by subst h;exact next⟩;rintro i' a w L Q ho ⟨E,h⟩ hL;refine bO (C:=lJ D M0) ho (hg.wanted h (λs _=>rfl) rfl) ?_;have h1:a.eval x=.pointer (some ⟨b,o,none⟩):=by have h1:=h.ev x;rw[hx]at h1;exact h1
 have hu:=hy E a w h;obtain⟨Iy,vs,T',q1,q2,q3⟩:=h.jj.2.2 b hO;have hlen:us.length=0\/o+us.length<=vs.length:=by
  by_cases h0:us.length=0
  ·exact .inl h0
  obtain⟨v,e⟩:=hsz (us.length-1) (by omega);simp only[World.cell?,q1]at e;simp only[Option.isSome_none,Bool.false_eq_true,if_false,List.getElem?_toArray]at e;have:=(List.getElem?_eq_some_iff.1 e).1;omega
 have hr:(execOp a.eval ⟨none,.store T x y,ty,pos,aft,gd⟩).run P w=.ok .skip (dy w b (gU vs o us) T'):=by
  rcases hlen with h0|h0
  ·have:us=[]:=List.length_eq_zero_iff.1 h0;subst this;simp only[execOp,h1,Instr.storeAt,Instr.sureAddr,storeVar,hu];simp only[Sem.run_bind,Sem.run_pure,Result.andThen_ok,hs];simp[storeCells,gU,tB q2]
  have hst:=fG (P:=P) us 0 o w vs hone q2 (by omega);simp only[execOp,h1,Instr.storeAt,Instr.sureAddr,storeVar,hu];simp only[Sem.run_bind,Sem.run_pure,Result.andThen_ok,hs];simp only[List.size_toArray,ne_eq,not_true_eq_false,if_false];simp only[Nat.add_zero]at hst;simp only[Result.andThen_ok,hst]
 exact bP (C:=lJ D M0) (by intro c h;cases h) hr (hL _ _ _ rfl ⟨E,h.abi hO q2 (h.jj.2.put hle q2 hne)⟩)
end
section
variable {P:Program}
structure SpV (D:Iz) {α:Type} (e:α->List SV) (l:List α) (v:Value):Prop where
 n:D.n=l.length
 v:∃a c,v=.slice a l.length c/\(l≠[]->a=some ⟨D.b0,D.o0,none⟩)/\l.length<=9223372036854775807
 row:∀(i:Nat) (x:α),l[i]? =some x->(e x).length=D.sz/\∀(k:Nat) (s:SV),(e x)[k]? =some s->∃y,D.Mx D.b0 (D.o0+i*D.sz+k)=some y/\y.oneCell'=true/\s.h D.Mx y
theorem Bp{f:FuncId}{fn:Func}{code:Code}{sz:Nat}{α:Type}{e:Nat->α->List SV}{l:List α}(hf:P.funcs[f]? =some fn)(hb:fn.body=some code)(hn:1<=fn.ntmps)(hres:fn.results.toList=[])(hel:∀N x,(e N x).length=sz)
  (h:∀(N:Nat) (D:Iz) (M0:Mem) (v:Value),D.sz=sz->SpV D (e N) l v->Ok P (lJ D M0) code (AS.init fn.ntmps [.v v]) (λex S=>ex=.normal\/ex=.ret)):CW P f (λN=>slc sz (l.map (e N))):=by
 intro M w v N1 N2 hM hv;obtain⟨hs,hmk⟩:=hv;have UT:((M.to N2).fr N1).b8 w:=λb o x q=>hM b o x (Mem.LK _ _ _ _ _ (Mem.Di _ _ _ _ _ q));obtain⟨D,hDW,hDM,abj,hV⟩:∃D:Iz,D.W=w/\D.Mx=(M.to N2).fr N1/\D.sz=sz/\SpV D (e N1) l v:=by
  rcases hs with⟨a,h1,h2⟩|⟨b,o,c,h1,h2,h3,h4⟩
  ·have hl:l=[]:=List.map_eq_nil_iff.1 h2;subst hl;exact⟨⟨w,(M.to N2).fr N1,0,0,0,sz,UT,λh=>by omega,λi k h=>by omega⟩,Y,Y,Y,⟨Y,⟨a,0,h1,λh=>(h Y).elim,by simp⟩,λi x h=>by simp at h⟩⟩
  rw[List.length_map]at h1 h2 h3;have hcell:∀(i:Nat) (x:α),l[i]? =some x->(e N1 x).length=sz/\∀(k:Nat) (s:SV),(e N1 x)[k]? =some s->∃y,((M.to N2).fr N1) b (o+i*sz+k)=some y/\y.oneCell'=true/\s.h ((M.to N2).fr N1) y:=λi x hx=>h4 i (e N1 x) (by rw[List.getElem?_map,hx];rfl);refine⟨⟨w,(M.to N2).fr N1,b,o,l.length,sz,UT,λ_=>hmk b (by rw[h1];rfl),λi k hi hk=>?_⟩,Y,Y,Y,⟨Y,⟨_,c,h1,λ_=>Y,h3⟩,hcell⟩⟩;obtain⟨q1,q2⟩:=hcell i _ (List.getElem?_eq_getElem hi);obtain⟨y,q3,q4,_⟩:=q2 k _ (List.getElem?_eq_getElem (by omega));exact⟨y,q3,q4⟩
 subst hDW;have hOw:∀k,Ow D k↔Own M N1 N2 k:=λk=>by unfold Ow Own;rw[hDM]
 have hMc:(M.ct N1 N2).b8 D.W:=λb o x q=>hM b o x (Mem.HH _ _ _ _ _ _ q);have hno:∀b,Ow D b->∀o,(M.ct N1 N2) b o=none:=λb hb o=>by
  obtain⟨q1,q2,_⟩:=HI ((hOw b).1 hb);unfold Mem.ct;rw[if_pos ⟨q1,q2⟩]
 have hv1:SV.dj (M.ct N1 N2) [.v v] [v]:=⟨Y,aq⟩;have QV:=fH hMc hv1 hn;have Ci:aY (lJ D (M.ct N1 N2)) (AS.init fn.ntmps [.v v]) ⟨λ_=>0,λ_=>.nilIface,Ow D,M.ct N1 N2⟩ {tmps:=⟨[v]⟩++Array.replicate (fn.ntmps-(⟨[v]⟩:Array Value).size) undef,defers:=[]} D.W:=
  {wf:=QV.wf
   marks:=⟨[],Y,List.nodup_nil,by simp⟩
   size:=QV.size
   os:=rfl
   tape:=rfl
   output:=rfl
   grown:=Nat.le_refl _
   frame:=λ_ _ _=>rfl
   m0:=Mem.le_refl _
   cV:=λ_ _ _ q=>.inl q
   b8:=hMc
   tm:=λs=>AV.bY (E:=⟨λ_=>0,λ_=>.nilIface,λ_=>False,M.ct N1 N2⟩) (E':=⟨λ_=>0,λ_=>.nilIface,Ow D,M.ct N1 N2⟩) (Mem.le_refl _) (λ_ _=>rfl) (λ_ _=>rfl) (QV.tm s)
   bx:=λi B q=>by cases q
   inj:=λi j B B' q=>by cases q
   rx:=λi R q=>by cases q
   dw:=λi j R R' q=>by cases q
   ey:=λi b q=>by cases q
   cQ:=λi v q=>by cases q
   gD:=λb hb=>by
    obtain⟨o,q⟩:=hb;have hlt:=(D.hin _ _ _ q).lt;exact⟨hlt,hno b ⟨o,q⟩,.inl ⟨o,q⟩⟩
   jj:=⟨λ_ hb=>hb,Oz D⟩}
 refine(callsIn_wide (n:=0)).1 (callsIn_of_wp_marks (F:=Fence.wide) hf hb trivial ?_);refine wpIn_mono (h N1 D (M.ct N1 N2) v abj hV _ D.W ⟨_,Ci⟩) ?_;rintro ex a' w' ⟨S',he,E,hh⟩;have key:LeavesInM Fence.wide 0 P fn a'.tmps (λe w'=>∃u,e=.returned u/\w'.os=D.W.os/\w'.tape=D.W.tape/\w'.output=D.W.output/\D.W.heap.size<=w'.heap.size/\∀k,k<D.W.heap.size->¬Own M N1 N2 k->w'.heap[k]? =D.W.heap[k]?) a'.defers .returning w':=by
  obtain⟨ds,h1,h2,h3⟩:=hh.marks;rw[h1];refine gG ds w' h2 (λr hr=>(h3 r hr).2.2) (λw2 g1 g2 g3 g4 g5=>?_);have mU:=hh.ny h3 g1 g2 g3 g4 g5;obtain⟨u,hu,-⟩:=qD (ss:=[]) mU (by rw[hres];trivial);exact⟨u,hu,u,Y,mU.os,mU.tape,mU.output,mU.grown,λk hk ho=>mU.frame k hk (λq=>ho ((hOw k).1 q))⟩
 rcases he with rfl|rfl
 ·exact key
 exact key
theorem Bq{N:Nat}{ws:List Nat}{M:Mem}{y:Value}(h:(nw N (slc 1 (ws.map aZ))).h M y):∃a c,y=.slice a ws.length c/\ws.length<=9223372036854775807/\(ws≠[]->∃b o,a=some ⟨b,o,none⟩/\(∃o,M b o=some (.agg #[]))/\∀j,j<ws.length->∃x,M b (o+j)=some (.int .u32 x)):=by
 obtain⟨h1,h2⟩:=h;rcases h1 with⟨a,e,e2⟩|⟨b,o,c,e,_,e3,e2⟩
 ·have:ws=[]:=List.map_eq_nil_iff.1 e2;subst this;exact⟨a,0,e,by simp,λh=>(h Y).elim⟩
 rw[List.length_map]at e e3;refine⟨_,c,e,e3,λ_=>⟨b,o,Y,?_,λj hj=>?_⟩⟩
 ·obtain⟨o',q⟩:=h2 b (by rw[e];rfl);exact⟨o',Mem.Di _ _ _ _ _ q⟩
 obtain⟨_,q⟩:=e2 j (aZ ws[j]) (by rw[List.getElem?_map,List.getElem?_eq_getElem hj];rfl);obtain⟨y,q1,_,q2⟩:=q 0 _ Y;have q2:y=.int .u32 ((ws[j]:Nat):Int):=q2;subst q2;have q1:=Mem.Di _ _ _ _ _ q1;rw[show o+j*1+0=o+j by omega]at q1;exact⟨_,q1⟩
theorem E6{M:Mem}:∀{us:List Value} {v:Value},(SV.agg (us.map SV.v)).h M v->v.cells=⟨us⟩:=by
 rintro us v ⟨vs,rfl,h⟩;have:vs=us:=by
  induction us generalizing vs with
  |nil=>cases vs with|nil=>rfl|cons _ _=>exact h.elim
  |cons u us ih=>
   cases vs with
   |nil=>exact h.elim
   |cons x xs=>
    have h1:x=u:=h.1;rw[h1,ih xs h.2]
 subst this;rfl
end
end
section
open Go.RowKit
section steps
variable {P:Program}{C:Ctx}{ops:Array Oper}{S:AS}{nd:Bool}{K:List Ac->AS->Prop}{rest:List Oper}{acc:List Ac}
variable {gd:Option (Nat×Bool)}{rg:List Nat}{d:Nat}{ty:TypeId}{pos:String}{aft:Array Edge}{x y z:Operand}{T U E0:TypeId}
theorem RT.lK(hg:Gd ops S gd rg){cs:List SV}(hx:S.ev x=.sv (ref cs))(hd:d<S.n)
  (next:RunT P C ops nd K rest (⟨rg++aW x,[],[],⟨some (d,.sv (ref cs)),[],[]⟩⟩::acc) (S.set d (.sv (ref cs)))):RunT P C ops nd K (⟨some d,.nilCheck x,ty,pos,aft,gd⟩::rest) acc S:=
 RT.value hg (aW x) [] [] (.sv (ref cs)) hd (by intro c h;cases h) (λS' ht _ _ E a w h=>by
  have h1:=h.ev x;rw[bk (λ_ h=>h) ht,hx]at h1;have h1:(ref cs).h E.M (a.eval x):=h1;obtain⟨b,o,e,h2⟩:=h1;exact⟨a.eval x,by simp[execOp,e],⟨b,o,e,h2⟩,dD⟩) next
theorem RT.OB(hg:Gd ops S gd rg)[tT:GY P T]{cs:List SV}(hx:S.ev x=.sv (ref cs))(hy:S.ev y=.sv (.v (.pointer none)))(hd:d<S.n)
  (next:RunT P C ops nd K rest (⟨rg++(aW x++aW y),[],[],⟨some (d,.sv (.v (.bool false))),[],[]⟩⟩::acc) (S.set d (.sv (.v (.bool false))))):RunT P C ops nd K (⟨some d,.binOp .eql T x y U,ty,pos,aft,gd⟩::rest) acc S:=
 RT.value hg (aW x++aW y) [] [] (.sv (.v (.bool false))) hd (by intro c h;cases h) (λS' ht _ _ E a w h=>by
  have h1:=h.ev x;rw[bk (λ_ h=>List.mem_append_left _ h) ht,hx]at h1;have h2:=h.ev y;rw[bk (λ_ h=>List.mem_append_right _ h) ht,hy]at h2;have h1:(ref cs).h E.M (a.eval x):=h1;obtain⟨b,o,h1,_⟩:=h1;have h2:a.eval y=.pointer none:=h2;have e:=run_eql_pointer_nil (P:=P) w T (some ⟨b,o,none⟩) tT.u;refine⟨.bool false,?_,Y,dD⟩;simp[execOp,h1,h2,eqGuard,e]) next
theorem RT.JQ(hg:Gd ops S gd rg){f:FuncId}[dX P f]{g:Operand}{at_:Array TypeId}{X:Nat->SV}(hp:CW P f X)(hf:S.ev g=.sv (.v (.func (.func f) #[] #[]))){N1:Nat}{s:SV}(hx:S.ev x=.sv s)(hs:SV.imp s (nw N1 (X N1)))
  (hC:∀b o v,C.M0 b o=some v->b<C.w0.heap.size) (hJ:∀g go O M w,C.J g go O M w) (vQ:∀i,C.cQ i=none) (hN:C.w0.heap.size<=N1)
  {n:Nat} {ts:List (Nat×AV)} {bs:List (Nat×ju)} {g':Nat} {go:Bool} (hn:S.n=n) (hwf:((ts.all λp=>p.2.iO bs [])&&(bs.all λp=>p.2.cells.all λx=>x.iO bs []))=true) (ht:∀N2,PG N1 N2 S ts) (hb:∀N2,PI N1 N2 S bs) (hd:(ts.all λp=>!(Nat.beq d p.1))=true) (hdn:d<n)
  (next:RunT P C ops true K rest [] (AS.cZ n ts bs [] g' go)):RunT P C ops true K (⟨some d,.call ⟨.value g,#[x],at_⟩,ty,pos,aft,gd⟩::rest) acc S:=by
 refine .inr ⟨Y,λS'=>S'=AS.cZ n ts bs [] g' go,?_,λS' h2=>by subst h2;exact next⟩;rintro i a w L Q ho ⟨E,h⟩ hL;refine bO (C:=C) ho (hg.wanted h (λs _=>rfl) rfl) ?_;have nx:a.eval g=.func (.func f) #[] #[]:=by
  have h1:=h.ev g;rw[hf]at h1;exact h1
 have hle:E.M.le (E.M.to w.heap.size):=λb o v e=>by
  have:=gQ h.b8 e;unfold Mem.to;rw[if_pos (by omega)];exact e
 have hxv:(nw N1 (X N1)).h (E.M.to w.heap.size) (a.eval x):=by
  have h1:=h.ev x;rw[hx]at h1;exact(nw N1 (X N1)).mono hle (hs _ _ h1)
 have hr:(execOp a.eval ⟨some d,.call ⟨.value g,#[x],at_⟩,ty,pos,aft,gd⟩).run P w=.ok (.enter f ⟨[a.eval x]⟩) w:=by
  have e1:=dX.run (P:=P) (f:=f) (#[a.eval x]) w;simp[execOp,resolve,nx,Deferred.ofValue,invoke,e1]
 refine bP (C:=C) (by intro c h;cases h) hr ?_;refine⟨λh=>by simp at h,dV ((hp E.M w _ N1 w.heap.size h.b8 hxv).mono ?_)⟩;rintro e w' ⟨u,rfl,hos,hH,hout,hsize,hsame⟩;have hh:=h.abh (w':=w') hC hJ vQ hN (n:=n) (g:=g') (go:=go) hn hwf (ht w.heap.size) (hb w.heap.size) hos hH hout hsize (λk hk Br=>hsame k hk (λho=>by
  obtain⟨q1,q2,o,q3⟩:=HI ho;rcases Br with q|q|q
  ·omega
  ·omega
  rw[q o]at q3;cases q3))
 have hlk:(AS.cZ n ts bs [] g' go).set d (.sv .any)=AS.cZ n ts bs [] g' go:=by
  refine AS.ext' rfl (λt=>?_) (λ_=>rfl) (λ_=>rfl) rfl rfl;by_cases e:t=d
  ·subst e;rw[AS.fT];show _=Am ts t;rcases og (ts:=ts) (s:=t)with q|⟨p,hp,q1,q2⟩
   ·rw[q]
   have:=List.all_eq_true.1 hd p hp;rw[q1]at this;simp at this
  exact AS.eI _ _ _ _ e
 refine hL _ _ _ Y ?_;rw[<-hlk];exact⟨_,hh.put (x:=.sv .any) trivial hdn dD⟩
end steps
end
end Go.Fw
namespace Go.Proofs.Ytmiflmkdaeianaa
section
open Go.Fw
noncomputable def ik(x0:Bk):Option (Bool):=match x0 with|⟨bT,bN⟩=>di (λ(Hf:Bool)=>some Hf) λK3=>(bif false then none else(some (decide ((bT:Int)=0))).bind λfU=>some fU).bind λBe=>K3 Be
noncomputable def cX(x0:Bk):Option (List En):=match x0 with|⟨bT,bN⟩=>(ik ⟨bT,bN⟩).bind λx7=>(bif x7 then some []else(some (bN.length:Int)).bind λgO=>(Fp 56 gO (⟨0,0,0,⟨false,[]⟩⟩:En)).bind λgR=>(some (bN.length:Int)).bind λfJ=>(cH (λ(s8:Int×(List En))=>match s8 with|⟨je,iV⟩=>(show Option ((Int×(List En))⊕((List En)))from(some (decide ((je:Int)<fJ))).bind λiz=>(bif iz then(cq bN je).bind λ⟨ua,uc,ud,⟨yf,HJ⟩⟩=>(da ⟨yf,HJ⟩ ⟨false,[]⟩).bind λ⟨jc,jd⟩=>(qu iV je).bind λjJ=>(stM iV jJ ⟨ua,uc,ud,⟨jc,jd⟩⟩).bind λvg=>(some (IntKind.i64.wrap (je+1))).bind λmY=>some (.inl (mY,vg))else some (.inr iV)))) (0,gR)).bind λeY=>some eY)
end
section
open Go.Fw Go.Fw.Z Go.RowKit
theorem nZ{x0:Bk}{r:Bool}(h:ik x0=some r):Pure ah 50 [ref (Yq x0)] (az r):=by
 obtain⟨bT,bN⟩:=x0;refine bL Try.func50 Y (af Y) (λgz M vs hvs=>?_);unfold ik at h;refine sr<|ag Y<|dn<|qq ?_;refine bH h (λj3=>AS.cZ 12 [(2,aj j3)] [] []) (λh=>?_) (λHf h=>?_);refine aX<|mv Y<|RT.OB .none Y Y T<|mv Y<|bE h λBe o7 h=>gm Y<|RT.lK (.some Y Y) Y T<|RT.bG (.some Y Y) Y T Y<|gr Y Y<|lE (F o7) λfU iN o7=>Co _ Y Y (qw (p:=bT) (q:=0) iN) ?_;obtain rfl:=O o7;exact pF Y<|ag Y<|dn<|⟨fU,h,wR []⟩
 try dsimp only
 refine aV.n<|bg ?_;obtain rfl:=O h;exact R1 Y
theorem lM{x0:Bk}{r:List En}(h:cX x0=some r):Pure ah 17 [ref (Yq x0)] (slc 5 (List.map ew r)):=by
 obtain⟨bT,bN⟩:=x0;refine bL Try.func17 Y (af Y) (λgz M vs hvs=>?_);unfold cX at h;refine sr<|aI Y (aB (n:=5) (e:=ew))<|dn<|qq<|sr<|mv Y<|bE h λx7 h7 h=>cl (nZ h7) ⟨Y,aq⟩<|dn ?_;cases x7;refine fs<|sr<|mv Y<|RT.lK .none Y T<|RT.bG .none Y T Y<|lr Y Y<|lE (F h) λgO kp h=>ln Y kp<|bE h λgR kI h=>RT.tK (n:=5) (e:=ew) .none Y Y T Y T (by rfl) (by decide) (by exact⟨au,au,au,au,aB,aq⟩) kI<|an (s:=.row _) Y<|dn<|qq<|sr<|mv Y<|RT.lK .none Y T<|RT.bG .none Y T Y<|lr Y Y ?_;refine lE h λfJ jW h=>ln Y jW<|mv Y<|dn<|bE h λe8 AQ sI=>?_;refine bW (λ(eY:(List En))=>AS.cZ 35 [(3,.row 13)] [] [(13,TR 43 5 ew eY)]) (λeY=>eY=e8) ?_ (λeY AR=>?_);refine bj ?_;refine bX AQ (λs8=>AS.cZ 35 [(3,.row 13),(17,.sv (slc 5 (List.map ew bN))),(18,ai fJ),(19,ai s8.1)] [] [(13,TR 43 5 ew s8.2)]) (wR []) (λs8 y8 G8 h AT AU=>?_);obtain⟨je,iV⟩:=s8
 try dsimp only
 refine sr<|lE h λiz my h=>ls _ Y Y my<|dn<|qq ?_;cases iz;refine cF<|b7<|aV.x<|aV.x<|bw.x<|aV.n ?_;obtain rfl:=O (F h);exact⟨iV,AU _ Y,wR []⟩;refine cT<|bu<|aV.n<|qq<|bj<|sr<|mv Y ?_;obtain⟨⟨ua,uc,ud,⟨yf,HJ⟩⟩,pW,h⟩:=bS (V h);refine ix Y Y pW<|RT.mS (cs:=[_,_,_,_,_]) .none Y T Y Y<|al (cs:=[ay 0,.v (.int .u8 ((0:Nat):Int)),ay 0,az false,ax]) (by exact⟨au,au,au,au,aB,aq⟩) Y<|ag Y<|so Y Y Y<|dn<|sr<|fa Y Y<|ld Y Y (.k2 Y Y)<|bI (cs:=[_,_]) (cs':=[az false,ax]) (.nil) ⟨au,aB,aq⟩ ?_;obtain⟨⟨jc,jd⟩,o6,h⟩:=bS h;refine cl (gH o6) ⟨Y,Y,aq⟩<|fa Y Y<|RT.vC (cells:=[_,_,_,_,_]) .none Y Y Y Y T Y<|dn<|aX<|mo (s:=.row _) Y<|mv Y<|ld Y Y (.cons Y (.k4 Y Y Y Y))<|bE h λjJ nj h=>iR Y Y Y nj<|bE h λvg rj h=>sA ⟨ua,uc,ud,⟨jc,jd⟩⟩ Y Y Y rj<|RT.done<|bw.n<|aV.n<|aX<|lE h λmY qy h=>ad _ Y Y qy<|mv Y ?_;refine RT.done ?_;obtain rfl:=O h;exact aV.n ⟨(mY,vg),AT _ Y,wR []⟩;subst AR
 try dsimp only
 refine aV.n<|sr<|mo (s:=.row _) Y<|an (s:=.row _) Y<|dn<|dg (ji (i:=13) (E1:=43) (n:=5) (e:=ew) (l:=eY) Y)<|bg ?_;obtain rfl:=O sI;exact R1 Y;refine cT<|sr<|aI Y (aB (n:=5) (e:=ew))<|dn<|bg<|aV.r ?_;obtain rfl:=O (V h);exact R1 Y
end
section
open Go.Fw Go.Fw.Z Go.RowKit
theorem sY{x0:Bk}(N:Nat){r:List En}(h:cX x0=some r):dR ah 17 N [ref (Yq x0)] (nw N (slc 5 (List.map (Gl N) r))):=by
 obtain⟨bT,bN⟩:=x0;refine bK Try.func17 Y (af Y) (λgz M vs hN hvs=>?_);unfold cX at h;refine sr<|aI Y (bn (N:=N) (n:=5) (e:=(Gl N)))<|dn<|qq<|sr<|mv Y<|bE h λx7 h7 h=>cl (nZ h7) ⟨Y,aq⟩<|dn ?_;cases x7;refine fs<|sr<|mv Y<|RT.lK .none Y T<|RT.bG .none Y T Y<|lr Y Y<|lE (F h) λgO kp h=>ln Y kp<|bE h λgR kI h=>RT.tK (n:=5) (e:=(Gl N)) .none Y Y T Y T (by rfl) (by decide) (by exact⟨au,au,au,au,bn,aq⟩) kI<|an (s:=.row _) Y<|dn<|qq<|sr<|mv Y<|RT.lK .none Y T<|RT.bG .none Y T Y<|lr Y Y ?_;refine lE h λfJ jW h=>ln Y jW<|mv Y<|dn<|bE h λe8 AQ sI=>?_;refine bW (λ(eY:(List En))=>AS.cZ 35 [(3,.row 13)] [] [(13,TR 43 5 (Gl N) eY)]) (λeY=>eY=e8) ?_ (λeY AR=>?_);refine bj ?_;refine bX AQ (λs8=>AS.cZ 35 [(3,.row 13),(17,.sv (slc 5 (List.map ew bN))),(18,ai fJ),(19,ai s8.1)] [] [(13,TR 43 5 (Gl N) s8.2)]) (wR []) (λs8 y8 G8 h AT AU=>?_);obtain⟨je,iV⟩:=s8
 try dsimp only
 refine sr<|lE h λiz my h=>ls _ Y Y my<|dn<|qq ?_;cases iz;refine cF<|b7<|aV.x<|aV.x<|bw.x<|aV.n ?_;obtain rfl:=O (F h);exact⟨iV,AU _ Y,wR []⟩;refine cT<|bu<|aV.n<|qq<|bj<|sr<|mv Y ?_;obtain⟨⟨ua,uc,ud,⟨yf,HJ⟩⟩,pW,h⟩:=bS (V h);refine ix Y Y pW<|RT.mS (cs:=[_,_,_,_,_]) .none Y T Y Y<|al (cs:=[ay 0,.v (.int .u8 ((0:Nat):Int)),ay 0,az false,nw N ax]) (by exact⟨au,au,au,au,bn,aq⟩) Y<|ag Y<|so Y Y Y<|dn<|sr<|fa Y Y<|ld Y Y (.k2 Y Y)<|bI (cs:=[_,_]) (cs':=[az false,nw N ax]) (.nil) ⟨au,bn,aq⟩ ?_;obtain⟨⟨jc,jd⟩,o6,h⟩:=bS h;refine RT.bM .none ((mz N o6).w (args':=[_,_]) ⟨au,(SV.dL (show cJ [az false,nw N ax] _ from⟨au,eH,aq⟩)),aq⟩) hN Y ⟨Y,Y,aq⟩ T<|fa Y Y<|RT.vC (cells:=[_,_,_,_,_]) .none Y Y Y Y T Y<|dn<|aX<|mo (s:=.row _) Y<|mv Y<|ld Y Y (.cons Y (.k4 Y Y Y Y))<|bE h λjJ nj h=>iR Y Y Y nj<|bE h λvg rj h=>?_;refine sA ⟨ua,uc,ud,⟨jc,jd⟩⟩ Y Y Y rj<|RT.done<|bw.n<|aV.n<|aX<|lE h λmY qy h=>ad _ Y Y qy<|mv Y<|RT.done ?_;obtain rfl:=O h;exact aV.n ⟨(mY,vg),AT _ Y,wR []⟩;subst AR
 try dsimp only
 refine aV.n<|sr<|mo (s:=.row _) Y<|an (s:=.row _) Y<|dn<|mh (i:=13) (E1:=43) (n:=5) (e:=(Gl N)) (l:=eY) hN (λ_ h=>h) Y<|bg ?_;obtain rfl:=O sI;exact R1 Y;refine cT<|sr<|aI Y (bn (N:=N) (n:=5) (e:=(Gl N)))<|dn<|bg<|aV.r ?_;obtain rfl:=O (V h);exact R1 Y
theorem wM(l:List En):CW ah 26 (λN=>slc 5 (l.map (Gl N))):=by
 refine Bp (e:=Gl) Try.func26 Y (af Y) Y (λ_ _=>Y) (λN D M0 v hsz hV=>?_);obtain⟨hn,⟨a,c,rfl,ha,YG⟩,hrow⟩:=hV;have JR:∀i k x,i<D.n->k<D.sz->D.Mx D.b0 (D.o0+i*D.sz+k)=some (.int .u32 x)->False:=by
  intro i k x hi hk e;obtain⟨-,q⟩:=hrow i _ (List.getElem?_eq_getElem (by omega));have hk4:k=0\/k=1\/k=2\/k=3\/k=4:=by omega
  rcases hk4 with rfl|rfl|rfl|rfl|rfl
  ·obtain⟨y,q1,_,q2⟩:=q 0 _ Y;have q2:y=_:=q2;rw[e]at q1;cases q1;cases q2
  ·obtain⟨y,q1,_,q2⟩:=q 1 _ Y;have q2:y=_:=q2;rw[e]at q1;cases q1;cases q2
  ·obtain⟨y,q1,_,q2⟩:=q 2 _ Y;have q2:y=_:=q2;rw[e]at q1;cases q1;cases q2
  ·obtain⟨y,q1,_,q2⟩:=q 3 _ Y;have q2:y=_:=q2;rw[e]at q1;cases q1;cases q2
  obtain⟨y,q1,_,q2⟩:=q 4 _ Y;obtain⟨_,_,q2,_⟩:=Bq q2;rw[e]at q1;cases q1;cases q2
 refine bR<|aX<|RT.yO .none Y (tl Y)<|RT.done<|aV.n<|bj ?_;refine uW (ι:={i:Nat//i<=l.length}) (λi=>AS.cZ 33 [(0,.sv (.v (.slice a l.length c))),(2,ai (i.1:Int))] [] [] i.1) (λi=>l.length-i.1) ⟨0,Nat.zero_le _⟩ (wR []) ?_;rintro⟨i,hi⟩;dsimp only;by_cases hlt:i<l.length
 ·have hne:l≠[]:=by rintro rfl;simp at hlt
  obtain rfl:=ha hne;obtain⟨hq,hc⟩:=hrow i _ (List.getElem?_eq_getElem hlt);obtain⟨y4,m4,_,z4⟩:=hc 4 _ Y;obtain⟨a4,c4,rfl,l4,w4⟩:=Bq z4;refine bR<|bR<|aX<|RT.mv .none Y (tl Y)<|RT.mv .none Y (tl Y)<|RT.JP .none Y (tl Y)<|RT.lss .none true Y Y (tl Y) (decide_eq_true (by omega))<|RT.done<|aV.n<|fk Y<|bu<|aV.n ?_;refine bR<|bj<|bR<|bR<|aX<|RT.yO .none Y (tl Y)<|RT.done<|aV.n<|bj ?_;refine uW (ι:={k:Nat//k<=l[i].gu.w.length}) (λk=>AS.cZ 33 [(0,.sv (.v (.slice (some ⟨D.b0,D.o0,none⟩) l.length c))),(2,ai (i:Int)),(3,ai (k.1:Int))] [] [] i) (λk=>l[i].gu.w.length-k.1) ⟨0,Nat.zero_le _⟩ (wR []) ?_;rintro⟨k,hk⟩;dsimp only;by_cases oS:k<l[i].gu.w.length
  ·obtain⟨b1,o1,rfl,hm1,V4⟩:=w4 (by intro e;rw[e]at oS;simp at oS);obtain⟨x1,hx1⟩:=V4 k oS;refine bR<|bR<|aX<|RT.mv .none Y (tl Y)<|RT.mv .none Y (tl Y)<|RT.mv .none Y (tl Y)<|RT.UR .none Y Y (tl Y) hlt<|RT.PJ .none Y (tl Y)<|RT.PJ .none Y (tl Y)<|RT.OA (i:=i) (k:=4) .none Y (tl Y) (by rw[hsz]) (Nat.le_refl _) (by omega) (by omega) m4<|RT.JP .none Y (tl Y)<|RT.lss .none true Y Y (tl Y) (decide_eq_true (by omega))<|RT.done<|aV.n<|fk Y<|bu<|aV.n ?_;refine bR<|bj<|aX<|RT.mv .none Y (tl Y)<|RT.mv .none Y (tl Y)<|RT.UR .none Y Y (tl Y) hlt<|RT.PJ .none Y (tl Y)<|RT.PJ .none Y (tl Y)<|RT.OA (i:=i) (k:=4) .none Y (tl Y) (by rw[hsz]) (Nat.le_refl _) (by omega) (by omega) m4<|RT.mv .none Y (tl Y)<|RT.UR .none Y Y (tl Y) oS<|RT.US .none [.int .u32 77] i Y (λ_ _ _ _=>Y) (by simp[Value.oneCell']) (λw=>ni.size w) hm1 (λj hj=>?_) (Nat.le_refl _) (λi2 k2 h1 h2 h3 h4=>?_)<|RT.done<|bw.n<|aV.n ?_
   ·obtain rfl:j=0:=by simpa using hj
    exact⟨_,by have q:=(D.hin _ _ _ hx1).cell rfl;simpa using q⟩
   ·by_cases hq:D.o0+i2*D.sz+k2=o1+k
    ·exact(JR i2 k2 x1 h2 h3 (by rw[hq,<-h4];exact hx1)).elim
    simp only[List.length_cons,List.length_nil];omega
   exact aX<|RT.mv .none Y (tl Y)<|RT.add .none _ Y Y (tl Y) (kZ (by omega))<|RT.yO .none Y (tl Y)<|RT.done<|aV.n ⟨⟨k+1,oS⟩,by dsimp only;omega,wR []⟩
  refine bR<|bR<|aX<|RT.mv .none Y (tl Y)<|RT.mv .none Y (tl Y)<|RT.mv .none Y (tl Y)<|RT.UR .none Y Y (tl Y) hlt<|RT.PJ .none Y (tl Y)<|RT.PJ .none Y (tl Y)<|RT.OA (i:=i) (k:=4) .none Y (tl Y) (by rw[hsz]) (Nat.le_refl _) (by omega) (by omega) m4<|RT.JP .none Y (tl Y)<|RT.lss .none false Y Y (tl Y) (decide_eq_false (by omega))<|RT.done<|aV.n<|gW Y<|b7<|aV.x<|aV.x<|bw.x<|aV.n ?_;refine aX<|RT.mv .none Y (tl Y)<|RT.mv .none Y (tl Y)<|RT.build .none .nil Y (tl Y)<|RT.UR .none Y Y (tl Y) hlt<|RT.US .none [.int .i64 0,.int .u8 0,.int .i64 0,.bool false,.slice none 0 0] (i+1) Y (λE a w h=>E6 (us:=[.int .i64 0,.int .u8 0,.int .i64 0,.bool false,.slice none 0 0]) (h.ev (.tmp 31))) (by simp[Value.oneCell']) (λw=>rZ.size w) (D.hb (by omega)) (λj hj=>?_) (Nat.le_succ _) (λi2 k2 h1 h2 h3 h4=>?_)<|RT.done<|bw.n<|aV.n ?_
  ·obtain⟨y,e,ho⟩:=D.cell i j (by omega) (by rw[hsz];exact hj);rw[hsz]at e;exact⟨y,(D.hin _ _ _ e).cell ho⟩
  ·rw[hsz];simp only[List.length_cons,List.length_nil];omega
  exact aX<|RT.mv .none Y (tl Y)<|RT.add .none _ Y Y (tl Y) (kZ (by omega))<|RT.yO .none Y (tl Y)<|RT.done<|aV.n ⟨⟨i+1,hlt⟩,by dsimp only;omega,wR []⟩
 exact bR<|bR<|aX<|RT.mv .none Y (tl Y)<|RT.mv .none Y (tl Y)<|RT.JP .none Y (tl Y)<|RT.lss .none false Y Y (tl Y) (decide_eq_false (by omega))<|RT.done<|aV.n<|gW Y<|b7<|aV.x<|aV.x<|bw.x (.inl Y)
end
end Go.Proofs.Ytmiflmkdaeianaa
namespace Go.Fw
section
open Go.RowKit
section
variable {P:Program}
end
section
variable {P:Program}{C:Ctx}{ops:Array Oper}{S:AS}{nd:Bool}{K:List Ac->AS->Prop}{rest:List Oper}{acc:List Ac}
variable {gd:Option (Nat×Bool)}{rg:List Nat}{d:Nat}{ty:TypeId}{pos:String}{aft:Array Edge}{x y z:Operand}{T U E0:TypeId}
def HK(S:AS):List Fc->Prop
 |[]=>True
 |.val s::l=>(∀M v,s.h M v->v.oneCell'=true)/\HK S l
 |.row i::l=>(∃R,S.r i=.live R)/\HK S l
 |.box _::l=>HK S l
def qi:List Fc->List Nat
 |[]=>[]
 |.row i::l=>i::qi l
 |.val _::l=>qi l
 |.box _::l=>qi l
inductive qj (S:AS):List (Nat×Operand)->List (Nat×Fc)->Prop
 |nil:qj S [] []
 |one {i:Nat} {x:Operand} {s:SV} {ps:List (Nat×Operand)} {qs:List (Nat×Fc)} [o:One s] (h:S.ev x=.sv s) (t:qj S ps qs):qj S ((i,x)::ps) ((i,.val s)::qs)
 |row {i j:Nat} {x:Operand} {R:Row} {ps:List (Nat×Operand)} {qs:List (Nat×Fc)} (h:S.ev x=.row j) (hR:S.r j=.live R) (t:qj S ps qs):qj S ((i,x)::ps) ((i,.row j)::qs)
def Xx(E:Env):Fc->SV
 |.val s=>s
 |.row j=>.v (E.ν j)
 |.box _=>.any
def AV.lN(E:Env):AV->AV
 |.row i=>.sv (.v (E.ν i))
 |x=>x
def AS.lN(S:AS)(E:Env):AS:={S with t:=λs=>(S.t s).lN E}
theorem sZ{E:Env}(x:AV):(∀v,x.holds E v->(x.lN E).holds E v)/\(∀j,(x.lN E).mb j->x.mb j)/\∀j,(x.lN E).mr j->x.mr j:=by
 cases x with
 |row i=>exact⟨λv hv=>hv,λj hj=>False.elim hj,λj hj=>False.elim hj⟩
 |_=>exact⟨λv hv=>hv,λj hj=>hj,λj hj=>hj⟩
theorem aY.lN{E:Env}{a:Act}{w:World}(h:aY C S E a w):aY C (S.lN E) E a w:={h with
  wf:=⟨λs j hj=>h.wf.tb s j ((sZ (S.t s)).2.1 j hj),λs j hj=>h.wf.tr s j ((sZ (S.t s)).2.2 j hj),h.wf.bb,h.wf.br⟩
  tm:=λs=>(sZ (S.t s)).1 _ (h.tm s)}
theorem HL{E:Env}{s:SV}(h:S.ev x=.sv s):(S.lN E).ev x=.sv s:=by
 cases x with
 |tmp t=>
  have h:S.t t=.sv s:=h;show(S.t t).lN E=_;rw[h];rfl
 |_=>exact h
theorem E7{E:Env}{j:Nat}(h:S.ev x=.row j):(S.lN E).ev x=.sv (.v (E.ν j)):=by
 cases x with
 |tmp t=>
  have h:S.t t=.row j:=h;show(S.t t).lN E=_;rw[h];rfl
 |_=>cases h
theorem zJ{S':AS}{E:Env}{a:Act}{w:World}(h:aY C S' E a w){ps:List (Nat×Operand)}{qs:List (Nat×Fc)}(hp:qj S ps qs)(ht:∀s∈eX ps,S'.t s=S.t s)(hr:∀q∈qs,∀j,q.2=.row j->S'.r j=S.r j):iQ (S'.lN E) ps (qs.map λq=>(q.1,[Xx E q.2])):=by
 induction hp with
 |nil=>exact .nil
 | @one i x s ps qs o hx _ ih=>
  have hx':S'.ev x=.sv s:=by rw[bk (rs:=eX ((i,x)::ps)) (λs hs=>by simp only[eX,List.flatMap_cons];exact List.mem_append_left _ hs) ht];exact hx
  exact iQ.one (s:=s) (HL hx') (ih (λs hs=>ht s (by simp only[eX,List.flatMap_cons];exact List.mem_append_right _ hs)) (λq hq=>hr q (List.mem_cons_of_mem _ hq)))
 | @row i j x R ps qs hx hR _ ih=>
  have hx':S'.ev x=.row j:=by rw[bk (rs:=eX ((i,x)::ps)) (λs hs=>by simp only[eX,List.flatMap_cons];exact List.mem_append_left _ hs) ht];exact hx
  obtain⟨⟨ws,hw,_⟩,_⟩:=h.rx j R (by rw[hr (i,.row j) (by simp) j rfl];exact hR);have o:One (.v (E.ν j)):=⟨λM v hv=>by
   have hv:v=E.ν j:=hv;rw[hv];rcases hw.2 with⟨h3,_⟩|⟨g,cap,cur,h3,_⟩<;>rw[h3]<;>rfl⟩
  exact iQ.one (s:=.v (E.ν j)) (E7 hx') (ih (λs hs=>ht s (by simp only[eX,List.flatMap_cons];exact List.mem_append_right _ hs)) (λq hq=>hr q (List.mem_cons_of_mem _ hq)))
theorem zK{E:Env}:∀{js:List Fc} {us:List Value},(∀j,Fc.box j∉js)->SV.dj E.M (js.map (Xx E)) us->oH E js us
 |[],[],_,_=>trivial
 |.val s::l,u::us,hb,h=>⟨h.1,zK (λj hj=>hb j (List.mem_cons_of_mem _ hj)) h.2⟩
 |.row i::l,u::us,hb,h=>⟨h.1,zK (λj hj=>hb j (List.mem_cons_of_mem _ hj)) h.2⟩
 |.box i::l,_,hb,_=>(hb i (by simp)).elim
 |[],_::_,_,h=>h.elim
 |.val _::_,[],_,h=>h.elim
 |.row _::_,[],_,h=>h.elim
def DS:List Fc->Bool
 |[]=>true
 |.box _::_=>false
 |.val _::l=>DS l
 |.row _::l=>DS l
theorem vo:∀{js:List Fc},DS js=true->∀j,Fc.box j∉js
 |[],_,j,h=>by cases h
 |.box _::_,h,_,_=>by cases h
 |.val _::l,h,j,hj=>by rcases List.mem_cons.1 hj with e|e;cases e;exact vo (js:=l) h j e
 |.row _::l,h,j,hj=>by rcases List.mem_cons.1 hj with e|e;cases e;exact vo (js:=l) h j e
theorem n6:∀{js:List Fc} {j:Nat},Fc.row j∈js->j∈qi js
 |.box _::l,j,h=>by rcases List.mem_cons.1 h with e|e;cases e;exact n6 (js:=l) e
 |.val _::l,j,h=>by rcases List.mem_cons.1 h with e|e;cases e;exact n6 (js:=l) e
 |.row i::l,j,h=>by
  rcases List.mem_cons.1 h with e|e
  ·cases e;simp[qi]
  exact List.mem_cons_of_mem _ (n6 (js:=l) e)
theorem oC:∀{js:List Fc} {j:Nat},HK S js->Fc.row j∈js->∃R,S.r j=.live R
 |.box _::l,j,ho,h=>by rcases List.mem_cons.1 h with e|e;cases e;exact oC (js:=l) ho e
 |.val _::l,j,ho,h=>by rcases List.mem_cons.1 h with e|e;cases e;exact oC (js:=l) ho.2 e
 |.row i::l,j,ho,h=>by
  rcases List.mem_cons.1 h with e|e
  ·cases e;exact ho.1
  exact oC (js:=l) ho.2 e
theorem RT.OC(hg:Gd ops S gd rg){pl:List (Nat×Nat)}{zc:List Value}[tP:gj P T pl zc]{parts:Array (Nat×Operand)}{qs:List (Nat×Fc)}(hp:qj S parts.toList qs)(js:List Fc)(hf:∀E:Env,nC (λi=>pl[i]?) (zc.map SV.v) (qs.map λq=>(q.1,[Xx E q.2]))=some (js.map (Xx E)))(hnb:DS js=true)(hok:HK S js)(rr:List Nat)(FG:qi js=rr)(UU:qi (qs.map (·.2))=rr)(hd:d<S.n)
  (next:RunT P C ops nd K rest (⟨rg++eX parts.toList,[],rr,⟨some (d,.cmp .agg js),[],[]⟩⟩::acc) (S.set d (.cmp .agg js))):RunT P C ops nd K (⟨some d,.build T parts,ty,pos,aft,gd⟩::rest) acc S:=
 RT.value hg (eX parts.toList) [] rr (.cmp .agg js) hd (by intro c h;cases h) (λS' ht _ hr E a w h=>by
  have hu:=tP.h;cases hT:P.underlying T with
  |none=>rw[hT]at hu;cases hu
  |some u=>
   rw[hT]at hu;cases u with
   |struct fs=>
    simp only at hu;have hz:(zeroValue T).run P w=.ok (.agg ⟨zc⟩) w:=iL.run (t:=⟨tP.hz⟩) w;have OD:=zJ h hp ht (λq hq j e=>hr j (by rw[<-UU];exact n6 (List.mem_map.2 ⟨q,hq,e⟩)));obtain⟨us,h1,h2,_⟩:=qH h.lN (λi=>pl[i]?) OD (λs _=>rfl) (cells:=zc.map SV.v) (vs:=zc) (by
     have:∀l:List Value,SV.dj E.M (l.map SV.v) l:=by
      intro l;induction l with
      |nil=>trivial
      |cons v l ih=>exact⟨Y,ih⟩
     exact this zc) (List.all_eq_true.1 tP.o) (hf E)
    refine⟨.agg ⟨us⟩,?_,⟨us,Y,zK (vo hnb) h2⟩,λj e=>(vo hnb j e).elim,λj e=>?_⟩
    ·have hm:(fs.mapM (λf=>do pure (f.offset,<-sizeOf f.type):Field->Sem (Nat×Nat))).run P w=.ok pl.toArray w:=by
      have:=kM (P:=P) (w:=w) hu;rw[<-Array.toArray_toList (xs:=fs),List.mapM_toArray];rw[Sem.run_map,this];rfl
     have h1':Instr.fill (λi=>pl.toArray[i]?) ⟨zc⟩ (parts.toList.map λp=>(p.1,a.eval p.2))=some ⟨us⟩:=by simpa using h1
     simp only[execOp,Instr.build,underlying];simp only[Sem.run_bind,hz,Result.andThen_ok,run_program,hT,Sem.run_pure,Value.cells];have hm':(Array.mapM (λf=>do
       let __do_lift<-sizeOf f.type
       pure (f.offset,__do_lift)) fs:Sem _).run P w=.ok pl.toArray w:=hm
     simp only[hm',Result.andThen_ok];have e4:(Array.map (λx=>match x with|(i,x)=>(i,a.eval x)) parts).toList=parts.toList.map λp=>(p.1,a.eval p.2):=by simp
     simp only[e4,h1',Sem.run_pure,Result.andThen_ok]
    obtain⟨R,hR⟩:=oC hok e;rw[hr j (by rw[<-FG];exact n6 e),hR];simp
   |_=>cases hu) next
end
end
section
open Go.RowKit
def wN(P:Program)(f:FuncId)(args:Nat->List AV)(T:TypeId)(c:List Oc)(Post:Nat->Mem->World->Value->Prop):Prop:=
 ∀(M:Mem) (w:World) (β:Nat) (vs us:List Value),M.b8 w->jV M w β T c us->cc (mJ M β) (args β) vs->
  Calls P f ⟨vs⟩ w λe w'=>∃v M',e=.returned v/\M.le M'/\(∀b o x,M' b o=some x->M b o=some x\/w.heap.size<=b)/\M'.b8 w'/\Post w.heap.size M' w' v/\
   jV M' w' β T c us/\w'.os=w.os/\w'.tape=w.tape/\w'.output=w.output/\w.heap.size<=w'.heap.size/\∀k,k<w.heap.size->k≠β->¬dW c us k->w'.heap[k]? =w.heap[k]?
def OE(R:Row)(n:Nat)(M':Mem)(w':World)(v:Value):Prop:=∃us,w'.ownsRow 0 R.E R.sz v R.n us/\SV.dj M' R.cells us/\∀g,v.ownBlock=some g->n<=g/\∀o,M' g o=none
def OF(T:TypeId)(c:List Oc)(n:Nat)(M':Mem)(w':World)(v:Value):Prop:=∃β us,v=.pointer (some ⟨β,0,none⟩)/\jV M' w' β T c us/\n<=β/\∀g,dW c us g->n<=g
theorem uw{P:Program}{f:FuncId}{fn:Func}{code:Code}{args:Nat->List AV}{T:TypeId}{c:List Oc}{Post:Nat->Mem->World->Value->Prop}(ids:List Nat)(hf:P.funcs[f]? =some fn)(hb:fn.body=some code)(hn:∀β,(args β).length<=fn.ntmps)(xd:∀β,(args β).all AV.oy=true)(r9:ids.Nodup)(Fu:ids.length=(rowsOf c).length)(hge:(ids.all λi=>Nat.ble 1000 i)=true)(CR:sQ c)(Rq:AS->Prop)
  (h:∀(w:World) (M:Mem) (β:Nat) (us:List Value),Ok P (Bd w M β c us ids hge) code (AS.uE fn.ntmps (args β) [(1000,⟨T,bC ids c⟩)] (ids.zip (rowsOf c))) (λe S=>(e=.normal\/e=.ret)/\Rq S/\S.b 1000=some ⟨T,bC ids c⟩/\Lv S ids (rowsOf c)))
  (hr:∀(w:World) (M:Mem) (β:Nat) (us:List Value) (S':AS) (E:Env) (a:Act) (w':World),Rq S'->aY (Bd w M β c us ids hge) S' E a w'->S'.b 1000=some ⟨T,bC ids c⟩->(∀g,dW c us g->∃j∈ids,(E.ν j).ownBlock=some g)->(∀j∈ids,∃R,S'.r j=.live R)->∃v,(results fn a.tmps).run P w'=.ok v w'/\Post w.heap.size E.M w' v):wN P f args T c Post:=by
 intro M w β vs us hM ho hv;have La:(bD c us).length=(rowsOf c).length:=by rw[<-dO ho.al,List.length_map]
 have hnd:((ids.zip (bD c us)).map (·.1)).Nodup:=by rw[rE (by omega)];exact r9
 have Ci:aY (Bd w M β c us ids hge) (AS.uE fn.ntmps (args β) [(1000,⟨T,bC ids c⟩)] (ids.zip (rowsOf c))) ⟨λ_=>β,hG (ids.zip (bD c us)) (λ_=>.nilIface),λ_=>False,M⟩ {tmps:=⟨vs⟩++Array.replicate (fn.ntmps-(⟨vs⟩:Array Value).size) undef,defers:=[]} w:=by
  have h0:=zy (n:=fn.ntmps) ids hM ho hv (xd β) (hn β) r9 Fu
  exact{wf:=h0.wf,marks:=h0.marks,size:=h0.size,os:=h0.os,tape:=h0.tape,output:=h0.output,grown:=h0.grown,frame:=h0.frame,m0:=h0.m0,cV:=h0.cV,b8:=h0.b8,tm:=h0.tm,bx:=h0.bx,inj:=h0.inj,rx:=h0.rx,dw:=h0.dw,ey:=h0.ey,cQ:=λi v e=>(by
   obtain⟨R,hm⟩:=vk e
   exact fy hnd hm),gD:=h0.gD,jj:=trivial}
 refine ef Y hf hb Ci (h w M β us) ?_;rintro S' E a w' ⟨hq,hB,hL⟩ hh;have hβ:E.β 1000=β:=hh.ey 1000 β Y;obtain⟨us',ho',eT⟩:=ia hh hB hL r9;rw[hβ]at ho';obtain⟨_,_,_,Ek,q2,q3⟩:=hh.bx 1000 _ hB;rw[hβ,ho'.hp]at q2;obtain rfl:us'=Ek:=by
  have:=Option.some.inj q2;injection this with e
  injection e
 obtain⟨_,Of⟩:=lI hh hL q3;have gN:bD c us=bD c us':=by
  rw[Of];have key:∀(ids:List Nat) (l:List (Row×Value)) (Rs:List Row),ids.length=l.length->l.map (·.1)=Rs->(∀i R v,(i,R,v)∈ids.zip l->E.ν i=v)->l=Rs.zip (ids.map E.ν):=by
   intro ids
   induction ids with
   |nil=>intro l Rs hl hm _;cases l with|nil=>cases hm;rfl|cons _ _=>simp at hl
   |cons i ids ih=>
    intro l Rs hl hm hν;cases l with
    |nil=>simp at hl
    |cons p l=>
     cases hm;obtain⟨R,v⟩:=p;rw[List.map_cons,List.map_cons,List.zip_cons_cons,hν i R v (by rw[List.zip_cons_cons];simp),<-ih l _ (by simpa using hl) Y (λi R v hm=>hν i R v (by rw[List.zip_cons_cons];exact List.mem_cons_of_mem _ hm))]
  exact key ids _ _ (by omega) (dO ho.al) (λi R v hm=>hh.cQ i v (CQ hnd hm))
 obtain rfl:us=us':=vm CR ho.al ho'.al gN;obtain⟨v,hv,hx⟩:=hr w M β us S' E a w' hq hh hB (λg hg=>(eT g).1 hg) (λj hj=>hL.mem j hj);refine⟨v,hv,v,E.M,Y,hh.m0,λb o x e=>?_,hh.b8,hx,ho',hh.os,hh.tape,hh.output,hh.grown,λk hk hne hno=>hh.frame k hk (λe=>e.elim hne hno)⟩;rcases hh.cV b o x e with q|q|q|q
 ·exact .inl q
 ·exact .inr q
 ·rw[show b=β from q,ho'.nb o]at e;cases e
 rw[(ho'.nr b q).2 o]at e;cases e
theorem Bs{P:Program}{w:World}{M:Mem}{β:Nat}{c:List Oc}{us:List Value}{ids:List Nat}{hge:(ids.all λi=>Nat.ble 1000 i)=true}{S':AS}{E:Env}{a:Act}{w':World}{B:ju}(hh:aY (Bd w M β c us ids hge) S' E a w')(hB:S'.b 1000=some B)(eT:∀g,dW c us g->∃j∈ids,(E.ν j).ownBlock=some g)(hlv:∀j∈ids,∃R,S'.r j=.live R)
  {k:Nat} {R:Row} (hR:S'.r k=.live R) (hk:k∉ids) (g:Nat) (hg:(E.ν k).ownBlock=some g):w.heap.size<=g:=by
 obtain⟨_,q3⟩:=hh.rx k R hR;obtain⟨q4,q5,_,q7⟩:=q3 g hg;rcases q4 with q4|q4|q4
 ·exact q4
 ·have h1:E.β 1000=β:=hh.ey 1000 β Y;exact absurd (h1.trans (show β=g from(show g=β from q4).symm)) (q7 1000 B hB)
 obtain⟨j,hj,pK⟩:=eT g q4;obtain⟨R',jv⟩:=hlv j hj;have:=hh.dw k j R R' hR jv g hg pK;subst this;exact absurd hj hk
theorem Bt{P:Program}{f:FuncId}{fn:Func}{code:Code}{args:Nat->List AV}{T:TypeId}{c:List Oc}{R:Row}(ids:List Nat)(hf:P.funcs[f]? =some fn)(hb:fn.body=some code)(hn:∀β,(args β).length<=fn.ntmps)(xd:∀β,(args β).all AV.oy=true)(r9:ids.Nodup)(Fu:ids.length=(rowsOf c).length)(hge:(ids.all λi=>Nat.ble 1000 i)=true)(CR:sQ c)
  (h:∀(w:World) (M:Mem) (β:Nat) (us:List Value),Ok P (Bd w M β c us ids hge) code (AS.uE fn.ntmps (args β) [(1000,⟨T,bC ids c⟩)] (ids.zip (rowsOf c))) (λe S=>(e=.normal\/e=.ret)/\(∃k,qJ P S fn.results.toList (.row k)/\S.r k=.live R/\k∉ids)/\S.b 1000=some ⟨T,bC ids c⟩/\Lv S ids (rowsOf c))):wN P f args T c (OE R):=
 uw ids hf hb hn xd r9 Fu hge CR _ h (λw M β us S' E a w' ⟨k,hr,hR,hk⟩ hh hB eT hlv=>by
  obtain⟨v,hv,hx⟩:=hr.run hh;obtain⟨⟨Ek,q1,q2⟩,q3⟩:=hh.rx k R hR;have hx:v=E.ν k:=hx;subst hx;exact⟨_,hv,Ek,q1,q2,λg hg=>⟨Bs (P:=P) hh hB eT hlv hR hk g hg,(q3 g hg).2.1⟩⟩)
theorem Bu{P:Program}{f:FuncId}{fn:Func}{code:Code}{args:Nat->List AV}{T T2:TypeId}{c c2:List Oc}(ids:List Nat)(hf:P.funcs[f]? =some fn)(hb:fn.body=some code)(hn:∀β,(args β).length<=fn.ntmps)(xd:∀β,(args β).all AV.oy=true)(r9:ids.Nodup)(Fu:ids.length=(rowsOf c).length)(hge:(ids.all λi=>Nat.ble 1000 i)=true)(CR:sQ c)
  (h:∀(w:World) (M:Mem) (β:Nat) (us:List Value),Ok P (Bd w M β c us ids hge) code (AS.uE fn.ntmps (args β) [(1000,⟨T,bC ids c⟩)] (ids.zip (rowsOf c))) (λe S=>(e=.normal\/e=.ret)/\(∃(k:Nat) (ks:List Nat),qJ P S fn.results.toList (.ptr k 0)/\S.b k=some ⟨T2,bC ks c2⟩/\Lv S ks (rowsOf c2)/\ks.Nodup/\k≠1000/\∀j∈ks,j∉ids)/\S.b 1000=some ⟨T,bC ids c⟩/\Lv S ids (rowsOf c))):wN P f args T c (OF T2 c2):=
 uw ids hf hb hn xd r9 Fu hge CR _ h (λw M β us S' E a w' ⟨k,ks,hr,PA,hL2,hks,hk,hd⟩ hh hB eT hlv=>by
  obtain⟨v,hv,hx⟩:=hr.run hh;obtain⟨Ek,xP,UW⟩:=ia hh PA hL2 hks;refine⟨v,hv,E.β k,Ek,hx,xP,?_,λg hg=>?_⟩
  ·obtain⟨p1,_,_,_⟩:=hh.bx k _ PA;rcases p1 with p|p|p
   ·exact p
   ·exact absurd (hh.inj k 1000 _ _ PA hB ((show E.β k=β from p).trans (show E.β 1000=β from hh.ey 1000 β Y).symm)) hk
   obtain⟨j,hj,pK⟩:=eT _ p;obtain⟨R',jv⟩:=hlv j hj;exact absurd Y (((hh.rx j R' jv).2 _ pK).2.2.2 k _ PA)
  obtain⟨j,hj,pK⟩:=(UW g).1 hg;obtain⟨R',jv⟩:=hL2.mem j hj;exact Bs (P:=P) hh hB eT hlv jv (hd j hj) g pK)
section steps
variable {P:Program}{C:Ctx}{ops:Array Oper}{S:AS}{nd:Bool}{K:List Ac->AS->Prop}{rest:List Oper}{acc:List Ac}
variable {gd:Option (Nat×Bool)}{rg:List Nat}{d:Nat}{ty:TypeId}{pos:String}{aft:Array Edge}{x y z:Operand}{T U E0:TypeId}
theorem aY.JS{E:Env}{a:Act}{w:World}(h0:aY C S E a w){i:Nat}(hi:S.b i=none)(hp:C.ey i=none){ks:List Nat}{c:List Oc}{us:List Value}{β:Nat}(hks:ks.Nodup)(oS:ks.length=(rowsOf c).length)(EW:Un S ks)
  (ho:jV E.M w β T c us) (hβ:yL C S E β) (hg:∀g,dW c us g->yL C S E g):
  ∃E':Env,E'.M=E.M/\E'.β i=β/\aY C (AS.bz (k8 [] ks c) (AS.dA [(i,⟨T,bC ks c⟩)] S)) E' a w:=by
 have La:(bD c us).length=(rowsOf c).length:=by rw[<-dO ho.al,List.length_map]
 obtain⟨E1,q1,q2,q3,q4,q5,h1⟩:=aY.zA ks (bD c us) h0 (by omega) hks EW (iB ho.al) ho.ap (λp hp g xH=>hg g ⟨p,hp,xH⟩);have hS1:AS.bz ((ks.zip (bD c us)).map (λn=>(n.1,.live n.2.1))) S=AS.bz (k8 [] ks c) S:=by rw[<-wI ho.al [] ks];rfl
 rw[hS1]at h1;obtain⟨f1,f2,f3,f4,f5⟩:=hβ;have Rl:(AS.bz (k8 [] ks c) S).b i=none:=by rw[(cW _ _).2.2.1];exact hi
 have hfree:yL C (AS.bz (k8 [] ks c) S) E1 β:=by
  refine⟨f1,by rw[q1];exact f2,by rw[q3];exact f3,λj B hB=>?_,λj R hR e=>?_⟩
  ·rw[(cW _ _).2.2.1]at hB;rw[q2];exact f4 j B hB
  by_cases hj:j∈ks
  ·obtain⟨p,hm⟩:=jE (l:=ks) (k:=bD c us) (by omega) hj;rw[q4 j p hm]at e;exact(ho.nr β ⟨p,(fg hm).2,e⟩).1 Y
  rw[gh,mH (λR hm=>by
   obtain⟨x,hx,e⟩:=List.mem_map.1 (show(j,R)∈(ks.zip (rowsOf c)).map (λp=>(p.1,ir.live p.2))from hm);obtain⟨k,R2⟩:=x;have e:k=j:=congrArg Prod.fst e;exact hj (e▸(fg hx).1))]at hR
  rw[q5 j hj]at e;exact f5 j R hR e
 have h2:=h1.yP Rl hp hfree ho.hp (jo (w:=w) oS (by rw[q1];exact ho.al) q4) (λx hx=>by
  obtain⟨p1,p2⟩:=jD x hx;refine⟨λj e=>absurd e (p1 j),λj e=>?_⟩;obtain⟨R,hm⟩:=jE (l:=ks) (k:=rowsOf c) oS (p2 j e);obtain⟨R',jv⟩:=rD (l:=k8 [] ks c) (j:=j) (R:=.live R) (List.mem_map.2 ⟨(j,R),hm,Y⟩);rw[gh,jv];obtain⟨x,hx,e⟩:=List.mem_map.1 (show(j,R')∈(ks.zip (rowsOf c)).map (λp=>(p.1,ir.live p.2))from mI jv);rw[<-show ir.live x.2=R' from congrArg Prod.snd e];simp)
 refine⟨{E1 with β:=λj=>if j=i then β else E1.β j},q1,?_,?_⟩
 rotate_left 1
 ·rw[show AS.dA [(i,(⟨T,bC ks c⟩:ju))] S=S.gP i ⟨T,bC ks c⟩from Y,qf];exact h2
 show(if i=i then β else E1.β i)=β;rw[if_pos rfl]
theorem RT.JU(hg:Gd ops S gd rg){f:FuncId}[dX P f]{g:Operand}{xs:Array Operand}{at_:Array TypeId}{args:List AV}{T:TypeId}{c:List Oc}{R:Row}(hp:wN P f (λ_=>args) T c (OE R))(i:Nat)(js:List Nat)(hB:S.b i=some ⟨T,bC js c⟩)(hL:Lv S js (rowsOf c))(Dt:js.Nodup)
  (xd:args.all AV.oy=true) (hf:S.ev g=.sv (.v (.func (.func f) #[] #[]))) (hargs:me S xs.toList (args.map (AV.Iv i))) (hd:d<S.n) (qF:S.r d=.un) (oR:d<1000)
  (next:RunT P C ops nd K rest (⟨rg++(aW g++xs.toList.flatMap aW),[i],d::js,⟨some (d,.row d),[],[(d,.live R)]⟩⟩::acc) ((AS.bz [(d,.live R)] S).set d (.row d))):RunT P C ops nd K (⟨some d,.call ⟨.value g,xs,at_⟩,ty,pos,aft,gd⟩::rest) acc S:=by
 refine .inl ⟨_,[i],d::js,_,?_,next⟩;rintro S' hn ht hb hr k a w L Q ho ⟨E,h⟩ Jy;refine bO (C:=C) ho (hg.wanted h (λs hs=>ht s (List.mem_append_left _ hs)) Y) ?_;have nx:a.eval g=.func (.func f) #[] ⟨[]⟩:=by
  have h1:=h.ev g;rw[bk (λ_ h=>List.mem_append_right _ (List.mem_append_left _ h)) ht,hf]at h1;exact h1
 have hall:=oB xd (me.vals h hargs (λs hs=>ht s (List.mem_append_right _ (List.mem_append_right _ hs))));have dK:S'.b i=some ⟨T,bC js c⟩:=by rw[hb i (by simp)];exact hB
 have Du:Lv S' js (rowsOf c):=hL.congr (λk hk=>hr k (List.mem_cons_of_mem _ hk));have Ca:S'.r d=.un:=by rw[hr d (by simp)];exact qF
 obtain⟨us,CP,rG⟩:=ia h dK Du Dt;refine bP (C:=C) (by intro c h;cases h) (gY nx) ?_;rw[List.append_nil];refine⟨λh=>by simp at h,dV ((hp E.M w (E.β i) _ us h.b8 CP hall).mono ?_)⟩;rintro e w' ⟨v,M',rfl,hM,hnew,hin,⟨Ek,hv,hc,hfr⟩,xP,hos,hH,hout,hsize,eT⟩;have h1:=(h.vn dK Du Dt CP hM hnew hin xP hos hH hout hsize eT).uY Ca oR [] none (.inl ⟨Y,Y⟩) (R':=R) hv hc (λg hg=>.inr (h.mg (hfr g hg).1 (hfr g hg).2)) (kj w' none);refine Jy _ _ ⟨_,h1.put (x:=.row d) (v:=v) (by simp[AV.holds]) (by show d<S'.n;omega) ⟨λ_ e=>e.elim,λj e=>?_⟩⟩;cases e;show(AS.kX S' d _).r d≠_;rw[AS.eJ];simp
theorem RT.DT(hg:Gd ops S gd rg){f:FuncId}[dX P f]{g:Operand}{xs:Array Operand}{at_:Array TypeId}{args:List AV}{T T2:TypeId}{c c2:List Oc}(hp:wN P f (λ_=>args) T c (OF T2 c2))(i:Nat)(js:List Nat)(hB:S.b i=some ⟨T,bC js c⟩)(hL:Lv S js (rowsOf c))(Dt:js.Nodup)
  (xd:args.all AV.oy=true) (hf:S.ev g=.sv (.v (.func (.func f) #[] #[]))) (hargs:me S xs.toList (args.map (AV.Iv i))) (hd:d<S.n) (ks:List Nat) (hks:ks.Nodup) (oS:ks.length=(rowsOf c2).length) (EW:Un S ks) (hdb:S.b d=none) (vQ:C.ey d=none)
  (next:RunT P C ops nd K rest (⟨rg++(aW g++xs.toList.flatMap aW),[i,d],js++ks,⟨some (d,.ptr d 0),[(d,⟨T2,bC ks c2⟩)],k8 [] ks c2⟩⟩::acc) ((AS.bz (k8 [] ks c2) (AS.dA [(d,⟨T2,bC ks c2⟩)] S)).set d (.ptr d 0))):RunT P C ops nd K (⟨some d,.call ⟨.value g,xs,at_⟩,ty,pos,aft,gd⟩::rest) acc S:=by
 refine .inl ⟨_,[i,d],js++ks,_,?_,next⟩;rintro S' hn ht hb hr k a w L Q ho ⟨E,h⟩ Jy;refine bO (C:=C) ho (hg.wanted h (λs hs=>ht s (List.mem_append_left _ hs)) Y) ?_;have nx:a.eval g=.func (.func f) #[] ⟨[]⟩:=by
  have h1:=h.ev g;rw[bk (λ_ h=>List.mem_append_right _ (List.mem_append_left _ h)) ht,hf]at h1;exact h1
 have hall:=oB xd (me.vals h hargs (λs hs=>ht s (List.mem_append_right _ (List.mem_append_right _ hs))));have dK:S'.b i=some ⟨T,bC js c⟩:=by rw[hb i (by simp)];exact hB
 have Du:Lv S' js (rowsOf c):=hL.congr (λk hk=>hr k (List.mem_append_left _ hk));have hdn:S'.b d=none:=by rw[hb d (by simp)];exact hdb
 obtain⟨us,CP,rG⟩:=ia h dK Du Dt;refine bP (C:=C) (by intro c h;cases h) (gY nx) ?_;rw[List.append_nil];refine⟨λh=>by simp at h,dV ((hp E.M w (E.β i) _ us h.b8 CP hall).mono ?_)⟩;rintro e w' ⟨v,M',rfl,hM,hnew,hin,⟨β,Ek,rfl,ho3,hβ,hfr⟩,xP,hos,hH,hout,hsize,eT⟩;have h0:=h.vn dK Du Dt CP hM hnew hin xP hos hH hout hsize eT;obtain⟨E',e1,e2,h1⟩:=h0.JS hdn vQ hks oS (EW.congr λk hk=>hr k (List.mem_append_right _ hk)) ho3 (h.mg hβ ho3.nb) (λg hg=>h.mg (hfr g hg) (ho3.nr g hg).2);refine Jy _ _ ⟨_,h1.put (x:=.ptr d 0) (v:=.pointer (some ⟨β,0,none⟩)) (by show _=Value.pointer (some ⟨E'.β d,0,none⟩);rw[e2]) ?_ ⟨λj e=>?_,λj e=>e.elim⟩⟩
 ·rw[(cW _ _).1];show d<S'.n;omega
 have e:j=d:=e;subst e;rw[(cW _ _).2.2.1];exact⟨_,AS.cj _ _ _⟩
theorem zL{E:Env}:∀{js:List Fc} {us:List Value},oH E js us->cc E (js.map Fc.av) us
 |[],[],_=>trivial
 |.val _::_,_::_,h=>⟨h.1,zL h.2⟩
 |.row _::_,_::_,h=>⟨h.1,zL h.2⟩
 |.box _::_,_::_,h=>⟨h.1,zL h.2⟩
 |[],_::_,h=>h.elim
 |_::_,[],h=>h.elim
theorem RT.abl(hg:Gd ops S gd rg){js:List Fc}(hx:S.ev x=.cmp .agg js)(cells:List AV)(hc:js.map Fc.av=cells)(hd:d<S.n)(hb:S.b d=none)(hp:C.ey d=none)
  (next:RunT P C ops nd K rest (⟨rg++aW x,[d],[],⟨some (d,.ptr d 0),[(d,⟨T,cells⟩)],[]⟩⟩::acc) ((S.gP d ⟨T,cells⟩).set d (.ptr d 0))):RunT P C ops nd K (⟨some d,.box T x,ty,pos,aft,gd⟩::rest) acc S:=
 RT.Ai hg (by intro c h;cases h) (aW x) hd hb hp (λS' ht E a w h=>by
  subst hc;have hx':S'.ev x=.cmp .agg js:=by rw[bk (λ_ h=>h) ht,hx]
  have h1:=h.ev x;rw[hx']at h1;obtain⟨us,hu,hall⟩:=h1;have hu:a.eval x=.agg ⟨us⟩:=hu;refine⟨us,by simp[execOp,Instr.box,newVar,newRow,hu,Value.cells],zL hall,λz hz=>?_⟩;obtain⟨l1,l2⟩:=gE h.wf hx';obtain⟨q,hq,rfl⟩:=List.mem_map.1 hz;cases q with
  |val s=>exact dD
  |box k=>exact⟨λi e=>l1 i (by have e:i=k:=e;subst e;exact hq),λi e=>e.elim⟩
  |row k=>exact⟨λi e=>e.elim,λi e=>l2 i (by have e:i=k:=e;subst e;exact hq)⟩) next
end steps
end
end Go.Fw
namespace Go.Proofs.Ytmiflmkdaeianaa
section
open Go.Fw
noncomputable def iv(o0:Int)(o1:List En):Option (List En):=(cf o0 o1).bind λx7=>(bif x7 then some []else(some (o1.length:Int)).bind λgO=>(Fp 56 gO (⟨0,0,0,⟨false,[]⟩⟩:En)).bind λgR=>(some (o1.length:Int)).bind λfJ=>(cH (λ(s8:Int×(List En))=>match s8 with|⟨je,iV⟩=>(show Option ((Int×(List En))⊕((List En)))from(some (decide ((je:Int)<fJ))).bind λiz=>(bif iz then(qu o1 je).bind λjT=>(o1[jT]?).bind λ⟨pz,pA,pB,⟨ue,Bf⟩⟩=>(da ⟨ue,Bf⟩ ⟨false,[]⟩).bind λ⟨jc,jd⟩=>(qu iV je).bind λjJ=>(stM iV jJ ⟨pz,pA,pB,⟨jc,jd⟩⟩).bind λvg=>(some (IntKind.i64.wrap (je+1))).bind λmY=>some (.inl (mY,vg))else some (.inr iV)))) (0,gR)).bind λeY=>some eY)
noncomputable def gL(o0:Int)(o1:List En):Option (Int×(List En)):=(iv o0 o1).bind λfU=>some (o0,fU)
end
section
open Go.Fw Go.Fw.Z Go.RowKit
theorem tc{o0:Int}{o1:List En}{r:List En}(h:iv o0 o1=some r):wN ah 17 (λ_=>[.ptr 1000 0]) 66 [.s (ay o0),.r (TR 43 5 ew o1)] (OE (TR 43 5 ew r)):=by
 refine Bt [1001] Try.func17 Y (λ_=>(af Y)) (λ_=>Y) (by decide) Y Y ⟨⟨_,Y⟩,aq,aq⟩ (λgz M β us=>?_);unfold iv at h;refine sr<|ag Y<|dn<|dg (gp 2 304 43 5 Y Y T)<|qq<|sr<|mo (s:=.ptr _ _) Y<|bE h λx7 h7 h=>RT.jM .none (eC h7) 1000 [1001] Y ⟨Y,aq⟩ (by decide) Y Y (.cons Y (.nil)) T<|dn ?_;cases x7;refine fs<|sr<|mo (s:=.ptr _ _) Y<|RT.eu .none Y T<|fa Y Y<|RT.jP .none (s:=.row _) Y Y Y T<|lE (F h) λgO kp h=>lL Y Y kp<|bE h λgR kI h=>RT.tK (n:=5) (e:=ew) .none Y Y T Y T (by rfl) (by decide) (by exact⟨au,au,au,au,aB,aq⟩) kI<|an (s:=.row _) Y<|dn<|qq<|sr<|mo (s:=.ptr _ _) Y<|RT.eu .none Y T ?_;refine fa Y Y<|RT.jP .none (s:=.row _) Y Y Y T<|lE h λfJ jW h=>lL Y Y jW<|mv Y<|dn<|bE h λe8 AQ sI=>?_;refine bW (λ(eY:(List En))=>AS.cZ 35 [(3,.row 13)] [(1000,⟨66,[ai o0,.row 1001]⟩)] [(13,TR 43 5 ew eY),(1001,TR 43 5 ew o1)]) (λeY=>eY=e8) ?_ (λeY AR=>?_);refine bj ?_;refine bX AQ (λs8=>AS.cZ 35 [(3,.row 13),(17,.row 1001),(18,ai fJ),(19,ai s8.1)] [(1000,⟨66,[ai o0,.row 1001]⟩)] [(13,TR 43 5 ew s8.2),(1001,TR 43 5 ew o1)]) (wR []) (λs8 y8 G8 h AT AU=>?_);obtain⟨je,iV⟩:=s8
 try dsimp only
 refine sr<|lE h λiz my h=>ls _ Y Y my<|dn<|qq ?_;cases iz;refine cF<|b7<|aV.x<|aV.x<|bw.x<|aV.n ?_;obtain rfl:=O (F h);exact⟨iV,AU _ Y,wR []⟩;refine cT<|bu<|aV.n<|qq<|bj<|sr<|mv Y<|bE (V h) λjT pW h=>iR Y Y Y pW ?_;obtain⟨⟨pz,pA,pB,⟨ue,Bf⟩⟩,oJ,h⟩:=bS h;refine lA Y Y oJ<|al (cs:=[ay 0,.v (.int .u8 ((0:Nat):Int)),ay 0,az false,ax]) (by exact⟨au,au,au,au,aB,aq⟩) Y<|ag Y<|so Y Y Y<|dn<|sr<|fa Y Y<|ld Y Y (.k2 Y Y)<|bI (cs:=[_,_]) (cs':=[az false,ax]) (.nil) ⟨au,aB,aq⟩ ?_;obtain⟨⟨jc,jd⟩,o6,h⟩:=bS h;refine cl (gH o6) ⟨Y,Y,aq⟩<|fa Y Y<|RT.vC (cells:=[_,_,_,_,_]) .none Y Y Y Y T Y<|dn<|aX<|mo (s:=.row _) Y<|mv Y<|ld Y Y (.cons Y (.k4 Y Y Y Y))<|bE h λjJ nj h=>iR Y Y Y nj<|bE h λvg rj h=>sA ⟨pz,pA,pB,⟨jc,jd⟩⟩ Y Y Y rj<|RT.done<|bw.n<|aV.n<|aX<|lE h λmY qy h=>ad _ Y Y qy<|mv Y ?_;refine RT.done ?_;obtain rfl:=O h;exact aV.n ⟨(mY,vg),AT _ Y,wR []⟩;subst AR
 try dsimp only
 refine aV.n<|sr<|mo (s:=.row _) Y<|an (s:=.row _) Y<|dn<|bg ?_;obtain rfl:=O sI;exact⟨.inr Y,⟨_,.tmp Y,Y,by decide⟩,Y,⟨Y,aq⟩⟩;refine cT<|sr<|ag Y<|dn<|dg (gp 2 310 43 5 Y Y T)<|bg<|aV.r ?_;obtain rfl:=O (V h);exact⟨.inr Y,⟨_,.tmp Y,Y,by decide⟩,Y,⟨Y,aq⟩⟩
theorem pG{o0:Int}{o1:List En}{r:Int×(List En)}(h:gL o0 o1=some r):wN ah 24 (λ_=>[.ptr 1000 0]) 66 [.s (ay o0),.r (TR 43 5 ew o1)] (OF 66 [.s (ay r.1),.r (TR 43 5 ew r.2)]):=by
 refine Bu [1001] Try.func24 Y (λ_=>(af Y)) (λ_=>Y) (by decide) Y Y ⟨⟨_,Y⟩,aq,aq⟩ (λgz M β us=>?_);unfold gL at h;refine sr<|ag Y<|dn<|qq<|sr<|mo (s:=.ptr _ _) Y<|RT.GZ .none Y Y T<|dn<|fs<|qq<|bf mixed<|mo (s:=.ptr _ _) Y<|RT.eu .none Y T<|fa Y Y<|lV Y Y Y<|mo (s:=.ptr _ _) Y<|bE h λfU iN h=>RT.JU .none (tc iN) 1000 [1001] Y ⟨Y,aq⟩ (by decide) Y Y (.cons Y (.nil)) T Y T<|RT.OC .none (.one Y (.row Y Y (.nil))) [.val (ay o0),.row 10] (λ_=>Y) Y ⟨(λ_ _ q_=>One.h _ _ q_),⟨_,Y⟩,aq⟩ [10] Y Y T ?_;refine RT.abl .none Y [ai o0,.row 10] Y T Y Y<|an (s:=.ptr _ _) Y ?_;refine RT.done ⟨by kernel_rfl,?_⟩;refine aV.n<|bg ?_;obtain rfl:=O h;exact⟨.inr Y,⟨12,[10],.tmp Y,Y,⟨Y,aq⟩,by decide,by decide,by decide⟩,Y,⟨Y,aq⟩⟩
end
section
open Go.Fw
noncomputable def dU(x0:Nat)(x1:List Mv)(x2:List Mv):Option (Bool):=di (λ(HM:Bool)=>(bif HM then(ga).bind λjx=>some jx else(gK x0 x1).bind λ⟨iH,rM⟩=>(gK x0 x1).bind λ⟨uf,ug⟩=>(cw uf ug).bind λow=>(dZ ow).bind λmX=>(gL iH rM).bind λ⟨ic,pq⟩=>(cH (λ(LN:Int×(List En))=>match LN with|⟨iW,mK⟩=>(show Option ((Int×(List En))⊕((List En)))from(some (x2.length:Int)).bind λv8=>(some (decide ((iW:Int)<v8))).bind λtN=>(bif tN then(cq x2 iW).bind λ⟨DU,LO,LP,⟨⟨LQ,LR⟩,⟨LS,LU⟩⟩⟩=>(cq x2 iW).bind λ⟨AL,wj,LV,⟨⟨LW,LX⟩,⟨LY,LZ⟩⟩⟩=>(cq x2 iW).bind λ⟨L0,L1,DV,⟨⟨L2,L3⟩,⟨L4,L5⟩⟩⟩=>(cq x2 iW).bind λ⟨L6,L7,L8,⟨⟨DW,DX⟩,⟨DY,DZ⟩⟩⟩=>(bJ ic mK DU wj DV ⟨⟨DW,DX⟩,⟨DY,DZ⟩⟩).bind λ⟨Iu,UX⟩=>(some (IntKind.i64.wrap (iW+1))).bind λmZ=>some (.inl (mZ,UX))else some (.inr mK)))) (0,pq)).bind λfP=>(cw iH rM).bind λKH=>(dZ KH).bind λPF=>(fO PF mX).bind λFq=>(some (!Fq)).bind λJj=>(bif Jj then some false else(gL ic fP).bind λ⟨L9,Ma⟩=>(cw L9 Ma).bind λPw=>(dZ Pw).bind λOG=>(cH (λ(CA:Int×(List En))=>match CA with|⟨qk,vp⟩=>(show Option ((Int×(List En))⊕((List En)))from(some (x2.length:Int)).bind λQB=>(some (decide ((qk:Int)<QB))).bind λx75=>(bif x75 then(cq x2 qk).bind λ⟨Mb,UY,UZ,⟨⟨U0,U1⟩,⟨U3,U4⟩⟩⟩=>(cq x2 qk).bind λ⟨U5,Mc,U6,⟨⟨U7,U8⟩,⟨U9,Vc⟩⟩⟩=>(cq x2 qk).bind λ⟨DH,DI,Md,⟨⟨Vd,Ve⟩,⟨Vf,Vg⟩⟩⟩=>(cq x2 qk).bind λ⟨Vh,Vi,Vj,⟨⟨Me,Mf⟩,⟨Mg,Mh⟩⟩⟩=>(bJ iH vp Mb Mc Md ⟨⟨Me,Mf⟩,⟨Mg,Mh⟩⟩).bind λ⟨R3,l26⟩=>(some (IntKind.i64.wrap (qk+1))).bind λx77=>some (.inl (x77,l26))else some (.inr vp)))) (0,rM)).bind λfR=>(cX ⟨iH,fR⟩).bind λVk=>di (λ(Mi:Bool)=>some Mi) λK29=>(cX ⟨ic,fP⟩).bind λy7=>(dZ y7).bind λGv=>(fO Gv OG).bind λEB=>(bif EB then(cX ⟨iH,fR⟩).bind λE4=>(dZ E4).bind λEA=>(fO EA OG).bind λOH=>some OH else some false).bind λD0=>K29 D0))) λK6=>(gJ x1).bind λjU=>(bif jU then some true else(gJ x2).bind λgV=>some gV).bind λHN=>(bif HN then some true else(ga).bind λiz=>(some (!iz)).bind λja=>some ja).bind λOI=>K6 OI
end
section
open Go.Fw Go.Fw.Z Go.RowKit
set_option maxHeartbeats 4000000 in
theorem lj{x0:Nat}{x1:List Mv}{x2:List Mv}{r:Bool}(h:dU x0 x1 x2=some r):Pure ah 6 [.v (.int .u8 ((x0:Nat):Int)),slc 7 (List.map Ax x1),slc 7 (List.map Ax x2)] (az r):=by
 refine Bo Try.func6 Y (af Y) (λgz M vs hM hvs=>?_);unfold dU at h;refine sr<|ag Y<|dn<|qq<|qq ?_;refine bH h (λj6=>AS.cZ 115 [(0,.sv (.v (.int .u8 ((x0:Nat):Int)))),(1,.sv (slc 7 (List.map Ax x1))),(2,.sv (slc 7 (List.map Ax x2))),(22,aj j6)] [] []) (λh=>?_) (λHM h=>?_);refine aX<|mv Y<|bE h λjU o5 h=>cl (pD o5) ⟨Y,aq⟩<|mv Y<|bE h λHN zw h=>?_;cases jU;refine gm Y<|bE (F zw) λgV mw zw=>gc (pD mw) ⟨Y,aq⟩ ?_;obtain rfl:=O zw;refine pF Y<|mv Y<|bE h λabp A4 h=>?_;cases gV;refine bE (F A4) λiz my A4=>gc (nY my) trivial<|lE A4 λja pX A4=>YE Y _ pX ?_;obtain rfl:=O A4;exact pF Y<|dn<|⟨ja,h,wR []⟩;obtain rfl:=O (V A4);exact ww<|ww<|pT Y<|dn<|⟨true,h,wR []⟩;obtain rfl:=O (V zw);refine ww<|ww<|pT Y<|mv Y<|bE h λabq N5 h=>?_;obtain rfl:=O (V N5);exact ww<|ww<|pT Y<|dn<|⟨true,h,wR []⟩
 try dsimp only
 refine aV.n ?_;cases HM;refine fs<|sr<|mv Y<|mv Y ?_;obtain⟨⟨iH,rM⟩,qx,h⟩:=bS (F h);refine RT.G1 .none (pE qx) [302] (by decide) Y ⟨⟨Y,T⟩,aq⟩ Y ⟨Y,Y,aq⟩ T Y Y<|an (s:=.ptr _ _) Y<|dn<|sr<|mv Y<|mv Y ?_;obtain⟨⟨uf,ug⟩,lY,h⟩:=bS h;refine RT.G1 .none (pE lY) [304] (by decide) Y ⟨⟨Y,T⟩,aq⟩ Y ⟨Y,Y,aq⟩ T Y Y<|bE h λow xq h=>RT.jM .none (eM xq) 29 [304] Y ⟨Y,aq⟩ (by decide) Y Y (.cons Y (.nil)) T<|bE h λmX xb h=>cl (ij xb) ⟨Y,aq⟩<|ag Y<|dn<|sr<|mo (s:=.ptr _ _) Y ?_;obtain⟨⟨ic,pq⟩,qy,h⟩:=bS h;refine RT.DT .none (pG qy) 26 [302] Y ⟨Y,aq⟩ (by decide) Y Y (.cons Y (.nil)) T [306] (by decide) Y ⟨⟨Y,T⟩,aq⟩ Y Y<|an (s:=.ptr _ _) Y<|dn<|qq<|sr<|ag Y<|dn<|bE h λe14 abr oP=>?_;refine bW (λ(fP:(List En))=>AS.cZ 115 [(2,.sv (slc 7 (List.map Ax x2))),(7,.ptr 26 0),(8,.sv (slc 5 (List.map ew mX))),(9,.ptr 33 0)] [(33,⟨66,[ai ic,.row 309]⟩),(26,⟨66,[ai iH,.row 302]⟩)] [(309,TR 43 5 ew fP),(302,TR 43 5 ew rM)]) (λfP=>fP=e14) ?_ (λfP abt=>?_);refine bj ?_
 refine bX abr (λLN=>AS.cZ 115 [(2,.sv (slc 7 (List.map Ax x2))),(7,.ptr 26 0),(8,.sv (slc 5 (List.map ew mX))),(9,.ptr 33 0),(10,ai LN.1)] [(33,⟨66,[ai ic,.row 309]⟩),(26,⟨66,[ai iH,.row 302]⟩)] [(309,TR 43 5 ew LN.2),(302,TR 43 5 ew rM)]) (eG (λi=>bif Nat.beq i 309 then 306 else i) Y Y Y Y Y ⟨.sv au,.ptr,.sv au,.ptr,.sv au,aq⟩ ⟨⟨_,Y,⟨.sv au,.row Y,aq⟩⟩,⟨_,Y,⟨.sv au,.row Y,aq⟩⟩,aq⟩ ⟨⟨_,Y,cJ.refl _⟩,⟨_,Y,cJ.refl _⟩,aq⟩ (λi hi=>by rw[cG (show i≠309 by omega)];rfl)) (λLN y14 G14 h abu abv=>?_);obtain⟨iW,mK⟩:=LN
 try dsimp only
 refine qq<|sr<|mv Y<|mv Y<|lE h λv8 xu h=>ln Y xu<|lE h λtN zf h=>ls _ Y Y zf<|dn ?_;cases tN;refine cF<|b7<|aV.x<|aV.x<|bw.x<|aV.n ?_;obtain rfl:=O (F h);exact⟨mK,abv _ Y,wR []⟩;refine cT<|bu<|aV.n<|qq<|bj<|bf mixed<|mo (s:=.ptr _ _) Y<|mv Y<|mv Y ?_;obtain⟨⟨DU,LO,LP,⟨⟨LQ,LR⟩,⟨LS,LU⟩⟩⟩,Fs,h⟩:=bS (V h);refine ix Y Y Fs<|RT.bG .none Y T Y<|lr Y Y<|mv Y<|mv Y ?_;obtain⟨⟨AL,wj,LV,⟨⟨LW,LX⟩,⟨LY,LZ⟩⟩⟩,h48,h⟩:=bS h;refine ix Y Y h48<|RT.bG .none Y T Y<|lr Y Y<|mv Y<|mv Y ?_;obtain⟨⟨L0,L1,DV,⟨⟨L2,L3⟩,⟨L4,L5⟩⟩⟩,ZC,h⟩:=bS h;refine ix Y Y ZC<|RT.bG .none Y T Y<|lr Y Y<|mv Y<|mv Y ?_;obtain⟨⟨L6,L7,L8,⟨⟨DW,DX⟩,⟨DY,DZ⟩⟩⟩,Zv,h⟩:=bS h;refine ix Y Y Zv<|RT.bG .none Y T Y<|RT.mS (cs:=[_,_,_,_]) .none Y T Y Y ?_;obtain⟨⟨Iu,UX⟩,Q4,h⟩:=bS h;refine RT.rH .none (cD Q4) 33 [309] [313] Y ⟨Y,aq⟩ (by decide) (by decide) Y ⟨⟨Y,T⟩,aq⟩ Y Y (.cons Y (.k4 Y Y Y Y)) T ?_;refine RT.done ⟨by kernel_rfl,?_⟩;refine bw.n<|aV.n<|aX<|mv Y<|lE h λmZ CG h=>ad _ Y Y CG<|ag Y<|RT.done ?_;obtain rfl:=O h
 exact aV.n ⟨(mZ,UX),abu _ Y,eG (λi=>bif Nat.beq i 309 then 313 else i) Y Y Y Y Y ⟨.sv au,.ptr,.sv au,.ptr,.sv au,aq⟩ ⟨⟨_,Y,⟨.sv au,.row Y,aq⟩⟩,⟨_,Y,⟨.sv au,.row Y,aq⟩⟩,aq⟩ ⟨⟨_,Y,cJ.refl _⟩,⟨_,Y,cJ.refl _⟩,aq⟩ (λi hi=>by rw[cG (show i≠309 by omega)];rfl)⟩;subst abt
 try dsimp only
 refine aV.n<|qq<|sr<|mo (s:=.ptr _ _) Y<|bE oP λKH h63 oP=>RT.jM .none (eM h63) 26 [302] Y ⟨Y,aq⟩ (by decide) Y Y (.cons Y (.nil)) T<|bE oP λPF h64 oP=>cl (ij h64) ⟨Y,aq⟩<|mv Y<|bE oP λFq Q5 oP=>cl (lf Q5) ⟨Y,Y,aq⟩<|lE oP λJj ZH oP=>nt Y _ ZH<|dn ?_;cases Jj;refine fs<|sr<|mo (s:=.ptr _ _) Y ?_;obtain⟨⟨L9,Ma⟩,Zx,oP⟩:=bS (F oP);refine RT.DT .none (pG Zx) 33 [309] Y ⟨Y,aq⟩ (by decide) Y Y (.cons Y (.nil)) T [315] (by decide) Y ⟨⟨Y,T⟩,aq⟩ Y Y<|bE oP λPw ZI oP=>RT.jM .none (eM ZI) 69 [315] Y ⟨Y,aq⟩ (by decide) Y Y (.cons Y (.nil)) T<|bE oP λOG h71 oP=>cl (ij h71) ⟨Y,aq⟩<|ag Y<|dn<|qq<|sr<|ag Y<|dn<|bE oP λNI GL kx=>?_;refine bW (λ(fR:(List En))=>AS.cZ 115 [(7,.ptr 26 0),(9,.ptr 33 0),(11,.sv (slc 5 (List.map ew OG)))] [(33,⟨66,[ai ic,.row 309]⟩),(26,⟨66,[ai iH,.row 318]⟩)] [(309,TR 43 5 ew fP),(318,TR 43 5 ew fR)]) (λfR=>fR=NI) ?_ (λfR GM=>?_);refine bj ?_
 refine bX GL (λCA=>AS.cZ 115 [(2,.sv (slc 7 (List.map Ax x2))),(7,.ptr 26 0),(9,.ptr 33 0),(11,.sv (slc 5 (List.map ew OG))),(12,ai CA.1)] [(33,⟨66,[ai ic,.row 309]⟩),(26,⟨66,[ai iH,.row 318]⟩)] [(309,TR 43 5 ew fP),(318,TR 43 5 ew CA.2)]) (eG (λi=>bif Nat.beq i 318 then 302 else i) Y Y Y Y Y ⟨.sv au,.ptr,.ptr,.sv au,.sv au,aq⟩ ⟨⟨_,Y,⟨.sv au,.row Y,aq⟩⟩,⟨_,Y,⟨.sv au,.row Y,aq⟩⟩,aq⟩ ⟨⟨_,Y,cJ.refl _⟩,⟨_,Y,cJ.refl _⟩,aq⟩ (λi hi=>by rw[cG (show i≠318 by omega)];rfl)) (λCA y24 G24 h GN EK=>?_);obtain⟨qk,vp⟩:=CA
 try dsimp only
 refine qq<|sr<|mv Y<|mv Y<|lE h λQB ZO h=>ln Y ZO<|lE h λx75 h75 h=>ls _ Y Y h75<|dn ?_;cases x75;refine cF<|b7<|aV.x<|aV.x<|bw.x<|aV.n ?_;obtain rfl:=O (F h);exact⟨vp,EK _ Y,wR []⟩;refine cT<|bu<|aV.n<|qq<|bj<|bf mixed<|mo (s:=.ptr _ _) Y<|mv Y<|mv Y ?_;obtain⟨⟨Mb,UY,UZ,⟨⟨U0,U1⟩,⟨U3,U4⟩⟩⟩,h81,h⟩:=bS (V h);refine ix Y Y h81<|RT.bG .none Y T Y<|lr Y Y<|mv Y<|mv Y ?_;obtain⟨⟨U5,Mc,U6,⟨⟨U7,U8⟩,⟨U9,Vc⟩⟩⟩,ZQ,h⟩:=bS h;refine ix Y Y ZQ<|RT.bG .none Y T Y<|lr Y Y<|mv Y<|mv Y ?_;obtain⟨⟨DH,DI,Md,⟨⟨Vd,Ve⟩,⟨Vf,Vg⟩⟩⟩,Q7,h⟩:=bS h;refine ix Y Y Q7<|RT.bG .none Y T Y<|lr Y Y<|mv Y<|mv Y ?_;obtain⟨⟨Vh,Vi,Vj,⟨⟨Me,Mf⟩,⟨Mg,Mh⟩⟩⟩,h96,h⟩:=bS h;refine ix Y Y h96<|RT.bG .none Y T Y<|RT.mS (cs:=[_,_,_,_]) .none Y T Y Y ?_;obtain⟨⟨R3,l26⟩,h99,h⟩:=bS h;refine RT.rH .none (cD h99) 26 [318] [322] Y ⟨Y,aq⟩ (by decide) (by decide) Y ⟨⟨Y,T⟩,aq⟩ Y Y (.cons Y (.k4 Y Y Y Y)) T ?_;refine RT.done ⟨by kernel_rfl,?_⟩;refine bw.n<|aV.n<|aX<|mv Y<|lE h λx77 h77 h=>ad _ Y Y h77<|ag Y<|RT.done ?_;obtain rfl:=O h
 exact aV.n ⟨(x77,l26),GN _ Y,eG (λi=>bif Nat.beq i 318 then 322 else i) Y Y Y Y Y ⟨.sv au,.ptr,.ptr,.sv au,.sv au,aq⟩ ⟨⟨_,Y,⟨.sv au,.row Y,aq⟩⟩,⟨_,Y,⟨.sv au,.row Y,aq⟩⟩,aq⟩ ⟨⟨_,Y,cJ.refl _⟩,⟨_,Y,cJ.refl _⟩,aq⟩ (λi hi=>by rw[cG (show i≠318 by omega)];rfl)⟩;subst GM
 try dsimp only
 refine aV.n<|qq<|dg (ji (i:=318) (E1:=43) (n:=5) (e:=ew) (l:=fR) Y) ?_;refine dg (oh (i:=26) Y [ay iH,slc 5 (List.map ew fR)] (.k2 Y Y) .any 0 [(7,.sv (ref [ay iH,slc 5 (List.map ew fR)]))] (λ_ _ _=>trivial) (si.h (l:=[ay iH,slc 5 (List.map ew fR)])) ⟨@FT.ptr _ _ _ _ _ 7 0 Y,aq⟩)<|dg (ji (i:=309) (E1:=43) (n:=5) (e:=ew) (l:=fP) Y) ?_;refine dg (oh (i:=33) Y [ay ic,slc 5 (List.map ew fP)] (.k2 Y Y) .any 0 [(9,.sv (ref [ay ic,slc 5 (List.map ew fP)]))] (λ_ _ _=>trivial) (si.h (l:=[ay ic,slc 5 (List.map ew fP)])) ⟨@FT.ptr _ _ _ _ _ 9 0 Y,aq⟩)<|aX<|mv Y<|bE kx λVk abw kx=>?_;refine RT.Oy .none (λN=>(sY N abw)) Y (λ_=>⟨Y,aq⟩) T (λN2 hN2=>?_);refine RT.JQ .none (wM Vk) Y Y au (λ_ _ _ e=>gQ hM e) (λ_ _ _ _ _=>trivial) (λ_=>Y) hN2 (n:=115) (ts:=[(7,.sv (od N2 (ref [ay iH,slc 5 (List.map ew fR)]))),(9,.sv (od N2 (ref [ay ic,slc 5 (List.map ew fP)]))),(11,.sv (od N2 (slc 5 (List.map ew OG)))),(100,.sv (od N2 (ref [ay iH,slc 5 (List.map ew fR)])))]) (bs:=[]) (g':=0) (go:=true) Y Y (λ_=>⟨.sv (DP (λ_ _ q_=>q_)),.sv (DP (λ_ _ q_=>q_)),.sv (DP (λ_ _ q_=>q_)),.sv (DP (λ_ _ q_=>q_)),aq⟩) (λ_=>trivial) Y T ?_;refine dn ?_
 refine dg (S':=AS.cZ 115 [(7,.sv (od N2 (ref [ay iH,slc 5 (List.map ew fR)]))),(9,.sv (od N2 (ref [ay ic,slc 5 (List.map ew fP)]))),(11,.sv (od N2 (slc 5 (List.map ew OG)))),(100,.sv (od N2 (ref [ay iH,slc 5 (List.map ew fR)])))] [] []) (eG id Y Y Y Y Y ⟨.sv au,.sv au,.sv au,.sv au,aq⟩ trivial trivial (λ_ _=>Y))<|qq ?_;refine bH kx (λj29=>AS.cZ 115 [(6,aj j29)] [] []) (λkx=>?_) (λMi kx=>?_);refine aX<|mv Y<|bE kx λy7 GK kx=>cl ((lM GK).w (args':=[_]) ⟨(λ_ _ q_=>(zH _ _ q_)),aq⟩) ⟨Y,aq⟩<|bE kx λGv NF kx=>cl (ij NF) ⟨Y,aq⟩<|mv Y<|bE kx λEB NG kx=>cl ((lf NG).w (args':=[_,_]) ⟨au,(λ_ _ q_=>(zH _ _ q_)),aq⟩) ⟨Y,Y,aq⟩<|mv Y<|bE kx λD0 sN kx=>?_;cases EB;obtain rfl:=O (F sN);exact ww<|ww<|ww<|ww<|ww<|pF Y<|ag Y<|dn<|⟨false,kx,wR []⟩;refine gm Y<|bE (V sN) λE4 Ov sN=>gc ((lM Ov).w (args':=[_]) ⟨(λ_ _ q_=>(zH _ _ q_)),aq⟩) ⟨Y,aq⟩<|bE sN λEA NH sN=>gc (ij NH) ⟨Y,aq⟩<|gm Y<|bE sN λOH abx sN=>gc ((lf abx).w (args':=[_,_]) ⟨au,(λ_ _ q_=>(zH _ _ q_)),aq⟩) ⟨Y,Y,aq⟩ ?_;obtain rfl:=O sN;exact pT Y<|ag Y<|dn<|⟨OH,kx,wR []⟩
 try dsimp only
 refine aV.n<|bg ?_;obtain rfl:=O kx;exact R1 Y;refine cT<|sr<|ag Y<|dn<|bg<|aV.r ?_;obtain rfl:=O (V oP);exact R1 Y;refine cT<|sr<|bE (V h) λjx oJ h=>cl (nY oJ) trivial<|ag Y<|dn<|bg<|aV.r ?_;obtain rfl:=O h;exact R1 Y
end
end Go.Proofs.Ytmiflmkdaeianaa
namespace Go.Fw
section
theorem mL{n:Nat}(h:n<=9223372036854775807):IntKind.i64.wrap (n:Int)=n:=kZ (by omega)
theorem eV{x:Int}(h: -9223372036854775808<=x)(h':x<=9223372036854775807):IntKind.i64.wrap x=x:=kZ ⟨h,h'⟩
theorem cM{n:Nat}(h:n<9223372036854775807):IntKind.i64.wrap ((n:Int)+1)=((n+1:Nat):Int):=by rw[kZ (by omega)];simp
theorem oD{n m:Nat}(h:n+m<=9223372036854775807):IntKind.i64.wrap ((n:Int)+(m:Int))=((n+m:Nat):Int):=by rw[kZ (by omega)];simp
theorem Bv{n:Nat}(h:n<=9223372036854775807):IntKind.i64.wrap (((n+1:Nat):Int)-1)=(n:Int):=by rw[kZ (by omega)];omega
theorem bt{α:Type}{l:List α}{i:Nat}{a:α}(h:l[i]? =some a):cq l (i:Int)=some a:=by simp[cq,h]
theorem oE{α:Type}{l:List α}{a:α}(h:l[0]? =some a):cq l 0=some a:=by simp[cq,h]
theorem Bw{α:Type}{l:List α}{a:α}(h:l[1]? =some a):cq l 1=some a:=by simp[cq,h]
theorem ec{α:Type}{l:List α}{i:Nat}(h:i<l.length):qu l (i:Int)=some i:=by simp[qu,h]
theorem jt{α:Type}{l:List α}{i:Nat}{y:α}(h:i<l.length):stM l i y=some (l.set i y):=by simp[stM,h]
theorem HO{α:Type}{b:Nat}{l k:List α}(h:(l.length+k.length)*b<=140737488355328)(h':l.length+k.length<=140737488355328):w9 b l k=some (l++k):=by simp[w9,h,h']
theorem Mj{b n M:Nat}(hb:1<=b/\b<=1000)(h:n*b<=M):n<=M:=Nat.le_trans (Nat.le_mul_of_pos_right n hb.1) h
theorem Bx{α:Type}{b:Nat}{l:List α}{x:α}(hb:1<=b/\b<=1000)(h:(l.length+1)*b<=140737488355328):w9 b l [x]=some (l++[x]):=HO h (Mj hb h)
theorem aby{α:Type}{b:Nat}{l k:List α}(hb:1<=b/\b<=1000)(h:(l.length+k.length)*b<=140737488355328):w9 b l k=some (l++k):=HO h (Mj hb h)
theorem By{b n:Nat}(hb:2<=b/\b<=1000)(h:b*n<=281474976710656):0<=(n:Int)/\(b:Int)*(n:Int)<=281474976710656/\(n:Int)<=140737488355328:=by
 have h2:(b:Int)*(n:Int)=((b*n:Nat):Int):=by simp
 have h3:2*n<=b*n:=Nat.mul_le_mul_right _ hb.1;rw[h2];exact⟨by omega,by omega,by omega⟩
theorem CX{α:Type}{b:Nat}{n:Nat}(hb:2<=b/\b<=1000)(h:b*n<=281474976710656):I0 (α:=α) b (n:Int)=some []:=by
 unfold I0;rw[if_pos (By hb h)]
theorem td{α:Type}{b:Nat}{n:Nat}{z:α}(hb:2<=b/\b<=1000)(h:b*n<=281474976710656):Fp b (n:Int) z=some (List.replicate n z):=by
 unfold Fp;rw[if_pos (By hb h),Int.toNat_natCast]
theorem HP{α:Type}{l:List α}{i j:Nat}(h:i<=j)(h':j<=l.length):yQ l (i:Int) (j:Int)=some (cut l i j):=by
 unfold yQ;rw[if_pos ⟨by omega,by omega,by omega⟩];simp
theorem yq{α:Type}{l:List α}{j:Nat}(h':j<=l.length):yQ l 0 (j:Int)=some (l.take j):=by
 have:=HP (l:=l) (i:=0) (j:=j) (by omega) h';simpa[cut]using this
theorem mM{M a b:Nat}(h:b<=a)(h':a<M):kG M a b=a-b:=by
 unfold kG;rw[show(a:Int)-(b:Int)=((a-b:Nat):Int) by omega,<-Int.natCast_emod,Int.toNat_natCast,Nat.mod_eq_of_lt (by omega)]
theorem vq{M a b:Nat}(h:a<b)(h':b<=M):kG M a b=M+a-b:=by
 unfold kG;have:((a:Int)-(b:Int))%(M:Int)=((M+a-b:Nat):Int):=by
  rw[<-Int.add_emod_right (a:=(a:Int)-b),show(a:Int)-(b:Int)+(M:Int)=((M+a-b:Nat):Int) by omega,<-Int.natCast_emod,Nat.mod_eq_of_lt (by omega)]
 rw[this,Int.toNat_natCast]
theorem vr{o n i:Nat}(h:i<n):Is o n (i:Int)=some (o+i):=by simp[Is,h]
theorem lO{α:Type}{l l':List α}(h:l'.length=l.length):oV l l'=some ():=by simp[oV,h]
theorem zM{M a b:Nat}(h:b≠0)(h':a<M):yR M a b=some (a/b):=by
 unfold yR;rw[if_neg h,Nat.mod_eq_of_lt (Nat.lt_of_le_of_lt (Nat.div_le_self _ _) h')]
theorem vu{a b:Nat}(h:b≠0):xk a b=some (a%b):=by unfold xk;rw[if_neg h]
theorem bZ{α β:Type}{a:α}{f:α->Option β}:Option.bind (some a) f=f a:=by
 have h:∀o,o=some a->Option.bind o f=f a:=by intro o ho;rw[ho];rfl
 exact h _ Y
theorem iI{α:Type}{x y:α}:(bif true then x else y)=x:=by
 have h:∀b,b=true->(bif b then x else y)=x:=by intro b hb;rw[hb];rfl
 exact h _ Y
theorem jb{α:Type}{x y:α}:(bif false then x else y)=y:=by
 have h:∀b,b=false->(bif b then x else y)=y:=by intro b hb;rw[hb];rfl
 exact h _ Y
theorem lP{S E R:Type}{body:S->Option (S⊕E)}{s:S}{f:E->Option R}{r:R}(I:S->Prop)(Post:E->Prop)(μ:S->Nat)
  (step:∀s,I s->(∃s',body s=some (.inl s')/\I s'/\μ s'<μ s)\/(∃e,body s=some (.inr e)/\Post e)) (h:I s) (hf:∀e,Post e->f e=some r):(cH body s).bind f=some r:=by
 obtain⟨e,h1,h2⟩:=sx I Post μ step h;rw[h1];exact hf e h2
theorem jZ{S E R:Type}{body:S->Option (S⊕E)}{s:S}{f:E->Option R}{Q:R->Prop}(I:S->Prop)(Post:E->Prop)(μ:S->Nat)
  (step:∀s,I s->(∃s',body s=some (.inl s')/\I s'/\μ s'<μ s)\/(∃e,body s=some (.inr e)/\Post e)) (h:I s) (hf:∀e,Post e->∃r,f e=some r/\Q r):∃r,(cH body s).bind f=some r/\Q r:=by
 obtain⟨e,h1,h2⟩:=sx I Post μ step h;rw[h1];exact hf e h2
theorem b9{S E R:Type}{body:S->Option (S⊕E)}{s:S}{f:E->Option R}{r:R}(st:Nat->S)(n:Nat)(e:E)(h0:s=st 0)(hs:∀k,k<n->body (st k)=some (.inl (st (k+1))))(he:body (st n)=some (.inr e))(hf:f e=some r):(cH body s).bind f=some r:=by
 rw[h0,Gb st n hs he];exact hf
theorem wO{S R:Type}{body:Nat->S->Option S}{s:S}{f:S->Option R}{r:R}(st:Nat->S){n:Nat}(h0:s=st 0)(hs:∀k,k<n->body k (st k)=some (st (k+1)))(hf:f (st n)=some r):(nG body n s).bind f=some r:=by
 rw[h0,xM st n hs];exact hf
theorem aA{α β:Type}{x:Option α}{a:α}{f:α->Option β}{r:Option β}(h:x=some a)(hf:f a=r):x.bind f=r:=by rw[h];exact hf
theorem dP{α:Type}{b:Bool}{x y r:α}(hb:b=true)(h:x=r):(bif b then x else y)=r:=by rw[hb];exact h
theorem cn{α:Type}{b:Bool}{x y r:α}(hb:b=false)(h:y=r):(bif b then x else y)=r:=by rw[hb];exact h
end
section
def val(B:Nat):List Nat->Nat
 |[]=>0
 |x::l=>x+B*val B l
def ee(B:Nat):Nat->Nat->List Nat
 |0,_=>[]
 |n+1,v=>v%B::ee B n (v/B)
def iX(ws:List Nat):List Nat:=(ws.reverse.dropWhile (· ==0)).reverse
def can(B v:Nat):List Nat:=iX (ee B v v)
theorem bB(B:Nat):∀n v,(ee B n v).length=n
 |0,_=>rfl
 |n+1,v=>by simp[ee,bB B n]
theorem iY(B:Nat):∀n v,val B (ee B n v)=v%B^n
 |0,v=>by simp[ee,val,Nat.mod_one]
 |n+1,v=>by
  rw[ee,val,iY B n,Nat.pow_succ,Nat.mul_comm (B^n) B,Nat.mod_mul]
theorem jN{B:Nat}(hB:0<B):∀(n v x:Nat),x∈ee B n v->x<B
 |n+1,v,x,h=>by
  rcases List.mem_cons.1 h with rfl|h
  ·exact Nat.mod_lt _ hB
  exact jN hB n _ x h
theorem fS{B:Nat}:∀(l:List Nat),(∀x∈l,x<B)->val B l<B^l.length
 |[],_=>by simp[val]
 |x::l,h=>by
  have h1:=fS l (λy hy=>h y (List.mem_cons_of_mem _ hy));have h2:=h x (by simp);rw[val,List.length_cons,Nat.pow_succ]
  calc x+B*val B l<B+B*val B l:=by omega
   _=B*(val B l+1):=by rw[Nat.mul_add];omega
   _<=B*B^l.length:=Nat.mul_le_mul_left _ h1
   _=B^l.length*B:=Nat.mul_comm _ _
theorem vv{B:Nat}:∀(l:List Nat),(∀x∈l,x<B)->ee B l.length (val B l)=l
 |[],_=>rfl
 |x::l,h=>by
  have h2:=h x (by simp);have hB:0<B:=by omega
  rw[List.length_cons,ee,val,Nat.add_mul_mod_self_left,Nat.mod_eq_of_lt h2,Nat.add_mul_div_left _ _ hB,Nat.div_eq_of_lt h2,Nat.zero_add,vv l (λy hy=>h y (List.mem_cons_of_mem _ hy))]
theorem rO{B:Nat}:∀(n v j:Nat),j<n->(ee B n v)[j]? =some (v/B^j%B)
 |n+1,v,0,_=>by simp[ee]
 |n+1,v,j+1,h=>by
  rw[ee,List.getElem?_cons_succ,rO n _ j (by omega),Nat.div_div_eq_div_mul,Nat.pow_succ,Nat.mul_comm B]
theorem zN{B:Nat}:∀(a b:List Nat),val B (a++b)=val B a+B^a.length*val B b
 |[],b=>by simp[val]
 |x::a,b=>by
  rw[List.cons_append,val,val,zN a b,List.length_cons,Nat.pow_succ,Nat.mul_add,Nat.add_assoc,Nat.mul_comm (B^a.length) B,Nat.mul_assoc]
theorem kz{B:Nat}:∀(n v:Nat),ee B (n+1) v=ee B n v++[v/B^n%B]
 |0,v=>by simp[ee]
 |n+1,v=>by
  rw[ee,kz n,ee,List.cons_append,Nat.div_div_eq_div_mul,Nat.pow_succ,Nat.mul_comm B]
theorem n7(B:Nat):∀k,ee B k 0=List.replicate k 0
 |0=>rfl
 |k+1=>by rw[ee,Nat.zero_mod,Nat.zero_div,n7 B k];rfl
theorem wP{B:Nat}(hB:0<B):∀(n k v:Nat),v<B^n->ee B (n+k) v=ee B n v++List.replicate k 0
 |0,k,v,h=>by
  have:v=0:=by simpa using h
  subst this;rw[Nat.zero_add,n7];rfl
 |n+1,k,v,h=>by
  rw[show n+1+k=n+k+1 by omega,ee,ee,List.cons_append,wP hB n k (v/B) (by rw[Nat.div_lt_iff_lt_mul hB];rwa[Nat.pow_succ]at h)]
theorem mN{B:Nat}(hB:2<=B):∀v,v<B^v
 |0=>by simp
 |v+1=>by
  have:=mN hB v;rw[Nat.pow_succ];have h2:B^v*2<=B^v*B:=Nat.mul_le_mul_left _ hB;omega
theorem mO(l:List Nat):iX (l++[0])=iX l:=by simp[iX]
theorem n8(l:List Nat):∀k,iX (l++List.replicate k 0)=iX l
 |0=>by simp
 |k+1=>by rw[List.replicate_succ',<-List.append_assoc,mO,n8 l k]
theorem ql(l:List Nat){x:Nat}(h:x≠0):iX (l++[x])=l++[x]:=by simp[iX,h]
theorem qm(xs:List Nat):xs=[]\/(∃ys,xs=ys++[0])\/(∃ys y,y≠0/\xs=ys++[y]):=by
 rcases List.eq_nil_or_concat xs with rfl|⟨ys,y,rfl⟩
 ·exact .inl Y
 by_cases hy:y=0
 ·subst hy;exact .inr (.inl ⟨ys,by simp⟩)
 exact .inr (.inr ⟨ys,y,hy,by simp⟩)
theorem tf:∀(n:Nat) (l:List Nat),l.length=n->∃k,l=iX l++List.replicate k 0:=by
 intro n
 induction n with
 |zero=>intro l h;obtain rfl:=List.length_eq_zero_iff.1 h;exact⟨0,Y⟩
 |succ n ih=>
  intro l h;rcases qm l with rfl|⟨ys,rfl⟩|⟨ys,y,hy,rfl⟩
  ·simp at h
  ·obtain⟨k,hk⟩:=ih ys (by simpa using h);refine⟨k+1,?_⟩;rw[mO,List.replicate_succ',<-List.append_assoc,<-hk]
  exact⟨0,by rw[ql _ hy];simp⟩
theorem E8{l:List Nat}{x:Nat}(h:x∈iX l):x∈l:=by
 obtain⟨k,hk⟩:=tf _ l Y;rw[hk];exact List.mem_append_left _ h
theorem yt(l:List Nat):(iX l).length<=l.length:=by
 obtain⟨k,hk⟩:=tf _ l Y;have:=congrArg List.length hk;rw[List.length_append]at this;omega
theorem yu(B:Nat):∀k,val B (List.replicate k 0)=0
 |0=>rfl
 |k+1=>by rw[List.replicate_succ,val,yu B k];simp
theorem HQ(B:Nat)(l:List Nat):val B (iX l)=val B l:=by
 obtain⟨k,hk⟩:=tf _ l Y
 conv=>rhs;rw[hk,zN,yu]
 simp
theorem Bz{B:Nat}(hB:2<=B){n v:Nat}(h:v<B^n):iX (ee B n v)=can B v:=by
 have hv:=mN hB v;rcases Nat.le_total n v with hn|hn
 ·obtain⟨k,rfl⟩:=Nat.exists_eq_add_of_le hn;rw[can,wP (by omega) n k _ h,n8]
 obtain⟨k,rfl⟩:=Nat.exists_eq_add_of_le hn;rw[can,wP (by omega) v k _ hv,n8]
theorem kA{B:Nat}(hB:2<=B){l:List Nat}(h:∀x∈l,x<B):iX l=can B (val B l):=by
 conv=>lhs;rw[<-vv l h]
 exact Bz hB (fS l h)
theorem mP{B:Nat}(hB:2<=B)(v:Nat):val B (can B v)=v:=by
 rw[can,HQ,iY,Nat.mod_eq_of_lt (mN hB v)]
theorem gS{B:Nat}(hB:2<=B){v x:Nat}(h:x∈can B v):x<B:=jN (by omega) v v x (E8 h)
theorem n9(B:Nat):can B 0=[]:=rfl
theorem zO{B:Nat}(hB:2<=B){v:Nat}(h:can B v=[]):v=0:=by have:=mP hB v;rw[h]at this;exact this.symm
theorem JV{B:Nat}(hB:2<=B){v n:Nat}(h:v<B^n):(can B v).length<=n:=by
 rw[<-Bz hB h];have:=yt (ee B n v);rwa[bB]at this
theorem JW{B:Nat}(hB:2<=B)(v:Nat):iX (can B v)=can B v:=by
 rw[kA hB (λx hx=>gS hB hx),mP hB]
theorem JX{B:Nat}(hB:2<=B)(v:Nat):can B v=ee B (can B v).length v:=by
 have:=vv (can B v) (λx hx=>gS hB hx);rw[mP hB]at this;exact this.symm
theorem c8{B:Nat}(hB:2<=B)(v:Nat):v<B^(can B v).length:=by
 have:=fS (can B v) (λx hx=>gS hB hx);rwa[mP hB]at this
theorem zP{B:Nat}(hB:2<=B){v j:Nat}(h:j<(can B v).length):(can B v)[j]? =some (v/B^j%B):=by
 rw[JX hB v]at h⊢;rw[bB]at h;exact rO _ _ _ h
theorem wQ{B:Nat}(hB:2<=B){v j:Nat}(h:(can B v).length<=j):v/B^j=0:=by
 refine Nat.div_eq_of_lt (Nat.lt_of_lt_of_le (c8 hB v) ?_);exact Nat.pow_le_pow_right (by omega) h
theorem BA{B:Nat}(hB:2<=B){v:Nat}(h:v≠0):∃l x,x≠0/\can B v=l++[x]:=by
 rcases qm (can B v)with e|⟨ys,e⟩|⟨ys,y,hy,e⟩
 ·exact absurd (zO hB e) h
 ·exfalso;have h1:=JW hB v;rw[e,mO]at h1;have h2:=yt ys;rw[h1]at h2;simp at h2;omega
 exact⟨ys,y,hy,e⟩
theorem pH{B:Nat}(hB:2<=B){v n:Nat}(h:n<(can B v).length):B^n<=v:=by
 by_cases h0:v=0
 ·subst h0;simp[n9]at h
 obtain⟨l,x,hx,e⟩:=BA hB h0;have h1:=mP hB v;rw[e,zN]at h1;have hl:n<=l.length:=by rw[e]at h;simp at h;omega
 have h2:B^n<=B^l.length:=Nat.pow_le_pow_right (by omega) hl;have h3:B^l.length<=B^l.length*val B [x]:=Nat.le_mul_of_pos_right _ (by simp[val];omega);omega
theorem cO{B:Nat}(hB:2<=B){v n:Nat}:(can B v).length<=n↔v<B^n:=by
 refine⟨λh=>?_,JV hB⟩;exact Nat.lt_of_lt_of_le (c8 hB v) (Nat.pow_le_pow_right (by omega) h)
theorem HR{B:Nat}(hB:2<=B){l:List Nat}{x:Nat}(hx:x≠0)(h:∀y∈l++[x],y<B):l++[x]=can B (val B (l++[x])):=by
 rw[<-kA hB h,ql _ hx]
theorem lQ{B:Nat}:∀(l:List Nat),(∀x∈l,x<B)->∀k,l.getD k 0=val B l/B^k%B
 |[],_,k=>by simp[val]
 |x::l,h,0=>by
  have h2:=h x (by simp);simp[val,Nat.add_mul_mod_self_left,Nat.mod_eq_of_lt h2]
 |x::l,h,k+1=>by
  have h2:=h x (by simp);have hB:0<B:=by omega
  rw[List.getD_cons_succ,lQ l (λy hy=>h y (List.mem_cons_of_mem _ hy)) k,val,Nat.pow_succ,Nat.mul_comm (B^k) B,<-Nat.div_div_eq_div_mul,Nat.add_mul_div_left _ _ hB,Nat.div_eq_of_lt h2,Nat.zero_add]
theorem eO(B V k:Nat):V%B^(k+1)=V%B^k+B^k*(V/B^k%B):=by
 rw[Nat.pow_succ,Nat.mod_mul]
def Af(B V W k:Nat):Nat:=(V%B^k+W%B^k)/B^k
theorem CY{B:Nat}(hB:0<B)(V W k:Nat):Af B V W k<=1:=by
 have hP:0<B^k:=Nat.pow_pos hB;have h1:=Nat.mod_lt V hP;have h2:=Nat.mod_lt W hP;have:Af B V W k<2:=by rw[Af,Nat.div_lt_iff_lt_mul hP];omega
 omega
theorem BB{B:Nat}(hB:0<B)(V W k:Nat):(V/B^k%B+W/B^k%B+Af B V W k)/B=Af B V W (k+1):=by
 have hP:0<B^k:=Nat.pow_pos hB;rw[Af,Af,eO,eO,Nat.pow_succ,<-Nat.div_div_eq_div_mul];congr 1;rw[show V%B^k+B^k*(V/B^k%B)+(W%B^k+B^k*(W/B^k%B))=(V%B^k+W%B^k)+B^k*(V/B^k%B+W/B^k%B) by rw[Nat.mul_add];omega,Nat.add_mul_div_left _ _ hP];omega
theorem zQ{B:Nat}(hB:0<B)(V W k:Nat):(V/B^k%B+W/B^k%B+Af B V W k)%B=(V+W)/B^k%B:=by
 have hP:0<B^k:=Nat.pow_pos hB;have h:(V+W)/B^k=V/B^k+W/B^k+Af B V W k:=by
  have e1:=Nat.div_add_mod V (B^k);have e2:=Nat.div_add_mod W (B^k);rw[Af]
  conv=>lhs;rw[<-e1,<-e2]
  rw[show B^k*(V/B^k)+V%B^k+(B^k*(W/B^k)+W%B^k)=(V%B^k+W%B^k)+B^k*(V/B^k+W/B^k) by rw[Nat.mul_add];omega,Nat.add_mul_div_left _ _ hP];omega
 rw[h];simp[Nat.add_mod]
theorem JY{B:Nat}{V W k:Nat}(hV:V<B^k)(hW:W<B^k):Af B V W k=(V+W)/B^k:=by
 rw[Af,Nat.mod_eq_of_lt hV,Nat.mod_eq_of_lt hW]
theorem BC(B V W:Nat):Af B V W 0=0:=by simp[Af,Nat.mod_one]
def uQ(B V W k:Nat):Nat:=(V%B^k+B^k-W%B^k)/B^k
theorem BD(B V W:Nat):uQ B V W 0=1:=by simp[uQ,Nat.mod_one]
theorem HS{B:Nat}(hB:0<B)(V W k:Nat):uQ B V W k<=1:=by
 have hP:0<B^k:=Nat.pow_pos hB;have h1:=Nat.mod_lt V hP;have:uQ B V W k<2:=by
  rw[uQ,Nat.div_lt_iff_lt_mul hP];generalize W%B^k=y at*;generalize V%B^k=x at*;omega
 omega
theorem D1{B:Nat}(hB:0<B)(V W k:Nat):V%B^(k+1)+B^(k+1)-W%B^(k+1)=(V%B^k+B^k-W%B^k)+B^k*(V/B^k%B+(B-1-W/B^k%B)):=by
 have hP:0<B^k:=Nat.pow_pos hB;have h1:=Nat.mod_lt V hP;have h2:=Nat.mod_lt W hP;have h3:=Nat.mod_lt (W/B^k) hB;rw[eO,eO,Nat.pow_succ];generalize B^k=p at*;generalize V/p%B=x at*;generalize W/p%B=y at*;obtain⟨z,rfl⟩:∃z,B=y+1+z:=⟨B-y-1,by omega⟩;have e1:y+1+z-1-y=z:=by omega
 rw[e1,Nat.mul_add p x z,Nat.mul_add p (y+1) z,Nat.mul_add p y 1];omega
theorem BE{B:Nat}(hB:0<B)(V W k:Nat):(V/B^k%B+(B-1-W/B^k%B)+uQ B V W k)/B=uQ B V W (k+1):=by
 have hP:0<B^k:=Nat.pow_pos hB;rw[uQ,uQ,D1 hB,Nat.pow_succ,<-Nat.div_div_eq_div_mul,Nat.add_mul_div_left _ _ hP];congr 1;omega
theorem CZ{Q V W:Nat}(hQ:0<Q)(h:W<=V):(V%Q+Q-W%Q)%Q=(V-W)%Q:=by
 have e1:=Nat.div_add_mod V Q;have e2:=Nat.div_add_mod W Q;have h1:=Nat.mod_lt V hQ;have h2:=Nat.mod_lt W hQ;have hq:W/Q<=V/Q:=Nat.div_le_div_right h;generalize V%Q=r at*;generalize W%Q=s at*;generalize V/Q=a at*;generalize W/Q=b at*;obtain⟨c,rfl⟩:=Nat.exists_eq_add_of_le hq;rw[Nat.mul_add]at e1;rcases Nat.lt_or_ge r s with Lc|Lc
 ·cases c with
  |zero=>simp at e1;omega
  |succ c=>
   rw[Nat.mul_add,Nat.mul_one]at e1;rw[show V-W=Q*c+(r+Q-s) by omega,Nat.mul_add_mod]
 rw[show V-W=Q*c+(r-s) by omega,Nat.mul_add_mod,show r+Q-s=r-s+Q by omega,Nat.add_mod_right]
theorem D2{B:Nat}(hB:0<B){V W:Nat}(h:W<=V)(k:Nat):(V/B^k%B+(B-1-W/B^k%B)+uQ B V W k)%B=(V-W)/B^k%B:=by
 have hP:0<B^k:=Nat.pow_pos hB;have hQ:0<B^(k+1):=Nat.pow_pos hB;have e:=CZ hQ h;have e2:V/B^k%B+(B-1-W/B^k%B)+uQ B V W k=(V%B^(k+1)+B^(k+1)-W%B^(k+1))/B^k:=by
  rw[D1 hB,Nat.add_mul_div_left _ _ hP,uQ];omega
 rw[e2,<-Nat.mod_mul_right_div_self,<-Nat.mod_mul_right_div_self,<-Nat.pow_succ,e]
end
section
theorem D3{B:Nat}(hB:0<B):∀(j N lo p d hi:Nat),lo<B^j->p<B->d<B->j<N->(ee B N (lo+B^j*(p+B*hi))).set j d=ee B N (lo+B^j*(d+B*hi))
 |0,N+1,lo,p,d,hi,hlo,hp,hd,_=>by
  have:lo=0:=by simpa using hlo
  subst this;simp only[Nat.pow_zero,Nat.zero_add,Nat.one_mul,ee,List.set_cons_zero,Nat.add_mul_mod_self_left,Nat.mod_eq_of_lt hd];rw[Nat.add_mul_div_left _ _ hB,Nat.add_mul_div_left _ _ hB,Nat.div_eq_of_lt hp,Nat.div_eq_of_lt hd]
 |j+1,N+1,lo,p,d,hi,hlo,hp,hd,hN=>by
  have e:∀q,(lo+B^(j+1)*(q+B*hi))%B=lo%B:=λq=>by
   rw[Nat.pow_succ,Nat.mul_comm (B^j) B,Nat.mul_assoc,Nat.add_mul_mod_self_left]
  have e2:∀q,(lo+B^(j+1)*(q+B*hi))/B=lo/B+B^j*(q+B*hi):=λq=>by
   rw[Nat.pow_succ,Nat.mul_comm (B^j) B,Nat.mul_assoc,Nat.add_mul_div_left _ _ hB]
  have abz:lo/B<B^j:=by rw[Nat.div_lt_iff_lt_mul hB];rwa[Nat.pow_succ]at hlo
  rw[ee,ee,List.set_cons_succ,e,e,e2,e2,D3 hB j N (lo/B) p d hi abz hp hd (by omega)]
theorem oF{B:Nat}(hB:0<B){N j u u' d:Nat}(hj:j<N)(hd:d<B)(hlo:u'%B^j=u%B^j)(OJ:u'/B^j%B=d)(hhi:u'/B^(j+1)=u/B^(j+1)):(ee B N u).set j d=ee B N u':=by
 have hP:0<B^j:=Nat.pow_pos hB;have f:∀u,u=u%B^j+B^j*(u/B^j%B+B*(u/B^(j+1))):=λu=>by
  have e1:=Nat.mod_add_div u (B^j);have e2:=E9 B u j;rw[Nat.add_comm]at e2;rw[<-e2,e1]
 rw[f u,D3 hB j N _ _ d _ (Nat.mod_lt _ hP) (Nat.mod_lt _ hB) hd hj]
 conv=>rhs;rw[f u',hlo,OJ,hhi]
where
 E9 (B v m:Nat):v/B^m=B*(v/B^(m+1))+v/B^m%B:=by
  rw[Nat.pow_succ,<-Nat.div_div_eq_div_mul,Nat.div_add_mod]
def mT(B V W i k:Nat):Nat:=((V%B^i)*W)%B^(i+k)+B^i*(V/B^i%B)*(W%B^k)
def mC(B V W i k:Nat):Nat:=mT B V W i k/B^(i+k)
def mV(B V W i k:Nat):Nat:=mT B V W i k%B^(i+k)+B^(i+k)*(((V%B^i)*W)/B^(i+k))
theorem Mk{B:Nat}(hB:0<B)(V W i k:Nat):mT B V W i k<B^(i+k)*B:=by
 have h1:((V%B^i)*W)%B^(i+k)<B^(i+k):=Nat.mod_lt _ (Nat.pow_pos hB);have h2:V/B^i%B<B:=Nat.mod_lt _ hB;have h3:W%B^k<B^k:=Nat.mod_lt _ (Nat.pow_pos hB);have h4:B^i*(V/B^i%B)*(W%B^k)<=B^i*(B-1)*B^k:=Nat.mul_le_mul (Nat.mul_le_mul_left _ (by omega)) (Nat.le_of_lt h3);have h5:B^i*(B-1)*B^k=B^(i+k)*(B-1):=by rw[Nat.pow_add,Nat.mul_assoc,Nat.mul_assoc,Nat.mul_comm (B-1)]
 have h6:B^(i+k)*B=B^(i+k)*(B-1)+B^(i+k):=by
  obtain⟨b,rfl⟩:∃b,B=b+1:=⟨B-1,by omega⟩;rw[Nat.add_sub_cancel,Nat.mul_add,Nat.mul_one]
 unfold mT;omega
theorem Ml{B:Nat}(hB:0<B)(V W i k:Nat):mC B V W i k<B:=by
 rw[mC,Nat.div_lt_iff_lt_mul (Nat.pow_pos hB),Nat.mul_comm];exact Mk hB V W i k
theorem zR{B:Nat}(V W i k:Nat):mT B V W i (k+1)=mT B V W i k+B^(i+k)*(((V%B^i)*W)/B^(i+k)%B+(V/B^i%B)*(W/B^k%B)):=by
 have e1:((V%B^i)*W)%B^(i+(k+1))=((V%B^i)*W)%B^(i+k)+B^(i+k)*(((V%B^i)*W)/B^(i+k)%B):=by rw[<-Nat.add_assoc,eO]
 have e2:W%B^(k+1)=W%B^k+B^k*(W/B^k%B):=eO B W k;unfold mT;rw[e1,e2,Nat.mul_add,Nat.mul_add (B^(i+k))];have e3:B^i*(V/B^i%B)*(B^k*(W/B^k%B))=B^(i+k)*((V/B^i%B)*(W/B^k%B)):=by
  rw[Nat.pow_add,Nat.mul_assoc,Nat.mul_assoc,Nat.mul_left_comm (V/B^i%B)]
 omega
theorem JZ{B:Nat}(hB:0<B)(V W i k:Nat):(((V%B^i)*W)/B^(i+k)%B+(V/B^i%B)*(W/B^k%B)+mC B V W i k)/B=mC B V W i (k+1):=by
 have hP:0<B^(i+k):=Nat.pow_pos hB;rw[mC,mC,zR,<-Nat.add_assoc,Nat.pow_succ,<-Nat.div_div_eq_div_mul,Nat.add_mul_div_left _ _ hP];congr 1;omega
theorem Mm{B:Nat}(V W i k:Nat):mV B V W i k%B^(i+k)=mT B V W i k%B^(i+k):=by
 rw[mV,Nat.add_mul_mod_self_left,Nat.mod_mod]
theorem D4{B:Nat}(hB:0<B)(V W i k:Nat):mV B V W i k/B^(i+k)=((V%B^i)*W)/B^(i+k):=by
 have hP:0<B^(i+k):=Nat.pow_pos hB;rw[mV,Nat.add_mul_div_left _ _ hP,Nat.div_eq_of_lt (Nat.mod_lt _ hP),Nat.zero_add]
theorem OK{B:Nat}(hB:0<B){V W i k N:Nat}(h:i+k<N):(ee B N (mV B V W i k))[i+k]? =some (((V%B^i)*W)/B^(i+k)%B):=by
 rw[rO _ _ _ h,D4 hB]
theorem J0{B:Nat}(hB:0<B){V W i k N:Nat}(h:i+k<N):
  (ee B N (mV B V W i k)).set (i+k) ((((V%B^i)*W)/B^(i+k)%B+(V/B^i%B)*(W/B^k%B)+mC B V W i k)%B)=ee B N (mV B V W i (k+1)):=by
 have hP:0<B^(i+k):=Nat.pow_pos hB;have hPB:B^(i+(k+1))=B^(i+k)*B:=by rw[<-Nat.add_assoc,Nat.pow_succ]
 have hs:mT B V W i (k+1)/B^(i+k)=((V%B^i)*W)/B^(i+k)%B+(V/B^i%B)*(W/B^k%B)+mC B V W i k:=by
  rw[zR,Nat.add_mul_div_left _ _ hP,mC];omega
 have ht:mT B V W i (k+1)%B^(i+k)=mT B V W i k%B^(i+k):=by rw[zR,Nat.add_mul_mod_self_left]
 refine oF hB h (Nat.mod_lt _ hB) ?_ ?_ ?_
 ·rw[Mm,<-ht,mV,hPB,Nat.mul_assoc,Nat.add_mul_mod_self_left,Nat.mod_mul_right_mod]
 ·rw[mV,hPB,Nat.mul_assoc,Nat.add_mul_div_left _ _ hP,Nat.add_mul_mod_self_left,Nat.mod_mul_right_div_self,Nat.mod_mod,hs]
 rw[show i+k+1=i+(k+1) by omega,D4 hB,show i+(k+1)=i+k+1 by omega,Nat.pow_succ,<-Nat.div_div_eq_div_mul,<-Nat.div_div_eq_div_mul,D4 hB]
theorem J1{B:Nat}(V W i:Nat):mV B V W i 0=(V%B^i)*W:=by
 rw[mV,mT,Nat.pow_zero,Nat.mod_one,Nat.mul_zero,Nat.add_zero,Nat.add_zero,Nat.mod_mod,Nat.mod_add_div]
theorem J2{B:Nat}(hB:0<B)(V W i:Nat):mC B V W i 0=0:=by
 rw[mC,mT,Nat.pow_zero,Nat.mod_one,Nat.mul_zero,Nat.add_zero,Nat.add_zero];exact Nat.div_eq_of_lt (Nat.mod_lt _ (Nat.pow_pos hB))
theorem OL{B:Nat}(hB:0<B){V W i n N:Nat}(hW:W<B^n)(h:i+n<N):(ee B N (mV B V W i n)).set (i+n) ((0+mC B V W i n)%B)=ee B N ((V%B^(i+1))*W):=by
 have hP:0<B^(i+n):=Nat.pow_pos hB;have hp:(V%B^i)*W<B^(i+n):=by
  have h1:V%B^i<B^i:=Nat.mod_lt _ (Nat.pow_pos hB);rw[Nat.pow_add];by_cases h0:W=0
  ·subst h0;rw[Nat.mul_zero];exact Nat.mul_pos (Nat.pow_pos hB) (Nat.pow_pos hB)
  calc (V%B^i)*W<B^i*W:=Nat.mul_lt_mul_of_pos_right h1 (by omega)
   _<=B^i*B^n:=Nat.mul_le_mul_left _ (Nat.le_of_lt hW)
 have hT:mT B V W i n=(V%B^(i+1))*W:=by
  rw[mT,Nat.mod_eq_of_lt hp,Nat.mod_eq_of_lt hW,eO,Nat.add_mul]
 have hlt:=Mk hB V W i n;rw[hT]at hlt;refine oF hB h (Nat.mod_lt _ hB) ?_ ?_ ?_
 ·rw[Mm,hT]
 ·rw[Nat.zero_add,mC,hT]
 rw[Nat.pow_succ B (i+n),Nat.div_eq_of_lt hlt,<-Nat.div_div_eq_div_mul,D4 hB,Nat.div_eq_of_lt hp,Nat.zero_div]
def sT(B V f e i:Nat):Nat:=V%B^i*f+e
def sC(B V f e i:Nat):Nat:=sT B V f e i/B^i
theorem D5(B V f e:Nat):sC B V f e 0=e:=by simp[sC,sT,Nat.mod_one]
theorem D6(B V f e i:Nat):sT B V f e (i+1)=sT B V f e i+B^i*(V/B^i%B*f):=by
 unfold sT;rw[eO,Nat.add_mul,Nat.mul_assoc];omega
theorem D7{B:Nat}(hB:0<B)(V f e i:Nat):(V/B^i%B*f+sC B V f e i)/B=sC B V f e (i+1):=by
 have hP:0<B^i:=Nat.pow_pos hB;rw[sC,sC,D6,Nat.pow_succ,<-Nat.div_div_eq_div_mul,Nat.add_mul_div_left _ _ hP];congr 1;omega
theorem HT{B:Nat}(hB:0<B)(V f e i:Nat):(V/B^i%B*f+sC B V f e i)%B=(V*f+e)/B^i%B:=by
 have hP:0<B^i:=Nat.pow_pos hB;have h1:V*f+e=sT B V f e (i+1)+B^i*(B*(V/B^(i+1)*f)):=by
  have e1:=Nat.mod_add_div V (B^(i+1));unfold sT
  conv=>lhs;rw[<-e1,Nat.add_mul]
  rw[Nat.pow_succ,Nat.mul_assoc,Nat.mul_assoc];omega
 rw[h1,Nat.add_mul_div_left _ _ hP,Nat.add_mul_mod_self_left,D6,Nat.add_mul_div_left _ _ hP,sC,Nat.add_comm]
theorem Mn{B:Nat}(hB:0<B){V f e:Nat}(hf:f<B)(he:e<B)(i:Nat):sC B V f e i<B:=by
 have hP:0<B^i:=Nat.pow_pos hB;rw[sC,Nat.div_lt_iff_lt_mul hP];have h1:V%B^i<=B^i-1:=by have:=Nat.mod_lt V hP;omega
 have h2:V%B^i*f<=(B^i-1)*(B-1):=Nat.mul_le_mul h1 (by omega);obtain⟨p,hp⟩:∃p,B^i=p+1:=⟨B^i-1,by omega⟩;obtain⟨b,rfl⟩:∃b,B=b+1:=⟨B-1,by omega⟩;unfold sT;rw[hp]at h2⊢;rw[Nat.add_sub_cancel,Nat.add_sub_cancel]at h2;have h3:(b+1)*(p+1)=p*b+b+p+1:=by rw[Nat.add_mul,Nat.mul_add,Nat.mul_comm b p];omega
 omega
theorem OM{B V f e i:Nat}(h:V<B^i):sC B V f e i=(V*f+e)/B^i:=by rw[sC,sT,Nat.mod_eq_of_lt h]
def sU(B V f e i:Nat):Nat:=sT B V f e i%B^i+B^i*(V/B^i)
def qU(B V d n:Nat):Nat:=V%B^n+B^n*(V/B^n/d)
theorem J3(B V d:Nat):qU B V d 0=V/d:=by simp[qU,Nat.mod_one]
theorem ON{B V d n:Nat}(h:V<B^n):qU B V d n=V:=by simp[qU,Nat.mod_eq_of_lt h,Nat.div_eq_of_lt h]
theorem J4(B V m:Nat):V/B^m=B*(V/B^(m+1))+V/B^m%B:=by rw[Nat.pow_succ,<-Nat.div_div_eq_div_mul,Nat.div_add_mod]
theorem Mo{B d:Nat}(V m:Nat):V/B^m=(V/B^(m+1)%d*B+V/B^m%B)+d*(B*(V/B^(m+1)/d)):=by
 have h1:=J4 B V m;have h2:=Nat.mod_add_div (V/B^(m+1)) d;generalize V/B^(m+1)=q at*;generalize V/B^m%B=y at*;rw[h1]
 conv=>lhs;rw[<-h2]
 rw[Nat.mul_add,Nat.mul_left_comm B d,Nat.mul_comm B (q%d)];omega
theorem Vl{B d:Nat}(hd:0<d)(V m:Nat):V/B^m/d=B*(V/B^(m+1)/d)+(V/B^(m+1)%d*B+V/B^m%B)/d:=by
 conv=>lhs;rw[Mo (B:=B) (d:=d) V m]
 rw[Nat.add_mul_div_left _ _ hd,Nat.add_comm]
theorem Vm{B d:Nat}(V m:Nat):V/B^m%d=(V/B^(m+1)%d*B+V/B^m%B)%d:=by
 conv=>lhs;rw[Mo (B:=B) (d:=d) V m]
 rw[Nat.add_mul_mod_self_left]
theorem Vn{B d:Nat}(hB:0<B)(hd:0<d)(V m:Nat):V/B^(m+1)%d*B+V/B^m%B<d*B:=by
 have h1:=Nat.mod_lt (V/B^(m+1)) hd;have h2:=Nat.mod_lt (V/B^m) hB;have h3:(V/B^(m+1)%d+1)*B<=d*B:=Nat.mul_le_mul_right _ h1;rw[Nat.add_mul]at h3;omega
theorem HU{B:Nat}(hB:0<B)(V d n:Nat):qU B V d n/B^n=V/B^n/d:=by
 have hP:0<B^n:=Nat.pow_pos hB;rw[qU,Nat.add_mul_div_left _ _ hP,Nat.div_eq_of_lt (Nat.mod_lt _ hP),Nat.zero_add]
theorem Vo(B V d n:Nat):qU B V d n%B^n=V%B^n:=by rw[qU,Nat.add_mul_mod_self_left,Nat.mod_mod]
theorem J5{B:Nat}(V d m:Nat):qU B V d (m+1)%B^m=V%B^m:=by
 rw[qU,Nat.pow_succ,Nat.mul_assoc,Nat.add_mul_mod_self_left,Nat.mod_mul_right_mod]
theorem OO{B:Nat}(hB:0<B){V d m N:Nat}(h:m<N):(ee B N (qU B V d (m+1)))[m]? =some (V/B^m%B):=by
 have hP:0<B^m:=Nat.pow_pos hB;rw[rO _ _ _ h,qU,Nat.pow_succ,Nat.mul_assoc,Nat.add_mul_div_left _ _ hP,Nat.add_mul_mod_self_left,Nat.mod_mul_right_div_self,Nat.mod_mod]
theorem J6{B:Nat}(hB:0<B){V d m N:Nat}(hd:0<d)(h:m<N):(ee B N (qU B V d (m+1))).set m ((V/B^(m+1)%d*B+V/B^m%B)/d)=ee B N (qU B V d m):=by
 have hx:(V/B^(m+1)%d*B+V/B^m%B)/d<B:=by rw[Nat.div_lt_iff_lt_mul hd,Nat.mul_comm B d];exact Vn hB hd V m
 have hq:=Vl (B:=B) hd V m;refine oF hB h hx ?_ ?_ ?_
 ·rw[Vo,J5]
 ·rw[HU hB,hq,Nat.mul_add_mod,Nat.mod_eq_of_lt hx]
 rw[HU hB,Nat.pow_succ,<-Nat.div_div_eq_div_mul,HU hB,hq,Nat.mul_add_div hB,Nat.div_eq_of_lt hx,<-Nat.pow_succ];rfl
end
section
theorem J7{B v:Nat}(hB:2<=B)(h0:v≠0)(h:v<B):can B v=[v]:=by
 have:=HR hB (l:=[]) h0 (by simpa using h);simpa[val]using this.symm
theorem J8{B v:Nat}(hB:2<=B)(h0:v/B≠0)(h:v<B*B):can B v=[v%B,v/B]:=by
 have h1:v/B<B:=by rw[Nat.div_lt_iff_lt_mul (by omega)];exact h
 have h2:v%B<B:=Nat.mod_lt _ (by omega);have:=HR hB (l:=[v%B]) h0 (by simp;exact⟨h2,h1⟩);simp only[List.cons_append,List.nil_append,val,Nat.mul_zero,Nat.add_zero]at this;rw[Nat.mod_add_div]at this;exact this.symm
theorem kV{B:Nat}{l:List Nat}(h:∀x∈l,x<B){i:Nat}(hi:i<l.length):l[i]? =some (val B l/B^i%B):=by
 rw[<-lQ l h i];simp[List.getD,hi]
def xD(v w:Nat):Int:=if v<w then-1 else if v=w then 0 else 1
theorem rP{v w:Nat}(h:v<w):xD v w=-1:=by simp[xD,h]
theorem zS(v:Nat):xD v v=0:=by simp[xD]
theorem vw{v w:Nat}(h:w<v):xD v w=1:=by
 have h1:¬v<w:=by omega
 have h2:¬v=w:=by omega
 simp[xD,h1,h2]
theorem wS{B v w:Nat}(hB:2<=B)(h:(can B v).length<(can B w).length):v<w:=
 Nat.lt_of_lt_of_le (c8 hB v) (pH hB h)
theorem BF(B v m:Nat):v/B^m=B*(v/B^(m+1))+v/B^m%B:=by
 rw[Nat.pow_succ,<-Nat.div_div_eq_div_mul,Nat.div_add_mod]
theorem yw{B v w m:Nat}(h:v/B^m<w/B^m):v<w:=by
 rcases Nat.lt_or_ge v w with h1|h1
 ·exact h1
 have:=Nat.div_le_div_right (c:=B^m) h1;omega
theorem Fa{B v w m:Nat}(h:v/B^(m+1)=w/B^(m+1)):(v/B^m%B=w/B^m%B/\v/B^m=w/B^m)\/(v/B^m%B<w/B^m%B/\v<w)\/(w/B^m%B<v/B^m%B/\w<v):=by
 have h1:=BF B v m;have h2:=BF B w m;rw[<-h]at h2;rcases Nat.lt_trichotomy (v/B^m%B) (w/B^m%B)with h3|h3|h3
 ·exact .inr (.inl ⟨h3,yw (B:=B) (m:=m) (by omega)⟩)
 ·exact .inl ⟨h3,by omega⟩
 exact .inr (.inr ⟨h3,yw (B:=B) (m:=m) (by omega)⟩)
end
end Go.Fw
namespace Go.Proofs.Ytmiflmkdaeianaa
section
open Go.Fw
theorem rQ(l:List Nat)(hl:l.length<=9000000000000000000):bh l=some (iX l):=by
 unfold bh;refine lP (λy=>y.length<=9000000000000000000/\iX y=iX l) (λe=>e=iX l) (λy=>y.length) ?_ ⟨hl,Y⟩ (λe he=>by rw[he]);rintro y ⟨hy,ht⟩;rcases qm y with rfl|⟨ys,rfl⟩|⟨ys,x,hx,rfl⟩
 ·right;exact⟨[],by simp[di],ht⟩
 ·left;have h1:((ys++[0]).length:Int)=((ys.length+1:Nat):Int):=by simp
  have h2:ys.length<=9223372036854775807:=by simp at hy;omega
  refine⟨ys,?_,⟨by simp at hy⊢;omega,by rw[<-ht,mO]⟩,by simp⟩;simp only[di,Option.bind_some,h1,Bv h2];rw[bt (a:=0) (by simp),yq (by simp)];simp
 right;have h1:((ys++[x]).length:Int)=((ys.length+1:Nat):Int):=by simp
 have h2:ys.length<=9223372036854775807:=by simp at hy;omega
 refine⟨ys++[x],?_,by rw[<-ht,ql _ hx]⟩;simp only[di,Option.bind_some,h1,Bv h2];rw[bt (a:=x) (by simp)];simp[hx]
def zc(n:Bool)(v:Nat):Zr:=⟨n&&v != 0,can 4294967296 v⟩
theorem D8(n:Bool):zc n 0=⟨false,[]⟩:=by simp[zc,n9]
theorem HV(n:Bool){v:Nat}(h:v≠0):zc n v=⟨n,can 4294967296 v⟩:=by simp[zc,h]
def zT(l:List Nat):Prop:=(∀x∈l,x<4294967296)/\l.length<=35184372088808
def W64(l:List Nat):Prop:=(∀x∈l,x<4294967296)/\l.length<=9000000000000000000
theorem zT.x{l:List Nat}(h:zT l):W64 l:=⟨h.1,Nat.le_trans h.2 (by decide)⟩
abbrev vl(l:List Nat):Nat:=val 4294967296 l
theorem iq(n:Bool)(l:List Nat)(h:W64 l):bU n l=some (zc n (vl l)):=by
 unfold bU;rw[rQ l (by have:=h.2;omega),kA (by decide) h.1];show _=some (zc n (val 4294967296 l));by_cases hz:val 4294967296 l=0
 ·rw[hz,D8];simp[n9]
 have:can 4294967296 (val 4294967296 l)≠[]:=λe=>hz (zO (by decide) e);rw[HV _ hz];simp[this]
theorem lS(n:Bool)(v:Nat)(h:v<18446744073709551616):dM n v=some (zc n v):=by
 unfold dM;by_cases hz:v=0
 ·subst hz;simp[D8]
 rw[HV _ hz];by_cases h1:v/2^32=0
 ·rw[J7 (by decide) hz (by omega)];simp only[Option.bind_some,hz,h1,decide_false,decide_true,cond_false,cond_true];rw[Nat.mod_eq_of_lt (by omega)]
 rw[J8 (by decide) (by omega) (by omega)];simp only[Option.bind_some,hz,h1,decide_false,cond_false];rw[Nat.mod_eq_of_lt (a:=v/2^32) (by omega)]
theorem HW{a b s:Nat}(h:a<2^s):a ||| b*2^s=a+b*2^s:=by
 rw[Nat.or_comm,Nat.mul_comm b,<-Nat.two_pow_add_eq_or_of_lt h,Nat.add_comm]
theorem low_eq(l:List Nat)(h:∀x∈l,x<4294967296)(hl:l.length<=2):cU l=some (vl l):=by
 rcases l with _|⟨x,_|⟨y,_|⟨z,l⟩⟩⟩
 ·simp[cU,vl,val]
 ·have hx:=h x (by simp);simp only[cU,oE (l:=[x]) (a:=x) rfl];simp[vl,val];omega
 ·have hx:=h x (by simp);have hy:=h y (by simp);simp only[cU,oE (l:=[x,y]) (a:=x) Y,Bw (l:=[x,y]) (a:=y) Y,Option.bind_some];rw[Nat.mod_eq_of_lt (a:=x) (by omega),Nat.mod_eq_of_lt (a:=y) (by omega),Nat.mod_eq_of_lt (a:=y*2^32) (by omega),HW (by omega),Nat.mod_eq_of_lt (by omega)];simp[vl,val];omega
 simp at hl
theorem eW(x c:Nat)(h:x+c<18446744073709551616):bA x c=some ((x+c)%4294967296,(x+c)/4294967296):=by
 simp[bA,Nat.mod_eq_of_lt h]
theorem iw(v w:Nat)(hv:(can 4294967296 v).length<=9000000000000000000)(hw:(can 4294967296 w).length<=9000000000000000000):cg (can 4294967296 v) (can 4294967296 w)=some (xD v w):=by
 unfold cg;rcases Nat.lt_trichotomy (can 4294967296 v).length (can 4294967296 w).length with hl|hl|hl
 ·rw[rP (wS (by decide) hl)];simp only[Option.bind_some];rw[show decide (((can 4294967296 v).length:Int)≠((can 4294967296 w).length:Int))=true by simp;omega,show decide (((can 4294967296 v).length:Int)<((can 4294967296 w).length:Int))=true by simp;omega];rfl
 ·simp only[Option.bind_some];rw[show decide (((can 4294967296 v).length:Int)≠((can 4294967296 w).length:Int))=false by simp;omega,cond_false];refine lP (λy=>∃n:Nat,y=(n:Int)-1/\n<=(can 4294967296 v).length/\v/4294967296^n=w/4294967296^n) (λe=>e=(if v=w then .inl ()else .inr (xD v w))) (λy=>(y+1).toNat) ?_ ⟨(can 4294967296 v).length,?_,Nat.le_refl _,?_⟩ ?_
  ·rintro y ⟨n,rfl,hn,he⟩;cases n with
   |zero=>
    right;have:v=w:=by simpa using he
    subst this;exact⟨_,by simp,Y⟩
   |succ m=>
    have xH:=zP (B:=4294967296) (by decide) (v:=v) (j:=m) (by omega);have hgw:=zP (B:=4294967296) (by decide) (v:=w) (j:=m) (by omega);have e0:((m+1:Nat):Int)-1=(m:Int):=by omega
    rw[e0];rcases Fa he with⟨h1,h2⟩|⟨h1,h2⟩|⟨h1,h2⟩
    ·left;refine⟨(m:Int)-1,?_,⟨m,Y,by omega,h2⟩,by omega⟩;simp only[Option.bind_some,bt xH,bt hgw,h1];rw[eV (by omega) (by omega)];simp
    ·right;refine⟨.inr (-1),?_,by rw[if_neg (by omega),rP h2]⟩;simp only[Option.bind_some,bt xH,bt hgw];simp[h1,Nat.ne_of_lt h1]
    right;refine⟨.inr 1,?_,by rw[if_neg (by omega),vw h2]⟩;simp only[Option.bind_some,bt xH,bt hgw];simp[Nat.not_lt_of_lt h1,Nat.ne_of_gt h1]
  ·rw[eV (by omega) (by omega)]
  ·rw[wQ (by decide) (Nat.le_refl _),wQ (by decide) (by omega)]
  rintro e rfl;by_cases h:v=w
  ·subst h;simp[zS]
  simp[h]
 rw[vw (wS (by decide) hl)];simp only[Option.bind_some];rw[show decide (((can 4294967296 v).length:Int)≠((can 4294967296 w).length:Int))=true by simp;omega,show decide (((can 4294967296 v).length:Int)<((can 4294967296 w).length:Int))=false by simp;omega];rfl
theorem vz{l:List Nat}(h:∀x∈l,x<4294967296)(i:Nat):l.getD i 0<4294967296:=by
 rcases Nat.lt_or_ge i l.length with hi|hi
 ·exact h _ (List.mem_of_getElem? (nF hi))
 rw[pP hi];decide
theorem ux(a b:List Nat)(ha:zT a)(hb:zT b):dG a b=some (ee 4294967296 (max a.length b.length+1) (vl a+vl b)):=by
 obtain⟨hA,hla⟩:=ha;obtain⟨hB,hlb⟩:=hb;have hV:val 4294967296 a<4294967296^(max a.length b.length):=Nat.lt_of_lt_of_le (fS a hA) (Nat.pow_le_pow_right (by decide) (by omega));have hW:val 4294967296 b<4294967296^(max a.length b.length):=Nat.lt_of_lt_of_le (fS b hB) (Nat.pow_le_pow_right (by decide) (by omega));unfold dG;simp only[Option.bind_some];rw[show max (a.length:Int) (b.length:Int)=((max a.length b.length:Nat):Int) by omega,cM (by omega),CX (by decide) (by omega),Option.bind_some];refine wO (λk=>(Af 4294967296 (vl a) (vl b) k,ee 4294967296 k (vl a+vl b))) (by simp[BC,ee]) (λk hk=>?_) ?_
 ·have hx:=vz hA k;have hy:=vz hB k;have hc:=CY (B:=4294967296) (by decide) (vl a) (vl b) k;have hxe:=lQ a hA k;have hye:=lQ b hB k;simp only[Option.bind_some];rw[Nat.mod_eq_of_lt (a:=a.getD k 0) (by omega),Nat.mod_eq_of_lt (a:=b.getD k 0) (by omega),Nat.mod_eq_of_lt (a:=a.getD k 0+b.getD k 0) (by omega),eW _ _ (by omega)];simp only[Option.bind_some];rw[Bx (by decide) (by rw[bB];omega),Option.bind_some,hxe,hye,BB (by decide),zQ (by decide),<-kz]
 have hc:=CY (B:=4294967296) (by decide) (vl a) (vl b) (max a.length b.length);simp only;rw[eW _ _ (by omega)];simp only[Option.bind_some];rw[Bx (by decide) (by rw[bB];omega),Option.bind_some,Nat.zero_add,JY hV hW,<-kz]
theorem uy(a b:List Nat)(ha:zT a)(hb:zT b)(hl:b.length<=a.length)(hle:vl b<=vl a):cr a b=some (ee 4294967296 a.length (vl a-vl b)):=by
 obtain⟨hA,hla⟩:=ha;obtain⟨hB,hlb⟩:=hb;have hmx:max a.length b.length=a.length:=by omega
 unfold cr;simp only[Option.bind_some];rw[CX (by decide) (by omega),Option.bind_some,hmx];refine wO (λk=>(uQ 4294967296 (vl a) (vl b) k,ee 4294967296 k (vl a-vl b))) (by simp[BD,ee]) (λk hk=>?_) Y;have hx:=vz hA k;have hy:=vz hB k;have hc:=HS (B:=4294967296) (by decide) (vl a) (vl b) k;have hxe:=lQ a hA k;have hye:=lQ b hB k;simp only[Option.bind_some];rw[Nat.mod_eq_of_lt (a:=a.getD k 0) (by omega),Nat.mod_eq_of_lt (a:=b.getD k 0) (by omega),mM (by omega) (by omega),Nat.mod_eq_of_lt (a:=a.getD k 0+(4294967295-b.getD k 0)) (by omega),eW _ _ (by omega)];simp only[Option.bind_some];rw[Bx (by decide) (by rw[bB];omega),Option.bind_some,hxe,hye,BE (B:=4294967296) (by decide),D2 (B:=4294967296) (by decide) hle,<-kz]
theorem BG(a b:List Nat)(ha:zT a)(hb:zT b):ep a b=some (ee 4294967296 (a.length+b.length) (vl a*vl b)):=by
 obtain⟨hA,hla⟩:=ha;obtain⟨hB,hlb⟩:=hb;unfold ep;simp only[Option.bind_some];rw[oD (by omega),td (by decide) (by omega),Option.bind_some];refine b9 (λi=>((i:Int),ee 4294967296 (a.length+b.length) (vl a%4294967296^i*vl b))) a.length (ee 4294967296 (a.length+b.length) (vl a%4294967296^a.length*vl b)) (by simp[Nat.mod_one,n7]) (λi hi=>?_) (by simp) (by rw[Nat.mod_eq_of_lt (fS a hA)]);have Xy:=kV hA hi;have hx:val 4294967296 a/4294967296^i%4294967296<4294967296:=Nat.mod_lt _ (by decide);simp only[Option.bind_some,show decide ((i:Int)<(a.length:Int))=true by simp;omega,cond_true];rw[bt Xy,Option.bind_some];refine b9 (λk=>((k:Int),mC 4294967296 (vl a) (vl b) i k,ee 4294967296 (a.length+b.length) (mV 4294967296 (vl a) (vl b) i k))) b.length (mC 4294967296 (vl a) (vl b) i b.length,ee 4294967296 (a.length+b.length) (mV 4294967296 (vl a) (vl b) i b.length)) (by simp[J2,J1]) (λk hk=>?_) (by simp) ?_
 ·have hgy:=kV hB hk;have Xz:=OK (B:=4294967296) (by decide) (V:=vl a) (W:=vl b) (i:=i) (k:=k) (N:=a.length+b.length) (by omega);have hy:val 4294967296 b/4294967296^k%4294967296<4294967296:=Nat.mod_lt _ (by decide);have hp:vl a%4294967296^i*vl b/4294967296^(i+k)%4294967296<4294967296:=Nat.mod_lt _ (by decide);have hc:=Ml (B:=4294967296) (by decide) (vl a) (vl b) i k;have hxy:val 4294967296 a/4294967296^i%4294967296*(val 4294967296 b/4294967296^k%4294967296)<=4294967295*4294967295:=Nat.mul_le_mul (by omega) (by omega);simp only[Option.bind_some,show decide ((k:Int)<(b.length:Int))=true by simp;omega,cond_true];rw[bt hgy,Option.bind_some,oD (by omega),ec (by rw[bB];omega),Option.bind_some,Xz,Option.bind_some]
  rw[Nat.mod_eq_of_lt (a:=vl a%4294967296^i*vl b/4294967296^(i+k)%4294967296) (by omega),Nat.mod_eq_of_lt (a:=val 4294967296 a/4294967296^i%4294967296) (b:=18446744073709551616) (by omega),Nat.mod_eq_of_lt (a:=val 4294967296 b/4294967296^k%4294967296) (b:=18446744073709551616) (by omega),Nat.mod_eq_of_lt (a:=val 4294967296 a/4294967296^i%4294967296*(val 4294967296 b/4294967296^k%4294967296)) (by omega),Nat.mod_eq_of_lt (a:=vl a%4294967296^i*vl b/4294967296^(i+k)%4294967296+_) (by omega),eW _ _ (by omega)];simp only[Option.bind_some];rw[jt (by rw[bB];omega),Option.bind_some,JZ (B:=4294967296) (by decide),J0 (B:=4294967296) (by decide) (by omega),cM (by omega)]
 have hc:=Ml (B:=4294967296) (by decide) (vl a) (vl b) i b.length;simp only[Option.bind_some];rw[oD (by omega),eW _ _ (by omega)];simp only[Option.bind_some];rw[ec (by rw[bB];omega),Option.bind_some,jt (by rw[bB];omega),Option.bind_some,OL (B:=4294967296) (by decide) (fS b hB) (by omega),cM (by omega)]
end
section
open Go.Fw
theorem J9{a b s:Nat}(h:a<2^s):b*2^s ||| a=b*2^s+a:=by rw[Nat.or_comm,HW h,Nat.add_comm]
theorem D9{a b:Nat}(h:a<4294967296):b*4294967296 ||| a=b*4294967296+a:=J9 (s:=32) h
theorem BH(a:List Nat)(d:Nat)(ha:zT a)(hd:0<d)(hd2:d<=4294967296):fo a d=some (vl a%d,ee 4294967296 a.length (vl a/d)):=by
 obtain⟨hA,hla⟩:=ha;unfold fo;simp only[Option.bind_some];rw[eV (by omega) (by omega)];refine b9 (λi=>(vl a/4294967296^(a.length-i)%d,((a.length-i:Nat):Int)-1,ee 4294967296 a.length (qU 4294967296 (vl a) d (a.length-i)))) a.length (vl a%d,ee 4294967296 a.length (vl a/d)) ?_ (λi hi=>?_) (by simp[J3]) ?_
 ·simp only[Nat.sub_zero];rw[ON (fS a hA),vv a hA,Nat.div_eq_of_lt (fS a hA),Nat.zero_mod]
 ·obtain⟨m,hm⟩:∃m,a.length-i=m+1:=⟨a.length-i-1,by omega⟩;have hm':a.length-(i+1)=m:=by omega
  have hml:m<a.length:=by omega
  rw[hm,hm'];have hy:vl a/4294967296^m%4294967296<4294967296:=Nat.mod_lt _ (by decide);have hr:vl a/4294967296^(m+1)%d<d:=Nat.mod_lt _ hd;have hq:=Vn (B:=4294967296) (by decide) hd (vl a) m;have hqd:(vl a/4294967296^(m+1)%d*4294967296+vl a/4294967296^m%4294967296)/d<4294967296:=by rw[Nat.div_lt_iff_lt_mul hd,Nat.mul_comm 4294967296 d];exact hq
  have hg:=OO (B:=4294967296) (by decide) (V:=vl a) (d:=d) (m:=m) (N:=a.length) hml;have hlt:vl a/4294967296^(m+1)%d*4294967296+vl a/4294967296^m%4294967296<18446744073709551616:=by omega
  have Pn:vl a/4294967296^(m+1)%d*4294967296<18446744073709551616:=Nat.lt_of_le_of_lt (Nat.le_add_right _ _) hlt;have BZ:vl a/4294967296^m%4294967296<18446744073709551616:=Nat.lt_of_le_of_lt (Nat.le_add_left _ _) hlt;have Rl:((m+1:Nat):Int)-1=(m:Int):=by omega
  simp only[Rl,show decide ((0:Int)<=(m:Int))=true by simp,cond_true,Option.bind_some];rw[ec (by rw[bB];omega),Option.bind_some,hg];simp only[Option.bind_some];rw[show(2:Nat)^32=4294967296 from rfl];rw[Nat.mod_eq_of_lt (a:=vl a/4294967296^(m+1)%d*4294967296) Pn,Nat.mod_eq_of_lt (a:=vl a/4294967296^m%4294967296) (b:=18446744073709551616) BZ,D9 hy,Nat.mod_eq_of_lt (a:=vl a/4294967296^(m+1)%d*4294967296+vl a/4294967296^m%4294967296) hlt,zM (by omega) hlt,vu (by omega)];simp only[Option.bind_some];rw[Nat.mod_eq_of_lt (b:=4294967296) (a:=(vl a/4294967296^(m+1)%d*4294967296+vl a/4294967296^m%4294967296)/d) hqd,jt (by rw[bB];omega),Option.bind_some,eV (by omega) (by omega)];rw[J6 (B:=4294967296) (by decide) hd hml,<-Vm (B:=4294967296) (d:=d) (vl a) m]
 simp only;rw[lO (by rw[bB]),Option.bind_some]
theorem shiftLeft_eq(a:List Nat)(s:Nat)(ha:zT a)(hs:s<32):dS a s=some (ee 4294967296 (a.length+1) (vl a*2^s)):=by
 obtain⟨hA,hla⟩:=ha;have hf:2^s<4294967296:=by
  have:2^s<2^32:=Nat.pow_lt_pow_right (by decide) hs;omega
 unfold dS;simp only[Option.bind_some];rw[cM (by omega),CX (by decide) (by omega),Option.bind_some];refine b9 (λi=>((i:Int),sC 4294967296 (vl a) (2^s) 0 i,ee 4294967296 i (vl a*2^s+0))) a.length (sC 4294967296 (vl a) (2^s) 0 a.length,ee 4294967296 a.length (vl a*2^s+0)) (by simp[D5,ee]) (λi hi=>?_) (by simp) ?_
 ·have hx:vl a/4294967296^i%4294967296<4294967296:=Nat.mod_lt _ (by decide);have hc:=Mn (B:=4294967296) (by decide) (V:=vl a) hf (show(0:Nat)<4294967296 by decide) i;have hxf:vl a/4294967296^i%4294967296*2^s<=4294967295*4294967295:=Nat.mul_le_mul (by omega) (by omega);have hg:a[i]? =some (vl a/4294967296^i%4294967296):=kV hA hi;simp only[show decide ((i:Int)<(a.length:Int))=true by simp;omega,cond_true];rw[bt hg];simp only[Option.bind_some];rw[show min s 64=s by omega,Nat.mod_eq_of_lt (a:=vl a/4294967296^i%4294967296) (b:=18446744073709551616) (by omega),Nat.mod_eq_of_lt (b:=18446744073709551616) (by omega),eW _ _ (by omega)];simp only[Option.bind_some];rw[Bx (by decide) (by rw[bB];omega),Option.bind_some,D7 (B:=4294967296) (by decide),HT (B:=4294967296) (by decide),cM (by omega),<-kz]
 have hc:=Mn (B:=4294967296) (by decide) (V:=vl a) hf (show(0:Nat)<4294967296 by decide) a.length;simp only;rw[eW _ _ (by omega)];simp only[Option.bind_some];rw[Bx (by decide) (by rw[bB];omega),Option.bind_some,Nat.zero_add,OM (fS a hA),<-kz];simp
theorem xE(a:List Nat)(s:Nat):fK a s=dS a s:=rfl
def qo:M5:=[0,1,2,2,3,3,3,3,4,4,4,4,4,4,4,4,5,5,5,5,5,5,5,5,5,5,5,5,5,5,5,5]++List.replicate 32 6++List.replicate 64 7++List.replicate 128 8
theorem OP:∀y:Nat,y<256->oU qo (y:Int)=some ((oU qo (y:Int)).getD 0)/\(oU qo (y:Int)).getD 0<=8/\y<2^(oU qo (y:Int)).getD 0/\(y=0\/2^(oU qo (y:Int)).getD 0<=2*y):=by decide+kernel
set_option maxRecDepth 20000 in
theorem HX(x:Nat)(h:x<4294967296):∃n:Nat,eK x=some (n:Int)/\n<=32/\x<2^n/\(x=0\/2^n<=2*x):=by
 have key:∀(y k:Nat),y<256->y=x/2^k->k<=24->(x≠0->y≠0)->∃n:Nat,(((oU qo ((y%256:Nat):Int)).bind λjI=>(some (IntKind.i64.wrap (jI:Int))).bind λgV=>(some (IntKind.i64.wrap ((k:Int)+gV))).bind λfJ=>some fJ)=some (n:Int))/\n<=32/\x<2^n/\(x=0\/2^n<=2*x):=by
  intro y k hy hyx hk hnz;obtain⟨h1,h2,h3,h4⟩:=OP y hy;rw[Nat.mod_eq_of_lt hy,h1];generalize (oU qo (y:Int)).getD 0=t at*;have hp:0<2^k:=Nat.two_pow_pos _;have e1:2^(k+t)=2^k*2^t:=Nat.pow_add ..;have e2:=Nat.div_add_mod x (2^k);have e3:=Nat.mod_lt x hp;rw[<-hyx]at e2;refine⟨k+t,?_,by omega,?_,?_⟩
  ·simp only[Option.bind_some];rw[mL (by omega),oD (by omega)]
  ·rw[e1];have:2^k*(y+1)<=2^k*2^t:=Nat.mul_le_mul_left _ h3;rw[Nat.mul_add]at this;omega
  rcases h4 with h4|h4
  ·left;cases Nat.eq_zero_or_pos x with
   |inl h=>exact h
   |inr h=>exact absurd h4 (hnz (by omega))
  right;rw[e1];have:2^k*2^t<=2^k*(2*y):=Nat.mul_le_mul_left _ h4;rw[show 2^k*(2*y)=2*(2^k*y) by rw[Nat.mul_left_comm]]at this;omega
 unfold eK;simp only[di,Option.bind_some];by_cases c1:65536<=x
 ·rw[show decide (65536<=x)=true by simpa using c1];simp only[cond_true];by_cases c2:256<=x/2^16
  ·rw[show decide (256<=x/2^16)=true by simpa using c2];simp only[cond_true];rw[show IntKind.i64.wrap (16+8)=((24:Nat):Int) by decide];exact key (x/2^16/2^8) 24 (by omega) (by omega) (by omega) (by omega)
  rw[show decide (256<=x/2^16)=false by simpa using c2];simp only[cond_false];exact key (x/2^16) 16 (by omega) Y (by omega) (by omega)
 rw[show decide (65536<=x)=false by simpa using c1];simp only[cond_false];by_cases c2:256<=x
 ·rw[show decide (256<=x)=true by simpa using c2];simp only[cond_true];rw[show IntKind.i64.wrap (0+8)=((8:Nat):Int) by decide];exact key (x/2^8) 8 (by omega) Y (by omega) (by omega)
 rw[show decide (256<=x)=false by simpa using c2];simp only[cond_false];exact key x 0 (by omega) (by simp) (by omega) (λh=>h)
theorem Vp(x:Nat)(h:x<4294967296)(h0:x≠0):∃s:Nat,cK x=some (s:Int)/\s<32/\2147483648<=x*2^s/\x*2^s<4294967296:=by
 obtain⟨n,h1,h2,h3,h4⟩:=HX x h;have h4:2^n<=2*x:=h4.resolve_left h0;have hn:n≠0:=by rintro rfl;simp at h3;omega
 refine⟨32-n,?_,by omega,?_,?_⟩
 ·unfold cK;rw[h1];simp only[Option.bind_some];rw[eV (by omega) (by omega)];congr 1;omega
 ·have:2^n*2^(32-n)<=2*x*2^(32-n):=Nat.mul_le_mul_right _ h4;rw[<-Nat.pow_add,show n+(32-n)=32 by omega,Nat.mul_assoc]at this;omega
 have:x*2^(32-n)<2^n*2^(32-n):=Nat.mul_lt_mul_of_pos_right h3 (Nat.two_pow_pos _);rw[<-Nat.pow_add,show n+(32-n)=32 by omega]at this;omega
end
end Go.Proofs.Ytmiflmkdaeianaa
namespace Go.Fw
section
section Vq
variable {B V U W:Nat}
theorem OQ{P F T:Nat}(hP:0<P)(hF:0<F)(hV:F*P<=V)(hU:U<(T+1)*P):U/V<=T/F:=by
 have OR:0<V:=Nat.lt_of_lt_of_le (Nat.mul_pos hF hP) hV;rw[Nat.le_div_iff_mul_le hF];rcases Nat.lt_or_ge T (U/V*F)with h|h
 ·exfalso;have h1:U/V*V<=U:=Nat.div_mul_le_self U V;have h2:U/V*(F*P)<=U/V*V:=Nat.mul_le_mul_left _ hV;have h3:(T+1)*P<=U/V*F*P:=Nat.mul_le_mul_right _ h;rw[Nat.mul_assoc]at h3;omega
 exact h
theorem Ka{P F S T u g r:Nat}(hV:(F*B+S)*P<=V)(hU:U<(T*B+u+1)*P)(P4:g*F+r=T)(h:r*B+u<g*S):U<g*V:=by
 have h1:g*((F*B+S)*P)<=g*V:=Nat.mul_le_mul_left _ hV;have h2:(T*B+u+1)*P<=g*(F*B+S)*P:=by
  apply Nat.mul_le_mul_right;rw[Nat.mul_add,<-Nat.mul_assoc,<-P4,Nat.add_mul];omega
 rw[Nat.mul_assoc]at h2;omega
theorem OS{P V2 U2 g:Nat}(hV:V<(V2+1)*P)(hU:U2*P<=U)(hq:U/V<B)(hB:B<=V2)(OR:0<V)(h:g*V2<=U2):g<=U/V+1:=by
 rcases Nat.lt_or_ge (U/V+1) g with h'|h'
 ·exfalso;have h1:U<(U/V+1)*V:=by have:=Nat.lt_div_mul_add (a:=U) OR;rw[Nat.add_mul,Nat.one_mul];exact this
  have h2:(U/V+1)*V<=(U/V+1)*((V2+1)*P):=Nat.mul_le_mul_left _ (Nat.le_of_lt hV);have h3:g*V2*P<=U2*P:=Nat.mul_le_mul_right _ h;have h4:(U/V+2)*V2<=g*V2:=Nat.mul_le_mul_right _ h';have h5:(U/V+2)*V2*P<=g*V2*P:=Nat.mul_le_mul_right _ h4;have h6:(U/V+1)*((V2+1)*P)<=(U/V+2)*V2*P:=by
   rw[<-Nat.mul_assoc];apply Nat.mul_le_mul_right;rw[Nat.mul_add,Nat.add_mul (U/V) 2 V2,Nat.add_mul (U/V) 1 V2];omega
  omega
 exact h'
end Vq
def mix(B o i X U A:Nat):Nat:=A%B^o+B^o*(X%B^i+B^i*(U/B^i))
theorem Ea(B o i X U A:Nat):mix B o i X U A%B^o=A%B^o:=by rw[mix,Nat.add_mul_mod_self_left,Nat.mod_mod]
section mix
variable {B:Nat}(hB:0<B)(o i X U A:Nat)
include hB
theorem rR:mix B o i X U A/B^o=X%B^i+B^i*(U/B^i):=by
 rw[mix,Nat.add_mul_div_left _ _ (Nat.pow_pos hB),Nat.div_eq_of_lt (Nat.mod_lt _ (Nat.pow_pos hB)),Nat.zero_add]
theorem rS:mix B o i X U A/B^(o+i)=U/B^i:=by
 rw[Nat.pow_add,<-Nat.div_div_eq_div_mul,rR hB,Nat.add_mul_div_left _ _ (Nat.pow_pos hB),Nat.div_eq_of_lt (Nat.mod_lt _ (Nat.pow_pos hB)),Nat.zero_add]
theorem Kb:mix B o i X U A%B^(o+i)=A%B^o+B^o*(X%B^i):=by
 rw[Nat.pow_add,Nat.mod_mul,Ea,rR hB,Nat.add_mul_mod_self_left,Nat.mod_mod]
theorem zU{N:Nat}(h:o+i<N):(ee B N (mix B o i X U A)).set (o+i) (X/B^i%B)=ee B N (mix B o (i+1) X U A):=by
 apply oF hB h (Nat.mod_lt _ hB)
 ·rw[Kb hB,Nat.pow_add,Nat.mod_mul,Ea,rR hB,Nat.pow_succ B i,Nat.mul_assoc,Nat.add_mul_mod_self_left,Nat.mod_mul,Nat.add_mul_mod_self_left,Nat.mod_mod]
 ·rw[Nat.pow_add,<-Nat.div_div_eq_div_mul,rR hB,Nat.pow_succ B i,Nat.mod_mul,Nat.mul_assoc,Nat.add_assoc,<-Nat.mul_add,Nat.add_mul_div_left _ _ (Nat.pow_pos hB),Nat.div_eq_of_lt (Nat.mod_lt _ (Nat.pow_pos hB)),Nat.zero_add,Nat.add_mul_mod_self_left,Nat.mod_mod]
 have h1:=rS hB o (i+1) X U A;have h2:=rS hB o i X U A;rw[show o+i+1=o+(i+1) by omega,h1,show o+(i+1)=(o+i)+1 by omega,Nat.pow_succ B (o+i),<-Nat.div_div_eq_div_mul,h2,Nat.pow_succ,<-Nat.div_div_eq_div_mul]
end mix
theorem BI{B o m X U A:Nat}(hU:U<B^m):mix B o m X U A=A%B^o+B^o*(X%B^m):=by rw[mix,Nat.div_eq_of_lt hU];simp
theorem BJ{B:Nat}(o X A:Nat):mix B o 0 X (A/B^o) A=A:=by
 simp only[mix,Nat.pow_zero,Nat.mod_one,Nat.zero_add,Nat.one_mul,Nat.div_one];exact Nat.mod_add_div A (B^o)
theorem Fb{B U U' T i:Nat}(h:U%B^i=U'%B^i):uQ B U T i=uQ B U' T i:=by rw[uQ,uQ,h]
theorem HY{B:Nat}(hB:0<B){U T m i:Nat}(hi:i<m)(hT:T<=U+B^m):(U/B^i%B+(B-1-T/B^i%B)+uQ B U T i)%B=(U+B^m-T)/B^i%B:=by
 have e:B^m=B^i*(B*B^(m-i-1)):=by rw[<-Nat.pow_succ',<-Nat.pow_add];congr 1;omega
 have h1:(U+B^m)%B^i=U%B^i:=by rw[e,Nat.add_mul_mod_self_left]
 have h2:(U+B^m)/B^i%B=U/B^i%B:=by rw[e,Nat.add_mul_div_left _ _ (Nat.pow_pos hB),Nat.add_mul_mod_self_left]
 rw[<-h2,Fb (U':=U+B^m) h1.symm,D2 hB hT]
theorem Kc{B m U T:Nat}(hB:0<B)(hU:U<B^m)(hT:T<B^m):uQ B U T m=if U<T then 0 else 1:=by
 rw[uQ,Nat.mod_eq_of_lt hU,Nat.mod_eq_of_lt hT];have hp:0<B^m:=Nat.pow_pos hB;split
 ·exact Nat.div_eq_of_lt (by omega)
 rw[show U+B^m-T=(U-T)+B^m by omega,Nat.add_div_right _ hp,Nat.div_eq_of_lt (by omega)]
end
end Go.Fw
namespace Go.Proofs.Ytmiflmkdaeianaa
section
open Go.Fw
theorem jF{N A j:Nat}(h:j<N):(ee 4294967296 N A)[j]? =some (A/4294967296^j%4294967296):=rO N A j h
theorem two32:(2:Nat)^32=4294967296:=rfl
theorem Vr:(2:Nat)^63=9223372036854775808:=rfl
theorem zV(A o j:Nat):A/4294967296^(o+j)=A/4294967296^o/4294967296^j:=by rw[Nat.pow_add,Nat.div_div_eq_div_mul]
theorem BK{N A o n:Nat}{v:List Nat}(hv:zT v)(hn:v.length=n+2)(hN:N<=35184372088809)(ho:o+(n+2)<N)
  (hU:A/4294967296^o<4294967296*vl v) (HZ:2147483648*4294967296^(n+1)<=vl v):
  ∃r,fu (ee 4294967296 N A) o (n+3) v=some r/\r.2=ee 4294967296 N A/\A/4294967296^o/vl v<=r.1/\r.1<=A/4294967296^o/vl v+1:=by
 obtain⟨hV,hlv⟩:=hv;obtain⟨U,IA⟩:∃U,A/4294967296^o=U:=⟨_,Y⟩;obtain⟨V,IB⟩:∃V,vl v=V:=⟨_,Y⟩;have uR:V<4294967296^(n+2):=by rw[<-IB,<-hn];exact fS v hV
 have Mp:0<4294967296^(n+1):=Nat.pow_pos (by decide);have hP:0<4294967296^n:=Nat.pow_pos (by decide);have OT:4294967296^(n+1)=4294967296^n*4294967296:=Nat.pow_succ ..;have BL:4294967296^(n+2)=4294967296^(n+1)*4294967296:=Nat.pow_succ ..;rw[IA,IB]at hU⊢;rw[IB]at HZ;have Vs:U<4294967296^(n+1)*4294967296*4294967296:=by
  have:4294967296*V<4294967296*4294967296^(n+2):=Nat.mul_lt_mul_of_pos_left uR (by decide);rw[BL]at this;omega
 obtain⟨F,hF⟩:∃F,V/4294967296^(n+1)=F:=⟨_,Y⟩;obtain⟨S,hS⟩:∃S,V/4294967296^n%4294967296=S:=⟨_,Y⟩;obtain⟨T,hT⟩:∃T,U/4294967296^(n+1)=T:=⟨_,Y⟩;obtain⟨u,hu⟩:∃u,U/4294967296^n%4294967296=u:=⟨_,Y⟩;have abD:F<4294967296:=by rw[<-hF,Nat.div_lt_iff_lt_mul Mp];rw[BL,Nat.mul_comm]at uR;exact uR
 have aeO:2147483648<=F:=by rw[<-hF,Nat.le_div_iff_mul_le Mp];exact HZ
 have aeP:S<4294967296:=by rw[<-hS];exact Nat.mod_lt _ (by decide)
 have Vt:u<4294967296:=by rw[<-hu];exact Nat.mod_lt _ (by decide)
 have abE:T<4294967296*4294967296:=by rw[<-hT,Nat.div_lt_iff_lt_mul Mp];rw[Nat.mul_comm,<-Nat.mul_assoc];exact Vs
 have hV2:V/4294967296^n=F*4294967296+S:=by rw[<-hF,<-hS,OT,<-Nat.div_div_eq_div_mul,Nat.mul_comm,Nat.div_add_mod]
 have hU2:U/4294967296^n=T*4294967296+u:=by rw[<-hT,<-hu,OT,<-Nat.div_div_eq_div_mul,Nat.mul_comm,Nat.div_add_mod]
 have hq:U/V<4294967296:=by rw[Nat.div_lt_iff_lt_mul (by omega)];exact hU
 have Vu:(F*4294967296+S)*4294967296^n<=V:=by rw[<-hV2];exact Nat.div_mul_le_self _ _
 have Vv:V<(F*4294967296+S+1)*4294967296^n:=by rw[<-hV2,Nat.add_mul,Nat.one_mul];exact Nat.lt_div_mul_add hP
 have Vw:(T*4294967296+u)*4294967296^n<=U:=by rw[<-hU2];exact Nat.div_mul_le_self _ _
 have Vx:U<(T*4294967296+u+1)*4294967296^n:=by rw[<-hU2,Nat.add_mul,Nat.one_mul];exact Nat.lt_div_mul_add hP
 have Mq:F*4294967296^(n+1)<=V:=by rw[<-hF];exact Nat.div_mul_le_self _ _
 have Mr:U<(T+1)*4294967296^(n+1):=by rw[<-hT,Nat.add_mul,Nat.one_mul];exact Nat.lt_div_mul_add Mp
 have Ms:V<(F+1)*4294967296^(n+1):=by rw[<-hF,Nat.add_mul,Nat.one_mul];exact Nat.lt_div_mul_add Mp
 have hTF:T<4294967296*(F+1):=by
  rw[<-hT,Nat.div_lt_iff_lt_mul Mp];have:4294967296*V<4294967296*((F+1)*4294967296^(n+1)):=Nat.mul_lt_mul_of_pos_left Ms (by decide);rw[Nat.mul_assoc];omega
 have g1:(ee 4294967296 N A)[o+(n+2)]? =some (U/4294967296^(n+2)%4294967296):=by rw[jF (by omega),zV,IA]
 have g2:(ee 4294967296 N A)[o+(n+1)]? =some (U/4294967296^(n+1)%4294967296):=by rw[jF (by omega),zV,IA]
 have g3:(ee 4294967296 N A)[o+n]? =some u:=by rw[jF (by omega),zV,IA,hu]
 have g4:v[n+1]? =some F:=by rw[kV hV (by omega),show val 4294967296 v=V from IB,hF,Nat.mod_eq_of_lt abD]
 have g5:v[n]? =some S:=by rw[kV hV (by omega),show val 4294967296 v=V from IB,hS]
 have hun:U/4294967296^(n+2)<4294967296:=by rw[BL,<-Nat.div_div_eq_div_mul,hT,Nat.div_lt_iff_lt_mul (by decide)];exact abE
 have C0:U/4294967296^(n+2)%4294967296*4294967296+U/4294967296^(n+1)%4294967296=T:=by
  rw[Nat.mod_eq_of_lt hun,BL,<-Nat.div_div_eq_div_mul,hT,Nat.mul_comm,Nat.div_add_mod]
 obtain⟨t1,Vy⟩:∃t,U/4294967296^(n+2)%4294967296=t:=⟨_,Y⟩;obtain⟨t2,Vz⟩:∃t,U/4294967296^(n+1)%4294967296=t:=⟨_,Y⟩;have l1:t1<4294967296:=by rw[<-Vy];exact Nat.mod_lt _ (by decide)
 have l2:t2<4294967296:=by rw[<-Vz];exact Nat.mod_lt _ (by decide)
 rw[Vy]at g1 C0;rw[Vz]at g2 C0;clear Vy Vz hU2 hV2;have c1:((n+2:Nat):Int)-1=((n+1:Nat):Int):=by omega
 have c2:((n+2:Nat):Int)-2=(n:Int):=by omega
 unfold fu;simp only[Option.bind_some,hn,c1,c2];rw[mL (by omega),mL (by omega),vr (by omega),vr (by omega),vr (by omega)];simp only[Option.bind_some];rw[g1,g2,bt g4,bt g5];simp only[Option.bind_some,two32];rw[Nat.mod_eq_of_lt (a:=t1) (by omega),Nat.mod_eq_of_lt (a:=t2) (by omega),Nat.mod_eq_of_lt (a:=t1*4294967296) (by omega),D9 l2,C0,Nat.mod_eq_of_lt (a:=T) (by omega),Nat.mod_eq_of_lt (a:=F) (by omega),Nat.mod_eq_of_lt (a:=S) (by omega),zM (by omega) (by omega),vu (by omega)];simp only[Option.bind_some];have abH:=OQ (V:=V) (U:=U) Mp (show 0<F by omega) Mq Mr;have hle:∀g,g*(F*4294967296+S)<=T*4294967296+u->g<=U/V+1:=λg h=>OS (B:=4294967296) Vv Vw hq (by omega) (by omega) h;have abI:∀g r,g*F+r=T->r*4294967296+u<g*S->U/V<g:=λg r i1 ht=>(Nat.div_lt_iff_lt_mul (by omega)).2 (Ka Vu Vx i1 ht);have hg0:T/F<=4294967297:=by
  have:T/F<4294967298:=by
   rw[Nat.div_lt_iff_lt_mul (by omega)];omega
  omega
 generalize U/V=q at*;clear Vu Vv Vw Vx Mq Mr Ms hTF Vs HZ uR OT BL hP Mp hF hS hT hu IA IB hU;have hdm:=Nat.div_add_mod T F;have hml:=Nat.mod_lt T (show 0<F by omega);have abJ:T/F*F+T%F=T:=by rw[Nat.mul_comm];exact hdm
 clear hdm;refine jZ (λx=>x.1*F+x.2=T/\q<=x.1/\x.2<4294967296/\x.1<=4294967297) (λe=>q<=e/\e<=q+1) (λx=>x.1) ?_ ⟨abJ,abH,by show T%F<_;omega,hg0⟩ ?_
 ·rintro⟨g,r⟩ ⟨i1,i2,i3,i4⟩;simp only at i1 i2 i3 i4;have down:q<g->(∃s',(bif decide ((r+F)%18446744073709551616/4294967296≠0)then some (.inr (kG 18446744073709551616 g 1))else some (.inl (kG 18446744073709551616 g 1,(r+F)%18446744073709551616)):Option ((Nat×Nat)⊕Nat))=some (.inl s')/\(s'.1*F+s'.2=T/\q<=s'.1/\s'.2<4294967296/\s'.1<=4294967297)/\s'.1<g)\/
    (∃e,(bif decide ((r+F)%18446744073709551616/4294967296≠0)then some (.inr (kG 18446744073709551616 g 1))else some (.inl (kG 18446744073709551616 g 1,(r+F)%18446744073709551616)):Option ((Nat×Nat)⊕Nat))=some (.inr e)/\q<=e/\e<=q+1):=by
   intro hlt;have e1:(g-1)*F+(r+F)=T:=by
    obtain⟨k,rfl⟩:∃k,g=k+1:=⟨g-1,by omega⟩;rw[Nat.add_sub_cancel];rw[Nat.add_mul]at i1;omega
   rw[mM (by omega) (by omega),Nat.mod_eq_of_lt (a:=r+F) (by omega)];by_cases hb:r+F<4294967296
   ·left;refine⟨(g-1,r+F),by simp[Nat.div_eq_of_lt hb],⟨e1,by simp only;omega,hb,by simp only;omega⟩,by simp only;omega⟩
   right;have hne:(r+F)/4294967296≠0:=by omega
   refine⟨g-1,by simp[hne],by omega,?_⟩;refine hle _ ?_;have m1:(g-1)*S<=4294967296*4294967295:=Nat.mul_le_mul (by omega) (by omega);rw[Nat.mul_add,<-Nat.mul_assoc];have m2:((g-1)*F+(r+F))*4294967296=T*4294967296:=by rw[e1]
   rw[Nat.add_mul]at m2;omega
  simp only[di,bZ];by_cases hg:g<4294967296
  ·rw[show decide (g/4294967296≠0)=false by simp;omega];have hgS:g*S<=4294967295*4294967295:=Nat.mul_le_mul (by omega) (by omega);simp only[jb];rw[g3];simp only[bZ];rw[Nat.mod_eq_of_lt (a:=g*S) (by omega),Nat.mod_eq_of_lt (a:=r*4294967296) (by omega),Nat.mod_eq_of_lt (a:=u) (by omega),D9 Vt,Nat.mod_eq_of_lt (a:=r*4294967296+u) (by omega)];by_cases ht:r*4294967296+u<g*S
   ·rw[show decide (r*4294967296+u<g*S)=true by simpa using ht];simp only[bZ,iI];exact down (abI _ _ i1 ht)
   rw[show decide (r*4294967296+u<g*S)=false by simpa using ht];right;refine⟨g,by simp,i2,?_⟩;refine hle _ ?_;rw[Nat.mul_add,<-Nat.mul_assoc,<-i1,Nat.add_mul];omega
  rw[show decide (g/4294967296≠0)=true by simp;omega];simp only[bZ,iI];exact down (by omega)
 rintro e ⟨h2,h3⟩;exact⟨(e,ee 4294967296 N A),by rw[lO Y,Option.bind_some],Y,h2,h3⟩
end
section
open Go.Fw
theorem oQ{N A o n f:Nat}{v:List Nat}(hv:zT v)(hn:v.length=n)(hN:N<=35184372088809)(ho:o+n<N)(hf:f<=4294967296)
  (hU:A/4294967296^o<4294967296^(n+1)):
  cu (ee 4294967296 N A) o (n+1) v f=some (decide (A/4294967296^o<vl v*f),ee 4294967296 N (A%4294967296^o+4294967296^o*((A/4294967296^o+4294967296^(n+1)-vl v*f)%4294967296^(n+1)))):=by
 obtain⟨hV,hlv⟩:=hv;obtain⟨U,IA⟩:∃U,A/4294967296^o=U:=⟨_,Y⟩;obtain⟨V,IB⟩:∃V,vl v=V:=⟨_,Y⟩;have uR:V<4294967296^n:=by rw[<-IB,<-hn];exact fS v hV
 have FW:4294967296^(n+1)=4294967296^n*4294967296:=Nat.pow_succ ..;have hT:V*f<4294967296^(n+1):=by
  rw[FW]
  calc V*f<=V*4294967296:=Nat.mul_le_mul_left _ hf
   _<4294967296^n*4294967296:=Nat.mul_lt_mul_of_pos_right uR (by decide)
 rw[IA]at hU⊢;rw[IB];obtain⟨X,hX⟩:∃X,U+4294967296^(n+1)-V*f=X:=⟨_,Y⟩;rw[hX];unfold cu;simp only[bZ];have OU:∀i,uQ 4294967296 U (V*f) i<=1:=λi=>HS (by decide) _ _ _;refine b9 (λi=>(1-uQ 4294967296 U (V*f) i,(i:Int),sC 4294967296 V f 0 i,ee 4294967296 N (mix 4294967296 o i X U A))) (n+1) (1-uQ 4294967296 U (V*f) (n+1),ee 4294967296 N (mix 4294967296 o (n+1) X U A)) ?_ (λi hi=>?_) ?_ ?_
 ·rw[BD,D5,<-IA,BJ];rfl
 ·
  obtain⟨t,ht⟩:∃t,V*f/4294967296^i%4294967296=t:=⟨_,Y⟩;obtain⟨c,hc⟩:∃c,sC 4294967296 V f 0 i=c:=⟨_,Y⟩;obtain⟨p,hp⟩:∃p,V/4294967296^i%4294967296*f=p:=⟨_,Y⟩;have aeS:c<4294967296:=by
   rw[<-hc,sC,sT,Nat.add_zero,Nat.div_lt_iff_lt_mul (Nat.pow_pos (by decide))]
   calc V%4294967296^i*f<=V%4294967296^i*4294967296:=Nat.mul_le_mul_left _ hf
    _<4294967296*4294967296^i:=by rw[Nat.mul_comm];exact Nat.mul_lt_mul_of_pos_left (Nat.mod_lt _ (Nat.pow_pos (by decide))) (by decide)
  have aeT:p<=4294967295*4294967296:=by
   rw[<-hp];exact Nat.mul_le_mul (by have:=Nat.mod_lt (V/4294967296^i) (show 0<4294967296 by decide);omega) hf
  have OJ:(p+c)%4294967296=t:=by rw[<-hp,<-hc,HT (B:=4294967296) (by decide),Nat.add_zero,ht]
  have hstep:(p+c)/4294967296=sC 4294967296 V f 0 (i+1):=by rw[<-hp,<-hc,D7 (B:=4294967296) (by decide)]
  have aeU:t<4294967296:=by rw[<-ht];exact Nat.mod_lt _ (by decide)
  obtain⟨u,hu⟩:∃u,U/4294967296^i%4294967296=u:=⟨_,Y⟩;have Vt:u<4294967296:=by rw[<-hu];exact Nat.mod_lt _ (by decide)
  have hg:(ee 4294967296 N (mix 4294967296 o i X U A))[o+i]? =some u:=by rw[jF (by omega),rS (by decide),hu]
  have hl:=OU i;obtain⟨l,hle⟩:∃l,uQ 4294967296 U (V*f) i=l:=⟨_,Y⟩;have hxd:(u+(4294967296-1-t)+l)%4294967296=X/4294967296^i%4294967296:=by rw[<-hu,<-ht,<-hle,HY (B:=4294967296) (by decide) hi (by omega),hX]
  have hls:(u+(4294967296-1-t)+l)/4294967296=uQ 4294967296 U (V*f) (i+1):=by rw[<-hu,<-ht,<-hle,BE (B:=4294967296) (by decide)]
  rw[hle]at hl;have hput:=zU (B:=4294967296) (by decide) o i X U A (N:=N) (by omega);rw[hle,hc,<-hls];simp only[show decide ((i:Int)<((n+1:Nat):Int))=true by simp;omega,iI,bZ,di];rw[vr (by omega)];simp only[bZ,hg];have way:∀k:Nat->Option ((Nat×Int×Nat×List Nat)⊕(Nat×List Nat)),(bif decide ((i:Int)<(v.length:Int))then(cq v (i:Int)).bind λfe=>k (fe%18446744073709551616*f%18446744073709551616)else k 0)=k p:=by
   intro k;by_cases hin:i<v.length
   ·rw[show decide ((i:Int)<(v.length:Int))=true by simp;omega,iI];have xH:v[i]? =some (V/4294967296^i%4294967296):=by rw[<-IB];exact kV hV hin
    rw[bt xH,bZ,Nat.mod_eq_of_lt (a:=V/4294967296^i%4294967296) (b:=18446744073709551616) (by have:=Nat.mod_lt (V/4294967296^i) (show 0<4294967296 by decide);omega),hp,Nat.mod_eq_of_lt (a:=p) (by omega)]
   rw[show decide ((i:Int)<(v.length:Int))=false by simp;omega,jb];have:V/4294967296^i=0:=Nat.div_eq_of_lt (Nat.lt_of_lt_of_le uR (Nat.pow_le_pow_right (by decide) (by omega)));rw[<-hp,this];simp
  refine(way (λy=>(bA y c).bind _)).trans ?_;rw[eW _ _ (by omega)];simp only[bZ];rw[OJ,hstep,Nat.mod_eq_of_lt (a:=u) (by omega),Nat.mod_eq_of_lt (a:=t) (by omega)];rw[jt (by rw[bB];omega),bZ,cM (by omega),Vr];by_cases MS:u<t+(1-l)
  ·have e1:kG 18446744073709551616 (kG 18446744073709551616 u t) (1-l)=18446744073709551616+u-t-(1-l):=by
    by_cases h1:u<t
    ·rw[vq h1 (by omega),mM (by omega) (by omega)]
    rw[mM (a:=u) (b:=t) (by omega) (by omega),vq (by omega) (by omega)];omega
   rw[e1];have e2:(18446744073709551616+u-t-(1-l))%4294967296=X/4294967296^i%4294967296:=by rw[<-hxd];omega
   have e3:(18446744073709551616+u-t-(1-l))/9223372036854775808=1-(u+(4294967296-1-t)+l)/4294967296:=by omega
   rw[e2,e3,hput]
  have e1:kG 18446744073709551616 (kG 18446744073709551616 u t) (1-l)=u-t-(1-l):=by
   rw[mM (a:=u) (b:=t) (by omega) (by omega),mM (by omega) (by omega)]
  rw[e1];have e2:(u-t-(1-l))%4294967296=X/4294967296^i%4294967296:=by rw[<-hxd];omega
  have e3:(u-t-(1-l))/9223372036854775808=1-(u+(4294967296-1-t)+l)/4294967296:=by omega
  rw[e2,e3,hput]
 ·simp
 simp only[bZ];rw[lO (by rw[bB,bB]),bZ,BI hU,Kc (by decide) hU hT];congr 2;by_cases h:U<V*f<;>simp[h]
end
end Go.Proofs.Ytmiflmkdaeianaa
