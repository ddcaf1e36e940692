/- A part of the proof: the framework, the plain functions, the followed functions, the plain laws. -/
import Derived.Test.YtmiflmkdaeianaaPSC2
set_option linter.unusedVariables false
set_option linter.unusedSimpArgs false
set_option linter.unusedSectionVars false
namespace Go.Fw
section
open Go.RowKit
def gQ:List (Nat×Row×Value)->(Nat->Value)->Nat->Value
 |[],ν,j=>ν j
 |(k,_,v)::l,ν,j=>if j=k then v else gQ l ν j
theorem jh{ν:Nat->Value}:∀{l:List (Nat×Row×Value)} {j:Nat},(∀R v,(j,R,v)∉l)->gQ l ν j=ν j
 |[],_,_=>rfl
 |(k,R,v)::l,j,h=>by
  have:j≠k:=λe=>h R v (by rw[e];simp);rw[gQ,if_neg this];exact jh (λR v hm=>h R v (List.mem_cons_of_mem _ hm))
theorem fF{ν:Nat->Value}:∀{l:List (Nat×Row×Value)} {j:Nat} {R:Row} {v:Value},(l.map (·.1)).Nodup->(j,R,v)∈l->gQ l ν j=v
 |(k,R',v')::l,j,R,v,hn,h=>by
  rw[List.map_cons,List.nodup_cons]at hn;rcases List.mem_cons.1 h with e|e
  ·cases e;rw[gQ,if_pos rfl]
  have:j≠k:=λq=>hn.1 (List.mem_map.2 ⟨(j,R,v),e,q⟩);rw[gQ,if_neg this];exact fF hn.2 e
def qh(olds:List Nat)(news:List (Nat×Row×Value)):List (Nat×hG):=olds.map (λj=>(j,.dead))++news.map (λn=>(n.1,.live n.2.1))
theorem lQ:∀(l k:List (Nat×hG)) (j:Nat),cJ (l++k) j=match cJ k j with|some R=>some R|none=>cJ l j
 |[],k,j=>by cases h:cJ k j<;>simp[h,cJ]
 |(i,R)::l,k,j=>by
  rw[List.cons_append,cJ,cJ,lQ l k j];cases h:cJ k j<;>simp
theorem oS{l:List (Nat×hG)}{j:Nat}(h:∀R,(j,R)∉l):cJ l j=none:=by
 induction l with
 |nil=>rfl
 |cons p l ih=>
  obtain⟨i,R⟩:=p;rw[cJ,ih (λR hm=>h R (List.mem_cons_of_mem _ hm))];have:j≠i:=λe=>h R (by rw[e];simp);simp[this]
theorem oT{l:List (Nat×hG)}{j:Nat}{R:hG}(h:cJ l j=some R):(j,R)∈l:=by
 induction l with
 |nil=>cases h
 |cons p l ih=>
  obtain⟨i,R'⟩:=p;rw[cJ]at h;cases e:cJ l j with
  |some R2=>rw[e]at h;cases h;exact List.mem_cons_of_mem _ (ih e)
  |none=>
   rw[e]at h;by_cases q:j=i
   ·subst q;simp at h;subst h;simp
   simp[q]at h
theorem vf{l:List (Nat×hG)}{j:Nat}{R:hG}(h:(j,R)∈l):∃R',cJ l j=some R':=by
 induction l with
 |nil=>cases h
 |cons p l ih=>
  obtain⟨i,R'⟩:=p;rw[cJ];rcases List.mem_cons.1 h with e|e
  ·cases e;cases q:cJ l j with
   |some R2=>exact⟨R2,Y⟩
   |none=>exact⟨R,by simp⟩
  obtain⟨R2,h2⟩:=ih e;exact⟨R2,by rw[h2]⟩
section swap
variable {C:Ctx}{S:AS}
theorem aZ.PB{E:Env}{a:Act}{w w':World}(h:aZ C S E a w){i:Nat}{T:TypeId}{cells cells':List AV}{us':List Value}{M':Mem}(hB:S.b i=some ⟨T,cells⟩)(olds:List Nat)(news:List (Nat×Row×Value))
  (hold:∀j∈olds,∃R,S.r j=.live R) (hnew:∀k R v,(k,R,v)∈news->S.r k=.un/\k<1000) (hnd:(news.map (·.1)).Nodup)
  (hM:E.M.le M') (hmn:∀b o x,M' b o=some x->E.M b o=some x\/w.heap.size<=b\/∃j∈olds,(E.ν j).ownBlock=some b) (hin:M'.cy w')
  (Yo:w'.heap[E.β i]? =some (.cells ⟨us'⟩ T (0,0))) (hnb:∀o,M' (E.β i) o=none) (ow:cn {E with M:=M',ν:=gQ news E.ν} cells' us')
  (hcb:∀x∈cells',(∀j,¬x.mb j)/\∀j,x.mr j->∃R v,(j,R,v)∈news)
  (hrow:∀k R v,(k,R,v)∈news->(∃vs:List Value,w'.ownsRow 0 R.E R.sz v R.n vs/\SV.da M' R.cells vs)/\∀g,v.ownBlock=some g->((∃j∈olds,(E.ν j).ownBlock=some g)\/w.heap.size<=g)/\(∀o,M' g o=none)/\g≠E.β i)
  (PC:∀k R v k' R' v' g,(k,R,v)∈news->(k',R',v')∈news->v.ownBlock=some g->v'.ownBlock=some g->k=k')
  (hos:w'.os=w.os) (kV:w'.tape=w.tape) (hout:w'.output=w.output) (hsize:w.heap.size<=w'.heap.size)
  (hH:∀k,k<w.heap.size->k≠E.β i->(∀j∈olds,(E.ν j).ownBlock≠some k)->w'.heap[k]? =w.heap[k]?):
  aZ C (AS.bC (qh olds news) (AS.dJ [(i,⟨T,cells'⟩)] S)) {E with M:=M',ν:=gQ news E.ν} a w':=by
 obtain⟨DJ,Yp,H9,GU,DK,_⟩:=h.bx i _ hB;have aan:E.β i<w.heap.size:=(Array.getElem?_eq_some_iff.1 DK).1;obtain⟨n1,n2,n3,n4,n5⟩:=dy (qh olds news) (AS.dJ [(i,⟨T,cells'⟩)] S);have Yq:(AS.bC (qh olds news) (AS.dJ [(i,⟨T,cells'⟩)] S)).t=S.t:=n2;have wM:∀j,(AS.bC (qh olds news) (AS.dJ [(i,⟨T,cells'⟩)] S)).b j=if j=i then some ⟨T,cells'⟩else S.b j:=λj=>by
  rw[n3];by_cases e:j=i
  ·subst e;rw[if_pos rfl];exact AS.cc _ _ _
  rw[if_neg e];exact AS.bA _ _ _ _ e
 have PD:∀k R v,(k,R,v)∈news->cJ (news.map (λn=>(n.1,hG.live n.2.1))) k=some (.live R):=λk R v hm=>by
  obtain⟨R',jU⟩:=vf (l:=news.map (λn=>(n.1,hG.live n.2.1))) (j:=k) (R:=.live R) (List.mem_map.2 ⟨(k,R,v),hm,Y⟩);obtain⟨⟨k2,R2,v2⟩,Ee,e⟩:=List.mem_map.1 (oT jU);have e1:k2=k:=congrArg Prod.fst e;have e2:hG.live R2=R':=congrArg Prod.snd e;rw[e1]at Ee;have:R2=R:=by
   have key:∀(l:List (Nat×Row×Value)),(l.map (·.1)).Nodup->(k,R2,v2)∈l->(k,R,v)∈l->R2=R:=by
    intro l
    induction l with
    |nil=>intro _ h;cases h
    |cons p l ih=>
     intro hn h1 h2;rw[List.map_cons,List.nodup_cons]at hn;rcases List.mem_cons.1 h1 with e1|e1<;>rcases List.mem_cons.1 h2 with e2|e2
     ·rw[<-e1]at e2;cases e2;rfl
     ·exact absurd (List.mem_map.2 ⟨_,e2,by rw[<-e1]⟩) hn.1
     ·exact absurd (List.mem_map.2 ⟨_,e1,by rw[<-e2]⟩) hn.1
     exact ih hn.2 e1 e2
   exact key news hnd Ee hm
  rw[jU,<-e2,this]
 have PE:∀k R v,(k,R,v)∈news->(AS.bC (qh olds news) (AS.dJ [(i,⟨T,cells'⟩)] S)).r k=.live R:=λk R v hm=>by
  rw[gH,qh,lQ,PD k R v hm];rfl
 have PF:∀j,(∀R v,(j,R,v)∉news)->(AS.bC (qh olds news) (AS.dJ [(i,⟨T,cells'⟩)] S)).r j=if j∈olds then .dead else S.r j:=λj hn=>by
  have e1:cJ (news.map (λn=>(n.1,hG.live n.2.1))) j=none:=oS (λR hm=>by
   obtain⟨⟨k2,R2,v2⟩,Ee,e⟩:=List.mem_map.1 hm;cases e;exact hn R2 v2 Ee)
  rw[gH,qh,lQ,e1];by_cases ho:j∈olds
  ·rw[if_pos ho];obtain⟨R',jU⟩:=vf (l:=olds.map (λj=>(j,hG.dead))) (j:=j) (R:=.dead) (List.mem_map.2 ⟨j,ho,Y⟩);obtain⟨j2,_,e⟩:=List.mem_map.1 (oT jU);cases e;rw[jU];rfl
  rw[if_neg ho,oS (λR hm=>by obtain⟨j2,Ee,e⟩:=List.mem_map.1 hm;cases e;exact ho Ee)];rfl
 have FG:∀j,S.r j≠ .un->∀R v,(j,R,v)∉news:=λj hj R v hm=>hj (hnew j R v hm).1;have rne:∀j,S.r j≠ .un->(AS.bC (qh olds news) (AS.dJ [(i,⟨T,cells'⟩)] S)).r j≠ .un:=λj hj=>by
  rw[PF j (FG j hj)];split
  ·simp
  exact hj
 have rI:∀j∈olds,∀g,(E.ν j).ownBlock=some g->(C.w0.heap.size<=g\/C.nu g)/\(∀o,E.M g o=none)/\¬E.O g/\(∀n B,S.b n=some B->E.β n≠g)/\g<w.heap.size/\∃c e,w.heap[g]? =some (Obj.cells c e (0,0)):=λj hj g hg=>by
  obtain⟨R,hR⟩:=hold j hj;obtain⟨⟨us,q1,_⟩,q2⟩:=h.rx j R hR;obtain⟨q3,q4,q5,q6⟩:=q2 g hg;refine⟨q3,q4,q5,q6,fT h hR hg,?_⟩;rcases q1.2 with⟨q7,_⟩|⟨g',cap,cur,q7,_,q8,_⟩
  ·rw[q7]at hg;cases hg
  rw[q7]at hg;cases hg;exact⟨_,_,q8⟩
 have keep:∀x:AV,(∀j,x.mr j->S.r j≠ .un)->∀v,x.holds E v->x.holds {E with M:=M',ν:=gQ news E.ν} v:=λx hx v hv=>
  AV.bT (E:=E) (E':={E with M:=M',ν:=gQ news E.ν}) hM (λ_ _=>rfl) (λj hj=>jh (FG j (hx j hj))) hv
 have MD:∀b,b<w.heap.size->(∀o,E.M b o=none)->(∀j∈olds,(E.ν j).ownBlock≠some b)->∀o,M' b o=none:=λb h1 h2 h3 o=>by
  cases e:M' b o with
  |none=>rfl
  |some v=>
   rcases hmn b o v e with q|q|⟨j,q1,q2⟩
   ·rw[h2 o]at q;cases q
   ·omega
   exact absurd q2 (h3 j q1)
 have live:∀j R,(AS.bC (qh olds news) (AS.dJ [(i,⟨T,cells'⟩)] S)).r j=.live R->(∃v,(j,R,v)∈news)\/((∀R v,(j,R,v)∉news)/\j∉olds/\S.r j=.live R):=λj R hj=>by
  by_cases hn:∃R v,(j,R,v)∈news
  ·obtain⟨R',v,hm⟩:=hn;rw[PE j R' v hm]at hj;cases hj;exact .inl ⟨v,hm⟩
  have hn:∀R v,(j,R,v)∉news:=λR v hm=>hn ⟨R,v,hm⟩;rw[PF j hn]at hj;by_cases ho:j∈olds
  ·rw[if_pos ho]at hj;cases hj
  rw[if_neg ho]at hj;exact .inr ⟨hn,ho,hj⟩
 have PG:∀j R,S.r j=.live R->j∉olds->∀g,(E.ν j).ownBlock=some g->∀j'∈olds,(E.ν j').ownBlock≠some g:=λj R hR ho g hg j' hj' e=>by
  obtain⟨R',jU⟩:=hold j' hj';have:=h.dI j j' R R' hR jU g hg e;subst this;exact ho hj'
 exact{
  wf:=by
   refine⟨λs j hj=>?_,λs j hj=>?_,λj B dK x hx m hm=>?_,λj B dK x hx m hm=>?_⟩
   ·rw[Yq]at hj;obtain⟨B,dK⟩:=h.wf.tb s j hj;rw[wM];by_cases e:j=i
    ·exact⟨_,if_pos e⟩
    exact⟨B,by rw[if_neg e];exact dK⟩
   ·rw[Yq]at hj;exact rne j (h.wf.tr s j hj)
   ·rw[wM]at dK⊢;by_cases e:j=i
    ·rw[if_pos e]at dK;cases dK;exact absurd hm ((hcb x hx).1 m)
    rw[if_neg e]at dK;obtain⟨B2,hB2⟩:=h.wf.bb j B dK x hx m hm;by_cases e2:m=i
    ·exact⟨_,if_pos e2⟩
    exact⟨B2,by rw[if_neg e2];exact hB2⟩
   rw[wM]at dK;by_cases e:j=i
   ·rw[if_pos e]at dK;cases dK;obtain⟨R,v,Ee⟩:=(hcb x hx).2 m hm;rw[PE m R v Ee];simp
   rw[if_neg e]at dK;exact rne m (h.wf.br j B dK x hx m hm)
  marks:=by
   obtain⟨ds,d1,d2,d3⟩:=h.marks;refine⟨ds,d1,d2,λr hr=>?_⟩;obtain⟨p1,p2,p3⟩:=d3 r hr;refine⟨p1,p2,?_⟩;rw[hH r (Array.getElem?_eq_some_iff.1 p3).1 (λe=>by rw[e,DK]at p3;cases p3) (λj hj e=>by
    obtain⟨_,_,_,_,_,c,e2,q⟩:=rI j hj r e;rw[q]at p3;cases p3)]
   exact p3
  size:=by rw[n1];exact h.size
  os:=hos.trans h.os
  tape:=kV.trans h.tape
  output:=hout.trans h.output
  grown:=Nat.le_trans h.grown hsize
  frame:=λk hk hown=>by
   rw[hH k (Nat.lt_of_lt_of_le hk h.grown) (λe=>by
    rcases DJ with q|q
    ·omega
    ·exact hown (C.vP _ (by rw[e];exact q))) (λj hj e=>by
    rcases(rI j hj k e).1 with q|q
    ·omega
    exact hown (C.vP _ q))]
   exact h.frame k hk hown
  m0:=Mem.le_trans h.m0 hM
  dh:=λb o v e=>by
   rcases hmn b o v e with q|q|⟨j,q1,q2⟩
   ·exact h.dh b o v q
   ·exact .inr (.inl (Nat.le_trans h.grown q))
   rcases(rI j q1 b q2).1 with q|q
   ·exact .inr (.inl q)
   exact .inr (.inr (C.vP _ q))
  cy:=hin
  tm:=λs=>by rw[Yq];exact keep _ (h.wf.tr s) _ (h.tm s)
  bx:=λj B dK=>by
   rw[wM]at dK;by_cases e:j=i
   ·rw[if_pos e]at dK;cases dK;subst e;exact⟨DJ,hnb,H9,us',Yo,ow⟩
   rw[if_neg e]at dK;obtain⟨p1,p2,p3,vs,p4,p5⟩:=h.bx j B dK;have hlt:=(Array.getElem?_eq_some_iff.1 p4).1;have hno:∀j'∈olds,(E.ν j').ownBlock≠some (E.β j):=λj' hj' q=>(rI j' hj' _ q).2.2.2.1 j B dK Y;refine⟨p1,MD _ hlt p2 hno,p3,vs,?_,p5.imp (λx hx v hv=>keep x (h.wf.br j B dK x hx) v hv)⟩;show w'.heap[E.β j]? =_;rw[hH _ hlt (λq=>e (h.inj j i B _ dK hB q)) hno];exact p4
  inj:=λj j' B B' h1 h2 e=>by
   have key:∀n B,(AS.bC (qh olds news) (AS.dJ [(i,⟨T,cells'⟩)] S)).b n=some B->∃B',S.b n=some B':=λn B hn=>by
    rw[wM]at hn;by_cases e:n=i
    ·subst e;exact⟨_,hB⟩
    rw[if_neg e]at hn;exact⟨B,hn⟩
   obtain⟨B1,p1⟩:=key j B h1;obtain⟨B2,p2⟩:=key j' B' h2;exact h.inj j j' B1 B2 p1 p2 e
  rx:=λj R hj=>by
   have boxes:∀g,(∀n B,S.b n=some B->E.β n≠g)->∀n B,(AS.bC (qh olds news) (AS.dJ [(i,⟨T,cells'⟩)] S)).b n=some B->E.β n≠g:=λg hg n B hn=>by
    rw[wM]at hn;by_cases e:n=i
    ·subst e;exact hg _ _ hB
    rw[if_neg e]at hn;exact hg n B hn
   rcases live j R hj with⟨v,hm⟩|⟨hn,ho,hR⟩
   ·rw[show({E with M:=M',ν:=gQ news E.ν}:Env).ν j=v from fF hnd hm];obtain⟨p1,p2⟩:=hrow j R v hm;refine⟨p1,λg hg=>?_⟩;obtain⟨p3,p4,p5⟩:=p2 g hg;rcases p3 with⟨j',q1,q2⟩|p3
    ·obtain⟨o1,o2,o3,o4,_⟩:=rI j' q1 g q2;exact⟨o1,p4,o3,boxes g o4⟩
    refine⟨.inl (Nat.le_trans h.grown p3),p4,λq=>?_,boxes g (λn B hn q=>?_)⟩
    ·have:=(h.gU g q).1;omega
    obtain⟨_,_,_,vs,q4,_⟩:=h.bx n B hn;have:=(Array.getElem?_eq_some_iff.1 q4).1;omega
   rw[show({E with M:=M',ν:=gQ news E.ν}:Env).ν j=E.ν j from jh hn];obtain⟨⟨us,p1,p2⟩,p3⟩:=h.rx j R hR;refine⟨⟨us,cH p1 λg hg=>hH g (fT h hR hg) (λe=>(p3 g hg).2.2.2 i _ hB e.symm) (PG j R hR ho g hg),p2.mono hM⟩,λg hg=>?_⟩;obtain⟨p4,p5,p6,p7⟩:=p3 g hg;exact⟨p4,MD g (fT h hR hg) p5 (PG j R hR ho g hg),p6,boxes g p7⟩
  dI:=λj j' R R' h1 h2 g e1 e2=>by
   have mixed:∀j R v j' R' g,(j,R,v)∈news->S.r j'=.live R'->j'∉olds->v.ownBlock=some g->(E.ν j').ownBlock=some g->False:=λj R v j' R' g hm jU ho e1 e2=>by
    rcases((hrow j R v hm).2 g e1).1 with⟨j2,q1,q2⟩|q
    ·exact PG j' R' jU ho g e2 j2 q1 q2
    have:=fT h jU e2;omega
   rcases live j R h1 with⟨v,hm⟩|⟨hn,ho,hR⟩<;>rcases live j' R' h2 with⟨v',hm'⟩|⟨hn',ho',jU⟩
   ·rw[show({E with M:=M',ν:=gQ news E.ν}:Env).ν j=v from fF hnd hm]at e1;rw[show({E with M:=M',ν:=gQ news E.ν}:Env).ν j'=v' from fF hnd hm']at e2;exact PC j R v j' R' v' g hm hm' e1 e2
   ·rw[show({E with M:=M',ν:=gQ news E.ν}:Env).ν j=v from fF hnd hm]at e1;rw[show({E with M:=M',ν:=gQ news E.ν}:Env).ν j'=E.ν j' from jh hn']at e2;exact(mixed j R v j' R' g hm jU ho' e1 e2).elim
   ·rw[show({E with M:=M',ν:=gQ news E.ν}:Env).ν j=E.ν j from jh hn]at e1;rw[show({E with M:=M',ν:=gQ news E.ν}:Env).ν j'=v' from fF hnd hm']at e2;exact(mixed j' R' v' j R g hm' hR ho e2 e1).elim
   rw[show({E with M:=M',ν:=gQ news E.ν}:Env).ν j=E.ν j from jh hn]at e1;rw[show({E with M:=M',ν:=gQ news E.ν}:Env).ν j'=E.ν j' from jh hn']at e2;exact h.dI j j' R R' hR jU g e1 e2
  eY:=h.eY
  cX:=λk v e=>by
   rw[show({E with M:=M',ν:=gQ news E.ν}:Env).ν k=E.ν k from jh (λR v hm=>by have:=(hnew k R v hm).2;have:=C.C9 k _ e;omega)];exact h.cX k v e
  gU:=λb hb=>by
   obtain⟨p1,p2,p3⟩:=h.gU b hb;exact⟨Nat.lt_of_lt_of_le p1 hsize,MD b p1 p2 (λj hj e=>(rI j hj b e).2.2.1 hb),p3⟩
  jj:=by
   have hj:=C.jf S.g S.go E.O E.M M' w w' h.jj hM hin (λb o v e=>by
    rcases hmn b o v e with q|q|⟨j,q1,q2⟩
    ·exact .inl q
    ·exact .inr ⟨.inl (Nat.le_trans h.grown q),λq2=>by have:=(h.gU b q2).1;omega⟩
    ·obtain⟨o1,_,o3,_⟩:=rI j q1 b q2;exact .inr ⟨o1,o3⟩) (λb hb=>by
    have hlt:b<w.heap.size\/w.heap.size<=b:=Nat.lt_or_ge _ _;have hb':b<w.heap.size:=by
     rcases hb with⟨q,_⟩|q
     ·exact Nat.lt_of_lt_of_le q h.grown
     exact(h.gU b q).1
    refine hH b hb' (λe=>?_) (λj hj e=>?_)
    ·subst e;rcases hb with⟨q1,q2⟩|q
     ·rcases DJ with p|p
      ·omega
      exact q2 p
     exact H9 q
    obtain⟨o1,_,o3,_⟩:=rI j hj b e;rcases hb with⟨q1,q2⟩|q
    ·rcases o1 with p|p
     ·omega
     exact q2 p
    exact o3 q) hos kV hout hsize
   rw[n4,n5];exact hj}
end swap
end
section
open Go.RowKit
inductive Oc where
 |s (x:SV)
 |r (R:Row)
def m8(M:Mem)(w:World):List Oc->List Value->Prop
 |[],[]=>True
 |.s x::l,v::vs=>x.h M v/\m8 M w l vs
 |.r R::l,v::vs=>(∃us:List Value,w.ownsRow 0 R.E R.sz v R.n us/\SV.da M R.cells us)/\m8 M w l vs
 |_,_=>False
def rowsOf:List Oc->List Row
 |[]=>[]
 |.s _::l=>rowsOf l
 |.r R::l=>R::rowsOf l
def bG:List Oc->List Value->List (Row×Value)
 |.s _::l,_::vs=>bG l vs
 |.r R::l,v::vs=>(R,v)::bG l vs
 |_,_=>[]
def eL(c:List Oc)(us:List Value)(g:Nat):Prop:=∃p∈bG c us,p.2.ownBlock=some g
def bO:List Nat->List Oc->List AV
 |ids,.s x::l=>.sv x::bO ids l
 |i::ids,.r _::l=>.row i::bO ids l
 |[],.r _::l=>.sv .any::bO [] l
 |_,[]=>[]
def Cw(l:List (Row×Value)):Prop:=l.Pairwise λp q=>∀g,p.2.ownBlock=some g->q.2.ownBlock≠some g
structure mm (M:Mem) (w:World) (β:Nat) (T:TypeId) (c:List Oc) (us:List Value):Prop where
 hp:w.heap[β]? =some (.cells ⟨us⟩ T (0,0))
 al:m8 M w c us
 nb:∀o,M β o=none
 nr:∀g,eL c us g->g≠β/\∀o,M g o=none
 ap:Cw (bG c us)
theorem ff{M:Mem}{w:World}:∀{c:List Oc} {us:List Value},m8 M w c us->(bG c us).map (·.1)=rowsOf c
 |[],[],_=>rfl
 |.s _::l,_::vs,h=>ff (c:=l) (us:=vs) h.2
 |.r R::l,v::vs,h=>congrArg (R:: ·) (ff (c:=l) (us:=vs) h.2)
 |[],_::_,h=>h.elim
 |.s _::_,[],h=>h.elim
 |.r _::_,[],h=>h.elim
theorem iQ{M:Mem}{w:World}:∀{c:List Oc} {us:List Value},m8 M w c us->∀p∈bG c us,∃vs:List Value,w.ownsRow 0 p.1.E p.1.sz p.2 p.1.n vs/\SV.da M p.1.cells vs
 |[],[],_,p,hp=>by cases hp
 |.s _::l,_::vs,h,p,hp=>iQ (c:=l) (us:=vs) h.2 p hp
 |.r R::l,v::vs,h,p,hp=>by
  rcases List.mem_cons.1 hp with rfl|hp
  ·exact h.1
  exact iQ (c:=l) (us:=vs) h.2 p hp
 |[],_::_,h,_,_=>h.elim
 |.s _::_,[],h,_,_=>h.elim
 |.r _::_,[],h,_,_=>h.elim
theorem fO{α β:Type}:∀{l:List α} {k:List β} {a:α} {b:β},(a,b)∈l.zip k->a∈l/\b∈k
 |_::_,_::_,_,_,h=>by
  rw[List.zip_cons_cons]at h;rcases List.mem_cons.1 h with e|e
  ·cases e;simp
  have:=fO e;exact⟨List.mem_cons_of_mem _ this.1,List.mem_cons_of_mem _ this.2⟩
 |[],_,_,_,h=>by simp at h
 |_::_,[],_,_,h=>by simp at h
theorem tW{α β:Type}:∀{l:List α} {k:List β},l.length=k.length->(l.zip k).map (·.1)=l
 |[],[],_=>rfl
 |_::l,_::k,h=>by rw[List.zip_cons_cons,List.map_cons,tW (by simpa using h)]
 |[],_::_,h=>by simp at h
 |_::_,[],h=>by simp at h
theorem rJ:∀{ids:List Nat} {l:List (Row×Value)},ids.Nodup->Cw l->∀k R v k' R' v' g,(k,R,v)∈ids.zip l->(k',R',v')∈ids.zip l->v.ownBlock=some g->v'.ownBlock=some g->k=k'
 |i::ids,p::l,hn,ha,k,R,v,k',R',v',g,h1,h2,e1,e2=>by
  rw[List.zip_cons_cons]at h1 h2;rw[List.nodup_cons]at hn;obtain⟨T6,Yr⟩:=List.pairwise_cons.1 ha;rcases List.mem_cons.1 h1 with q1|q1<;>rcases List.mem_cons.1 h2 with q2|q2
  ·cases q1;cases q2;rfl
  ·cases q1;exact absurd e2 (T6 (R',v') (fO q2).2 g e1)
  ·cases q2;exact absurd e1 (T6 (R,v) (fO q1).2 g e2)
  exact rJ hn.2 Yr k R v k' R' v' g q1 q2 e1 e2
 |[],_,_,_,_,_,_,_,_,_,_,h1,_,_,_=>by simp at h1
 |_::_,[],_,_,_,_,_,_,_,_,_,h1,_,_,_=>by simp at h1
theorem jL{E:Env}{w:World}:∀{ids:List Nat} {c:List Oc} {us:List Value},ids.length=(rowsOf c).length->m8 E.M w c us->(∀i p,(i,p)∈ids.zip (bG c us)->E.ν i=p.2)->cn E (bO ids c) us
 |ids,[],[],_,_,_=>by cases ids<;>exact trivial
 |ids,.s x::l,v::vs,hl,h,hv=>by
  have ih:=jL (E:=E) (w:=w) (ids:=ids) (c:=l) (us:=vs) hl h.2 hv;cases ids<;>exact⟨h.1,ih⟩
 |i::ids,.r R::l,v::vs,hl,h,hv=>by
  refine⟨(hv i (R,v) (by rw[bG,List.zip_cons_cons];simp)).symm,jL (w:=w) (ids:=ids) (c:=l) (us:=vs) (by simpa[rowsOf]using hl) h.2 (λj p hm=>hv j p ?_)⟩;rw[bG,List.zip_cons_cons];exact List.mem_cons_of_mem _ hm
 |[],.r R::l,_::_,hl,_,_=>by simp[rowsOf]at hl
 |_,[],_::_,_,h,_=>h.elim
 |_,.s _::_,[],_,h,_=>h.elim
 |_,.r _::_,[],_,h,_=>h.elim
theorem jM:∀{ids:List Nat} {c:List Oc} (x:AV),x∈bO ids c->(∀j,¬x.mb j)/\∀j,x.mr j->j∈ids
 |ids,[],x,h=>by cases ids<;>simp[bO]at h
 |ids,.s y::l,x,h=>by
  have h':x∈AV.sv y::bO ids l:=by cases ids<;>exact h
  rcases List.mem_cons.1 h' with rfl|h'
  ·exact⟨λj e=>e,λj e=>e.elim⟩
  exact jM x h'
 |i::ids,.r _::l,x,h=>by
  rcases List.mem_cons.1 (show x∈AV.row i::bO ids l from h)with rfl|h'
  ·exact⟨λj e=>e,λj e=>by cases e;simp⟩
  obtain⟨h1,h2⟩:=jM x h';exact⟨h1,λj e=>List.mem_cons_of_mem _ (h2 j e)⟩
 |[],.r _::l,x,h=>by
  rcases List.mem_cons.1 (show x∈AV.sv .any::bO [] l from h)with rfl|h'
  ·exact⟨λj e=>e,λj e=>e.elim⟩
  exact jM x h'
def Lv(S:AS):List Nat->List Row->Prop
 |[],[]=>True
 |j::js,R::Rs=>S.r j=.live R/\Lv S js Rs
 |_,_=>False
theorem Lv.len{S:AS}:∀{js:List Nat} {Rs:List Row},Lv S js Rs->js.length=Rs.length
 |[],[],_=>rfl
 |_::_,_::_,h=>congrArg (· +1) (Lv.len h.2)
 |[],_::_,h=>h.elim
 |_::_,[],h=>h.elim
theorem Lv.mem{S:AS}:∀{js:List Nat} {Rs:List Row},Lv S js Rs->∀j∈js,∃R,S.r j=.live R
 |j::js,R::Rs,h,k,hk=>by
  rcases List.mem_cons.1 hk with rfl|hk
  ·exact⟨R,h.1⟩
  exact Lv.mem h.2 k hk
 |[],_,_,k,hk=>by cases hk
 |_::_,[],h,_,_=>h.elim
theorem m9{C:Ctx}{S:AS}{E:Env}{a:Act}{w:World}(h:aZ C S E a w):∀{js:List Nat} {c:List Oc} {us:List Value},Lv S js (rowsOf c)->cn E (bO js c) us->m8 E.M w c us/\bG c us=(rowsOf c).zip (js.map E.ν)
 |[],[],[],_,_=>⟨aq,Y⟩
 |js,.s x::l,v::vs,hL,hv=>by
  have nK:cn E (AV.sv x::bO js l) (v::vs):=by cases js<;>exact hv
  obtain⟨h1,h2⟩:=m9 h (js:=js) (c:=l) (us:=vs) hL nK.2;exact⟨⟨nK.1,h1⟩,h2⟩
 |j::js,.r R::l,v::vs,hL,hv=>by
  have hL:S.r j=.live R/\Lv S js (rowsOf l):=hL;have nK:cn E (AV.row j::bO js l) (v::vs):=hv;obtain⟨h1,h2⟩:=m9 h (js:=js) (c:=l) (us:=vs) hL.2 nK.2;have e:v=E.ν j:=nK.1;obtain⟨q1,_⟩:=h.rx j R hL.1;rw[<-e]at q1;refine⟨⟨q1,h1⟩,?_⟩;rw[bG,h2,e];rfl
 |[],.r _::_,_,hL,_=>hL.elim
 |_::_,[],_,hL,_=>hL.elim
 |[],[],_::_,_,hv=>by simp[bO]at hv;exact hv.elim
 |js,.s x::l,[],_,hv=>by
  have nK:cn E (AV.sv x::bO js l) []:=by cases js<;>exact hv
  exact nK.elim
 |_::_,.r _::_,[],_,hv=>hv.elim
theorem nc{α β:Type}:∀{l:List α} {k:List β} {b:β},l.length=k.length->b∈k->∃a,(a,b)∈l.zip k
 |a::l,c::k,b,h,hb=>by
  rcases List.mem_cons.1 hb with rfl|hb
  ·exact⟨a,by rw[List.zip_cons_cons];simp⟩
  obtain⟨a',h'⟩:=nc (l:=l) (k:=k) (by simpa using h) hb;exact⟨a',by rw[List.zip_cons_cons];exact List.mem_cons_of_mem _ h'⟩
 |[],[],_,_,hb=>by cases hb
 |[],_::_,_,h,_=>by simp at h
theorem kW{C:Ctx}{S:AS}{E:Env}{a:Act}{w:World}(h:aZ C S E a w){i:Nat}{T:TypeId}{js:List Nat}{c:List Oc}(hB:S.b i=some ⟨T,bO js c⟩)(hL:Lv S js (rowsOf c))(hn:js.Nodup):
  ∃us,mm E.M w (E.β i) T c us/\(∀g,eL c us g↔∃j∈js,(E.ν j).ownBlock=some g):=by
 obtain⟨_,q1,_,us,q2,q3⟩:=h.bx i _ hB;obtain⟨p1,p2⟩:=m9 h hL q3;have hlen:=hL.len;have xT:∀g,eL c us g↔∃j∈js,(E.ν j).ownBlock=some g:=λg=>by
  unfold eL;rw[p2];constructor
  ·rintro⟨⟨R,v⟩,hm,hg⟩;obtain⟨j,hj,rfl⟩:=List.mem_map.1 (fO hm).2;exact⟨j,hj,hg⟩
  rintro⟨j,hj,hg⟩;obtain⟨R,hR⟩:=nc (l:=rowsOf c) (k:=js.map E.ν) (by simp[hlen]) (List.mem_map.2 ⟨j,hj,Y⟩);exact⟨(R,E.ν j),hR,hg⟩
 refine⟨us,⟨q2,p1,q1,λg hg=>?_,?_⟩,xT⟩
 ·obtain⟨j,hj,sQ⟩:=(xT g).1 hg;obtain⟨R,hR⟩:=hL.mem j hj;obtain⟨_,q4⟩:=h.rx j R hR;obtain⟨_,q5,_,q6⟩:=q4 g sQ;exact⟨λe=>q6 i _ hB e.symm,q5⟩
 rw[p2];have key:∀(js:List Nat) (Rs:List Row),Lv S js Rs->js.Nodup->Cw (Rs.zip (js.map E.ν)):=by
  intro js
  induction js with
  |nil=>intro Rs hL _;cases Rs with|nil=>exact List.Pairwise.nil|cons _ _=>exact hL.elim
  |cons j js ih=>
   intro Rs hL hn;cases Rs with
   |nil=>exact hL.elim
   |cons R Rs=>
    rw[List.nodup_cons]at hn;rw[List.map_cons,List.zip_cons_cons];refine List.pairwise_cons.2 ⟨λp hp g e1 e2=>?_,ih Rs hL.2 hn.2⟩;obtain⟨R',v'⟩:=p;obtain⟨j',hj',rfl⟩:=List.mem_map.1 (fO hp).2;obtain⟨R2,hR2⟩:=hL.2.mem j' hj';have:=h.dI j j' R R2 hL.1 hR2 g e1 e2;subst this;exact hn.1 hj'
 exact key js _ hL hn
def nf(M:Mem)(β:Nat):Env:=⟨λ_=>β,λ_=>.nilIface,λ_=>False,M⟩
def Fc.oy:Fc->Bool
 |.val _=>true
 |.box i=>Nat.beq i 1000
 |.row _=>false
def AV.oy:AV->Bool
 |.sv _=>true
 |.ptr i _=>Nat.beq i 1000
 |.cmp _ js=>js.all Fc.oy
 |_=>false
def Fc.JI(i:Nat):Fc->Fc
 |.box _=>.box i
 |c=>c
def AV.JI(i:Nat):AV->AV
 |.ptr _ o=>.ptr i o
 |.cmp t js=>.cmp t (js.map (Fc.JI i))
 |x=>x
theorem DL{E:Env}{i:Nat}{x:AV}{v:Value}(hx:x.oy=true)(h:(x.JI i).holds E v):x.holds (nf E.M (E.β i)) v:=by
 cases x with
 |sv s=>exact h
 |ptr k o=>exact h
 |cmp t js=>
  obtain⟨vs,rfl,h⟩:=h;refine⟨vs,Y,?_⟩;have key:∀(l:List Fc) (vs:List Value),(l.all Fc.oy)=true->o8 E (l.map (Fc.JI i)) vs->o8 (nf E.M (E.β i)) l vs:=by
   intro l
   induction l with
   |nil=>intro vs _ h;cases vs with|nil=>trivial|cons _ _=>exact h.elim
   |cons c l ih=>
    intro vs ho h;rw[List.all_cons,Bool.and_eq_true]at ho;cases vs with
    |nil=>exact h.elim
    |cons u vs=>
     refine⟨?_,ih vs ho.2 h.2⟩;cases c with
     |val s=>exact h.1
     |box k=>exact h.1
     |row k=>exact(Bool.false_ne_true ho.1).elim
  exact key js vs hx h
 |_=>exact(Bool.false_ne_true hx).elim
theorem tX{E:Env}{i:Nat}:∀{l:List AV} {vs:List Value},(l.all AV.oy)=true->cn E (l.map (AV.JI i)) vs->cn (nf E.M (E.β i)) l vs
 |[],[],_,_=>trivial
 |x::l,v::vs,h,hv=>by
  rw[List.all_cons,Bool.and_eq_true]at h;exact⟨DL h.1 hv.1,tX h.2 hv.2⟩
 |[],_::_,_,h=>h.elim
 |_::_,[],_,h=>h.elim
def ME(P:Program)(f:FuncId)(args:List AV)(T:TypeId)(c0:List Oc)(res:SV)(c1:List Oc):Prop:=
 ∀(M:Mem) (w:World) (β:Nat) (vs us:List Value),M.cy w->mm M w β T c0 us->cn (nf M β) args vs->
  Calls P f ⟨vs⟩ w λe w'=>∃v M' us',e=.returned v/\M.le M'/\(∀b o x,M' b o=some x->M b o=some x\/w.heap.size<=b\/eL c0 us b)/\M'.cy w'/\res.h M' v/\
   mm M' w' β T c1 us'/\(∀g,eL c1 us' g->eL c0 us g\/w.heap.size<=g)/\w'.os=w.os/\w'.tape=w.tape/\w'.output=w.output/\w.heap.size<=w'.heap.size/\
   ∀k,k<w.heap.size->k≠β->¬eL c0 us k->w'.heap[k]? =w.heap[k]?
def MF(w:World)(M:Mem)(β:Nat)(c:List Oc)(us:List Value):Ctx:={w0:=w,M0:=M,own:=λk=>k=β\/eL c us k,nu:=λk=>k=β\/eL c us k,eY:=λi=>bif Nat.beq i 1000 then some β else none,cX:=λ_=>none,ro:=none,J:=λ_ _ _ _ _=>True,vP:=λ_ h=>h,C9:=λ_ _ h=>(by cases h),jf:=λ_ _ _ _ _ _ _ _ _ _ _ _ _ _ _ _=>trivial}
theorem qi{M:Mem}{w:World}:∀{ids:List Nat} {c:List Oc} {us:List Value},m8 M w c us->∀{i:Nat} {R:Row},(i,R)∈ids.zip (rowsOf c)->∃v,(i,R,v)∈ids.zip (bG c us)
 |ids,.s x::l,v::vs,h,i,R,hm=>by
  have hm':(i,R)∈ids.zip (rowsOf l):=hm;exact qi (c:=l) (us:=vs) h.2 hm'
 |k::ids,.r R'::l,v::vs,h,i,R,hm=>by
  have hm':(i,R)∈(k,R')::ids.zip (rowsOf l):=hm;rw[bG,List.zip_cons_cons];rcases List.mem_cons.1 hm' with e|e
  ·cases e;exact⟨v,by simp⟩
  obtain⟨v',h'⟩:=qi (ids:=ids) (c:=l) (us:=vs) h.2 e;exact⟨v',List.mem_cons_of_mem _ h'⟩
 |[],.r _::_,_::_,_,_,_,hm=>by simp at hm
 |_,[],[],_,_,_,hm=>by simp[rowsOf]at hm
 |_,[],_::_,h,_,_,_=>h.elim
 |_,.s _::_,[],h,_,_,_=>h.elim
 |_,.r _::_,[],h,_,_,_=>h.elim
theorem Cx{n:Nat}{args:List AV}{T:TypeId}{c:List Oc}{M:Mem}{w:World}{β:Nat}{vs us:List Value}(ids:List Nat)(hM:M.cy w)(ho:mm M w β T c us)(hv:cn (nf M β) args vs)(D5:args.all AV.oy=true)(hn:args.length<=n)(xN:ids.Nodup)(NZ:ids.length=(rowsOf c).length):
  aZ (MF w M β c us) (AS.vU n args [(1000,⟨T,bO ids c⟩)] (ids.zip (rowsOf c))) ⟨λ_=>β,gQ (ids.zip (bG c us)) (λ_=>.nilIface),λ_=>False,M⟩ {tmps:=⟨vs⟩++Array.replicate (n-(⟨vs⟩:Array Value).size) undef,defers:=[]} w:=by
 have hl:=hv.length;have N0:(bG c us).length=(rowsOf c).length:=by rw[<-ff ho.al,List.length_map]
 have hnd:((ids.zip (bG c us)).map (·.1)).Nodup:=by rw[tW (by omega)];exact xN
 have JJ:∀s,(lD args s).oy=true:=λs=>by
  rcases pC (l:=args) (k:=s)with e|e
  ·rw[e];rfl
  exact List.all_eq_true.1 D5 _ e
 have Ys:∀x:AV,x.oy=true->(∀j,x.mb j->j=1000)/\∀j,¬x.mr j:=λx hx=>by
  cases x with
  |sv s=>exact⟨λj e=>e.elim,λj e=>e⟩
  |ptr k o=>exact⟨λj e=>by cases e;exact Nat.eq_of_beq_eq_true hx,λj e=>e⟩
  |cmp t js=>
   refine⟨λj e=>?_,λj e=>?_⟩
   ·exact Nat.eq_of_beq_eq_true (List.all_eq_true.1 hx _ e)
   exact Bool.false_ne_true (List.all_eq_true.1 hx _ e)
  |_=>exact(Bool.false_ne_true hx).elim
 have hall:cn ⟨λ_=>β,gQ (ids.zip (bG c us)) (λ_=>.nilIface),λ_=>False,M⟩ args vs:=by
  refine hv.imp (λx hx v hh=>?_);exact AV.bT (E:=nf M β) (E':=⟨λ_=>β,gQ (ids.zip (bG c us)) (λ_=>.nilIface),λ_=>False,M⟩) (Mem.le_refl _) (λ_ _=>rfl) (λj hj=>absurd hj ((Ys x (List.all_eq_true.1 D5 x hx)).2 j)) hh
 have live:∀j R,(AS.vU n args [(1000,⟨T,bO ids c⟩)] (ids.zip (rowsOf c))).r j=.live R->(j,R)∈ids.zip (rowsOf c):=λj R hj=>by
  have hj:(match vM (ids.zip (rowsOf c)) j with|some R=>hG.live R|none=>.un)=.live R:=hj;cases e:vM (ids.zip (rowsOf c)) j with
  |none=>rw[e]at hj;cases hj
  |some R'=>rw[e]at hj;cases hj;exact tF e
 have isLive:∀j∈ids,(AS.vU n args [(1000,⟨T,bO ids c⟩)] (ids.zip (rowsOf c))).r j≠ .un:=λj hj=>by
  have key:∀(ids:List Nat) (Rs:List Row),ids.length=Rs.length->j∈ids->∃R,vM (ids.zip Rs) j=some R:=by
   intro ids
   induction ids with
   |nil=>intro _ _ h;cases h
   |cons k ids ih=>
    intro Rs hl hm;cases Rs with
    |nil=>simp at hl
    |cons R Rs=>
     rw[List.zip_cons_cons,vM];by_cases e:j=k
     ·subst e;exact⟨R,by simp⟩
     rw[cG e];rcases List.mem_cons.1 hm with q|q
     ·exact absurd q e
     exact ih Rs (by simpa using hl) q
  obtain⟨R,hR⟩:=key ids _ NZ hj;show(match vM (ids.zip (rowsOf c)) j with|some R=>hG.live R|none=>.un)≠ .un;rw[hR];simp
 have box:∀j B,(AS.vU n args [(1000,⟨T,bO ids c⟩)] (ids.zip (rowsOf c))).b j=some B->j=1000/\B=⟨T,bO ids c⟩:=λj B h=>by
  have:=kg h;simpa using this
 have EC:(AS.vU n args [(1000,⟨T,bO ids c⟩)] (ids.zip (rowsOf c))).b 1000=some ⟨T,bO ids c⟩:=rfl
 exact{
  wf:=by
   refine⟨λs j hj=>?_,λs j hj=>?_,λi B hB x hx j hj=>?_,λi B hB x hx j hj=>?_⟩
   ·have:=(Ys _ (JJ s)).1 j hj;subst this;exact⟨_,EC⟩
   ·exact absurd hj ((Ys _ (JJ s)).2 j)
   ·obtain⟨rfl,rfl⟩:=box i B hB;exact absurd hj ((jM x hx).1 j)
   obtain⟨rfl,rfl⟩:=box i B hB;exact isLive j ((jM x hx).2 j hj)
  marks:=⟨[],Y,List.nodup_nil,by simp⟩
  size:=by simp[AS.vU];omega
  os:=rfl
  tape:=rfl
  output:=rfl
  grown:=Nat.le_refl _
  frame:=λ_ _ _=>rfl
  m0:=Mem.le_refl _
  dh:=λ_ _ _ e=>.inl e
  cy:=hM
  tm:=λs=>Ba hall s
  bx:=λi B h=>by
   obtain⟨rfl,rfl⟩:=box i B h;refine⟨.inr (.inl Y),ho.nb,λh=>h,us,ho.hp,?_⟩;exact jL (w:=w) NZ ho.al (λj p hm=>fF (R:=p.1) (v:=p.2) hnd hm)
  inj:=λi j B1 B2 hi hj _=>by rw[(box i B1 hi).1,(box j B2 hj).1]
  rx:=λj R hj=>by
   obtain⟨v,hm⟩:=qi ho.al (live j R hj);have hν:gQ (ids.zip (bG c us)) (λ_=>Value.nilIface) j=v:=fF hnd hm;show(∃vs:List Value,w.ownsRow 0 R.E R.sz (gQ (ids.zip (bG c us)) (λ_=>.nilIface) j) R.n vs/\SV.da M R.cells vs)/\_;rw[hν];refine⟨iQ ho.al (R,v) (fO hm).2,λg hg=>?_⟩;have hg:v.ownBlock=some g:=by rw[<-hν];exact hg
   have hb:eL c us g:=⟨(R,v),(fO hm).2,hg⟩;obtain⟨q1,q2⟩:=ho.nr g hb;refine⟨.inr (.inr hb),q2,λh=>h,λk B _ e=>q1 e.symm⟩
  dI:=λj j' R R' h1 h2 g e1 e2=>by
   obtain⟨v,hm⟩:=qi ho.al (live j R h1);obtain⟨v',hm'⟩:=qi ho.al (live j' R' h2);have hν:gQ (ids.zip (bG c us)) (λ_=>Value.nilIface) j=v:=fF hnd hm;have Yt:gQ (ids.zip (bG c us)) (λ_=>Value.nilIface) j'=v':=fF hnd hm';exact rJ xN ho.ap j R v j' R' v' g hm hm' (by rw[<-hν];exact e1) (by rw[<-Yt];exact e2)
  eY:=λi b e=>by
   simp only[MF]at e;cases h:Nat.beq i 1000 with
   |false=>rw[h]at e;cases e
   |true=>rw[h]at e;cases e;rfl
  cX:=λi v e=>by cases e
  gU:=λb e=>e.elim
  jj:=trivial}
theorem BM{P:Program}{f:FuncId}{fn:Func}{code:Code}{args:List AV}{T:TypeId}{c0 c1:List Oc}{res:SV}(ids:List Nat)(hf:P.funcs[f]? =some fn)(hb:fn.body=some code)(hn:args.length<=fn.ntmps)(D5:args.all AV.oy=true)(xN:ids.Nodup)(NZ:ids.length=(rowsOf c0).length)
  (h:∀(w:World) (M:Mem) (β:Nat) (us:List Value),Ok P (MF w M β c0 us) code (AS.vU fn.ntmps args [(1000,⟨T,bO ids c0⟩)] (ids.zip (rowsOf c0))) (λe S=>(e=.normal\/e=.ret)/\Ek P S fn.results.toList res/\∃ks:List Nat,S.b 1000=some ⟨T,bO ks c1⟩/\Lv S ks (rowsOf c1)/\ks.Nodup)):ME P f args T c0 res c1:=by
 intro M w β vs us hM ho hv;refine ew Y hf hb (Cx ids hM ho hv D5 hn xN NZ) (h w M β us) ?_;rintro S' E a w' ⟨hr,ks,hB,hL,hk⟩ hh;obtain⟨v,hv,hx⟩:=(sS.sv hr).run hh;have hβ:E.β 1000=β:=hh.eY 1000 β Y;obtain⟨us',ho',hH⟩:=kW hh hB hL hk;rw[hβ]at ho';refine⟨v,hv,v,E.M,us',Y,hh.m0,λb o x e=>?_,hh.cy,hx,ho',λg hg=>?_,hh.os,hh.tape,hh.output,hh.grown,λk hk hne hno=>hh.frame k hk (λe=>e.elim hne hno)⟩
 ·rcases hh.dh b o x e with q|q|q|q
  ·exact .inl q
  ·exact .inr (.inl q)
  ·rw[show b=β from q,ho'.nb o]at e;cases e
  exact .inr (.inr q)
 obtain⟨j,hj,sQ⟩:=(hH g).1 hg;obtain⟨R,hR⟩:=hL.mem j hj;obtain⟨_,q⟩:=hh.rx j R hR;rcases(q g sQ).1 with q1|q1|q1
 ·exact .inr q1
 ·exact absurd q1 (ho'.nr g hg).1
 exact .inl q1
end
section
open Go.RowKit
def Un(S:AS):List Nat->Prop
 |[]=>True
 |k::ks=>(S.r k=.un/\k<1000)/\Un S ks
theorem Un.mem{S:AS}:∀{ks:List Nat},Un S ks->∀k∈ks,S.r k=.un/\k<1000
 |k::ks,h,j,hj=>by
  rcases List.mem_cons.1 hj with rfl|hj
  ·exact h.1
  exact Un.mem h.2 j hj
 |[],_,j,hj=>by cases hj
theorem Un.congr{S S':AS}:∀{ks:List Nat},(∀k∈ks,S'.r k=S.r k)->Un S ks->Un S' ks
 |[],_,_=>trivial
 |k::ks,h,hu=>⟨by rw[h k (by simp)];exact hu.1,Un.congr (λj hj=>h j (List.mem_cons_of_mem _ hj)) hu.2⟩
theorem Lv.congr{S S':AS}:∀{js:List Nat} {Rs:List Row},(∀k∈js,S'.r k=S.r k)->Lv S js Rs->Lv S' js Rs
 |[],[],_,_=>trivial
 |j::js,R::Rs,h,hl=>⟨by rw[h j (by simp)];exact hl.1,Lv.congr (λk hk=>h k (List.mem_cons_of_mem _ hk)) hl.2⟩
 |[],_::_,_,h=>h.elim
 |_::_,[],_,h=>h.elim
def qj(js ks:List Nat)(c:List Oc):List (Nat×hG):=js.map (λj=>(j,hG.dead))++(ks.zip (rowsOf c)).map (λp=>(p.1,.live p.2))
theorem Aj:∀(ks:List Nat) (l:List (Row×Value)),(ks.zip l).map (λn=>(n.1,hG.live n.2.1))=(ks.zip (l.map (·.1))).map (λp=>(p.1,.live p.2))
 |[],_=>rfl
 |_::_,[]=>rfl
 |k::ks,p::l=>by rw[List.map_cons,List.zip_cons_cons,List.zip_cons_cons,List.map_cons,List.map_cons,Aj ks l]
theorem Ak{M:Mem}{w:World}{c:List Oc}{us:List Value}(h:m8 M w c us)(js ks:List Nat):qh js (ks.zip (bG c us))=qj js ks c:=by
 unfold qh qj;rw[Aj,ff h]
section steps
variable {P:Program}{C:Ctx}{ops:Array Oper}{S:AS}{nd:Bool}{K:List Ac->AS->Prop}{rest:List Oper}{acc:List Ac}
variable {gd:Option (Nat×Bool)}{rg:List Nat}{d:Nat}{ty:TypeId}{pos:String}{aft:Array Edge}{x y z:Operand}{T U E0:TypeId}
theorem aZ.Ia{E:Env}{a:Act}{w w':World}(h:aZ C S E a w){i:Nat}{js ks:List Nat}{c0 c1:List Oc}{us us':List Value}{M':Mem}(hB:S.b i=some ⟨T,bO js c0⟩)(hL:Lv S js (rowsOf c0))(hks:ks.Nodup)(vT:ks.length=(rowsOf c1).length)(Ib:Un S ks)
  (vg:∀g,eL c0 us g↔∃j∈js,(E.ν j).ownBlock=some g) (hM:E.M.le M') (hn:∀b o x,M' b o=some x->E.M b o=some x\/w.heap.size<=b\/eL c0 us b) (hin:M'.cy w') (ho:mm M' w' (E.β i) T c1 us') (hg:∀g,eL c1 us' g->eL c0 us g\/w.heap.size<=g)
  (hos:w'.os=w.os) (kV:w'.tape=w.tape) (hout:w'.output=w.output) (hsize:w.heap.size<=w'.heap.size) (hH:∀k,k<w.heap.size->k≠E.β i->¬eL c0 us k->w'.heap[k]? =w.heap[k]?):
  ∃E':Env,E'.M=M'/\E'.β=E.β/\aZ C (AS.bC (qj js ks c1) (AS.dJ [(i,⟨T,bO ks c1⟩)] S)) E' a w':=by
 have N0:(bG c1 us').length=(rowsOf c1).length:=by rw[<-ff ho.al,List.length_map]
 have hnd:((ks.zip (bG c1 us')).map (·.1)).Nodup:=by rw[tW (by omega)];exact hks
 rw[<-Ak ho.al js ks];refine⟨{E with M:=M',ν:=gQ (ks.zip (bG c1 us')) E.ν},Y,Y,h.PB hB js (ks.zip (bG c1 us')) (λj hj=>hL.mem j hj) (λk R v hm=>Ib.mem k (fO hm).1) hnd hM (λb o x e=>?_) hin ho.hp ho.nb ?_ (λx hx=>?_) (λk R v hm=>?_) (rJ hks ho.ap) hos kV hout hsize (λk hk hne hno=>hH k hk hne (λq=>?_))⟩
 ·rcases hn b o x e with q|q|q
  ·exact .inl q
  ·exact .inr (.inl q)
  exact .inr (.inr ((vg b).1 q))
 ·exact jL (E:={E with M:=M',ν:=gQ (ks.zip (bG c1 us')) E.ν}) (w:=w') vT ho.al (λj p hm=>fF (R:=p.1) (v:=p.2) hnd hm)
 ·obtain⟨q1,q2⟩:=jM x hx;refine⟨q1,λj hj=>?_⟩;have hj:=q2 j hj;have key:∀(ks:List Nat) (l:List (Row×Value)),ks.length=l.length->j∈ks->∃R v,(j,R,v)∈ks.zip l:=by
   intro ks
   induction ks with
   |nil=>intro _ _ h;cases h
   |cons k ks ih=>
    intro l hl hm;cases l with
    |nil=>simp at hl
    |cons p l=>
     rw[List.zip_cons_cons];rcases List.mem_cons.1 hm with q|q
     ·subst q;exact⟨p.1,p.2,by simp⟩
     obtain⟨R,v,h⟩:=ih l (by simpa using hl) q;exact⟨R,v,List.mem_cons_of_mem _ h⟩
  exact key ks _ (by omega) hj
 ·refine⟨iQ ho.al (R,v) (fO hm).2,λg ze=>?_⟩;have hb:eL c1 us' g:=⟨(R,v),(fO hm).2,ze⟩;obtain⟨q1,q2⟩:=ho.nr g hb;refine⟨?_,q2,q1⟩;rcases hg g hb with q|q
  ·exact .inl ((vg g).1 q)
  exact .inr q
 obtain⟨j,hj,e⟩:=(vg k).1 q;exact hno j hj e
theorem RT.vh(hg:Gd ops S gd rg){f:FuncId}[er P f]{g:Operand}{xs:Array Operand}{at_:Array TypeId}{args:List AV}{T:TypeId}{c0 c1:List Oc}{res:SV}(hp:ME P f args T c0 res c1)(i:Nat)(js ks:List Nat)(hB:S.b i=some ⟨T,bO js c0⟩)(hL:Lv S js (rowsOf c0))(JK:js.Nodup)(hks:ks.Nodup)(vT:ks.length=(rowsOf c1).length)(Ib:Un S ks)
  (D5:args.all AV.oy=true) (hf:S.ev g=.sv (.v (.func (.func f) #[] #[]))) (hargs:oA S xs.toList (args.map (AV.JI i))) (hd:d<S.n)
  (next:RunT P C ops nd K rest (⟨rg++(aW g++xs.toList.flatMap aW),[i],js++ks,⟨some (d,.sv res),[(i,⟨T,bO ks c1⟩)],qj js ks c1⟩⟩::acc) ((AS.bC (qj js ks c1) (AS.dJ [(i,⟨T,bO ks c1⟩)] S)).set d (.sv res))):RunT P C ops nd K (⟨some d,.call ⟨.value g,xs,at_⟩,ty,pos,aft,gd⟩::rest) acc S:=by
 refine .inl ⟨_,[i],js++ks,_,?_,next⟩;rintro S' hn ht hb hr k a w L Q ho ⟨E,h⟩ PI;refine bU (C:=C) ho (hg.wanted h (λs hs=>ht s (List.mem_append_left _ hs)) Y) ?_;have qW:a.eval g=.func (.func f) #[] ⟨[]⟩:=by
  have h1:=h.ev g;rw[bk (λ_ h=>List.mem_append_right _ (List.mem_append_left _ h)) ht,hf]at h1;exact h1
 have hall:=tX D5 (oA.vals h hargs (λs hs=>ht s (List.mem_append_right _ (List.mem_append_right _ hs))));have dK:S'.b i=some ⟨T,bO js c0⟩:=by rw[hb i (by simp)];exact hB
 have JM:Lv S' js (rowsOf c0):=hL.congr (λk hk=>hr k (List.mem_append_left _ hk));have Yu:Un S' ks:=Ib.congr (λk hk=>hr k (List.mem_append_right _ hk));obtain⟨us,Ic,vg⟩:=kW h dK JM JK;refine bV (C:=C) (by intro c h;cases h) (jc qW) ?_;rw[List.append_nil];refine⟨λh=>by simp at h,fD ((hp E.M w (E.β i) _ us h.cy Ic hall).mono ?_)⟩;rintro e w' ⟨v,M',us',rfl,hM,hnew,hin,hv,Cn,GZ,hos,kV,hout,hsize,hH⟩;obtain⟨E',e1,e2,h1⟩:=h.Ia dK JM hks vT Yu vg hM hnew hin Cn GZ hos kV hout hsize hH;refine PI _ _ ⟨_,h1.put (x:=.sv res) (v:=v) (by show res.h E'.M v;rw[e1];exact hv) ?_ dY⟩;rw[(dy _ _).1];show d<S'.n;omega
theorem DM{f:FuncId}[er P f]{o:Option Nat}{g:Operand}{xs:Array Operand}{at_:Array TypeId}{a:Act}{w:World}{bs:List Value}(qW:a.eval g=.func (.func f) ⟨bs⟩ #[]):
  (execOp a.eval ⟨o,.call ⟨.value g,xs,at_⟩,ty,pos,aft,gd⟩).run P w=.ok (.enter f ⟨bs++xs.toList.map a.eval⟩) w:=by
 have e2:(⟨bs⟩:Array Value)++xs.map a.eval=⟨bs++xs.toList.map a.eval⟩:=by apply Array.ext';simp
 have e1:=er.run (P:=P) (f:=f) (⟨bs⟩++xs.map a.eval) w;rw[<-e2];simp[execOp,resolve,qW,Deferred.ofValue,invoke,e1]
theorem RT.Ie(hg:Gd ops S gd rg){g:FuncId}{i:Nat}(hx:S.ev x=.ptr i 0)(hd:d<S.n)
  (next:RunT P C ops nd K rest (⟨rg++aW x,[],[],⟨some (d,.cmp (.NA g) [.box i]),[],[]⟩⟩::acc) (S.set d (.cmp (.NA g) [.box i]))):RunT P C ops nd K (⟨some d,.makeFunc (.func g) #[x] #[],ty,pos,aft,gd⟩::rest) acc S:=
 RT.value hg (aW x) [] [] (.cmp (.NA g) [.box i]) hd (by intro c h;cases h) (λS' ht _ _ E a w h=>by
  have hx':S'.ev x=.ptr i 0:=by rw[bk (λ_ h=>h) ht,hx]
  have h1:=h.ev x;rw[hx']at h1;obtain⟨l1,l2⟩:=gI h.wf hx';refine⟨.func (.func g) #[a.eval x] #[],by simp[execOp,Instr.makeFunc],⟨[a.eval x],Y,h1,aq⟩,λj e=>?_,λj e=>?_⟩
  ·have:j=i:=by simpa[AV.mb]using e
   exact l1 j this
  simp[AV.mr]at e) next
theorem RT.fJ(hg:Gd ops S gd rg){i o:Nat}(hx:S.ev x=.ptr i o)(hd:d<S.n)
  (next:RunT P C ops nd K rest (⟨rg++aW x,[],[],⟨some (d,.ptr i o),[],[]⟩⟩::acc) (S.set d (.ptr i o))):RunT P C ops nd K (⟨some d,.nilCheck x,ty,pos,aft,gd⟩::rest) acc S:=
 RT.value hg (aW x) [] [] (.ptr i o) hd (by intro c h;cases h) (λS' ht _ _ E a w h=>by
  have hx':S'.ev x=.ptr i o:=by rw[bk (λ_ h=>h) ht,hx]
  have h1:=h.ev x;rw[hx']at h1;have h2:a.eval x=.pointer (some ⟨E.β i,o,none⟩):=h1;exact⟨a.eval x,by simp[execOp,h2],h1,gI h.wf hx'⟩) next
class JN (P:Program) (T:TypeId):Prop where
 u:P.underlying T=some (.pointer (P.pointee T))
theorem RT.MG(hg:Gd ops S gd rg)[tT:JN P T]{i o:Nat}(hx:S.ev x=.ptr i o)(hy:S.ev y=.sv (.v (.pointer none)))(hd:d<S.n)
  (next:RunT P C ops nd K rest (⟨rg++(aW x++aW y),[],[],⟨some (d,.sv (.v (.bool false))),[],[]⟩⟩::acc) (S.set d (.sv (.v (.bool false))))):RunT P C ops nd K (⟨some d,.binOp .eql T x y U,ty,pos,aft,gd⟩::rest) acc S:=
 RT.value hg (aW x++aW y) [] [] (.sv (.v (.bool false))) hd (by intro c h;cases h) (λS' ht _ _ E a w h=>by
  have h1:=h.ev x;rw[bk (λ_ h=>List.mem_append_left _ h) ht,hx]at h1;have h2:=h.ev y;rw[bk (λ_ h=>List.mem_append_right _ h) ht,hy]at h2;have h1:a.eval x=.pointer (some ⟨E.β i,o,none⟩):=h1;have h2:a.eval y=.pointer none:=h2;have e:=run_eql_pointer_nil (P:=P) w T (some ⟨E.β i,o,none⟩) tT.u;refine⟨.bool false,?_,Y,dY⟩;simp[execOp,h1,h2,eqGuard,e]) next
def Fc.av:Fc->AV
 |.val s=>.sv s
 |.box i=>.ptr i 0
 |.row i=>.row i
theorem RT.qk(hg:Gd ops S gd rg){i:Nat}{js:List Fc}{s:Fc}(hx:S.ev x=.cmp .sN js)(hi:js[i]? =some s)(hd:d<S.n)
  (next:RunT P C ops nd K rest (⟨rg++aW x,[],[],⟨some (d,s.av),[],[]⟩⟩::acc) (S.set d s.av)):RunT P C ops nd K (⟨some d,.extract x i,ty,pos,aft,gd⟩::rest) acc S:=
 RT.value hg (aW x) [] [] s.av hd (by intro c h;cases h) (λS' ht _ _ E a w h=>by
  have hx':S'.ev x=.cmp .sN js:=by rw[bk (λ_ h=>h) ht,hx]
  have h1:=h.ev x;rw[hx']at h1;obtain⟨l1,l2⟩:=gI h.wf hx';obtain⟨vs,hv,hall⟩:=h1;have hv:a.eval x=.tuple ⟨vs⟩:=hv;obtain⟨u,hu,hs⟩:=hall.get hi;have hm:=List.mem_of_getElem? hi;refine⟨u,by simp[execOp,hv,Instr.extract,hu],?_,λj e=>?_,λj e=>?_⟩
  ·cases s<;>exact hs
  ·cases s with
   |val s=>exact e.elim
   |box k=>have e:j=k:=e;subst e;exact l1 j hm
   |row k=>exact e.elim
  cases s with
  |val s=>exact e.elim
  |box k=>exact e.elim
  |row k=>have e:j=k:=e;subst e;exact l2 j hm) next
def Yv(tp:Bool)(p:Value)(rs:List Value):Value:=bif tp then .tuple ⟨p::rs⟩else p
def DN(P:Program)(f:FuncId)(args:List SV)(tp:Bool)(rest:List SV)(T:TypeId)(c:List Oc):Prop:=
 ∀(M:Mem) (w:World) (vs:List Value),M.cy w->SV.da M args vs->
  Calls P f ⟨vs⟩ w λe w'=>∃β rs M' us,e=.returned (Yv tp (.pointer (some ⟨β,0,none⟩)) rs)/\M.le M'/\(∀b o x,M' b o=some x->M b o=some x\/w.heap.size<=b)/\M'.cy w'/\SV.da M' rest rs/\
   mm M' w' β T c us/\w.heap.size<=β/\(∀g,eL c us g->w.heap.size<=g)/\Below w.heap.size w w'
theorem Al{w:World}{M:Mem}{S':AS}{E:Env}{a:Act}{w':World}{k:Nat}{ks:List Nat}{c:List Oc}(hB:S'.b k=some ⟨T,bO ks c⟩)(hL:Lv S' ks (rowsOf c))(hk:ks.Nodup)(hh:aZ (zu w M) S' E a w'):
  ∃us,M.le E.M/\(∀b o x,E.M b o=some x->M b o=some x\/w.heap.size<=b)/\E.M.cy w'/\mm E.M w' (E.β k) T c us/\w.heap.size<=E.β k/\(∀g,eL c us g->w.heap.size<=g)/\Below w.heap.size w w':=by
 obtain⟨us,ho,hH⟩:=kW hh hB hL hk;refine⟨us,hh.m0,λb o x e=>?_,hh.cy,ho,(hh.bx k _ hB).1.elim id (λh=>h.elim),λg hg=>?_,hh.os,hh.tape,hh.output,hh.grown,λk hk=>hh.frame k hk (λh=>h)⟩
 ·rcases hh.dh b o x e with h|h|h
  ·exact .inl h
  ·exact .inr h
  exact h.elim
 obtain⟨j,hj,sQ⟩:=(hH g).1 hg;obtain⟨R,hR⟩:=hL.mem j hj;exact((hh.rx j R hR).2 g sQ).1.elim id (λh=>h.elim)
theorem Am{f:FuncId}{fn:Func}{code:Code}{args:List SV}{c:List Oc}(hf:P.funcs[f]? =some fn)(hb:fn.body=some code)(hn:args.length<=fn.ntmps)
  (h:∀(w:World) (M:Mem) (vs:List Value),SV.da M args vs->Ok P (zu w M) code (AS.init fn.ntmps args) (λe S=>(e=.normal\/e=.ret)/\∃(k:Nat) (ks:List Nat),sS P S fn.results.toList (.ptr k 0)/\S.b k=some ⟨T,bO ks c⟩/\Lv S ks (rowsOf c)/\ks.Nodup)):DN P f args false [] T c:=by
 intro M w vs hM hvs;refine ew Y hf hb (gO hM hvs hn) (h w M vs hvs) ?_;rintro S' E a w' ⟨k,ks,hr,hB,hL,hk⟩ hh;obtain⟨v,hv,hx⟩:=hr.run hh;obtain rfl:v=.pointer (some ⟨E.β k,0,none⟩):=hx;obtain⟨us,q1,q2,q3,q4,q5,q6,q7⟩:=Al hB hL hk hh;exact⟨_,hv,E.β k,[],E.M,us,Y,q1,q2,q3,aq,q4,q5,q6,q7⟩
theorem An{f:FuncId}{fn:Func}{code:Code}{args:List SV}{s:SV}{c:List Oc}{t1 t2:Nat}(hf:P.funcs[f]? =some fn)(hb:fn.body=some code)(hn:args.length<=fn.ntmps)(hres:fn.results=#[.tmp t1,.tmp t2])
  (h:∀(w:World) (M:Mem) (vs:List Value),SV.da M args vs->Ok P (zu w M) code (AS.init fn.ntmps args) (λe S=>(e=.normal\/e=.ret)/\∃(k:Nat) (ks:List Nat),S.t t1=.ptr k 0/\S.t t2=.sv s/\S.b k=some ⟨T,bO ks c⟩/\Lv S ks (rowsOf c)/\ks.Nodup)):DN P f args true [s] T c:=by
 intro M w vs hM hvs;refine ew Y hf hb (gO hM hvs hn) (h w M vs hvs) ?_;rintro S' E a w' ⟨k,ks,D6,G0,hB,hL,hk⟩ hh;have h1:=hh.tm t1;rw[D6]at h1;have h1:a.tmps.getD t1 undef=.pointer (some ⟨E.β k,0,none⟩):=h1;have h2:=hh.tm t2;rw[G0]at h2;obtain⟨us,q1,q2,q3,q4,q5,q6,q7⟩:=Al hB hL hk hh;refine⟨.tuple #[.pointer (some ⟨E.β k,0,none⟩),a.tmps.getD t2 undef],?_,E.β k,[a.tmps.getD t2 undef],E.M,us,Y,q1,q2,q3,⟨h2,aq⟩,q4,q5,q6,q7⟩;rw[Array.getD_eq_getD_getElem?]at h1;simp[results,hres,h1]
theorem aZ.Cy{a:Act}{w:World}:∀(ks:List Nat) (l:List (Row×Value)) {S:AS} {E:Env},aZ C S E a w->ks.length=l.length->ks.Nodup->Un S ks->(∀p∈l,∃vs:List Value,w.ownsRow 0 p.1.E p.1.sz p.2 p.1.n vs/\SV.da E.M p.1.cells vs)->Cw l->(∀p∈l,∀g,p.2.ownBlock=some g->Dc C S E g)->
  ∃E':Env,E'.M=E.M/\E'.β=E.β/\E'.O=E.O/\(∀i p,(i,p)∈ks.zip l->E'.ν i=p.2)/\(∀i,i∉ks->E'.ν i=E.ν i)/\aZ C (AS.bC ((ks.zip l).map (λn=>(n.1,.live n.2.1))) S) E' a w
 |[],[],S,E,h,_,_,_,_,_,_=>⟨E,Y,Y,Y,λi p hm=>(by simp at hm),λ_ _=>Y,h⟩
 |k::ks,p::l,S,E,h,hl,hn,hu,ho,ha,hf=>by
  obtain⟨R,v⟩:=p;rw[List.nodup_cons]at hn;obtain⟨T6,Yr⟩:=List.pairwise_cons.1 ha;obtain⟨vs,Ic,Cn⟩:=ho (R,v) (by simp);have h1:=h.xS hu.1.1 hu.1.2 [] none (.inl ⟨Y,Y⟩) (R':=R) Ic Cn (λg hg=>.inr (hf (R,v) (by simp) g hg)) (lF w none);have hu':Un (AS.bC ([]++[(k,.live R)]) S) ks:=hu.2.congr (λj hj=>by
   show(AS.kJ S k _).r j=_;exact AS.gM _ _ _ _ (λe=>hn.1 (e▸hj)))
  obtain⟨E',q1,q2,q3,q4,q5,q6⟩:=aZ.Cy ks l h1 (by simpa using hl) hn.2 hu' (λp hp=>ho p (List.mem_cons_of_mem _ hp)) Yr (λp hp g hg=>by
   obtain⟨f1,f2,f3,f4,f5⟩:=hf p (List.mem_cons_of_mem _ hp) g hg;refine⟨f1,f2,f3,f4,λj R' jU e=>?_⟩;have jU:(AS.kJ S k (.live R)).r j=.live R':=jU;by_cases ej:j=k
   ·subst ej;have e:(if j=j then v else E.ν j).ownBlock=some g:=e;rw[if_pos rfl]at e;exact T6 p hp g e hg
   rw[AS.gM _ _ _ _ ej]at jU;have e:(if j=k then v else E.ν j).ownBlock=some g:=e;rw[if_neg ej]at e;exact f5 j R' jU e)
  refine⟨E',q1,q2,q3,λi p hm=>?_,λi hi=>?_,q6⟩
  ·rw[List.zip_cons_cons]at hm;rcases List.mem_cons.1 hm with e|e
   ·cases e;rw[q5 k hn.1];show(if k=k then v else E.ν k)=v;rw[if_pos rfl]
   exact q4 i p e
  rw[q5 i (λhm=>hi (List.mem_cons_of_mem _ hm))];show(if i=k then v else E.ν i)=E.ν i;rw[if_neg (λe=>hi (by rw[e];simp))]
 |[],_::_,_,_,_,hl,_,_,_,_,_=>by simp at hl
 |_::_,[],_,_,_,hl,_,_,_,_,_=>by simp at hl
theorem vi(i:Nat)(B:jF):∀(l:List (Nat×hG)) (S:AS),AS.bC l (S.gL i B)=(AS.bC l S).gL i B
 |[],_=>rfl
 |(j,R)::l,S=>vi i B l (S.kJ j R)
theorem ng{α β:Type}:∀{l:List α} {k:List β} {a:α},l.length=k.length->a∈l->∃b,(a,b)∈l.zip k
 |a::l,c::k,b,h,hb=>by
  rcases List.mem_cons.1 hb with rfl|hb
  ·exact⟨c,by rw[List.zip_cons_cons];simp⟩
  obtain⟨a',h'⟩:=ng (l:=l) (k:=k) (by simpa using h) hb;exact⟨a',by rw[List.zip_cons_cons];exact List.mem_cons_of_mem _ h'⟩
 |[],_,_,_,hb=>by cases hb
 |_::_,[],_,h,_=>by simp at h
theorem aZ.newObj{E:Env}{a:Act}{w w':World}(h:aZ C S E a w){i:Nat}(hi:S.b i=none)(hp:C.eY i=none){ks:List Nat}{c:List Oc}{us:List Value}{M':Mem}{β:Nat}(hks:ks.Nodup)(vT:ks.length=(rowsOf c).length)(Ib:Un S ks)
  (hM:E.M.le M') (hn:∀b o x,M' b o=some x->E.M b o=some x\/w.heap.size<=b) (hin:M'.cy w') (ho:mm M' w' β T c us) (hβ:w.heap.size<=β) (hg:∀g,eL c us g->w.heap.size<=g) (Ld:Below w.heap.size w w'):
  ∃E':Env,E'.M=M'/\E'.β i=β/\aZ C (AS.bC (qj [] ks c) (AS.dJ [(i,⟨T,bO ks c⟩)] S)) E' a w':=by
 have N0:(bG c us).length=(rowsOf c).length:=by rw[<-ff ho.al,List.length_map]
 have h0:=h.grow hM hn hin Ld;obtain⟨E1,q1,q2,q3,q4,q5,h1⟩:=aZ.Cy ks (bG c us) h0 (by omega) hks Ib (iQ ho.al) ho.ap (λp hp g ze=>h.tH (hg g ⟨p,hp,ze⟩) (ho.nr g ⟨p,hp,ze⟩).2);have hS1:AS.bC ((ks.zip (bG c us)).map (λn=>(n.1,.live n.2.1))) S=AS.bC (qj [] ks c) S:=by rw[<-Ak ho.al [] ks];rfl
 rw[hS1]at h1;obtain⟨f1,f2,f3,f4,f5⟩:=h.tH (M':=M') hβ ho.nb;have Yw:(AS.bC (qj [] ks c) S).b i=none:=by rw[(dy _ _).2.2.1];exact hi
 have hfree:Dc C (AS.bC (qj [] ks c) S) E1 β:=by
  refine⟨f1,by rw[q1];exact f2,by rw[q3];exact f3,λj B hB=>?_,λj R hR e=>?_⟩
  ·rw[(dy _ _).2.2.1]at hB;rw[q2];exact f4 j B hB
  by_cases hj:j∈ks
  ·obtain⟨p,hm⟩:=ng (l:=ks) (k:=bG c us) (by omega) hj;rw[q4 j p hm]at e;exact(ho.nr β ⟨p,(fO hm).2,e⟩).1 Y
  rw[gH,oS (λR hm=>by
   obtain⟨x,hx,e⟩:=List.mem_map.1 (show(j,R)∈(ks.zip (rowsOf c)).map (λp=>(p.1,hG.live p.2))from hm);obtain⟨k,R2⟩:=x;have e:k=j:=congrArg Prod.fst e;exact hj (e▸(fO hx).1))]at hR
  rw[q5 j hj]at e;exact f5 j R hR e
 have h2:=h1.Cc Yw hp hfree ho.hp (jL (w:=w') vT (by rw[q1];exact ho.al) q4) (λx hx=>by
  obtain⟨p1,p2⟩:=jM x hx;refine⟨λj e=>absurd e (p1 j),λj e=>?_⟩;obtain⟨R,hm⟩:=ng (l:=ks) (k:=rowsOf c) vT (p2 j e);obtain⟨R',jU⟩:=vf (l:=qj [] ks c) (j:=j) (R:=.live R) (List.mem_map.2 ⟨(j,R),hm,Y⟩);rw[gH,jU];obtain⟨x,hx,e⟩:=List.mem_map.1 (show(j,R')∈(ks.zip (rowsOf c)).map (λp=>(p.1,hG.live p.2))from oT jU);rw[<-show hG.live x.2=R' from congrArg Prod.snd e];simp)
 refine⟨{E1 with β:=λj=>if j=i then β else E1.β j},q1,?_,?_⟩
 rotate_left 1
 ·rw[show AS.dJ [(i,(⟨T,bO ks c⟩:jF))] S=S.gL i ⟨T,bO ks c⟩from Y,vi];exact h2
 show(if i=i then β else E1.β i)=β;rw[if_pos rfl]
theorem RT.yA(hg:Gd ops S gd rg){f:FuncId}[er P f]{g:Operand}{xs:Array Operand}{at_:Array TypeId}{args:List SV}{T:TypeId}{c:List Oc}(hp:DN P f args false [] T c)(ks:List Nat)(hks:ks.Nodup)(vT:ks.length=(rowsOf c).length)(Ib:Un S ks)(hf:S.ev g=.sv (.v (.func (.func f) #[] #[])))(hargs:fM S xs.toList args)(hd:d<S.n)(hdb:S.b d=none)(ED:C.eY d=none)
  (next:RunT P C ops nd K rest (⟨rg++(aW g++xs.toList.flatMap aW),[d],ks,⟨some (d,.ptr d 0),[(d,⟨T,bO ks c⟩)],qj [] ks c⟩⟩::acc) ((AS.bC (qj [] ks c) (AS.dJ [(d,⟨T,bO ks c⟩)] S)).set d (.ptr d 0))):RunT P C ops nd K (⟨some d,.call ⟨.value g,xs,at_⟩,ty,pos,aft,gd⟩::rest) acc S:=by
 refine .inl ⟨_,[d],ks,_,?_,next⟩;rintro S' hn ht hb hr i a w L Q ho ⟨E,h⟩ hL;refine bU (C:=C) ho (hg.wanted h (λs hs=>ht s (List.mem_append_left _ hs)) Y) ?_;have qW:a.eval g=.func (.func f) #[] ⟨[]⟩:=by
  have h1:=h.ev g;rw[bk (λ_ h=>List.mem_append_right _ (List.mem_append_left _ h)) ht,hf]at h1;exact h1
 have hall:=fM.vals h hargs (λs hs=>ht s (List.mem_append_right _ (List.mem_append_right _ hs)));have hdn:S'.b d=none:=by rw[hb d (by simp)];exact hdb
 refine bV (C:=C) (by intro c h;cases h) (jc qW) ?_;rw[List.append_nil];refine⟨λh=>by simp at h,fD ((hp E.M w _ h.cy hall).mono ?_)⟩;rintro e w' ⟨β,rs,M',us,rfl,hM,hnew,hin,JO,Cn,hβ,GZ,Ld⟩;obtain⟨E',e1,e2,h1⟩:=h.newObj hdn ED hks vT (Ib.congr hr) hM hnew hin Cn hβ GZ Ld;refine hL _ _ ⟨_,h1.put (x:=.ptr d 0) (v:=.pointer (some ⟨β,0,none⟩)) (by show _=Value.pointer (some ⟨E'.β d,0,none⟩);rw[e2]) ?_ ⟨λj e=>?_,λj e=>e.elim⟩⟩
 ·rw[(dy _ _).1];show d<S'.n;omega
 have e:j=d:=e;subst e;rw[(dy _ _).2.2.1];exact⟨_,AS.cc _ _ _⟩
theorem RT.Cz(hg:Gd ops S gd rg){f:FuncId}[er P f]{g:Operand}{xs:Array Operand}{at_:Array TypeId}{args:List SV}{T:TypeId}{c:List Oc}{s:SV}(hp:DN P f args true [s] T c)(ks:List Nat)(hks:ks.Nodup)(vT:ks.length=(rowsOf c).length)(Ib:Un S ks)(hf:S.ev g=.sv (.v (.func (.func f) #[] #[])))(hargs:fM S xs.toList args)(hd:d<S.n)(hdb:S.b d=none)(ED:C.eY d=none)
  (next:RunT P C ops nd K rest (⟨rg++(aW g++xs.toList.flatMap aW),[d],ks,⟨some (d,.cmp .sN [.box d,.val s]),[(d,⟨T,bO ks c⟩)],qj [] ks c⟩⟩::acc) ((AS.bC (qj [] ks c) (AS.dJ [(d,⟨T,bO ks c⟩)] S)).set d (.cmp .sN [.box d,.val s]))):RunT P C ops nd K (⟨some d,.call ⟨.value g,xs,at_⟩,ty,pos,aft,gd⟩::rest) acc S:=by
 refine .inl ⟨_,[d],ks,_,?_,next⟩;rintro S' hn ht hb hr i a w L Q ho ⟨E,h⟩ hL;refine bU (C:=C) ho (hg.wanted h (λs hs=>ht s (List.mem_append_left _ hs)) Y) ?_;have qW:a.eval g=.func (.func f) #[] ⟨[]⟩:=by
  have h1:=h.ev g;rw[bk (λ_ h=>List.mem_append_right _ (List.mem_append_left _ h)) ht,hf]at h1;exact h1
 have hall:=fM.vals h hargs (λs hs=>ht s (List.mem_append_right _ (List.mem_append_right _ hs)));have hdn:S'.b d=none:=by rw[hb d (by simp)];exact hdb
 refine bV (C:=C) (by intro c h;cases h) (jc qW) ?_;rw[List.append_nil];refine⟨λh=>by simp at h,fD ((hp E.M w _ h.cy hall).mono ?_)⟩;rintro e w' ⟨β,rs,M',us,rfl,hM,hnew,hin,JO,Cn,hβ,GZ,Ld⟩;obtain⟨E',e1,e2,h1⟩:=h.newObj hdn ED hks vT (Ib.congr hr) hM hnew hin Cn hβ GZ Ld
 match rs,JO with
 |[r],JO=>
  refine hL _ _ ⟨_,h1.put (x:=.cmp .sN [.box d,.val s]) (v:=.tuple #[.pointer (some ⟨β,0,none⟩),r]) ⟨[.pointer (some ⟨β,0,none⟩),r],Y,by show _=Value.pointer (some ⟨E'.β d,0,none⟩);rw[e2],by show s.h E'.M r;rw[e1];exact JO.1,aq⟩ ?_ ⟨λj e=>?_,λj e=>?_⟩⟩
  ·rw[(dy _ _).1];show d<S'.n;omega
  ·have e:j=d:=by simpa[AV.mb]using e
   subst e;rw[(dy _ _).2.2.1];exact⟨_,AS.cc _ _ _⟩
  simp[AV.mr]at e
end steps
end
section
open Go.RowKit
def yB(P:Program)(f:FuncId)(args:List AV)(T:TypeId)(c:List Oc)(res:SV):Prop:=
 ∀(M:Mem) (w:World) (β:Nat) (vs us:List Value),M.cy w->mm M w β T c us->cn (nf M β) args vs->
  Calls P f ⟨vs⟩ w λe w'=>∃v M',e=.returned v/\M.le M'/\(∀b o x,M' b o=some x->M b o=some x\/w.heap.size<=b)/\M'.cy w'/\res.h M' v/\
   mm M' w' β T c us/\w'.os=w.os/\w'.tape=w.tape/\w'.output=w.output/\w.heap.size<=w'.heap.size/\∀k,k<w.heap.size->k≠β->¬eL c us k->w'.heap[k]? =w.heap[k]?
def N1:List (Nat×Row×Value)->Nat->Option Value
 |[],_=>none
 |(k,_,v)::l,j=>if j=k then some v else N1 l j
theorem yC:∀{l:List (Nat×Row×Value)} {j:Nat} {v:Value},N1 l j=some v->∃R,(j,R,v)∈l
 |(k,R,u)::l,j,v,h=>by
  rw[N1]at h;by_cases e:j=k
  ·rw[if_pos e]at h;cases h;subst e;exact⟨R,by simp⟩
  rw[if_neg e]at h;obtain⟨R',hm⟩:=yC h;exact⟨R',List.mem_cons_of_mem _ hm⟩
 |[],_,_,h=>by cases h
theorem FH:∀{l:List (Nat×Row×Value)} {j:Nat} {R:Row} {v:Value},(l.map (·.1)).Nodup->(j,R,v)∈l->N1 l j=some v
 |(k,R',v')::l,j,R,v,hn,h=>by
  rw[List.map_cons,List.nodup_cons]at hn;rw[N1];rcases List.mem_cons.1 h with e|e
  ·cases e;rw[if_pos rfl]
  have:j≠k:=λq=>hn.1 (List.mem_map.2 ⟨(j,R,v),e,q⟩);rw[if_neg this];exact FH hn.2 e
theorem MH{ids:List Nat}(h:(ids.all λi=>Nat.ble 1000 i)=true):∀i∈ids,1000<=i:=λi hi=>af (List.all_eq_true.1 h i hi)
def PJ(w:World)(M:Mem)(β:Nat)(c:List Oc)(us:List Value)(ids:List Nat)(xN:(ids.all λi=>Nat.ble 1000 i)=true):Ctx:={w0:=w,M0:=M,own:=λk=>k=β\/eL c us k,nu:=λk=>k=β\/eL c us k,eY:=λi=>bif Nat.beq i 1000 then some β else none,cX:=N1 (ids.zip (bG c us)),ro:=none,J:=λ_ _ _ _ _=>True,vP:=λ_ h=>h,C9:=λ_ _ h=>(by obtain⟨R,hm⟩:=yC h;exact MH xN _ (fO hm).1),jf:=λ_ _ _ _ _ _ _ _ _ _ _ _ _ _ _ _=>trivial}
def Oc.cst:Oc->Prop
 |.s x=>∃v,x=.v v
 |.r _=>True
def BN:List Oc->Prop
 |[]=>True
 |c::l=>c.cst/\BN l
theorem yD{M M':Mem}{w w':World}:∀{c:List Oc} {us us':List Value},BN c->m8 M w c us->m8 M' w' c us'->bG c us=bG c us'->us=us'
 |[],[],[],_,_,_,_=>rfl
 |.s x::l,v::vs,v'::vs',hc,h,h',e=>by
  obtain⟨y,rfl⟩:=hc.1;have e1:v=y:=h.1;have e2:v'=y:=h'.1;rw[e1,e2,yD hc.2 h.2 h'.2 e]
 |.r R::l,v::vs,v'::vs',hc,h,h',e=>by
  rw[bG,bG]at e;have e1:=(List.cons.inj e).1;have e2:=(List.cons.inj e).2;rw[yD hc.2 h.2 h'.2 e2];rw[(Prod.mk.inj e1).2]
 |[],[],_::_,_,_,h,_=>h.elim
 |[],_::_,_,_,h,_,_=>h.elim
 |.s _::_,[],_,_,h,_,_=>h.elim
 |.r _::_,[],_,_,h,_,_=>h.elim
 |.s _::_,_::_,[],_,_,h,_=>h.elim
 |.r _::_,_::_,[],_,_,h,_=>h.elim
theorem iS{P:Program}{f:FuncId}{fn:Func}{code:Code}{args:List AV}{T:TypeId}{c:List Oc}{res:SV}(ids:List Nat)(hf:P.funcs[f]? =some fn)(hb:fn.body=some code)(hn:args.length<=fn.ntmps)(D5:args.all AV.oy=true)(xN:ids.Nodup)(NZ:ids.length=(rowsOf c).length)(hge:(ids.all λi=>Nat.ble 1000 i)=true)(Yx:BN c)
  (h:∀(w:World) (M:Mem) (β:Nat) (us:List Value),Ok P (PJ w M β c us ids hge) code (AS.vU fn.ntmps args [(1000,⟨T,bO ids c⟩)] (ids.zip (rowsOf c))) (λe S=>(e=.normal\/e=.ret)/\Ek P S fn.results.toList res/\S.b 1000=some ⟨T,bO ids c⟩/\Lv S ids (rowsOf c))):yB P f args T c res:=by
 intro M w β vs us hM ho hv;have N0:(bG c us).length=(rowsOf c).length:=by rw[<-ff ho.al,List.length_map]
 have hnd:((ids.zip (bG c us)).map (·.1)).Nodup:=by rw[tW (by omega)];exact xN
 have Lf:aZ (PJ w M β c us ids hge) (AS.vU fn.ntmps args [(1000,⟨T,bO ids c⟩)] (ids.zip (rowsOf c))) ⟨λ_=>β,gQ (ids.zip (bG c us)) (λ_=>.nilIface),λ_=>False,M⟩ {tmps:=⟨vs⟩++Array.replicate (fn.ntmps-(⟨vs⟩:Array Value).size) undef,defers:=[]} w:=by
  have h0:=Cx (n:=fn.ntmps) ids hM ho hv D5 hn xN NZ
  exact{wf:=h0.wf,marks:=h0.marks,size:=h0.size,os:=h0.os,tape:=h0.tape,output:=h0.output,grown:=h0.grown,frame:=h0.frame,m0:=h0.m0,dh:=h0.dh,cy:=h0.cy,tm:=h0.tm,bx:=h0.bx,inj:=h0.inj,rx:=h0.rx,dI:=h0.dI,eY:=h0.eY,cX:=λi v e=>(by
   obtain⟨R,hm⟩:=yC e
   exact fF hnd hm),gU:=h0.gU,jj:=trivial}
 refine ew Y hf hb Lf (h w M β us) ?_;rintro S' E a w' ⟨hr,hB,hL⟩ hh;obtain⟨v,hv,hx⟩:=(sS.sv hr).run hh;have hβ:E.β 1000=β:=hh.eY 1000 β Y;obtain⟨us',ho',hH⟩:=kW hh hB hL xN;rw[hβ]at ho';obtain⟨_,_,_,Oi,q2,q3⟩:=hh.bx 1000 _ hB;rw[hβ,ho'.hp]at q2;obtain rfl:us'=Oi:=by
  have:=Option.some.inj q2;injection this with e
  injection e
 obtain⟨_,Yy⟩:=m9 hh hL q3;have gX:bG c us=bG c us':=by
  rw[Yy];have key:∀(ids:List Nat) (l:List (Row×Value)) (Rs:List Row),ids.length=l.length->l.map (·.1)=Rs->(∀i R v,(i,R,v)∈ids.zip l->E.ν i=v)->l=Rs.zip (ids.map E.ν):=by
   intro ids
   induction ids with
   |nil=>intro l Rs hl hm _;cases l with|nil=>cases hm;rfl|cons _ _=>simp at hl
   |cons i ids ih=>
    intro l Rs hl hm hν;cases l with
    |nil=>simp at hl
    |cons p l=>
     cases hm;obtain⟨R,v⟩:=p;rw[List.map_cons,List.map_cons,List.zip_cons_cons,hν i R v (by rw[List.zip_cons_cons];simp),<-ih l _ (by simpa using hl) Y (λi R v hm=>hν i R v (by rw[List.zip_cons_cons];exact List.mem_cons_of_mem _ hm))]
  exact key ids _ _ (by omega) (ff ho.al) (λi R v hm=>hh.cX i v (FH hnd hm))
 obtain rfl:us=us':=yD Yx ho.al ho'.al gX;refine⟨v,hv,v,E.M,Y,hh.m0,λb o x e=>?_,hh.cy,hx,ho',hh.os,hh.tape,hh.output,hh.grown,λk hk hne hno=>hh.frame k hk (λe=>e.elim hne hno)⟩;rcases hh.dh b o x e with q|q|q|q
 ·exact .inl q
 ·exact .inr q
 ·rw[show b=β from q,ho'.nb o]at e;cases e
 rw[(ho'.nr b q).2 o]at e;cases e
section steps
variable {P:Program}{C:Ctx}{ops:Array Oper}{S:AS}{nd:Bool}{K:List Ac->AS->Prop}{rest:List Oper}{acc:List Ac}
variable {gd:Option (Nat×Bool)}{rg:List Nat}{d:Nat}{ty:TypeId}{pos:String}{aft:Array Edge}{x y z:Operand}{T U E0:TypeId}
theorem aZ.CA{E:Env}{a:Act}{w w':World}(h:aZ C S E a w){i:Nat}{js:List Nat}{c:List Oc}{us:List Value}{M':Mem}(hB:S.b i=some ⟨T,bO js c⟩)(hL:Lv S js (rowsOf c))(JK:js.Nodup)(uh:mm E.M w (E.β i) T c us)
  (hM:E.M.le M') (hn:∀b o x,M' b o=some x->E.M b o=some x\/w.heap.size<=b) (hin:M'.cy w') (ho:mm M' w' (E.β i) T c us)
  (hos:w'.os=w.os) (kV:w'.tape=w.tape) (hout:w'.output=w.output) (hsize:w.heap.size<=w'.heap.size) (hH:∀k,k<w.heap.size->k≠E.β i->¬eL c us k->w'.heap[k]? =w.heap[k]?):
  aZ C S {E with M:=M'} a w':=by
 obtain⟨DJ,Yp,H9,N2,DK,PK⟩:=h.bx i _ hB;obtain rfl:N2=us:=by
  rw[uh.hp]at DK;have:=Option.some.inj DK;injection this with e
  injection e with e
  exact e.symm
 obtain⟨_,N0⟩:=m9 h hL PK;have hlen:=hL.len;have xT:∀g,eL c N2 g↔∃j∈js,(E.ν j).ownBlock=some g:=λg=>by
  unfold eL;rw[N0];constructor
  ·rintro⟨⟨R,v⟩,hm,hg⟩;obtain⟨j,hj,rfl⟩:=List.mem_map.1 (fO hm).2;exact⟨j,hj,hg⟩
  rintro⟨j,hj,hg⟩;obtain⟨R,hR⟩:=nc (l:=rowsOf c) (k:=js.map E.ν) (by simp[hlen]) (List.mem_map.2 ⟨j,hj,Y⟩);exact⟨(R,E.ν j),hR,hg⟩
 have rI:∀g,eL c N2 g->(C.w0.heap.size<=g\/C.nu g)/\¬E.O g/\(∀n B,S.b n=some B->E.β n≠g)/\∃c e,w.heap[g]? =some (Obj.cells c e (0,0)):=λg hg=>by
  obtain⟨j,hj,sQ⟩:=(xT g).1 hg;obtain⟨R,hR⟩:=hL.mem j hj;obtain⟨⟨us,q1,_⟩,q2⟩:=h.rx j R hR;obtain⟨q3,q4,q5,q6⟩:=q2 g sQ;refine⟨q3,q5,q6,?_⟩;rcases q1.2 with⟨q7,_⟩|⟨g',cap,cur,q7,_,q8,_⟩
  ·rw[q7]at sQ;cases sQ
  rw[q7]at sQ;cases sQ;exact⟨_,_,q8⟩
 have keep:∀x:AV,∀v,x.holds E v->x.holds {E with M:=M'} v:=λx v hv=>AV.bT (E:=E) (E':={E with M:=M'}) hM (λ_ _=>rfl) (λ_ _=>rfl) hv;have MD:∀b,b<w.heap.size->(∀o,E.M b o=none)->∀o,M' b o=none:=λb h1 h2 o=>by
  cases e:M' b o with
  |none=>rfl
  |some v=>
   rcases hn b o v e with q|q
   ·rw[h2 o]at q;cases q
   omega
 exact{
  wf:=h.wf
  marks:=by
   obtain⟨ds,d1,d2,d3⟩:=h.marks;refine⟨ds,d1,d2,λr hr=>?_⟩;obtain⟨p1,p2,p3⟩:=d3 r hr;refine⟨p1,p2,?_⟩;rw[hH r (Array.getElem?_eq_some_iff.1 p3).1 (λe=>by rw[e,DK]at p3;cases p3) (λe=>by
    obtain⟨_,_,_,c,e2,q⟩:=rI r e;rw[q]at p3;cases p3)]
   exact p3
  size:=h.size
  os:=hos.trans h.os
  tape:=kV.trans h.tape
  output:=hout.trans h.output
  grown:=Nat.le_trans h.grown hsize
  frame:=λk hk hown=>by
   rw[hH k (Nat.lt_of_lt_of_le hk h.grown) (λe=>by
    rcases DJ with q|q
    ·omega
    ·exact hown (C.vP _ (by rw[e];exact q))) (λe=>by
    rcases(rI k e).1 with q|q
    ·omega
    exact hown (C.vP _ q))]
   exact h.frame k hk hown
  m0:=Mem.le_trans h.m0 hM
  dh:=λb o v e=>by
   rcases hn b o v e with q|q
   ·exact h.dh b o v q
   exact .inr (.inl (Nat.le_trans h.grown q))
  cy:=hin
  tm:=λs=>keep _ _ (h.tm s)
  bx:=λj B dK=>by
   obtain⟨p1,p2,p3,vs,p4,p5⟩:=h.bx j B dK;have hlt:=(Array.getElem?_eq_some_iff.1 p4).1;by_cases e:j=i
   ·subst e;rw[hB]at dK;cases dK;refine⟨p1,ho.nb,p3,N2,ho.hp,?_⟩;exact PK.imp (λx _ v hv=>keep x v hv)
   refine⟨p1,MD _ hlt p2,p3,vs,?_,p5.imp (λx _ v hv=>keep x v hv)⟩;show w'.heap[E.β j]? =_;rw[hH _ hlt (λq=>e (h.inj j i B _ dK hB q)) (λq=>(rI _ q).2.2.1 j B dK Y)];exact p4
  inj:=h.inj
  rx:=λj R hR=>by
   obtain⟨⟨vs,p1,p2⟩,p3⟩:=h.rx j R hR;by_cases hj:j∈js
   ·have hz:(R,E.ν j)∈bG c N2:=by
     rw[N0];have key:∀(js:List Nat) (Rs:List Row),Lv S js Rs->j∈js->(R,E.ν j)∈Rs.zip (js.map E.ν):=by
      intro js
      induction js with
      |nil=>intro _ _ h;cases h
      |cons k js ih=>
       intro Rs hl hm;cases Rs with
       |nil=>exact hl.elim
       |cons R' Rs=>
        rw[List.map_cons,List.zip_cons_cons];rcases List.mem_cons.1 hm with q|q
        ·subst q;have:=hl.1;rw[hR]at this;cases this;simp
        exact List.mem_cons_of_mem _ (ih Rs hl.2 q)
     exact key js _ hL hj
    refine⟨iQ ho.al _ hz,λg hg=>?_⟩;obtain⟨p4,p5,p6,p7⟩:=p3 g hg;exact⟨p4,(ho.nr g ⟨_,hz,hg⟩).2,p6,p7⟩
   have PG:∀g,(E.ν j).ownBlock=some g->¬eL c N2 g:=λg hg q=>by
    obtain⟨j',hj',e⟩:=(xT g).1 q;obtain⟨R',jU⟩:=hL.mem j' hj';have:=h.dI j j' R R' hR jU g hg e;subst this;exact hj hj'
   refine⟨⟨vs,cH p1 λg hg=>hH g (fT h hR hg) (λe=>(p3 g hg).2.2.2 i _ hB e.symm) (PG g hg),p2.mono hM⟩,λg hg=>?_⟩;obtain⟨p4,p5,p6,p7⟩:=p3 g hg;exact⟨p4,MD g (fT h hR hg) p5,p6,p7⟩
  dI:=h.dI
  eY:=h.eY
  cX:=h.cX
  gU:=λb hb=>by
   obtain⟨p1,p2,p3⟩:=h.gU b hb;exact⟨Nat.lt_of_lt_of_le p1 hsize,MD b p1 p2,p3⟩
  jj:=C.jf S.g S.go E.O E.M M' w w' h.jj hM hin (λb o v e=>by
    rcases hn b o v e with q|q
    ·exact .inl q
    ·exact .inr ⟨.inl (Nat.le_trans h.grown q),λq2=>by have:=(h.gU b q2).1;omega⟩) (λb hb=>by
    have hb':b<w.heap.size:=by
     rcases hb with⟨q,_⟩|q
     ·exact Nat.lt_of_lt_of_le q h.grown
     exact(h.gU b q).1
    refine hH b hb' (λe=>?_) (λe=>?_)
    ·subst e;rcases hb with⟨q1,q2⟩|q
     ·rcases DJ with p|p
      ·omega
      exact q2 p
     exact H9 q
    obtain⟨o1,o3,_⟩:=rI b e;rcases hb with⟨q1,q2⟩|q
    ·rcases o1 with p|p
     ·omega
     exact q2 p
    exact o3 q) hos kV hout hsize}
theorem RT.gR(hg:Gd ops S gd rg){f:FuncId}[er P f]{g:Operand}{xs:Array Operand}{at_:Array TypeId}{args:List AV}{T:TypeId}{c:List Oc}{res:SV}(hp:yB P f args T c res)(i:Nat)(js:List Nat)(hB:S.b i=some ⟨T,bO js c⟩)(hL:Lv S js (rowsOf c))(JK:js.Nodup)
  (D5:args.all AV.oy=true) (hf:S.ev g=.sv (.v (.func (.func f) #[] #[]))) (hargs:oA S xs.toList (args.map (AV.JI i))) (hd:d<S.n)
  (next:RunT P C ops nd K rest (⟨rg++(aW g++xs.toList.flatMap aW),[i],js,⟨some (d,.sv res),[],[]⟩⟩::acc) (S.set d (.sv res))):RunT P C ops nd K (⟨some d,.call ⟨.value g,xs,at_⟩,ty,pos,aft,gd⟩::rest) acc S:=by
 refine .inl ⟨_,[i],js,_,?_,next⟩;rintro S' hn ht hb hr k a w L Q ho ⟨E,h⟩ PI;refine bU (C:=C) ho (hg.wanted h (λs hs=>ht s (List.mem_append_left _ hs)) Y) ?_;have qW:a.eval g=.func (.func f) #[] ⟨[]⟩:=by
  have h1:=h.ev g;rw[bk (λ_ h=>List.mem_append_right _ (List.mem_append_left _ h)) ht,hf]at h1;exact h1
 have hall:=tX D5 (oA.vals h hargs (λs hs=>ht s (List.mem_append_right _ (List.mem_append_right _ hs))));have dK:S'.b i=some ⟨T,bO js c⟩:=by rw[hb i (by simp)];exact hB
 have JM:Lv S' js (rowsOf c):=hL.congr (λk hk=>hr k hk);obtain⟨us,Ic,vg⟩:=kW h dK JM JK;refine bV (C:=C) (by intro c h;cases h) (jc qW) ?_;rw[List.append_nil];refine⟨λh=>by simp at h,fD ((hp E.M w (E.β i) _ us h.cy Ic hall).mono ?_)⟩;rintro e w' ⟨v,M',rfl,hM,hnew,hin,hv,Cn,hos,kV,hout,hsize,hH⟩;have h1:=h.CA dK JM JK Ic hM hnew hin Cn hos kV hout hsize hH;exact PI _ _ ⟨_,h1.put (x:=.sv res) (v:=v) hv (by show d<S'.n;omega) dY⟩
theorem RT.Ig(hg:Gd ops S gd rg){f:FuncId}[er P f]{g:Operand}{xs:Array Operand}{at_:Array TypeId}{args:List AV}{T:TypeId}{c:List Oc}{res:SV}(hp:yB P f (.ptr 1000 0::args) T c res)(i:Nat)(js:List Nat)(hB:S.b i=some ⟨T,bO js c⟩)(hL:Lv S js (rowsOf c))(JK:js.Nodup)
  (D5:args.all AV.oy=true) (hf:S.ev g=.cmp (.NA f) [.box i]) (hargs:oA S xs.toList (args.map (AV.JI i))) (hd:d<S.n)
  (next:RunT P C ops nd K rest (⟨rg++(aW g++xs.toList.flatMap aW),[i],js,⟨some (d,.sv res),[],[]⟩⟩::acc) (S.set d (.sv res))):RunT P C ops nd K (⟨some d,.call ⟨.value g,xs,at_⟩,ty,pos,aft,gd⟩::rest) acc S:=by
 refine .inl ⟨_,[i],js,_,?_,next⟩;rintro S' hn ht hb hr k a w L Q ho ⟨E,h⟩ PI;refine bU (C:=C) ho (hg.wanted h (λs hs=>ht s (List.mem_append_left _ hs)) Y) ?_;have qW:a.eval g=.func (.func f) ⟨[.pointer (some ⟨E.β i,0,none⟩)]⟩ #[]:=by
  have h1:=h.ev g;rw[bk (λ_ h=>List.mem_append_right _ (List.mem_append_left _ h)) ht,hf]at h1;obtain⟨vs,h2,h3⟩:=h1;cases vs with
  |nil=>exact h3.elim
  |cons v vs=>
   cases vs with
   |cons _ _=>exact h3.2.elim
   |nil=>rw[h2,show v=_ from h3.1];rfl
 have hall:cn (nf E.M (E.β i)) (.ptr 1000 0::args) (.pointer (some ⟨E.β i,0,none⟩)::xs.toList.map a.eval):=⟨Y,tX D5 (oA.vals h hargs (λs hs=>ht s (List.mem_append_right _ (List.mem_append_right _ hs))))⟩;have dK:S'.b i=some ⟨T,bO js c⟩:=by rw[hb i (by simp)];exact hB
 have JM:Lv S' js (rowsOf c):=hL.congr (λk hk=>hr k hk);obtain⟨us,Ic,vg⟩:=kW h dK JM JK;refine bV (C:=C) (by intro c h;cases h) (DM qW) ?_;refine⟨λh=>by simp at h,fD ((hp E.M w (E.β i) _ us h.cy Ic hall).mono ?_)⟩;rintro e w' ⟨v,M',rfl,hM,hnew,hin,hv,Cn,hos,kV,hout,hsize,hH⟩;have h1:=h.CA dK JM JK Ic hM hnew hin Cn hos kV hout hsize hH;exact PI _ _ ⟨_,h1.put (x:=.sv res) (v:=v) hv (by show d<S'.n;omega) dY⟩
end steps
end
end Go.Fw
namespace Go.Proofs.Ytmiflmkdaeianaa
section
open Go.Fw
noncomputable def dP(x0:Qr):Option (Zr):=match x0 with|⟨⟨bQ,bM⟩,⟨gB,ic⟩⟩=>(gP 1 2).bind λ⟨⟨⟨vb,vc⟩,⟨FI,FJ⟩⟩,Yz⟩=>(iw ⟨⟨bQ,bM⟩,⟨gB,ic⟩⟩).bind λ⟨kq,ku⟩=>(bn 1).bind λ⟨kx,kz⟩=>(dg ⟨kq,ku⟩ ⟨kx,kz⟩).bind λ⟨FK,FL⟩=>(cS ⟨kq,ku⟩).bind λ⟨⟨xk,CB⟩,⟨CC,xl⟩⟩=>(iO ⟨⟨bQ,bM⟩,⟨gB,ic⟩⟩ ⟨⟨xk,CB⟩,⟨CC,xl⟩⟩).bind λ⟨⟨JP,JQ⟩,⟨JR,JS⟩⟩=>(iP ⟨⟨JP,JQ⟩,⟨JR,JS⟩⟩ ⟨⟨vb,vc⟩,⟨FI,FJ⟩⟩).bind λeG=>(some (decide ((eG:Int)=(-1)))).bind λiM=>(bif iM then some ⟨kq,ku⟩else(some (decide ((eG:Int)=1))).bind λgJ=>(bif gJ then some ⟨FK,FL⟩else(bn 2).bind λ⟨vk,vm⟩=>(b8 ⟨kq,ku⟩ ⟨vk,vm⟩).bind λ⟨⟨MI,MJ⟩,⟨FM,FN⟩,YA⟩=>(cr ⟨FM,FN⟩).bind λnZ=>(some (decide ((nZ:Int)=0))).bind λnD=>(bif nD then some ⟨kq,ku⟩else some ⟨FK,FL⟩)))
noncomputable def iT(x0:Int):Option (Int×(List En)):=cY (λ(MK:Bool)=>(bif MK then none else some (x0,[]))) λK3=>(some (decide ((x0:Int)<1))).bind λx5=>(bif x5 then some true else(some (decide ((64:Int)<x0))).bind λx8=>some x8).bind λPL=>K3 PL
noncomputable def cu(o0:Int)(o1:List En):Option (Bool):=cY (λ(PM:Bool)=>some PM) λK3=>(bif false then none else(some (decide ((o0:Int)=0))).bind λfN=>some fN).bind λJU=>K3 JU
noncomputable def eV(o0:Int)(o1:List En)(x1:Int):Option (Bool):=cY (λ(PN:Bool)=>some PN) λK3=>(some (decide ((0:Int)<x1))).bind λx6=>(bif x6 then(some (decide ((x1:Int)<o0))).bind λig=>some ig else some false).bind λJV=>K3 JV
noncomputable def iy(x0:En)(o0:Int)(o1:List En):Option (Int):=match x0 with|⟨bQ,bM,gB,⟨ic,PO⟩⟩=>(eV o0 o1 bQ).bind λx8=>(some (!x8)).bind λx9=>(bif x9 then some 1 else cY (λ(FO:Bool)=>(bif FO then some 12 else cY (λ(vn:Bool)=>(bif vn then some 1 else some 0)) λK6=>(some (decide ((gB:Int)<(-1)))).bind λiV=>(bif iV then some true else(some (decide ((8:Int)<=gB))).bind λeG=>some eG).bind λJW=>K6 JW)) λK3=>(some (decide ((bM:Nat)<1))).bind λia=>(bif ia then some true else(some (decide ((4:Nat)<bM))).bind λjl=>some jl).bind λJX=>K3 JX)
noncomputable def bP(o0:Int)(o1:List En)(x1:Int)(x2:Nat)(x3:Int)(x4:Qr):Option (Int×(List En)):=match x4 with|⟨⟨DG,DH⟩,⟨PR,PS⟩⟩=>(cu o0 o1).bind λjS=>(bif jS then some (2,o1)else(iy ⟨x1,x2,x3,⟨false,[]⟩⟩ o0 o1).bind λjH=>(some (decide ((jH:Int)≠0))).bind λeG=>(bif eG then some (jH,o1)else(some (o1.length:Int)).bind λoH=>(some (decide ((1024:Int)<=oH))).bind λnL=>(bif nL then some (5,o1)else(dP ⟨⟨DG,DH⟩,⟨PR,PS⟩⟩).bind λ⟨vk,vm⟩=>(qK 56 o1 [⟨x1,x2,x3,⟨vk,vm⟩⟩]).bind λqL=>some (0,qL))))
noncomputable def cj(o0:Int)(o1:List En):Option (List En):=(cu o0 o1).bind λx7=>(bif x7 then some []else(some (o1.length:Int)).bind λia=>(GV 56 ia (⟨0,0,0,⟨false,[]⟩⟩:En)).bind λig=>(some (o1.length:Int)).bind λgi=>(cK (λ(s8:Int×(List En))=>match s8 with|⟨Ao,Ap⟩=>(show Option ((Int×(List En))⊕((List En)))from(some (decide ((Ao:Int)<gi))).bind λiV=>(bif iV then(rf o1 Ao).bind λjH=>(o1[jH]?).bind λ⟨xm,xn,xo,⟨Aq,JY⟩⟩=>(dg ⟨Aq,JY⟩ ⟨false,[]⟩).bind λ⟨si,sj⟩=>(rf Ap Ao).bind λkn=>(stM Ap kn ⟨xm,xn,xo,⟨si,sj⟩⟩).bind λCo=>(some (IntKind.i64.wrap (Ao+1))).bind λqN=>some (.inl (qN,Co))else some (.inr Ap)))) (0,ig)).bind λvo=>some vo)
noncomputable def cP(o0:Int)(o1:List En):Option (List Zr):=(cu o0 o1).bind λx7=>(bif x7 then some []else(GV 32 o0 (⟨false,[]⟩:Zr)).bind λia=>(some (o1.length:Int)).bind λgh=>(cK (λ(zS:Int×(List Zr))=>match zS with|⟨CD,vp⟩=>(show Option ((Int×(List Zr))⊕((List Zr)))from(some (decide ((CD:Int)<gh))).bind λmu=>(bif mu then(rf o1 CD).bind λiV=>(o1[iV]?).bind λ⟨xk,CB,CC,⟨xl,FP⟩⟩=>(rf vp xk).bind λlq=>(vp[lq]?).bind λ⟨ql,qm⟩=>(dg ⟨ql,qm⟩ ⟨xl,FP⟩).bind λ⟨ir,gA⟩=>(rf vp xk).bind λqN=>(stM vp qN ⟨ir,gA⟩).bind λG1=>(rf G1 0).bind λwe=>(G1[we]?).bind λ⟨oc,oe⟩=>(fX ⟨oc,oe⟩ ⟨xl,FP⟩).bind λ⟨mc,me⟩=>(rf G1 0).bind λv5=>(stM G1 v5 ⟨mc,me⟩).bind λYB=>(some (IntKind.i64.wrap (CD+1))).bind λqL=>some (.inl (qL,YB))else some (.inr vp)))) (0,ia)).bind λvq=>some vq)
noncomputable def gb(o0:Int)(o1:List En)(x1:Nat):Option (Zr):=(cu o0 o1).bind λfN=>(bif fN then some ⟨false,[]⟩else(some (o1.length:Int)).bind λjl=>(cK (λ(s8:Int×Bool×(List Nat))=>match s8 with|⟨Ar,rK,rL⟩=>(show Option ((Int×Bool×(List Nat))⊕(Bool×(List Nat)))from(some (decide ((Ar:Int)<jl))).bind λgi=>(bif gi then(rf o1 Ar).bind λmu=>(o1[mu]?).bind λ⟨xh,sx,xj,⟨u0,JZ⟩⟩=>(some (decide ((sx:Nat)=x1))).bind λeG=>cY (λ(N3:Bool×(List Nat))=>match N3 with|⟨BO,BP⟩=>(some (IntKind.i64.wrap (Ar+1))).bind λgJ=>some (.inl (gJ,BO,BP))) λK10=>(bif eG then(dg ⟨rK,rL⟩ ⟨u0,JZ⟩).bind λ⟨FR,FU⟩=>K10 (FR,FU)else K10 (rK,rL))else some (.inr (rK,rL))))) (0,false,[])).bind λe8=>match e8 with|⟨FV,FW⟩=>some ⟨FV,FW⟩)
end
section
open Go.Fw Go.Fw.Z Go.RowKit
instance:JN ah 35:=⟨by kernel_rfl⟩
theorem gD{x0:Qr}{r:Zr}(h:dP x0=some r):Pure ah 12 [.agg (eQ x0)] (.agg (eZ r)):=by
 obtain⟨⟨bQ,bM⟩,⟨gB,ic⟩⟩:=x0;refine bH Try.func12 Y (af Y) (λgw M vs hvs=>?_);unfold dP at h;refine sr<|bx Y<|al (cs:=[az false,ax]) (by exact⟨au,aB,aq⟩) Y<|dn<|sr ?_;obtain⟨⟨⟨⟨vb,vc⟩,⟨FI,FJ⟩⟩,Yz⟩,oL,h⟩:=bS h;refine cl (sy oL) ⟨Y,Y,aq⟩<|mv Y<|ex Y Y<|ex Y Y<|al (cs:=[az false,ax,az false,ax]) (by exact⟨au,aB,au,aB,aq⟩) Y<|so Y Y Y<|ag Y<|dn<|sr<|ld Y Y (.k4 Y Y Y Y) ?_;obtain⟨⟨kq,ku⟩,tc,h⟩:=bS h;refine cl (wB tc) ⟨Y,aq⟩<|al (cs:=[az false,ax]) (by exact⟨au,aB,aq⟩) Y<|so Y Y Y<|dn<|qq<|bf mixed<|ld Y Y (.k2 Y Y) ?_;obtain⟨⟨kx,kz⟩,kO,h⟩:=bS h;refine cl (fz kO) ⟨Y,aq⟩ ?_;obtain⟨⟨FK,FL⟩,kG,h⟩:=bS h;refine cl (iv kG) ⟨Y,Y,aq⟩<|al (cs:=[az false,ax]) (by exact⟨au,aB,aq⟩) Y<|so Y Y Y ?_;refine RT.done ⟨by kernel_rfl,?_⟩;refine aV.n<|qq<|qq<|bf mixed<|ld Y Y (.k4 Y Y Y Y)<|ld Y Y (.k2 Y Y) ?_;obtain⟨⟨⟨xk,CB⟩,⟨CC,xl⟩⟩,pV,h⟩:=bS h;refine cl (nS pV) ⟨Y,aq⟩ ?_;obtain⟨⟨⟨JP,JQ⟩,⟨JR,JS⟩⟩,sZ,h⟩:=bS h;refine cl (Ah sZ) ⟨Y,Y,aq⟩<|ld Y Y (.k4 Y Y Y Y)<|bE h λeG mg h=>cl (Ai mg) ⟨Y,Y,aq⟩ ?_;refine RT.done ⟨by kernel_rfl,?_⟩;refine aV.n<|bj<|sr<|lE h λiM o7 h=>eq _ Y Y (pJ (p:=eG) (q:=(-1)) o7)<|ag Y<|dn ?_;cases iM;refine cF<|sr<|lE (F h) λgJ lu h=>eq _ Y Y (pJ (p:=eG) (q:=1) lu)<|ag Y<|dn ?_;cases gJ
 refine cF<|bz<|bB.n<|aV.n<|qq<|qq<|bf mixed<|ld Y Y (.k2 Y Y) ?_;obtain⟨⟨vk,vm⟩,vO,h⟩:=bS (F h);refine cl (fz vO) ⟨Y,aq⟩ ?_;obtain⟨⟨⟨MI,MJ⟩,⟨FM,FN⟩,YA⟩,oN,h⟩:=bS h;refine cl (mh oN) ⟨Y,Y,aq⟩<|mv Y<|ex Y Y<|ex Y Y<|ex Y Y<|al (cs:=[az false,ax]) (by exact⟨au,aB,aq⟩) Y<|al (cs:=[az false,ax]) (by exact⟨au,aB,aq⟩) Y<|so Y Y Y<|so Y Y Y<|ag Y ?_;refine RT.done ⟨by kernel_rfl,?_⟩;refine aV.n<|sr<|ld Y Y (.k2 Y Y)<|bE h λnZ BE h=>cl (eI BE) ⟨Y,aq⟩<|lE h λnD sq h=>eq _ Y Y (pJ (p:=nZ) (q:=0) sq)<|dn ?_;cases nD;refine fs<|sr<|ld Y Y (.k2 Y Y)<|so Y Y Y<|dn<|bg ?_;obtain rfl:=O (F h);exact RZ (.agg Y Y (.k2 Y Y) Y (.nil));refine cT<|sr<|ld Y Y (.k2 Y Y)<|so Y Y Y<|dn<|bg<|aV.r ?_;obtain rfl:=O (V h);exact RZ (.agg Y Y (.k2 Y Y) Y (.nil));refine cT<|sr<|ld Y Y (.k2 Y Y)<|so Y Y Y<|dn<|bg<|bB.r<|aV.r ?_;obtain rfl:=O (V h);exact RZ (.agg Y Y (.k2 Y Y) Y (.nil));refine cT<|sr<|ld Y Y (.k2 Y Y)<|so Y Y Y<|dn<|bg<|bB.r<|aV.r ?_;obtain rfl:=O (V h);exact RZ (.agg Y Y (.k2 Y Y) Y (.nil))
theorem sB{x0:Int}{r:Int×(List En)}(h:iT x0=some r):DN ah 28 [ay x0] true [ay 0] 66 [.s (ay r.1),.r (TR 43 5 iF r.2)]:=by
 refine An (t1:=2) (t2:=3) Try.func28 Y (af Y) Y (λgw M vs hvs=>?_);unfold iT at h;refine sr<|ag Y<|ag Y<|dn<|qq<|qq ?_;refine bD h (λj3=>AS.dj 13 [(0,ai x0),(9,aj j3)] [] []) (λh=>?_) (λMK h=>?_);refine aX<|mv Y<|lE h λx5 h5 h=>ls _ Y Y h5<|mv Y<|bE h λPL qO h=>?_;cases x5;refine gm Y<|lE (F qO) λx8 h8 qO=>gg _ Y Y h8 ?_;obtain rfl:=O qO;exact pF Y<|dn<|⟨x8,h,wR []⟩;obtain rfl:=O (V qO);exact ww<|ww<|pT Y<|dn<|⟨true,h,wR []⟩
 try dsimp only
 refine aV.n ?_;cases MK;refine fs<|sr<|mv Y<|bI (cs:=[_,_]) (cs':=[ay x0,.v (.slice none 0 0)]) (.one Y (.nil)) ⟨au,au,aq⟩<|bx Y<|an (s:=.ptr _ _) Y<|ag Y<|dn<|ei (Dl 12 1 302 43 5 Y Y Y T)<|bg ?_;obtain rfl:=O (F h);exact⟨.inr Y,12,[302],Y,Y,Y,⟨Y,aq⟩,by decide⟩;refine cT<|sr<|ag Y<|ag Y<|dn<|bg<|aV.r ?_;replace h:=V h;cases h
theorem fB{o0:Int}{o1:List En}{r:Bool}(h:cu o0 o1=some r):yB ah 50 [.ptr 1000 0] 66 [.s (ay o0),.r (TR 43 5 iF o1)] (az r):=by
 refine iS [1001] Try.func50 Y (af Y) Y (by decide) Y Y ⟨⟨_,Y⟩,aq,aq⟩ (λgw M β us=>?_);unfold cu at h;refine sr<|ag Y<|dn<|qq ?_;refine bD h (λj3=>AS.dj 12 [(2,aj j3)] [(1000,⟨66,[ai o0,.row 1001]⟩)] [(1001,TR 43 5 iF o1)]) (λh=>?_) (λPM h=>?_);refine aX<|mo (s:=.ptr _ _) Y<|RT.MG .none Y Y T<|mv Y<|bE h λJU qO h=>RT.move (.some Y Y) (s:=.ptr _ _) Y T<|RT.fJ (.some Y Y) Y T<|RT.fieldAddr (.some Y Y) Y T Y<|RT.K0 (.some Y Y) Y Y Y T<|lE (F qO) λfN iE qO=>Ck _ Y Y (pJ (p:=o0) (q:=0) iE) ?_;obtain rfl:=O qO;exact pF Y<|ag Y<|dn<|⟨fN,h,wR []⟩
 try dsimp only
 refine aV.n<|bg ?_;obtain rfl:=O h;exact⟨.inr Y,cW (.tmp Y (.nil)) au,Y,⟨Y,aq⟩⟩
theorem qo{o0:Int}{o1:List En}{x1:Int}{r:Bool}(h:eV o0 o1 x1=some r):yB ah 58 [.ptr 1000 0,ai x1] 66 [.s (ay o0),.r (TR 43 5 iF o1)] (az r):=by
 refine iS [1001] Try.func58 Y (af Y) Y (by decide) Y Y ⟨⟨_,Y⟩,aq,aq⟩ (λgw M β us=>?_);unfold eV at h;refine sr<|ag Y<|dn<|qq ?_;refine bD h (λj3=>AS.dj 15 [(4,aj j3)] [(1000,⟨66,[ai o0,.row 1001]⟩)] [(1001,TR 43 5 iF o1)]) (λh=>?_) (λPN h=>?_);refine aX<|mv Y<|lE h λx6 h6 h=>gt _ Y Y h6<|mv Y<|bE h λJV qO h=>?_;cases x6;obtain rfl:=O (F qO);exact ww<|ww<|ww<|ww<|ww<|ww<|pF Y<|ag Y<|dn<|⟨false,h,wR []⟩;refine gm Y<|RT.move (.some Y Y) (s:=.ptr _ _) Y T<|RT.fJ (.some Y Y) Y T<|RT.fieldAddr (.some Y Y) Y T Y<|RT.K0 (.some Y Y) Y Y Y T<|lE (V qO) λig lJ qO=>RT.lss (.some Y Y) _ Y Y T lJ ?_;obtain rfl:=O qO;exact pT Y<|ag Y<|dn<|⟨ig,h,wR []⟩
 try dsimp only
 refine aV.n<|bg ?_;obtain rfl:=O h;exact⟨.inr Y,cW (.tmp Y (.nil)) au,Y,⟨Y,aq⟩⟩
theorem wC{x0:En}{o0:Int}{o1:List En}{r:Int}(h:iy x0 o0 o1=some r):yB ah 57 [.sv (.agg (iF x0)),.cmp (.NA 58) [.box 1000]] 66 [.s (ay o0),.r (TR 43 5 iF o1)] (ay r):=by
 obtain⟨bQ,bM,gB,⟨ic,PO⟩⟩:=x0;refine iS [1001] Try.func57 Y (af Y) Y (by decide) Y Y ⟨⟨_,Y⟩,aq,aq⟩ (λgw M β us=>?_);unfold iy at h;refine sr<|bx Y<|ag Y<|dn<|qq<|sr<|mo (s:=.cmp _ _) Y<|fa Y Y<|lV Y Y Y<|bE h λx8 h8 h=>RT.Ig .none (qo h8) 1000 [1001] Y ⟨Y,aq⟩ (by decide) Y Y (.cons Y (.nil)) T<|lE h λx9 h9 h=>nt Y _ h9<|dn ?_;cases x9;refine fs<|qq<|qq ?_;refine bD (F h) (λj3=>AS.dj 26 [(2,.ptr 2 0),(17,aj j3)] [(1000,⟨66,[ai o0,.row 1001]⟩),(2,⟨43,[ai bQ,.sv (.v (.int .u8 ((bM:Nat):Int))),ai gB,aj ic,.sv (slc 1 (List.map aY PO))]⟩)] [(1001,TR 43 5 iF o1)]) (λh=>?_) (λFO h=>?_);refine aX<|fa Y Y<|lV Y Y Y<|lE h λia kP h=>ls _ Y Y (NN (p:=bM) (q:=1) kP)<|mv Y<|bE h λJX H7 h=>?_;cases ia;refine RT.fieldAddr (.some Y Y) Y T Y<|RT.K0 (.some Y Y) Y Y Y T<|lE (F H7) λjl nN H7=>gg _ Y Y (NN (p:=4) (q:=bM) nN) ?_;obtain rfl:=O H7;exact pF Y<|dn<|⟨jl,h,wR []⟩;obtain rfl:=O (V H7);exact ww<|ww<|ww<|pT Y<|dn<|⟨true,h,wR []⟩
 try dsimp only
 refine aV.n ?_;cases FO;refine fs<|qq<|qq ?_;refine bD (F h) (λj6=>AS.dj 26 [(25,aj j6)] [(1000,⟨66,[ai o0,.row 1001]⟩)] [(1001,TR 43 5 iF o1)]) (λh=>?_) (λvn h=>?_);refine aX<|fa Y Y<|lV Y Y Y<|lE h λiV nM h=>ls _ Y Y nM<|mv Y<|bE h λJW T7 h=>?_;cases iV;refine RT.fieldAddr (.some Y Y) Y T Y<|RT.K0 (.some Y Y) Y Y Y T<|lE (F T7) λeG mg T7=>RT.geq (.some Y Y) _ Y Y T mg ?_;obtain rfl:=O T7;exact pF Y<|dn<|⟨eG,h,wR []⟩;obtain rfl:=O (V T7);exact ww<|ww<|ww<|pT Y<|dn<|⟨true,h,wR []⟩
 try dsimp only
 refine aV.n ?_;cases vn;refine fs<|sr<|ag Y<|dn<|bg ?_;obtain rfl:=O (F h);exact⟨.inr Y,cW (.tmp Y (.nil)) au,Y,⟨Y,aq⟩⟩;refine cT<|sr<|ag Y<|dn<|bg<|aV.r ?_;obtain rfl:=O (V h);exact⟨.inr Y,cW (.tmp Y (.nil)) au,Y,⟨Y,aq⟩⟩;refine cT<|sr<|ag Y<|dn<|bg<|aV.r ?_;obtain rfl:=O (V h);exact⟨.inr Y,cW (.tmp Y (.nil)) au,Y,⟨Y,aq⟩⟩;refine cT<|sr<|ag Y<|dn<|bg<|aV.r ?_;obtain rfl:=O (V h);exact⟨.inr Y,cW (.tmp Y (.nil)) au,Y,⟨Y,aq⟩⟩
theorem c9{o0:Int}{o1:List En}{x1:Int}{x2:Nat}{x3:Int}{x4:Qr}{r:Int×(List En)}(h:bP o0 o1 x1 x2 x3 x4=some r):ME ah 25 [.ptr 1000 0,ai x1,.sv (.v (.int .u8 ((x2:Nat):Int))),ai x3,.sv (.agg (eQ x4))] 66 [.s (ay o0),.r (TR 43 5 iF o1)] (ay r.1) [.s (ay o0),.r (TR 43 5 iF r.2)]:=by
 obtain⟨⟨DG,DH⟩,⟨PR,PS⟩⟩:=x4;refine BM [1001] Try.func25 Y (af Y) Y (by decide) Y (λgw M β us=>?_);unfold bP at h;refine sr<|bx Y<|ag Y<|dn<|qq<|sr<|mo (s:=.ptr _ _) Y<|bE h λjS n9 h=>RT.gR .none (fB n9) 1000 [1001] Y ⟨Y,aq⟩ (by decide) Y Y (.cons Y (.nil)) T<|dn ?_;cases jS;refine fs<|sr<|mv Y<|mv Y<|mv Y<|bI (cs:=[_,_,_,_,_]) (cs':=[ay x1,.v (.int .u8 ((x2:Nat):Int)),ay x3,az false,ax]) (.one Y (.one Y (.one Y (.nil)))) ⟨au,au,au,au,aB,aq⟩<|al (cs:=[ay 0,.v (.int .u8 ((0:Nat):Int)),ay 0,az false,ax]) (by exact⟨au,au,au,au,aB,aq⟩) Y ?_;refine so Y Y Y<|dn<|qq<|sr<|ld Y Y (.cons Y (.k4 Y Y Y Y))<|mo (s:=.ptr _ _) Y<|RT.Ie .none Y T<|bE (F h) λjH sZ h=>RT.gR .none (wC sZ) 1000 [1001] Y ⟨Y,aq⟩ (by decide) Y Y (.k2 Y Y) T<|ag Y<|dn<|sr<|mv Y<|lE h λeG mg h=>ne _ Y Y (D1 (p:=jH) (q:=0) mg)<|dn ?_;cases eG;refine fs<|qq<|sr<|mo (s:=.ptr _ _) Y<|RT.fJ .none Y T<|fa Y Y<|RT.j9 .none (s:=.row _) Y Y Y T<|lE (F h) λoH ym h=>lL Y Y ym<|lE h λnL xe h=>ge _ Y Y xe<|dn ?_;cases nL;refine fs<|sr<|ld Y Y (.k4 Y Y Y Y) ?_;obtain⟨⟨vk,vm⟩,vO,h⟩:=bS (F h)
 refine cl (gD vO) ⟨Y,aq⟩<|fa Y Y<|RT.Eh (cells:=[_,_,_,_,_]) .none Y Y Y Y T Y<|dn<|qq<|bf mixed<|mo (s:=.ptr _ _) Y<|mo (s:=.ptr _ _) Y<|RT.fJ .none Y T<|fa Y Y<|RT.j9 .none (s:=.row _) Y Y Y T<|ld Y Y (.cons Y (.k4 Y Y Y Y))<|bl (l:=[⟨x1,x2,x3,⟨vk,vm⟩⟩]) (e:=iF) (.agg Y (.nil)) Y Y Y Y Y Y ?_;refine bE h λqL zY h=>aR (k:=[⟨x1,x2,x3,⟨vk,vm⟩⟩]) (e:=iF) Y Y Y zY<|RT.fJ .none Y T<|fa Y Y<|RT.uj (cells:=[_,_]) .none Y Y Y Y T Y ?_;refine RT.done ⟨by kernel_rfl,?_⟩;refine aV.n<|sr<|ag Y<|dn<|bg ?_;obtain rfl:=O h;exact⟨.inr Y,cW (.tmp Y (.nil)) au,[42],Y,⟨Y,aq⟩,by decide⟩;refine cT<|sr<|ag Y<|dn<|bg<|aV.r ?_;obtain rfl:=O (V h);exact⟨.inr Y,cW (.tmp Y (.nil)) au,[1001],Y,⟨Y,aq⟩,by decide⟩;refine cT<|sr<|mv Y<|ag Y<|dn<|bg<|aV.r ?_;obtain rfl:=O (V h);exact⟨.inr Y,cW (.tmp Y (.nil)) au,[1001],Y,⟨Y,aq⟩,by decide⟩;refine cT<|sr<|ag Y<|dn<|bg<|aV.r ?_;obtain rfl:=O (V h);exact⟨.inr Y,cW (.tmp Y (.nil)) au,[1001],Y,⟨Y,aq⟩,by decide⟩
theorem eA{o0:Int}{o1:List En}{r:List En}(h:cj o0 o1=some r):yB ah 17 [.ptr 1000 0] 66 [.s (ay o0),.r (TR 43 5 iF o1)] (slc 5 (List.map iF r)):=by
 refine iS [1001] Try.func17 Y (af Y) Y (by decide) Y Y ⟨⟨_,Y⟩,aq,aq⟩ (λgw M β us=>?_);unfold cj at h;refine sr<|aI Y (aB (n:=5) (e:=iF))<|dn<|qq<|sr<|mo (s:=.ptr _ _) Y<|bE h λx7 h7 h=>RT.gR .none (fB h7) 1000 [1001] Y ⟨Y,aq⟩ (by decide) Y Y (.cons Y (.nil)) T<|dn ?_;cases x7;refine fs<|sr<|mo (s:=.ptr _ _) Y<|RT.fJ .none Y T<|fa Y Y<|RT.j9 .none (s:=.row _) Y Y Y T<|lE (F h) λia kP h=>lL Y Y kP<|bE h λig lJ h=>RT.zL (n:=5) (e:=iF) .none Y Y T Y T (by rfl) (by decide) (by exact⟨au,au,au,au,aB,aq⟩) lJ<|an (s:=.row _) Y<|dn<|qq<|sr<|mo (s:=.ptr _ _) Y<|RT.fJ .none Y T ?_;refine fa Y Y<|RT.j9 .none (s:=.row _) Y Y Y T<|lE h λgi kG h=>lL Y Y kG<|mv Y<|dn<|bE h λe8 Fl wj=>?_;refine bW (λ(vo:(List En))=>AS.dj 35 [(3,.row 13)] [(1000,⟨66,[ai o0,.row 1001]⟩)] [(13,TR 43 5 iF vo),(1001,TR 43 5 iF o1)]) (λvo=>vo=e8) ?_ (λvo Fm=>?_);refine bj ?_;refine bX Fl (λs8=>AS.dj 35 [(3,.row 13),(17,.row 1001),(18,ai gi),(19,ai s8.1)] [(1000,⟨66,[ai o0,.row 1001]⟩)] [(13,TR 43 5 iF s8.2),(1001,TR 43 5 iF o1)]) (wR []) (λs8 y8 G8 h Fo Fp=>?_);obtain⟨Ao,Ap⟩:=s8
 try dsimp only
 refine sr<|lE h λiV nM h=>ls _ Y Y nM<|dn<|qq ?_;cases iV;refine cF<|b9<|aV.x<|aV.x<|bB.x<|aV.n ?_;obtain rfl:=O (F h);exact⟨Ap,Fp _ Y,wR []⟩;refine cT<|bz<|aV.n<|qq<|bj<|sr<|mv Y<|bE (V h) λjH sZ h=>iR Y Y Y sZ ?_;obtain⟨⟨xm,xn,xo,⟨Aq,JY⟩⟩,oM,h⟩:=bS h;refine lA Y Y oM<|al (cs:=[ay 0,.v (.int .u8 ((0:Nat):Int)),ay 0,az false,ax]) (by exact⟨au,au,au,au,aB,aq⟩) Y<|ag Y<|so Y Y Y<|dn<|sr<|fa Y Y<|ld Y Y (.k2 Y Y)<|bI (cs:=[_,_]) (cs':=[az false,ax]) (.nil) ⟨au,aB,aq⟩ ?_;obtain⟨⟨si,sj⟩,su,h⟩:=bS h;refine cl (iv su) ⟨Y,Y,aq⟩<|fa Y Y<|RT.Eh (cells:=[_,_,_,_,_]) .none Y Y Y Y T Y<|dn<|aX<|mo (s:=.row _) Y<|mv Y<|ld Y Y (.cons Y (.k4 Y Y Y Y))<|bE h λkn oa h=>iR Y Y Y oa<|bE h λCo Fq h=>sA ⟨xm,xn,xo,⟨si,sj⟩⟩ Y Y Y Fq<|RT.done<|bB.n<|aV.n<|aX<|lE h λqN vO h=>ad _ Y Y vO<|mv Y ?_;refine RT.done ?_;obtain rfl:=O h;exact aV.n ⟨(qN,Co),Fo _ Y,wR []⟩;subst Fm
 try dsimp only
 refine aV.n<|sr<|mo (s:=.row _) Y<|an (s:=.row _) Y<|dn<|ei (nB (i:=13) (E1:=43) (n:=5) (e:=iF) (l:=vo) Y)<|bg ?_;obtain rfl:=O wj;exact⟨.inr Y,cW (.tmp Y (.nil)) au,Y,⟨Y,aq⟩⟩;refine cT<|sr<|aI Y (aB (n:=5) (e:=iF))<|dn<|bg<|aV.r ?_;obtain rfl:=O (V h);exact⟨.inr Y,cW (.tmp Y (.nil)) au,Y,⟨Y,aq⟩⟩
theorem eW{o0:Int}{o1:List En}{r:List Zr}(h:cP o0 o1=some r):yB ah 16 [.ptr 1000 0] 66 [.s (ay o0),.r (TR 43 5 iF o1)] (slc 2 (List.map eZ r)):=by
 refine iS [1001] Try.func16 Y (af Y) Y (by decide) Y Y ⟨⟨_,Y⟩,aq,aq⟩ (λgw M β us=>?_);unfold cP at h;refine sr<|aI Y (aB (n:=2) (e:=eZ))<|dn<|qq<|sr<|mo (s:=.ptr _ _) Y<|bE h λx7 h7 h=>RT.gR .none (fB h7) 1000 [1001] Y ⟨Y,aq⟩ (by decide) Y Y (.cons Y (.nil)) T<|dn ?_;cases x7;refine fs<|sr<|mo (s:=.ptr _ _) Y<|RT.fJ .none Y T<|fa Y Y<|lV Y Y Y<|bE (F h) λia kP h=>RT.zL (n:=2) (e:=eZ) .none Y Y T Y T (by rfl) (by decide) (by exact⟨au,aB,aq⟩) kP<|an (s:=.row _) Y<|dn<|qq<|sr<|mo (s:=.ptr _ _) Y<|RT.fJ .none Y T<|fa Y Y<|RT.j9 .none (s:=.row _) Y Y Y T<|lE h λgh kO h=>lL Y Y kO ?_;refine mv Y<|dn<|bE h λLX Bx yl=>?_;refine bW (λ(vq:(List Zr))=>AS.dj 44 [(3,.row 12)] [(1000,⟨66,[ai o0,.row 1001]⟩)] [(12,TR 24 2 eZ vq),(1001,TR 43 5 iF o1)]) (λvq=>vq=LX) ?_ (λvq By=>?_);refine bj ?_;refine bX Bx (λzS=>AS.dj 44 [(3,.row 12),(16,.row 1001),(17,ai gh),(18,ai zS.1)] [(1000,⟨66,[ai o0,.row 1001]⟩)] [(12,TR 24 2 eZ zS.2),(1001,TR 43 5 iF o1)]) (wR []) (λzS WV WW h Bz zX=>?_);obtain⟨CD,vp⟩:=zS
 try dsimp only
 refine sr<|lE h λmu pU h=>ls _ Y Y pU<|dn<|qq ?_;cases mu;refine cF<|b9<|aV.x<|aV.x<|bB.x<|aV.n ?_;obtain rfl:=O (F h);exact⟨vp,zX _ Y,wR []⟩;refine cT<|bz<|aV.n<|qq<|bj<|sr<|bE (V h) λiV nM h=>iR Y Y Y nM ?_;obtain⟨⟨xk,CB,CC,⟨xl,FP⟩⟩,pV,h⟩:=bS h;refine lA Y Y pV<|al (cs:=[ay 0,.v (.int .u8 ((0:Nat):Int)),ay 0,az false,ax]) (by exact⟨au,au,au,au,aB,aq⟩) Y<|so Y Y Y<|dn<|qq<|bf mixed<|mo (s:=.row _) Y<|fa Y Y<|lV Y Y Y<|mo (s:=.row _) Y<|fa Y Y<|lV Y Y Y<|bE h λlq uT h=>iR Y Y Y uT ?_;obtain⟨⟨ql,qm⟩,lu,h⟩:=bS h;refine lA Y Y lu<|fa Y Y<|ld Y Y (.k2 Y Y) ?_;obtain⟨⟨ir,gA⟩,oa,h⟩:=bS h;refine cl (iv oa) ⟨Y,Y,aq⟩<|bE h λqN vO h=>iR Y Y Y vO<|bE h λG1 PT h=>sA ⟨ir,gA⟩ Y Y Y PT ?_;refine RT.done ⟨by kernel_rfl,?_⟩;refine aV.n<|bf mixed<|mo (s:=.row _) Y<|mo (s:=.row _) Y<|bE h λwe wm h=>iR Y Y Y wm ?_;obtain⟨⟨oc,oe⟩,zZ,h⟩:=bS h;refine lA Y Y zZ<|fa Y Y<|ld Y Y (.k2 Y Y) ?_;obtain⟨⟨mc,me⟩,sq,h⟩:=bS h;refine cl (yn sq) ⟨Y,Y,aq⟩<|bE h λv5 Dv h=>iR Y Y Y Dv<|bE h λYB PU h=>sA ⟨mc,me⟩ Y Y Y PU ?_;refine RT.done ⟨by kernel_rfl,?_⟩;refine bB.n<|aV.n<|aX<|lE h λqL zY h=>ad _ Y Y zY<|mv Y<|RT.done ?_;obtain rfl:=O h;exact aV.n ⟨(qL,YB),Bz _ Y,wR []⟩;subst By
 try dsimp only
 refine aV.n<|sr<|mo (s:=.row _) Y<|an (s:=.row _) Y<|dn<|ei (nB (i:=12) (E1:=24) (n:=2) (e:=eZ) (l:=vq) Y)<|bg ?_;obtain rfl:=O yl;exact⟨.inr Y,cW (.tmp Y (.nil)) au,Y,⟨Y,aq⟩⟩;refine cT<|sr<|aI Y (aB (n:=2) (e:=eZ))<|dn<|bg<|aV.r ?_;obtain rfl:=O (V h);exact⟨.inr Y,cW (.tmp Y (.nil)) au,Y,⟨Y,aq⟩⟩
theorem tj{o0:Int}{o1:List En}{x1:Nat}{r:Zr}(h:gb o0 o1 x1=some r):yB ah 19 [.ptr 1000 0,.sv (.v (.int .u8 ((x1:Nat):Int)))] 66 [.s (ay o0),.r (TR 43 5 iF o1)] (.agg (eZ r)):=by
 refine iS [1001] Try.func19 Y (af Y) Y (by decide) Y Y ⟨⟨_,Y⟩,aq,aq⟩ (λgw M β us=>?_);unfold gb at h;refine sr<|al (cs:=[az false,ax]) (by exact⟨au,aB,aq⟩) Y<|dn<|sr<|bI (cs:=[_,_]) (cs':=[az false,ax]) (.nil) ⟨au,aB,aq⟩<|al (cs:=[az false,ax]) (by exact⟨au,aB,aq⟩) Y<|so Y Y Y<|dn<|qq<|sr<|mo (s:=.ptr _ _) Y<|bE h λfN iE h=>RT.gR .none (fB iE) 1000 [1001] Y ⟨Y,aq⟩ (by decide) Y Y (.cons Y (.nil)) T ?_;refine dn ?_;cases fN;refine fs<|qq<|sr<|mo (s:=.ptr _ _) Y<|RT.fJ .none Y T<|fa Y Y<|RT.j9 .none (s:=.row _) Y Y Y T<|lE (F h) λjl nN h=>lL Y Y nN<|mv Y<|dn<|bE h λe8 Fl wj=>?_;refine bW (λ(rC:Bool×(List Nat))=>AS.dj 31 [(4,.ptr 4 0),(5,.ptr 5 0)] [(1000,⟨66,[ai o0,.row 1001]⟩),(5,⟨24,[aj rC.1,.sv (slc 1 (List.map aY rC.2))]⟩),(4,⟨24,[aj false,.sv ax]⟩)] [(1001,TR 43 5 iF o1)]) (λrC=>rC=e8) ?_ (λrC Fm=>?_);refine bj ?_;refine bX Fl (λs8=>AS.dj 31 [(1,.sv (.v (.int .u8 ((x1:Nat):Int)))),(4,.ptr 4 0),(5,.ptr 5 0),(15,.row 1001),(16,ai jl),(17,ai s8.1)] [(1000,⟨66,[ai o0,.row 1001]⟩),(5,⟨24,[aj s8.2.1,.sv (slc 1 (List.map aY s8.2.2))]⟩),(4,⟨24,[aj false,.sv ax]⟩)] [(1001,TR 43 5 iF o1)]) (wR []) (λs8 y8 G8 h Fo Fp=>?_);obtain⟨Ar,rK,rL⟩:=s8
 try dsimp only
 refine sr<|lE h λgi kG h=>ls _ Y Y kG<|dn<|qq ?_;cases gi;refine cF<|b9<|aV.x<|aV.x<|bB.x<|aV.n ?_;obtain rfl:=O (F h);exact⟨(rK,rL),Fp _ Y,wR []⟩;refine cT<|bz<|aV.n<|qq<|bj<|sr<|bE (V h) λmu pU h=>iR Y Y Y pU ?_;obtain⟨⟨xh,sx,xj,⟨u0,JZ⟩⟩,nM,h⟩:=bS h;refine lA Y Y nM<|al (cs:=[ay 0,.v (.int .u8 ((0:Nat):Int)),ay 0,az false,ax]) (by exact⟨au,au,au,au,aB,aq⟩) Y<|so Y Y Y<|dn<|sr<|fa Y Y<|lV Y Y Y<|mv Y<|lE h λeG mg h=>eq _ Y Y (OG (p:=sx) (q:=x1) mg)<|dn ?_;refine bD h (λN3=>AS.dj 31 [(1,.sv (.v (.int .u8 ((x1:Nat):Int)))),(4,.ptr 4 0),(5,.ptr 5 0),(15,.row 1001),(16,ai jl),(17,ai Ar)] [(1000,⟨66,[ai o0,.row 1001]⟩),(5,⟨24,[aj N3.1,.sv (slc 1 (List.map aY N3.2))]⟩),(4,⟨24,[aj false,.sv ax]⟩)] [(1001,TR 43 5 iF o1)]) (λh=>?_) (λN3 h=>?_);cases eG;exact fs<|⟨(rK,rL),(F h),wR []⟩;refine cT<|aX<|ld Y Y (.k2 Y Y)<|fa Y Y<|ld Y Y (.k2 Y Y) ?_;obtain⟨⟨FR,FU⟩,uT,h⟩:=bS (V h);exact cl (iv uT) ⟨Y,Y,aq⟩<|so Y Y Y<|dn<|⟨(FR,FU),h,wR []⟩;obtain⟨BO,BP⟩:=N3
 try dsimp only
 refine bB.n<|aV.n<|aX<|lE h λgJ lu h=>ad _ Y Y lu<|mv Y<|RT.done ?_;obtain rfl:=O h;exact aV.n ⟨(gJ,BO,BP),Fo _ Y,wR []⟩;subst Fm;obtain⟨FV,FW⟩:=rC
 try dsimp only
 refine aV.n<|sr<|ld Y Y (.k2 Y Y)<|so Y Y Y<|dn<|bg ?_;obtain rfl:=O wj;exact⟨.inr Y,cW (.agg Y Y (.k2 Y Y) Y (.nil)) au,Y,⟨Y,aq⟩⟩;refine cT<|sr<|ld Y Y (.k2 Y Y)<|so Y Y Y<|dn<|bg<|aV.r ?_;obtain rfl:=O (V h);exact⟨.inr Y,cW (.agg Y Y (.k2 Y Y) Y (.nil)) au,Y,⟨Y,aq⟩⟩
end
section
open Go.Fw
noncomputable def dA(x0:Zr)(x1:Zr):Option (Bool):=match x0 with|⟨bQ,bM⟩=>match x1 with|⟨di,cZ⟩=>cY (λ(FX:Bool)=>(bif FX then some false else(cK (λ(sY:Int)=>(show Option ((Int)⊕((Unit)⊕(Bool)))from(some (bM.length:Int)).bind λiW=>(some (decide ((sY:Int)<iW))).bind λeG=>(bif eG then(cI bM sY).bind λoH=>(cI cZ sY).bind λpN=>(some (decide ((oH:Nat)≠pN))).bind λwX=>(bif wX then some (.inr (.inr false))else(some (IntKind.i64.wrap (sY+1))).bind λiM=>some (.inl iM))else some (.inr (.inl ()))))) 0).bind λe9=>match e9 with|.inr v9=>some v9|.inl _=>some true)) λK3=>(some (!(bQ==di))).bind λfN=>(bif fN then some true else(some (bM.length:Int)).bind λjS=>(some (cZ.length:Int)).bind λgh=>(some (decide ((jS:Int)≠gh))).bind λgi=>some gi).bind λFY=>K3 FY
end
section
open Go.Fw Go.Fw.Z Go.RowKit
theorem iY{x0:Zr}{x1:Zr}{r:Bool}(h:dA x0 x1=some r):Pure ah 11 [.agg (eZ x0),.agg (eZ x1)] (az r):=by
 obtain⟨bQ,bM⟩:=x0;obtain⟨di,cZ⟩:=x1;refine bH Try.func11 Y (af Y) (λgw M vs hvs=>?_);unfold dA at h;refine sr<|bx Y<|bx Y<|ag Y<|dn<|qq<|qq ?_;refine bD h (λj3=>AS.dj 38 [(2,.ptr 2 0),(3,.ptr 3 0),(19,aj j3)] [(3,⟨24,[aj di,.sv (slc 1 (List.map aY cZ))]⟩),(2,⟨24,[aj bQ,.sv (slc 1 (List.map aY bM))]⟩)] []) (λh=>?_) (λFX h=>?_);refine aX<|fa Y Y<|lV Y Y Y<|fa Y Y<|lV Y Y Y<|lE h λfN iE h=>RT.Hh .none _ Y Y T iE<|mv Y<|bE h λFY As h=>?_;cases fN;refine RT.fieldAddr (.some Y Y) Y T Y<|RT.K0 (.some Y Y) Y Y Y T<|lE (F As) λjS n9 As=>gn Y n9<|RT.fieldAddr (.some Y Y) Y T Y<|RT.K0 (.some Y Y) Y Y Y T<|lE As λgh kO As=>gn Y kO<|lE As λgi kG As=>gq _ Y Y (D1 (p:=jS) (q:=gh) kG) ?_;obtain rfl:=O As;exact pF Y<|dn<|⟨gi,h,wR []⟩;obtain rfl:=O (V As);exact ww<|ww<|ww<|ww<|ww<|ww<|ww<|pT Y<|dn<|⟨true,h,wR []⟩
 try dsimp only
 refine aV.n ?_;cases FX;refine fs<|qq<|sr<|ag Y<|dn<|bE (F h) λe9 hl9 ho9=>?_;refine bW (λ(YC:Unit)=>AS.dj 38 [] [] []) (λYC=>.inl YC=e9) ?_ (λYC hx9=>?_);refine bj ?_;refine bX hl9 (λs9=>AS.dj 38 [(2,.ptr 2 0),(3,.ptr 3 0),(5,ai s9)] [(3,⟨24,[aj di,.sv (slc 1 (List.map aY cZ))]⟩),(2,⟨24,[aj bQ,.sv (slc 1 (List.map aY bM))]⟩)] []) (wR []) (λsY y9 G9 h hG9 hE9=>?_)
 try dsimp only
 refine qq<|sr<|mv Y<|fa Y Y<|lV Y Y Y<|lE h λiW oM h=>ln Y oM<|lE h λeG mg h=>ls _ Y Y mg<|dn ?_;cases eG;refine cF<|b9<|aV.x<|aV.x<|bB.x<|aV.n ?_;obtain rfl:=O (F h);exact⟨(),hE9 _ Y,wR []⟩;refine cT<|bz<|aV.n<|qq<|bj<|qq<|bf mixed<|fa Y Y<|lV Y Y Y<|mv Y<|bE (V h) λoH ym h=>ix Y Y ym<|lr Y Y<|fa Y Y<|lV Y Y Y<|mv Y<|bE h λpN BC h=>ix Y Y BC<|lr Y Y<|lE h λwX zZ h=>ne _ Y Y (NM (p:=oH) (q:=pN) zZ) ?_;refine RT.done ⟨by kernel_rfl,?_⟩;refine aV.n ?_;cases wX;refine cF<|bz<|bB.n<|aV.n<|aX<|mv Y<|lE (F h) λiM o7 h=>ad _ Y Y o7<|ag Y<|RT.done ?_;obtain rfl:=O h;exact aV.n ⟨iM,hG9 _ Y,wR []⟩;refine cT<|sr<|ag Y<|dn<|bg<|bB.r<|aV.r ?_;obtain rfl:=O (V h);have he9:=hE9 _ Y;subst he9;refine aV.r<|bB.r<|aV.r<|aV.r ?_;obtain rfl:=O ho9;exact R1 Y;subst hx9
 try dsimp only
 refine aV.n<|sr<|ag Y<|dn<|bg ?_;obtain rfl:=O ho9;exact R1 Y;refine cT<|sr<|ag Y<|dn<|bg<|aV.r ?_;obtain rfl:=O (V h);exact R1 Y
end
section
open Go.Fw
noncomputable def iz(x0:List En)(x1:List En):Option (Bool):=(some (x0.length:Int)).bind λx7=>(some (x1.length:Int)).bind λx9=>(some (decide ((x7:Int)≠x9))).bind λfN=>(bif fN then some false else(cK (λ(mq:Int)=>(show Option ((Int)⊕((Unit)⊕(Bool)))from(some (x0.length:Int)).bind λig=>(some (decide ((mq:Int)<ig))).bind λjS=>(bif jS then cY (λ(BQ:Bool)=>(bif BQ then some (.inr (.inr false))else(some (IntKind.i64.wrap (mq+1))).bind λjl=>some (.inl jl))) λK34=>(cI x0 mq).bind λ⟨mS,qe,PV,⟨PW,PX⟩⟩=>(cI x1 mq).bind λ⟨FZ,PY,PZ,⟨P0,P1⟩⟩=>(some (decide ((mS:Int)≠FZ))).bind λmw=>(bif mw then some true else(cI x0 mq).bind λ⟨Cp,w8,P2,⟨P3,P4⟩⟩=>(cI x1 mq).bind λ⟨n8,l9,CE,⟨CF,P5⟩⟩=>(some (decide ((w8:Nat)≠l9))).bind λnZ=>some nZ).bind λF0=>(bif F0 then some true else(cI x0 mq).bind λ⟨Cs,Ct,F1,⟨P6,P7⟩⟩=>(cI x1 mq).bind λ⟨Cq,Cr,F2,⟨P8,P9⟩⟩=>(some (decide ((F1:Int)≠F2))).bind λqM=>some qM).bind λML=>(bif ML then some true else(cI x0 mq).bind λ⟨Qa,Qb,Qc,⟨J0,J1⟩⟩=>(cI x1 mq).bind λ⟨Qd,Qe,Qf,⟨J2,J3⟩⟩=>(dA ⟨J0,J1⟩ ⟨J2,J3⟩).bind λNQ=>(some (!NQ)).bind λAZ=>some AZ).bind λMM=>K34 MM else some (.inr (.inl ()))))) 0).bind λPx=>match Px with|.inr v24=>some v24|.inl _=>some true)
end
section
open Go.Fw Go.Fw.Z Go.RowKit
theorem wD{x0:List En}{x1:List En}{r:Bool}(h:iz x0 x1=some r):Pure ah 22 [slc 5 (List.map iF x0),slc 5 (List.map iF x1)] (.v (.bool r)):=by
 refine bH Try.func22 Y (af Y) (λgw M vs hvs=>?_);unfold iz at h;refine sr<|ag Y<|dn<|qq<|sr<|mv Y<|lE h λx7 h7 h=>ln Y h7<|mv Y<|lE h λx9 h9 h=>ln Y h9<|lE h λfN iE h=>ne _ Y Y (D1 (p:=x7) (q:=x9) iE)<|dn ?_;cases fN;refine fs<|qq<|sr<|ag Y<|dn<|bE (F h) λPx Mb DB=>?_;refine bW (λ(MN:Unit)=>AS.dj 68 [] [] []) (λMN=>.inl MN=Px) ?_ (λMN Mc=>?_);refine bj ?_;refine bX Mb (λJs=>AS.dj 68 [(0,.sv (slc 5 (List.map iF x0))),(1,.sv (slc 5 (List.map iF x1))),(5,.sv (.v (.int .i64 Js)))] [] []) (wR []) (λmq y24 G24 h Md HT=>?_)
 try dsimp only
 refine qq<|sr<|mv Y<|mv Y<|lE h λig lJ h=>ln Y lJ<|lE h λjS n9 h=>ls _ Y Y n9<|dn ?_;cases jS;refine cF<|b9<|aV.x<|aV.x<|bB.x<|aV.n ?_;obtain rfl:=O (F h);exact⟨(),HT _ Y,wR []⟩;refine cT<|bz<|aV.n<|qq<|bj<|qq ?_;refine bD (V h) (λj34=>AS.dj 68 [(0,.sv (slc 5 (List.map iF x0))),(1,.sv (slc 5 (List.map iF x1))),(5,.sv (.v (.int .i64 mq))),(67,.sv (.v (.bool j34)))] [] []) (λh=>?_) (λBQ h=>?_);refine bf mixed<|mv Y<|mv Y ?_;obtain⟨⟨mS,qe,PV,⟨PW,PX⟩⟩,pU,h⟩:=bS h;refine ix Y Y pU<|RT.cz .none Y T Y<|lr Y Y<|mv Y<|mv Y ?_;obtain⟨⟨FZ,PY,PZ,⟨P0,P1⟩⟩,mg,h⟩:=bS h;refine ix Y Y mg<|RT.cz .none Y T Y<|lr Y Y<|lE h λmw su h=>ne _ Y Y (D1 (p:=mS) (q:=FZ) su)<|mv Y<|bE h λF0 wv h=>?_;cases mw;refine gm Y<|gm Y ?_;obtain⟨⟨Cp,w8,P2,⟨P3,P4⟩⟩,xe,wv⟩:=bS (F wv);refine RT.Dk (.some Y Y) Y Y T xe<|RT.cz (.some Y Y) Y T Y<|gr Y Y<|gm Y<|gm Y ?_;obtain⟨⟨n8,l9,CE,⟨CF,P5⟩⟩,wm,wv⟩:=bS wv;refine RT.Dk (.some Y Y) Y Y T wm<|RT.cz (.some Y Y) Y T Y<|gr Y Y<|lE wv λnZ BE wv=>gq _ Y Y (NM (p:=w8) (q:=l9) BE) ?_;obtain rfl:=O wv;refine pF Y<|mv Y<|bE h λYD wz h=>?_;cases nZ;refine gm Y<|gm Y ?_;obtain⟨⟨Cs,Ct,F1,⟨P6,P7⟩⟩,Fv,wz⟩:=bS (F wz)
 refine RT.Dk (.some Y Y) Y Y T Fv<|RT.cz (.some Y Y) Y T Y<|gr Y Y<|gm Y<|gm Y ?_;obtain⟨⟨Cq,Cr,F2,⟨P8,P9⟩⟩,L3,wz⟩:=bS wz;refine RT.Dk (.some Y Y) Y Y T L3<|RT.cz (.some Y Y) Y T Y<|gr Y Y<|lE wz λqM BD wz=>gq _ Y Y (D1 (p:=F1) (q:=F2) BD) ?_;obtain rfl:=O wz;refine pF Y<|mv Y<|bE h λYE tg h=>?_;cases qM;refine gm Y<|gm Y ?_;obtain⟨⟨Qa,Qb,Qc,⟨J0,J1⟩⟩,L4,tg⟩:=bS (F tg);refine RT.Dk (.some Y Y) Y Y T L4<|RT.cz (.some Y Y) Y T Y<|RT.ke (cs:=[_,_]) (.some Y Y) Y T Y Y<|gm Y<|gm Y ?_;obtain⟨⟨Qd,Qe,Qf,⟨J2,J3⟩⟩,Pr,tg⟩:=bS tg;refine RT.Dk (.some Y Y) Y Y T Pr<|RT.cz (.some Y Y) Y T Y<|RT.ke (cs:=[_,_]) (.some Y Y) Y T Y Y<|bE tg λNQ Xr tg=>gc (iY Xr) ⟨Y,Y,aq⟩<|lE tg λAZ Po tg=>T5 Y _ Po ?_;obtain rfl:=O tg;refine pF Y ?_;refine RT.done ⟨by kernel_rfl,?_⟩;exact aV.n<|⟨AZ,h,wR []⟩;obtain rfl:=O (V tg);refine ww<|ww<|ww<|ww<|ww<|ww<|ww<|ww<|ww<|ww<|ww<|ww<|pT Y ?_;refine RT.done ⟨by kernel_rfl,?_⟩;exact aV.n<|⟨true,h,wR []⟩;obtain rfl:=O (V wz);refine ww<|ww<|ww<|ww<|ww<|ww<|ww<|ww<|ww<|ww<|ww<|pT Y<|mv Y<|bE h λYF MA h=>?_;obtain rfl:=O (V MA);refine ww<|ww<|ww<|ww<|ww<|ww<|ww<|ww<|ww<|ww<|ww<|ww<|pT Y ?_;refine RT.done ⟨by kernel_rfl,?_⟩;exact aV.n<|⟨true,h,wR []⟩;obtain rfl:=O (V wv)
 refine ww<|ww<|ww<|ww<|ww<|ww<|ww<|ww<|ww<|ww<|ww<|pT Y<|mv Y<|bE h λYG MB h=>?_;obtain rfl:=O (V MB);refine ww<|ww<|ww<|ww<|ww<|ww<|ww<|ww<|ww<|ww<|ww<|pT Y<|mv Y<|bE h λYH MC h=>?_;obtain rfl:=O (V MC);refine ww<|ww<|ww<|ww<|ww<|ww<|ww<|ww<|ww<|ww<|ww<|ww<|pT Y ?_;refine RT.done ⟨by kernel_rfl,?_⟩;exact aV.n<|⟨true,h,wR []⟩
 try dsimp only
 refine aV.n ?_;cases BQ;refine cF<|bz<|bB.n<|aV.n<|aX<|mv Y<|lE (F h) λjl nN h=>ad _ Y Y nN<|ag Y<|RT.done ?_;obtain rfl:=O h;exact aV.n ⟨jl,Md _ Y,wR []⟩;refine cT<|sr<|ag Y<|dn<|bg<|bB.r<|aV.r ?_;obtain rfl:=O (V h);have YI:=HT _ Y;subst YI;refine aV.r<|bB.r<|aV.r<|aV.r ?_;obtain rfl:=O DB;exact R1 Y;subst Mc
 try dsimp only
 refine aV.n<|sr<|ag Y<|dn<|bg ?_;obtain rfl:=O DB;exact R1 Y;refine cT<|sr<|ag Y<|dn<|bg<|aV.r ?_;obtain rfl:=O (V h);exact R1 Y
end
section
open Go.Fw
noncomputable def eC(x0:List (List Qr)):Option (Bool):=(cK (λ(N4:Int×Int)=>match N4 with|⟨Qg,yE⟩=>(show Option ((Int×Int)⊕((Unit)⊕(Bool)))from(some (x0.length:Int)).bind λx8=>(some (decide ((yE:Int)<x8))).bind λx9=>(bif x9 then(cI x0 yE).bind λjS=>(some (jS.length:Int)).bind λjl=>(some (decide ((40:Int)<jl))).bind λgh=>(bif gh then some (.inr (.inr true))else(cK (λ(J4:Int×Int)=>match J4 with|⟨CG,At⟩=>(show Option ((Int×Int)⊕(Int))from(cI x0 yE).bind λje=>(some (je.length:Int)).bind λiW=>(some (decide ((At:Int)<iW))).bind λeG=>(bif eG then(some (IntKind.i64.wrap (CG+1))).bind λlq=>(cI x0 yE).bind λnL=>(cI nL At).bind λ⟨⟨xg,sw⟩,⟨J5,J6⟩⟩=>(some (sw.length:Int)).bind λrq=>(some (min (100:Int) rq)).bind λnZ=>(some (IntKind.i64.wrap (lq+nZ))).bind λnD=>(cI x0 yE).bind λv7=>(cI v7 At).bind λ⟨⟨sD,sE⟩,⟨J7,CH⟩⟩=>(some (CH.length:Int)).bind λtO=>(some (min (100:Int) tO)).bind λDn=>(some (IntKind.i64.wrap (nD+Dn))).bind λqM=>(some (IntKind.i64.wrap (At+1))).bind λiM=>some (.inl (qM,iM))else some (.inr CG)))) (Qg,0)).bind λsF=>(some (decide ((400:Int)<sF))).bind λGX=>(bif GX then some (.inr (.inr true))else(some (IntKind.i64.wrap (yE+1))).bind λkI=>some (.inl (sF,kI))))else some (.inr (.inl ()))))) (0,0)).bind λYJ=>match YJ with|.inr v16=>some v16|.inl _=>some false
end
section
open Go.Fw Go.Fw.Z Go.RowKit
theorem wE{x0:List (List Qr)}{r:Bool}(h:eC x0=some r):Pure ah 9 [slc 1 (List.map (eS 4 eQ) x0)] (az r):=by
 refine bH Try.func9 Y (af Y) (λgw M vs hvs=>?_);unfold eC at h;refine sr<|ag Y<|dn<|sr<|ag Y<|dn<|qq<|sr<|ag Y<|dn<|bE h λYJ YK MO=>?_;refine bW (λ(MP:Unit)=>AS.dj 55 [] [] []) (λMP=>.inl MP=YJ) ?_ (λMP YL=>?_);refine bj ?_;refine bX YK (λN4=>AS.dj 55 [(0,.sv (slc 1 (List.map (eS 4 eQ) x0))),(3,ai N4.1),(4,ai N4.2)] [] []) (wR []) (λN4 y16 G16 h YM MQ=>?_);obtain⟨Qg,yE⟩:=N4
 try dsimp only
 refine qq<|sr<|mv Y<|mv Y<|lE h λx8 h8 h=>ln Y h8<|lE h λx9 h9 h=>ls _ Y Y h9<|dn ?_;cases x9;refine cF<|b9<|aV.x<|aV.x<|bB.x<|aV.n ?_;obtain rfl:=O (F h);exact⟨(),MQ _ Y,wR []⟩;refine cT<|bz<|aV.n<|qq<|bj<|qq<|sr<|mv Y<|mv Y<|bE (V h) λjS n9 h=>ix Y Y n9<|lr Y Y<|lE h λjl nN h=>ln Y nN<|lE h λgh kO h=>gt _ Y Y kO<|dn ?_;cases gh;refine fs<|qq<|sr<|ag Y<|dn<|bE (F h) λQh MR yF=>?_;refine bW (λ(sF:Int)=>AS.dj 55 [(0,.sv (slc 1 (List.map (eS 4 eQ) x0))),(3,ai sF),(4,ai yE)] [] []) (λsF=>sF=Qh) ?_ (λsF MS=>?_);refine bj ?_;refine bX MR (λJ4=>AS.dj 55 [(0,.sv (slc 1 (List.map (eS 4 eQ) x0))),(3,ai J4.1),(4,ai yE),(5,ai J4.2)] [] []) (wR []) (λJ4 y22 G22 h MT Ih=>?_);obtain⟨CG,At⟩:=J4
 try dsimp only
 refine qq<|sr<|mv Y<|mv Y<|mv Y<|bE h λje pV h=>ix Y Y pV<|lr Y Y<|lE h λiW oM h=>ln Y oM<|lE h λeG mg h=>ls _ Y Y mg<|dn ?_;cases eG;refine cF<|b9<|aV.x<|aV.x<|bB.x<|aV.n ?_;obtain rfl:=O (F h);exact⟨CG,Ih _ Y,wR []⟩;refine cT<|bz<|aV.n<|qq<|bj<|bf mixed<|mv Y<|lE (V h) λlq uT h=>ad _ Y Y uT<|mv Y<|mv Y<|bE h λnL xe h=>ix Y Y xe<|lr Y Y<|mv Y ?_;obtain⟨⟨⟨xg,sw⟩,⟨J5,J6⟩⟩,oN,h⟩:=bS h;refine ix Y Y oN<|RT.cz .none Y T Y<|RT.cz .none Y T Y<|lr Y Y<|lE h λrq BB h=>ln Y BB<|lE h λnZ BE h=>RT.min .none _ Y Y T (OH (p:=100) (q:=rq) BE)<|lE h λnD sq h=>ad _ Y Y sq<|mv Y<|mv Y<|bE h λv7 D3 h=>ix Y Y D3<|lr Y Y<|mv Y ?_;obtain⟨⟨⟨sD,sE⟩,⟨J7,CH⟩⟩,h46,h⟩:=bS h;refine ix Y Y h46<|RT.cz .none Y T Y<|RT.cz .none Y T Y<|lr Y Y<|lE h λtO Dx h=>ln Y Dx<|lE h λDn Fk h=>RT.min .none _ Y Y T (OH (p:=100) (q:=tO) Fk)<|lE h λqM BD h=>ad _ Y Y BD<|ag Y ?_;refine RT.done ⟨by kernel_rfl,?_⟩;refine bB.n<|aV.n<|aX<|mv Y<|lE h λiM o7 h=>ad _ Y Y o7<|ag Y<|RT.done ?_;obtain rfl:=O h;exact aV.n ⟨(qM,iM),MT _ Y,wR []⟩;subst MS
 try dsimp only
 refine aV.n<|sr<|mv Y<|lE yF λGX NW yF=>gt _ Y Y NW<|dn ?_;cases GX;refine cF<|bz<|bB.n<|aV.n<|aX<|mv Y<|lE (F yF) λkI oL yF=>ad _ Y Y oL<|ag Y<|RT.done ?_;obtain rfl:=O yF;exact aV.n ⟨(sF,kI),YM _ Y,wR []⟩;refine cT<|sr<|ag Y<|dn<|bg<|bB.r<|aV.r ?_;obtain rfl:=O (V yF);have MU:=MQ _ Y;subst MU;refine aV.r<|bB.r<|aV.r<|aV.r ?_;obtain rfl:=O MO;exact R1 Y;refine cT<|sr<|ag Y<|dn<|bg<|aV.r<|bB.r<|aV.r ?_;obtain rfl:=O (V h);have MU:=MQ _ Y;subst MU;refine aV.r<|bB.r<|aV.r<|aV.r ?_;obtain rfl:=O MO;exact R1 Y;subst YL
 try dsimp only
 refine aV.n<|sr<|ag Y<|dn<|bg ?_;obtain rfl:=O MO;exact R1 Y
end
section
open Go.Fw
noncomputable def gp(x0:List Mv):Option (Bool):=(some (x0.length:Int)).bind λx6=>(some (decide ((60:Int)<x6))).bind λx7=>(bif x7 then some true else(cK (λ(tR:Int×(List Qr))=>match tR with|⟨oU,yG⟩=>(show Option ((Int×(List Qr))⊕((Unit)⊕(Bool)))from(some (x0.length:Int)).bind λfN=>(some (decide ((oU:Int)<fN))).bind λkI=>(bif kI then(cI x0 oU).bind λ⟨kx,kz,Au,⟨⟨qp,xp⟩,⟨xq,xu⟩⟩⟩=>(qK 64 yG [⟨⟨qp,xp⟩,⟨xq,xu⟩⟩]).bind λje=>cY (λ(vr:Bool)=>cY (λ(qt:(List Qr))=>(some (IntKind.i64.wrap (oU+1))).bind λig=>some (.inl (ig,qt))) λQi=>(bif vr then(eC [je]).bind λjW=>(bif jW then some (.inr (.inr true))else Qi [])else Qi je)) λYN=>(some (Int.tmod oU 40)).bind λiW=>(some (decide ((iW:Int)=39))).bind λeG=>(bif eG then some true else(some (x0.length:Int)).bind λlq=>(some (IntKind.i64.wrap (lq-1))).bind λgJ=>(some (decide ((oU:Int)=gJ))).bind λoH=>some oH).bind λyH=>YN yH else some (.inr (.inl ()))))) (0,[])).bind λBp=>match Bp with|.inr YO=>some YO|.inl _=>some false)
noncomputable def dw(x0:Zr)(x1:Int):Option (Bool):=match x0 with|⟨bQ,bM⟩=>(bn x1).bind λ⟨Qj,Qk⟩=>(dA ⟨bQ,bM⟩ ⟨Qj,Qk⟩).bind λx8=>some x8
noncomputable def cw(x0:Int)(x1:Int):Option (Qr):=(gP x0 x1).bind λ⟨⟨⟨F3,F4⟩,⟨F5,F6⟩⟩,HU⟩=>some ⟨⟨F3,F4⟩,⟨F5,F6⟩⟩
noncomputable def gu(x0:List En):Option (List En):=(cK (λ(s6:Int×(List En))=>match s6 with|⟨yI,yJ⟩=>(show Option ((Int×(List En))⊕((List En)))from(some (x0.length:Int)).bind λx7=>(some (decide ((yI:Int)<x7))).bind λx8=>(bif x8 then(cI x0 yI).bind λ⟨kT,kU,qu,⟨qw,qx⟩⟩=>(qK 56 yJ [⟨kT,kU,qu,⟨qw,qx⟩⟩]).bind λgh=>(some (IntKind.i64.wrap (yI+1))).bind λfN=>some (.inl (fN,gh))else some (.inr yJ)))) (0,[])).bind λoV=>some oV
noncomputable def iZ(x0:List En):Option (List En):=(cK (λ(s6:Int×(List En))=>match s6 with|⟨yI,yK⟩=>(show Option ((Int×(List En))⊕((List En)))from(some (x0.length:Int)).bind λx7=>(some (decide ((yI:Int)<x7))).bind λx8=>(bif x8 then(cI x0 yI).bind λ⟨kT,kU,qu,⟨qw,qx⟩⟩=>(qK 56 yK [⟨kT,kU,qu,⟨qw,qx⟩⟩]).bind λgh=>(some (IntKind.i64.wrap (yI+1))).bind λfN=>some (.inl (fN,gh))else some (.inr yK)))) (0,[])).bind λrM=>some rM
noncomputable def fK:Option (Bool):=(iT 3).bind λ⟨kS,z6⟩=>(cw 5 2).bind λ⟨⟨kx,kz⟩,⟨Au,qp⟩⟩=>(bP kS z6 1 1 0 ⟨⟨kx,kz⟩,⟨Au,qp⟩⟩).bind λ⟨gi,l2⟩=>(cw (-7) 1).bind λ⟨⟨xh,sx⟩,⟨xj,u0⟩⟩=>(bP kS l2 2 1 0 ⟨⟨xh,sx⟩,⟨xj,u0⟩⟩).bind λ⟨je,l4⟩=>(cw 1 1).bind λ⟨⟨xm,xn⟩,⟨xo,Aq⟩⟩=>(bP kS l4 3 1 0 ⟨⟨xm,xn⟩,⟨xo,Aq⟩⟩).bind λ⟨eG,l6⟩=>(cw 1 1).bind λ⟨⟨J8,J9⟩,⟨Ka,Kb⟩⟩=>(bP kS l6 0 1 0 ⟨⟨J8,J9⟩,⟨Ka,Kb⟩⟩).bind λ⟨mw,l8⟩=>(cw 1 1).bind λ⟨⟨ql,qm⟩,⟨Kc,Ke⟩⟩=>(bP kS l8 1 5 0 ⟨⟨ql,qm⟩,⟨Kc,Ke⟩⟩).bind λ⟨oH,Co⟩=>(cw 1 1).bind λ⟨⟨ir,gA⟩,⟨qf,qg⟩⟩=>(bP kS Co 1 4 8 ⟨⟨ir,gA⟩,⟨qf,qg⟩⟩).bind λ⟨qN,G1⟩=>(cP kS G1).bind λpN=>cY (λ(F7:Bool)=>some F7) λYP=>(cw 5 2).bind λ⟨⟨n8,l9⟩,⟨CE,CF⟩⟩=>(dP ⟨⟨n8,l9⟩,⟨CE,CF⟩⟩).bind λ⟨oc,oe⟩=>(dw ⟨oc,oe⟩ 2).bind λrq=>(bif rq then(cw 7 2).bind λ⟨⟨mc,me⟩,⟨z9,Aa⟩⟩=>(dP ⟨⟨mc,me⟩,⟨z9,Aa⟩⟩).bind λ⟨Ab,Ad⟩=>(dw ⟨Ab,Ad⟩ 4).bind λqL=>some qL else some false).bind λCI=>(bif CI then(cw (-5) 2).bind λ⟨⟨Kf,Kg⟩,⟨Kh,Ki⟩⟩=>(dP ⟨⟨Kf,Kg⟩,⟨Kh,Ki⟩⟩).bind λ⟨sD,sE⟩=>(dw ⟨sD,sE⟩ (-2)).bind λzQ=>some zQ else some false).bind λIi=>(bif Ii then(cw 8 3).bind λ⟨⟨Kj,Kk⟩,⟨Kl,Km⟩⟩=>(dP ⟨⟨Kj,Kk⟩,⟨Kl,Km⟩⟩).bind λ⟨zV,zW⟩=>(dw ⟨zV,zW⟩ 3).bind λqM=>some qM else some false).bind λIj=>(bif Ij then(some (decide ((gi:Int)=0))).bind λD2=>some D2 else some false).bind λIk=>(bif Ik then(some (decide ((je:Int)=0))).bind λuN=>some uN else some false).bind λIl=>(bif Il then(some (decide ((eG:Int)=1))).bind λF8=>some F8 else some false).bind λIm=>(bif Im then(some (decide ((mw:Int)=1))).bind λE4=>some E4 else some false).bind λIo=>(bif Io then(some (decide ((oH:Int)=12))).bind λLK=>some LK else some false).bind λIp=>(bif Ip then(some (decide ((qN:Int)=1))).bind λMV=>some MV else some false).bind λIq=>(bif Iq then(some (pN.length:Int)).bind λYQ=>(some (decide ((YQ:Int)=3))).bind λMW=>some MW else some false).bind λIr=>(bif Ir then(cI pN 0).bind λ⟨Kn,Ko⟩=>(dw ⟨Kn,Ko⟩ 5).bind λLL=>some LL else some false).bind λIs=>(bif Is then(cI pN 1).bind λ⟨Kp,Kq⟩=>(dw ⟨Kp,Kq⟩ 2).bind λLO=>some LO else some false).bind λIt=>(bif It then(cI pN 2).bind λ⟨Kr,Ks⟩=>(dw ⟨Kr,Ks⟩ (-7)).bind λYR=>some YR else some false).bind λF9=>(bif F9 then(gb kS G1 1).bind λ⟨vu,vv⟩=>(dw ⟨vu,vv⟩ (-5)).bind λDt=>some Dt else some false).bind λGa=>(bif Ga then(cj kS G1).bind λQl=>(some (Ql.length:Int)).bind λMX=>(some (decide ((MX:Int)=2))).bind λMY=>some MY else some false).bind λGb=>YP Gb
noncomputable def eD(x0:Nat)(x1:List Mv):Option (Int×(List En)):=(some (IntKind.i64.wrap (x0:Int))).bind λfN=>(some (Int.tmod fN 64)).bind λkI=>(some (IntKind.i64.wrap (1+kI))).bind λia=>(iT ia).bind λ⟨mN,sn⟩=>(cK (λ(s8:Int×(List En))=>match s8 with|⟨BR,yL⟩=>(show Option ((Int×(List En))⊕((List En)))from(some (x1.length:Int)).bind λiV=>(some (decide ((BR:Int)<iV))).bind λje=>(bif je then(cI x1 BR).bind λ⟨si,sj,Qm,⟨⟨Qn,Qo⟩,⟨Qp,Qq⟩⟩⟩=>(cI x1 BR).bind λ⟨ir,gA,qf,⟨⟨qg,Qs⟩,⟨Qt,Qu⟩⟩⟩=>(cI x1 BR).bind λ⟨oc,oe,z8,⟨⟨Cv,Qv⟩,⟨Qw,Qx⟩⟩⟩=>(cI x1 BR).bind λ⟨Qy,Qz,QA,⟨⟨Kt,Ku⟩,⟨Kv,Kw⟩⟩⟩=>(bP mN yL si gA z8 ⟨⟨Kt,Ku⟩,⟨Kv,Kw⟩⟩).bind λ⟨zf,Co⟩=>(some (IntKind.i64.wrap (BR+1))).bind λiW=>some (.inl (iW,Co))else some (.inr yL)))) (0,sn)).bind λrN=>some (mN,rN)
noncomputable def dB(x0:Nat)(x1:List Mv)(x2:List Mv):Option (Bool):=cY (λ(vn:Bool)=>(bif vn then(fK).bind λiM=>some iM else(eD x0 x1).bind λ⟨ql,qm⟩=>(eD x0 x2).bind λ⟨ir,gA⟩=>(qK 88 [] x1).bind λwe=>(qK 88 we x2).bind λrq=>(eD x0 rq).bind λ⟨Gc,Ge⟩=>(qK 88 [] x2).bind λv7=>(qK 88 v7 x1).bind λzf=>(eD x0 zf).bind λ⟨sD,sE⟩=>(cj Gc Ge).bind λv8=>(gu v8).bind λOU=>(cj ql qm).bind λDn=>(iZ Dn).bind λqM=>(cj ir gA).bind λGX=>(gu GX).bind λDp=>(qK 56 qM Dp).bind λD2=>(iz OU D2).bind λJj=>(some (!Jj)).bind λLD=>(bif LD then some false else(cP ql qm).bind λuN=>(cP ir gA).bind λN5=>(cP Gc Ge).bind λF8=>(cP sD sE).bind λAZ=>cY (λ(BS:Bool)=>(bif BS then some false else(cK (λ(lS:Int)=>(show Option ((Int)⊕((Unit)⊕(Bool)))from(some (uN.length:Int)).bind λx88=>(some (decide ((lS:Int)<x88))).bind λLM=>(bif LM then cY (λ(yM:Bool)=>(bif yM then some (.inr (.inr false))else(some (IntKind.i64.wrap (lS+1))).bind λLN=>some (.inl LN))) λK25=>(cI uN lS).bind λ⟨Kx,Ky⟩=>(cI N5 lS).bind λ⟨Kz,KA⟩=>(dg ⟨Kx,Ky⟩ ⟨Kz,KA⟩).bind λ⟨Gf,Gg⟩=>(cI F8 lS).bind λ⟨vu,vv⟩=>(dA ⟨Gf,Gg⟩ ⟨vu,vv⟩).bind λE9=>(some (!E9)).bind λBr=>(bif Br then some true else(cI F8 lS).bind λ⟨Gh,Gi⟩=>(cI AZ lS).bind λ⟨Gj,Gk⟩=>(dA ⟨Gh,Gi⟩ ⟨Gj,Gk⟩).bind λQB=>(some (!QB)).bind λBs=>some Bs).bind λCJ=>K25 CJ else some (.inr (.inl ()))))) 0).bind λQh=>match Qh with|.inr v22=>some v22|.inl _=>some true)) λK12=>(some (uN.length:Int)).bind λE4=>(some (N5.length:Int)).bind λLI=>(some (decide ((E4:Int)≠LI))).bind λYS=>(bif YS then some true else(some (uN.length:Int)).bind λNT=>(some (F8.length:Int)).bind λMV=>(some (decide ((NT:Int)≠MV))).bind λYT=>some YT).bind λGl=>(bif Gl then some true else(some (uN.length:Int)).bind λMW=>(some (AZ.length:Int)).bind λYU=>(some (decide ((MW:Int)≠YU))).bind λNU=>some NU).bind λMZ=>K12 MZ))) λK6=>(gp x1).bind λgh=>(bif gh then some true else(gp x2).bind λiV=>some iV).bind λGm=>(bif Gm then some true else(fK).bind λiW=>(some (!iW)).bind λeG=>some eG).bind λM1=>K6 M1
end
section
open Go.Fw Go.Fw.Z Go.RowKit
theorem oh{x0:List Mv}{r:Bool}(h:gp x0=some r):Pure ah 14 [slc 7 (List.map wP x0)] (az r):=by
 refine bH Try.func14 Y (af Y) (λgw M vs hvs=>?_);unfold gp at h;refine sr<|ag Y<|dn<|qq<|sr<|mv Y<|lE h λx6 h6 h=>ln Y h6<|lE h λx7 h7 h=>gt _ Y Y h7<|dn ?_;cases x7;refine fs<|sr<|ag Y<|dn<|ei (fU 3 304 26 4 Y Y T)<|qq<|sr<|ag Y<|dn<|bE (F h) λBp Fs jJ=>?_;refine bW (λ(mQ:Unit)=>AS.dj 35 [] [] []) (λmQ=>.inl mQ=Bp) ?_ (λmQ Ft=>?_);refine bj ?_;refine bX Fs (λtR=>AS.dj 35 [(0,.sv (slc 7 (List.map wP x0))),(3,.row 309),(4,ai tR.1)] [] [(309,TR 26 4 eQ tR.2)]) (eR (λi=>bif Nat.beq i 309 then 304 else i) Y Y Y Y Y ⟨.sv au,.row Y,.sv au,aq⟩ trivial ⟨⟨_,Y,cO.refl _⟩,aq⟩ (λi hi=>by rw[cG (show i≠309 by omega)];rfl)) (λtR y12 G12 h Fu Dy=>?_);obtain⟨oU,yG⟩:=tR
 try dsimp only
 refine qq<|sr<|mv Y<|mv Y<|lE h λfN iE h=>ln Y iE<|lE h λkI oL h=>ls _ Y Y oL<|dn ?_;cases kI;refine cF<|b9<|aV.x<|aV.x<|bB.x<|aV.n ?_;obtain rfl:=O (F h);exact⟨(),Dy _ Y,wR []⟩;refine cT<|bz<|aV.n<|qq<|bj<|sr<|mo (s:=.row _) Y<|mv Y<|mv Y ?_;obtain⟨⟨kx,kz,Au,⟨⟨qp,xp⟩,⟨xq,xu⟩⟩⟩,kO,h⟩:=bS (V h);refine ix Y Y kO<|RT.cz .none Y T Y<|RT.ke (cs:=[_,_,_,_]) .none Y T Y Y<|bl (l:=[⟨⟨qp,xp⟩,⟨xq,xu⟩⟩]) (e:=eQ) (.agg Y (.nil)) Y Y Y Y Y Y<|bE h λje pV h=>aR (k:=[⟨⟨qp,xp⟩,⟨xq,xu⟩⟩]) (e:=eQ) Y Y Y pV<|an (s:=.row _) Y<|dn<|qq ?_;refine bD h (λj15=>AS.dj 35 [(0,.sv (slc 7 (List.map wP x0))),(3,.row 21),(4,ai oU),(31,aj j15)] [] [(21,TR 26 4 eQ je)]) (λh=>?_) (λvr h=>?_);refine aX<|mv Y<|lE h λiW oM h=>RT.rem .none _ Y Y T (by decide) oM<|lE h λeG mg h=>eq _ Y Y (pJ (p:=iW) (q:=39) mg)<|mv Y<|bE h λyH oQ h=>?_;cases eG;refine gm Y<|gm Y<|lE (F oQ) λlq uT oQ=>gn Y uT<|lE oQ λgJ lu oQ=>RT.sub (.some Y Y) _ Y Y T lu<|lE oQ λoH ym oQ=>Ck _ Y Y (pJ (p:=oU) (q:=gJ) ym) ?_;obtain rfl:=O oQ;exact pF Y<|dn<|⟨oH,h,wR []⟩;obtain rfl:=O (V oQ);exact ww<|ww<|ww<|ww<|ww<|pT Y<|dn<|⟨true,h,wR []⟩
 try dsimp only
 refine aV.n ?_;refine bD h (λj17=>AS.dj 35 [(0,.sv (slc 7 (List.map wP x0))),(3,.row 316),(4,ai oU)] [] [(316,TR 26 4 eQ j17)]) (λh=>?_) (λqt h=>?_);cases vr;exact fs<|⟨je,(F h),eR (λi=>bif Nat.beq i 316 then 21 else i) Y Y Y Y Y ⟨.sv au,.row Y,.sv au,aq⟩ trivial ⟨⟨_,Y,cO.refl _⟩,aq⟩ (λi hi=>by rw[cG (show i≠316 by omega)];rfl)⟩;refine cT<|qq<|qq<|ei (nB (i:=21) (E1:=26) (n:=4) (e:=eQ) (l:=je) Y)<|aX<|mv Y<|bl (l:=[je]) (e:=(eS 4 eQ)) (.one Y (.nil)) Y Y Y Y Y Y<|bE (V h) λjW oN h=>cl (wE oN) ⟨Y,aq⟩<|dn ?_;cases jW;refine fs<|aX<|ag Y<|dn ?_;refine⟨[],(F h),?_⟩
 try dsimp only
 exact Bk (fU 3 320 26 4 Y Y T)<|eR (λi=>bif Nat.beq i 316 then 320 else i) Y Y Y Y Y ⟨.sv au,.row Y,.sv au,aq⟩ trivial ⟨⟨_,Y,cO.refl _⟩,aq⟩ (λi hi=>by rw[cG (show i≠316 by omega)];rfl);refine cT<|sr<|ag Y<|dn<|bg<|aV.r<|aV.r<|bB.r<|aV.r ?_;obtain rfl:=O (V h);have YV:=Dy _ Y;subst YV;refine aV.r<|bB.r<|aV.r<|aV.r ?_;obtain rfl:=O jJ;exact R1 Y
 try dsimp only
 refine bB.n<|aV.n<|aX<|mv Y<|lE h λig lJ h=>ad _ Y Y lJ<|ag Y<|RT.done ?_;obtain rfl:=O h;exact aV.n ⟨(ig,qt),Fu _ Y,eR (λi=>bif Nat.beq i 309 then 316 else i) Y Y Y Y Y ⟨.sv au,.row Y,.sv au,aq⟩ trivial ⟨⟨_,Y,cO.refl _⟩,aq⟩ (λi hi=>by rw[cG (show i≠309 by omega)];rfl)⟩;subst Ft
 try dsimp only
 refine aV.n<|sr<|ag Y<|dn<|bg ?_;obtain rfl:=O jJ;exact R1 Y;refine cT<|sr<|ag Y<|dn<|bg<|aV.r ?_;obtain rfl:=O (V h);exact R1 Y
theorem fg{x0:Zr}{x1:Int}{r:Bool}(h:dw x0 x1=some r):Pure ah 20 [.agg (eZ x0),ay x1] (az r):=by
 obtain⟨bQ,bM⟩:=x0;refine bH Try.func20 Y (af Y) (λgw M vs hvs=>?_);unfold dw at h;refine sr<|bx Y<|ag Y<|dn<|qq<|bf mixed<|ld Y Y (.k2 Y Y)<|mv Y ?_;obtain⟨⟨Qj,Qk⟩,h7,h⟩:=bS h;refine cl (fz h7) ⟨Y,aq⟩<|bE h λx8 h8 h=>cl (iY h8) ⟨Y,Y,aq⟩<|ag Y ?_;refine RT.done ⟨by kernel_rfl,?_⟩;refine aV.n<|bg ?_;obtain rfl:=O h;exact R1 Y
theorem c7{x0:Int}{x1:Int}{r:Qr}(h:cw x0 x1=some r):Pure ah 27 [ay x0,ay x1] (.agg (eQ r)):=by
 refine bH Try.func27 Y (af Y) (λgw M vs hvs=>?_);unfold cw at h;refine sr<|al (cs:=[az false,ax,az false,ax]) (by exact⟨au,aB,au,aB,aq⟩) Y<|dn<|sr<|mv Y<|mv Y ?_;obtain⟨⟨⟨⟨F3,F4⟩,⟨F5,F6⟩⟩,HU⟩,iE,h⟩:=bS h;refine cl (sy iE) ⟨Y,Y,aq⟩<|mv Y<|ex Y Y<|ex Y Y<|al (cs:=[az false,ax,az false,ax]) (by exact⟨au,aB,au,aB,aq⟩) Y<|so Y Y Y<|ag Y<|dn<|sr<|ld Y Y (.k4 Y Y Y Y)<|so Y Y Y<|dn<|bg ?_;obtain rfl:=O h;exact RZ (.agg Y Y (.k4 Y Y Y Y) Y (.nil))
theorem oq{x0:List En}{r:List En}(h:gu x0=some r):Pure ah 23 [slc 5 (List.map iF x0)] (slc 5 (List.map iF r)):=by
 refine bH Try.func23 Y (af Y) (λgw M vs hvs=>?_);unfold gu at h;refine sr<|aI Y (aB (n:=5) (e:=iF))<|dn<|sr<|ag Y<|dn<|ei (fU 3 304 88 5 Y Y T)<|qq<|sr<|ag Y<|dn<|bE h λe6 LY nO=>?_;refine bW (λ(oV:(List En))=>AS.dj 19 [(3,.row 306)] [] [(306,TR 88 5 iF oV)]) (λoV=>oV=e6) ?_ (λoV LZ=>?_);refine bj ?_;refine bX LY (λs6=>AS.dj 19 [(0,.sv (slc 5 (List.map iF x0))),(3,.row 306),(4,ai s6.1)] [] [(306,TR 88 5 iF s6.2)]) (eR (λi=>bif Nat.beq i 306 then 304 else i) Y Y Y Y Y ⟨.sv au,.row Y,.sv au,aq⟩ trivial ⟨⟨_,Y,cO.refl _⟩,aq⟩ (λi hi=>by rw[cG (show i≠306 by omega)];rfl)) (λs6 y6 G6 h L0 HR=>?_);obtain⟨yI,yJ⟩:=s6
 try dsimp only
 refine qq<|sr<|mv Y<|mv Y<|lE h λx7 h7 h=>ln Y h7<|lE h λx8 h8 h=>ls _ Y Y h8<|dn ?_;cases x8;refine cF<|b9<|aV.x<|aV.x<|bB.x<|aV.n ?_;obtain rfl:=O (F h);exact⟨yJ,HR _ Y,wR []⟩;refine cT<|bz<|aV.n<|qq<|bj<|aX<|mo (s:=.row _) Y<|mv Y<|mv Y ?_;obtain⟨⟨kT,kU,qu,⟨qw,qx⟩⟩,n9,h⟩:=bS (V h);refine ix Y Y n9<|RT.ke (cs:=[_,_,_,_,_]) .none Y T Y Y<|bl (l:=[⟨kT,kU,qu,⟨qw,qx⟩⟩]) (e:=iF) (.agg Y (.nil)) Y Y Y Y Y Y<|bE h λgh kO h=>aR (k:=[⟨kT,kU,qu,⟨qw,qx⟩⟩]) (e:=iF) Y Y Y kO<|an (s:=.row _) Y<|RT.done<|bB.n<|aV.n<|aX<|mv Y<|lE h λfN iE h=>ad _ Y Y iE<|ag Y<|RT.done ?_;obtain rfl:=O h;exact aV.n ⟨(fN,gh),L0 _ Y,eR (λi=>bif Nat.beq i 306 then 17 else i) Y Y Y Y Y ⟨.sv au,.row Y,.sv au,aq⟩ trivial ⟨⟨_,Y,cO.refl _⟩,aq⟩ (λi hi=>by rw[cG (show i≠306 by omega)];rfl)⟩;subst LZ
 try dsimp only
 refine aV.n<|sr<|mo (s:=.row _) Y<|an (s:=.row _) Y<|dn<|ei (nB (i:=306) (E1:=88) (n:=5) (e:=iF) (l:=oV) Y)<|bg ?_;obtain rfl:=O nO;exact R1 Y
theorem vw{x0:List En}{r:List En}(h:iZ x0=some r):Bc ah 23 [slc 5 (List.map iF x0)] (TR 88 5 iF r):=by
 refine oB Try.func23 Y (af Y) (λgw M vs hvs=>?_);unfold iZ at h;refine sr<|ag Y<|dn<|ei (fU 2 304 88 5 Y Y T)<|sr<|ag Y<|dn<|ei (fU 3 308 88 5 Y Y T)<|qq<|sr<|ag Y<|dn<|bE h λe6 LY nO=>?_;refine bW (λ(rM:(List En))=>AS.dj 19 [(3,.row 310)] [] [(310,TR 88 5 iF rM)]) (λrM=>rM=e6) ?_ (λrM LZ=>?_);refine bj ?_;refine bX LY (λs6=>AS.dj 19 [(0,.sv (slc 5 (List.map iF x0))),(3,.row 310),(4,ai s6.1)] [] [(310,TR 88 5 iF s6.2)]) (eR (λi=>bif Nat.beq i 310 then 308 else i) Y Y Y Y Y ⟨.sv au,.row Y,.sv au,aq⟩ trivial ⟨⟨_,Y,cO.refl _⟩,aq⟩ (λi hi=>by rw[cG (show i≠310 by omega)];rfl)) (λs6 y6 G6 h L0 HR=>?_);obtain⟨yI,yK⟩:=s6
 try dsimp only
 refine qq<|sr<|mv Y<|mv Y<|lE h λx7 h7 h=>ln Y h7<|lE h λx8 h8 h=>ls _ Y Y h8<|dn ?_;cases x8;refine cF<|b9<|aV.x<|aV.x<|bB.x<|aV.n ?_;obtain rfl:=O (F h);exact⟨yK,HR _ Y,wR []⟩;refine cT<|bz<|aV.n<|qq<|bj<|aX<|mo (s:=.row _) Y<|mv Y<|mv Y ?_;obtain⟨⟨kT,kU,qu,⟨qw,qx⟩⟩,n9,h⟩:=bS (V h);refine ix Y Y n9<|RT.ke (cs:=[_,_,_,_,_]) .none Y T Y Y<|bl (l:=[⟨kT,kU,qu,⟨qw,qx⟩⟩]) (e:=iF) (.agg Y (.nil)) Y Y Y Y Y Y<|bE h λgh kO h=>aR (k:=[⟨kT,kU,qu,⟨qw,qx⟩⟩]) (e:=iF) Y Y Y kO<|an (s:=.row _) Y<|RT.done<|bB.n<|aV.n<|aX<|mv Y<|lE h λfN iE h=>ad _ Y Y iE<|ag Y<|RT.done ?_;obtain rfl:=O h;exact aV.n ⟨(fN,gh),L0 _ Y,eR (λi=>bif Nat.beq i 310 then 17 else i) Y Y Y Y Y ⟨.sv au,.row Y,.sv au,aq⟩ trivial ⟨⟨_,Y,cO.refl _⟩,aq⟩ (λi hi=>by rw[cG (show i≠310 by omega)];rfl)⟩;subst LZ
 try dsimp only
 refine aV.n<|sr<|mo (s:=.row _) Y<|an (s:=.row _) Y<|dn<|bg ?_;obtain rfl:=O nO;exact⟨.inr Y,_,.tmp Y,Y⟩
set_option maxHeartbeats 4000000 in
theorem nh{r:Bool}(h:fK=some r):Pure ah 10 [] (az r):=by
 refine bH Try.func10 Y (af Y) (λgw M vs hvs=>?_);unfold fK at h;refine sr<|ag Y<|dn<|sr ?_;obtain⟨⟨kS,z6⟩,oL,h⟩:=bS h;refine RT.Cz .none (sB oL) [302] (by decide) Y ⟨⟨Y,T⟩,aq⟩ Y ⟨Y,aq⟩ T Y Y<|mo (s:=.cmp _ _) Y<|RT.qk .none Y Y T<|RT.qk .none Y Y T<|an (s:=.ptr _ _) Y<|ag Y<|dn<|qq<|sr<|mv Y<|ne false Y Y (by decide)<|dn<|fs<|sr<|mo (s:=.ptr _ _) Y ?_;obtain⟨⟨⟨kx,kz⟩,⟨Au,qp⟩⟩,kO,h⟩:=bS h;refine cl (c7 kO) ⟨Y,Y,aq⟩ ?_;obtain⟨⟨gi,l2⟩,kG,h⟩:=bS h;refine RT.vh .none (c9 kG) 11 [302] [304] Y ⟨Y,aq⟩ (by decide) (by decide) Y ⟨⟨Y,T⟩,aq⟩ Y Y (.cons Y (.k4 Y Y Y Y)) T<|ag Y<|dn<|sr<|mo (s:=.ptr _ _) Y ?_;obtain⟨⟨⟨xh,sx⟩,⟨xj,u0⟩⟩,nM,h⟩:=bS h;refine cl (c7 nM) ⟨Y,Y,aq⟩ ?_;obtain⟨⟨je,l4⟩,pV,h⟩:=bS h;refine RT.vh .none (c9 pV) 11 [304] [306] Y ⟨Y,aq⟩ (by decide) (by decide) Y ⟨⟨Y,T⟩,aq⟩ Y Y (.cons Y (.k4 Y Y Y Y)) T<|ag Y<|dn<|sr<|mo (s:=.ptr _ _) Y ?_;obtain⟨⟨⟨xm,xn⟩,⟨xo,Aq⟩⟩,oM,h⟩:=bS h;refine cl (c7 oM) ⟨Y,Y,aq⟩ ?_;obtain⟨⟨eG,l6⟩,mg,h⟩:=bS h;refine RT.vh .none (c9 mg) 11 [306] [308] Y ⟨Y,aq⟩ (by decide) (by decide) Y ⟨⟨Y,T⟩,aq⟩ Y Y (.cons Y (.k4 Y Y Y Y)) T<|ag Y<|dn<|sr<|mo (s:=.ptr _ _) Y ?_;obtain⟨⟨⟨J8,J9⟩,⟨Ka,Kb⟩⟩,o7,h⟩:=bS h;refine cl (c7 o7) ⟨Y,Y,aq⟩ ?_;obtain⟨⟨mw,l8⟩,su,h⟩:=bS h
 refine RT.vh .none (c9 su) 11 [308] [310] Y ⟨Y,aq⟩ (by decide) (by decide) Y ⟨⟨Y,T⟩,aq⟩ Y Y (.cons Y (.k4 Y Y Y Y)) T<|ag Y<|dn<|sr<|mo (s:=.ptr _ _) Y ?_;obtain⟨⟨⟨ql,qm⟩,⟨Kc,Ke⟩⟩,lu,h⟩:=bS h;refine cl (c7 lu) ⟨Y,Y,aq⟩ ?_;obtain⟨⟨oH,Co⟩,ym,h⟩:=bS h;refine RT.vh .none (c9 ym) 11 [310] [312] Y ⟨Y,aq⟩ (by decide) (by decide) Y ⟨⟨Y,T⟩,aq⟩ Y Y (.cons Y (.k4 Y Y Y Y)) T<|ag Y<|dn<|sr<|mo (s:=.ptr _ _) Y ?_;obtain⟨⟨⟨ir,gA⟩,⟨qf,qg⟩⟩,oa,h⟩:=bS h;refine cl (c7 oa) ⟨Y,Y,aq⟩ ?_;obtain⟨⟨qN,G1⟩,vO,h⟩:=bS h;refine RT.vh .none (c9 vO) 11 [312] [314] Y ⟨Y,aq⟩ (by decide) (by decide) Y ⟨⟨Y,T⟩,aq⟩ Y Y (.cons Y (.k4 Y Y Y Y)) T<|ag Y<|dn<|sr<|mo (s:=.ptr _ _) Y<|bE h λpN BC h=>RT.gR .none (eW BC) 11 [314] Y ⟨Y,aq⟩ (by decide) Y Y (.cons Y (.nil)) T<|ag Y<|dn<|qq ?_;refine bD h (λYW=>AS.dj 112 [(0,aj YW)] [] []) (λh=>?_) (λF7 h=>?_);refine aX ?_;obtain⟨⟨⟨n8,l9⟩,⟨CE,CF⟩⟩,wm,h⟩:=bS h;refine cl (c7 wm) ⟨Y,Y,aq⟩ ?_;obtain⟨⟨oc,oe⟩,zZ,h⟩:=bS h;refine cl (gD zZ) ⟨Y,aq⟩<|bE h λrq BB h=>cl (fg BB) ⟨Y,Y,aq⟩<|mv Y<|bE h λCI sG h=>?_;cases rq;obtain rfl:=O (F sG);refine ww<|ww<|ww<|pF Y<|mv Y<|bE h λT8 QC h=>?_;obtain rfl:=O (F QC);refine ww<|ww<|ww<|pF Y<|mv Y<|bE h λT9 QD h=>?_;obtain rfl:=O (F QD)
 refine ww<|ww<|ww<|pF Y<|mv Y<|bE h λUa QE h=>?_;obtain rfl:=O (F QE);refine ww<|ww<|pF Y<|mv Y<|bE h λUb QF h=>?_;obtain rfl:=O (F QF);refine ww<|ww<|pF Y<|mv Y<|bE h λUc QG h=>?_;obtain rfl:=O (F QG);refine ww<|ww<|pF Y<|mv Y<|bE h λUd QH h=>?_;obtain rfl:=O (F QH);refine ww<|ww<|pF Y<|mv Y<|bE h λUe QI h=>?_;obtain rfl:=O (F QI);refine ww<|ww<|pF Y<|mv Y<|bE h λUf QJ h=>?_;obtain rfl:=O (F QJ);refine ww<|ww<|pF Y<|mv Y<|bE h λUg QK h=>?_;obtain rfl:=O (F QK);refine ww<|ww<|ww<|pF Y<|mv Y<|bE h λUh QL h=>?_;obtain rfl:=O (F QL);refine ww<|ww<|ww<|ww<|pF Y<|mv Y<|bE h λUi QM h=>?_;obtain rfl:=O (F QM);refine ww<|ww<|ww<|ww<|pF Y<|mv Y<|bE h λQN QO h=>?_;obtain rfl:=O (F QO);refine ww<|ww<|ww<|ww<|pF Y<|mv Y<|bE h λQS QT h=>?_;obtain rfl:=O (F QT);refine ww<|ww<|ww<|pF Y<|mv Y<|bE h λQU QV h=>?_;obtain rfl:=O (F QV);exact ww<|ww<|ww<|ww<|pF Y<|ag Y<|dn<|⟨false,h,wR []⟩;obtain⟨⟨⟨mc,me⟩,⟨z9,Aa⟩⟩,sq,sG⟩:=bS (V sG);refine gc (c7 sq) ⟨Y,Y,aq⟩ ?_;obtain⟨⟨Ab,Ad⟩,Dv,sG⟩:=bS sG;refine gc (gD Dv) ⟨Y,aq⟩<|bE sG λqL zY sG=>gc (fg zY) ⟨Y,Y,aq⟩ ?_;obtain rfl:=O sG;refine pT Y<|mv Y<|bE h λUj sH h=>?_;cases qL;obtain rfl:=O (F sH);refine ww<|ww<|ww<|pF Y<|mv Y<|bE h λUk QW h=>?_
 obtain rfl:=O (F QW);refine ww<|ww<|ww<|pF Y<|mv Y<|bE h λUl QX h=>?_;obtain rfl:=O (F QX);refine ww<|ww<|pF Y<|mv Y<|bE h λUm QY h=>?_;obtain rfl:=O (F QY);refine ww<|ww<|pF Y<|mv Y<|bE h λUo QZ h=>?_;obtain rfl:=O (F QZ);refine ww<|ww<|pF Y<|mv Y<|bE h λUp Q0 h=>?_;obtain rfl:=O (F Q0);refine ww<|ww<|pF Y<|mv Y<|bE h λUq Q1 h=>?_;obtain rfl:=O (F Q1);refine ww<|ww<|pF Y<|mv Y<|bE h λUr Q2 h=>?_;obtain rfl:=O (F Q2);refine ww<|ww<|pF Y<|mv Y<|bE h λUs Q3 h=>?_;obtain rfl:=O (F Q3);refine ww<|ww<|ww<|pF Y<|mv Y<|bE h λUt Q4 h=>?_;obtain rfl:=O (F Q4);refine ww<|ww<|ww<|ww<|pF Y<|mv Y<|bE h λUu Q5 h=>?_;obtain rfl:=O (F Q5);refine ww<|ww<|ww<|ww<|pF Y<|mv Y<|bE h λQ6 Q7 h=>?_;obtain rfl:=O (F Q7);refine ww<|ww<|ww<|ww<|pF Y<|mv Y<|bE h λQ8 Q9 h=>?_;obtain rfl:=O (F Q9);refine ww<|ww<|ww<|pF Y<|mv Y<|bE h λRa Rb h=>?_;obtain rfl:=O (F Rb);exact ww<|ww<|ww<|ww<|pF Y<|ag Y<|dn<|⟨false,h,wR []⟩;obtain⟨⟨⟨Kf,Kg⟩,⟨Kh,Ki⟩⟩,Dw,sH⟩:=bS (V sH);refine gc (c7 Dw) ⟨Y,Y,aq⟩ ?_;obtain⟨⟨sD,sE⟩,h46,sH⟩:=bS sH;refine gc (gD h46) ⟨Y,aq⟩<|bE sH λzQ Fj sH=>gc (fg Fj) ⟨Y,Y,aq⟩ ?_;obtain rfl:=O sH;refine pT Y<|mv Y<|bE h λUv sI h=>?_;cases zQ;obtain rfl:=O (F sI)
 refine ww<|ww<|ww<|pF Y<|mv Y<|bE h λUw Rc h=>?_;obtain rfl:=O (F Rc);refine ww<|ww<|pF Y<|mv Y<|bE h λUx Rd h=>?_;obtain rfl:=O (F Rd);refine ww<|ww<|pF Y<|mv Y<|bE h λUy Re h=>?_;obtain rfl:=O (F Re);refine ww<|ww<|pF Y<|mv Y<|bE h λUz Rf h=>?_;obtain rfl:=O (F Rf);refine ww<|ww<|pF Y<|mv Y<|bE h λUA Rg h=>?_;obtain rfl:=O (F Rg);refine ww<|ww<|pF Y<|mv Y<|bE h λUB Rh h=>?_;obtain rfl:=O (F Rh);refine ww<|ww<|pF Y<|mv Y<|bE h λUC Ri h=>?_;obtain rfl:=O (F Ri);refine ww<|ww<|ww<|pF Y<|mv Y<|bE h λUD Rj h=>?_;obtain rfl:=O (F Rj);refine ww<|ww<|ww<|ww<|pF Y<|mv Y<|bE h λUE Rk h=>?_;obtain rfl:=O (F Rk);refine ww<|ww<|ww<|ww<|pF Y<|mv Y<|bE h λRl Rm h=>?_;obtain rfl:=O (F Rm);refine ww<|ww<|ww<|ww<|pF Y<|mv Y<|bE h λRn Ro h=>?_;obtain rfl:=O (F Ro);refine ww<|ww<|ww<|pF Y<|mv Y<|bE h λRp Rq h=>?_;obtain rfl:=O (F Rq);exact ww<|ww<|ww<|ww<|pF Y<|ag Y<|dn<|⟨false,h,wR []⟩;obtain⟨⟨⟨Kj,Kk⟩,⟨Kl,Km⟩⟩,Dx,sI⟩:=bS (V sI);refine gc (c7 Dx) ⟨Y,Y,aq⟩ ?_;obtain⟨⟨zV,zW⟩,Fk,sI⟩:=bS sI;refine gc (gD Fk) ⟨Y,aq⟩<|bE sI λqM BD sI=>gc (fg BD) ⟨Y,Y,aq⟩ ?_;obtain rfl:=O sI;refine pT Y<|mv Y<|bE h λUF CK h=>?_;cases qM;obtain rfl:=O (F CK);refine ww<|ww<|pF Y<|mv Y<|bE h λUG Rr h=>?_;obtain rfl:=O (F Rr)
 refine ww<|ww<|pF Y<|mv Y<|bE h λUH Rt h=>?_;obtain rfl:=O (F Rt);refine ww<|ww<|pF Y<|mv Y<|bE h λUI Ru h=>?_;obtain rfl:=O (F Ru);refine ww<|ww<|pF Y<|mv Y<|bE h λUJ Rv h=>?_;obtain rfl:=O (F Rv);refine ww<|ww<|pF Y<|mv Y<|bE h λUL Rw h=>?_;obtain rfl:=O (F Rw);refine ww<|ww<|pF Y<|mv Y<|bE h λUM Rx h=>?_;obtain rfl:=O (F Rx);refine ww<|ww<|ww<|pF Y<|mv Y<|bE h λUN Ry h=>?_;obtain rfl:=O (F Ry);refine ww<|ww<|ww<|ww<|pF Y<|mv Y<|bE h λUO Rz h=>?_;obtain rfl:=O (F Rz);refine ww<|ww<|ww<|ww<|pF Y<|mv Y<|bE h λRA RB h=>?_;obtain rfl:=O (F RB);refine ww<|ww<|ww<|ww<|pF Y<|mv Y<|bE h λRC RE h=>?_;obtain rfl:=O (F RE);refine ww<|ww<|ww<|pF Y<|mv Y<|bE h λRF RG h=>?_;obtain rfl:=O (F RG);exact ww<|ww<|ww<|ww<|pF Y<|ag Y<|dn<|⟨false,h,wR []⟩;refine gm Y<|lE (V CK) λD2 HS CK=>Ck _ Y Y (pJ (p:=gi) (q:=0) HS) ?_;obtain rfl:=O CK;refine pT Y<|mv Y<|bE h λUP CL h=>?_;cases D2;obtain rfl:=O (F CL);refine ww<|ww<|pF Y<|mv Y<|bE h λUQ RH h=>?_;obtain rfl:=O (F RH);refine ww<|ww<|pF Y<|mv Y<|bE h λUR RI h=>?_;obtain rfl:=O (F RI);refine ww<|ww<|pF Y<|mv Y<|bE h λUS RJ h=>?_;obtain rfl:=O (F RJ);refine ww<|ww<|pF Y<|mv Y<|bE h λUT RK h=>?_;obtain rfl:=O (F RK)
 refine ww<|ww<|pF Y<|mv Y<|bE h λUU RL h=>?_;obtain rfl:=O (F RL);refine ww<|ww<|ww<|pF Y<|mv Y<|bE h λUW RM h=>?_;obtain rfl:=O (F RM);refine ww<|ww<|ww<|ww<|pF Y<|mv Y<|bE h λUX RN h=>?_;obtain rfl:=O (F RN);refine ww<|ww<|ww<|ww<|pF Y<|mv Y<|bE h λRO RQ h=>?_;obtain rfl:=O (F RQ);refine ww<|ww<|ww<|ww<|pF Y<|mv Y<|bE h λRR RU h=>?_;obtain rfl:=O (F RU);refine ww<|ww<|ww<|pF Y<|mv Y<|bE h λRV RW h=>?_;obtain rfl:=O (F RW);exact ww<|ww<|ww<|ww<|pF Y<|ag Y<|dn<|⟨false,h,wR []⟩;refine gm Y<|lE (V CL) λuN GY CL=>Ck _ Y Y (pJ (p:=je) (q:=0) GY) ?_;obtain rfl:=O CL;refine pT Y<|mv Y<|bE h λUY CM h=>?_;cases uN;obtain rfl:=O (F CM);refine ww<|ww<|pF Y<|mv Y<|bE h λUZ RX h=>?_;obtain rfl:=O (F RX);refine ww<|ww<|pF Y<|mv Y<|bE h λU0 RY h=>?_;obtain rfl:=O (F RY);refine ww<|ww<|pF Y<|mv Y<|bE h λU1 R3 h=>?_;obtain rfl:=O (F R3);refine ww<|ww<|pF Y<|mv Y<|bE h λU3 R4 h=>?_;obtain rfl:=O (F R4);refine ww<|ww<|ww<|pF Y<|mv Y<|bE h λU4 R5 h=>?_;obtain rfl:=O (F R5);refine ww<|ww<|ww<|ww<|pF Y<|mv Y<|bE h λU5 R6 h=>?_;obtain rfl:=O (F R6);refine ww<|ww<|ww<|ww<|pF Y<|mv Y<|bE h λR7 R8 h=>?_;obtain rfl:=O (F R8);refine ww<|ww<|ww<|ww<|pF Y<|mv Y<|bE h λR9 Sa h=>?_;obtain rfl:=O (F Sa)
 refine ww<|ww<|ww<|pF Y<|mv Y<|bE h λSb Sc h=>?_;obtain rfl:=O (F Sc);exact ww<|ww<|ww<|ww<|pF Y<|ag Y<|dn<|⟨false,h,wR []⟩;refine gm Y<|lE (V CM) λF8 YX CM=>Ck _ Y Y (pJ (p:=eG) (q:=1) YX) ?_;obtain rfl:=O CM;refine pT Y<|mv Y<|bE h λU6 CN h=>?_;cases F8;obtain rfl:=O (F CN);refine ww<|ww<|pF Y<|mv Y<|bE h λU7 Sd h=>?_;obtain rfl:=O (F Sd);refine ww<|ww<|pF Y<|mv Y<|bE h λU8 Se h=>?_;obtain rfl:=O (F Se);refine ww<|ww<|pF Y<|mv Y<|bE h λU9 Sf h=>?_;obtain rfl:=O (F Sf);refine ww<|ww<|ww<|pF Y<|mv Y<|bE h λVc Sg h=>?_;obtain rfl:=O (F Sg);refine ww<|ww<|ww<|ww<|pF Y<|mv Y<|bE h λVd Sh h=>?_;obtain rfl:=O (F Sh);refine ww<|ww<|ww<|ww<|pF Y<|mv Y<|bE h λSi Sj h=>?_;obtain rfl:=O (F Sj);refine ww<|ww<|ww<|ww<|pF Y<|mv Y<|bE h λSk Sl h=>?_;obtain rfl:=O (F Sl);refine ww<|ww<|ww<|pF Y<|mv Y<|bE h λSn So h=>?_;obtain rfl:=O (F So);exact ww<|ww<|ww<|ww<|pF Y<|ag Y<|dn<|⟨false,h,wR []⟩;refine gm Y<|lE (V CN) λE4 Pp CN=>Ck _ Y Y (pJ (p:=mw) (q:=1) Pp) ?_;obtain rfl:=O CN;refine pT Y<|mv Y<|bE h λVe CO h=>?_;cases E4;obtain rfl:=O (F CO);refine ww<|ww<|pF Y<|mv Y<|bE h λVf Sq h=>?_;obtain rfl:=O (F Sq);refine ww<|ww<|pF Y<|mv Y<|bE h λVg Sr h=>?_;obtain rfl:=O (F Sr)
 refine ww<|ww<|ww<|pF Y<|mv Y<|bE h λVh Ss h=>?_;obtain rfl:=O (F Ss);refine ww<|ww<|ww<|ww<|pF Y<|mv Y<|bE h λVi St h=>?_;obtain rfl:=O (F St);refine ww<|ww<|ww<|ww<|pF Y<|mv Y<|bE h λSu Sv h=>?_;obtain rfl:=O (F Sv);refine ww<|ww<|ww<|ww<|pF Y<|mv Y<|bE h λSw Sx h=>?_;obtain rfl:=O (F Sx);refine ww<|ww<|ww<|pF Y<|mv Y<|bE h λSy Sz h=>?_;obtain rfl:=O (F Sz);exact ww<|ww<|ww<|ww<|pF Y<|ag Y<|dn<|⟨false,h,wR []⟩;refine gm Y<|lE (V CO) λLK Xy CO=>Ck _ Y Y (pJ (p:=oH) (q:=12) Xy) ?_;obtain rfl:=O CO;refine pT Y<|mv Y<|bE h λVj CP h=>?_;cases LK;obtain rfl:=O (F CP);refine ww<|ww<|pF Y<|mv Y<|bE h λVk SA h=>?_;obtain rfl:=O (F SA);refine ww<|ww<|ww<|pF Y<|mv Y<|bE h λVl SB h=>?_;obtain rfl:=O (F SB);refine ww<|ww<|ww<|ww<|pF Y<|mv Y<|bE h λVm SC h=>?_;obtain rfl:=O (F SC);refine ww<|ww<|ww<|ww<|pF Y<|mv Y<|bE h λSD SE h=>?_;obtain rfl:=O (F SE);refine ww<|ww<|ww<|ww<|pF Y<|mv Y<|bE h λSF SG h=>?_;obtain rfl:=O (F SG);refine ww<|ww<|ww<|pF Y<|mv Y<|bE h λSH SI h=>?_;obtain rfl:=O (F SI);exact ww<|ww<|ww<|ww<|pF Y<|ag Y<|dn<|⟨false,h,wR []⟩;refine gm Y<|lE (V CP) λMV YY CP=>Ck _ Y Y (pJ (p:=qN) (q:=1) YY) ?_;obtain rfl:=O CP;refine pT Y<|mv Y<|bE h λVn xw h=>?_;cases MV
 obtain rfl:=O (F xw);refine ww<|ww<|ww<|pF Y<|mv Y<|bE h λVo SJ h=>?_;obtain rfl:=O (F SJ);refine ww<|ww<|ww<|ww<|pF Y<|mv Y<|bE h λVp SK h=>?_;obtain rfl:=O (F SK);refine ww<|ww<|ww<|ww<|pF Y<|mv Y<|bE h λSL SM h=>?_;obtain rfl:=O (F SM);refine ww<|ww<|ww<|ww<|pF Y<|mv Y<|bE h λSN SO h=>?_;obtain rfl:=O (F SO);refine ww<|ww<|ww<|pF Y<|mv Y<|bE h λSP SQ h=>?_;obtain rfl:=O (F SQ);exact ww<|ww<|ww<|ww<|pF Y<|ag Y<|dn<|⟨false,h,wR []⟩;refine gm Y<|lE (V xw) λYQ h80 xw=>gn Y h80<|lE xw λMW YZ xw=>Ck _ Y Y (pJ (p:=YQ) (q:=3) YZ) ?_;obtain rfl:=O xw;refine pT Y<|mv Y<|bE h λVq xx h=>?_;cases MW;obtain rfl:=O (F xx);refine ww<|ww<|ww<|ww<|pF Y<|mv Y<|bE h λVr SR h=>?_;obtain rfl:=O (F SR);refine ww<|ww<|ww<|ww<|pF Y<|mv Y<|bE h λSS SU h=>?_;obtain rfl:=O (F SU);refine ww<|ww<|ww<|ww<|pF Y<|mv Y<|bE h λSW SX h=>?_;obtain rfl:=O (F SX);refine ww<|ww<|ww<|pF Y<|mv Y<|bE h λSY SZ h=>?_;obtain rfl:=O (F SZ);exact ww<|ww<|ww<|ww<|pF Y<|ag Y<|dn<|⟨false,h,wR []⟩;refine gm Y ?_;obtain⟨⟨Kn,Ko⟩,XB,xx⟩:=bS (V xx);refine RT.Dk (.some Y Y) Y Y T XB<|RT.ke (cs:=[_,_]) (.some Y Y) Y T Y Y<|bE xx λLL XC xx=>gc (fg XC) ⟨Y,Y,aq⟩ ?_;obtain rfl:=O xx;refine pT Y<|mv Y<|bE h λVs xy h=>?_;cases LL
 obtain rfl:=O (F xy);refine ww<|ww<|ww<|ww<|pF Y<|mv Y<|bE h λS0 S3 h=>?_;obtain rfl:=O (F S3);refine ww<|ww<|ww<|ww<|pF Y<|mv Y<|bE h λS4 S5 h=>?_;obtain rfl:=O (F S5);refine ww<|ww<|ww<|pF Y<|mv Y<|bE h λS6 S7 h=>?_;obtain rfl:=O (F S7);exact ww<|ww<|ww<|ww<|pF Y<|ag Y<|dn<|⟨false,h,wR []⟩;refine gm Y ?_;obtain⟨⟨Kp,Kq⟩,Ps,xy⟩:=bS (V xy);refine RT.Dk (.some Y Y) Y Y T Ps<|RT.ke (cs:=[_,_]) (.some Y Y) Y T Y Y<|bE xy λLO XE xy=>gc (fg XE) ⟨Y,Y,aq⟩ ?_;obtain rfl:=O xy;refine pT Y<|mv Y<|bE h λS8 xz h=>?_;cases LO;obtain rfl:=O (F xz);refine ww<|ww<|ww<|ww<|pF Y<|mv Y<|bE h λS9 Ta h=>?_;obtain rfl:=O (F Ta);refine ww<|ww<|ww<|pF Y<|mv Y<|bE h λTb Tc h=>?_;obtain rfl:=O (F Tc);exact ww<|ww<|ww<|ww<|pF Y<|ag Y<|dn<|⟨false,h,wR []⟩;refine gm Y ?_;obtain⟨⟨Kr,Ks⟩,XF,xz⟩:=bS (V xz);refine RT.Dk (.some Y Y) Y Y T XF<|RT.ke (cs:=[_,_]) (.some Y Y) Y T Y Y<|bE xz λYR h99 xz=>gc (fg h99) ⟨Y,Y,aq⟩ ?_;obtain rfl:=O xz;refine pT Y<|mv Y<|bE h λTd xA h=>?_;cases YR;obtain rfl:=O (F xA);refine ww<|ww<|ww<|pF Y<|mv Y<|bE h λTe Tf h=>?_;obtain rfl:=O (F Tf);exact ww<|ww<|ww<|ww<|pF Y<|ag Y<|dn<|⟨false,h,wR []⟩;refine RT.move (.some Y Y) (s:=.ptr _ _) Y T ?_;obtain⟨⟨vu,vv⟩,Fx,xA⟩:=bS (V xA)
 refine RT.gR (.some Y Y) (tj Fx) 11 [314] Y ⟨Y,aq⟩ (by decide) Y Y (.k2 Y Y) T<|bE xA λDt L6 xA=>gc (fg L6) ⟨Y,Y,aq⟩ ?_;obtain rfl:=O xA;refine pT Y<|mv Y<|bE h λTg sJ h=>?_;cases Dt;obtain rfl:=O (F sJ);exact ww<|ww<|ww<|ww<|pF Y<|ag Y<|dn<|⟨false,h,wR []⟩;refine RT.move (.some Y Y) (s:=.ptr _ _) Y T<|bE (V sJ) λQl Y0 sJ=>RT.gR (.some Y Y) (eA Y0) 11 [314] Y ⟨Y,aq⟩ (by decide) Y Y (.cons Y (.nil)) T<|lE sJ λMX Y1 sJ=>gn Y Y1<|lE sJ λMY M3 sJ=>Ck _ Y Y (pJ (p:=MX) (q:=2) M3) ?_;obtain rfl:=O sJ;exact pT Y<|ag Y<|dn<|⟨MY,h,wR []⟩
 try dsimp only
 refine aV.n<|bg ?_;obtain rfl:=O h;exact R1 Y
theorem ja{x0:Nat}{x1:List Mv}{r:Int×(List En)}(h:eD x0 x1=some r):DN ah 15 [.v (.int .u8 ((x0:Nat):Int)),slc 7 (List.map wP x1)] false [] 66 [.s (ay r.1),.r (TR 43 5 iF r.2)]:=by
 refine Am Try.func15 Y (af Y) (λgw M vs hvs=>?_);unfold eD at h;refine sr<|ag Y<|dn<|sr<|mv Y<|lE h λfN iE h=>cv _ Y iE<|lE h λkI oL h=>RT.rem .none _ Y Y T (by decide) oL<|lE h λia kP h=>ad _ Y Y kP ?_;obtain⟨⟨mN,sn⟩,lJ,h⟩:=bS h;refine RT.Cz .none (sB lJ) [302] (by decide) Y ⟨⟨Y,T⟩,aq⟩ Y ⟨Y,aq⟩ T Y Y<|mo (s:=.cmp _ _) Y<|RT.qk .none Y Y T<|RT.qk .none Y Y T<|an (s:=.ptr _ _) Y<|ag Y<|dn<|qq<|sr<|mv Y<|ne false Y Y (by decide)<|dn<|fs<|qq<|sr<|ag Y<|dn<|bE h λe8 Fl wj=>?_;refine bW (λ(rN:(List En))=>AS.dj 47 [(5,.ptr 13 0)] [(13,⟨66,[ai mN,.row 305]⟩)] [(305,TR 43 5 iF rN)]) (λrN=>rN=e8) ?_ (λrN Fm=>?_);refine bj ?_;refine bX Fl (λs8=>AS.dj 47 [(1,.sv (slc 7 (List.map wP x1))),(5,.ptr 13 0),(7,ai s8.1)] [(13,⟨66,[ai mN,.row 305]⟩)] [(305,TR 43 5 iF s8.2)]) (eR (λi=>bif Nat.beq i 305 then 302 else i) Y Y Y Y Y ⟨.sv au,.ptr,.sv au,aq⟩ ⟨⟨_,Y,⟨.sv au,.row Y,aq⟩⟩,aq⟩ ⟨⟨_,Y,cO.refl _⟩,aq⟩ (λi hi=>by rw[cG (show i≠305 by omega)];rfl)) (λs8 y8 G8 h Fo Fp=>?_);obtain⟨BR,yL⟩:=s8
 try dsimp only
 refine qq<|sr<|mv Y<|mv Y<|lE h λiV nM h=>ln Y nM<|lE h λje pV h=>ls _ Y Y pV<|dn ?_;cases je;refine cF<|b9<|aV.x<|aV.x<|bB.x<|aV.n ?_;obtain rfl:=O (F h);exact⟨yL,Fp _ Y,wR []⟩;refine cT<|bz<|aV.n<|qq<|bj<|bf mixed<|mo (s:=.ptr _ _) Y<|mv Y<|mv Y ?_;obtain⟨⟨si,sj,Qm,⟨⟨Qn,Qo⟩,⟨Qp,Qq⟩⟩⟩,su,h⟩:=bS (V h);refine ix Y Y su<|RT.cz .none Y T Y<|lr Y Y<|mv Y<|mv Y ?_;obtain⟨⟨ir,gA,qf,⟨⟨qg,Qs⟩,⟨Qt,Qu⟩⟩⟩,oa,h⟩:=bS h;refine ix Y Y oa<|RT.cz .none Y T Y<|lr Y Y<|mv Y<|mv Y ?_;obtain⟨⟨oc,oe,z8,⟨⟨Cv,Qv⟩,⟨Qw,Qx⟩⟩⟩,zZ,h⟩:=bS h;refine ix Y Y zZ<|RT.cz .none Y T Y<|lr Y Y<|mv Y<|mv Y ?_;obtain⟨⟨Qy,Qz,QA,⟨⟨Kt,Ku⟩,⟨Kv,Kw⟩⟩⟩,zY,h⟩:=bS h;refine ix Y Y zY<|RT.cz .none Y T Y<|RT.ke (cs:=[_,_,_,_]) .none Y T Y Y ?_;obtain⟨⟨zf,Co⟩,Dw,h⟩:=bS h;refine RT.vh .none (c9 Dw) 13 [305] [309] Y ⟨Y,aq⟩ (by decide) (by decide) Y ⟨⟨Y,T⟩,aq⟩ Y Y (.cons Y (.k4 Y Y Y Y)) T ?_;refine RT.done ⟨by kernel_rfl,?_⟩;refine bB.n<|aV.n<|aX<|mv Y<|lE h λiW oM h=>ad _ Y Y oM<|ag Y<|RT.done ?_;obtain rfl:=O h;exact aV.n ⟨(iW,Co),Fo _ Y,eR (λi=>bif Nat.beq i 305 then 309 else i) Y Y Y Y Y ⟨.sv au,.ptr,.sv au,aq⟩ ⟨⟨_,Y,⟨.sv au,.row Y,aq⟩⟩,aq⟩ ⟨⟨_,Y,cO.refl _⟩,aq⟩ (λi hi=>by rw[cG (show i≠305 by omega)];rfl)⟩;subst Fm
 try dsimp only
 refine aV.n<|sr<|mo (s:=.ptr _ _) Y<|an (s:=.ptr _ _) Y<|dn<|bg ?_;obtain rfl:=O wj;exact⟨.inr Y,13,[305],.tmp Y,Y,⟨Y,aq⟩,by decide⟩
end
section
open Go.Fw Go.Fw.Z Go.RowKit
set_option maxHeartbeats 4000000 in
theorem jY{x0:Nat}{x1:List Mv}{x2:List Mv}{r:Bool}(h:dB x0 x1 x2=some r):Pure ah 5 [.v (.int .u8 ((x0:Nat):Int)),slc 7 (List.map wP x1),slc 7 (List.map wP x2)] (az r):=by
 refine bH Try.func5 Y (af Y) (λgw M vs hvs=>?_);unfold dB at h;refine sr<|ag Y<|dn<|qq<|qq ?_;refine bD h (λj6=>AS.dj 119 [(0,.sv (.v (.int .u8 ((x0:Nat):Int)))),(1,.sv (slc 7 (List.map wP x1))),(2,.sv (slc 7 (List.map wP x2))),(25,aj j6)] [] []) (λh=>?_) (λvn h=>?_);refine aX<|mv Y<|bE h λgh kO h=>cl (oh kO) ⟨Y,aq⟩<|mv Y<|bE h λGm yy h=>?_;cases gh;refine gm Y<|bE (F yy) λiV nM yy=>gc (oh nM) ⟨Y,aq⟩ ?_;obtain rfl:=O yy;refine pF Y<|mv Y<|bE h λY2 Ae h=>?_;cases iV;refine bE (F Ae) λiW oM Ae=>gc (nh oM) trivial<|lE Ae λeG mg Ae=>T5 Y _ mg ?_;obtain rfl:=O Ae;exact pF Y<|dn<|⟨eG,h,wR []⟩;obtain rfl:=O (V Ae);exact ww<|ww<|pT Y<|dn<|⟨true,h,wR []⟩;obtain rfl:=O (V yy);refine ww<|ww<|pT Y<|mv Y<|bE h λY3 Mz h=>?_;obtain rfl:=O (V Mz);exact ww<|ww<|pT Y<|dn<|⟨true,h,wR []⟩
 try dsimp only
 refine aV.n ?_;cases vn;refine fs<|sr<|mv Y<|mv Y ?_;obtain⟨⟨ql,qm⟩,lu,h⟩:=bS (F h);refine RT.yA .none (ja lu) [303] (by decide) Y ⟨⟨Y,T⟩,aq⟩ Y ⟨Y,Y,aq⟩ T Y Y<|mv Y<|mv Y ?_;obtain⟨⟨ir,gA⟩,oa,h⟩:=bS h;refine RT.yA .none (ja oa) [304] (by decide) Y ⟨⟨Y,T⟩,aq⟩ Y ⟨Y,Y,aq⟩ T Y Y<|an (s:=.ptr _ _) Y<|an (s:=.ptr _ _) Y<|dn<|sr<|mv Y<|RT.xZ (l:=([]:List Mv)) (e:=wP) .none (.nil) T Y T Y Y Y Y Y Y<|mv Y<|bE h λwe wm h=>aR (k:=x1) (e:=wP) Y Y Y wm<|mv Y<|bE h λrq BB h=>RT.HE (k:=x2) (e:=wP) .none Y Y Y T Y T BB ?_;obtain⟨⟨Gc,Ge⟩,BE,h⟩:=bS h;refine RT.yA .none (ja BE) [306] (by decide) Y ⟨⟨Y,T⟩,aq⟩ Y ⟨Y,Y,aq⟩ T Y Y<|an (s:=.ptr _ _) Y<|dn<|sr<|mv Y<|RT.xZ (l:=([]:List Mv)) (e:=wP) .none (.nil) T Y T Y Y Y Y Y Y<|mv Y<|bE h λv7 D3 h=>aR (k:=x2) (e:=wP) Y Y Y D3<|mv Y<|bE h λzf Dw h=>RT.HE (k:=x1) (e:=wP) .none Y Y Y T Y T Dw ?_;obtain⟨⟨sD,sE⟩,h46,h⟩:=bS h
 refine RT.yA .none (ja h46) [308] (by decide) Y ⟨⟨Y,T⟩,aq⟩ Y ⟨Y,Y,aq⟩ T Y Y<|an (s:=.ptr _ _) Y<|dn<|qq<|sr<|mo (s:=.ptr _ _) Y<|bE h λv8 h48 h=>RT.gR .none (eA h48) 39 [306] Y ⟨Y,aq⟩ (by decide) Y Y (.cons Y (.nil)) T<|bE h λOU L3 h=>cl (oq L3) ⟨Y,aq⟩<|mo (s:=.ptr _ _) Y<|bE h λDn Fk h=>RT.gR .none (eA Fk) 29 [303] Y ⟨Y,aq⟩ (by decide) Y Y (.cons Y (.nil)) T ?_;refine bE h λqM BD h=>cN (vw BD) ⟨Y,aq⟩<|mo (s:=.ptr _ _) Y<|bE h λGX NW h=>RT.gR .none (eA NW) 32 [304] Y ⟨Y,aq⟩ (by decide) Y Y (.cons Y (.nil)) T<|bE h λDp Pn h=>cl (oq Pn) ⟨Y,aq⟩<|bE h λD2 HS h=>RT.HE (k:=Dp) (e:=iF) .none Y Y Y T Y T HS<|bE h λJj L4 h=>cl (wD L4) ⟨Y,Y,aq⟩<|lE h λLD Xl h=>nt Y _ Xl<|RT.done ?_;refine aV.n ?_;cases LD;refine fs<|sr<|mo (s:=.ptr _ _) Y<|bE (F h) λuN GY h=>RT.gR .none (eW GY) 29 [303] Y ⟨Y,aq⟩ (by decide) Y Y (.cons Y (.nil)) T<|mo (s:=.ptr _ _) Y<|bE h λN5 Pr h=>RT.gR .none (eW Pr) 32 [304] Y ⟨Y,aq⟩ (by decide) Y Y (.cons Y (.nil)) T<|mo (s:=.ptr _ _) Y<|bE h λF8 YX h=>RT.gR .none (eW YX) 39 [306] Y ⟨Y,aq⟩ (by decide) Y Y (.cons Y (.nil)) T<|mo (s:=.ptr _ _) Y ?_
 refine bE h λAZ Po h=>RT.gR .none (eW Po) 46 [308] Y ⟨Y,aq⟩ (by decide) Y Y (.cons Y (.nil)) T<|ag Y<|ag Y<|ag Y<|ag Y<|dn<|qq<|qq ?_;refine bD h (λj12=>AS.dj 119 [(11,.sv (slc 2 (List.map eZ uN))),(12,.sv (slc 2 (List.map eZ N5))),(13,.sv (slc 2 (List.map eZ F8))),(14,.sv (slc 2 (List.map eZ AZ))),(85,aj j12)] [] []) (λh=>?_) (λBS h=>?_);refine aX<|mv Y<|lE h λE4 Pp h=>ln Y Pp<|mv Y<|lE h λLI Xt h=>ln Y Xt<|lE h λYS h71 h=>ne _ Y Y (D1 (p:=E4) (q:=LI) h71)<|mv Y<|bE h λGl rG h=>?_;cases YS;refine gm Y<|lE (F rG) λNT Xz rG=>gn Y Xz<|gm Y<|lE rG λMV YY rG=>gn Y YY<|lE rG λYT h77 rG=>gq _ Y Y (D1 (p:=NT) (q:=MV) h77) ?_;obtain rfl:=O rG;refine pF Y<|mv Y<|bE h λY4 rH h=>?_;cases YT;refine gm Y<|lE (F rH) λMW YZ rH=>gn Y YZ<|gm Y<|lE rH λYU h83 rH=>gn Y h83<|lE rH λNU XA rH=>gq _ Y Y (D1 (p:=MW) (q:=YU) XA) ?_;obtain rfl:=O rH;exact pF Y<|dn<|⟨NU,h,wR []⟩;obtain rfl:=O (V rH);exact ww<|ww<|ww<|ww<|ww<|pT Y<|dn<|⟨true,h,wR []⟩;obtain rfl:=O (V rG);refine ww<|ww<|ww<|ww<|ww<|pT Y<|mv Y<|bE h λY5 DI h=>?_;obtain rfl:=O (V DI);exact ww<|ww<|ww<|ww<|ww<|pT Y<|dn<|⟨true,h,wR []⟩
 try dsimp only
 refine aV.n ?_;cases BS;refine fs<|qq<|sr<|ag Y<|dn<|bE (F h) λQh MR yF=>?_;refine bW (λ(M4:Unit)=>AS.dj 119 [] [] []) (λM4=>.inl M4=Qh) ?_ (λM4 MS=>?_);refine bj ?_;refine bX MR (λJ4=>AS.dj 119 [(11,.sv (slc 2 (List.map eZ uN))),(12,.sv (slc 2 (List.map eZ N5))),(13,.sv (slc 2 (List.map eZ F8))),(14,.sv (slc 2 (List.map eZ AZ))),(15,ai J4)] [] []) (wR []) (λlS y22 G22 h MT Ih=>?_)
 try dsimp only
 refine qq<|sr<|mv Y<|mv Y<|lE h λx88 h88 h=>ln Y h88<|lE h λLM XD h=>ls _ Y Y XD<|dn ?_;cases LM;refine cF<|b9<|aV.x<|aV.x<|bB.x<|aV.n ?_;obtain rfl:=O (F h);exact⟨(),Ih _ Y,wR []⟩;refine cT<|bz<|aV.n<|qq<|bj<|qq ?_;refine bD (V h) (λj25=>AS.dj 119 [(11,.sv (slc 2 (List.map eZ uN))),(12,.sv (slc 2 (List.map eZ N5))),(13,.sv (slc 2 (List.map eZ F8))),(14,.sv (slc 2 (List.map eZ AZ))),(15,ai lS),(118,aj j25)] [] []) (λh=>?_) (λyM h=>?_);refine bf mixed<|mv Y<|mv Y ?_;obtain⟨⟨Kx,Ky⟩,h94,h⟩:=bS h;refine ix Y Y h94<|RT.ke (cs:=[_,_]) .none Y T Y Y<|mv Y<|mv Y ?_;obtain⟨⟨Kz,KA⟩,h98,h⟩:=bS h;refine ix Y Y h98<|RT.ke (cs:=[_,_]) .none Y T Y Y ?_;obtain⟨⟨Gf,Gg⟩,Y6,h⟩:=bS h;refine cl (iv Y6) ⟨Y,Y,aq⟩<|mv Y<|mv Y ?_;obtain⟨⟨vu,vv⟩,Fx,h⟩:=bS h;refine ix Y Y Fx<|RT.ke (cs:=[_,_]) .none Y T Y Y<|bE h λE9 L7 h=>cl (iY L7) ⟨Y,Y,aq⟩<|lE h λBr L8 h=>nt Y _ L8<|mv Y<|bE h λCJ wF h=>?_;cases Br;refine gm Y<|gm Y ?_;obtain⟨⟨Gh,Gi⟩,M3,wF⟩:=bS (F wF);refine RT.Dk (.some Y Y) Y Y T M3<|RT.ke (cs:=[_,_]) (.some Y Y) Y T Y Y<|gm Y<|gm Y ?_;obtain⟨⟨Gj,Gk⟩,L9,wF⟩:=bS wF
 refine RT.Dk (.some Y Y) Y Y T L9<|RT.ke (cs:=[_,_]) (.some Y Y) Y T Y Y<|bE wF λQB Y7 wF=>gc (iY Y7) ⟨Y,Y,aq⟩<|lE wF λBs Ma wF=>T5 Y _ Ma ?_;obtain rfl:=O wF;refine pF Y ?_;refine RT.done ⟨by kernel_rfl,?_⟩;exact aV.n<|⟨Bs,h,wR []⟩;obtain rfl:=O (V wF);refine ww<|ww<|ww<|ww<|ww<|ww<|ww<|ww<|ww<|ww<|pT Y ?_;refine RT.done ⟨by kernel_rfl,?_⟩;exact aV.n<|⟨true,h,wR []⟩
 try dsimp only
 refine aV.n ?_;cases yM;refine cF<|bz<|bB.n<|aV.n<|aX<|mv Y<|lE (F h) λLN Ps h=>ad _ Y Y Ps<|ag Y<|RT.done ?_;obtain rfl:=O h;exact aV.n ⟨LN,MT _ Y,wR []⟩;refine cT<|sr<|ag Y<|dn<|bg<|bB.r<|aV.r ?_;obtain rfl:=O (V h);have Y8:=Ih _ Y;subst Y8;refine aV.r<|bB.r<|aV.r<|aV.r ?_;obtain rfl:=O yF;exact R1 Y;subst MS
 try dsimp only
 refine aV.n<|sr<|ag Y<|dn<|bg ?_;obtain rfl:=O yF;exact R1 Y;refine cT<|sr<|ag Y<|dn<|bg<|aV.r ?_;obtain rfl:=O (V h);exact R1 Y;refine cT<|sr<|ag Y<|dn<|bg<|aV.r ?_;obtain rfl:=O (V h);exact R1 Y;refine cT<|sr<|bE (V h) λiM o7 h=>cl (nh o7) trivial<|ag Y<|dn<|bg<|aV.r ?_;obtain rfl:=O h;exact R1 Y
end
end Go.Proofs.Ytmiflmkdaeianaa
namespace Go.Fw
section
theorem lT{n:Nat}(h:n<=9223372036854775807):IntKind.i64.wrap (n:Int)=n:=mF (by omega)
theorem eJ{x:Int}(h: -9223372036854775808<=x)(h':x<=9223372036854775807):IntKind.i64.wrap x=x:=mF ⟨h,h'⟩
theorem cL{n:Nat}(h:n<9223372036854775807):IntKind.i64.wrap ((n:Int)+1)=((n+1:Nat):Int):=by rw[mF (by omega)];simp
theorem nG{n m:Nat}(h:n+m<=9223372036854775807):IntKind.i64.wrap ((n:Int)+(m:Int))=((n+m:Nat):Int):=by rw[mF (by omega)];simp
theorem Av{n:Nat}(h:n<=9223372036854775807):IntKind.i64.wrap (((n+1:Nat):Int)-1)=(n:Int):=by rw[mF (by omega)];omega
theorem bq{α:Type}{l:List α}{i:Nat}{a:α}(h:l[i]? =some a):cI l (i:Int)=some a:=by simp[cI,h]
theorem nH{α:Type}{l:List α}{a:α}(h:l[0]? =some a):cI l 0=some a:=by simp[cI,h]
theorem Aw{α:Type}{l:List α}{a:α}(h:l[1]? =some a):cI l 1=some a:=by simp[cI,h]
theorem eo{α:Type}{l:List α}{i:Nat}(h:i<l.length):rf l (i:Int)=some i:=by simp[rf,h]
theorem jo{α:Type}{l:List α}{i:Nat}{y:α}(h:i<l.length):stM l i y=some (l.set i y):=by simp[stM,h]
theorem Gn{α:Type}{b:Nat}{l k:List α}(h:(l.length+k.length)*b<=140737488355328)(h':l.length+k.length<=140737488355328):qK b l k=some (l++k):=by simp[qK,h,h']
theorem KB{b n M:Nat}(hb:1<=b/\b<=1000)(h:n*b<=M):n<=M:=Nat.le_trans (Nat.le_mul_of_pos_right n hb.1) h
theorem Ax{α:Type}{b:Nat}{l:List α}{x:α}(hb:1<=b/\b<=1000)(h:(l.length+1)*b<=140737488355328):qK b l [x]=some (l++[x]):=Gn h (KB hb h)
theorem DO{α:Type}{b:Nat}{l k:List α}(hb:1<=b/\b<=1000)(h:(l.length+k.length)*b<=140737488355328):qK b l k=some (l++k):=Gn h (KB hb h)
theorem Ay{b n:Nat}(hb:2<=b/\b<=1000)(h:b*n<=281474976710656):0<=(n:Int)/\(b:Int)*(n:Int)<=281474976710656/\(n:Int)<=140737488355328:=by
 have h2:(b:Int)*(n:Int)=((b*n:Nat):Int):=by simp
 have h3:2*n<=b*n:=Nat.mul_le_mul_right _ hb.1;rw[h2];exact⟨by omega,by omega,by omega⟩
theorem BT{α:Type}{b:Nat}{n:Nat}(hb:2<=b/\b<=1000)(h:b*n<=281474976710656):HB (α:=α) b (n:Int)=some []:=by
 unfold HB;rw[if_pos (Ay hb h)]
theorem vz{α:Type}{b:Nat}{n:Nat}{z:α}(hb:2<=b/\b<=1000)(h:b*n<=281474976710656):GV b (n:Int) z=some (List.replicate n z):=by
 unfold GV;rw[if_pos (Ay hb h),Int.toNat_natCast]
theorem Gp{α:Type}{l:List α}{i j:Nat}(h:i<=j)(h':j<=l.length):xV l (i:Int) (j:Int)=some (cut l i j):=by
 unfold xV;rw[if_pos ⟨by omega,by omega,by omega⟩];simp
theorem xB{α:Type}{l:List α}{j:Nat}(h':j<=l.length):xV l 0 (j:Int)=some (l.take j):=by
 have:=Gp (l:=l) (i:=0) (j:=j) (by omega) h';simpa[cut]using this
theorem lU{M a b:Nat}(h:b<=a)(h':a<M):jV M a b=a-b:=by
 unfold jV;rw[show(a:Int)-(b:Int)=((a-b:Nat):Int) by omega,<-Int.natCast_emod,Int.toNat_natCast,Nat.mod_eq_of_lt (by omega)]
theorem tY{M a b:Nat}(h:a<b)(h':b<=M):jV M a b=M+a-b:=by
 unfold jV;have:((a:Int)-(b:Int))%(M:Int)=((M+a-b:Nat):Int):=by
  rw[<-Int.add_emod_right (a:=(a:Int)-b),show(a:Int)-(b:Int)+(M:Int)=((M+a-b:Nat):Int) by omega,<-Int.natCast_emod,Nat.mod_eq_of_lt (by omega)]
 rw[this,Int.toNat_natCast]
theorem tZ{o n i:Nat}(h:i<n):GW o n (i:Int)=some (o+i):=by simp[GW,h]
theorem kX{α:Type}{l l':List α}(h:l'.length=l.length):nX l l'=some ():=by simp[nX,h]
theorem yN{M a b:Nat}(h:b≠0)(h':a<M):xW M a b=some (a/b):=by
 unfold xW;rw[if_neg h,Nat.mod_eq_of_lt (Nat.lt_of_le_of_lt (Nat.div_le_self _ _) h')]
theorem ua{a b:Nat}(h:b≠0):vX a b=some (a%b):=by unfold vX;rw[if_neg h]
theorem bR{α β:Type}{a:α}{f:α->Option β}:Option.bind (some a) f=f a:=by
 have h:∀o,o=some a->Option.bind o f=f a:=by intro o ho;rw[ho];rfl
 exact h _ Y
theorem gZ{α:Type}{x y:α}:(bif true then x else y)=x:=by
 have h:∀b,b=true->(bif b then x else y)=x:=by intro b hb;rw[hb];rfl
 exact h _ Y
theorem iG{α:Type}{x y:α}:(bif false then x else y)=y:=by
 have h:∀b,b=false->(bif b then x else y)=y:=by intro b hb;rw[hb];rfl
 exact h _ Y
theorem kY{S E R:Type}{body:S->Option (S⊕E)}{s:S}{f:E->Option R}{r:R}(I:S->Prop)(Post:E->Prop)(μ:S->Nat)
  (step:∀s,I s->(∃s',body s=some (.inl s')/\I s'/\μ s'<μ s)\/(∃e,body s=some (.inr e)/\Post e)) (h:I s) (hf:∀e,Post e->f e=some r):(cK body s).bind f=some r:=by
 obtain⟨e,h1,h2⟩:=ri I Post μ step h;rw[h1];exact hf e h2
theorem jA{S E R:Type}{body:S->Option (S⊕E)}{s:S}{f:E->Option R}{Q:R->Prop}(I:S->Prop)(Post:E->Prop)(μ:S->Nat)
  (step:∀s,I s->(∃s',body s=some (.inl s')/\I s'/\μ s'<μ s)\/(∃e,body s=some (.inr e)/\Post e)) (h:I s) (hf:∀e,Post e->∃r,f e=some r/\Q r):∃r,(cK body s).bind f=some r/\Q r:=by
 obtain⟨e,h1,h2⟩:=ri I Post μ step h;rw[h1];exact hf e h2
theorem b7{S E R:Type}{body:S->Option (S⊕E)}{s:S}{f:E->Option R}{r:R}(st:Nat->S)(n:Nat)(e:E)(h0:s=st 0)(hs:∀k,k<n->body (st k)=some (.inl (st (k+1))))(he:body (st n)=some (.inr e))(hf:f e=some r):(cK body s).bind f=some r:=by
 rw[h0,EN st n hs he];exact hf
theorem vA{S R:Type}{body:Nat->S->Option S}{s:S}{f:S->Option R}{r:R}(st:Nat->S){n:Nat}(h0:s=st 0)(hs:∀k,k<n->body k (st k)=some (st (k+1)))(hf:f (st n)=some r):(mJ body n s).bind f=some r:=by
 rw[h0,wU st n hs];exact hf
theorem aA{α β:Type}{x:Option α}{a:α}{f:α->Option β}{r:Option β}(h:x=some a)(hf:f a=r):x.bind f=r:=by rw[h];exact hf
theorem dN{α:Type}{b:Bool}{x y r:α}(hb:b=true)(h:x=r):(bif b then x else y)=r:=by rw[hb];exact h
theorem bZ{α:Type}{b:Bool}{x y r:α}(hb:b=false)(h:y=r):(bif b then x else y)=r:=by rw[hb];exact h
end
section
def val(B:Nat):List Nat->Nat
 |[]=>0
 |x::l=>x+B*val B l
def dQ(B:Nat):Nat->Nat->List Nat
 |0,_=>[]
 |n+1,v=>v%B::dQ B n (v/B)
def iA(ws:List Nat):List Nat:=(ws.reverse.dropWhile (· ==0)).reverse
def can(B v:Nat):List Nat:=iA (dQ B v v)
theorem bw(B:Nat):∀n v,(dQ B n v).length=n
 |0,_=>rfl
 |n+1,v=>by simp[dQ,bw B n]
theorem iB(B:Nat):∀n v,val B (dQ B n v)=v%B^n
 |0,v=>by simp[dQ,val,Nat.mod_one]
 |n+1,v=>by
  rw[dQ,val,iB B n,Nat.pow_succ,Nat.mul_comm (B^n) B,Nat.mod_mul]
theorem jq{B:Nat}(hB:0<B):∀(n v x:Nat),x∈dQ B n v->x<B
 |n+1,v,x,h=>by
  rcases List.mem_cons.1 h with rfl|h
  ·exact Nat.mod_lt _ hB
  exact jq hB n _ x h
theorem fC{B:Nat}:∀(l:List Nat),(∀x∈l,x<B)->val B l<B^l.length
 |[],_=>by simp[val]
 |x::l,h=>by
  have h1:=fC l (λy hy=>h y (List.mem_cons_of_mem _ hy));have h2:=h x (by simp);rw[val,List.length_cons,Nat.pow_succ]
  calc x+B*val B l<B+B*val B l:=by omega
   _=B*(val B l+1):=by rw[Nat.mul_add];omega
   _<=B*B^l.length:=Nat.mul_le_mul_left _ h1
   _=B^l.length*B:=Nat.mul_comm _ _
theorem uc{B:Nat}:∀(l:List Nat),(∀x∈l,x<B)->dQ B l.length (val B l)=l
 |[],_=>rfl
 |x::l,h=>by
  have h2:=h x (by simp);have hB:0<B:=by omega
  rw[List.length_cons,dQ,val,Nat.add_mul_mod_self_left,Nat.mod_eq_of_lt h2,Nat.add_mul_div_left _ _ hB,Nat.div_eq_of_lt h2,Nat.zero_add,uc l (λy hy=>h y (List.mem_cons_of_mem _ hy))]
theorem qy{B:Nat}:∀(n v j:Nat),j<n->(dQ B n v)[j]? =some (v/B^j%B)
 |n+1,v,0,_=>by simp[dQ]
 |n+1,v,j+1,h=>by
  rw[dQ,List.getElem?_cons_succ,qy n _ j (by omega),Nat.div_div_eq_div_mul,Nat.pow_succ,Nat.mul_comm B]
theorem yO{B:Nat}:∀(a b:List Nat),val B (a++b)=val B a+B^a.length*val B b
 |[],b=>by simp[val]
 |x::a,b=>by
  rw[List.cons_append,val,val,yO a b,List.length_cons,Nat.pow_succ,Nat.mul_add,Nat.add_assoc,Nat.mul_comm (B^a.length) B,Nat.mul_assoc]
theorem jN{B:Nat}:∀(n v:Nat),dQ B (n+1) v=dQ B n v++[v/B^n%B]
 |0,v=>by simp[dQ]
 |n+1,v=>by
  rw[dQ,jN n,dQ,List.cons_append,Nat.div_div_eq_div_mul,Nat.pow_succ,Nat.mul_comm B]
theorem ni(B:Nat):∀k,dQ B k 0=List.replicate k 0
 |0=>rfl
 |k+1=>by rw[dQ,Nat.zero_mod,Nat.zero_div,ni B k];rfl
theorem vB{B:Nat}(hB:0<B):∀(n k v:Nat),v<B^n->dQ B (n+k) v=dQ B n v++List.replicate k 0
 |0,k,v,h=>by
  have:v=0:=by simpa using h
  subst this;rw[Nat.zero_add,ni];rfl
 |n+1,k,v,h=>by
  rw[show n+1+k=n+k+1 by omega,dQ,dQ,List.cons_append,vB hB n k (v/B) (by rw[Nat.div_lt_iff_lt_mul hB];rwa[Nat.pow_succ]at h)]
theorem lW{B:Nat}(hB:2<=B):∀v,v<B^v
 |0=>by simp
 |v+1=>by
  have:=lW hB v;rw[Nat.pow_succ];have h2:B^v*2<=B^v*B:=Nat.mul_le_mul_left _ hB;omega
theorem lX(l:List Nat):iA (l++[0])=iA l:=by simp[iA]
theorem nj(l:List Nat):∀k,iA (l++List.replicate k 0)=iA l
 |0=>by simp
 |k+1=>by rw[List.replicate_succ',<-List.append_assoc,lX,nj l k]
theorem oW(l:List Nat){x:Nat}(h:x≠0):iA (l++[x])=l++[x]:=by simp[iA,h]
theorem oX(xs:List Nat):xs=[]\/(∃ys,xs=ys++[0])\/(∃ys y,y≠0/\xs=ys++[y]):=by
 rcases List.eq_nil_or_concat xs with rfl|⟨ys,y,rfl⟩
 ·exact .inl Y
 by_cases hy:y=0
 ·subst hy;exact .inr (.inl ⟨ys,by simp⟩)
 exact .inr (.inr ⟨ys,y,hy,by simp⟩)
theorem rO:∀(n:Nat) (l:List Nat),l.length=n->∃k,l=iA l++List.replicate k 0:=by
 intro n
 induction n with
 |zero=>intro l h;obtain rfl:=List.length_eq_zero_iff.1 h;exact⟨0,Y⟩
 |succ n ih=>
  intro l h;rcases oX l with rfl|⟨ys,rfl⟩|⟨ys,y,hy,rfl⟩
  ·simp at h
  ·obtain⟨k,hk⟩:=ih ys (by simpa using h);refine⟨k+1,?_⟩;rw[lX,List.replicate_succ',<-List.append_assoc,<-hk]
  exact⟨0,by rw[oW _ hy];simp⟩
theorem DP{l:List Nat}{x:Nat}(h:x∈iA l):x∈l:=by
 obtain⟨k,hk⟩:=rO _ l Y;rw[hk];exact List.mem_append_left _ h
theorem xC(l:List Nat):(iA l).length<=l.length:=by
 obtain⟨k,hk⟩:=rO _ l Y;have:=congrArg List.length hk;rw[List.length_append]at this;omega
theorem xD(B:Nat):∀k,val B (List.replicate k 0)=0
 |0=>rfl
 |k+1=>by rw[List.replicate_succ,val,xD B k];simp
theorem Gq(B:Nat)(l:List Nat):val B (iA l)=val B l:=by
 obtain⟨k,hk⟩:=rO _ l Y
 conv=>rhs;rw[hk,yO,xD]
 simp
theorem Az{B:Nat}(hB:2<=B){n v:Nat}(h:v<B^n):iA (dQ B n v)=can B v:=by
 have hv:=lW hB v;rcases Nat.le_total n v with hn|hn
 ·obtain⟨k,rfl⟩:=Nat.exists_eq_add_of_le hn;rw[can,vB (by omega) n k _ h,nj]
 obtain⟨k,rfl⟩:=Nat.exists_eq_add_of_le hn;rw[can,vB (by omega) v k _ hv,nj]
theorem jO{B:Nat}(hB:2<=B){l:List Nat}(h:∀x∈l,x<B):iA l=can B (val B l):=by
 conv=>lhs;rw[<-uc l h]
 exact Az hB (fC l h)
theorem lY{B:Nat}(hB:2<=B)(v:Nat):val B (can B v)=v:=by
 rw[can,Gq,iB,Nat.mod_eq_of_lt (lW hB v)]
theorem gx{B:Nat}(hB:2<=B){v x:Nat}(h:x∈can B v):x<B:=jq (by omega) v v x (DP h)
theorem nk(B:Nat):can B 0=[]:=rfl
theorem yP{B:Nat}(hB:2<=B){v:Nat}(h:can B v=[]):v=0:=by have:=lY hB v;rw[h]at this;exact this.symm
theorem Iu{B:Nat}(hB:2<=B){v n:Nat}(h:v<B^n):(can B v).length<=n:=by
 rw[<-Az hB h];have:=xC (dQ B n v);rwa[bw]at this
theorem Iv{B:Nat}(hB:2<=B)(v:Nat):iA (can B v)=can B v:=by
 rw[jO hB (λx hx=>gx hB hx),lY hB]
theorem Iw{B:Nat}(hB:2<=B)(v:Nat):can B v=dQ B (can B v).length v:=by
 have:=uc (can B v) (λx hx=>gx hB hx);rw[lY hB]at this;exact this.symm
theorem cU{B:Nat}(hB:2<=B)(v:Nat):v<B^(can B v).length:=by
 have:=fC (can B v) (λx hx=>gx hB hx);rwa[lY hB]at this
theorem yQ{B:Nat}(hB:2<=B){v j:Nat}(h:j<(can B v).length):(can B v)[j]? =some (v/B^j%B):=by
 rw[Iw hB v]at h⊢;rw[bw]at h;exact qy _ _ _ h
theorem vC{B:Nat}(hB:2<=B){v j:Nat}(h:(can B v).length<=j):v/B^j=0:=by
 refine Nat.div_eq_of_lt (Nat.lt_of_lt_of_le (cU hB v) ?_);exact Nat.pow_le_pow_right (by omega) h
theorem AA{B:Nat}(hB:2<=B){v:Nat}(h:v≠0):∃l x,x≠0/\can B v=l++[x]:=by
 rcases oX (can B v)with e|⟨ys,e⟩|⟨ys,y,hy,e⟩
 ·exact absurd (yP hB e) h
 ·exfalso;have h1:=Iv hB v;rw[e,lX]at h1;have h2:=xC ys;rw[h1]at h2;simp at h2;omega
 exact⟨ys,y,hy,e⟩
theorem ot{B:Nat}(hB:2<=B){v n:Nat}(h:n<(can B v).length):B^n<=v:=by
 by_cases h0:v=0
 ·subst h0;simp[nk]at h
 obtain⟨l,x,hx,e⟩:=AA hB h0;have h1:=lY hB v;rw[e,yO]at h1;have hl:n<=l.length:=by rw[e]at h;simp at h;omega
 have h2:B^n<=B^l.length:=Nat.pow_le_pow_right (by omega) hl;have h3:B^l.length<=B^l.length*val B [x]:=Nat.le_mul_of_pos_right _ (by simp[val];omega);omega
theorem cD{B:Nat}(hB:2<=B){v n:Nat}:(can B v).length<=n↔v<B^n:=by
 refine⟨λh=>?_,Iu hB⟩;exact Nat.lt_of_lt_of_le (cU hB v) (Nat.pow_le_pow_right (by omega) h)
theorem Gr{B:Nat}(hB:2<=B){l:List Nat}{x:Nat}(hx:x≠0)(h:∀y∈l++[x],y<B):l++[x]=can B (val B (l++[x])):=by
 rw[<-jO hB h,oW _ hx]
theorem kZ{B:Nat}:∀(l:List Nat),(∀x∈l,x<B)->∀k,l.getD k 0=val B l/B^k%B
 |[],_,k=>by simp[val]
 |x::l,h,0=>by
  have h2:=h x (by simp);simp[val,Nat.add_mul_mod_self_left,Nat.mod_eq_of_lt h2]
 |x::l,h,k+1=>by
  have h2:=h x (by simp);have hB:0<B:=by omega
  rw[List.getD_cons_succ,kZ l (λy hy=>h y (List.mem_cons_of_mem _ hy)) k,val,Nat.pow_succ,Nat.mul_comm (B^k) B,<-Nat.div_div_eq_div_mul,Nat.add_mul_div_left _ _ hB,Nat.div_eq_of_lt h2,Nat.zero_add]
theorem eE(B V k:Nat):V%B^(k+1)=V%B^k+B^k*(V/B^k%B):=by
 rw[Nat.pow_succ,Nat.mod_mul]
def zg(B V W k:Nat):Nat:=(V%B^k+W%B^k)/B^k
theorem BU{B:Nat}(hB:0<B)(V W k:Nat):zg B V W k<=1:=by
 have hP:0<B^k:=Nat.pow_pos hB;have h1:=Nat.mod_lt V hP;have h2:=Nat.mod_lt W hP;have:zg B V W k<2:=by rw[zg,Nat.div_lt_iff_lt_mul hP];omega
 omega
theorem AB{B:Nat}(hB:0<B)(V W k:Nat):(V/B^k%B+W/B^k%B+zg B V W k)/B=zg B V W (k+1):=by
 have hP:0<B^k:=Nat.pow_pos hB;rw[zg,zg,eE,eE,Nat.pow_succ,<-Nat.div_div_eq_div_mul];congr 1;rw[show V%B^k+B^k*(V/B^k%B)+(W%B^k+B^k*(W/B^k%B))=(V%B^k+W%B^k)+B^k*(V/B^k%B+W/B^k%B) by rw[Nat.mul_add];omega,Nat.add_mul_div_left _ _ hP];omega
theorem yR{B:Nat}(hB:0<B)(V W k:Nat):(V/B^k%B+W/B^k%B+zg B V W k)%B=(V+W)/B^k%B:=by
 have hP:0<B^k:=Nat.pow_pos hB;have h:(V+W)/B^k=V/B^k+W/B^k+zg B V W k:=by
  have e1:=Nat.div_add_mod V (B^k);have e2:=Nat.div_add_mod W (B^k);rw[zg]
  conv=>lhs;rw[<-e1,<-e2]
  rw[show B^k*(V/B^k)+V%B^k+(B^k*(W/B^k)+W%B^k)=(V%B^k+W%B^k)+B^k*(V/B^k+W/B^k) by rw[Nat.mul_add];omega,Nat.add_mul_div_left _ _ hP];omega
 rw[h];simp[Nat.add_mod]
theorem Iy{B:Nat}{V W k:Nat}(hV:V<B^k)(hW:W<B^k):zg B V W k=(V+W)/B^k:=by
 rw[zg,Nat.mod_eq_of_lt hV,Nat.mod_eq_of_lt hW]
theorem AD(B V W:Nat):zg B V W 0=0:=by simp[zg,Nat.mod_one]
def tq(B V W k:Nat):Nat:=(V%B^k+B^k-W%B^k)/B^k
theorem AE(B V W:Nat):tq B V W 0=1:=by simp[tq,Nat.mod_one]
theorem Gs{B:Nat}(hB:0<B)(V W k:Nat):tq B V W k<=1:=by
 have hP:0<B^k:=Nat.pow_pos hB;have h1:=Nat.mod_lt V hP;have:tq B V W k<2:=by
  rw[tq,Nat.div_lt_iff_lt_mul hP];generalize W%B^k=y at*;generalize V%B^k=x at*;omega
 omega
theorem CQ{B:Nat}(hB:0<B)(V W k:Nat):V%B^(k+1)+B^(k+1)-W%B^(k+1)=(V%B^k+B^k-W%B^k)+B^k*(V/B^k%B+(B-1-W/B^k%B)):=by
 have hP:0<B^k:=Nat.pow_pos hB;have h1:=Nat.mod_lt V hP;have h2:=Nat.mod_lt W hP;have h3:=Nat.mod_lt (W/B^k) hB;rw[eE,eE,Nat.pow_succ];generalize B^k=p at*;generalize V/p%B=x at*;generalize W/p%B=y at*;obtain⟨z,rfl⟩:∃z,B=y+1+z:=⟨B-y-1,by omega⟩;have e1:y+1+z-1-y=z:=by omega
 rw[e1,Nat.mul_add p x z,Nat.mul_add p (y+1) z,Nat.mul_add p y 1];omega
theorem AF{B:Nat}(hB:0<B)(V W k:Nat):(V/B^k%B+(B-1-W/B^k%B)+tq B V W k)/B=tq B V W (k+1):=by
 have hP:0<B^k:=Nat.pow_pos hB;rw[tq,tq,CQ hB,Nat.pow_succ,<-Nat.div_div_eq_div_mul,Nat.add_mul_div_left _ _ hP];congr 1;omega
theorem BV{Q V W:Nat}(hQ:0<Q)(h:W<=V):(V%Q+Q-W%Q)%Q=(V-W)%Q:=by
 have e1:=Nat.div_add_mod V Q;have e2:=Nat.div_add_mod W Q;have h1:=Nat.mod_lt V hQ;have h2:=Nat.mod_lt W hQ;have hq:W/Q<=V/Q:=Nat.div_le_div_right h;generalize V%Q=r at*;generalize W%Q=s at*;generalize V/Q=a at*;generalize W/Q=b at*;obtain⟨c,rfl⟩:=Nat.exists_eq_add_of_le hq;rw[Nat.mul_add]at e1;rcases Nat.lt_or_ge r s with JO|JO
 ·cases c with
  |zero=>simp at e1;omega
  |succ c=>
   rw[Nat.mul_add,Nat.mul_one]at e1;rw[show V-W=Q*c+(r+Q-s) by omega,Nat.mul_add_mod]
 rw[show V-W=Q*c+(r-s) by omega,Nat.mul_add_mod,show r+Q-s=r-s+Q by omega,Nat.add_mod_right]
theorem CR{B:Nat}(hB:0<B){V W:Nat}(h:W<=V)(k:Nat):(V/B^k%B+(B-1-W/B^k%B)+tq B V W k)%B=(V-W)/B^k%B:=by
 have hP:0<B^k:=Nat.pow_pos hB;have hQ:0<B^(k+1):=Nat.pow_pos hB;have e:=BV hQ h;have e2:V/B^k%B+(B-1-W/B^k%B)+tq B V W k=(V%B^(k+1)+B^(k+1)-W%B^(k+1))/B^k:=by
  rw[CQ hB,Nat.add_mul_div_left _ _ hP,tq];omega
 rw[e2,<-Nat.mod_mul_right_div_self,<-Nat.mod_mul_right_div_self,<-Nat.pow_succ,e]
end
section
theorem CS{B:Nat}(hB:0<B):∀(j N lo p d hi:Nat),lo<B^j->p<B->d<B->j<N->(dQ B N (lo+B^j*(p+B*hi))).set j d=dQ B N (lo+B^j*(d+B*hi))
 |0,N+1,lo,p,d,hi,hlo,hp,hd,_=>by
  have:lo=0:=by simpa using hlo
  subst this;simp only[Nat.pow_zero,Nat.zero_add,Nat.one_mul,dQ,List.set_cons_zero,Nat.add_mul_mod_self_left,Nat.mod_eq_of_lt hd];rw[Nat.add_mul_div_left _ _ hB,Nat.add_mul_div_left _ _ hB,Nat.div_eq_of_lt hp,Nat.div_eq_of_lt hd]
 |j+1,N+1,lo,p,d,hi,hlo,hp,hd,hN=>by
  have e:∀q,(lo+B^(j+1)*(q+B*hi))%B=lo%B:=λq=>by
   rw[Nat.pow_succ,Nat.mul_comm (B^j) B,Nat.mul_assoc,Nat.add_mul_mod_self_left]
  have e2:∀q,(lo+B^(j+1)*(q+B*hi))/B=lo/B+B^j*(q+B*hi):=λq=>by
   rw[Nat.pow_succ,Nat.mul_comm (B^j) B,Nat.mul_assoc,Nat.add_mul_div_left _ _ hB]
  have Y9:lo/B<B^j:=by rw[Nat.div_lt_iff_lt_mul hB];rwa[Nat.pow_succ]at hlo
  rw[dQ,dQ,List.set_cons_succ,e,e,e2,e2,CS hB j N (lo/B) p d hi Y9 hp hd (by omega)]
theorem nI{B:Nat}(hB:0<B){N j u u' d:Nat}(hj:j<N)(hd:d<B)(hlo:u'%B^j=u%B^j)(M5:u'/B^j%B=d)(hhi:u'/B^(j+1)=u/B^(j+1)):(dQ B N u).set j d=dQ B N u':=by
 have hP:0<B^j:=Nat.pow_pos hB;have f:∀u,u=u%B^j+B^j*(u/B^j%B+B*(u/B^(j+1))):=λu=>by
  have e1:=Nat.mod_add_div u (B^j);have e2:=DQ B u j;rw[Nat.add_comm]at e2;rw[<-e2,e1]
 rw[f u,CS hB j N _ _ d _ (Nat.mod_lt _ hP) (Nat.mod_lt _ hB) hd hj]
 conv=>rhs;rw[f u',hlo,M5,hhi]
where
 DQ (B v m:Nat):v/B^m=B*(v/B^(m+1))+v/B^m%B:=by
  rw[Nat.pow_succ,<-Nat.div_div_eq_div_mul,Nat.div_add_mod]
def mT(B V W i k:Nat):Nat:=((V%B^i)*W)%B^(i+k)+B^i*(V/B^i%B)*(W%B^k)
def mC(B V W i k:Nat):Nat:=mT B V W i k/B^(i+k)
def mV(B V W i k:Nat):Nat:=mT B V W i k%B^(i+k)+B^(i+k)*(((V%B^i)*W)/B^(i+k))
theorem KC{B:Nat}(hB:0<B)(V W i k:Nat):mT B V W i k<B^(i+k)*B:=by
 have h1:((V%B^i)*W)%B^(i+k)<B^(i+k):=Nat.mod_lt _ (Nat.pow_pos hB);have h2:V/B^i%B<B:=Nat.mod_lt _ hB;have h3:W%B^k<B^k:=Nat.mod_lt _ (Nat.pow_pos hB);have h4:B^i*(V/B^i%B)*(W%B^k)<=B^i*(B-1)*B^k:=Nat.mul_le_mul (Nat.mul_le_mul_left _ (by omega)) (Nat.le_of_lt h3);have h5:B^i*(B-1)*B^k=B^(i+k)*(B-1):=by rw[Nat.pow_add,Nat.mul_assoc,Nat.mul_assoc,Nat.mul_comm (B-1)]
 have h6:B^(i+k)*B=B^(i+k)*(B-1)+B^(i+k):=by
  obtain⟨b,rfl⟩:∃b,B=b+1:=⟨B-1,by omega⟩;rw[Nat.add_sub_cancel,Nat.mul_add,Nat.mul_one]
 unfold mT;omega
theorem KD{B:Nat}(hB:0<B)(V W i k:Nat):mC B V W i k<B:=by
 rw[mC,Nat.div_lt_iff_lt_mul (Nat.pow_pos hB),Nat.mul_comm];exact KC hB V W i k
theorem yS{B:Nat}(V W i k:Nat):mT B V W i (k+1)=mT B V W i k+B^(i+k)*(((V%B^i)*W)/B^(i+k)%B+(V/B^i%B)*(W/B^k%B)):=by
 have e1:((V%B^i)*W)%B^(i+(k+1))=((V%B^i)*W)%B^(i+k)+B^(i+k)*(((V%B^i)*W)/B^(i+k)%B):=by rw[<-Nat.add_assoc,eE]
 have e2:W%B^(k+1)=W%B^k+B^k*(W/B^k%B):=eE B W k;unfold mT;rw[e1,e2,Nat.mul_add,Nat.mul_add (B^(i+k))];have e3:B^i*(V/B^i%B)*(B^k*(W/B^k%B))=B^(i+k)*((V/B^i%B)*(W/B^k%B)):=by
  rw[Nat.pow_add,Nat.mul_assoc,Nat.mul_assoc,Nat.mul_left_comm (V/B^i%B)]
 omega
theorem Iz{B:Nat}(hB:0<B)(V W i k:Nat):(((V%B^i)*W)/B^(i+k)%B+(V/B^i%B)*(W/B^k%B)+mC B V W i k)/B=mC B V W i (k+1):=by
 have hP:0<B^(i+k):=Nat.pow_pos hB;rw[mC,mC,yS,<-Nat.add_assoc,Nat.pow_succ,<-Nat.div_div_eq_div_mul,Nat.add_mul_div_left _ _ hP];congr 1;omega
theorem KE{B:Nat}(V W i k:Nat):mV B V W i k%B^(i+k)=mT B V W i k%B^(i+k):=by
 rw[mV,Nat.add_mul_mod_self_left,Nat.mod_mod]
theorem CT{B:Nat}(hB:0<B)(V W i k:Nat):mV B V W i k/B^(i+k)=((V%B^i)*W)/B^(i+k):=by
 have hP:0<B^(i+k):=Nat.pow_pos hB;rw[mV,Nat.add_mul_div_left _ _ hP,Nat.div_eq_of_lt (Nat.mod_lt _ hP),Nat.zero_add]
theorem M6{B:Nat}(hB:0<B){V W i k N:Nat}(h:i+k<N):(dQ B N (mV B V W i k))[i+k]? =some (((V%B^i)*W)/B^(i+k)%B):=by
 rw[qy _ _ _ h,CT hB]
theorem IA{B:Nat}(hB:0<B){V W i k N:Nat}(h:i+k<N):
  (dQ B N (mV B V W i k)).set (i+k) ((((V%B^i)*W)/B^(i+k)%B+(V/B^i%B)*(W/B^k%B)+mC B V W i k)%B)=dQ B N (mV B V W i (k+1)):=by
 have hP:0<B^(i+k):=Nat.pow_pos hB;have hPB:B^(i+(k+1))=B^(i+k)*B:=by rw[<-Nat.add_assoc,Nat.pow_succ]
 have hs:mT B V W i (k+1)/B^(i+k)=((V%B^i)*W)/B^(i+k)%B+(V/B^i%B)*(W/B^k%B)+mC B V W i k:=by
  rw[yS,Nat.add_mul_div_left _ _ hP,mC];omega
 have ht:mT B V W i (k+1)%B^(i+k)=mT B V W i k%B^(i+k):=by rw[yS,Nat.add_mul_mod_self_left]
 refine nI hB h (Nat.mod_lt _ hB) ?_ ?_ ?_
 ·rw[KE,<-ht,mV,hPB,Nat.mul_assoc,Nat.add_mul_mod_self_left,Nat.mod_mul_right_mod]
 ·rw[mV,hPB,Nat.mul_assoc,Nat.add_mul_div_left _ _ hP,Nat.add_mul_mod_self_left,Nat.mod_mul_right_div_self,Nat.mod_mod,hs]
 rw[show i+k+1=i+(k+1) by omega,CT hB,show i+(k+1)=i+k+1 by omega,Nat.pow_succ,<-Nat.div_div_eq_div_mul,<-Nat.div_div_eq_div_mul,CT hB]
theorem IB{B:Nat}(V W i:Nat):mV B V W i 0=(V%B^i)*W:=by
 rw[mV,mT,Nat.pow_zero,Nat.mod_one,Nat.mul_zero,Nat.add_zero,Nat.add_zero,Nat.mod_mod,Nat.mod_add_div]
theorem IC{B:Nat}(hB:0<B)(V W i:Nat):mC B V W i 0=0:=by
 rw[mC,mT,Nat.pow_zero,Nat.mod_one,Nat.mul_zero,Nat.add_zero,Nat.add_zero];exact Nat.div_eq_of_lt (Nat.mod_lt _ (Nat.pow_pos hB))
theorem M7{B:Nat}(hB:0<B){V W i n N:Nat}(hW:W<B^n)(h:i+n<N):(dQ B N (mV B V W i n)).set (i+n) ((0+mC B V W i n)%B)=dQ B N ((V%B^(i+1))*W):=by
 have hP:0<B^(i+n):=Nat.pow_pos hB;have hp:(V%B^i)*W<B^(i+n):=by
  have h1:V%B^i<B^i:=Nat.mod_lt _ (Nat.pow_pos hB);rw[Nat.pow_add];by_cases h0:W=0
  ·subst h0;rw[Nat.mul_zero];exact Nat.mul_pos (Nat.pow_pos hB) (Nat.pow_pos hB)
  calc (V%B^i)*W<B^i*W:=Nat.mul_lt_mul_of_pos_right h1 (by omega)
   _<=B^i*B^n:=Nat.mul_le_mul_left _ (Nat.le_of_lt hW)
 have hT:mT B V W i n=(V%B^(i+1))*W:=by
  rw[mT,Nat.mod_eq_of_lt hp,Nat.mod_eq_of_lt hW,eE,Nat.add_mul]
 have hlt:=KC hB V W i n;rw[hT]at hlt;refine nI hB h (Nat.mod_lt _ hB) ?_ ?_ ?_
 ·rw[KE,hT]
 ·rw[Nat.zero_add,mC,hT]
 rw[Nat.pow_succ B (i+n),Nat.div_eq_of_lt hlt,<-Nat.div_div_eq_div_mul,CT hB,Nat.div_eq_of_lt hp,Nat.zero_div]
def sT(B V f e i:Nat):Nat:=V%B^i*f+e
def sC(B V f e i:Nat):Nat:=sT B V f e i/B^i
theorem CU(B V f e:Nat):sC B V f e 0=e:=by simp[sC,sT,Nat.mod_one]
theorem CV(B V f e i:Nat):sT B V f e (i+1)=sT B V f e i+B^i*(V/B^i%B*f):=by
 unfold sT;rw[eE,Nat.add_mul,Nat.mul_assoc];omega
theorem CW{B:Nat}(hB:0<B)(V f e i:Nat):(V/B^i%B*f+sC B V f e i)/B=sC B V f e (i+1):=by
 have hP:0<B^i:=Nat.pow_pos hB;rw[sC,sC,CV,Nat.pow_succ,<-Nat.div_div_eq_div_mul,Nat.add_mul_div_left _ _ hP];congr 1;omega
theorem Gt{B:Nat}(hB:0<B)(V f e i:Nat):(V/B^i%B*f+sC B V f e i)%B=(V*f+e)/B^i%B:=by
 have hP:0<B^i:=Nat.pow_pos hB;have h1:V*f+e=sT B V f e (i+1)+B^i*(B*(V/B^(i+1)*f)):=by
  have e1:=Nat.mod_add_div V (B^(i+1));unfold sT
  conv=>lhs;rw[<-e1,Nat.add_mul]
  rw[Nat.pow_succ,Nat.mul_assoc,Nat.mul_assoc];omega
 rw[h1,Nat.add_mul_div_left _ _ hP,Nat.add_mul_mod_self_left,CV,Nat.add_mul_div_left _ _ hP,sC,Nat.add_comm]
theorem KF{B:Nat}(hB:0<B){V f e:Nat}(hf:f<B)(he:e<B)(i:Nat):sC B V f e i<B:=by
 have hP:0<B^i:=Nat.pow_pos hB;rw[sC,Nat.div_lt_iff_lt_mul hP];have h1:V%B^i<=B^i-1:=by have:=Nat.mod_lt V hP;omega
 have h2:V%B^i*f<=(B^i-1)*(B-1):=Nat.mul_le_mul h1 (by omega);obtain⟨p,hp⟩:∃p,B^i=p+1:=⟨B^i-1,by omega⟩;obtain⟨b,rfl⟩:∃b,B=b+1:=⟨B-1,by omega⟩;unfold sT;rw[hp]at h2⊢;rw[Nat.add_sub_cancel,Nat.add_sub_cancel]at h2;have h3:(b+1)*(p+1)=p*b+b+p+1:=by rw[Nat.add_mul,Nat.mul_add,Nat.mul_comm b p];omega
 omega
theorem M8{B V f e i:Nat}(h:V<B^i):sC B V f e i=(V*f+e)/B^i:=by rw[sC,sT,Nat.mod_eq_of_lt h]
def sU(B V f e i:Nat):Nat:=sT B V f e i%B^i+B^i*(V/B^i)
def qU(B V d n:Nat):Nat:=V%B^n+B^n*(V/B^n/d)
theorem ID(B V d:Nat):qU B V d 0=V/d:=by simp[qU,Nat.mod_one]
theorem M9{B V d n:Nat}(h:V<B^n):qU B V d n=V:=by simp[qU,Nat.mod_eq_of_lt h,Nat.div_eq_of_lt h]
theorem IE(B V m:Nat):V/B^m=B*(V/B^(m+1))+V/B^m%B:=by rw[Nat.pow_succ,<-Nat.div_div_eq_div_mul,Nat.div_add_mod]
theorem KG{B d:Nat}(V m:Nat):V/B^m=(V/B^(m+1)%d*B+V/B^m%B)+d*(B*(V/B^(m+1)/d)):=by
 have h1:=IE B V m;have h2:=Nat.mod_add_div (V/B^(m+1)) d;generalize V/B^(m+1)=q at*;generalize V/B^m%B=y at*;rw[h1]
 conv=>lhs;rw[<-h2]
 rw[Nat.mul_add,Nat.mul_left_comm B d,Nat.mul_comm B (q%d)];omega
theorem Th{B d:Nat}(hd:0<d)(V m:Nat):V/B^m/d=B*(V/B^(m+1)/d)+(V/B^(m+1)%d*B+V/B^m%B)/d:=by
 conv=>lhs;rw[KG (B:=B) (d:=d) V m]
 rw[Nat.add_mul_div_left _ _ hd,Nat.add_comm]
theorem Ti{B d:Nat}(V m:Nat):V/B^m%d=(V/B^(m+1)%d*B+V/B^m%B)%d:=by
 conv=>lhs;rw[KG (B:=B) (d:=d) V m]
 rw[Nat.add_mul_mod_self_left]
theorem Tj{B d:Nat}(hB:0<B)(hd:0<d)(V m:Nat):V/B^(m+1)%d*B+V/B^m%B<d*B:=by
 have h1:=Nat.mod_lt (V/B^(m+1)) hd;have h2:=Nat.mod_lt (V/B^m) hB;have h3:(V/B^(m+1)%d+1)*B<=d*B:=Nat.mul_le_mul_right _ h1;rw[Nat.add_mul]at h3;omega
theorem Gu{B:Nat}(hB:0<B)(V d n:Nat):qU B V d n/B^n=V/B^n/d:=by
 have hP:0<B^n:=Nat.pow_pos hB;rw[qU,Nat.add_mul_div_left _ _ hP,Nat.div_eq_of_lt (Nat.mod_lt _ hP),Nat.zero_add]
theorem Tk(B V d n:Nat):qU B V d n%B^n=V%B^n:=by rw[qU,Nat.add_mul_mod_self_left,Nat.mod_mod]
theorem IF{B:Nat}(V d m:Nat):qU B V d (m+1)%B^m=V%B^m:=by
 rw[qU,Nat.pow_succ,Nat.mul_assoc,Nat.add_mul_mod_self_left,Nat.mod_mul_right_mod]
theorem Na{B:Nat}(hB:0<B){V d m N:Nat}(h:m<N):(dQ B N (qU B V d (m+1)))[m]? =some (V/B^m%B):=by
 have hP:0<B^m:=Nat.pow_pos hB;rw[qy _ _ _ h,qU,Nat.pow_succ,Nat.mul_assoc,Nat.add_mul_div_left _ _ hP,Nat.add_mul_mod_self_left,Nat.mod_mul_right_div_self,Nat.mod_mod]
theorem IG{B:Nat}(hB:0<B){V d m N:Nat}(hd:0<d)(h:m<N):(dQ B N (qU B V d (m+1))).set m ((V/B^(m+1)%d*B+V/B^m%B)/d)=dQ B N (qU B V d m):=by
 have hx:(V/B^(m+1)%d*B+V/B^m%B)/d<B:=by rw[Nat.div_lt_iff_lt_mul hd,Nat.mul_comm B d];exact Tj hB hd V m
 have hq:=Th (B:=B) hd V m;refine nI hB h hx ?_ ?_ ?_
 ·rw[Tk,IF]
 ·rw[Gu hB,hq,Nat.mul_add_mod,Nat.mod_eq_of_lt hx]
 rw[Gu hB,Nat.pow_succ,<-Nat.div_div_eq_div_mul,Gu hB,hq,Nat.mul_add_div hB,Nat.div_eq_of_lt hx,<-Nat.pow_succ];rfl
end
section
theorem II{B v:Nat}(hB:2<=B)(h0:v≠0)(h:v<B):can B v=[v]:=by
 have:=Gr hB (l:=[]) h0 (by simpa using h);simpa[val]using this.symm
theorem IJ{B v:Nat}(hB:2<=B)(h0:v/B≠0)(h:v<B*B):can B v=[v%B,v/B]:=by
 have h1:v/B<B:=by rw[Nat.div_lt_iff_lt_mul (by omega)];exact h
 have h2:v%B<B:=Nat.mod_lt _ (by omega);have:=Gr hB (l:=[v%B]) h0 (by simp;exact⟨h2,h1⟩);simp only[List.cons_append,List.nil_append,val,Nat.mul_zero,Nat.add_zero]at this;rw[Nat.mod_add_div]at this;exact this.symm
theorem kC{B:Nat}{l:List Nat}(h:∀x∈l,x<B){i:Nat}(hi:i<l.length):l[i]? =some (val B l/B^i%B):=by
 rw[<-kZ l h i];simp[List.getD,hi]
def wG(v w:Nat):Int:=if v<w then-1 else if v=w then 0 else 1
theorem qz{v w:Nat}(h:v<w):wG v w=-1:=by simp[wG,h]
theorem yT(v:Nat):wG v v=0:=by simp[wG]
theorem ud{v w:Nat}(h:w<v):wG v w=1:=by
 have h1:¬v<w:=by omega
 have h2:¬v=w:=by omega
 simp[wG,h1,h2]
theorem vD{B v w:Nat}(hB:2<=B)(h:(can B v).length<(can B w).length):v<w:=
 Nat.lt_of_lt_of_le (cU hB v) (ot hB h)
theorem AG(B v m:Nat):v/B^m=B*(v/B^(m+1))+v/B^m%B:=by
 rw[Nat.pow_succ,<-Nat.div_div_eq_div_mul,Nat.div_add_mod]
theorem xE{B v w m:Nat}(h:v/B^m<w/B^m):v<w:=by
 rcases Nat.lt_or_ge v w with h1|h1
 ·exact h1
 have:=Nat.div_le_div_right (c:=B^m) h1;omega
theorem DR{B v w m:Nat}(h:v/B^(m+1)=w/B^(m+1)):(v/B^m%B=w/B^m%B/\v/B^m=w/B^m)\/(v/B^m%B<w/B^m%B/\v<w)\/(w/B^m%B<v/B^m%B/\w<v):=by
 have h1:=AG B v m;have h2:=AG B w m;rw[<-h]at h2;rcases Nat.lt_trichotomy (v/B^m%B) (w/B^m%B)with h3|h3|h3
 ·exact .inr (.inl ⟨h3,xE (B:=B) (m:=m) (by omega)⟩)
 ·exact .inl ⟨h3,by omega⟩
 exact .inr (.inr ⟨h3,xE (B:=B) (m:=m) (by omega)⟩)
end
end Go.Fw
namespace Go.Proofs.Ytmiflmkdaeianaa
section
open Go.Fw
theorem qA(l:List Nat)(hl:l.length<=9000000000000000000):bh l=some (iA l):=by
 unfold bh;refine kY (λy=>y.length<=9000000000000000000/\iA y=iA l) (λe=>e=iA l) (λy=>y.length) ?_ ⟨hl,Y⟩ (λe he=>by rw[he]);rintro y ⟨hy,ht⟩;rcases oX y with rfl|⟨ys,rfl⟩|⟨ys,x,hx,rfl⟩
 ·right;exact⟨[],by simp[cY],ht⟩
 ·left;have h1:((ys++[0]).length:Int)=((ys.length+1:Nat):Int):=by simp
  have h2:ys.length<=9223372036854775807:=by simp at hy;omega
  refine⟨ys,?_,⟨by simp at hy⊢;omega,by rw[<-ht,lX]⟩,by simp⟩;simp only[cY,Option.bind_some,h1,Av h2];rw[bq (a:=0) (by simp),xB (by simp)];simp
 right;have h1:((ys++[x]).length:Int)=((ys.length+1:Nat):Int):=by simp
 have h2:ys.length<=9223372036854775807:=by simp at hy;omega
 refine⟨ys++[x],?_,by rw[<-ht,oW _ hx]⟩;simp only[cY,Option.bind_some,h1,Av h2];rw[bq (a:=x) (by simp)];simp[hx]
def zc(n:Bool)(v:Nat):Zr:=⟨n&&v != 0,can 4294967296 v⟩
theorem CX(n:Bool):zc n 0=⟨false,[]⟩:=by simp[zc,nk]
theorem Gv(n:Bool){v:Nat}(h:v≠0):zc n v=⟨n,can 4294967296 v⟩:=by simp[zc,h]
def yU(l:List Nat):Prop:=(∀x∈l,x<4294967296)/\l.length<=35184372088808
def W64(l:List Nat):Prop:=(∀x∈l,x<4294967296)/\l.length<=9000000000000000000
theorem yU.x{l:List Nat}(h:yU l):W64 l:=⟨h.1,Nat.le_trans h.2 (by decide)⟩
abbrev vl(l:List Nat):Nat:=val 4294967296 l
theorem gE(n:Bool)(l:List Nat)(h:W64 l):bL n l=some (zc n (vl l)):=by
 unfold bL;rw[qA l (by have:=h.2;omega),jO (by decide) h.1];show _=some (zc n (val 4294967296 l));by_cases hz:val 4294967296 l=0
 ·rw[hz,CX];simp[nk]
 have:can 4294967296 (val 4294967296 l)≠[]:=λe=>hz (yP (by decide) e);rw[Gv _ hz];simp[this]
theorem k7(n:Bool)(v:Nat)(h:v<18446744073709551616):dz n v=some (zc n v):=by
 unfold dz;by_cases hz:v=0
 ·subst hz;simp[CX]
 rw[Gv _ hz];by_cases h1:v/2^32=0
 ·rw[II (by decide) hz (by omega)];simp only[Option.bind_some,hz,h1,decide_false,decide_true,cond_false,cond_true];rw[Nat.mod_eq_of_lt (by omega)]
 rw[IJ (by decide) (by omega) (by omega)];simp only[Option.bind_some,hz,h1,decide_false,cond_false];rw[Nat.mod_eq_of_lt (a:=v/2^32) (by omega)]
theorem Gw{a b s:Nat}(h:a<2^s):a ||| b*2^s=a+b*2^s:=by
 rw[Nat.or_comm,Nat.mul_comm b,<-Nat.two_pow_add_eq_or_of_lt h,Nat.add_comm]
theorem low_eq(l:List Nat)(h:∀x∈l,x<4294967296)(hl:l.length<=2):cM l=some (vl l):=by
 rcases l with _|⟨x,_|⟨y,_|⟨z,l⟩⟩⟩
 ·simp[cM,vl,val]
 ·have hx:=h x (by simp);simp only[cM,nH (l:=[x]) (a:=x) rfl];simp[vl,val];omega
 ·have hx:=h x (by simp);have hy:=h y (by simp);simp only[cM,nH (l:=[x,y]) (a:=x) Y,Aw (l:=[x,y]) (a:=y) Y,Option.bind_some];rw[Nat.mod_eq_of_lt (a:=x) (by omega),Nat.mod_eq_of_lt (a:=y) (by omega),Nat.mod_eq_of_lt (a:=y*2^32) (by omega),Gw (by omega),Nat.mod_eq_of_lt (by omega)];simp[vl,val];omega
 simp at hl
theorem eK(x c:Nat)(h:x+c<18446744073709551616):bu x c=some ((x+c)%4294967296,(x+c)/4294967296):=by
 simp[bu,Nat.mod_eq_of_lt h]
theorem gK(v w:Nat)(hv:(can 4294967296 v).length<=9000000000000000000)(hw:(can 4294967296 w).length<=9000000000000000000):bY (can 4294967296 v) (can 4294967296 w)=some (wG v w):=by
 unfold bY;rcases Nat.lt_trichotomy (can 4294967296 v).length (can 4294967296 w).length with hl|hl|hl
 ·rw[qz (vD (by decide) hl)];simp only[Option.bind_some];rw[show decide (((can 4294967296 v).length:Int)≠((can 4294967296 w).length:Int))=true by simp;omega,show decide (((can 4294967296 v).length:Int)<((can 4294967296 w).length:Int))=true by simp;omega];rfl
 ·simp only[Option.bind_some];rw[show decide (((can 4294967296 v).length:Int)≠((can 4294967296 w).length:Int))=false by simp;omega,cond_false];refine kY (λy=>∃n:Nat,y=(n:Int)-1/\n<=(can 4294967296 v).length/\v/4294967296^n=w/4294967296^n) (λe=>e=(if v=w then .inl ()else .inr (wG v w))) (λy=>(y+1).toNat) ?_ ⟨(can 4294967296 v).length,?_,Nat.le_refl _,?_⟩ ?_
  ·rintro y ⟨n,rfl,hn,he⟩;cases n with
   |zero=>
    right;have:v=w:=by simpa using he
    subst this;exact⟨_,by simp,Y⟩
   |succ m=>
    have ze:=yQ (B:=4294967296) (by decide) (v:=v) (j:=m) (by omega);have Za:=yQ (B:=4294967296) (by decide) (v:=w) (j:=m) (by omega);have e0:((m+1:Nat):Int)-1=(m:Int):=by omega
    rw[e0];rcases DR he with⟨h1,h2⟩|⟨h1,h2⟩|⟨h1,h2⟩
    ·left;refine⟨(m:Int)-1,?_,⟨m,Y,by omega,h2⟩,by omega⟩;simp only[Option.bind_some,bq ze,bq Za,h1];rw[eJ (by omega) (by omega)];simp
    ·right;refine⟨.inr (-1),?_,by rw[if_neg (by omega),qz h2]⟩;simp only[Option.bind_some,bq ze,bq Za];simp[h1,Nat.ne_of_lt h1]
    right;refine⟨.inr 1,?_,by rw[if_neg (by omega),ud h2]⟩;simp only[Option.bind_some,bq ze,bq Za];simp[Nat.not_lt_of_lt h1,Nat.ne_of_gt h1]
  ·rw[eJ (by omega) (by omega)]
  ·rw[vC (by decide) (Nat.le_refl _),vC (by decide) (by omega)]
  rintro e rfl;by_cases h:v=w
  ·subst h;simp[yT]
  simp[h]
 rw[ud (vD (by decide) hl)];simp only[Option.bind_some];rw[show decide (((can 4294967296 v).length:Int)≠((can 4294967296 w).length:Int))=true by simp;omega,show decide (((can 4294967296 v).length:Int)<((can 4294967296 w).length:Int))=false by simp;omega];rfl
theorem ue{l:List Nat}(h:∀x∈l,x<4294967296)(i:Nat):l.getD i 0<4294967296:=by
 rcases Nat.lt_or_ge i l.length with hi|hi
 ·exact h _ (List.mem_of_getElem? (mI hi))
 rw[oF hi];decide
theorem sK(a b:List Nat)(ha:yU a)(hb:yU b):dm a b=some (dQ 4294967296 (max a.length b.length+1) (vl a+vl b)):=by
 obtain⟨hA,hla⟩:=ha;obtain⟨hB,hlb⟩:=hb;have hV:val 4294967296 a<4294967296^(max a.length b.length):=Nat.lt_of_lt_of_le (fC a hA) (Nat.pow_le_pow_right (by decide) (by omega));have hW:val 4294967296 b<4294967296^(max a.length b.length):=Nat.lt_of_lt_of_le (fC b hB) (Nat.pow_le_pow_right (by decide) (by omega));unfold dm;simp only[Option.bind_some];rw[show max (a.length:Int) (b.length:Int)=((max a.length b.length:Nat):Int) by omega,cL (by omega),BT (by decide) (by omega),Option.bind_some];refine vA (λk=>(zg 4294967296 (vl a) (vl b) k,dQ 4294967296 k (vl a+vl b))) (by simp[AD,dQ]) (λk hk=>?_) ?_
 ·have hx:=ue hA k;have hy:=ue hB k;have hc:=BU (B:=4294967296) (by decide) (vl a) (vl b) k;have Zb:=kZ a hA k;have Zc:=kZ b hB k;simp only[Option.bind_some];rw[Nat.mod_eq_of_lt (a:=a.getD k 0) (by omega),Nat.mod_eq_of_lt (a:=b.getD k 0) (by omega),Nat.mod_eq_of_lt (a:=a.getD k 0+b.getD k 0) (by omega),eK _ _ (by omega)];simp only[Option.bind_some];rw[Ax (by decide) (by rw[bw];omega),Option.bind_some,Zb,Zc,AB (by decide),yR (by decide),<-jN]
 have hc:=BU (B:=4294967296) (by decide) (vl a) (vl b) (max a.length b.length);simp only;rw[eK _ _ (by omega)];simp only[Option.bind_some];rw[Ax (by decide) (by rw[bw];omega),Option.bind_some,Nat.zero_add,Iy hV hW,<-jN]
theorem sL(a b:List Nat)(ha:yU a)(hb:yU b)(hl:b.length<=a.length)(hle:vl b<=vl a):cf a b=some (dQ 4294967296 a.length (vl a-vl b)):=by
 obtain⟨hA,hla⟩:=ha;obtain⟨hB,hlb⟩:=hb;have hmx:max a.length b.length=a.length:=by omega
 unfold cf;simp only[Option.bind_some];rw[BT (by decide) (by omega),Option.bind_some,hmx];refine vA (λk=>(tq 4294967296 (vl a) (vl b) k,dQ 4294967296 k (vl a-vl b))) (by simp[AE,dQ]) (λk hk=>?_) Y;have hx:=ue hA k;have hy:=ue hB k;have hc:=Gs (B:=4294967296) (by decide) (vl a) (vl b) k;have Zb:=kZ a hA k;have Zc:=kZ b hB k;simp only[Option.bind_some];rw[Nat.mod_eq_of_lt (a:=a.getD k 0) (by omega),Nat.mod_eq_of_lt (a:=b.getD k 0) (by omega),lU (by omega) (by omega),Nat.mod_eq_of_lt (a:=a.getD k 0+(4294967295-b.getD k 0)) (by omega),eK _ _ (by omega)];simp only[Option.bind_some];rw[Ax (by decide) (by rw[bw];omega),Option.bind_some,Zb,Zc,AF (B:=4294967296) (by decide),CR (B:=4294967296) (by decide) hle,<-jN]
theorem AH(a b:List Nat)(ha:yU a)(hb:yU b):dW a b=some (dQ 4294967296 (a.length+b.length) (vl a*vl b)):=by
 obtain⟨hA,hla⟩:=ha;obtain⟨hB,hlb⟩:=hb;unfold dW;simp only[Option.bind_some];rw[nG (by omega),vz (by decide) (by omega),Option.bind_some];refine b7 (λi=>((i:Int),dQ 4294967296 (a.length+b.length) (vl a%4294967296^i*vl b))) a.length (dQ 4294967296 (a.length+b.length) (vl a%4294967296^a.length*vl b)) (by simp[Nat.mod_one,ni]) (λi hi=>?_) (by simp) (by rw[Nat.mod_eq_of_lt (fC a hA)]);have Vt:=kC hA hi;have hx:val 4294967296 a/4294967296^i%4294967296<4294967296:=Nat.mod_lt _ (by decide);simp only[Option.bind_some,show decide ((i:Int)<(a.length:Int))=true by simp;omega,cond_true];rw[bq Vt,Option.bind_some];refine b7 (λk=>((k:Int),mC 4294967296 (vl a) (vl b) i k,dQ 4294967296 (a.length+b.length) (mV 4294967296 (vl a) (vl b) i k))) b.length (mC 4294967296 (vl a) (vl b) i b.length,dQ 4294967296 (a.length+b.length) (mV 4294967296 (vl a) (vl b) i b.length)) (by simp[IC,IB]) (λk hk=>?_) (by simp) ?_
 ·have hgy:=kC hB hk;have Vu:=M6 (B:=4294967296) (by decide) (V:=vl a) (W:=vl b) (i:=i) (k:=k) (N:=a.length+b.length) (by omega);have hy:val 4294967296 b/4294967296^k%4294967296<4294967296:=Nat.mod_lt _ (by decide);have hp:vl a%4294967296^i*vl b/4294967296^(i+k)%4294967296<4294967296:=Nat.mod_lt _ (by decide);have hc:=KD (B:=4294967296) (by decide) (vl a) (vl b) i k;have hxy:val 4294967296 a/4294967296^i%4294967296*(val 4294967296 b/4294967296^k%4294967296)<=4294967295*4294967295:=Nat.mul_le_mul (by omega) (by omega);simp only[Option.bind_some,show decide ((k:Int)<(b.length:Int))=true by simp;omega,cond_true];rw[bq hgy,Option.bind_some,nG (by omega),eo (by rw[bw];omega),Option.bind_some,Vu,Option.bind_some]
  rw[Nat.mod_eq_of_lt (a:=vl a%4294967296^i*vl b/4294967296^(i+k)%4294967296) (by omega),Nat.mod_eq_of_lt (a:=val 4294967296 a/4294967296^i%4294967296) (b:=18446744073709551616) (by omega),Nat.mod_eq_of_lt (a:=val 4294967296 b/4294967296^k%4294967296) (b:=18446744073709551616) (by omega),Nat.mod_eq_of_lt (a:=val 4294967296 a/4294967296^i%4294967296*(val 4294967296 b/4294967296^k%4294967296)) (by omega),Nat.mod_eq_of_lt (a:=vl a%4294967296^i*vl b/4294967296^(i+k)%4294967296+_) (by omega),eK _ _ (by omega)];simp only[Option.bind_some];rw[jo (by rw[bw];omega),Option.bind_some,Iz (B:=4294967296) (by decide),IA (B:=4294967296) (by decide) (by omega),cL (by omega)]
 have hc:=KD (B:=4294967296) (by decide) (vl a) (vl b) i b.length;simp only[Option.bind_some];rw[nG (by omega),eK _ _ (by omega)];simp only[Option.bind_some];rw[eo (by rw[bw];omega),Option.bind_some,jo (by rw[bw];omega),Option.bind_some,M7 (B:=4294967296) (by decide) (fC b hB) (by omega),cL (by omega)]
end
section
open Go.Fw
theorem IK{a b s:Nat}(h:a<2^s):b*2^s ||| a=b*2^s+a:=by rw[Nat.or_comm,Gw h,Nat.add_comm]
theorem CY{a b:Nat}(h:a<4294967296):b*4294967296 ||| a=b*4294967296+a:=IK (s:=32) h
theorem AI(a:List Nat)(d:Nat)(ha:yU a)(hd:0<d)(hd2:d<=4294967296):eT a d=some (vl a%d,dQ 4294967296 a.length (vl a/d)):=by
 obtain⟨hA,hla⟩:=ha;unfold eT;simp only[Option.bind_some];rw[eJ (by omega) (by omega)];refine b7 (λi=>(vl a/4294967296^(a.length-i)%d,((a.length-i:Nat):Int)-1,dQ 4294967296 a.length (qU 4294967296 (vl a) d (a.length-i)))) a.length (vl a%d,dQ 4294967296 a.length (vl a/d)) ?_ (λi hi=>?_) (by simp[ID]) ?_
 ·simp only[Nat.sub_zero];rw[M9 (fC a hA),uc a hA,Nat.div_eq_of_lt (fC a hA),Nat.zero_mod]
 ·obtain⟨m,hm⟩:∃m,a.length-i=m+1:=⟨a.length-i-1,by omega⟩;have hm':a.length-(i+1)=m:=by omega
  have hml:m<a.length:=by omega
  rw[hm,hm'];have hy:vl a/4294967296^m%4294967296<4294967296:=Nat.mod_lt _ (by decide);have hr:vl a/4294967296^(m+1)%d<d:=Nat.mod_lt _ hd;have hq:=Tj (B:=4294967296) (by decide) hd (vl a) m;have hqd:(vl a/4294967296^(m+1)%d*4294967296+vl a/4294967296^m%4294967296)/d<4294967296:=by rw[Nat.div_lt_iff_lt_mul hd,Nat.mul_comm 4294967296 d];exact hq
  have hg:=Na (B:=4294967296) (by decide) (V:=vl a) (d:=d) (m:=m) (N:=a.length) hml;have hlt:vl a/4294967296^(m+1)%d*4294967296+vl a/4294967296^m%4294967296<18446744073709551616:=by omega
  have NK:vl a/4294967296^(m+1)%d*4294967296<18446744073709551616:=Nat.lt_of_le_of_lt (Nat.le_add_right _ _) hlt;have AX:vl a/4294967296^m%4294967296<18446744073709551616:=Nat.lt_of_le_of_lt (Nat.le_add_left _ _) hlt;have Yw:((m+1:Nat):Int)-1=(m:Int):=by omega
  simp only[Yw,show decide ((0:Int)<=(m:Int))=true by simp,cond_true,Option.bind_some];rw[eo (by rw[bw];omega),Option.bind_some,hg];simp only[Option.bind_some];rw[show(2:Nat)^32=4294967296 from rfl];rw[Nat.mod_eq_of_lt (a:=vl a/4294967296^(m+1)%d*4294967296) NK,Nat.mod_eq_of_lt (a:=vl a/4294967296^m%4294967296) (b:=18446744073709551616) AX,CY hy,Nat.mod_eq_of_lt (a:=vl a/4294967296^(m+1)%d*4294967296+vl a/4294967296^m%4294967296) hlt,yN (by omega) hlt,ua (by omega)];simp only[Option.bind_some];rw[Nat.mod_eq_of_lt (b:=4294967296) (a:=(vl a/4294967296^(m+1)%d*4294967296+vl a/4294967296^m%4294967296)/d) hqd,jo (by rw[bw];omega),Option.bind_some,eJ (by omega) (by omega)];rw[IG (B:=4294967296) (by decide) hd hml,<-Ti (B:=4294967296) (d:=d) (vl a) m]
 simp only;rw[kX (by rw[bw]),Option.bind_some]
theorem shiftLeft_eq(a:List Nat)(s:Nat)(ha:yU a)(hs:s<32):dM a s=some (dQ 4294967296 (a.length+1) (vl a*2^s)):=by
 obtain⟨hA,hla⟩:=ha;have hf:2^s<4294967296:=by
  have:2^s<2^32:=Nat.pow_lt_pow_right (by decide) hs;omega
 unfold dM;simp only[Option.bind_some];rw[cL (by omega),BT (by decide) (by omega),Option.bind_some];refine b7 (λi=>((i:Int),sC 4294967296 (vl a) (2^s) 0 i,dQ 4294967296 i (vl a*2^s+0))) a.length (sC 4294967296 (vl a) (2^s) 0 a.length,dQ 4294967296 a.length (vl a*2^s+0)) (by simp[CU,dQ]) (λi hi=>?_) (by simp) ?_
 ·have hx:vl a/4294967296^i%4294967296<4294967296:=Nat.mod_lt _ (by decide);have hc:=KF (B:=4294967296) (by decide) (V:=vl a) hf (show(0:Nat)<4294967296 by decide) i;have hxf:vl a/4294967296^i%4294967296*2^s<=4294967295*4294967295:=Nat.mul_le_mul (by omega) (by omega);have hg:a[i]? =some (vl a/4294967296^i%4294967296):=kC hA hi;simp only[show decide ((i:Int)<(a.length:Int))=true by simp;omega,cond_true];rw[bq hg];simp only[Option.bind_some];rw[show min s 64=s by omega,Nat.mod_eq_of_lt (a:=vl a/4294967296^i%4294967296) (b:=18446744073709551616) (by omega),Nat.mod_eq_of_lt (b:=18446744073709551616) (by omega),eK _ _ (by omega)];simp only[Option.bind_some];rw[Ax (by decide) (by rw[bw];omega),Option.bind_some,CW (B:=4294967296) (by decide),Gt (B:=4294967296) (by decide),cL (by omega),<-jN]
 have hc:=KF (B:=4294967296) (by decide) (V:=vl a) hf (show(0:Nat)<4294967296 by decide) a.length;simp only;rw[eK _ _ (by omega)];simp only[Option.bind_some];rw[Ax (by decide) (by rw[bw];omega),Option.bind_some,Nat.zero_add,M8 (fC a hA),<-jN];simp
theorem wH(a:List Nat)(s:Nat):fu a s=dM a s:=rfl
def oY:Lr:=[0,1,2,2,3,3,3,3,4,4,4,4,4,4,4,4,5,5,5,5,5,5,5,5,5,5,5,5,5,5,5,5]++List.replicate 32 6++List.replicate 64 7++List.replicate 128 8
theorem Nb:∀y:Nat,y<256->nW oY (y:Int)=some ((nW oY (y:Int)).getD 0)/\(nW oY (y:Int)).getD 0<=8/\y<2^(nW oY (y:Int)).getD 0/\(y=0\/2^(nW oY (y:Int)).getD 0<=2*y):=by decide+kernel
set_option maxRecDepth 20000 in
theorem Gx(x:Nat)(h:x<4294967296):∃n:Nat,ey x=some (n:Int)/\n<=32/\x<2^n/\(x=0\/2^n<=2*x):=by
 have key:∀(y k:Nat),y<256->y=x/2^k->k<=24->(x≠0->y≠0)->∃n:Nat,(((nW oY ((y%256:Nat):Int)).bind λjl=>(some (IntKind.i64.wrap (jl:Int))).bind λgh=>(some (IntKind.i64.wrap ((k:Int)+gh))).bind λgi=>some gi)=some (n:Int))/\n<=32/\x<2^n/\(x=0\/2^n<=2*x):=by
  intro y k hy hyx hk hnz;obtain⟨h1,h2,h3,h4⟩:=Nb y hy;rw[Nat.mod_eq_of_lt hy,h1];generalize (nW oY (y:Int)).getD 0=t at*;have hp:0<2^k:=Nat.two_pow_pos _;have e1:2^(k+t)=2^k*2^t:=Nat.pow_add ..;have e2:=Nat.div_add_mod x (2^k);have e3:=Nat.mod_lt x hp;rw[<-hyx]at e2;refine⟨k+t,?_,by omega,?_,?_⟩
  ·simp only[Option.bind_some];rw[lT (by omega),nG (by omega)]
  ·rw[e1];have:2^k*(y+1)<=2^k*2^t:=Nat.mul_le_mul_left _ h3;rw[Nat.mul_add]at this;omega
  rcases h4 with h4|h4
  ·left;cases Nat.eq_zero_or_pos x with
   |inl h=>exact h
   |inr h=>exact absurd h4 (hnz (by omega))
  right;rw[e1];have:2^k*2^t<=2^k*(2*y):=Nat.mul_le_mul_left _ h4;rw[show 2^k*(2*y)=2*(2^k*y) by rw[Nat.mul_left_comm]]at this;omega
 unfold ey;simp only[cY,Option.bind_some];by_cases c1:65536<=x
 ·rw[show decide (65536<=x)=true by simpa using c1];simp only[cond_true];by_cases c2:256<=x/2^16
  ·rw[show decide (256<=x/2^16)=true by simpa using c2];simp only[cond_true];rw[show IntKind.i64.wrap (16+8)=((24:Nat):Int) by decide];exact key (x/2^16/2^8) 24 (by omega) (by omega) (by omega) (by omega)
  rw[show decide (256<=x/2^16)=false by simpa using c2];simp only[cond_false];exact key (x/2^16) 16 (by omega) Y (by omega) (by omega)
 rw[show decide (65536<=x)=false by simpa using c1];simp only[cond_false];by_cases c2:256<=x
 ·rw[show decide (256<=x)=true by simpa using c2];simp only[cond_true];rw[show IntKind.i64.wrap (0+8)=((8:Nat):Int) by decide];exact key (x/2^8) 8 (by omega) Y (by omega) (by omega)
 rw[show decide (256<=x)=false by simpa using c2];simp only[cond_false];exact key x 0 (by omega) (by simp) (by omega) (λh=>h)
theorem Tl(x:Nat)(h:x<4294967296)(h0:x≠0):∃s:Nat,cA x=some (s:Int)/\s<32/\2147483648<=x*2^s/\x*2^s<4294967296:=by
 obtain⟨n,h1,h2,h3,h4⟩:=Gx x h;have h4:2^n<=2*x:=h4.resolve_left h0;have hn:n≠0:=by rintro rfl;simp at h3;omega
 refine⟨32-n,?_,by omega,?_,?_⟩
 ·unfold cA;rw[h1];simp only[Option.bind_some];rw[eJ (by omega) (by omega)];congr 1;omega
 ·have:2^n*2^(32-n)<=2*x*2^(32-n):=Nat.mul_le_mul_right _ h4;rw[<-Nat.pow_add,show n+(32-n)=32 by omega,Nat.mul_assoc]at this;omega
 have:x*2^(32-n)<2^n*2^(32-n):=Nat.mul_lt_mul_of_pos_right h3 (Nat.two_pow_pos _);rw[<-Nat.pow_add,show n+(32-n)=32 by omega]at this;omega
end
end Go.Proofs.Ytmiflmkdaeianaa
namespace Go.Fw
section
section Tm
variable {B V U W:Nat}
theorem Nc{P F T:Nat}(hP:0<P)(hF:0<F)(hV:F*P<=V)(hU:U<(T+1)*P):U/V<=T/F:=by
 have Nd:0<V:=Nat.lt_of_lt_of_le (Nat.mul_pos hF hP) hV;rw[Nat.le_div_iff_mul_le hF];rcases Nat.lt_or_ge T (U/V*F)with h|h
 ·exfalso;have h1:U/V*V<=U:=Nat.div_mul_le_self U V;have h2:U/V*(F*P)<=U/V*V:=Nat.mul_le_mul_left _ hV;have h3:(T+1)*P<=U/V*F*P:=Nat.mul_le_mul_right _ h;rw[Nat.mul_assoc]at h3;omega
 exact h
theorem IL{P F S T u g r:Nat}(hV:(F*B+S)*P<=V)(hU:U<(T*B+u+1)*P)(Ot:g*F+r=T)(h:r*B+u<g*S):U<g*V:=by
 have h1:g*((F*B+S)*P)<=g*V:=Nat.mul_le_mul_left _ hV;have h2:(T*B+u+1)*P<=g*(F*B+S)*P:=by
  apply Nat.mul_le_mul_right;rw[Nat.mul_add,<-Nat.mul_assoc,<-Ot,Nat.add_mul];omega
 rw[Nat.mul_assoc]at h2;omega
theorem Nf{P V2 U2 g:Nat}(hV:V<(V2+1)*P)(hU:U2*P<=U)(hq:U/V<B)(hB:B<=V2)(Nd:0<V)(h:g*V2<=U2):g<=U/V+1:=by
 rcases Nat.lt_or_ge (U/V+1) g with h'|h'
 ·exfalso;have h1:U<(U/V+1)*V:=by have:=Nat.lt_div_mul_add (a:=U) Nd;rw[Nat.add_mul,Nat.one_mul];exact this
  have h2:(U/V+1)*V<=(U/V+1)*((V2+1)*P):=Nat.mul_le_mul_left _ (Nat.le_of_lt hV);have h3:g*V2*P<=U2*P:=Nat.mul_le_mul_right _ h;have h4:(U/V+2)*V2<=g*V2:=Nat.mul_le_mul_right _ h';have h5:(U/V+2)*V2*P<=g*V2*P:=Nat.mul_le_mul_right _ h4;have h6:(U/V+1)*((V2+1)*P)<=(U/V+2)*V2*P:=by
   rw[<-Nat.mul_assoc];apply Nat.mul_le_mul_right;rw[Nat.mul_add,Nat.add_mul (U/V) 2 V2,Nat.add_mul (U/V) 1 V2];omega
  omega
 exact h'
end Tm
def mix(B o i X U A:Nat):Nat:=A%B^o+B^o*(X%B^i+B^i*(U/B^i))
theorem CZ(B o i X U A:Nat):mix B o i X U A%B^o=A%B^o:=by rw[mix,Nat.add_mul_mod_self_left,Nat.mod_mod]
section mix
variable {B:Nat}(hB:0<B)(o i X U A:Nat)
include hB
theorem qB:mix B o i X U A/B^o=X%B^i+B^i*(U/B^i):=by
 rw[mix,Nat.add_mul_div_left _ _ (Nat.pow_pos hB),Nat.div_eq_of_lt (Nat.mod_lt _ (Nat.pow_pos hB)),Nat.zero_add]
theorem qC:mix B o i X U A/B^(o+i)=U/B^i:=by
 rw[Nat.pow_add,<-Nat.div_div_eq_div_mul,qB hB,Nat.add_mul_div_left _ _ (Nat.pow_pos hB),Nat.div_eq_of_lt (Nat.mod_lt _ (Nat.pow_pos hB)),Nat.zero_add]
theorem IM:mix B o i X U A%B^(o+i)=A%B^o+B^o*(X%B^i):=by
 rw[Nat.pow_add,Nat.mod_mul,CZ,qB hB,Nat.add_mul_mod_self_left,Nat.mod_mod]
theorem yV{N:Nat}(h:o+i<N):(dQ B N (mix B o i X U A)).set (o+i) (X/B^i%B)=dQ B N (mix B o (i+1) X U A):=by
 apply nI hB h (Nat.mod_lt _ hB)
 ·rw[IM hB,Nat.pow_add,Nat.mod_mul,CZ,qB hB,Nat.pow_succ B i,Nat.mul_assoc,Nat.add_mul_mod_self_left,Nat.mod_mul,Nat.add_mul_mod_self_left,Nat.mod_mod]
 ·rw[Nat.pow_add,<-Nat.div_div_eq_div_mul,qB hB,Nat.pow_succ B i,Nat.mod_mul,Nat.mul_assoc,Nat.add_assoc,<-Nat.mul_add,Nat.add_mul_div_left _ _ (Nat.pow_pos hB),Nat.div_eq_of_lt (Nat.mod_lt _ (Nat.pow_pos hB)),Nat.zero_add,Nat.add_mul_mod_self_left,Nat.mod_mod]
 have h1:=qC hB o (i+1) X U A;have h2:=qC hB o i X U A;rw[show o+i+1=o+(i+1) by omega,h1,show o+(i+1)=(o+i)+1 by omega,Nat.pow_succ B (o+i),<-Nat.div_div_eq_div_mul,h2,Nat.pow_succ,<-Nat.div_div_eq_div_mul]
end mix
theorem AJ{B o m X U A:Nat}(hU:U<B^m):mix B o m X U A=A%B^o+B^o*(X%B^m):=by rw[mix,Nat.div_eq_of_lt hU];simp
theorem AK{B:Nat}(o X A:Nat):mix B o 0 X (A/B^o) A=A:=by
 simp only[mix,Nat.pow_zero,Nat.mod_one,Nat.zero_add,Nat.one_mul,Nat.div_one];exact Nat.mod_add_div A (B^o)
theorem DS{B U U' T i:Nat}(h:U%B^i=U'%B^i):tq B U T i=tq B U' T i:=by rw[tq,tq,h]
theorem Gy{B:Nat}(hB:0<B){U T m i:Nat}(hi:i<m)(hT:T<=U+B^m):(U/B^i%B+(B-1-T/B^i%B)+tq B U T i)%B=(U+B^m-T)/B^i%B:=by
 have e:B^m=B^i*(B*B^(m-i-1)):=by rw[<-Nat.pow_succ',<-Nat.pow_add];congr 1;omega
 have h1:(U+B^m)%B^i=U%B^i:=by rw[e,Nat.add_mul_mod_self_left]
 have h2:(U+B^m)/B^i%B=U/B^i%B:=by rw[e,Nat.add_mul_div_left _ _ (Nat.pow_pos hB),Nat.add_mul_mod_self_left]
 rw[<-h2,DS (U':=U+B^m) h1.symm,CR hB hT]
theorem IN{B m U T:Nat}(hB:0<B)(hU:U<B^m)(hT:T<B^m):tq B U T m=if U<T then 0 else 1:=by
 rw[tq,Nat.mod_eq_of_lt hU,Nat.mod_eq_of_lt hT];have hp:0<B^m:=Nat.pow_pos hB;split
 ·exact Nat.div_eq_of_lt (by omega)
 rw[show U+B^m-T=(U-T)+B^m by omega,Nat.add_div_right _ hp,Nat.div_eq_of_lt (by omega)]
end
end Go.Fw
namespace Go.Proofs.Ytmiflmkdaeianaa
section
open Go.Fw
theorem ji{N A j:Nat}(h:j<N):(dQ 4294967296 N A)[j]? =some (A/4294967296^j%4294967296):=qy N A j h
theorem two32:(2:Nat)^32=4294967296:=rfl
theorem Tn:(2:Nat)^63=9223372036854775808:=rfl
theorem yW(A o j:Nat):A/4294967296^(o+j)=A/4294967296^o/4294967296^j:=by rw[Nat.pow_add,Nat.div_div_eq_div_mul]
theorem AL{N A o n:Nat}{v:List Nat}(hv:yU v)(hn:v.length=n+2)(hN:N<=35184372088809)(ho:o+(n+2)<N)
  (hU:A/4294967296^o<4294967296*vl v) (Gz:2147483648*4294967296^(n+1)<=vl v):
  ∃r,eU (dQ 4294967296 N A) o (n+3) v=some r/\r.2=dQ 4294967296 N A/\A/4294967296^o/vl v<=r.1/\r.1<=A/4294967296^o/vl v+1:=by
 obtain⟨hV,hlv⟩:=hv;obtain⟨U,G2⟩:∃U,A/4294967296^o=U:=⟨_,Y⟩;obtain⟨V,G3⟩:∃V,vl v=V:=⟨_,Y⟩;have tu:V<4294967296^(n+2):=by rw[<-G3,<-hn];exact fC v hV
 have KH:0<4294967296^(n+1):=Nat.pow_pos (by decide);have hP:0<4294967296^n:=Nat.pow_pos (by decide);have Ng:4294967296^(n+1)=4294967296^n*4294967296:=Nat.pow_succ ..;have AM:4294967296^(n+2)=4294967296^(n+1)*4294967296:=Nat.pow_succ ..;rw[G2,G3]at hU⊢;rw[G3]at Gz;have To:U<4294967296^(n+1)*4294967296*4294967296:=by
  have:4294967296*V<4294967296*4294967296^(n+2):=Nat.mul_lt_mul_of_pos_left tu (by decide);rw[AM]at this;omega
 obtain⟨F,hF⟩:∃F,V/4294967296^(n+1)=F:=⟨_,Y⟩;obtain⟨S,hS⟩:∃S,V/4294967296^n%4294967296=S:=⟨_,Y⟩;obtain⟨T,hT⟩:∃T,U/4294967296^(n+1)=T:=⟨_,Y⟩;obtain⟨u,hu⟩:∃u,U/4294967296^n%4294967296=u:=⟨_,Y⟩;have Zd:F<4294967296:=by rw[<-hF,Nat.div_lt_iff_lt_mul KH];rw[AM,Nat.mul_comm]at tu;exact tu
 have acn:2147483648<=F:=by rw[<-hF,Nat.le_div_iff_mul_le KH];exact Gz
 have aco:S<4294967296:=by rw[<-hS];exact Nat.mod_lt _ (by decide)
 have Tp:u<4294967296:=by rw[<-hu];exact Nat.mod_lt _ (by decide)
 have Ze:T<4294967296*4294967296:=by rw[<-hT,Nat.div_lt_iff_lt_mul KH];rw[Nat.mul_comm,<-Nat.mul_assoc];exact To
 have Zf:V/4294967296^n=F*4294967296+S:=by rw[<-hF,<-hS,Ng,<-Nat.div_div_eq_div_mul,Nat.mul_comm,Nat.div_add_mod]
 have Zg:U/4294967296^n=T*4294967296+u:=by rw[<-hT,<-hu,Ng,<-Nat.div_div_eq_div_mul,Nat.mul_comm,Nat.div_add_mod]
 have hq:U/V<4294967296:=by rw[Nat.div_lt_iff_lt_mul (by omega)];exact hU
 have Tq:(F*4294967296+S)*4294967296^n<=V:=by rw[<-Zf];exact Nat.div_mul_le_self _ _
 have Tr:V<(F*4294967296+S+1)*4294967296^n:=by rw[<-Zf,Nat.add_mul,Nat.one_mul];exact Nat.lt_div_mul_add hP
 have Ts:(T*4294967296+u)*4294967296^n<=U:=by rw[<-Zg];exact Nat.div_mul_le_self _ _
 have Tt:U<(T*4294967296+u+1)*4294967296^n:=by rw[<-Zg,Nat.add_mul,Nat.one_mul];exact Nat.lt_div_mul_add hP
 have KI:F*4294967296^(n+1)<=V:=by rw[<-hF];exact Nat.div_mul_le_self _ _
 have KJ:U<(T+1)*4294967296^(n+1):=by rw[<-hT,Nat.add_mul,Nat.one_mul];exact Nat.lt_div_mul_add KH
 have KK:V<(F+1)*4294967296^(n+1):=by rw[<-hF,Nat.add_mul,Nat.one_mul];exact Nat.lt_div_mul_add KH
 have hTF:T<4294967296*(F+1):=by
  rw[<-hT,Nat.div_lt_iff_lt_mul KH];have:4294967296*V<4294967296*((F+1)*4294967296^(n+1)):=Nat.mul_lt_mul_of_pos_left KK (by decide);rw[Nat.mul_assoc];omega
 have g1:(dQ 4294967296 N A)[o+(n+2)]? =some (U/4294967296^(n+2)%4294967296):=by rw[ji (by omega),yW,G2]
 have g2:(dQ 4294967296 N A)[o+(n+1)]? =some (U/4294967296^(n+1)%4294967296):=by rw[ji (by omega),yW,G2]
 have g3:(dQ 4294967296 N A)[o+n]? =some u:=by rw[ji (by omega),yW,G2,hu]
 have g4:v[n+1]? =some F:=by rw[kC hV (by omega),show val 4294967296 v=V from G3,hF,Nat.mod_eq_of_lt Zd]
 have g5:v[n]? =some S:=by rw[kC hV (by omega),show val 4294967296 v=V from G3,hS]
 have hun:U/4294967296^(n+2)<4294967296:=by rw[AM,<-Nat.div_div_eq_div_mul,hT,Nat.div_lt_iff_lt_mul (by decide)];exact Ze
 have BW:U/4294967296^(n+2)%4294967296*4294967296+U/4294967296^(n+1)%4294967296=T:=by
  rw[Nat.mod_eq_of_lt hun,AM,<-Nat.div_div_eq_div_mul,hT,Nat.mul_comm,Nat.div_add_mod]
 obtain⟨t1,Tu⟩:∃t,U/4294967296^(n+2)%4294967296=t:=⟨_,Y⟩;obtain⟨t2,Tv⟩:∃t,U/4294967296^(n+1)%4294967296=t:=⟨_,Y⟩;have l1:t1<4294967296:=by rw[<-Tu];exact Nat.mod_lt _ (by decide)
 have l2:t2<4294967296:=by rw[<-Tv];exact Nat.mod_lt _ (by decide)
 rw[Tu]at g1 BW;rw[Tv]at g2 BW;clear Tu Tv Zg Zf;have c1:((n+2:Nat):Int)-1=((n+1:Nat):Int):=by omega
 have c2:((n+2:Nat):Int)-2=(n:Int):=by omega
 unfold eU;simp only[Option.bind_some,hn,c1,c2];rw[lT (by omega),lT (by omega),tZ (by omega),tZ (by omega),tZ (by omega)];simp only[Option.bind_some];rw[g1,g2,bq g4,bq g5];simp only[Option.bind_some,two32];rw[Nat.mod_eq_of_lt (a:=t1) (by omega),Nat.mod_eq_of_lt (a:=t2) (by omega),Nat.mod_eq_of_lt (a:=t1*4294967296) (by omega),CY l2,BW,Nat.mod_eq_of_lt (a:=T) (by omega),Nat.mod_eq_of_lt (a:=F) (by omega),Nat.mod_eq_of_lt (a:=S) (by omega),yN (by omega) (by omega),ua (by omega)];simp only[Option.bind_some];have Zh:=Nc (V:=V) (U:=U) KH (show 0<F by omega) KI KJ;have hle:∀g,g*(F*4294967296+S)<=T*4294967296+u->g<=U/V+1:=λg h=>Nf (B:=4294967296) Tr Ts hq (by omega) (by omega) h;have Zi:∀g r,g*F+r=T->r*4294967296+u<g*S->U/V<g:=λg r i1 ht=>(Nat.div_lt_iff_lt_mul (by omega)).2 (IL Tq Tt i1 ht);have hg0:T/F<=4294967297:=by
  have:T/F<4294967298:=by
   rw[Nat.div_lt_iff_lt_mul (by omega)];omega
  omega
 generalize U/V=q at*;clear Tq Tr Ts Tt KI KJ KK hTF To Gz tu Ng AM hP KH hF hS hT hu G2 G3 hU;have hdm:=Nat.div_add_mod T F;have hml:=Nat.mod_lt T (show 0<F by omega);have Zj:T/F*F+T%F=T:=by rw[Nat.mul_comm];exact hdm
 clear hdm;refine jA (λx=>x.1*F+x.2=T/\q<=x.1/\x.2<4294967296/\x.1<=4294967297) (λe=>q<=e/\e<=q+1) (λx=>x.1) ?_ ⟨Zj,Zh,by show T%F<_;omega,hg0⟩ ?_
 ·rintro⟨g,r⟩ ⟨i1,i2,i3,i4⟩;simp only at i1 i2 i3 i4;have down:q<g->(∃s',(bif decide ((r+F)%18446744073709551616/4294967296≠0)then some (.inr (jV 18446744073709551616 g 1))else some (.inl (jV 18446744073709551616 g 1,(r+F)%18446744073709551616)):Option ((Nat×Nat)⊕Nat))=some (.inl s')/\(s'.1*F+s'.2=T/\q<=s'.1/\s'.2<4294967296/\s'.1<=4294967297)/\s'.1<g)\/
    (∃e,(bif decide ((r+F)%18446744073709551616/4294967296≠0)then some (.inr (jV 18446744073709551616 g 1))else some (.inl (jV 18446744073709551616 g 1,(r+F)%18446744073709551616)):Option ((Nat×Nat)⊕Nat))=some (.inr e)/\q<=e/\e<=q+1):=by
   intro hlt;have e1:(g-1)*F+(r+F)=T:=by
    obtain⟨k,rfl⟩:∃k,g=k+1:=⟨g-1,by omega⟩;rw[Nat.add_sub_cancel];rw[Nat.add_mul]at i1;omega
   rw[lU (by omega) (by omega),Nat.mod_eq_of_lt (a:=r+F) (by omega)];by_cases hb:r+F<4294967296
   ·left;refine⟨(g-1,r+F),by simp[Nat.div_eq_of_lt hb],⟨e1,by simp only;omega,hb,by simp only;omega⟩,by simp only;omega⟩
   right;have hne:(r+F)/4294967296≠0:=by omega
   refine⟨g-1,by simp[hne],by omega,?_⟩;refine hle _ ?_;have m1:(g-1)*S<=4294967296*4294967295:=Nat.mul_le_mul (by omega) (by omega);rw[Nat.mul_add,<-Nat.mul_assoc];have m2:((g-1)*F+(r+F))*4294967296=T*4294967296:=by rw[e1]
   rw[Nat.add_mul]at m2;omega
  simp only[cY,bR];by_cases hg:g<4294967296
  ·rw[show decide (g/4294967296≠0)=false by simp;omega];have hgS:g*S<=4294967295*4294967295:=Nat.mul_le_mul (by omega) (by omega);simp only[iG];rw[g3];simp only[bR];rw[Nat.mod_eq_of_lt (a:=g*S) (by omega),Nat.mod_eq_of_lt (a:=r*4294967296) (by omega),Nat.mod_eq_of_lt (a:=u) (by omega),CY Tp,Nat.mod_eq_of_lt (a:=r*4294967296+u) (by omega)];by_cases ht:r*4294967296+u<g*S
   ·rw[show decide (r*4294967296+u<g*S)=true by simpa using ht];simp only[bR,gZ];exact down (Zi _ _ i1 ht)
   rw[show decide (r*4294967296+u<g*S)=false by simpa using ht];right;refine⟨g,by simp,i2,?_⟩;refine hle _ ?_;rw[Nat.mul_add,<-Nat.mul_assoc,<-i1,Nat.add_mul];omega
  rw[show decide (g/4294967296≠0)=true by simp;omega];simp only[bR,gZ];exact down (by omega)
 rintro e ⟨h2,h3⟩;exact⟨(e,dQ 4294967296 N A),by rw[kX Y,Option.bind_some],Y,h2,h3⟩
end
section
open Go.Fw
theorem nT{N A o n f:Nat}{v:List Nat}(hv:yU v)(hn:v.length=n)(hN:N<=35184372088809)(ho:o+n<N)(hf:f<=4294967296)
  (hU:A/4294967296^o<4294967296^(n+1)):
  cg (dQ 4294967296 N A) o (n+1) v f=some (decide (A/4294967296^o<vl v*f),dQ 4294967296 N (A%4294967296^o+4294967296^o*((A/4294967296^o+4294967296^(n+1)-vl v*f)%4294967296^(n+1)))):=by
 obtain⟨hV,hlv⟩:=hv;obtain⟨U,G2⟩:∃U,A/4294967296^o=U:=⟨_,Y⟩;obtain⟨V,G3⟩:∃V,vl v=V:=⟨_,Y⟩;have tu:V<4294967296^n:=by rw[<-G3,<-hn];exact fC v hV
 have Ew:4294967296^(n+1)=4294967296^n*4294967296:=Nat.pow_succ ..;have hT:V*f<4294967296^(n+1):=by
  rw[Ew]
  calc V*f<=V*4294967296:=Nat.mul_le_mul_left _ hf
   _<4294967296^n*4294967296:=Nat.mul_lt_mul_of_pos_right tu (by decide)
 rw[G2]at hU⊢;rw[G3];obtain⟨X,hX⟩:∃X,U+4294967296^(n+1)-V*f=X:=⟨_,Y⟩;rw[hX];unfold cg;simp only[bR];have Nh:∀i,tq 4294967296 U (V*f) i<=1:=λi=>Gs (by decide) _ _ _;refine b7 (λi=>(1-tq 4294967296 U (V*f) i,(i:Int),sC 4294967296 V f 0 i,dQ 4294967296 N (mix 4294967296 o i X U A))) (n+1) (1-tq 4294967296 U (V*f) (n+1),dQ 4294967296 N (mix 4294967296 o (n+1) X U A)) ?_ (λi hi=>?_) ?_ ?_
 ·rw[AE,CU,<-G2,AK];rfl
 ·
  obtain⟨t,ht⟩:∃t,V*f/4294967296^i%4294967296=t:=⟨_,Y⟩;obtain⟨c,hc⟩:∃c,sC 4294967296 V f 0 i=c:=⟨_,Y⟩;obtain⟨p,hp⟩:∃p,V/4294967296^i%4294967296*f=p:=⟨_,Y⟩;have acr:c<4294967296:=by
   rw[<-hc,sC,sT,Nat.add_zero,Nat.div_lt_iff_lt_mul (Nat.pow_pos (by decide))]
   calc V%4294967296^i*f<=V%4294967296^i*4294967296:=Nat.mul_le_mul_left _ hf
    _<4294967296*4294967296^i:=by rw[Nat.mul_comm];exact Nat.mul_lt_mul_of_pos_left (Nat.mod_lt _ (Nat.pow_pos (by decide))) (by decide)
  have acs:p<=4294967295*4294967296:=by
   rw[<-hp];exact Nat.mul_le_mul (by have:=Nat.mod_lt (V/4294967296^i) (show 0<4294967296 by decide);omega) hf
  have M5:(p+c)%4294967296=t:=by rw[<-hp,<-hc,Gt (B:=4294967296) (by decide),Nat.add_zero,ht]
  have hstep:(p+c)/4294967296=sC 4294967296 V f 0 (i+1):=by rw[<-hp,<-hc,CW (B:=4294967296) (by decide)]
  have acu:t<4294967296:=by rw[<-ht];exact Nat.mod_lt _ (by decide)
  obtain⟨u,hu⟩:∃u,U/4294967296^i%4294967296=u:=⟨_,Y⟩;have Tp:u<4294967296:=by rw[<-hu];exact Nat.mod_lt _ (by decide)
  have hg:(dQ 4294967296 N (mix 4294967296 o i X U A))[o+i]? =some u:=by rw[ji (by omega),qC (by decide),hu]
  have hl:=Nh i;obtain⟨l,hle⟩:∃l,tq 4294967296 U (V*f) i=l:=⟨_,Y⟩;have hxd:(u+(4294967296-1-t)+l)%4294967296=X/4294967296^i%4294967296:=by rw[<-hu,<-ht,<-hle,Gy (B:=4294967296) (by decide) hi (by omega),hX]
  have hls:(u+(4294967296-1-t)+l)/4294967296=tq 4294967296 U (V*f) (i+1):=by rw[<-hu,<-ht,<-hle,AF (B:=4294967296) (by decide)]
  rw[hle]at hl;have hput:=yV (B:=4294967296) (by decide) o i X U A (N:=N) (by omega);rw[hle,hc,<-hls];simp only[show decide ((i:Int)<((n+1:Nat):Int))=true by simp;omega,gZ,bR,cY];rw[tZ (by omega)];simp only[bR,hg];have way:∀k:Nat->Option ((Nat×Int×Nat×List Nat)⊕(Nat×List Nat)),(bif decide ((i:Int)<(v.length:Int))then(cI v (i:Int)).bind λeG=>k (eG%18446744073709551616*f%18446744073709551616)else k 0)=k p:=by
   intro k;by_cases hin:i<v.length
   ·rw[show decide ((i:Int)<(v.length:Int))=true by simp;omega,gZ];have ze:v[i]? =some (V/4294967296^i%4294967296):=by rw[<-G3];exact kC hV hin
    rw[bq ze,bR,Nat.mod_eq_of_lt (a:=V/4294967296^i%4294967296) (b:=18446744073709551616) (by have:=Nat.mod_lt (V/4294967296^i) (show 0<4294967296 by decide);omega),hp,Nat.mod_eq_of_lt (a:=p) (by omega)]
   rw[show decide ((i:Int)<(v.length:Int))=false by simp;omega,iG];have:V/4294967296^i=0:=Nat.div_eq_of_lt (Nat.lt_of_lt_of_le tu (Nat.pow_le_pow_right (by decide) (by omega)));rw[<-hp,this];simp
  refine(way (λy=>(bu y c).bind _)).trans ?_;rw[eK _ _ (by omega)];simp only[bR];rw[M5,hstep,Nat.mod_eq_of_lt (a:=u) (by omega),Nat.mod_eq_of_lt (a:=t) (by omega)];rw[jo (by rw[bw];omega),bR,cL (by omega),Tn];by_cases Lg:u<t+(1-l)
  ·have e1:jV 18446744073709551616 (jV 18446744073709551616 u t) (1-l)=18446744073709551616+u-t-(1-l):=by
    by_cases h1:u<t
    ·rw[tY h1 (by omega),lU (by omega) (by omega)]
    rw[lU (a:=u) (b:=t) (by omega) (by omega),tY (by omega) (by omega)];omega
   rw[e1];have e2:(18446744073709551616+u-t-(1-l))%4294967296=X/4294967296^i%4294967296:=by rw[<-hxd];omega
   have e3:(18446744073709551616+u-t-(1-l))/9223372036854775808=1-(u+(4294967296-1-t)+l)/4294967296:=by omega
   rw[e2,e3,hput]
  have e1:jV 18446744073709551616 (jV 18446744073709551616 u t) (1-l)=u-t-(1-l):=by
   rw[lU (a:=u) (b:=t) (by omega) (by omega),lU (by omega) (by omega)]
  rw[e1];have e2:(u-t-(1-l))%4294967296=X/4294967296^i%4294967296:=by rw[<-hxd];omega
  have e3:(u-t-(1-l))/9223372036854775808=1-(u+(4294967296-1-t)+l)/4294967296:=by omega
  rw[e2,e3,hput]
 ·simp
 simp only[bR];rw[kX (by rw[bw,bw]),bR,AJ hU,IN (by decide) hU hT];congr 2;by_cases h:U<V*f<;>simp[h]
end
section
open Go.Fw
theorem Tw{B V:Nat}(hB:0<B)(hV:0<V)(A k:Nat):A%(V*B^(k+1))/B^k<B*V:=by
 rw[Nat.div_lt_iff_lt_mul (Nat.pow_pos hB)];have:V*B^(k+1)=B*V*B^k:=by rw[Nat.pow_succ,Nat.mul_comm (B^k),<-Nat.mul_assoc,Nat.mul_comm V]
 rw[<-this];exact Nat.mod_lt _ (Nat.mul_pos hV (Nat.pow_pos hB))
theorem Ni{B V:Nat}(A k:Nat):A%(V*B^(k+1))%B^k+B^k*(A%(V*B^(k+1))/B^k%V)=A%(V*B^k):=by
 rw[<-Nat.mod_mul,Nat.mul_comm (B^k),Nat.mod_mod_of_dvd];rw[Nat.pow_succ,<-Nat.mul_assoc];exact Nat.dvd_mul_right _ _
theorem Nj{B V:Nat}(A k:Nat):A%(V*B^(k+1))/B^k/V=A/V/B^k%B:=by
 rw[Nat.div_div_eq_div_mul,Nat.mul_comm (B^k),Nat.pow_succ,<-Nat.mul_assoc,Nat.mod_mul_right_div_self,Nat.div_div_eq_div_mul]
theorem GA{B:Nat}(hB:0<B){N k:Nat}(h:k<N)(Q:Nat):(dQ B N (Q/B^(k+1)*B^(k+1))).set k (Q/B^k%B)=dQ B N (Q/B^k*B^k):=by
 have hP:0<B^k:=Nat.pow_pos hB;refine nI hB h (Nat.mod_lt _ hB) ?_ ?_ ?_
 ·rw[Nat.mul_mod_left,Nat.pow_succ,Nat.mul_comm (B^k),<-Nat.mul_assoc,Nat.mul_mod_left]
 ·rw[Nat.mul_div_cancel _ hP]
 rw[Nat.mul_div_cancel _ (Nat.pow_pos hB),Nat.pow_succ,<-Nat.div_div_eq_div_mul,Nat.mul_div_cancel _ hP,Nat.div_div_eq_div_mul]
theorem C0{α:Type}{l:List α}{o n:Nat}(h:o<l.length)(h':o+n<=l.length):Lt l (o:Int) ((o+n:Nat):Int)=some (o,n):=by
 unfold Lt;rw[if_pos (by omega)];congr 2;omega
theorem IP{U V g M:Nat}(hV:0<V)(h1:U/V<=g)(h2:g<=U/V+1)(hM:U<M)(hVM:V<=M):
  (V*g<=U/\g=U/V/\(U+M-V*g)%M=U%V)\/(U<V*g/\g=U/V+1/\U+M-V*g<M/\(U+M-V*g+V)%M=U%V):=by
 have hd:=Nat.div_add_mod U V;have hm:=Nat.mod_lt U hV
 revert h1 h2 hd hm
 generalize U/V=q;generalize U%V=r;intro h1 h2 hd hm;rcases Nat.lt_or_ge q g with h|h
 ·obtain rfl:g=q+1:=by omega
  have e:V*(q+1)=V*q+V:=Nat.mul_succ ..;right;refine⟨by omega,Y,by omega,?_⟩;rw[show U+M-V*(q+1)+V=r+M by omega,Nat.add_mod_right,Nat.mod_eq_of_lt (by omega)]
 obtain rfl:g=q:=by omega
 left;refine⟨by omega,Y,?_⟩;rw[show U+M-V*g=r+M by omega,Nat.add_mod_right,Nat.mod_eq_of_lt (by omega)]
theorem IQ{R D e i:Nat}(hD:0<D)(he:4294967296=D*e):(R*D/4294967296^(i+1)%4294967296*4294967296+R*D/4294967296^i%4294967296)/D%4294967296=R/4294967296^i%4294967296:=by
 have h1:R*D/4294967296^(i+1)%4294967296*4294967296+R*D/4294967296^i%4294967296=R*D/4294967296^i%(4294967296*4294967296):=by
  rw[Nat.mod_mul,Nat.div_div_eq_div_mul,show 4294967296^i*4294967296=4294967296^(i+1)from(Nat.pow_succ ..).symm,Nat.add_comm,Nat.mul_comm 4294967296]
 have h2:(4294967296*4294967296:Nat)=D*(e*4294967296):=by
  rw[<-Nat.mul_assoc,<-he]
 rw[h1,h2,Nat.mod_mul_right_div_self,Nat.mod_mul_left_mod,Nat.div_div_eq_div_mul,Nat.mul_comm (4294967296^i) D,<-Nat.div_div_eq_div_mul,Nat.mul_div_cancel _ hD]
theorem Nk{B:Nat}(hB:0<B){N i R:Nat}(h:i<N):(dQ B N (R%B^i)).set i (R/B^i%B)=dQ B N (R%B^(i+1)):=by
 refine nI hB h (Nat.mod_lt _ hB) ?_ ?_ ?_
 ·rw[Nat.mod_mod,Nat.mod_mod_of_dvd _ (Nat.pow_dvd_pow _ (Nat.le_succ i))]
 ·rw[Nat.pow_succ,Nat.mod_mul_right_div_self,Nat.mod_mod]
 rw[Nat.div_eq_of_lt (Nat.mod_lt _ (Nat.pow_pos hB)),Nat.div_eq_of_lt];exact Nat.lt_of_lt_of_le (Nat.mod_lt _ (Nat.pow_pos hB)) (Nat.pow_le_pow_right hB (Nat.le_succ i))
theorem BX(a b:List Nat)(ha:yU a)(hb:yU b){n:Nat}(hn:b.length=n+2)(hl:b.length<=a.length)(BW:b[n+1]? ≠some 0):
  fE a b=some (dQ 4294967296 (a.length-b.length+1) (vl a/vl b),dQ 4294967296 b.length (vl a%vl b)):=by
 obtain⟨hA,hla⟩:=ha;obtain⟨hB,hlb⟩:=hb;have hP:∀k,0<4294967296^k:=λk=>Nat.pow_pos (by decide);obtain⟨Va,hVa⟩:∃V,vl a=V:=⟨_,Y⟩;obtain⟨Vb,Zk⟩:∃V,vl b=V:=⟨_,Y⟩;have Nl:Vb<4294967296^(n+2):=by rw[<-Zk,<-hn];exact fC b hB
 have halt:Va<4294967296^a.length:=by rw[<-hVa];exact fC a hA
 have AM:4294967296^(n+2)=4294967296^(n+1)*4294967296:=Nat.pow_succ ..;obtain⟨x,hx⟩:∃x,Vb/4294967296^(n+1)=x:=⟨_,Y⟩;have Tx:x<4294967296:=by rw[<-hx,Nat.div_lt_iff_lt_mul (hP _)];rw[AM,Nat.mul_comm]at Nl;exact Nl
 have Vt:b[n+1]? =some x:=by rw[kC hB (by omega),show val 4294967296 b=Vb from Zk,hx,Nat.mod_eq_of_lt Tx]
 have hx0:x≠0:=λe=>BW (by rw[Vt,e]);obtain⟨s,NK,AX,hs3,hs4⟩:=Tl x Tx hx0;have Ty:0<2^s:=Nat.two_pow_pos s;have Tz:2^s<4294967296:=by
  have:2^s<2^32:=Nat.pow_lt_pow_right (by decide) AX;rw[two32]at this;exact this
 obtain⟨D,hD⟩:∃D,2^s=D:=⟨_,Y⟩;rw[hD]at hs3 hs4 Ty Tz;obtain⟨V,hV⟩:∃V,Vb*D=V:=⟨_,Y⟩;obtain⟨A,Vv⟩:∃A,Va*D=A:=⟨_,Y⟩;have tu:V<4294967296^(n+2):=by
  have h1:Vb<(x+1)*4294967296^(n+1):=by rw[<-hx,Nat.add_mul,Nat.one_mul];exact Nat.lt_div_mul_add (hP _)
  have h2:(x+1)*D<=4294967296:=by
   obtain⟨e,he⟩:∃e,4294967296=D*e:=⟨2^(32-s),by rw[<-hD,<-Nat.pow_add,show s+(32-s)=32 by omega,two32]⟩;have h3:x<e:=by
    apply Nat.lt_of_mul_lt_mul_left (a:=D);rw[<-he,Nat.mul_comm];exact hs4
   calc (x+1)*D<=e*D:=Nat.mul_le_mul_right _ h3
    _=4294967296:=by rw[Nat.mul_comm,<-he]
  rw[<-hV,AM]
  calc Vb*D<(x+1)*4294967296^(n+1)*D:=Nat.mul_lt_mul_of_pos_right h1 Ty
   _=4294967296^(n+1)*((x+1)*D):=by rw[Nat.mul_comm (x+1),Nat.mul_assoc]
   _<=4294967296^(n+1)*4294967296:=Nat.mul_le_mul_left _ h2
 have GB:2147483648*4294967296^(n+1)<=V:=by
  have h1:x*4294967296^(n+1)<=Vb:=by rw[<-hx];exact Nat.div_mul_le_self _ _
  rw[<-hV]
  calc 2147483648*4294967296^(n+1)<=x*D*4294967296^(n+1):=Nat.mul_le_mul_right _ hs3
   _=x*4294967296^(n+1)*D:=by rw[Nat.mul_assoc,Nat.mul_comm D,<-Nat.mul_assoc]
   _<=Vb*D:=Nat.mul_le_mul_right _ h1
 have Nd:0<V:=Nat.lt_of_lt_of_le (Nat.mul_pos (by decide) (hP _)) GB;have hb0:0<Vb:=by
  rcases Nat.eq_zero_or_pos Vb with h|h
  ·rw[<-hV,h,Nat.zero_mul]at Nd;omega
  exact h
 have hAV:A/V=Va/Vb:=by rw[<-Vv,<-hV,Nat.mul_div_mul_right _ _ Ty]
 have Zl:A%V=Va%Vb*D:=by rw[<-Vv,<-hV,Nat.mul_mod_mul_right]
 obtain⟨K,hK⟩:∃K,a.length=K+(n+2):=⟨a.length-(n+2),by omega⟩;have TA:A<V*4294967296^(K+1):=by
  have h1:4294967296^(n+1)<=Vb:=by
   have:1*4294967296^(n+1)<=x*4294967296^(n+1):=Nat.mul_le_mul_right _ (by omega);have h2:x*4294967296^(n+1)<=Vb:=by rw[<-hx];exact Nat.div_mul_le_self _ _
   omega
  rw[<-Vv,<-hV]
  calc Va*D<4294967296^a.length*D:=Nat.mul_lt_mul_of_pos_right halt Ty
   _=4294967296^(n+1)*4294967296^(K+1)*D:=by rw[hK,<-Nat.pow_add];congr 2;omega
   _<=Vb*4294967296^(K+1)*D:=Nat.mul_le_mul_right _ (Nat.mul_le_mul_right _ h1)
   _=Vb*D*4294967296^(K+1):=by rw[Nat.mul_assoc,Nat.mul_comm _ D,<-Nat.mul_assoc]
 obtain⟨v,Vw⟩:∃v,dQ 4294967296 (n+2) V=v:=⟨_,Y⟩;have hvl:v.length=n+2:=by rw[<-Vw,bw]
 have Zm:yU v:=⟨λy hy=>by rw[<-Vw]at hy;exact jq (by decide) _ _ _ hy,by omega⟩;have TB:vl v=V:=by rw[<-Vw];show val _ _=_;rw[iB,Nat.mod_eq_of_lt tu]
 have TC:List.take b.length (dQ 4294967296 (b.length+1) (Vb*2^s))=v:=by
  rw[hD,hV,hn,jN,List.take_append_of_le_length (by rw[bw];omega),List.take_of_length_le (by rw[bw];omega),Vw]
 unfold fE;simp only[bR];rw[show((b.length:Nat):Int)-1=((n+1:Nat):Int) by omega,lT (by omega),bq Vt,bR,NK,bR];rw[show((s:Int)%18446744073709551616).toNat=s by rw[Int.emod_eq_of_lt (by omega) (by omega)];simp];rw[wH,shiftLeft_eq a s ⟨hA,hla⟩ AX,bR,shiftLeft_eq b s ⟨hB,hlb⟩ AX,bR,xB (by rw[bw];omega),bR];obtain⟨Q,hQ⟩:∃Q,A/V=Q:=⟨_,Y⟩;have Zn:Q<4294967296^(K+1):=by rw[<-hQ,Nat.div_lt_iff_lt_mul Nd,Nat.mul_comm];exact TA
 rw[hVa,Zk,<-hAV,hQ,TC,hD,Vv,hn];rw[show a.length-(n+2)+1=K+1 by omega];rw[eJ (x:=(a.length:Int)-((n+2:Nat):Int)) (by omega) (by omega),eJ (x:=(a.length:Int)-((n+2:Nat):Int)+1) (by omega) (by omega),show(a.length:Int)-((n+2:Nat):Int)+1=((K+1:Nat):Int) by omega,vz (by decide) (by omega),bR,show(a.length:Int)-((n+2:Nat):Int)=(K:Int) by omega];refine b7 (λj=>((K:Int)-(j:Int),dQ 4294967296 (K+1) (Q/4294967296^(K+1-j)*4294967296^(K+1-j)),dQ 4294967296 (a.length+1) (A%(V*4294967296^(K+1-j))))) (K+1) (dQ 4294967296 (K+1) Q,dQ 4294967296 (a.length+1) (A%V)) ?_ (λj hj=>?_) ?_ ?_
 ·rw[show K+1-0=K+1 by omega,Nat.mod_eq_of_lt TA,Nat.div_eq_of_lt Zn,Nat.zero_mul,ni];simp
 ·
  obtain⟨k,hk⟩:∃k,K=k+j:=⟨K-j,by omega⟩;rw[show K+1-j=k+1 by omega,show K+1-(j+1)=k by omega,show(K:Int)-(j:Int)=(k:Int) by omega,show(K:Int)-((j+1:Nat):Int)=(k:Int)-1 by omega];have hU:=Tw (B:=4294967296) (by decide) Nd A k;have IS:=Ni (B:=4294967296) (V:=V) A k;have Nm:=Nj (B:=4294967296) (V:=V) A k;obtain⟨N,hN⟩:∃N,a.length+1=N:=⟨_,Y⟩;obtain⟨A1,hA1⟩:∃A1,A%(V*4294967296^(k+1))=A1:=⟨_,Y⟩;rw[hN];rw[hA1]at hU IS Nm⊢;rw[hQ]at Nm;obtain⟨⟨g,lg⟩,hge,hgl,Vx,GZ⟩:=AL (N:=N) (A:=A1) (o:=k) (n:=n) (v:=v) Zm hvl (by omega) (by omega) (by rw[TB];exact hU) (by rw[TB];exact GB);simp only at hgl Vx GZ;rw[TB]at Vx GZ;subst hgl;have hsub:=nT (N:=N) (A:=A1) (o:=k) (n:=n+2) (v:=v) (f:=g) Zm hvl (by omega) (by omega) ?_ ?_
  ·rw[TB]at hsub;obtain⟨U,G2⟩:∃U,A1/4294967296^k=U:=⟨_,Y⟩;rw[G2]at hU IS Nm Vx GZ hsub;have IT:4294967296^(n+2+1)=4294967296^(n+2)*4294967296:=Nat.pow_succ ..;have hUM:U<4294967296^(n+2+1):=by
    have:4294967296*V<4294967296*4294967296^(n+2):=Nat.mul_lt_mul_of_pos_left tu (by decide);rw[IT];omega
   have GC:=IP (M:=4294967296^(n+2+1)) Nd Vx GZ hUM (by rw[IT];omega);have TD:U/V<4294967296:=by rw[Nm];exact Nat.mod_lt _ (by decide)
   rw[show decide ((0:Int)<=(k:Int))=true by simp,gZ];rw[nG (by omega),cL (by omega),show k+(n+2)+1=k+(n+3) by omega,C0 (by rw[bw];omega) (by rw[bw];omega),bR,hge,bR,kX Y,bR,C0 (by rw[bw];omega) (by rw[bw];omega),bR];show(Option.bind (cg _ k (n+2+1) v g) _)=_;rw[hsub,bR,kX (by rw[bw,bw]),bR];simp only[cY];rcases GC with⟨hc1,zq,TE⟩|⟨hc1,zq,TE,hc4⟩
   ·rw[show decide (U<V*g)=false by simp;omega,iG,TE,IS,zq,Nat.mod_eq_of_lt TD,Nm,eo (by rw[bw];omega),bR,jo (by rw[bw];omega),bR,GA (by decide) (by omega),eJ (by omega) (by omega)]
   rw[show decide (U<V*g)=true by simp;omega,gZ,lU (by omega) (by omega),show g-1=U/V by omega,Nat.mod_eq_of_lt TD,Nm];rw[Nat.mod_eq_of_lt TE];obtain⟨aa,hY⟩:∃aa,U+4294967296^(n+2+1)-V*g=aa:=⟨_,Y⟩;rw[hY]at TE hc4⊢;obtain⟨A2,Zo⟩:∃A2,A1%4294967296^k+4294967296^k*aa=A2:=⟨_,Y⟩;rw[Zo];have Wv:A2/4294967296^k=aa:=by rw[<-Zo,Nat.add_mul_div_left _ _ (hP k),Nat.div_eq_of_lt (Nat.mod_lt _ (hP k)),Nat.zero_add]
   have Ee:A2%4294967296^k=A1%4294967296^k:=by rw[<-Zo,Nat.add_mul_mod_self_left,Nat.mod_mod]
   have hcr:∀i,zg 4294967296 aa V i<=1:=λi=>BU (by decide) _ _ _;refine b7 (λi=>((i:Int),zg 4294967296 aa V i,dQ 4294967296 N (mix 4294967296 k i (aa+V) aa A2))) (n+2) (zg 4294967296 aa V (n+2),dQ 4294967296 N (mix 4294967296 k (n+2) (aa+V) aa A2)) ?_ (λi hi=>?_) ?_ ?_
   ·rw[AD,<-Wv,AK];rfl
   ·have ze:v[i]? =some (V/4294967296^i%4294967296):=by rw[<-TB];exact kC Zm.1 (by omega)
    have Zp:(dQ 4294967296 N (mix 4294967296 k i (aa+V) aa A2))[k+i]? =some (aa/4294967296^i%4294967296):=by rw[ji (by omega),qC (by decide)]
    have NK:=AB (B:=4294967296) (by decide) aa V i;have AX:=yR (B:=4294967296) (by decide) aa V i;have hput:=yV (B:=4294967296) (by decide) k i (aa+V) aa A2 (N:=N) (by omega);have hci:=hcr i;have hv1:=Nat.mod_lt (V/4294967296^i) (show 0<4294967296 by decide);have Ob:=Nat.mod_lt (aa/4294967296^i) (show 0<4294967296 by decide);simp only[show decide ((i:Int)<(v.length:Int))=true by simp;omega,gZ];rw[bq ze,bR,nG (by omega),eo (by rw[bw];omega),bR,Zp,bR,Nat.mod_eq_of_lt (a:=aa/4294967296^i%4294967296) (b:=18446744073709551616) (by omega),Nat.mod_eq_of_lt (a:=V/4294967296^i%4294967296) (b:=18446744073709551616) (by omega),Nat.mod_eq_of_lt (b:=18446744073709551616) (by omega),eK _ _ (by omega),bR,bR,jo (by rw[bw];omega),bR,cL (by omega)];rw[NK,AX,hput]
   ·simp[hvl]
   have Zp:(dQ 4294967296 N (mix 4294967296 k (n+2) (aa+V) aa A2))[k+(n+2)]? =some (aa/4294967296^(n+2)%4294967296):=by rw[ji (by omega),qC (by decide)]
   have AX:=yR (B:=4294967296) (by decide) aa V (n+2);have hput:=yV (B:=4294967296) (by decide) k (n+2) (aa+V) aa A2 (N:=N) (by omega);have hci:=hcr (n+2);have Ob:=Nat.mod_lt (aa/4294967296^(n+2)) (show 0<4294967296 by decide);rw[Nat.div_eq_of_lt tu,Nat.zero_mod,Nat.add_zero]at AX;simp only[];rw[eo (by rw[bw];omega),bR,Zp,bR,Nat.mod_eq_of_lt (a:=aa/4294967296^(n+2)%4294967296) (b:=18446744073709551616) (by omega),eK _ _ (by omega),bR,bR,jo (by rw[bw];omega),bR,AX,hput,AJ TE,Ee,hc4,IS,eo (by rw[bw];omega),bR,jo (by rw[bw];omega),bR,GA (by decide) (by omega),eJ (by omega) (by omega)]
  ·
   have TD:A1/4294967296^k/V<4294967296:=by rw[Nm];exact Nat.mod_lt _ (by decide)
   omega
  have IT:4294967296^(n+2+1)=4294967296^(n+2)*4294967296:=Nat.pow_succ ..;have:4294967296*V<4294967296*4294967296^(n+2):=Nat.mul_lt_mul_of_pos_left tu (by decide);rw[IT];omega
 ·rw[show K+1-(K+1)=0 by omega,Nat.pow_zero,Nat.mul_one,Nat.mul_one,Nat.div_one,show decide (0<=(K:Int)-((K+1:Nat):Int))=false by simp;omega,iG]
 obtain⟨R,hR⟩:∃R,Va%Vb=R:=⟨_,Y⟩;rw[Zl,hR];have Zq:R<4294967296^(n+2):=by rw[<-hR];exact Nat.lt_trans (Nat.mod_lt _ hb0) Nl
 rw[vz (by decide) (by omega),bR];refine b7 (λi=>((i:Int),dQ 4294967296 (n+2) (R%4294967296^i))) (n+2) (dQ 4294967296 (n+2) R) ?_ (λi hi=>?_) ?_ Y
 ·rw[Nat.pow_zero,Nat.mod_one,ni];rfl
 ·obtain⟨e,he⟩:∃e,4294967296=D*e:=⟨2^(32-s),by rw[<-hD,<-Nat.pow_add,show s+(32-s)=32 by omega,two32]⟩;have TF:=IQ (R:=R) (i:=i) Ty he;obtain⟨u,hu⟩:∃u,R*D/4294967296^i%4294967296=u:=⟨_,Y⟩;obtain⟨w,hw⟩:∃w,R*D/4294967296^(i+1)%4294967296=w:=⟨_,Y⟩;have VI:u<4294967296:=by rw[<-hu];exact Nat.mod_lt _ (by decide)
  have Z3:w<4294967296:=by rw[<-hw];exact Nat.mod_lt _ (by decide)
  rw[hu,hw]at TF;simp only[show decide ((i:Int)<((n+2:Nat):Int))=true by simp;omega,gZ];rw[eo (by rw[bw];omega),bR,ji (by omega),bR,hu,cL (by omega),eo (by rw[bw];omega),bR,ji (by omega),bR,hw,Nat.mod_eq_of_lt (a:=u) (by omega),Nat.mod_eq_of_lt (a:=w) (by omega),two32,Nat.mod_eq_of_lt (a:=w*4294967296) (by omega),Nat.or_comm,CY VI,Nat.mod_eq_of_lt (a:=w*4294967296+u) (by omega),show min s 64=s by omega,hD,TF,eo (by rw[bw];omega),bR,jo (by rw[bw];omega),bR];rw[Nk (by decide) hi]
 rw[Nat.mod_eq_of_lt Zq];simp
end
section
open Go.Fw
def sv(n:Bool)(v:Nat):Int:=bif n then-(v:Int)else v
def zi(z:Zr):Int:=sv z.neg (vl z.w)
def zn(i:Int):Zr:=⟨decide (i<0),can 4294967296 i.natAbs⟩
def Wl(z:Zr):Prop:=(∀x∈z.w,x<4294967296)/\z.w.length<=35184372088788
def Fit(L:Nat)(i:Int):Prop:=i.natAbs<4294967296^L
theorem GD(n:Bool)(v:Nat):(sv n v).natAbs=v:=by cases n<;>simp[sv]
theorem yX(z:Zr):(zi z).natAbs=vl z.w:=GD _ _
theorem Nn(n:Bool)(v:Nat):decide (sv n v<0)=(n&&v != 0):=by
 cases n
 ·have:¬((v:Int)<0):=by omega
  simp[sv,this]
 rcases v with _|v
 ·simp[sv]
 simp[sv]
theorem kD(n:Bool)(v:Nat):zc n v=zn (sv n v):=by rw[zc,zn,Nn,GD]
theorem IU(i:Int):sv (decide (i<0)) i.natAbs=i:=by
 by_cases h:i<0
 ·rw[show decide (i<0)=true by simp[h]];simp[sv];omega
 rw[show decide (i<0)=false by simp[h]];simp[sv];omega
theorem cx(i:Int):zi (zn i)=i:=by
 show sv (decide (i<0)) (vl (can 4294967296 i.natAbs))=i;rw[show vl (can 4294967296 i.natAbs)=i.natAbs from lY (by decide) _,IU]
theorem yY(n:Bool)(v:Nat):sv (!n) v=-sv n v:=by cases n<;>simp[sv]
theorem jP(v:Nat):sv false v=v:=rfl
theorem Fit.mono{L M:Nat}{i:Int}(h:Fit L i)(hl:L<=M):Fit M i:=Nat.lt_of_lt_of_le h (Nat.pow_le_pow_right (by decide) hl)
theorem Fit.neg{L:Nat}{i:Int}(h:Fit L i):Fit L (-i):=by unfold Fit at*;rw[Int.natAbs_neg];exact h
theorem Fit.add{L:Nat}{i j:Int}(h:Fit L i)(h':Fit L j):Fit (L+1) (i+j):=by
 unfold Fit at*;have:=Int.natAbs_add_le i j;rw[Nat.pow_succ];omega
theorem Fit.sub{L:Nat}{i j:Int}(h:Fit L i)(h':Fit L j):Fit (L+1) (i-j):=by
 rw[Int.sub_eq_add_neg];exact h.add h'.neg
theorem Fit.mul{L M:Nat}{i j:Int}(h:Fit L i)(h':Fit M j):Fit (L+M) (i*j):=by
 unfold Fit at*;rw[Int.natAbs_mul,Nat.pow_add];exact Nat.mul_lt_mul'' h h'
theorem Fit.i64{i:Int}(h: -9223372036854775808<=i)(h':i<=9223372036854775807):Fit 2 i:=by
 unfold Fit;rw[show(4294967296:Nat)^2=18446744073709551616 by decide];omega
theorem Fit.le{L:Nat}{i j:Int}(h:Fit L i)(h':j.natAbs<=i.natAbs):Fit L j:=Nat.lt_of_le_of_lt h' h
theorem ec{L:Nat}{i:Int}(h:Fit L i)(hL:L<=35184372088788):Wl (zn i):=
 ⟨λ_ hx=>gx (by decide) hx,Nat.le_trans ((cD (by decide)).2 h) hL⟩
theorem Wl.fit{z:Zr}(h:Wl z):Fit z.w.length (zi z):=by
 unfold Fit;rw[yX];exact fC z.w h.1
theorem Wl.lt{z:Zr}(h:Wl z):vl z.w<4294967296^z.w.length:=fC z.w h.1
theorem Wl.cl{z:Zr}(h:Wl z):(can 4294967296 (vl z.w)).length<=35184372088788:=
 Nat.le_trans ((cD (by decide)).2 (Wl.lt h)) h.2
def Wx(z:Zr):Prop:=(∀x∈z.w,x<4294967296)/\z.w.length<=9000000000000000000
theorem Wl.x{z:Zr}(h:Wl z):Wx z:=⟨h.1,Nat.le_trans h.2 (by decide)⟩
theorem KL{L:Nat}{i:Int}(h:Fit L i)(hL:L<=9000000000000000000):Wx (zn i):=
 ⟨λ_ hx=>gx (by decide) hx,Nat.le_trans ((cD (by decide)).2 h) hL⟩
theorem Wx.cl{z:Zr}(h:Wx z):(can 4294967296 (vl z.w)).length<=9000000000000000000:=
 Nat.le_trans ((cD (by decide)).2 (fC z.w h.1)) h.2
theorem Wx.trim{z:Zr}(h:Wx z):bh z.w=some (can 4294967296 (vl z.w)):=by
 rw[qA _ (by have:=h.2;omega),jO (by decide) h.1]
theorem Wl.trim{z:Zr}(h:Wl z):bh z.w=some (can 4294967296 (vl z.w)):=by
 rw[qA _ (by have:=h.2;omega),jO (by decide) h.1]
theorem eF{v:Nat}(h:(can 4294967296 v).length<=35184372088789):yU (can 4294967296 v):=⟨λ_ hx=>gx (by decide) hx,by omega⟩
theorem dx(v:Nat):vl (can 4294967296 v)=v:=lY (by decide) v
theorem ee{v:Nat}:((can 4294967296 v).length:Int)<=2↔v<18446744073709551616:=by
 have:=cD (B:=4294967296) (by decide) (v:=v) (n:=2);rw[show(4294967296:Nat)^2=18446744073709551616 by decide]at this;omega
theorem iC{v:Nat}:((can 4294967296 v).length:Int)<=1↔v<4294967296:=by
 have:=cD (B:=4294967296) (by decide) (v:=v) (n:=1);rw[show(4294967296:Nat)^1=4294967296 by decide]at this;omega
theorem k8{v:Nat}:(can 4294967296 v).length=0↔v=0:=by
 constructor
 ·intro h;exact yP (by decide) (List.length_eq_zero_iff.1 h)
 intro h;rw[h,nk];rfl
theorem qD(l:List Nat)(h:l.length<=35184372088832):c8 l=some l:=by
 unfold c8;rw[DO (by decide) (by simp;omega)];simp
end
section
open Go.Fw
theorem AN(a b:Nat):decide (wG a b<0)=decide (a<b):=by
 rcases Nat.lt_trichotomy a b with h|h|h
 ·rw[qz h];simp[h]
 ·rw[h,yT];simp
 rw[ud h];simp;omega
theorem sM(a b:Nat)(ha:(can 4294967296 a).length<=35184372088788)(hb:(can 4294967296 b).length<=35184372088788)(h0:b≠0):
  ∃q r,dX (can 4294967296 a) (can 4294967296 b)=some (q,r)/\yU q/\vl q=a/b/\yU r/\vl r=a%b/\q.length<=35184372088789/\r.length<=35184372088789:=by
 unfold dX;rw[gK a b (by omega) (by omega)];simp only[bR];by_cases hlt:a<b
 ·rw[qz hlt];simp only[show decide ((-1:Int)<0)=true by decide,gZ];rw[qD _ (by omega)];refine⟨_,_,Y,⟨by simp,by simp⟩,?_,eF (by omega),?_,by simp,by omega⟩
  ·rw[Nat.div_eq_of_lt hlt];rfl
  rw[dx,Nat.mod_eq_of_lt hlt]
 rw[AN,show decide (a<b)=false by simp[hlt]];simp only[iG];by_cases h2:a<18446744073709551616
 ·rw[show decide (((can 4294967296 a).length:Int)<=2)=true by rw[decide_eq_true_eq];exact ee.2 h2];have Eu:b<18446744073709551616:=by omega
  simp only[gZ];have l1:=low_eq (can 4294967296 a) (λ_ hx=>gx (by decide) hx) (by have:=ee.2 h2;omega);have l2:=low_eq (can 4294967296 b) (λ_ hx=>gx (by decide) hx) (by have:=ee.2 Eu;omega);rw[dx]at l1 l2;rw[l1,bR,l2,bR,yN h0 h2,bR,k7 _ _ (Nat.lt_of_le_of_lt (Nat.div_le_self _ _) h2),bR,ua h0,bR,k7 _ _ (Nat.lt_of_le_of_lt (Nat.mod_le _ _) h2),bR];have hq:a/b<18446744073709551616:=Nat.lt_of_le_of_lt (Nat.div_le_self _ _) h2;have hr:a%b<18446744073709551616:=Nat.lt_of_le_of_lt (Nat.mod_le _ _) h2;have c1:=ee.2 hq;have c2:=ee.2 hr;exact⟨_,_,Y,eF (by omega),dx _,eF (by omega),dx _,by show(can _ _).length<=_;omega,by show(can _ _).length<=_;omega⟩
 rw[show decide (((can 4294967296 a).length:Int)<=2)=false by rw[decide_eq_false_iff_not];exact λh=>h2 (ee.1 h)];simp only[iG];have sg:(can 4294967296 b).length≠0:=λh=>h0 (k8.1 h);by_cases h1:b<4294967296
 ·have h1':=iC.2 h1;rw[show decide (((can 4294967296 b).length:Int)=1)=true by simp;omega,gZ];have hg:(can 4294967296 b)[0]? =some b:=by rw[yQ (by decide) (by omega)];simp;exact h1
  rw[qD _ (by omega),bR,nH hg,bR,Nat.mod_eq_of_lt (b:=18446744073709551616) (by omega),AI _ _ (eF (by omega)) (by omega) (by omega),bR,dx];simp only[];rw[kX (by rw[bw]),bR];have hm:a%b<b:=Nat.mod_lt _ (by omega);rw[Nat.mod_eq_of_lt (a:=a%b) (by omega)];refine⟨_,_,Y,⟨λx hx=>jq (by decide) _ _ _ hx,by rw[bw];omega⟩,?_,⟨?_,by simp⟩,?_,by rw[bw];omega,by simp⟩
  ·show val _ _=_;rw[iB,Nat.mod_eq_of_lt (Nat.lt_of_le_of_lt (Nat.div_le_self _ _) (cU (by decide) a))]
  ·intro x hx;simp at hx;omega
  simp[vl,val]
 have h1':¬(((can 4294967296 b).length:Int)<=1):=λh=>h1 (iC.1 h);rw[show decide (((can 4294967296 b).length:Int)=1)=false by simp;omega,iG];obtain⟨n,hn⟩:∃n,(can 4294967296 b).length=n+2:=⟨(can 4294967296 b).length-2,by omega⟩;have hl:(can 4294967296 b).length<=(can 4294967296 a).length:=(cD (by decide)).2 (Nat.lt_of_le_of_lt (by omega) (cU (by decide) a));obtain⟨l,x,hx,he⟩:=AA (B:=4294967296) (by decide) h0;have BW:(can 4294967296 b)[n+1]? ≠some 0:=by
  have:l.length=n+1:=by rw[he]at hn;simp at hn;omega
  rw[he,<-this];simp;exact hx
 rw[BX _ _ (eF (by omega)) (eF (by omega)) hn hl BW,bR,dx,dx];have hbp:0<b:=by omega
 have e1:a<4294967296^(can 4294967296 a).length:=cU (by decide) a;have e2:b<4294967296^(can 4294967296 b).length:=cU (by decide) b;have e3:4294967296^(n+1)<=b:=ot (by decide) (by omega);refine⟨_,_,Y,⟨λx hx=>jq (by decide) _ _ _ hx,by rw[bw];omega⟩,?_,⟨λx hx=>jq (by decide) _ _ _ hx,by rw[bw];omega⟩,?_,by rw[bw];omega,by rw[bw];omega⟩
 ·show val _ _=_;rw[iB,Nat.mod_eq_of_lt];rw[Nat.div_lt_iff_lt_mul hbp];have:4294967296^((can 4294967296 a).length-(can 4294967296 b).length+1)*4294967296^(n+1)=4294967296^(can 4294967296 a).length:=by rw[<-Nat.pow_add];congr 1;omega
  calc a<4294967296^((can 4294967296 a).length-(can 4294967296 b).length+1)*4294967296^(n+1):=by rw[this];exact e1
   _<=_:=Nat.mul_le_mul_left _ e3
 show val _ _=_;rw[iB,Nat.mod_eq_of_lt (Nat.lt_trans (Nat.mod_lt _ hbp) e2)]
end
section
open Go.Fw
theorem ef{x:Int}(h1: -9223372036854775808<=x)(h2:x<=9223372036854775807):bn x=some (zn x):=by
 unfold bn;simp only[bR,cY];by_cases hx:x<0
 ·have e:(x%18446744073709551616).toNat=18446744073709551616-x.natAbs:=by omega
  rw[show decide (x<0)=true by simp[hx],gZ,e,tY (by omega) (by omega),show 18446744073709551616+0-(18446744073709551616-x.natAbs)=x.natAbs by omega,k7 _ _ (by omega),bR,kD,show sv true x.natAbs=x by simp[sv];omega]
 have e:(x%18446744073709551616).toNat=x.natAbs:=by omega
 rw[show decide (x<0)=false by simp[hx],iG,e,k7 _ _ (by omega),bR,kD,show sv false x.natAbs=x by simp[sv];omega]
def dH(i:Int):Prop:=-9223372036854775808<=i/\i<=9223372036854775807
instance(i:Int):Decidable (dH i):=by unfold dH;infer_instance
def nm(i:Int):Int×Bool:=if dH i then(i,true)else(0,false)
theorem jQ{z:Zr}(h:Wl z):cE z=some (nm (zi z)):=by
 obtain⟨n,w⟩:=z;unfold cE;have ht:=h.trim;have Zs:vl w<18446744073709551616->cM (can 4294967296 (vl w))=some (vl w):=λh2=>by
  rw[low_eq _ (λ_ hx=>gx (by decide) hx) (by have:=ee.2 h2;omega),dx]
 show(bh w).bind _=some (nm (sv n (vl w)));rw[show bh w=some (can 4294967296 (vl w))from ht];simp only[bR];generalize vl w=v at*;by_cases h2:v<18446744073709551616
 ·have:=ee.2 h2;rw[show decide ((2:Int)<((can 4294967296 v).length:Int))=false by simp;omega,iG,Zs h2,bR];cases n
  ·rw[iG,jP];by_cases h3:v<9223372036854775808
   ·rw[show decide (9223372036854775808<=v)=false by simp;omega,iG,lT (by omega),nm,if_pos (by unfold dH;omega)]
   rw[show decide (9223372036854775808<=v)=true by simp;omega,gZ,nm,if_neg (by unfold dH;omega)]
  rw[gZ,show sv true v=-(v:Int)from rfl];by_cases h3:9223372036854775808<v
  ·rw[show decide (9223372036854775808<v)=true by simp;omega,gZ,nm,if_neg (by unfold dH;omega)]
  rw[show decide (9223372036854775808<v)=false by simp;omega,iG,nm,if_pos (by unfold dH;omega)];by_cases h0:v=0
  ·subst h0;rfl
  rw[tY (by omega) (by omega)];rw[show IntKind.i64.wrap ((18446744073709551616+0-v:Nat):Int)=-(v:Int) by
   rw[IntKind.wrap];simp[IntKind.signed,IntKind.bits];omega]
 have:¬(((can 4294967296 v).length:Int)<=2):=λh=>h2 (ee.1 h);rw[show decide ((2:Int)<((can 4294967296 v).length:Int))=true by simp;omega,gZ,nm,if_neg (by unfold dH;cases n<;>simp[sv]<;>omega)]
theorem GF{z:Zr}(h:Wx z):cr z=some (zi z).sign:=by
 obtain⟨n,w⟩:=z;unfold cr;show(bh w).bind _=some (sv n (vl w)).sign;rw[show bh w=some (can 4294967296 (vl w))from h.trim];simp only[bR];generalize vl w=v;by_cases h0:v=0
 ·subst h0;cases n<;>rfl
 have:(can 4294967296 v).length≠0:=λh=>h0 (k8.1 h);rw[show decide (((can 4294967296 v).length:Int)=0)=false by simp;intro e;rw[e]at this;exact this Y,iG];cases n
 ·rw[iG,jP,Int.sign_eq_one_of_pos (by omega)]
 rw[gZ,show sv true v=-(v:Int)from Y,Int.sign_eq_neg_one_of_neg (by omega)]
def lZ(i j:Int):Int:=if i<j then-1 else if i=j then 0 else 1
theorem jB{i j:Int}(h:i<j):lZ i j=-1:=by simp[lZ,h]
theorem jC{i j:Int}(h:j<i):lZ i j=1:=by
 have h1:¬i<j:=by omega
 have h2:¬i=j:=by omega
 simp[lZ,h1,h2]
theorem rP(i:Int):lZ i i=0:=by simp[lZ]
theorem AO(v w:Nat):wG v w=lZ (v:Int) (w:Int):=by
 rcases Nat.lt_trichotomy v w with h|h|h
 ·rw[qz h,jB (by omega)]
 ·rw[h,yT,rP]
 rw[ud h,jC (by omega)]
theorem GG(i j:Int):lZ (-i) (-j)=lZ j i:=by
 rcases Int.lt_trichotomy i j with h|h|h
 ·rw[jC h,jC (by omega)]
 ·rw[h,rP,rP]
 rw[jB h,jB (by omega)]
theorem sign_eq{z:Zr}(h:Wl z):cr z=some (zi z).sign:=GF h.x
theorem TG{x y:Zr}(hx:Wx x)(hy:Wx y):jg x y=some (lZ (zi x) (zi y)):=by
 obtain⟨n,w⟩:=x;obtain⟨m,u⟩:=y;unfold jg;show(cr ⟨n,w⟩).bind _=_;rw[GF hx,bR];show(cr ⟨m,u⟩).bind _=_;rw[GF hy,bR,show bh w=some (can 4294967296 (vl w))from hx.trim,show bh u=some (can 4294967296 (vl u))from hy.trim];simp only[bR];rw[gK _ _ hx.cl hy.cl,gK _ _ hy.cl hx.cl];simp only[bR];rw[show zi ⟨n,w⟩=sv n (vl w)from Y,show zi ⟨m,u⟩=sv m (vl u)from rfl];generalize vl w=a;generalize vl u=b;rw[AO,AO];obtain⟨i,hi⟩:∃i,sv n a=i:=⟨_,Y⟩;obtain⟨j,hj⟩:∃j,sv m b=j:=⟨_,Y⟩;have NC:(i<0->i=-(a:Int))/\(0<=i->i=a):=by rw[<-hi];cases n<;>simp[sv]<;>omega
 have Zt:(j<0->j=-(b:Int))/\(0<=j->j=b):=by rw[<-hj];cases m<;>simp[sv]<;>omega
 rw[hi,hj];rcases Int.lt_trichotomy i 0 with h1|h1|h1<;>rcases Int.lt_trichotomy j 0 with h2|h2|h2
 ·rw[Int.sign_eq_neg_one_of_neg h1,Int.sign_eq_neg_one_of_neg h2,NC.1 h1,Zt.1 h2,GG];rfl
 ·rw[Int.sign_eq_neg_one_of_neg h1,show Int.sign j=0 by rw[h2];rfl,show lZ i j=-1 from jB (by omega)];rfl
 ·rw[Int.sign_eq_neg_one_of_neg h1,Int.sign_eq_one_of_pos h2,show lZ i j=-1 from jB (by omega)];rfl
 ·rw[show Int.sign i=0 by rw[h1];rfl,Int.sign_eq_neg_one_of_neg h2,show lZ i j=1 from jC (by omega)];rfl
 ·rw[show Int.sign i=0 by rw[h1];rfl,show Int.sign j=0 by rw[h2];rfl,<-NC.2 (by omega),<-Zt.2 (by omega)];rfl
 ·rw[show Int.sign i=0 by rw[h1];rfl,Int.sign_eq_one_of_pos h2,show lZ i j=-1 from jB (by omega)];rfl
 ·rw[Int.sign_eq_one_of_pos h1,Int.sign_eq_neg_one_of_neg h2,show lZ i j=1 from jC (by omega)];rfl
 ·rw[Int.sign_eq_one_of_pos h1,show Int.sign j=0 by rw[h2];rfl,show lZ i j=1 from jC (by omega)];rfl
 rw[Int.sign_eq_one_of_pos h1,Int.sign_eq_one_of_pos h2,<-NC.2 (by omega),<-Zt.2 (by omega)];rfl
theorem neg_eq{x:Zr}(hx:Wl x):dU x=some (zn (-zi x)):=by
 obtain⟨n,w⟩:=x;unfold dU;have hc:(can 4294967296 (vl w)).length<=35184372088788:=hx.cl;simp only[bR];rw[show bh w=some (can 4294967296 (vl w))from hx.trim,bR,qD _ (by omega),bR,gE _ _ (eF (by omega)).x,bR,dx,kD,yY];rfl
end
section
open Go.Fw
theorem qE(n m:Bool)(a b:Nat)(ha:(can 4294967296 a).length<=35184372088788)(hb:(can 4294967296 b).length<=35184372088788):
  cq n (can 4294967296 a) m (can 4294967296 b)=some (zn (sv n a+sv m b)):=by
 have la:=cU (B:=4294967296) (by decide) a;have lb:=cU (B:=4294967296) (by decide) b;unfold cq;simp only[bR];by_cases hnm:n=m
 ·subst hnm;rw[show(n==n)=true by simp,gZ,sK _ _ (eF (by omega)) (eF (by omega)),bR,dx,dx,gE _ _ ⟨λx hx=>jq (by decide) _ _ _ hx,by rw[bw];omega⟩,bR];have hv:vl (dQ 4294967296 (max (can 4294967296 a).length (can 4294967296 b).length+1) (a+b))=a+b:=by
   show val _ _=_;rw[iB,Nat.mod_eq_of_lt];have h1:a<4294967296^(max (can 4294967296 a).length (can 4294967296 b).length):=Nat.lt_of_lt_of_le la (Nat.pow_le_pow_right (by decide) (by omega));have h2:b<4294967296^(max (can 4294967296 a).length (can 4294967296 b).length):=Nat.lt_of_lt_of_le lb (Nat.pow_le_pow_right (by decide) (by omega));rw[Nat.pow_succ];omega
  rw[hv,kD,show sv n (a+b)=sv n a+sv n b by cases n<;>simp[sv];omega]
 rw[show(n==m)=false by simp[hnm],iG,gK _ _ (by omega) (by omega),bR,AN];have hm:m= !n:=by cases n<;>cases m<;>simp_all
 subst hm;have hv:∀c d,d<=c->(can 4294967296 c).length<=35184372088788->cf (can 4294967296 c) (can 4294967296 d)=some (dQ 4294967296 (can 4294967296 c).length (c-d))/\vl (dQ 4294967296 (can 4294967296 c).length (c-d))=c-d:=by
  intro c d hdc qV;have lc:=cU (B:=4294967296) (by decide) c;have Zu:(can 4294967296 d).length<=(can 4294967296 c).length:=(cD (by decide)).2 (by omega);constructor
  ·rw[sL _ _ (eF (by omega)) (eF (by omega)) Zu (by rw[dx,dx];exact hdc),dx,dx]
  show val _ _=_;rw[iB,Nat.mod_eq_of_lt (by omega)]
 by_cases hlt:a<b
 ·obtain⟨h1,h2⟩:=hv b a (by omega) hb;rw[show decide (a<b)=true by simp[hlt],gZ,h1,bR,gE _ _ ⟨λx hx=>jq (by decide) _ _ _ hx,by rw[bw];omega⟩,bR,h2,kD,show sv (!n) (b-a)=sv n a+sv (!n) b by cases n<;>simp[sv]<;>omega]
 obtain⟨h1,h2⟩:=hv a b (by omega) ha;rw[show decide (a<b)=false by simp[hlt],iG,h1,bR,gE _ _ ⟨λx hx=>jq (by decide) _ _ _ hx,by rw[bw];omega⟩,bR,h2,kD,show sv n (a-b)=sv n a+sv (!n) b by cases n<;>simp[sv]<;>omega]
theorem C1(v:BitVec 64):IntKind.i64.wrap (v.toNat:Int)=v.toInt:=by
 rw[BitVec.toInt_eq_toNat_cond];have:=v.isLt;rw[show(2:Nat)^64=18446744073709551616 by decide]at this⊢;split
 ·rw[lT (by omega)]
 rw[IntKind.wrap];simp[IntKind.signed,IntKind.bits];omega
theorem C2(v:BitVec 64):BitVec.ofInt 64 (IntKind.i64.wrap (v.toNat:Int))=v:=by rw[C1,BitVec.ofInt_toInt]
theorem rQ{x:Int}(h:dH x):(BitVec.ofInt 64 x).msb=decide (x<0):=by
 rw[BitVec.msb_eq_toInt,BitVec.toInt_ofInt];unfold dH at h;have:x.bmod (2^64)=x:=by
  rw[Int.bmod_def];simp only[show((2^64:Nat):Int)=18446744073709551616 by decide];split<;>omega
 rw[this]
theorem xF(v:BitVec 64):decide ((0:Int)<=IntKind.i64.wrap (v.toNat:Int))= !v.msb:=by
 rw[C1,BitVec.msb_eq_toInt];by_cases h:v.toInt<0
 ·simp[h]
 simp[h];omega
theorem lf(x:Int):dH (IntKind.i64.wrap x):=by
 unfold dH;rw[IntKind.wrap];simp[IntKind.signed,IntKind.bits];split<;>omega
theorem vE{α:Type}(b:Bool)(x:α):(bif b then x else x)=x:=by cases b<;>rfl
theorem fG{i:Int}(h:dH i):nm i=(i,true):=if_pos h
theorem jR{i:Int}(h:¬dH i):nm i=(0,false):=if_neg h
theorem add_eq{x y:Zr}(hx:Wl x)(hy:Wl y):dg x y=some (zn (zi x+zi y)):=by
 obtain⟨n,w⟩:=x;obtain⟨m,u⟩:=y;unfold dg;simp only[jQ hx,jQ hy,bR,cY];have hK:((bh w).bind λv5=>(bh u).bind λuP=>(cq n v5 m uP).bind λx=>some x)=some (zn (zi ⟨n,w⟩+zi ⟨m,u⟩)):=by
  rw[show bh w=some (can 4294967296 (vl w))from hx.trim,show bh u=some (can 4294967296 (vl u))from hy.trim,bR,bR,qE _ _ _ _ hx.cl hy.cl,bR];rfl
 have Zv:((bh w).bind λv5=>(bh u).bind λuP=>(cq n v5 m uP).bind λx=>some ⟨x.neg,x.w⟩)=some (zn (zi ⟨n,w⟩+zi ⟨m,u⟩)):=hK;rw[Zv];generalize zi ⟨n,w⟩=i;generalize zi ⟨m,u⟩=j;by_cases h1:dH i
 ·by_cases h2:dH j
  ·rw[fG h1,fG h2,gZ,bR,gZ,C2,C2,xF,BitVec.msb_and,BitVec.msb_xor,BitVec.msb_xor,rQ h1,rQ h2,rQ (lf _),ef (lf _).1 (lf _).2,bR];by_cases hr:dH (i+j)
   ·rw[eJ hr.1 hr.2];exact vE _ _
   have:(!((decide (i<0)^^decide (IntKind.i64.wrap (i+j)<0))&&(decide (j<0)^^decide (IntKind.i64.wrap (i+j)<0))))=false:=by
    unfold dH at*;by_cases hs:i<0
    ·have e:IntKind.i64.wrap (i+j)=i+j+18446744073709551616:=by rw[IntKind.wrap];simp[IntKind.signed,IntKind.bits];omega
     rw[e,show decide (i<0)=true by simp[hs],show decide (j<0)=true by simp;omega,show decide (i+j+18446744073709551616<0)=false by simp;omega];rfl
    have e:IntKind.i64.wrap (i+j)=i+j-18446744073709551616:=by rw[IntKind.wrap];simp[IntKind.signed,IntKind.bits];omega
    rw[e,show decide (i<0)=false by simp[hs],show decide (j<0)=false by simp;omega,show decide (i+j-18446744073709551616<0)=true by simp;omega];rfl
   rw[this,iG]
  rw[fG h1,jR h2,gZ,bR,iG]
 rw[jR h1,iG,bR,iG]
theorem sub_eq{x y:Zr}(hx:Wl x)(hy:Wl y):fX x y=some (zn (zi x-zi y)):=by
 obtain⟨n,w⟩:=x;obtain⟨m,u⟩:=y;unfold fX;simp only[jQ hx,jQ hy,bR,cY];have Zv:((bh w).bind λv5=>(bh u).bind λuP=>(cq n v5 (!m) uP).bind λx=>some ⟨x.neg,x.w⟩)=some (zn (zi ⟨n,w⟩-zi ⟨m,u⟩)):=by
  rw[show bh w=some (can 4294967296 (vl w))from hx.trim,show bh u=some (can 4294967296 (vl u))from hy.trim,bR,bR,qE _ _ _ _ hx.cl hy.cl,bR,yY,<-Int.sub_eq_add_neg];rfl
 rw[Zv];generalize zi ⟨n,w⟩=i;generalize zi ⟨m,u⟩=j;by_cases h1:dH i
 ·by_cases h2:dH j
  ·rw[fG h1,fG h2,gZ,bR,gZ,C2,C2,xF,BitVec.msb_and,BitVec.msb_xor,BitVec.msb_xor,rQ h1,rQ h2,rQ (lf _),ef (lf _).1 (lf _).2,bR];by_cases hr:dH (i-j)
   ·rw[eJ hr.1 hr.2];exact vE _ _
   have:(!((decide (i<0)^^decide (j<0))&&(decide (i<0)^^decide (IntKind.i64.wrap (i-j)<0))))=false:=by
    unfold dH at*;by_cases hs:i<0
    ·have e:IntKind.i64.wrap (i-j)=i-j+18446744073709551616:=by rw[IntKind.wrap];simp[IntKind.signed,IntKind.bits];omega
     rw[e,show decide (i<0)=true by simp[hs],show decide (j<0)=false by simp;omega,show decide (i-j+18446744073709551616<0)=false by simp;omega];rfl
    have e:IntKind.i64.wrap (i-j)=i-j-18446744073709551616:=by rw[IntKind.wrap];simp[IntKind.signed,IntKind.bits];omega
    rw[e,show decide (i<0)=false by simp[hs],show decide (j<0)=true by simp;omega,show decide (i-j-18446744073709551616<0)=true by simp;omega];rfl
   rw[this,iG]
  rw[fG h1,jR h2,gZ,bR,iG]
 rw[jR h1,iG,bR,iG]
theorem GH(n m:Bool)(a b:Nat):sv (!(n==m)) (a*b)=sv n a*sv m b:=by
 cases n<;>cases m<;>simp[sv,Int.neg_mul,Int.mul_neg]
theorem mul_eq{x y:Zr}(hx:Wl x)(hy:Wl y):cV x y=some (zn (zi x*zi y)):=by
 obtain⟨n,w⟩:=x;obtain⟨m,u⟩:=y;unfold cV;have Vy:(can 4294967296 (vl w)).length<=35184372088788:=hx.cl;have TH:(can 4294967296 (vl u)).length<=35184372088788:=hy.cl;simp only[];rw[show bh w=some (can 4294967296 (vl w))from hx.trim,show bh u=some (can 4294967296 (vl u))from hy.trim,bR,bR,show zi ⟨n,w⟩=sv n (vl w)from Y,show zi ⟨m,u⟩=sv m (vl u)from rfl];simp only[bR,cY];generalize vl w=a at*;generalize vl u=b at*;have la:=cU (B:=4294967296) (by decide) a;have lb:=cU (B:=4294967296) (by decide) b;have hK:((dW (can 4294967296 a) (can 4294967296 b)).bind λnZ=>(bL (!(n==m)) nZ).bind λx=>some ⟨x.neg,x.w⟩)=some (zn (sv n a*sv m b)):=by
  rw[AH _ _ (eF (by omega)) (eF (by omega)),bR,dx,dx,gE _ _ ⟨λx hx=>jq (by decide) _ _ _ hx,by rw[bw];omega⟩,bR,kD];have hv:vl (dQ 4294967296 ((can 4294967296 a).length+(can 4294967296 b).length) (a*b))=a*b:=by
   show val _ _=_;rw[iB,Nat.mod_eq_of_lt];rw[Nat.pow_add];exact Nat.mul_lt_mul'' la lb
  rw[hv,GH]
 rw[hK];by_cases h1:a<4294967296
 ·by_cases h2:b<4294967296
  ·have l1:=low_eq (can 4294967296 a) (λ_ hx=>gx (by decide) hx) (by have:=iC.2 h1;omega);have l2:=low_eq (can 4294967296 b) (λ_ hx=>gx (by decide) hx) (by have:=iC.2 h2;omega);rw[dx]at l1 l2;have hlt:a*b<18446744073709551616:=Nat.mul_lt_mul'' h1 h2;rw[show decide (((can 4294967296 a).length:Int)<=1)=true by rw[decide_eq_true_eq];exact iC.2 h1,gZ,bR,show decide (((can 4294967296 b).length:Int)<=1)=true by rw[decide_eq_true_eq];exact iC.2 h2,gZ,l1,l2,bR,bR,Nat.mod_eq_of_lt hlt,k7 _ _ hlt,bR,kD,GH]
  rw[show decide (((can 4294967296 a).length:Int)<=1)=true by rw[decide_eq_true_eq];exact iC.2 h1,gZ,bR,show decide (((can 4294967296 b).length:Int)<=1)=false by rw[decide_eq_false_iff_not];exact λh=>h2 (iC.1 h),iG]
 rw[show decide (((can 4294967296 a).length:Int)<=1)=false by rw[decide_eq_false_iff_not];exact λh=>h1 (iC.1 h),iG,bR,iG]
end
section
open Go.Fw
theorem No(n m:Bool){a b:Nat}(hb:0<b):
  sv n a/sv m b=(if n=true/\0<a%b then sv (!(n==m)) (a/b+1)else sv (!(n==m)) (a/b))/\
  sv n a%sv m b=(if n=true/\0<a%b then((b-a%b:Nat):Int)else((a%b:Nat):Int)):=by
 have hd:=Nat.div_add_mod a b;have hm:=Nat.mod_lt a hb
 revert hd hm
 generalize a/b=q;generalize a%b=r;intro hd hm;have hd':(b:Int)*q+r=a:=by exact_mod_cast hd
 have pos:∀n,sv n a/(b:Int)=(if n=true/\0<r then sv n (q+1)else sv n q)/\sv n a%(b:Int)=(if n=true/\0<r then((b-r:Nat):Int)else(r:Int)):=by
  intro n;apply(Int.ediv_emod_unique (by omega)).2;cases n
  ·simp[sv];omega
  by_cases hr:0<r
  ·simp only[hr,and_self,if_true,sv,cond_true];have:(b:Int)* -((q+1:Nat):Int)=-((b:Int)*q)-b:=by
    rw[Int.mul_neg,Int.natCast_add,Int.mul_add];simp;omega
   rw[this];omega
  have:r=0:=by omega
  subst this;simp[sv,Int.mul_neg];omega
 cases m
 ·have:=pos n;rw[jP,show(!(n==false))=n by cases n<;>rfl];exact this
 have:=pos n;rw[show sv true b=-(b:Int)from rfl,Int.ediv_neg,Int.emod_neg,this.1,this.2,show(!(n==true))= !n by cases n<;>rfl,yY,yY];refine⟨?_,Y⟩;split<;>rfl
theorem Np{a b:Nat}(hba:b<=a)(qV:(can 4294967296 a).length<=35184372088788):cf (can 4294967296 a) (can 4294967296 b)=some (dQ 4294967296 (can 4294967296 a).length (a-b))/\vl (dQ 4294967296 (can 4294967296 a).length (a-b))=a-b:=by
 have lc:=cU (B:=4294967296) (by decide) a;have Zu:(can 4294967296 b).length<=(can 4294967296 a).length:=(cD (by decide)).2 (by omega);constructor
 ·rw[sL _ _ (eF (by omega)) (eF (by omega)) Zu (by rw[dx,dx];exact hba),dx,dx]
 show val _ _=_;rw[iB,Nat.mod_eq_of_lt (by omega)]
def GI(i j:Int):Zr×Zr×Int:=if j=0 then(⟨false,[]⟩,⟨false,[]⟩,7)else(zn (i/j),zn (i%j),0)
theorem divMod_eq{x y:Zr}(hx:Wl x)(hy:Wl y):b8 x y=some (GI (zi x) (zi y)):=by
 obtain⟨n,w⟩:=x;obtain⟨m,u⟩:=y;unfold b8;have Vy:(can 4294967296 (vl w)).length<=35184372088788:=hx.cl;have TH:(can 4294967296 (vl u)).length<=35184372088788:=hy.cl;simp only[];rw[show bh w=some (can 4294967296 (vl w))from hx.trim,show bh u=some (can 4294967296 (vl u))from hy.trim,bR,bR,show zi ⟨n,w⟩=sv n (vl w)from Y,show zi ⟨m,u⟩=sv m (vl u)from rfl];simp only[bR,cY];generalize vl w=a at*;generalize vl u=b at*;by_cases h0:b=0
 ·subst h0;rw[show sv m 0=0 by cases m<;>rfl];rfl
 have sg:(can 4294967296 b).length≠0:=λh=>h0 (k8.1 h);rw[show decide (((can 4294967296 b).length:Int)=0)=false by simp;intro e;rw[e]at sg;exact sg Y,iG];obtain⟨q,r,Zw,Vz,VA,D6,G0,hq3,hr3⟩:=sM a b Vy TH h0;have hm:a%b<b:=Nat.mod_lt _ (by omega);obtain⟨e1,e2⟩:=No n m (a:=a) (show 0<b by omega);have hj:sv m b≠0:=by cases m<;>simp[sv]<;>omega
 rw[Zw,bR];simp only[];rw[qA r (by have:=D6.2;omega),jO (by decide) D6.1,show val 4294967296 r=a%b from G0,bR,GI,if_neg hj,e1,e2];have hrl:(can 4294967296 (a%b)).length<=(can 4294967296 b).length:=(cD (by decide)).2 (Nat.lt_trans hm (cU (by decide) b));have hK:∀c:Bool,(decide (n=true/\0<a%b)=c)->(bif c then(dm q [1]).bind λnZ=>(cf (can 4294967296 b) (can 4294967296 (a%b))).bind λqL=>(bL (!(n==m)) nZ).bind λx=>(bL false qL).bind λx_1=>some ((⟨x.neg,x.w⟩:Zr),(⟨x_1.neg,x_1.w⟩:Zr),(0:Int))
   else(bL (!(n==m)) q).bind λx=>(bL false (can 4294967296 (a%b))).bind λx_1=>some ((⟨x.neg,x.w⟩:Zr),(⟨x_1.neg,x_1.w⟩:Zr),(0:Int)))=
   some (zn (if n=true/\0<a%b then sv (!(n==m)) (a/b+1)else sv (!(n==m)) (a/b)),zn (if n=true/\0<a%b then((b-a%b:Nat):Int)else((a%b:Nat):Int)),0):=by
  intro c hc;cases c
  ·have TI:=of_decide_eq_false hc;rw[iG,if_neg TI,if_neg TI,gE _ _ Vz.x,bR,gE _ _ (eF (by omega)).x,bR,dx,VA,kD,kD,jP]
  have TI:=of_decide_eq_true hc;obtain⟨s1,s2⟩:=Np (a:=b) (b:=a%b) (by omega) TH;have w1:yU [1]:=⟨by simp,by simp⟩;rw[gZ,if_pos TI,if_pos TI,sK _ _ Vz w1,bR,s1,bR,gE _ _ ⟨λx hx=>jq (by decide) _ _ _ hx,by rw[bw];simp;omega⟩,bR,gE _ _ ⟨λx hx=>jq (by decide) _ _ _ hx,by rw[bw];omega⟩,bR,s2,kD,kD,jP];have:vl (dQ 4294967296 (max q.length [1].length+1) (vl q+vl [1]))=a/b+1:=by
   show val _ _=_;rw[iB,show vl [1]=1 by decide,VA,Nat.mod_eq_of_lt];have h1:vl q<4294967296^q.length:=fC q Vz.1;rw[VA]at h1;have h2:4294967296^q.length<=4294967296^(max q.length [1].length):=Nat.pow_le_pow_right (by decide) (by omega);have h3:0<4294967296^(max q.length [1].length):=Nat.pow_pos (by decide);rw[Nat.pow_succ];omega
  rw[this]
 have hz:(0<(can 4294967296 (a%b)).length)↔0<a%b:=by
  have:=k8 (v:=a%b);omega
 cases n
 ·rw[iG,bR];exact hK false (by simp)
 rw[gZ,bR];refine hK _ ?_;simp only[true_and];by_cases h:0<a%b
 ·simp[h,hz.2 h]
 have h':¬0<(can 4294967296 (a%b)).length:=λe=>h (hz.1 e);have h'':¬((0:Int)<((can 4294967296 (a%b)).length:Int)):=by omega
 simp only[h,h'',decide_false]
theorem Nq{x y:Zr}(hx:Wl x)(hy:Wl y):gY x y=some (zn (Int.gcd (zi x) (zi y):Int)):=by
 obtain⟨n,w⟩:=x;obtain⟨m,u⟩:=y;unfold gY;have Vy:(can 4294967296 (vl w)).length<=35184372088788:=hx.cl;have TH:(can 4294967296 (vl u)).length<=35184372088788:=hy.cl;simp only[];rw[show bh w=some (can 4294967296 (vl w))from hx.trim,show bh u=some (can 4294967296 (vl u))from hy.trim,bR,bR,Int.gcd,yX,yX];show _=some (zn ((Nat.gcd (vl w) (vl u):Nat):Int));generalize vl w=a at*;generalize vl u=b at*;refine kY (λs=>∃c d,s=(can 4294967296 c,can 4294967296 d)/\Nat.gcd c d=Nat.gcd a b/\(can 4294967296 c).length<=35184372088788/\(can 4294967296 d).length<=35184372088788)
  (λs=>∃c d,s=(can 4294967296 c,can 4294967296 d)/\Nat.gcd c d=Nat.gcd a b/\(can 4294967296 c).length<=35184372088788/\(d=0\/(c<18446744073709551616/\d<18446744073709551616))) (λs=>vl s.2) ?_ ⟨a,b,Y,Y,Vy,TH⟩ ?_
 ·rintro _ ⟨c,d,rfl,hg,hc,hd⟩;simp only[bR,cY];by_cases h0:d=0
  ·right;subst h0;exact⟨_,Y,c,0,Y,hg,hc,.inl Y⟩
  have sg:(can 4294967296 d).length≠0:=λh=>h0 (k8.1 h);rw[show decide ((0:Int)<((can 4294967296 d).length:Int))=true by simp;omega,gZ];by_cases h2:c<18446744073709551616/\d<18446744073709551616
  ·right;have c1:=ee.2 h2.1;have c2:=ee.2 h2.2;rw[show decide ((2:Int)<((can 4294967296 c).length:Int))=false by simp;omega,iG,show decide ((2:Int)<((can 4294967296 d).length:Int))=false by simp;omega];exact⟨_,Y,c,d,Y,hg,hc,.inr h2⟩
  left;have hm:c%d<d:=Nat.mod_lt _ (by omega);obtain⟨q,r,Zw,Vz,VA,D6,G0,-,-⟩:=sM c d hc hd h0;have Ev:((bif decide ((2:Int)<((can 4294967296 c).length:Int))then some true else some (decide ((2:Int)<((can 4294967296 d).length:Int)))):Option Bool)=some true:=by
   by_cases zq:c<18446744073709551616
   ·have hd2:¬d<18446744073709551616:=λh=>h2 ⟨zq,h⟩;have:¬(((can 4294967296 d).length:Int)<=2):=λh=>hd2 (ee.1 h);rw[show decide ((2:Int)<((can 4294967296 d).length:Int))=true by simp;omega];exact vE _ _
   have:¬(((can 4294967296 c).length:Int)<=2):=λh=>zq (ee.1 h);rw[show decide ((2:Int)<((can 4294967296 c).length:Int))=true by simp;omega,gZ]
  rw[Ev,bR,bR,gZ,Zw,bR];simp only[];rw[qA r (by have:=D6.2;omega),jO (by decide) D6.1,show val 4294967296 r=c%d from G0,bR];refine⟨_,Y,⟨d,c%d,Y,?_,hd,?_⟩,?_⟩
  ·rw[<-hg,Nat.gcd_comm d,<-Nat.gcd_rec,Nat.gcd_comm]
  ·exact Nat.le_trans ((cD (by decide)).2 (Nat.lt_trans hm (cU (by decide) d))) hd
  simp only[dx];exact hm
 rintro _ ⟨c,d,rfl,hg,hc,GC⟩;simp only[bR];by_cases h0:d=0
 ·subst h0;rw[show decide (((can 4294967296 0).length:Int)=0)=true by simp[nk],gZ,qD _ (by omega),bR,gE _ _ (eF (by omega)).x,bR,dx,kD,jP,<-hg,Nat.gcd_zero_right]
 have h2:=GC.resolve_left h0;have sg:(can 4294967296 d).length≠0:=λh=>h0 (k8.1 h);have c1:=ee.2 h2.1;have c2:=ee.2 h2.2;rw[show decide (((can 4294967296 d).length:Int)=0)=false by simp;intro e;rw[e]at sg;exact sg Y,iG,low_eq _ (λ_ hx=>gx (by decide) hx) (by omega),bR,low_eq _ (λ_ hx=>gx (by decide) hx) (by omega),bR,dx,dx];refine kY (λs=>Nat.gcd s.1 s.2=Nat.gcd a b/\s.1<18446744073709551616/\s.2<18446744073709551616) (λe=>e=Nat.gcd a b/\e<18446744073709551616) (λs=>s.2) ?_ ⟨hg,h2.1,h2.2⟩ ?_
 ·rintro⟨s,t⟩ ⟨i1,i2,i3⟩;simp only at i1 i2 i3⊢;by_cases ht:0<t
  ·left;rw[show decide (0<t)=true by simp[ht],gZ,ua (by omega),bR];refine⟨_,Y,⟨?_,i3,?_⟩,Nat.mod_lt _ ht⟩
   ·rw[<-i1,Nat.gcd_comm t,<-Nat.gcd_rec,Nat.gcd_comm]
   exact Nat.lt_trans (Nat.mod_lt _ ht) i3
  right;rw[show decide (0<t)=false by simp[ht],iG];refine⟨_,Y,?_,i2⟩;rw[<-i1,show t=0 by omega,Nat.gcd_zero_right]
 rintro e ⟨rfl,he⟩;rw[k7 _ _ he,bR,kD,jP]
end
section
open Go.Fw
def zl(l:List Nat):List Int:=l.map (λ(n:Nat)=>(n:Int))
abbrev v16(l:List Nat):Nat:=val 65536 l
theorem IV{x y:Zr}(h:x.w.length<=9000000000000000000):∃b,dA x y=some b/\(b=true↔x=y):=by
 obtain⟨n,w⟩:=x;obtain⟨m,u⟩:=y;unfold dA;simp only[bR,cY];by_cases hnm:n=m
 ·subst hnm;rw[show(!(n==n))=false by simp,iG,bR];by_cases hl:w.length=u.length
  ·rw[show decide ((w.length:Int)≠(u.length:Int))=false by simp[hl],iG];refine jA (λy=>∃i:Nat,y=(i:Int)/\i<=w.length/\w.take i=u.take i) (λe=>(∃c,e=.inl c/\w=u)\/(e=.inr false/\w≠u)) (λy=>w.length-y.toNat) ?_ ⟨0,Y,by omega,Y⟩ ?_
   ·rintro _ ⟨i,rfl,hi,ht⟩;by_cases hlt:i<w.length
    ·have g1:w[i]? =some w[i]:=by simp
     have g2:u[i]? =some (u[i]'(by omega)):=by simp
     rw[show decide ((i:Int)<(w.length:Int))=true by simp[hlt],gZ,bq g1,bR,bq g2,bR];by_cases he:w[i]=u[i]'(by omega)
     ·left;rw[show decide (w[i]≠u[i]'(by omega))=false by simp[he],iG,cL (by simp at h;omega)];refine⟨_,Y,⟨i+1,Y,hlt,?_⟩,by omega⟩;rw[List.take_add_one,List.take_add_one,ht,g1,g2,he]
     right;rw[show decide (w[i]≠u[i]'(by omega))=true by simp[he],gZ];refine⟨_,Y,.inr ⟨Y,?_⟩⟩;rintro rfl;exact he rfl
    right;rw[show decide ((i:Int)<(w.length:Int))=false by simp;omega,iG];refine⟨_,Y,.inl ⟨_,Y,?_⟩⟩;rw[List.take_of_length_le (by omega),List.take_of_length_le (by omega)]at ht;exact ht
   rintro e (⟨c,rfl,he⟩|⟨rfl,he⟩)
   ·exact⟨true,Y,by simp[he]⟩
   exact⟨false,Y,by simp[he]⟩
  rw[show decide ((w.length:Int)≠(u.length:Int))=true by simp;omega,gZ];refine⟨_,Y,?_⟩;simp only[Bool.false_eq_true,false_iff];intro e;have:w=u:=congrArg Zr.w e;exact hl (by rw[this])
 rw[show(!(n==m))=true by simp[hnm],gZ,bR,gZ];refine⟨_,Y,?_⟩;simp only[Bool.false_eq_true,false_iff];intro e;exact hnm (congrArg Zr.neg e)
theorem rR{x:Zr}(h:x.w.length<=9000000000000000000):dA x x=some true:=by
 obtain⟨b,h1,h2⟩:=IV (y:=x) h;rw[h1,h2.2 rfl]
end
section
open Go.Fw
theorem zeta'(z:Zr):(⟨z.neg,z.w⟩:Zr)=z:=by cases z;rfl
theorem rS{i:Int}(h:dH i):Fit 2 i:=Fit.i64 h.1 h.2
theorem AP{i:Int}(h:dH i):Wl (zn i):=ec (rS h) (by decide)
end
section
open Go.Fw
abbrev OkZ(z:Zr):Prop:=True/\(z.w.length*4<=140737488351232/\∀x∈z.w,x<4294967296)
end
section
open Go.Fw
def qd(q:Qr):Int:=if zi q.den=0 then 1 else zi q.den
def qv(q:Qr):Rat:=Rat.divInt (zi q.num) (qd q)
def qn(r:Rat):Qr:=⟨zn r.num,if r.den=1 then⟨false,[]⟩else zn (r.den:Int)⟩
def FQ(L:Nat)(r:Rat):Prop:=Fit L r.num/\Fit L (r.den:Int)
structure jT (L:Nat) (q:Qr) (r:Rat):Prop where
 n:∀x∈q.num.w,x<4294967296
 d:∀x∈q.den.w,x<4294967296
 ln:q.num.w.length<=L
 ld:q.den.w.length<=L
 l1:1<=L
 v:qv q=r
theorem TJ(q:Qr):qd q≠0:=by
 unfold qd;by_cases h:zi q.den=0
 ·rw[if_pos h];decide
 rw[if_neg h];exact h
theorem TK(r:Rat):qv (qn r)=r:=by
 unfold qv qd qn;by_cases h:r.den=1
 ·rw[if_pos h];show Rat.divInt (zi (zn r.num)) (if zi ⟨false,[]⟩=0 then 1 else zi ⟨false,[]⟩)=r;rw[if_pos (show zi ⟨false,[]⟩=0 from rfl),cx];have:=Rat.num_divInt_den r;rw[h]at this;exact this
 rw[if_neg h];show Rat.divInt (zi (zn r.num)) (if zi (zn (r.den:Int))=0 then 1 else zi (zn (r.den:Int)))=r;have:=r.den_nz;rw[cx,cx,if_neg (by omega),Rat.num_divInt_den]
theorem C3{w:List Nat}{n:Bool}{L:Nat}(h:∀x∈w,x<4294967296)(hl:w.length<=L):Fit L (zi ⟨n,w⟩):=by
 unfold Fit;rw[yX];exact Nat.lt_of_lt_of_le (fC w h) (Nat.pow_le_pow_right (by decide) hl)
theorem qF{L:Nat}(h:1<=L):Fit L 1:=by
 unfold Fit;exact Nat.lt_of_lt_of_le (show(1:Int).natAbs<4294967296^1 by decide) (Nat.pow_le_pow_right (by decide) h)
theorem FQ.rep{L:Nat}{r:Rat}(h:FQ L r)(h1:1<=L):jT L (qn r) r:=by
 refine⟨λx hx=>gx (by decide) hx,?_,(cD (by decide)).2 h.1,?_,h1,TK r⟩
 ·unfold qn;by_cases e:r.den=1
  ·rw[if_pos e];simp
  rw[if_neg e];exact λx hx=>gx (by decide) hx
 unfold qn;by_cases e:r.den=1
 ·rw[if_pos e];simp
 rw[if_neg e];exact(cD (by decide)).2 h.2
theorem jT.wn{L:Nat}{q:Qr}{r:Rat}(h:jT L q r)(hL:L<=35184372088788):Wl q.num:=⟨h.n,Nat.le_trans h.ln hL⟩
theorem jT.wd{L:Nat}{q:Qr}{r:Rat}(h:jT L q r)(hL:L<=35184372088788):Wl q.den:=⟨h.d,Nat.le_trans h.ld hL⟩
theorem jT.fn{L:Nat}{q:Qr}{r:Rat}(h:jT L q r):Fit L (zi q.num):=C3 (n:=q.num.neg) h.n h.ln
theorem jT.fd{L:Nat}{q:Qr}{r:Rat}(h:jT L q r):Fit L (zi q.den):=C3 (n:=q.den.neg) h.d h.ld
theorem jT.fqd{L:Nat}{q:Qr}{r:Rat}(h:jT L q r):Fit L (qd q):=by
 unfold qd;by_cases e:zi q.den=0
 ·rw[if_pos e];exact qF h.l1
 rw[if_neg e];exact h.fd
theorem jT.mono{L M:Nat}{q:Qr}{r:Rat}(h:jT L q r)(hl:L<=M):jT M q r:=⟨h.n,h.d,Nat.le_trans h.ln hl,Nat.le_trans h.ld hl,Nat.le_trans h.l1 hl,h.v⟩
theorem FQ.mono{L M:Nat}{r:Rat}(h:FQ L r)(hl:L<=M):FQ M r:=⟨h.1.mono hl,h.2.mono hl⟩
theorem rT{L:Nat}{a d:Int}(h0:d≠0)(ha:Fit L a)(hd:Fit L d):FQ L (Rat.divInt a d):=by
 generalize hr:Rat.divInt a d=r;obtain⟨n',d',z',c⟩:=r;obtain⟨m,hm,h1,h2⟩:=Rat.divInt_num_den h0 hr;have hm':0<m.natAbs:=Int.natAbs_pos.2 hm;refine⟨ha.le ?_,hd.le ?_⟩
 ·rw[h1,Int.natAbs_mul];exact Nat.le_mul_of_pos_right _ hm'
 rw[h2,Int.natAbs_mul];exact Nat.le_mul_of_pos_right _ hm'
theorem jT.fq{L:Nat}{q:Qr}{r:Rat}(h:jT L q r):FQ L r:=by rw[<-h.v];exact rT (TJ q) h.fn h.fqd
theorem FQ.neg{L:Nat}{x:Rat}(hx:FQ L x):FQ L (-x):=⟨hx.1.neg,hx.2⟩
theorem FQ.int{L:Nat}{i:Int}(h:Fit L i)(h1:1<=L):FQ L (i:Rat):=⟨h,qF h1⟩
theorem FQ.floor{L:Nat}{x:Rat}(hx:FQ L x):Fit L x.floor:=by
 rw[Rat.floor_def];exact hx.1.le (Int.natAbs_ediv_le_natAbs _ _)
def yZ(x y:Rat):Int:=if x<y then-1 else if x=y then 0 else 1
theorem DT(x:Rat):yZ x x=0:=by unfold yZ;rw[if_neg Rat.lt_irrefl,if_pos rfl]
theorem IW{x y:Rat}(h:x<y):yZ x y=-1:=if_pos h
theorem IX{x y:Rat}(h:y<x):yZ x y=1:=by
 unfold yZ;rw[if_neg (λh'=>by grind),if_neg (λh'=>by grind)]
theorem nJ{a b c d:Int}(hb:0<b)(hd:0<d):Rat.divInt a b<Rat.divInt c d↔a*d<c*b:=by
 have hb':(0:Rat)<(b:Rat):=Rat.intCast_pos.2 hb;have hd':(0:Rat)<(d:Rat):=Rat.intCast_pos.2 hd;rw[Rat.divInt_eq_div,Rat.divInt_eq_div,Rat.div_lt_iff hb',Rat.div_def,Rat.mul_assoc,Rat.mul_comm (d:Rat)⁻¹,<-Rat.mul_assoc,<-Rat.div_def,Rat.lt_div_iff hd',<-Rat.intCast_mul,<-Rat.intCast_mul,Rat.intCast_lt_intCast]
theorem GJ{a b c d:Int}(hb:0<b)(hd:0<d):yZ (Rat.divInt a b) (Rat.divInt c d)=lZ (a*d) (c*b):=by
 unfold yZ lZ;have e1:=nJ (a:=a) (c:=c) hb hd;have e2:=Rat.divInt_eq_divInt_iff (n₁:=a) (d₁:=b) (n₂:=c) (d₂:=d) (by omega) (by omega);by_cases h1:a*d<c*b
 ·rw[if_pos (e1.2 h1),if_pos h1]
 rw[if_neg (λh=>h1 (e1.1 h)),if_neg h1];by_cases h2:a*d=c*b
 ·rw[if_pos (e2.2 h2),if_pos h2]
 rw[if_neg (λh=>h2 (e2.1 h)),if_neg h2]
theorem xG{a d:Int}(hd:0<d):qn (Rat.divInt a d)=⟨zn (a/(Int.gcd a d:Int)),if d/(Int.gcd a d:Int)=1 then⟨false,[]⟩else zn (d/(Int.gcd a d:Int))⟩:=by
 have h1:(Rat.divInt a d).num=a/(Int.gcd a d:Int):=by rw[Rat.num_divInt,Int.sign_eq_one_of_pos hd,Int.one_mul,Int.gcd_comm]
 have h2:((Rat.divInt a d).den:Int)=d/(Int.gcd a d:Int):=by
  rw[Rat.den_divInt,if_neg (by omega),Int.gcd_comm];have:(d.natAbs:Int)=d:=by omega
  rw[Int.natCast_ediv,this]
 unfold qn;rw[h1,h2];by_cases e:(Rat.divInt a d).den=1
 ·rw[if_pos e,if_pos (by omega)]
 rw[if_neg e,if_neg (by omega)]
theorem IY(k:Int):((bif(nm k).2 then some (decide ((nm k).1=1))else some false):Option Bool)=some (decide (k=1)):=by
 by_cases h:dH k
 ·rw[fG h];rfl
 rw[jR h];have:¬k=1:=by rintro rfl;exact h (by decide)
 rw[decide_eq_false this];rfl
theorem vF{n d:Zr}(hn:Wl n)(hd:Wl d)(h:0<zi d):((gY n d).bind λg=>(b8 n g).bind λa=>(b8 d g).bind λb=>(cE b.1).bind λc=>
  (bif c.2 then some (decide (c.1=1))else some false).bind λe=>bif e then some (⟨a.1,⟨false,[]⟩⟩:Qr)else some ⟨a.1,b.1⟩)=some (qn (Rat.divInt (zi n) (zi d))):=by
 have g0:(Int.gcd (zi n) (zi d):Int)≠0:=by
  have:0<Int.gcd (zi n) (zi d):=Int.gcd_pos_of_ne_zero_right _ (by omega);omega
 have wg:Wl (zn (Int.gcd (zi n) (zi d):Int)):=ec ((Wl.fit hd).le (by
  have:=Nat.le_of_dvd (Int.natAbs_pos.2 (show zi d≠0 by omega)) (Int.gcd_dvd_natAbs_right (zi n) (zi d));simpa using this)) hd.2
 have wq:Wl (zn (zi d/(Int.gcd (zi n) (zi d):Int))):=ec ((Wl.fit hd).le (Int.natAbs_ediv_le_natAbs _ _)) hd.2;rw[Nq hn hd,bR,divMod_eq hn wg,bR,divMod_eq hd wg,bR,cx,GI,if_neg g0,GI,if_neg g0];simp only[];rw[jQ wq,bR,cx,IY,bR,xG h];by_cases e:zi d/(Int.gcd (zi n) (zi d):Int)=1
 ·rw[decide_eq_true e,gZ,if_pos e]
 rw[decide_eq_false e,iG,if_neg e]
theorem reduce_eq{x y:Zr}(hx:Wl x)(hy:Wl y)(h0:zi y≠0):dV x y=some (qn (Rat.divInt (zi x) (zi y))):=by
 unfold dV;simp only[cY,bR,zeta',sign_eq hy];by_cases h:zi y<0
 ·rw[show decide ((zi y).sign<0)=true by rw[Int.sign_eq_neg_one_of_neg h];rfl,gZ,neg_eq hx,bR,neg_eq hy,bR];have hp:=vF (ec (Wl.fit hx).neg hx.2) (ec (Wl.fit hy).neg hy.2) (by rw[cx];omega);rw[cx,cx,Rat.neg_divInt_neg]at hp;exact hp
 rw[show decide ((zi y).sign<0)=false by rw[Int.sign_eq_one_of_pos (by omega)];rfl,iG];exact vF hx hy (by omega)
end
section
open Go.Fw
theorem vG(q:Qr):(⟨⟨q.num.neg,q.num.w⟩,⟨q.den.neg,q.den.w⟩⟩:Qr)=q:=by cases q;rfl
theorem vH(q:Qr):(⟨q.num,q.den⟩:Qr)=q:=by cases q;rfl
theorem parts_eq{L:Nat}{q:Qr}{r:Rat}(h:jT L q r)(hL:L<=35184372088788):∃n d:Zr,ct q=some (n,d)/\Wl n/\Wl d/\0<zi d/\Rat.divInt (zi n) (zi d)=r/\Fit L (zi n)/\Fit L (zi d):=by
 have wn:=h.wn hL;have wd:=h.wd hL;have hv:=h.v;unfold ct;simp only[zeta',bR,sign_eq wd,ef (x:=1) (by decide) (by decide),neg_eq wn,neg_eq wd];unfold qv qd at hv;rcases Int.lt_trichotomy (zi q.den) 0 with h1|h1|h1
 ·refine⟨_,_,?_,ec h.fn.neg hL,ec h.fd.neg hL,by rw[cx];omega,?_,by rw[cx];exact h.fn.neg,by rw[cx];exact h.fd.neg⟩
  ·rw[Int.sign_eq_neg_one_of_neg h1];rfl
  rw[cx,cx,Rat.neg_divInt_neg,<-hv,if_neg (by omega)]
 ·refine⟨_,_,?_,wn,ec (qF h.l1) hL,by rw[cx];decide,?_,h.fn,by rw[cx];exact qF h.l1⟩
  ·rw[h1];rfl
  rw[cx,<-hv,if_pos h1]
 refine⟨_,_,?_,wn,wd,h1,?_,h.fn,h.fd⟩
 ·rw[Int.sign_eq_one_of_pos h1];rfl
 rw[<-hv,if_neg (by omega)]
def Sm(a:Int):Prop:=-2147483648<a/\a<2147483648
theorem Sm.ok{a:Int}(h:Sm a):dH a:=by unfold Sm at h;unfold dH;omega
theorem vI{L:Nat}{q:Qr}{r:Rat}(h:jT L q r)(hL:L<=35184372088788):∃a b c,ez q=some (a,b,c)/\(c=true->Sm a/\0<b/\Sm b/\Rat.divInt a b=r):=by
 have wn:=h.wn hL;have wd:=h.wd hL;have hv:=h.v;unfold ez;simp only[zeta',bR,cY,jQ wn,jQ wd];unfold qv qd at hv;generalize zi q.num=n at*;generalize zi q.den=d at*;by_cases hs:Sm n/\Sm d
 ·obtain⟨h1,h2⟩:=hs;rw[fG h1.ok,fG h2.ok];unfold Sm at h1 h2;simp only[];rw[decide_eq_false (show ¬n<=-2147483648 by omega),decide_eq_false (show ¬2147483648<=n by omega),decide_eq_false (show ¬d<=-2147483648 by omega),decide_eq_false (show ¬2147483648<=d by omega)];simp only[Bool.not_true,iG,bR];by_cases h0:d=0
  ·rw[decide_eq_true h0,gZ];refine⟨_,_,_,Y,λ_=>⟨h1,by decide,⟨by decide,by decide⟩,?_⟩⟩;rw[<-hv,if_pos h0]
  rw[decide_eq_false h0,iG];rw[if_neg h0]at hv;by_cases hneg:d<0
  ·rw[decide_eq_true hneg,gZ,eJ (by omega) (by omega),eJ (by omega) (by omega)];refine⟨_,_,_,Y,λ_=>⟨⟨by omega,by omega⟩,by omega,⟨by omega,by omega⟩,?_⟩⟩;rw[Int.zero_sub,Int.zero_sub,Rat.neg_divInt_neg,hv]
  rw[decide_eq_false hneg,iG];exact⟨_,_,_,Y,λ_=>⟨h1,by omega,h2,hv⟩⟩
 refine⟨0,0,false,?_,λe=>by cases e⟩;by_cases o1:dH n
 ·by_cases o2:dH d
  ·rw[fG o1,fG o2];simp only[Bool.not_true,iG,bR];unfold Sm at hs;by_cases c1:n<=-2147483648
   ·rw[decide_eq_true c1];simp only[bR,gZ]
   rw[decide_eq_false c1];simp only[bR,iG];by_cases c2:2147483648<=n
   ·rw[decide_eq_true c2];simp only[bR,gZ]
   rw[decide_eq_false c2];simp only[bR,iG];by_cases c3:d<=-2147483648
   ·rw[decide_eq_true c3];simp only[bR,gZ]
   rw[decide_eq_false c3];simp only[bR,iG];rw[decide_eq_true (show 2147483648<=d by omega)];simp only[gZ]
  rw[fG o1,jR o2];simp only[Bool.not_true,Bool.not_false,iG,bR,gZ]
 rw[jR o1];simp only[Bool.not_false,bR,gZ]
theorem AQ{a g:Int}(hg:0<g)(h:g∣a):Int.tdiv a g=a/g:=by
 obtain⟨k,rfl⟩:=h;rw[Int.mul_tdiv_cancel_left _ (by omega),Int.mul_ediv_cancel_left _ (by omega)]
theorem AR{n d:Int}(hd:0<d)(hd':d<=9223372036854775807)(hn: -9223372036854775807<=n)(hn':n<=9223372036854775807):gj n d=some (qn (Rat.divInt n d)):=by
 unfold gj;simp only[bR,cY];refine kY (λs=>Int.gcd s.1 s.2=Int.gcd n d/\s.1.natAbs<=9223372036854775807/\s.2.natAbs<=9223372036854775807) (λe=>e.natAbs=Int.gcd n d/\e.natAbs<=9223372036854775807) (λs=>s.2.natAbs) ?_ ⟨Y,by simp only[];omega,by simp only[];omega⟩ ?_
 ·rintro⟨a,b⟩ ⟨i1,i2,i3⟩;simp only at i1 i2 i3⊢;by_cases hb:b=0
  ·right;subst hb;refine⟨a,by simp,?_,i2⟩;rw[<-i1];simp[Int.gcd]
  left;rw[decide_eq_true hb,gZ,Di,if_neg hb,bR];have hm:(Int.tmod a b).natAbs=a.natAbs%b.natAbs:=Int.natAbs_tmod a b;have hlt:=Nat.mod_lt a.natAbs (Int.natAbs_pos.2 hb);refine⟨_,Y,⟨?_,i3,by simp only[];omega⟩,by simp only[];omega⟩;simp only[];rw[<-i1,Int.gcd,Int.gcd,hm,Nat.gcd_comm b.natAbs,<-Nat.gcd_rec,Nat.gcd_comm]
 rintro e ⟨he,hle⟩;obtain⟨g,hg⟩:∃g:Int,(Int.gcd n d:Int)=g:=⟨_,Y⟩;have Vu:0<g:=by have:=Int.gcd_pos_of_ne_zero_right n (show d≠0 by omega);omega
 have hgn:g∣n:=hg▸Int.gcd_dvd_left ..;have hgd:g∣d:=hg▸Int.gcd_dvd_right ..;have hK:∀m:Int,m=g->(bif decide (m=d)then(pH n m).bind λeG=>(bn eG).bind λx=>some (⟨⟨x.neg,x.w⟩,⟨false,[]⟩⟩:Qr)else(pH n m).bind λgJ=>(bn gJ).bind λx=>(pH d m).bind λqN=>(bn qN).bind λy=>some ⟨⟨x.neg,x.w⟩,⟨y.neg,y.w⟩⟩)=some (qn (Rat.divInt n d)):=by
  rintro m rfl;have b1:(n/m).natAbs<=n.natAbs:=Int.natAbs_ediv_le_natAbs _ _;have b2:(d/m).natAbs<=d.natAbs:=Int.natAbs_ediv_le_natAbs _ _;have q1:pH n m=some (n/m):=by
   rw[pH,if_neg (by omega),AQ Vu hgn,eJ (by omega) (by omega)]
  have q2:pH d m=some (d/m):=by
   rw[pH,if_neg (by omega),AQ Vu hgd,eJ (by omega) (by omega)]
  rw[xG hd,hg,q1,q2];simp only[bR,ef (x:=n/m) (by omega) (by omega),ef (x:=d/m) (by omega) (by omega),zeta'];by_cases e1:m=d
  ·rw[decide_eq_true e1,gZ,if_pos (by rw[e1];exact Int.ediv_self (by omega))]
  rw[decide_eq_false e1,iG,if_neg];intro e2;have:=Int.ediv_mul_cancel hgd;rw[e2]at this;omega
 by_cases hneg:e<0
 ·rw[decide_eq_true hneg,gZ,eJ (by omega) (by omega)];exact hK _ (by omega)
 rw[decide_eq_false hneg,iG];exact hK _ (by omega)
theorem rU{a b:Int}(ha:Sm a)(hb:Sm b): -4611686018427387904<a*b/\a*b<4611686018427387904:=by
 unfold Sm at ha hb;have h1:(a*b).natAbs=a.natAbs*b.natAbs:=Int.natAbs_mul a b;have h2:a.natAbs*b.natAbs<=2147483647*2147483647:=Nat.mul_le_mul (by omega) (by omega);omega
theorem IZ{a b:Int}(ha:0<a)(hb:0<b):0<a*b:=Int.mul_pos ha hb
section ops
variable {L M:Nat}{a b:Qr}{x y:Rat}
theorem DU(i:Int):ct ⟨zn i,⟨false,[]⟩⟩=some (zn i,zn 1):=by
 unfold ct;simp only[zeta',bR,sign_eq (z:=⟨false,[]⟩) ⟨by simp,by simp⟩,ef (x:=1) (by decide) (by decide)];rfl
theorem DV{i:Int}{L:Nat}(h:Fit L i)(h1:1<=L)(hL:L<=35184372088788):∃a b c,ez ⟨zn i,⟨false,[]⟩⟩=some (a,b,c)/\(c=true->Sm a/\0<b/\Sm b/\Rat.divInt a b=Rat.divInt i 1):=
 vI (L:=L) ⟨λ_ hx=>gx (by decide) hx,by simp,(cD (by decide)).2 h,by simp,h1,by
  unfold qv qd;rw[if_pos (show zi ⟨false,[]⟩=0 from rfl)];show Rat.divInt (zi (zn i)) 1=_;rw[cx]⟩ hL
theorem jT.Zx{i:Int}(ha:jT L a x)(hi:Fit (L+1) i)(h:L+1<=35184372088788)(h1:x-Rat.divInt i 1<=1)(h2: -1<=x-Rat.divInt i 1):iO a ⟨zn i,⟨false,[]⟩⟩=some (qn (x-Rat.divInt i 1))/\jT L (qn (x-Rat.divInt i 1)) (x-Rat.divInt i 1):=by
 have l1:=ha.l1;obtain⟨n1,d1,c1,e1,k1⟩:=vI ha (by omega);obtain⟨n2,d2,c2,e2,k2⟩:=DV hi (by omega) (by omega);obtain⟨p1,q1,f1,w1,w2,g1,v1,t1,t2⟩:=parts_eq ha (by omega);have f2:=DU i;have e:x-Rat.divInt i 1=Rat.divInt (zi p1-i*zi q1) (zi q1):=by
  rw[<-v1,Rat.divInt_sub_divInt _ _ (by omega) (by decide),Int.mul_one,Int.mul_one]
 have b1:zi p1-i*zi q1<=zi q1:=by
  rw[e,show(1:Rat)=Rat.divInt 1 1 from rfl]at h1;rcases Int.lt_or_le (zi q1) (zi p1-i*zi q1)with k|k
  ·exact absurd ((nJ (a:=1) (b:=1) (by decide) g1).2 (by omega)) (Rat.not_lt.2 h1)
  exact k
 have b2: -zi q1<=zi p1-i*zi q1:=by
  rw[e,show(-1:Rat)=Rat.divInt (-1) 1 from rfl]at h2;rcases Int.lt_or_le (zi p1-i*zi q1) (-zi q1)with k|k
  ·exact absurd ((nJ (c:=-1) (d:=1) g1 (by decide)).2 (by omega)) (Rat.not_lt.2 h2)
  exact k
 have t5:Fit L (zi p1-i*zi q1):=t2.le (by omega);have t6:Fit (L+1) (i*zi q1):=by
  have:i*zi q1=zi p1-(zi p1-i*zi q1):=by omega
  rw[this];exact t1.sub t5
 refine⟨?_,by rw[e];exact(rT (by omega) t5 t2).rep l1⟩;have TL:ga a ⟨zn i,⟨false,[]⟩⟩=some (qn (x-Rat.divInt i 1)):=by
  unfold ga eM;have w3:=ec hi (by omega);have w4:=ec (qF (L:=1) (by decide)) (by omega);have u1:=ec t1 (by omega);have u2:=ec t6 (by omega);have u3:=ec t2 (by omega);have u4:=ec t5 (by omega);simp only[zeta',vG,vH,f1,f2,bR,mul_eq w1 w4,mul_eq w3 w2,mul_eq w2 w4,cx,Int.mul_one,sub_eq u1 u2];rw[reduce_eq u4 u3 (by rw[cx];omega),bR,cx,cx,e]
 unfold iO;simp only[zeta',vG,vH,e1,e2,bR,cY,TL];cases c1
 ·rw[iG,bR,iG]
 cases c2
 ·rw[gZ,bR,iG]
 obtain⟨s1,s2,s3,s4⟩:=k1 Y;obtain⟨s5,s6,s7,s8⟩:=k2 Y;have m1:=rU s1 s7;have m2:=rU s5 s3;have m3:=rU s3 s7;have m4:=IZ s2 s6;rw[gZ,bR,gZ,eJ (x:=n1*d2) (by omega) (by omega),eJ (x:=n2*d1) (by omega) (by omega),eJ (x:=d1*d2) (by omega) (by omega),eJ (by omega) (by omega),AR m4 (by omega) (by omega) (by omega),bR,<-s4,<-s8,Rat.divInt_sub_divInt _ _ (by omega) (by omega)]
theorem jT.canon(ha:jT L a x)(h:L<=35184372088788):iN a=some (qn x)/\jT L (qn x) x:=by
 refine⟨?_,ha.fq.rep ha.l1⟩;obtain⟨n1,d1,c1,e1,k1⟩:=vI ha (by omega);obtain⟨p1,q1,f1,w1,w2,g1,v1,t1,t2⟩:=parts_eq ha (by omega);unfold iN;simp only[zeta',vG,vH,e1,bR,f1];cases c1
 ·rw[iG,reduce_eq w1 w2 (by omega),bR,v1]
 obtain⟨s1,s2,s3,s4⟩:=k1 Y;unfold Sm at s1 s3;rw[gZ,AR s2 (by omega) (by omega) (by omega),bR,s4]
end ops
end
section
open Go.Fw
theorem y4{p q:Int}(hq:0<q):(Rat.divInt p q).floor=p/q:=by
 have key:∀k:Int,k<=(Rat.divInt p q).floor↔k<=p/q:=by
  intro k;rw[Rat.le_floor_iff,<-Rat.not_lt,show(k:Rat)=Rat.divInt k 1 by rw[Rat.divInt_eq_div];show _=(k:Rat)/1;grind,nJ hq (by decide),Int.mul_one,Int.not_lt,Int.le_ediv_iff_mul_le hq]
 exact Int.le_antisymm ((key _).1 (Int.le_refl _)) ((key _).2 (Int.le_refl _))
theorem xH{p q u v:Int}(hq:0<q)(hv:0<v)(h:p.sign≠u.sign\/p.sign=0):kA (IntKind.i64.wrap (p.sign-u.sign))=some (lZ (p*v) (u*q)):=by
 have pv:0<p->0<p*v:=λh=>Int.mul_pos h hv;have pv':p<0->p*v<0:=λh=>Int.mul_neg_of_neg_of_pos h hv;have uq:0<u->0<u*q:=λh=>Int.mul_pos h hq;have uq':u<0->u*q<0:=λh=>Int.mul_neg_of_neg_of_pos h hq;rcases Int.lt_trichotomy p 0 with e1|e1|e1<;>rcases Int.lt_trichotomy u 0 with e2|e2|e2
 ·rw[Int.sign_eq_neg_one_of_neg e1,Int.sign_eq_neg_one_of_neg e2]at h;simp at h
 ·have:=pv' e1;rw[Int.sign_eq_neg_one_of_neg e1,e2,Int.zero_mul,jB this];rfl
 ·have:=pv' e1;have:=uq e2;rw[Int.sign_eq_neg_one_of_neg e1,Int.sign_eq_one_of_pos e2,jB (by omega)];rfl
 ·have:=uq' e2;rw[Int.sign_eq_neg_one_of_neg e2,e1,Int.zero_mul,jC this];rfl
 ·rw[e1,e2,Int.zero_mul,Int.zero_mul];rfl
 ·have:=uq e2;rw[Int.sign_eq_one_of_pos e2,e1,Int.zero_mul,jB this];rfl
 ·have:=pv e1;have:=uq' e2;rw[Int.sign_eq_one_of_pos e1,Int.sign_eq_neg_one_of_neg e2,jC (by omega)];rfl
 ·have:=pv e1;rw[Int.sign_eq_one_of_pos e1,e2,Int.zero_mul,jC this];rfl
 rw[Int.sign_eq_one_of_pos e1,Int.sign_eq_one_of_pos e2]at h;simp at h
theorem GK(i:Int):qn (i:Rat)=⟨zn i,⟨false,[]⟩⟩:=by
 unfold qn;rw[Rat.den_intCast,if_pos Y,Rat.num_intCast]
section ops
variable {L M:Nat}{a b:Qr}{x y:Rat}
theorem jT.neg(ha:jT L a x)(h:L<=35184372088788):va a=some (qn (-x))/\jT L (qn (-x)) (-x):=by
 refine⟨?_,ha.fq.neg.rep ha.l1⟩;unfold va;have r:=(ha.canon h).2;simp only[zeta',vG,vH,(ha.canon h).1,bR,neg_eq (r.wn h)];show some (⟨zn (-zi (zn x.num)),_⟩:Qr)=some (qn (-x));rw[cx];rfl
theorem jT.Zy(ha:jT L a x)(hb:jT M b y)(hL:L<=35184372088788)(hM:M<=35184372088788):iP a b=some (yZ x y):=by
 obtain⟨p1,q1,f1,w1,w2,g1,v1,t1,t2⟩:=parts_eq ha (by omega);obtain⟨p2,q2,f2,w3,w4,g2,v2,t3,t4⟩:=parts_eq hb (by omega);unfold iP;have u1:=KL (t1.mul t4) (by omega);have u2:=KL (t3.mul t2) (by omega);simp only[zeta',vG,vH,f1,f2,bR,cY,sign_eq w1,sign_eq w3,mul_eq w1 w4,mul_eq w3 w2,TG u1 u2,cx];rw[<-v1,<-v2,GJ g1 g2];by_cases e1:(zi p1).sign=(zi p2).sign
 ·rw[show decide ((zi p1).sign≠(zi p2).sign)=false by simp[e1],iG,bR];by_cases e2:(zi p1).sign=0
  ·rw[decide_eq_true e2,gZ,xH g1 g2 (.inr e2),bR]
  rw[decide_eq_false e2,iG]
 rw[show decide ((zi p1).sign≠(zi p2).sign)=true by simp[e1],gZ,bR,gZ,xH g1 g2 (.inl e1),bR]
theorem jT.cmp(ha:jT L a x)(hb:jT M b y)(h:L+M<=35184372088768):iP a b=some (yZ x y):=ha.Zy hb (by omega) (by omega)
theorem jT.floor(ha:jT L a x)(h:L<=35184372088788):iw a=some (zn x.floor):=by
 obtain⟨p1,q1,f1,w1,w2,g1,v1,t1,t2⟩:=parts_eq ha h;unfold iw;simp only[zeta',vG,vH,f1,bR,divMod_eq w1 w2];rw[GI,if_neg (by omega),<-v1,y4 g1]
theorem new_eq{n d:Int}(hn:dH n)(hd:dH d)(h0:d≠0):gP n d=some (qn (Rat.divInt n d),0)/\jT 2 (qn (Rat.divInt n d)) (Rat.divInt n d):=by
 refine⟨?_,(rT h0 (rS hn) (rS hd)).rep (by decide)⟩;unfold gP;simp only[zeta',vG,vH,bR,ef hn.1 hn.2,ef hd.1 hd.2];rw[decide_eq_false h0,iG,reduce_eq (AP hn) (AP hd) (by rw[cx];exact h0),bR,cx,cx]
theorem C4:zi ⟨false,[]⟩=0:=rfl
theorem C5:Wl ⟨false,[]⟩:=⟨by simp,by simp⟩
theorem vJ{z:Zr}(hz:Wl z):cS z=some (qn (zi z:Rat)):=by
 unfold cS iX;simp only[zeta',bR,add_eq hz C5,C4,Int.add_zero];rw[GK]
end ops
end
section
open Go.Fw
theorem tm{a:Nat}:Int.tmod (a:Int) 65536=((a%65536:Nat):Int):=by
 rw[Int.tmod_eq_emod_of_nonneg (by omega)];omega
end
section
open Go.Fw
abbrev Zz(q:Qr):Prop:=OkZ q.num/\OkZ q.den
theorem Nr{q:Qr}{L:Nat}(h:Zz q)(h1:q.num.w.length<=L)(h2:q.den.w.length<=L)(hL:1<=L):jT L q (qv q):=⟨h.1.2.2,h.2.2.2,h1,h2,hL,Y⟩
end
section
open Go.Fw
theorem ZA(x y:Rat):x<y\/x=y\/y<x:=by grind
theorem tv{i:Int}{L:Nat}(h:Fit L i)(h1:1<=L)(hL:L<=35184372088788):cS (zn i)=some (qn (i:Rat))/\jT L (qn (i:Rat)) (i:Rat):=by
 refine⟨?_,(FQ.int h h1).rep h1⟩;rw[vJ (ec h hL),cx]
end
section
open Go.Fw
theorem eN{J R:Type}{f:J->Option R}{g:(J->Option R)->Option R}{r:Option R}(h:g f=r):cY f g=r:=h
theorem dT{p:Prop}[Decidable p](h:p):(some (decide p):Option Bool)=some true:=congrArg some (decide_eq_true h)
theorem dF{p:Prop}[Decidable p](h:¬p):(some (decide p):Option Bool)=some false:=congrArg some (decide_eq_false h)
theorem oZ{β:Type}{x:Option Bool}{f:Bool->Option β}{r:Option β}{y:Option Bool}(h:x=some true)(hf:f true=r):(bif true then x else y).bind f=r:=by rw[gZ,h];exact hf
theorem orC{β:Type}{b c:Bool}{x:Option Bool}{f:Bool->Option β}{r:Option β}(h:b=false->x=some c)(hf:f (b||c)=r):(bif b then some true else x).bind f=r:=by
 cases b
 ·rw[iG,h rfl];exact hf
 rw[gZ];exact hf
section ops
variable {K L M:Nat}{a b c:Qr}{x y z:Rat}
end ops
theorem ZB{q:Qr}(h:Zz q):jT 35184372087808 q (qv q):=Nr h (by have:=h.1.2.1;omega) (by have:=h.2.2.1;omega) (by decide)
theorem Ns(l:List (List Qr))(hl:l.length<=9223372036854775807):∃b,eC l=some b/\(b=false->∀v∈l,v.length<=40):=by
 unfold eC;refine jA (λs=>∃(i:Nat) (n:Int),s=(n,(i:Int))/\i<=l.length/\∀v∈l.take i,v.length<=40) (λe=>(e=.inl ()/\∀v∈l,v.length<=40)\/e=.inr true) (λs=>l.length-s.2.toNat) ?_ ⟨0,0,Y,by omega,by simp⟩ ?_
 ·rintro _ ⟨i,n,rfl,hi,ht⟩;by_cases hlt:i<l.length
  ·have g:=List.getElem?_eq_getElem hlt;by_cases h1:40<l[i].length
   ·exact .inr ⟨.inr true,aA Y<|aA (dT (by omega))<|dN Y<|aA (bq g)<|aA Y<|aA (dT (by omega))<|dN Y Y,.inr Y⟩
   obtain⟨e,he,-⟩:=ri (body:=λ(s:Int×Int)=>match s with|⟨y3,y5⟩=>(show Option ((Int×Int)⊕Int)from(cI l (i:Int)).bind λje=>(some (je.length:Int)).bind λiW=>(some (decide ((y5:Int)<iW))).bind λeG=>(bif eG then(some (IntKind.i64.wrap (y3+1))).bind λlq=>(cI l (i:Int)).bind λnL=>(cI nL y5).bind λ⟨⟨xg,sw⟩,⟨J5,J6⟩⟩=>(some (sw.length:Int)).bind λrq=>(some (min (100:Int) rq)).bind λnZ=>(some (IntKind.i64.wrap (lq+nZ))).bind λnD=>(cI l (i:Int)).bind λv7=>(cI v7 y5).bind λ⟨⟨sD,sE⟩,⟨J7,CH⟩⟩=>(some (CH.length:Int)).bind λtO=>(some (min (100:Int) tO)).bind λDn=>(some (IntKind.i64.wrap (nD+Dn))).bind λqM=>(some (IntKind.i64.wrap (y5+1))).bind λiM=>some (.inl (qM,iM))else some (.inr y3))))
    (s:=(n,0)) (λs=>∃(k:Nat) (m:Int),s=(m,(k:Int))/\k<=l[i].length) (λ_=>True) (λs=>l[i].length-s.2.toNat) (by
     rintro _ ⟨k,m,rfl,hk⟩;by_cases hk2:k<l[i].length
     ·have gk:=List.getElem?_eq_getElem hk2;generalize l[i][k]=q at gk;refine .inl ⟨(_,((k+1:Nat):Int)),aA (bq g)<|aA Y<|aA (dT (by omega))<|dN Y<|aA Y<|aA (bq g)<|aA (bq gk)<|aA Y<|aA Y<|aA Y<|aA (bq g)<|aA (bq gk)<|aA Y<|aA Y<|aA Y<|aA (congrArg some (cL (by omega))) Y,⟨k+1,_,Y,hk2⟩,by simp only[Int.toNat_natCast];omega⟩
     exact .inr ⟨m,aA (bq g)<|aA Y<|aA (dF (by omega))<|bZ Y Y,aq⟩) ⟨0,n,Y,by omega⟩
   by_cases h2:400<e
   ·exact .inr ⟨.inr true,aA Y<|aA (dT (by omega))<|dN Y<|aA (bq g)<|aA Y<|aA (dF (by omega))<|bZ Y<|aA he<|aA (dT h2)<|dN Y Y,.inr Y⟩
   refine .inl ⟨(e,((i+1:Nat):Int)),aA Y<|aA (dT (by omega))<|dN Y<|aA (bq g)<|aA Y<|aA (dF (by omega))<|bZ Y<|aA he<|aA (dF h2)<|bZ Y<|aA (congrArg some (cL (by omega))) Y,⟨i+1,e,Y,hlt,?_⟩,by simp only[Int.toNat_natCast];omega⟩;rw[List.take_add_one,g];intro u hu;rcases List.mem_append.1 hu with h|h
   ·exact ht u h
   simp at h;rw[h];omega
  refine .inr ⟨.inl (),aA Y<|aA (dF (by omega))<|bZ Y Y,.inl ⟨Y,?_⟩⟩;rw[List.take_of_length_le (by omega)]at ht;exact ht
 rintro e (⟨rfl,he⟩|rfl)
 ·exact⟨false,Y,λ_=>he⟩
 exact⟨true,rfl,λh=>by cases h⟩
end
end Go.Proofs.Ytmiflmkdaeianaa
