/- A part of the proof: the framework, the plain functions, the followed functions, the plain laws. -/
import Derived.Test.YtmiflmkdaeianaaPSG2
set_option linter.unusedVariables false
set_option linter.unusedSimpArgs false
set_option linter.unusedSectionVars false
namespace Go.Fw
section
open Go.RowKit
def gK:List (Nat×Row×Value)->(Nat->Value)->Nat->Value
 |[],ν,j=>ν j
 |(k,_,v)::l,ν,j=>if j=k then v else gK l ν j
theorem iU{ν:Nat->Value}:∀{l:List (Nat×Row×Value)} {j:Nat},(∀R v,(j,R,v)∉l)->gK l ν j=ν j
 |[],_,_=>rfl
 |(k,R,v)::l,j,h=>by
  have:j≠k:=λe=>h R v (by rw[e];simp);rw[gK,if_neg this];exact iU (λR v hm=>h R v (List.mem_cons_of_mem _ hm))
theorem fy{ν:Nat->Value}:∀{l:List (Nat×Row×Value)} {j:Nat} {R:Row} {v:Value},(l.map (·.1)).Nodup->(j,R,v)∈l->gK l ν j=v
 |(k,R',v')::l,j,R,v,hn,h=>by
  rw[List.map_cons,List.nodup_cons]at hn;rcases List.mem_cons.1 h with e|e
  ·cases e;rw[gK,if_pos rfl]
  have:j≠k:=λq=>hn.1 (List.mem_map.2 ⟨(j,R,v),e,q⟩);rw[gK,if_neg this];exact fy hn.2 e
def qg(olds:List Nat)(news:List (Nat×Row×Value)):List (Nat×gS):=olds.map (λj=>(j,.dead))++news.map (λn=>(n.1,.live n.2.1))
theorem lT:∀(l k:List (Nat×gS)) (j:Nat),cD (l++k) j=match cD k j with|some R=>some R|none=>cD l j
 |[],k,j=>by cases h:cD k j<;>simp[h,cD]
 |(i,R)::l,k,j=>by
  rw[List.cons_append,cD,cD,lT l k j];cases h:cD k j<;>simp
theorem oW{l:List (Nat×gS)}{j:Nat}(h:∀R,(j,R)∉l):cD l j=none:=by
 induction l with
 |nil=>rfl
 |cons p l ih=>
  obtain⟨i,R⟩:=p;rw[cD,ih (λR hm=>h R (List.mem_cons_of_mem _ hm))];have:j≠i:=λe=>h R (by rw[e];simp);simp[this]
theorem oX{l:List (Nat×gS)}{j:Nat}{R:gS}(h:cD l j=some R):(j,R)∈l:=by
 induction l with
 |nil=>cases h
 |cons p l ih=>
  obtain⟨i,R'⟩:=p;rw[cD]at h;cases e:cD l j with
  |some R2=>rw[e]at h;cases h;exact List.mem_cons_of_mem _ (ih e)
  |none=>
   rw[e]at h;by_cases q:j=i
   ·subst q;simp at h;subst h;simp
   simp[q]at h
theorem uS{l:List (Nat×gS)}{j:Nat}{R:gS}(h:(j,R)∈l):∃R',cD l j=some R':=by
 induction l with
 |nil=>cases h
 |cons p l ih=>
  obtain⟨i,R'⟩:=p;rw[cD];rcases List.mem_cons.1 h with e|e
  ·cases e;cases q:cD l j with
   |some R2=>exact⟨R2,Y⟩
   |none=>exact⟨R,by simp⟩
  obtain⟨R2,h2⟩:=ih e;exact⟨R2,by rw[h2]⟩
section swap
variable {C:Ctx}{S:AS}
theorem aY.OL{E:Env}{a:Act}{w w':World}(h:aY C S E a w){i:Nat}{T:TypeId}{cells cells':List AV}{us':List Value}{M':Mem}(hB:S.b i=some ⟨T,cells⟩)(olds:List Nat)(news:List (Nat×Row×Value))
  (hold:∀j∈olds,∃R,S.r j=.live R) (hnew:∀k R v,(k,R,v)∈news->S.r k=.un/\k<1000) (hnd:(news.map (·.1)).Nodup)
  (hM:E.M.le M') (hmn:∀b o x,M' b o=some x->E.M b o=some x\/w.heap.size<=b\/∃j∈olds,(E.ν j).ownBlock=some b) (hin:M'.cu w')
  (Xm:w'.heap[E.β i]? =some (.cells ⟨us'⟩ T (0,0))) (hnb:∀o,M' (E.β i) o=none) (oC:cj {E with M:=M',ν:=gK news E.ν} cells' us')
  (hcb:∀x∈cells',(∀j,¬x.mb j)/\∀j,x.mr j->∃R v,(j,R,v)∈news)
  (hrow:∀k R v,(k,R,v)∈news->(∃vs:List Value,w'.ownsRow 0 R.E R.sz v R.n vs/\SV.da M' R.cells vs)/\∀g,v.ownBlock=some g->((∃j∈olds,(E.ν j).ownBlock=some g)\/w.heap.size<=g)/\(∀o,M' g o=none)/\g≠E.β i)
  (OM:∀k R v k' R' v' g,(k,R,v)∈news->(k',R',v')∈news->v.ownBlock=some g->v'.ownBlock=some g->k=k')
  (hos:w'.os=w.os) (kZ:w'.tape=w.tape) (hout:w'.output=w.output) (hsize:w.heap.size<=w'.heap.size)
  (gV:∀k,k<w.heap.size->k≠E.β i->(∀j∈olds,(E.ν j).ownBlock≠some k)->w'.heap[k]? =w.heap[k]?):
  aY C (AS.bC (qg olds news) (AS.dP [(i,⟨T,cells'⟩)] S)) {E with M:=M',ν:=gK news E.ν} a w':=by
 obtain⟨C3,Xn,Hp,F7,C4,_⟩:=h.bx i _ hB;have Y3:E.β i<w.heap.size:=(Array.getElem?_eq_some_iff.1 C4).1;obtain⟨n1,n2,n3,n4,n5⟩:=dW (qg olds news) (AS.dP [(i,⟨T,cells'⟩)] S);have Xo:(AS.bC (qg olds news) (AS.dP [(i,⟨T,cells'⟩)] S)).t=S.t:=n2;have vW:∀j,(AS.bC (qg olds news) (AS.dP [(i,⟨T,cells'⟩)] S)).b j=if j=i then some ⟨T,cells'⟩else S.b j:=λj=>by
  rw[n3];by_cases e:j=i
  ·subst e;rw[if_pos rfl];exact AS.cw _ _ _
  rw[if_neg e];exact AS.bA _ _ _ _ e
 have ON:∀k R v,(k,R,v)∈news->cD (news.map (λn=>(n.1,gS.live n.2.1))) k=some (.live R):=λk R v hm=>by
  obtain⟨R',jZ⟩:=uS (l:=news.map (λn=>(n.1,gS.live n.2.1))) (j:=k) (R:=.live R) (List.mem_map.2 ⟨(k,R,v),hm,Y⟩);obtain⟨⟨k2,R2,v2⟩,Dy,e⟩:=List.mem_map.1 (oX jZ);have e1:k2=k:=congrArg Prod.fst e;have e2:gS.live R2=R':=congrArg Prod.snd e;rw[e1]at Dy;have:R2=R:=by
   have key:∀(l:List (Nat×Row×Value)),(l.map (·.1)).Nodup->(k,R2,v2)∈l->(k,R,v)∈l->R2=R:=by
    intro l
    induction l with
    |nil=>intro _ h;cases h
    |cons p l ih=>
     intro hn h1 h2;rw[List.map_cons,List.nodup_cons]at hn;rcases List.mem_cons.1 h1 with e1|e1<;>rcases List.mem_cons.1 h2 with e2|e2
     ·rw[<-e1]at e2;cases e2;rfl
     ·exact absurd (List.mem_map.2 ⟨_,e2,by rw[<-e1]⟩) hn.1
     ·exact absurd (List.mem_map.2 ⟨_,e1,by rw[<-e2]⟩) hn.1
     exact ih hn.2 e1 e2
   exact key news hnd Dy hm
  rw[jZ,<-e2,this]
 have OO:∀k R v,(k,R,v)∈news->(AS.bC (qg olds news) (AS.dP [(i,⟨T,cells'⟩)] S)).r k=.live R:=λk R v hm=>by
  rw[gx,qg,lT,ON k R v hm];rfl
 have OP:∀j,(∀R v,(j,R,v)∉news)->(AS.bC (qg olds news) (AS.dP [(i,⟨T,cells'⟩)] S)).r j=if j∈olds then .dead else S.r j:=λj hn=>by
  have e1:cD (news.map (λn=>(n.1,gS.live n.2.1))) j=none:=oW (λR hm=>by
   obtain⟨⟨k2,R2,v2⟩,Dy,e⟩:=List.mem_map.1 hm;cases e;exact hn R2 v2 Dy)
  rw[gx,qg,lT,e1];by_cases ho:j∈olds
  ·rw[if_pos ho];obtain⟨R',jZ⟩:=uS (l:=olds.map (λj=>(j,gS.dead))) (j:=j) (R:=.dead) (List.mem_map.2 ⟨j,ho,Y⟩);obtain⟨j2,_,e⟩:=List.mem_map.1 (oX jZ);cases e;rw[jZ];rfl
  rw[if_neg ho,oW (λR hm=>by obtain⟨j2,Dy,e⟩:=List.mem_map.1 hm;cases e;exact ho Dy)];rfl
 have EP:∀j,S.r j≠ .un->∀R v,(j,R,v)∉news:=λj hj R v hm=>hj (hnew j R v hm).1;have Y4:∀j,S.r j≠ .un->(AS.bC (qg olds news) (AS.dP [(i,⟨T,cells'⟩)] S)).r j≠ .un:=λj hj=>by
  rw[OP j (EP j hj)];split
  ·simp
  exact hj
 have ru:∀j∈olds,∀g,(E.ν j).ownBlock=some g->(C.w0.heap.size<=g\/C.nD g)/\(∀o,E.M g o=none)/\¬E.O g/\(∀n B,S.b n=some B->E.β n≠g)/\g<w.heap.size/\∃c e,w.heap[g]? =some (Obj.cells c e (0,0)):=λj hj g hg=>by
  obtain⟨R,hR⟩:=hold j hj;obtain⟨⟨us,q1,_⟩,q2⟩:=h.rx j R hR;obtain⟨q3,q4,q5,q6⟩:=q2 g hg;refine⟨q3,q4,q5,q6,fN h hR hg,?_⟩;rcases q1.2 with⟨q7,_⟩|⟨g',cap,cur,q7,_,q8,_⟩
  ·rw[q7]at hg;cases hg
  rw[q7]at hg;cases hg;exact⟨_,_,q8⟩
 have keep:∀x:AV,(∀j,x.mr j->S.r j≠ .un)->∀v,x.holds E v->x.holds {E with M:=M',ν:=gK news E.ν} v:=λx hx v hv=>
  AV.bR (E:=E) (E':={E with M:=M',ν:=gK news E.ν}) hM (λ_ _=>rfl) (λj hj=>iU (EP j (hx j hj))) hv
 have LU:∀b,b<w.heap.size->(∀o,E.M b o=none)->(∀j∈olds,(E.ν j).ownBlock≠some b)->∀o,M' b o=none:=λb h1 h2 h3 o=>by
  cases e:M' b o with
  |none=>rfl
  |some v=>
   rcases hmn b o v e with q|q|⟨j,q1,q2⟩
   ·rw[h2 o]at q;cases q
   ·omega
   exact absurd q2 (h3 j q1)
 have live:∀j R,(AS.bC (qg olds news) (AS.dP [(i,⟨T,cells'⟩)] S)).r j=.live R->(∃v,(j,R,v)∈news)\/((∀R v,(j,R,v)∉news)/\j∉olds/\S.r j=.live R):=λj R hj=>by
  by_cases hn:∃R v,(j,R,v)∈news
  ·obtain⟨R',v,hm⟩:=hn;rw[OO j R' v hm]at hj;cases hj;exact .inl ⟨v,hm⟩
  have hn:∀R v,(j,R,v)∉news:=λR v hm=>hn ⟨R,v,hm⟩;rw[OP j hn]at hj;by_cases ho:j∈olds
  ·rw[if_pos ho]at hj;cases hj
  rw[if_neg ho]at hj;exact .inr ⟨hn,ho,hj⟩
 have OQ:∀j R,S.r j=.live R->j∉olds->∀g,(E.ν j).ownBlock=some g->∀j'∈olds,(E.ν j').ownBlock≠some g:=λj R hR ho g hg j' hj' e=>by
  obtain⟨R',jZ⟩:=hold j' hj';have:=h.dK j j' R R' hR jZ g hg e;subst this;exact ho hj'
 exact{
  wf:=by
   refine⟨λs j hj=>?_,λs j hj=>?_,λj B dL x hx m hm=>?_,λj B dL x hx m hm=>?_⟩
   ·rw[Xo]at hj;obtain⟨B,dL⟩:=h.wf.tb s j hj;rw[vW];by_cases e:j=i
    ·exact⟨_,if_pos e⟩
    exact⟨B,by rw[if_neg e];exact dL⟩
   ·rw[Xo]at hj;exact Y4 j (h.wf.tr s j hj)
   ·rw[vW]at dL⊢;by_cases e:j=i
    ·rw[if_pos e]at dL;cases dL;exact absurd hm ((hcb x hx).1 m)
    rw[if_neg e]at dL;obtain⟨B2,hB2⟩:=h.wf.bb j B dL x hx m hm;by_cases e2:m=i
    ·exact⟨_,if_pos e2⟩
    exact⟨B2,by rw[if_neg e2];exact hB2⟩
   rw[vW]at dL;by_cases e:j=i
   ·rw[if_pos e]at dL;cases dL;obtain⟨R,v,Dy⟩:=(hcb x hx).2 m hm;rw[OO m R v Dy];simp
   rw[if_neg e]at dL;exact Y4 m (h.wf.br j B dL x hx m hm)
  marks:=by
   obtain⟨ds,d1,d2,d3⟩:=h.marks;refine⟨ds,d1,d2,λr hr=>?_⟩;obtain⟨p1,p2,p3⟩:=d3 r hr;refine⟨p1,p2,?_⟩;rw[gV r (Array.getElem?_eq_some_iff.1 p3).1 (λe=>by rw[e,C4]at p3;cases p3) (λj hj e=>by
    obtain⟨_,_,_,_,_,c,e2,q⟩:=ru j hj r e;rw[q]at p3;cases p3)]
   exact p3
  size:=by rw[n1];exact h.size
  os:=hos.trans h.os
  tape:=kZ.trans h.tape
  output:=hout.trans h.output
  grown:=Nat.le_trans h.grown hsize
  frame:=λk hk hown=>by
   rw[gV k (Nat.lt_of_lt_of_le hk h.grown) (λe=>by
    rcases C3 with q|q
    ·omega
    ·exact hown (C.vv _ (by rw[e];exact q))) (λj hj e=>by
    rcases(ru j hj k e).1 with q|q
    ·omega
    exact hown (C.vv _ q))]
   exact h.frame k hk hown
  m0:=Mem.le_trans h.m0 hM
  dc:=λb o v e=>by
   rcases hmn b o v e with q|q|⟨j,q1,q2⟩
   ·exact h.dc b o v q
   ·exact .inr (.inl (Nat.le_trans h.grown q))
   rcases(ru j q1 b q2).1 with q|q
   ·exact .inr (.inl q)
   exact .inr (.inr (C.vv _ q))
  cu:=hin
  tm:=λs=>by rw[Xo];exact keep _ (h.wf.tr s) _ (h.tm s)
  bx:=λj B dL=>by
   rw[vW]at dL;by_cases e:j=i
   ·rw[if_pos e]at dL;cases dL;subst e;exact⟨C3,hnb,Hp,us',Xm,oC⟩
   rw[if_neg e]at dL;obtain⟨p1,p2,p3,vs,p4,p5⟩:=h.bx j B dL;have hlt:=(Array.getElem?_eq_some_iff.1 p4).1;have hno:∀j'∈olds,(E.ν j').ownBlock≠some (E.β j):=λj' hj' q=>(ru j' hj' _ q).2.2.2.1 j B dL Y;refine⟨p1,LU _ hlt p2 hno,p3,vs,?_,p5.imp (λx hx v hv=>keep x (h.wf.br j B dL x hx) v hv)⟩;show w'.heap[E.β j]? =_;rw[gV _ hlt (λq=>e (h.inj j i B _ dL hB q)) hno];exact p4
  inj:=λj j' B B' h1 h2 e=>by
   have key:∀n B,(AS.bC (qg olds news) (AS.dP [(i,⟨T,cells'⟩)] S)).b n=some B->∃B',S.b n=some B':=λn B hn=>by
    rw[vW]at hn;by_cases e:n=i
    ·subst e;exact⟨_,hB⟩
    rw[if_neg e]at hn;exact⟨B,hn⟩
   obtain⟨B1,p1⟩:=key j B h1;obtain⟨B2,p2⟩:=key j' B' h2;exact h.inj j j' B1 B2 p1 p2 e
  rx:=λj R hj=>by
   have boxes:∀g,(∀n B,S.b n=some B->E.β n≠g)->∀n B,(AS.bC (qg olds news) (AS.dP [(i,⟨T,cells'⟩)] S)).b n=some B->E.β n≠g:=λg hg n B hn=>by
    rw[vW]at hn;by_cases e:n=i
    ·subst e;exact hg _ _ hB
    rw[if_neg e]at hn;exact hg n B hn
   rcases live j R hj with⟨v,hm⟩|⟨hn,ho,hR⟩
   ·rw[show({E with M:=M',ν:=gK news E.ν}:Env).ν j=v from fy hnd hm];obtain⟨p1,p2⟩:=hrow j R v hm;refine⟨p1,λg hg=>?_⟩;obtain⟨p3,p4,p5⟩:=p2 g hg;rcases p3 with⟨j',q1,q2⟩|p3
    ·obtain⟨o1,o2,o3,o4,_⟩:=ru j' q1 g q2;exact⟨o1,p4,o3,boxes g o4⟩
    refine⟨.inl (Nat.le_trans h.grown p3),p4,λq=>?_,boxes g (λn B hn q=>?_)⟩
    ·have:=(h.gM g q).1;omega
    obtain⟨_,_,_,vs,q4,_⟩:=h.bx n B hn;have:=(Array.getElem?_eq_some_iff.1 q4).1;omega
   rw[show({E with M:=M',ν:=gK news E.ν}:Env).ν j=E.ν j from iU hn];obtain⟨⟨us,p1,p2⟩,p3⟩:=h.rx j R hR;refine⟨⟨us,cA p1 λg hg=>gV g (fN h hR hg) (λe=>(p3 g hg).2.2.2 i _ hB e.symm) (OQ j R hR ho g hg),p2.mono hM⟩,λg hg=>?_⟩;obtain⟨p4,p5,p6,p7⟩:=p3 g hg;exact⟨p4,LU g (fN h hR hg) p5 (OQ j R hR ho g hg),p6,boxes g p7⟩
  dK:=λj j' R R' h1 h2 g e1 e2=>by
   have mixed:∀j R v j' R' g,(j,R,v)∈news->S.r j'=.live R'->j'∉olds->v.ownBlock=some g->(E.ν j').ownBlock=some g->False:=λj R v j' R' g hm jZ ho e1 e2=>by
    rcases((hrow j R v hm).2 g e1).1 with⟨j2,q1,q2⟩|q
    ·exact OQ j' R' jZ ho g e2 j2 q1 q2
    have:=fN h jZ e2;omega
   rcases live j R h1 with⟨v,hm⟩|⟨hn,ho,hR⟩<;>rcases live j' R' h2 with⟨v',hm'⟩|⟨hn',ho',jZ⟩
   ·rw[show({E with M:=M',ν:=gK news E.ν}:Env).ν j=v from fy hnd hm]at e1;rw[show({E with M:=M',ν:=gK news E.ν}:Env).ν j'=v' from fy hnd hm']at e2;exact OM j R v j' R' v' g hm hm' e1 e2
   ·rw[show({E with M:=M',ν:=gK news E.ν}:Env).ν j=v from fy hnd hm]at e1;rw[show({E with M:=M',ν:=gK news E.ν}:Env).ν j'=E.ν j' from iU hn']at e2;exact(mixed j R v j' R' g hm jZ ho' e1 e2).elim
   ·rw[show({E with M:=M',ν:=gK news E.ν}:Env).ν j=E.ν j from iU hn]at e1;rw[show({E with M:=M',ν:=gK news E.ν}:Env).ν j'=v' from fy hnd hm']at e2;exact(mixed j' R' v' j R g hm' hR ho e2 e1).elim
   rw[show({E with M:=M',ν:=gK news E.ν}:Env).ν j=E.ν j from iU hn]at e1;rw[show({E with M:=M',ν:=gK news E.ν}:Env).ν j'=E.ν j' from iU hn']at e2;exact h.dK j j' R R' hR jZ g e1 e2
  eT:=h.eT
  cU:=λk v e=>by
   rw[show({E with M:=M',ν:=gK news E.ν}:Env).ν k=E.ν k from iU (λR v hm=>by have:=(hnew k R v hm).2;have:=C.CA k _ e;omega)];exact h.cU k v e
  gM:=λb hb=>by
   obtain⟨p1,p2,p3⟩:=h.gM b hb;exact⟨Nat.lt_of_lt_of_le p1 hsize,LU b p1 p2 (λj hj e=>(ru j hj b e).2.2.1 hb),p3⟩
  jj:=by
   have hj:=C.jf S.g S.go E.O E.M M' w w' h.jj hM hin (λb o v e=>by
    rcases hmn b o v e with q|q|⟨j,q1,q2⟩
    ·exact .inl q
    ·exact .inr ⟨.inl (Nat.le_trans h.grown q),λq2=>by have:=(h.gM b q2).1;omega⟩
    ·obtain⟨o1,_,o3,_⟩:=ru j q1 b q2;exact .inr ⟨o1,o3⟩) (λb hb=>by
    have hlt:b<w.heap.size\/w.heap.size<=b:=Nat.lt_or_ge _ _;have hb':b<w.heap.size:=by
     rcases hb with⟨q,_⟩|q
     ·exact Nat.lt_of_lt_of_le q h.grown
     exact(h.gM b q).1
    refine gV b hb' (λe=>?_) (λj hj e=>?_)
    ·subst e;rcases hb with⟨q1,q2⟩|q
     ·rcases C3 with p|p
      ·omega
      exact q2 p
     exact Hp q
    obtain⟨o1,_,o3,_⟩:=ru j hj b e;rcases hb with⟨q1,q2⟩|q
    ·rcases o1 with p|p
     ·omega
     exact q2 p
    exact o3 q) hos kZ hout hsize
   rw[n4,n5];exact hj}
end swap
end
section
open Go.RowKit
inductive Oc where
 |s (x:SV)
 |r (R:Row)
def nh(M:Mem)(w:World):List Oc->List Value->Prop
 |[],[]=>True
 |.s x::l,v::vs=>x.h M v/\nh M w l vs
 |.r R::l,v::vs=>(∃us:List Value,w.ownsRow 0 R.E R.sz v R.n us/\SV.da M R.cells us)/\nh M w l vs
 |_,_=>False
def rowsOf:List Oc->List Row
 |[]=>[]
 |.s _::l=>rowsOf l
 |.r R::l=>R::rowsOf l
def bJ:List Oc->List Value->List (Row×Value)
 |.s _::l,_::vs=>bJ l vs
 |.r R::l,v::vs=>(R,v)::bJ l vs
 |_,_=>[]
def eI(c:List Oc)(us:List Value)(g:Nat):Prop:=∃p∈bJ c us,p.2.ownBlock=some g
def bP:List Nat->List Oc->List AV
 |ids,.s x::l=>.sv x::bP ids l
 |i::ids,.r _::l=>.row i::bP ids l
 |[],.r _::l=>.sv .any::bP [] l
 |_,[]=>[]
def BZ(l:List (Row×Value)):Prop:=l.Pairwise λp q=>∀g,p.2.ownBlock=some g->q.2.ownBlock≠some g
structure l9 (M:Mem) (w:World) (β:Nat) (T:TypeId) (c:List Oc) (us:List Value):Prop where
 hp:w.heap[β]? =some (.cells ⟨us⟩ T (0,0))
 al:nh M w c us
 nb:∀o,M β o=none
 nr:∀g,eI c us g->g≠β/\∀o,M g o=none
 ap:BZ (bJ c us)
theorem eV{M:Mem}{w:World}:∀{c:List Oc} {us:List Value},nh M w c us->(bJ c us).map (·.1)=rowsOf c
 |[],[],_=>rfl
 |.s _::l,_::vs,h=>eV (c:=l) (us:=vs) h.2
 |.r R::l,v::vs,h=>congrArg (R:: ·) (eV (c:=l) (us:=vs) h.2)
 |[],_::_,h=>h.elim
 |.s _::_,[],h=>h.elim
 |.r _::_,[],h=>h.elim
theorem iH{M:Mem}{w:World}:∀{c:List Oc} {us:List Value},nh M w c us->∀p∈bJ c us,∃vs:List Value,w.ownsRow 0 p.1.E p.1.sz p.2 p.1.n vs/\SV.da M p.1.cells vs
 |[],[],_,p,hp=>by cases hp
 |.s _::l,_::vs,h,p,hp=>iH (c:=l) (us:=vs) h.2 p hp
 |.r R::l,v::vs,h,p,hp=>by
  rcases List.mem_cons.1 hp with rfl|hp
  ·exact h.1
  exact iH (c:=l) (us:=vs) h.2 p hp
 |[],_::_,h,_,_=>h.elim
 |.s _::_,[],h,_,_=>h.elim
 |.r _::_,[],h,_,_=>h.elim
theorem fG{α β:Type}:∀{l:List α} {k:List β} {a:α} {b:β},(a,b)∈l.zip k->a∈l/\b∈k
 |_::_,_::_,_,_,h=>by
  rw[List.zip_cons_cons]at h;rcases List.mem_cons.1 h with e|e
  ·cases e;simp
  have:=fG e;exact⟨List.mem_cons_of_mem _ this.1,List.mem_cons_of_mem _ this.2⟩
 |[],_,_,_,h=>by simp at h
 |_::_,[],_,_,h=>by simp at h
theorem tu{α β:Type}:∀{l:List α} {k:List β},l.length=k.length->(l.zip k).map (·.1)=l
 |[],[],_=>rfl
 |_::l,_::k,h=>by rw[List.zip_cons_cons,List.map_cons,tu (by simpa using h)]
 |[],_::_,h=>by simp at h
 |_::_,[],h=>by simp at h
theorem ry:∀{ids:List Nat} {l:List (Row×Value)},ids.Nodup->BZ l->∀k R v k' R' v' g,(k,R,v)∈ids.zip l->(k',R',v')∈ids.zip l->v.ownBlock=some g->v'.ownBlock=some g->k=k'
 |i::ids,p::l,hn,ha,k,R,v,k',R',v',g,h1,h2,e1,e2=>by
  rw[List.zip_cons_cons]at h1 h2;rw[List.nodup_cons]at hn;obtain⟨SA,Xp⟩:=List.pairwise_cons.1 ha;rcases List.mem_cons.1 h1 with q1|q1<;>rcases List.mem_cons.1 h2 with q2|q2
  ·cases q1;cases q2;rfl
  ·cases q1;exact absurd e2 (SA (R',v') (fG q2).2 g e1)
  ·cases q2;exact absurd e1 (SA (R,v) (fG q1).2 g e2)
  exact ry hn.2 Xp k R v k' R' v' g q1 q2 e1 e2
 |[],_,_,_,_,_,_,_,_,_,_,h1,_,_,_=>by simp at h1
 |_::_,[],_,_,_,_,_,_,_,_,_,h1,_,_,_=>by simp at h1
theorem jQ{E:Env}{w:World}:∀{ids:List Nat} {c:List Oc} {us:List Value},ids.length=(rowsOf c).length->nh E.M w c us->(∀i p,(i,p)∈ids.zip (bJ c us)->E.ν i=p.2)->cj E (bP ids c) us
 |ids,[],[],_,_,_=>by cases ids<;>exact trivial
 |ids,.s x::l,v::vs,hl,h,hv=>by
  have ih:=jQ (E:=E) (w:=w) (ids:=ids) (c:=l) (us:=vs) hl h.2 hv;cases ids<;>exact⟨h.1,ih⟩
 |i::ids,.r R::l,v::vs,hl,h,hv=>by
  refine⟨(hv i (R,v) (by rw[bJ,List.zip_cons_cons];simp)).symm,jQ (w:=w) (ids:=ids) (c:=l) (us:=vs) (by simpa[rowsOf]using hl) h.2 (λj p hm=>hv j p ?_)⟩;rw[bJ,List.zip_cons_cons];exact List.mem_cons_of_mem _ hm
 |[],.r R::l,_::_,hl,_,_=>by simp[rowsOf]at hl
 |_,[],_::_,_,h,_=>h.elim
 |_,.s _::_,[],_,h,_=>h.elim
 |_,.r _::_,[],_,h,_=>h.elim
theorem jR:∀{ids:List Nat} {c:List Oc} (x:AV),x∈bP ids c->(∀j,¬x.mb j)/\∀j,x.mr j->j∈ids
 |ids,[],x,h=>by cases ids<;>simp[bP]at h
 |ids,.s y::l,x,h=>by
  have h':x∈AV.sv y::bP ids l:=by cases ids<;>exact h
  rcases List.mem_cons.1 h' with rfl|h'
  ·exact⟨λj e=>e,λj e=>e.elim⟩
  exact jR x h'
 |i::ids,.r _::l,x,h=>by
  rcases List.mem_cons.1 (show x∈AV.row i::bP ids l from h)with rfl|h'
  ·exact⟨λj e=>e,λj e=>by cases e;simp⟩
  obtain⟨h1,h2⟩:=jR x h';exact⟨h1,λj e=>List.mem_cons_of_mem _ (h2 j e)⟩
 |[],.r _::l,x,h=>by
  rcases List.mem_cons.1 (show x∈AV.sv .any::bP [] l from h)with rfl|h'
  ·exact⟨λj e=>e,λj e=>e.elim⟩
  exact jR x h'
def Lv(S:AS):List Nat->List Row->Prop
 |[],[]=>True
 |j::js,R::Rs=>S.r j=.live R/\Lv S js Rs
 |_,_=>False
theorem Lv.len{S:AS}:∀{js:List Nat} {Rs:List Row},Lv S js Rs->js.length=Rs.length
 |[],[],_=>rfl
 |_::_,_::_,h=>congrArg (· +1) (Lv.len h.2)
 |[],_::_,h=>h.elim
 |_::_,[],h=>h.elim
theorem Lv.mem{S:AS}:∀{js:List Nat} {Rs:List Row},Lv S js Rs->∀j∈js,∃R,S.r j=.live R
 |j::js,R::Rs,h,k,hk=>by
  rcases List.mem_cons.1 hk with rfl|hk
  ·exact⟨R,h.1⟩
  exact Lv.mem h.2 k hk
 |[],_,_,k,hk=>by cases hk
 |_::_,[],h,_,_=>h.elim
theorem ni{C:Ctx}{S:AS}{E:Env}{a:Act}{w:World}(h:aY C S E a w):∀{js:List Nat} {c:List Oc} {us:List Value},Lv S js (rowsOf c)->cj E (bP js c) us->nh E.M w c us/\bJ c us=(rowsOf c).zip (js.map E.ν)
 |[],[],[],_,_=>⟨aq,Y⟩
 |js,.s x::l,v::vs,hL,hv=>by
  have nT:cj E (AV.sv x::bP js l) (v::vs):=by cases js<;>exact hv
  obtain⟨h1,h2⟩:=ni h (js:=js) (c:=l) (us:=vs) hL nT.2;exact⟨⟨nT.1,h1⟩,h2⟩
 |j::js,.r R::l,v::vs,hL,hv=>by
  have hL:S.r j=.live R/\Lv S js (rowsOf l):=hL;have nT:cj E (AV.row j::bP js l) (v::vs):=hv;obtain⟨h1,h2⟩:=ni h (js:=js) (c:=l) (us:=vs) hL.2 nT.2;have e:v=E.ν j:=nT.1;obtain⟨q1,_⟩:=h.rx j R hL.1;rw[<-e]at q1;refine⟨⟨q1,h1⟩,?_⟩;rw[bJ,h2,e];rfl
 |[],.r _::_,_,hL,_=>hL.elim
 |_::_,[],_,hL,_=>hL.elim
 |[],[],_::_,_,hv=>by simp[bP]at hv;exact hv.elim
 |js,.s x::l,[],_,hv=>by
  have nT:cj E (AV.sv x::bP js l) []:=by cases js<;>exact hv
  exact nT.elim
 |_::_,.r _::_,[],_,hv=>hv.elim
theorem nj{α β:Type}:∀{l:List α} {k:List β} {b:β},l.length=k.length->b∈k->∃a,(a,b)∈l.zip k
 |a::l,c::k,b,h,hb=>by
  rcases List.mem_cons.1 hb with rfl|hb
  ·exact⟨a,by rw[List.zip_cons_cons];simp⟩
  obtain⟨a',h'⟩:=nj (l:=l) (k:=k) (by simpa using h) hb;exact⟨a',by rw[List.zip_cons_cons];exact List.mem_cons_of_mem _ h'⟩
 |[],[],_,_,hb=>by cases hb
 |[],_::_,_,h,_=>by simp at h
theorem k7{C:Ctx}{S:AS}{E:Env}{a:Act}{w:World}(h:aY C S E a w){i:Nat}{T:TypeId}{js:List Nat}{c:List Oc}(hB:S.b i=some ⟨T,bP js c⟩)(hL:Lv S js (rowsOf c))(hn:js.Nodup):
  ∃us,l9 E.M w (E.β i) T c us/\(∀g,eI c us g↔∃j∈js,(E.ν j).ownBlock=some g):=by
 obtain⟨_,q1,_,us,q2,q3⟩:=h.bx i _ hB;obtain⟨p1,p2⟩:=ni h hL q3;have hlen:=hL.len;have xh:∀g,eI c us g↔∃j∈js,(E.ν j).ownBlock=some g:=λg=>by
  unfold eI;rw[p2];constructor
  ·rintro⟨⟨R,v⟩,hm,hg⟩;obtain⟨j,hj,rfl⟩:=List.mem_map.1 (fG hm).2;exact⟨j,hj,hg⟩
  rintro⟨j,hj,hg⟩;obtain⟨R,hR⟩:=nj (l:=rowsOf c) (k:=js.map E.ν) (by simp[hlen]) (List.mem_map.2 ⟨j,hj,Y⟩);exact⟨(R,E.ν j),hR,hg⟩
 refine⟨us,⟨q2,p1,q1,λg hg=>?_,?_⟩,xh⟩
 ·obtain⟨j,hj,sG⟩:=(xh g).1 hg;obtain⟨R,hR⟩:=hL.mem j hj;obtain⟨_,q4⟩:=h.rx j R hR;obtain⟨_,q5,_,q6⟩:=q4 g sG;exact⟨λe=>q6 i _ hB e.symm,q5⟩
 rw[p2];have key:∀(js:List Nat) (Rs:List Row),Lv S js Rs->js.Nodup->BZ (Rs.zip (js.map E.ν)):=by
  intro js
  induction js with
  |nil=>intro Rs hL _;cases Rs with|nil=>exact List.Pairwise.nil|cons _ _=>exact hL.elim
  |cons j js ih=>
   intro Rs hL hn;cases Rs with
   |nil=>exact hL.elim
   |cons R Rs=>
    rw[List.nodup_cons]at hn;rw[List.map_cons,List.zip_cons_cons];refine List.pairwise_cons.2 ⟨λp hp g e1 e2=>?_,ih Rs hL.2 hn.2⟩;obtain⟨R',v'⟩:=p;obtain⟨j',hj',rfl⟩:=List.mem_map.1 (fG hp).2;obtain⟨R2,hR2⟩:=hL.2.mem j' hj';have:=h.dK j j' R R2 hL.1 hR2 g e1 e2;subst this;exact hn.1 hj'
 exact key js _ hL hn
def nk(M:Mem)(β:Nat):Env:=⟨λ_=>β,λ_=>.nilIface,λ_=>False,M⟩
def Fc.oy:Fc->Bool
 |.val _=>true
 |.box i=>Nat.beq i 1000
 |.row _=>false
def AV.oy:AV->Bool
 |.sv _=>true
 |.ptr i _=>Nat.beq i 1000
 |.cmp _ js=>js.all Fc.oy
 |_=>false
def Fc.I2(i:Nat):Fc->Fc
 |.box _=>.box i
 |c=>c
def AV.I2(i:Nat):AV->AV
 |.ptr _ o=>.ptr i o
 |.cmp t js=>.cmp t (js.map (Fc.I2 i))
 |x=>x
theorem C5{E:Env}{i:Nat}{x:AV}{v:Value}(hx:x.oy=true)(h:(x.I2 i).holds E v):x.holds (nk E.M (E.β i)) v:=by
 cases x with
 |sv s=>exact h
 |ptr k o=>exact h
 |cmp t js=>
  obtain⟨vs,rfl,h⟩:=h;refine⟨vs,Y,?_⟩;have key:∀(l:List Fc) (vs:List Value),(l.all Fc.oy)=true->tK E (l.map (Fc.I2 i)) vs->tK (nk E.M (E.β i)) l vs:=by
   intro l
   induction l with
   |nil=>intro vs _ h;cases vs with|nil=>trivial|cons _ _=>exact h.elim
   |cons c l ih=>
    intro vs ho h;rw[List.all_cons,Bool.and_eq_true]at ho;cases vs with
    |nil=>exact h.elim
    |cons u vs=>
     refine⟨?_,ih vs ho.2 h.2⟩;cases c with
     |val s=>exact h.1
     |box k=>exact h.1
     |row k=>exact(Bool.false_ne_true ho.1).elim
  exact key js vs hx h
 |_=>exact(Bool.false_ne_true hx).elim
theorem tv{E:Env}{i:Nat}:∀{l:List AV} {vs:List Value},(l.all AV.oy)=true->cj E (l.map (AV.I2 i)) vs->cj (nk E.M (E.β i)) l vs
 |[],[],_,_=>trivial
 |x::l,v::vs,h,hv=>by
  rw[List.all_cons,Bool.and_eq_true]at h;exact⟨C5 h.1 hv.1,tv h.2 hv.2⟩
 |[],_::_,_,h=>h.elim
 |_::_,[],_,h=>h.elim
def LV(P:Program)(f:FuncId)(args:List AV)(T:TypeId)(c0:List Oc)(res:SV)(c1:List Oc):Prop:=
 ∀(M:Mem) (w:World) (β:Nat) (vs us:List Value),M.cu w->l9 M w β T c0 us->cj (nk M β) args vs->
  Calls P f ⟨vs⟩ w λe w'=>∃v M' us',e=.returned v/\M.le M'/\(∀b o x,M' b o=some x->M b o=some x\/w.heap.size<=b\/eI c0 us b)/\M'.cu w'/\res.h M' v/\
   l9 M' w' β T c1 us'/\(∀g,eI c1 us' g->eI c0 us g\/w.heap.size<=g)/\w'.os=w.os/\w'.tape=w.tape/\w'.output=w.output/\w.heap.size<=w'.heap.size/\
   ∀k,k<w.heap.size->k≠β->¬eI c0 us k->w'.heap[k]? =w.heap[k]?
def LW(w:World)(M:Mem)(β:Nat)(c:List Oc)(us:List Value):Ctx:={w0:=w,M0:=M,own:=λk=>k=β\/eI c us k,nD:=λk=>k=β\/eI c us k,eT:=λi=>bif Nat.beq i 1000 then some β else none,cU:=λ_=>none,ro:=none,J:=λ_ _ _ _ _=>True,vv:=λ_ h=>h,CA:=λ_ _ h=>(by cases h),jf:=λ_ _ _ _ _ _ _ _ _ _ _ _ _ _ _ _=>trivial}
theorem qh{M:Mem}{w:World}:∀{ids:List Nat} {c:List Oc} {us:List Value},nh M w c us->∀{i:Nat} {R:Row},(i,R)∈ids.zip (rowsOf c)->∃v,(i,R,v)∈ids.zip (bJ c us)
 |ids,.s x::l,v::vs,h,i,R,hm=>by
  have hm':(i,R)∈ids.zip (rowsOf l):=hm;exact qh (c:=l) (us:=vs) h.2 hm'
 |k::ids,.r R'::l,v::vs,h,i,R,hm=>by
  have hm':(i,R)∈(k,R')::ids.zip (rowsOf l):=hm;rw[bJ,List.zip_cons_cons];rcases List.mem_cons.1 hm' with e|e
  ·cases e;exact⟨v,by simp⟩
  obtain⟨v',h'⟩:=qh (ids:=ids) (c:=l) (us:=vs) h.2 e;exact⟨v',List.mem_cons_of_mem _ h'⟩
 |[],.r _::_,_::_,_,_,_,hm=>by simp at hm
 |_,[],[],_,_,_,hm=>by simp[rowsOf]at hm
 |_,[],_::_,h,_,_,_=>h.elim
 |_,.s _::_,[],h,_,_,_=>h.elim
 |_,.r _::_,[],h,_,_,_=>h.elim
theorem B0{n:Nat}{args:List AV}{T:TypeId}{c:List Oc}{M:Mem}{w:World}{β:Nat}{vs us:List Value}(ids:List Nat)(hM:M.cu w)(ho:l9 M w β T c us)(hv:cj (nk M β) args vs)(Dq:args.all AV.oy=true)(hn:args.length<=n)(w8:ids.Nodup)(M3:ids.length=(rowsOf c).length):
  aY (LW w M β c us) (AS.vB n args [(1000,⟨T,bP ids c⟩)] (ids.zip (rowsOf c))) ⟨λ_=>β,gK (ids.zip (bJ c us)) (λ_=>.nilIface),λ_=>False,M⟩ {tmps:=⟨vs⟩++Array.replicate (n-(⟨vs⟩:Array Value).size) undef,defers:=[]} w:=by
 have hl:=hv.length;have M4:(bJ c us).length=(rowsOf c).length:=by rw[<-eV ho.al,List.length_map]
 have hnd:((ids.zip (bJ c us)).map (·.1)).Nodup:=by rw[tu (by omega)];exact w8
 have I3:∀s,(lG args s).oy=true:=λs=>by
  rcases pB (l:=args) (k:=s)with e|e
  ·rw[e];rfl
  exact List.all_eq_true.1 Dq _ e
 have Xq:∀x:AV,x.oy=true->(∀j,x.mb j->j=1000)/\∀j,¬x.mr j:=λx hx=>by
  cases x with
  |sv s=>exact⟨λj e=>e.elim,λj e=>e⟩
  |ptr k o=>exact⟨λj e=>by cases e;exact Nat.eq_of_beq_eq_true hx,λj e=>e⟩
  |cmp t js=>
   refine⟨λj e=>?_,λj e=>?_⟩
   ·exact Nat.eq_of_beq_eq_true (List.all_eq_true.1 hx _ e)
   exact Bool.false_ne_true (List.all_eq_true.1 hx _ e)
  |_=>exact(Bool.false_ne_true hx).elim
 have hall:cj ⟨λ_=>β,gK (ids.zip (bJ c us)) (λ_=>.nilIface),λ_=>False,M⟩ args vs:=by
  refine hv.imp (λx hx v hh=>?_);exact AV.bR (E:=nk M β) (E':=⟨λ_=>β,gK (ids.zip (bJ c us)) (λ_=>.nilIface),λ_=>False,M⟩) (Mem.le_refl _) (λ_ _=>rfl) (λj hj=>absurd hj ((Xq x (List.all_eq_true.1 Dq x hx)).2 j)) hh
 have live:∀j R,(AS.vB n args [(1000,⟨T,bP ids c⟩)] (ids.zip (rowsOf c))).r j=.live R->(j,R)∈ids.zip (rowsOf c):=λj R hj=>by
  have hj:(match vp (ids.zip (rowsOf c)) j with|some R=>gS.live R|none=>.un)=.live R:=hj;cases e:vp (ids.zip (rowsOf c)) j with
  |none=>rw[e]at hj;cases hj
  |some R'=>rw[e]at hj;cases hj;exact sY e
 have isLive:∀j∈ids,(AS.vB n args [(1000,⟨T,bP ids c⟩)] (ids.zip (rowsOf c))).r j≠ .un:=λj hj=>by
  have key:∀(ids:List Nat) (Rs:List Row),ids.length=Rs.length->j∈ids->∃R,vp (ids.zip Rs) j=some R:=by
   intro ids
   induction ids with
   |nil=>intro _ _ h;cases h
   |cons k ids ih=>
    intro Rs hl hm;cases Rs with
    |nil=>simp at hl
    |cons R Rs=>
     rw[List.zip_cons_cons,vp];by_cases e:j=k
     ·subst e;exact⟨R,by simp⟩
     rw[dV e];rcases List.mem_cons.1 hm with q|q
     ·exact absurd q e
     exact ih Rs (by simpa using hl) q
  obtain⟨R,hR⟩:=key ids _ M3 hj;show(match vp (ids.zip (rowsOf c)) j with|some R=>gS.live R|none=>.un)≠ .un;rw[hR];simp
 have box:∀j B,(AS.vB n args [(1000,⟨T,bP ids c⟩)] (ids.zip (rowsOf c))).b j=some B->j=1000/\B=⟨T,bP ids c⟩:=λj B h=>by
  have:=kn h;simpa using this
 have DV:(AS.vB n args [(1000,⟨T,bP ids c⟩)] (ids.zip (rowsOf c))).b 1000=some ⟨T,bP ids c⟩:=rfl
 exact{
  wf:=by
   refine⟨λs j hj=>?_,λs j hj=>?_,λi B hB x hx j hj=>?_,λi B hB x hx j hj=>?_⟩
   ·have:=(Xq _ (I3 s)).1 j hj;subst this;exact⟨_,DV⟩
   ·exact absurd hj ((Xq _ (I3 s)).2 j)
   ·obtain⟨rfl,rfl⟩:=box i B hB;exact absurd hj ((jR x hx).1 j)
   obtain⟨rfl,rfl⟩:=box i B hB;exact isLive j ((jR x hx).2 j hj)
  marks:=⟨[],Y,List.nodup_nil,by simp⟩
  size:=by simp[AS.vB];omega
  os:=rfl
  tape:=rfl
  output:=rfl
  grown:=Nat.le_refl _
  frame:=λ_ _ _=>rfl
  m0:=Mem.le_refl _
  dc:=λ_ _ _ e=>.inl e
  cu:=hM
  tm:=λs=>AH hall s
  bx:=λi B h=>by
   obtain⟨rfl,rfl⟩:=box i B h;refine⟨.inr (.inl Y),ho.nb,λh=>h,us,ho.hp,?_⟩;exact jQ (w:=w) M3 ho.al (λj p hm=>fy (R:=p.1) (v:=p.2) hnd hm)
  inj:=λi j B1 B2 hi hj _=>by rw[(box i B1 hi).1,(box j B2 hj).1]
  rx:=λj R hj=>by
   obtain⟨v,hm⟩:=qh ho.al (live j R hj);have hν:gK (ids.zip (bJ c us)) (λ_=>Value.nilIface) j=v:=fy hnd hm;show(∃vs:List Value,w.ownsRow 0 R.E R.sz (gK (ids.zip (bJ c us)) (λ_=>.nilIface) j) R.n vs/\SV.da M R.cells vs)/\_;rw[hν];refine⟨iH ho.al (R,v) (fG hm).2,λg hg=>?_⟩;have hg:v.ownBlock=some g:=by rw[<-hν];exact hg
   have hb:eI c us g:=⟨(R,v),(fG hm).2,hg⟩;obtain⟨q1,q2⟩:=ho.nr g hb;refine⟨.inr (.inr hb),q2,λh=>h,λk B _ e=>q1 e.symm⟩
  dK:=λj j' R R' h1 h2 g e1 e2=>by
   obtain⟨v,hm⟩:=qh ho.al (live j R h1);obtain⟨v',hm'⟩:=qh ho.al (live j' R' h2);have hν:gK (ids.zip (bJ c us)) (λ_=>Value.nilIface) j=v:=fy hnd hm;have Xr:gK (ids.zip (bJ c us)) (λ_=>Value.nilIface) j'=v':=fy hnd hm';exact ry w8 ho.ap j R v j' R' v' g hm hm' (by rw[<-hν];exact e1) (by rw[<-Xr];exact e2)
  eT:=λi b e=>by
   simp only[LW]at e;cases h:Nat.beq i 1000 with
   |false=>rw[h]at e;cases e
   |true=>rw[h]at e;cases e;rfl
  cU:=λi v e=>by cases e
  gM:=λb e=>e.elim
  jj:=trivial}
theorem Bq{P:Program}{f:FuncId}{fn:Func}{code:Code}{args:List AV}{T:TypeId}{c0 c1:List Oc}{res:SV}(ids:List Nat)(hf:P.funcs[f]? =some fn)(hb:fn.body=some code)(hn:args.length<=fn.ntmps)(Dq:args.all AV.oy=true)(w8:ids.Nodup)(M3:ids.length=(rowsOf c0).length)
  (h:∀(w:World) (M:Mem) (β:Nat) (us:List Value),Ok P (LW w M β c0 us) code (AS.vB fn.ntmps args [(1000,⟨T,bP ids c0⟩)] (ids.zip (rowsOf c0))) (λe S=>(e=.normal\/e=.ret)/\DF P S fn.results.toList res/\∃ks:List Nat,S.b 1000=some ⟨T,bP ks c1⟩/\Lv S ks (rowsOf c1)/\ks.Nodup)):LV P f args T c0 res c1:=by
 intro M w β vs us hM ho hv;refine eU Y hf hb (B0 ids hM ho hv Dq hn w8 M3) (h w M β us) ?_;rintro S' E a w' ⟨hr,ks,hB,hL,hk⟩ hh;obtain⟨v,hv,hx⟩:=(ue.sv hr).run hh;have hβ:E.β 1000=β:=hh.eT 1000 β Y;obtain⟨us',ho',gV⟩:=k7 hh hB hL hk;rw[hβ]at ho';refine⟨v,hv,v,E.M,us',Y,hh.m0,λb o x e=>?_,hh.cu,hx,ho',λg hg=>?_,hh.os,hh.tape,hh.output,hh.grown,λk hk hne hno=>hh.frame k hk (λe=>e.elim hne hno)⟩
 ·rcases hh.dc b o x e with q|q|q|q
  ·exact .inl q
  ·exact .inr (.inl q)
  ·rw[show b=β from q,ho'.nb o]at e;cases e
  exact .inr (.inr q)
 obtain⟨j,hj,sG⟩:=(gV g).1 hg;obtain⟨R,hR⟩:=hL.mem j hj;obtain⟨_,q⟩:=hh.rx j R hR;rcases(q g sG).1 with q1|q1|q1
 ·exact .inr q1
 ·exact absurd q1 (ho'.nr g hg).1
 exact .inl q1
end
section
open Go.RowKit
def Un(S:AS):List Nat->Prop
 |[]=>True
 |k::ks=>(S.r k=.un/\k<1000)/\Un S ks
theorem Un.mem{S:AS}:∀{ks:List Nat},Un S ks->∀k∈ks,S.r k=.un/\k<1000
 |k::ks,h,j,hj=>by
  rcases List.mem_cons.1 hj with rfl|hj
  ·exact h.1
  exact Un.mem h.2 j hj
 |[],_,j,hj=>by cases hj
theorem Un.congr{S S':AS}:∀{ks:List Nat},(∀k∈ks,S'.r k=S.r k)->Un S ks->Un S' ks
 |[],_,_=>trivial
 |k::ks,h,hu=>⟨by rw[h k (by simp)];exact hu.1,Un.congr (λj hj=>h j (List.mem_cons_of_mem _ hj)) hu.2⟩
theorem Lv.congr{S S':AS}:∀{js:List Nat} {Rs:List Row},(∀k∈js,S'.r k=S.r k)->Lv S js Rs->Lv S' js Rs
 |[],[],_,_=>trivial
 |j::js,R::Rs,h,hl=>⟨by rw[h j (by simp)];exact hl.1,Lv.congr (λk hk=>h k (List.mem_cons_of_mem _ hk)) hl.2⟩
 |[],_::_,_,h=>h.elim
 |_::_,[],_,h=>h.elim
def sO(js ks:List Nat)(c:List Oc):List (Nat×gS):=js.map (λj=>(j,gS.dead))++(ks.zip (rowsOf c)).map (λp=>(p.1,.live p.2))
theorem zD:∀(ks:List Nat) (l:List (Row×Value)),(ks.zip l).map (λn=>(n.1,gS.live n.2.1))=(ks.zip (l.map (·.1))).map (λp=>(p.1,.live p.2))
 |[],_=>rfl
 |_::_,[]=>rfl
 |k::ks,p::l=>by rw[List.map_cons,List.zip_cons_cons,List.zip_cons_cons,List.map_cons,List.map_cons,zD ks l]
theorem zE{M:Mem}{w:World}{c:List Oc}{us:List Value}(h:nh M w c us)(js ks:List Nat):qg js (ks.zip (bJ c us))=sO js ks c:=by
 unfold qg sO;rw[zD,eV h]
section steps
variable {P:Program}{C:Ctx}{ops:Array Oper}{S:AS}{nd:Bool}{K:List Ac->AS->Prop}{rest:List Oper}{acc:List Ac}
variable {gd:Option (Nat×Bool)}{rg:List Nat}{d:Nat}{ty:TypeId}{pos:String}{aft:Array Edge}{x y z:Operand}{T U E0:TypeId}
theorem aY.Hq{E:Env}{a:Act}{w w':World}(h:aY C S E a w){i:Nat}{js ks:List Nat}{c0 c1:List Oc}{us us':List Value}{M':Mem}(hB:S.b i=some ⟨T,bP js c0⟩)(hL:Lv S js (rowsOf c0))(hks:ks.Nodup)(xk:ks.length=(rowsOf c1).length)(LX:Un S ks)
  (uT:∀g,eI c0 us g↔∃j∈js,(E.ν j).ownBlock=some g) (hM:E.M.le M') (hn:∀b o x,M' b o=some x->E.M b o=some x\/w.heap.size<=b\/eI c0 us b) (hin:M'.cu w') (ho:l9 M' w' (E.β i) T c1 us') (hg:∀g,eI c1 us' g->eI c0 us g\/w.heap.size<=g)
  (hos:w'.os=w.os) (kZ:w'.tape=w.tape) (hout:w'.output=w.output) (hsize:w.heap.size<=w'.heap.size) (gV:∀k,k<w.heap.size->k≠E.β i->¬eI c0 us k->w'.heap[k]? =w.heap[k]?):
  ∃E':Env,E'.M=M'/\E'.β=E.β/\aY C (AS.bC (sO js ks c1) (AS.dP [(i,⟨T,bP ks c1⟩)] S)) E' a w':=by
 have M4:(bJ c1 us').length=(rowsOf c1).length:=by rw[<-eV ho.al,List.length_map]
 have hnd:((ks.zip (bJ c1 us')).map (·.1)).Nodup:=by rw[tu (by omega)];exact hks
 rw[<-zE ho.al js ks];refine⟨{E with M:=M',ν:=gK (ks.zip (bJ c1 us')) E.ν},Y,Y,h.OL hB js (ks.zip (bJ c1 us')) (λj hj=>hL.mem j hj) (λk R v hm=>LX.mem k (fG hm).1) hnd hM (λb o x e=>?_) hin ho.hp ho.nb ?_ (λx hx=>?_) (λk R v hm=>?_) (ry hks ho.ap) hos kZ hout hsize (λk hk hne hno=>gV k hk hne (λq=>?_))⟩
 ·rcases hn b o x e with q|q|q
  ·exact .inl q
  ·exact .inr (.inl q)
  exact .inr (.inr ((uT b).1 q))
 ·exact jQ (E:={E with M:=M',ν:=gK (ks.zip (bJ c1 us')) E.ν}) (w:=w') xk ho.al (λj p hm=>fy (R:=p.1) (v:=p.2) hnd hm)
 ·obtain⟨q1,q2⟩:=jR x hx;refine⟨q1,λj hj=>?_⟩;have hj:=q2 j hj;have key:∀(ks:List Nat) (l:List (Row×Value)),ks.length=l.length->j∈ks->∃R v,(j,R,v)∈ks.zip l:=by
   intro ks
   induction ks with
   |nil=>intro _ _ h;cases h
   |cons k ks ih=>
    intro l hl hm;cases l with
    |nil=>simp at hl
    |cons p l=>
     rw[List.zip_cons_cons];rcases List.mem_cons.1 hm with q|q
     ·subst q;exact⟨p.1,p.2,by simp⟩
     obtain⟨R,v,h⟩:=ih l (by simpa using hl) q;exact⟨R,v,List.mem_cons_of_mem _ h⟩
  exact key ks _ (by omega) hj
 ·refine⟨iH ho.al (R,v) (fG hm).2,λg yo=>?_⟩;have hb:eI c1 us' g:=⟨(R,v),(fG hm).2,yo⟩;obtain⟨q1,q2⟩:=ho.nr g hb;refine⟨?_,q2,q1⟩;rcases hg g hb with q|q
  ·exact .inl ((uT g).1 q)
  exact .inr q
 obtain⟨j,hj,e⟩:=(uT k).1 q;exact hno j hj e
theorem RT.wA(hg:Gd ops S gd rg){f:FuncId}[eC P f]{g:Operand}{xs:Array Operand}{at_:Array TypeId}{args:List AV}{T:TypeId}{c0 c1:List Oc}{res:SV}(hp:LV P f args T c0 res c1)(i:Nat)(js ks:List Nat)(hB:S.b i=some ⟨T,bP js c0⟩)(hL:Lv S js (rowsOf c0))(I4:js.Nodup)(hks:ks.Nodup)(xk:ks.length=(rowsOf c1).length)(LX:Un S ks)
  (Dq:args.all AV.oy=true) (hf:S.ev g=.sv (.v (.func (.func f) #[] #[]))) (hargs:oE S xs.toList (args.map (AV.I2 i))) (hd:d<S.n)
  (next:RunT P C ops nd K rest (⟨rg++(aW g++xs.toList.flatMap aW),[i],js++ks,⟨some (d,.sv res),[(i,⟨T,bP ks c1⟩)],sO js ks c1⟩⟩::acc) ((AS.bC (sO js ks c1) (AS.dP [(i,⟨T,bP ks c1⟩)] S)).set d (.sv res))):RunT P C ops nd K (⟨some d,.call ⟨.value g,xs,at_⟩,ty,pos,aft,gd⟩::rest) acc S:=by
 refine .inl ⟨_,[i],js++ks,_,?_,next⟩;rintro S' hn ht hb hr k a w L Q ho ⟨E,h⟩ OR;refine bV (C:=C) ho (hg.wanted h (λs hs=>ht s (List.mem_append_left _ hs)) Y) ?_;have sF:a.eval g=.func (.func f) #[] ⟨[]⟩:=by
  have h1:=h.ev g;rw[bj (λ_ h=>List.mem_append_right _ (List.mem_append_left _ h)) ht,hf]at h1;exact h1
 have hall:=tv Dq (oE.vals h hargs (λs hs=>ht s (List.mem_append_right _ (List.mem_append_right _ hs))));have dL:S'.b i=some ⟨T,bP js c0⟩:=by rw[hb i (by simp)];exact hB
 have I5:Lv S' js (rowsOf c0):=hL.congr (λk hk=>hr k (List.mem_append_left _ hk));have Xs:Un S' ks:=LX.congr (λk hk=>hr k (List.mem_append_right _ hk));obtain⟨us,Hr,uT⟩:=k7 h dL I5 I4;refine bW (C:=C) (by intro c h;cases h) (jA sF) ?_;rw[List.append_nil];refine⟨λh=>by simp at h,fL ((hp E.M w (E.β i) _ us h.cu Hr hall).mono ?_)⟩;rintro e w' ⟨v,M',us',rfl,hM,hnew,hin,hv,Dn,I6,hos,kZ,hout,hsize,gV⟩;obtain⟨E',e1,e2,h1⟩:=h.Hq dL I5 hks xk Xs uT hM hnew hin Dn I6 hos kZ hout hsize gV;refine OR _ _ ⟨_,h1.put (x:=.sv res) (v:=v) (by show res.h E'.M v;rw[e1];exact hv) ?_ er⟩;rw[(dW _ _).1];show d<S'.n;omega
theorem C6{f:FuncId}[eC P f]{o:Option Nat}{g:Operand}{xs:Array Operand}{at_:Array TypeId}{a:Act}{w:World}{bs:List Value}(sF:a.eval g=.func (.func f) ⟨bs⟩ #[]):
  (execOp a.eval ⟨o,.call ⟨.value g,xs,at_⟩,ty,pos,aft,gd⟩).run P w=.ok (.enter f ⟨bs++xs.toList.map a.eval⟩) w:=by
 have e2:(⟨bs⟩:Array Value)++xs.map a.eval=⟨bs++xs.toList.map a.eval⟩:=by apply Array.ext';simp
 have e1:=eC.run (P:=P) (f:=f) (⟨bs⟩++xs.map a.eval) w;rw[<-e2];simp[execOp,resolve,sF,Deferred.ofValue,invoke,e1]
theorem RT.Hs(hg:Gd ops S gd rg){g:FuncId}{i:Nat}(hx:S.ev x=.ptr i 0)(hd:d<S.n)
  (next:RunT P C ops nd K rest (⟨rg++aW x,[],[],⟨some (d,.cmp (.MF g) [.box i]),[],[]⟩⟩::acc) (S.set d (.cmp (.MF g) [.box i]))):RunT P C ops nd K (⟨some d,.makeFunc (.func g) #[x] #[],ty,pos,aft,gd⟩::rest) acc S:=
 RT.value hg (aW x) [] [] (.cmp (.MF g) [.box i]) hd (by intro c h;cases h) (λS' ht _ _ E a w h=>by
  have hx':S'.ev x=.ptr i 0:=by rw[bj (λ_ h=>h) ht,hx]
  have h1:=h.ev x;rw[hx']at h1;obtain⟨l1,l2⟩:=gz h.wf hx';refine⟨.func (.func g) #[a.eval x] #[],by simp[execOp,Instr.makeFunc],⟨[a.eval x],Y,h1,aq⟩,λj e=>?_,λj e=>?_⟩
  ·have:j=i:=by simpa[AV.mb]using e
   exact l1 j this
  simp[AV.mr]at e) next
theorem RT.fD(hg:Gd ops S gd rg){i o:Nat}(hx:S.ev x=.ptr i o)(hd:d<S.n)
  (next:RunT P C ops nd K rest (⟨rg++aW x,[],[],⟨some (d,.ptr i o),[],[]⟩⟩::acc) (S.set d (.ptr i o))):RunT P C ops nd K (⟨some d,.nilCheck x,ty,pos,aft,gd⟩::rest) acc S:=
 RT.value hg (aW x) [] [] (.ptr i o) hd (by intro c h;cases h) (λS' ht _ _ E a w h=>by
  have hx':S'.ev x=.ptr i o:=by rw[bj (λ_ h=>h) ht,hx]
  have h1:=h.ev x;rw[hx']at h1;have h2:a.eval x=.pointer (some ⟨E.β i,o,none⟩):=h1;exact⟨a.eval x,by simp[execOp,h2],h1,gz h.wf hx'⟩) next
class I7 (P:Program) (T:TypeId):Prop where
 u:P.underlying T=some (.pointer (P.pointee T))
theorem RT.LY(hg:Gd ops S gd rg)[tT:I7 P T]{i o:Nat}(hx:S.ev x=.ptr i o)(hy:S.ev y=.sv (.v (.pointer none)))(hd:d<S.n)
  (next:RunT P C ops nd K rest (⟨rg++(aW x++aW y),[],[],⟨some (d,.sv (.v (.bool false))),[],[]⟩⟩::acc) (S.set d (.sv (.v (.bool false))))):RunT P C ops nd K (⟨some d,.binOp .eql T x y U,ty,pos,aft,gd⟩::rest) acc S:=
 RT.value hg (aW x++aW y) [] [] (.sv (.v (.bool false))) hd (by intro c h;cases h) (λS' ht _ _ E a w h=>by
  have h1:=h.ev x;rw[bj (λ_ h=>List.mem_append_left _ h) ht,hx]at h1;have h2:=h.ev y;rw[bj (λ_ h=>List.mem_append_right _ h) ht,hy]at h2;have h1:a.eval x=.pointer (some ⟨E.β i,o,none⟩):=h1;have h2:a.eval y=.pointer none:=h2;have e:=run_eql_pointer_nil (P:=P) w T (some ⟨E.β i,o,none⟩) tT.u;refine⟨.bool false,?_,Y,er⟩;simp[execOp,h1,h2,eqGuard,e]) next
def Fc.av:Fc->AV
 |.val s=>.sv s
 |.box i=>.ptr i 0
 |.row i=>.row i
theorem RT.zF(hg:Gd ops S gd rg){i:Nat}{js:List Fc}{s:Fc}(hx:S.ev x=.cmp .rH js)(hi:js[i]? =some s)(hd:d<S.n)
  (next:RunT P C ops nd K rest (⟨rg++aW x,[],[],⟨some (d,s.av),[],[]⟩⟩::acc) (S.set d s.av)):RunT P C ops nd K (⟨some d,.extract x i,ty,pos,aft,gd⟩::rest) acc S:=
 RT.value hg (aW x) [] [] s.av hd (by intro c h;cases h) (λS' ht _ _ E a w h=>by
  have hx':S'.ev x=.cmp .rH js:=by rw[bj (λ_ h=>h) ht,hx]
  have h1:=h.ev x;rw[hx']at h1;obtain⟨l1,l2⟩:=gz h.wf hx';obtain⟨vs,hv,hall⟩:=h1;have hv:a.eval x=.tuple ⟨vs⟩:=hv;obtain⟨u,hu,hs⟩:=hall.get hi;have hm:=List.mem_of_getElem? hi;refine⟨u,by simp[execOp,hv,Instr.extract,hu],?_,λj e=>?_,λj e=>?_⟩
  ·cases s<;>exact hs
  ·cases s with
   |val s=>exact e.elim
   |box k=>have e:j=k:=e;subst e;exact l1 j hm
   |row k=>exact e.elim
  cases s with
  |val s=>exact e.elim
  |box k=>exact e.elim
  |row k=>have e:j=k:=e;subst e;exact l2 j hm) next
def Xt(tp:Bool)(p:Value)(rs:List Value):Value:=bif tp then .tuple ⟨p::rs⟩else p
def LZ(P:Program)(f:FuncId)(args:List SV)(tp:Bool)(rest:List SV)(T:TypeId)(c:List Oc):Prop:=
 ∀(M:Mem) (w:World) (vs:List Value),M.cu w->SV.da M args vs->
  Calls P f ⟨vs⟩ w λe w'=>∃β rs M' us,e=.returned (Xt tp (.pointer (some ⟨β,0,none⟩)) rs)/\M.le M'/\(∀b o x,M' b o=some x->M b o=some x\/w.heap.size<=b)/\M'.cu w'/\SV.da M' rest rs/\
   l9 M' w' β T c us/\w.heap.size<=β/\(∀g,eI c us g->w.heap.size<=g)/\Below w.heap.size w w'
theorem ER{w:World}{M:Mem}{S':AS}{E:Env}{a:Act}{w':World}{k:Nat}{ks:List Nat}{c:List Oc}(hB:S'.b k=some ⟨T,bP ks c⟩)(hL:Lv S' ks (rowsOf c))(hk:ks.Nodup)(hh:aY (AA w M) S' E a w'):
  ∃us,M.le E.M/\(∀b o x,E.M b o=some x->M b o=some x\/w.heap.size<=b)/\E.M.cu w'/\l9 E.M w' (E.β k) T c us/\w.heap.size<=E.β k/\(∀g,eI c us g->w.heap.size<=g)/\Below w.heap.size w w':=by
 obtain⟨us,ho,gV⟩:=k7 hh hB hL hk;refine⟨us,hh.m0,λb o x e=>?_,hh.cu,ho,(hh.bx k _ hB).1.elim id (λh=>h.elim),λg hg=>?_,hh.os,hh.tape,hh.output,hh.grown,λk hk=>hh.frame k hk (λh=>h)⟩
 ·rcases hh.dc b o x e with h|h|h
  ·exact .inl h
  ·exact .inr h
  exact h.elim
 obtain⟨j,hj,sG⟩:=(gV g).1 hg;obtain⟨R,hR⟩:=hL.mem j hj;exact((hh.rx j R hR).2 g sG).1.elim id (λh=>h.elim)
theorem zG{f:FuncId}{fn:Func}{code:Code}{args:List SV}{s:SV}{c:List Oc}{t1 t2:Nat}(hf:P.funcs[f]? =some fn)(hb:fn.body=some code)(hn:args.length<=fn.ntmps)(hres:fn.results=#[.tmp t1,.tmp t2])
  (h:∀(w:World) (M:Mem) (vs:List Value),SV.da M args vs->Ok P (AA w M) code (AS.init fn.ntmps args) (λe S=>(e=.normal\/e=.ret)/\∃(k:Nat) (ks:List Nat),S.t t1=.ptr k 0/\S.t t2=.sv s/\S.b k=some ⟨T,bP ks c⟩/\Lv S ks (rowsOf c)/\ks.Nodup)):LZ P f args true [s] T c:=by
 intro M w vs hM hvs;refine eU Y hf hb (iF hM hvs hn) (h w M vs hvs) ?_;rintro S' E a w' ⟨k,ks,L0,OS,hB,hL,hk⟩ hh;have h1:=hh.tm t1;rw[L0]at h1;have h1:a.tmps.getD t1 undef=.pointer (some ⟨E.β k,0,none⟩):=h1;have h2:=hh.tm t2;rw[OS]at h2;obtain⟨us,q1,q2,q3,q4,q5,q6,q7⟩:=ER hB hL hk hh;refine⟨.tuple #[.pointer (some ⟨E.β k,0,none⟩),a.tmps.getD t2 undef],?_,E.β k,[a.tmps.getD t2 undef],E.M,us,Y,q1,q2,q3,⟨h2,aq⟩,q4,q5,q6,q7⟩;rw[Array.getD_eq_getD_getElem?]at h1;simp[results,hres,h1]
theorem aY.B3{a:Act}{w:World}:∀(ks:List Nat) (l:List (Row×Value)) {S:AS} {E:Env},aY C S E a w->ks.length=l.length->ks.Nodup->Un S ks->(∀p∈l,∃vs:List Value,w.ownsRow 0 p.1.E p.1.sz p.2 p.1.n vs/\SV.da E.M p.1.cells vs)->BZ l->(∀p∈l,∀g,p.2.ownBlock=some g->CD C S E g)->
  ∃E':Env,E'.M=E.M/\E'.β=E.β/\E'.O=E.O/\(∀i p,(i,p)∈ks.zip l->E'.ν i=p.2)/\(∀i,i∉ks->E'.ν i=E.ν i)/\aY C (AS.bC ((ks.zip l).map (λn=>(n.1,.live n.2.1))) S) E' a w
 |[],[],S,E,h,_,_,_,_,_,_=>⟨E,Y,Y,Y,λi p hm=>(by simp at hm),λ_ _=>Y,h⟩
 |k::ks,p::l,S,E,h,hl,hn,hu,ho,ha,hf=>by
  obtain⟨R,v⟩:=p;rw[List.nodup_cons]at hn;obtain⟨SA,Xp⟩:=List.pairwise_cons.1 ha;obtain⟨vs,Hr,Dn⟩:=ho (R,v) (by simp);have h1:=h.xg hu.1.1 hu.1.2 [] none (.inl ⟨Y,Y⟩) (R':=R) Hr Dn (λg hg=>.inr (hf (R,v) (by simp) g hg)) (lH w none);have hu':Un (AS.bC ([]++[(k,.live R)]) S) ks:=hu.2.congr (λj hj=>by
   show(AS.kR S k _).r j=_;exact AS.gD _ _ _ _ (λe=>hn.1 (e▸hj)))
  obtain⟨E',q1,q2,q3,q4,q5,q6⟩:=aY.B3 ks l h1 (by simpa using hl) hn.2 hu' (λp hp=>ho p (List.mem_cons_of_mem _ hp)) Xp (λp hp g hg=>by
   obtain⟨f1,f2,f3,f4,f5⟩:=hf p (List.mem_cons_of_mem _ hp) g hg;refine⟨f1,f2,f3,f4,λj R' jZ e=>?_⟩;have jZ:(AS.kR S k (.live R)).r j=.live R':=jZ;by_cases ej:j=k
   ·subst ej;have e:(if j=j then v else E.ν j).ownBlock=some g:=e;rw[if_pos rfl]at e;exact SA p hp g e hg
   rw[AS.gD _ _ _ _ ej]at jZ;have e:(if j=k then v else E.ν j).ownBlock=some g:=e;rw[if_neg ej]at e;exact f5 j R' jZ e)
  refine⟨E',q1,q2,q3,λi p hm=>?_,λi hi=>?_,q6⟩
  ·rw[List.zip_cons_cons]at hm;rcases List.mem_cons.1 hm with e|e
   ·cases e;rw[q5 k hn.1];show(if k=k then v else E.ν k)=v;rw[if_pos rfl]
   exact q4 i p e
  rw[q5 i (λhm=>hi (List.mem_cons_of_mem _ hm))];show(if i=k then v else E.ν i)=E.ν i;rw[if_neg (λe=>hi (by rw[e];simp))]
 |[],_::_,_,_,_,hl,_,_,_,_,_=>by simp at hl
 |_::_,[],_,_,_,hl,_,_,_,_,_=>by simp at hl
theorem uU(i:Nat)(B:jx):∀(l:List (Nat×gS)) (S:AS),AS.bC l (S.gC i B)=(AS.bC l S).gC i B
 |[],_=>rfl
 |(j,R)::l,S=>uU i B l (S.kR j R)
theorem nm{α β:Type}:∀{l:List α} {k:List β} {a:α},l.length=k.length->a∈l->∃b,(a,b)∈l.zip k
 |a::l,c::k,b,h,hb=>by
  rcases List.mem_cons.1 hb with rfl|hb
  ·exact⟨c,by rw[List.zip_cons_cons];simp⟩
  obtain⟨a',h'⟩:=nm (l:=l) (k:=k) (by simpa using h) hb;exact⟨a',by rw[List.zip_cons_cons];exact List.mem_cons_of_mem _ h'⟩
 |[],_,_,_,hb=>by cases hb
 |_::_,[],_,h,_=>by simp at h
theorem aY.newObj{E:Env}{a:Act}{w w':World}(h:aY C S E a w){i:Nat}(hi:S.b i=none)(hp:C.eT i=none){ks:List Nat}{c:List Oc}{us:List Value}{M':Mem}{β:Nat}(hks:ks.Nodup)(xk:ks.length=(rowsOf c).length)(LX:Un S ks)
  (hM:E.M.le M') (hn:∀b o x,M' b o=some x->E.M b o=some x\/w.heap.size<=b) (hin:M'.cu w') (ho:l9 M' w' β T c us) (hβ:w.heap.size<=β) (hg:∀g,eI c us g->w.heap.size<=g) (Nw:Below w.heap.size w w'):
  ∃E':Env,E'.M=M'/\E'.β i=β/\aY C (AS.bC (sO [] ks c) (AS.dP [(i,⟨T,bP ks c⟩)] S)) E' a w':=by
 have M4:(bJ c us).length=(rowsOf c).length:=by rw[<-eV ho.al,List.length_map]
 have h0:=h.grow hM hn hin Nw;obtain⟨E1,q1,q2,q3,q4,q5,h1⟩:=aY.B3 ks (bJ c us) h0 (by omega) hks LX (iH ho.al) ho.ap (λp hp g yo=>h.tc (hg g ⟨p,hp,yo⟩) (ho.nr g ⟨p,hp,yo⟩).2);have hS1:AS.bC ((ks.zip (bJ c us)).map (λn=>(n.1,.live n.2.1))) S=AS.bC (sO [] ks c) S:=by rw[<-zE ho.al [] ks];rfl
 rw[hS1]at h1;obtain⟨f1,f2,f3,f4,f5⟩:=h.tc (M':=M') hβ ho.nb;have Xu:(AS.bC (sO [] ks c) S).b i=none:=by rw[(dW _ _).2.2.1];exact hi
 have hfree:CD C (AS.bC (sO [] ks c) S) E1 β:=by
  refine⟨f1,by rw[q1];exact f2,by rw[q3];exact f3,λj B hB=>?_,λj R hR e=>?_⟩
  ·rw[(dW _ _).2.2.1]at hB;rw[q2];exact f4 j B hB
  by_cases hj:j∈ks
  ·obtain⟨p,hm⟩:=nm (l:=ks) (k:=bJ c us) (by omega) hj;rw[q4 j p hm]at e;exact(ho.nr β ⟨p,(fG hm).2,e⟩).1 Y
  rw[gx,oW (λR hm=>by
   obtain⟨x,hx,e⟩:=List.mem_map.1 (show(j,R)∈(ks.zip (rowsOf c)).map (λp=>(p.1,gS.live p.2))from hm);obtain⟨k,R2⟩:=x;have e:k=j:=congrArg Prod.fst e;exact hj (e▸(fG hx).1))]at hR
  rw[q5 j hj]at e;exact f5 j R hR e
 have h2:=h1.BM Xu hp hfree ho.hp (jQ (w:=w') xk (by rw[q1];exact ho.al) q4) (λx hx=>by
  obtain⟨p1,p2⟩:=jR x hx;refine⟨λj e=>absurd e (p1 j),λj e=>?_⟩;obtain⟨R,hm⟩:=nm (l:=ks) (k:=rowsOf c) xk (p2 j e);obtain⟨R',jZ⟩:=uS (l:=sO [] ks c) (j:=j) (R:=.live R) (List.mem_map.2 ⟨(j,R),hm,Y⟩);rw[gx,jZ];obtain⟨x,hx,e⟩:=List.mem_map.1 (show(j,R')∈(ks.zip (rowsOf c)).map (λp=>(p.1,gS.live p.2))from oX jZ);rw[<-show gS.live x.2=R' from congrArg Prod.snd e];simp)
 refine⟨{E1 with β:=λj=>if j=i then β else E1.β j},q1,?_,?_⟩
 rotate_left 1
 ·rw[show AS.dP [(i,(⟨T,bP ks c⟩:jx))] S=S.gC i ⟨T,bP ks c⟩from Y,uU];exact h2
 show(if i=i then β else E1.β i)=β;rw[if_pos rfl]
theorem RT.Ht(hg:Gd ops S gd rg){f:FuncId}[eC P f]{g:Operand}{xs:Array Operand}{at_:Array TypeId}{args:List SV}{T:TypeId}{c:List Oc}{s:SV}(hp:LZ P f args true [s] T c)(ks:List Nat)(hks:ks.Nodup)(xk:ks.length=(rowsOf c).length)(LX:Un S ks)(hf:S.ev g=.sv (.v (.func (.func f) #[] #[])))(hargs:gh S xs.toList args)(hd:d<S.n)(hdb:S.b d=none)(KG:C.eT d=none)
  (next:RunT P C ops nd K rest (⟨rg++(aW g++xs.toList.flatMap aW),[d],ks,⟨some (d,.cmp .rH [.box d,.val s]),[(d,⟨T,bP ks c⟩)],sO [] ks c⟩⟩::acc) ((AS.bC (sO [] ks c) (AS.dP [(d,⟨T,bP ks c⟩)] S)).set d (.cmp .rH [.box d,.val s]))):RunT P C ops nd K (⟨some d,.call ⟨.value g,xs,at_⟩,ty,pos,aft,gd⟩::rest) acc S:=by
 refine .inl ⟨_,[d],ks,_,?_,next⟩;rintro S' hn ht hb hr i a w L Q ho ⟨E,h⟩ hL;refine bV (C:=C) ho (hg.wanted h (λs hs=>ht s (List.mem_append_left _ hs)) Y) ?_;have sF:a.eval g=.func (.func f) #[] ⟨[]⟩:=by
  have h1:=h.ev g;rw[bj (λ_ h=>List.mem_append_right _ (List.mem_append_left _ h)) ht,hf]at h1;exact h1
 have hall:=gh.vals h hargs (λs hs=>ht s (List.mem_append_right _ (List.mem_append_right _ hs)));have hdn:S'.b d=none:=by rw[hb d (by simp)];exact hdb
 refine bW (C:=C) (by intro c h;cases h) (jA sF) ?_;rw[List.append_nil];refine⟨λh=>by simp at h,fL ((hp E.M w _ h.cu hall).mono ?_)⟩;rintro e w' ⟨β,rs,M',us,rfl,hM,hnew,hin,L1,Dn,hβ,I6,Nw⟩;obtain⟨E',e1,e2,h1⟩:=h.newObj hdn KG hks xk (LX.congr hr) hM hnew hin Dn hβ I6 Nw
 match rs,L1 with
 |[r],L1=>
  refine hL _ _ ⟨_,h1.put (x:=.cmp .rH [.box d,.val s]) (v:=.tuple #[.pointer (some ⟨β,0,none⟩),r]) ⟨[.pointer (some ⟨β,0,none⟩),r],Y,by show _=Value.pointer (some ⟨E'.β d,0,none⟩);rw[e2],by show s.h E'.M r;rw[e1];exact L1.1,aq⟩ ?_ ⟨λj e=>?_,λj e=>?_⟩⟩
  ·rw[(dW _ _).1];show d<S'.n;omega
  ·have e:j=d:=by simpa[AV.mb]using e
   subst e;rw[(dW _ _).2.2.1];exact⟨_,AS.cw _ _ _⟩
  simp[AV.mr]at e
end steps
end
section
open Go.RowKit
def xP(P:Program)(f:FuncId)(args:List AV)(T:TypeId)(c:List Oc)(res:SV):Prop:=
 ∀(M:Mem) (w:World) (β:Nat) (vs us:List Value),M.cu w->l9 M w β T c us->cj (nk M β) args vs->
  Calls P f ⟨vs⟩ w λe w'=>∃v M',e=.returned v/\M.le M'/\(∀b o x,M' b o=some x->M b o=some x\/w.heap.size<=b)/\M'.cu w'/\res.h M' v/\
   l9 M' w' β T c us/\w'.os=w.os/\w'.tape=w.tape/\w'.output=w.output/\w.heap.size<=w'.heap.size/\∀k,k<w.heap.size->k≠β->¬eI c us k->w'.heap[k]? =w.heap[k]?
def M5:List (Nat×Row×Value)->Nat->Option Value
 |[],_=>none
 |(k,_,v)::l,j=>if j=k then some v else M5 l j
theorem xQ:∀{l:List (Nat×Row×Value)} {j:Nat} {v:Value},M5 l j=some v->∃R,(j,R,v)∈l
 |(k,R,u)::l,j,v,h=>by
  rw[M5]at h;by_cases e:j=k
  ·rw[if_pos e]at h;cases h;subst e;exact⟨R,by simp⟩
  rw[if_neg e]at h;obtain⟨R',hm⟩:=xQ h;exact⟨R',List.mem_cons_of_mem _ hm⟩
 |[],_,_,h=>by cases h
theorem ES:∀{l:List (Nat×Row×Value)} {j:Nat} {R:Row} {v:Value},(l.map (·.1)).Nodup->(j,R,v)∈l->M5 l j=some v
 |(k,R',v')::l,j,R,v,hn,h=>by
  rw[List.map_cons,List.nodup_cons]at hn;rw[M5];rcases List.mem_cons.1 h with e|e
  ·cases e;rw[if_pos rfl]
  have:j≠k:=λq=>hn.1 (List.mem_map.2 ⟨(j,R,v),e,q⟩);rw[if_neg this];exact ES hn.2 e
theorem L2{ids:List Nat}(h:(ids.all λi=>Nat.ble 1000 i)=true):∀i∈ids,1000<=i:=λi hi=>af (List.all_eq_true.1 h i hi)
def OT(w:World)(M:Mem)(β:Nat)(c:List Oc)(us:List Value)(ids:List Nat)(w8:(ids.all λi=>Nat.ble 1000 i)=true):Ctx:={w0:=w,M0:=M,own:=λk=>k=β\/eI c us k,nD:=λk=>k=β\/eI c us k,eT:=λi=>bif Nat.beq i 1000 then some β else none,cU:=M5 (ids.zip (bJ c us)),ro:=none,J:=λ_ _ _ _ _=>True,vv:=λ_ h=>h,CA:=λ_ _ h=>(by obtain⟨R,hm⟩:=xQ h;exact L2 w8 _ (fG hm).1),jf:=λ_ _ _ _ _ _ _ _ _ _ _ _ _ _ _ _=>trivial}
def Oc.cst:Oc->Prop
 |.s x=>∃v,x=.v v
 |.r _=>True
def Br:List Oc->Prop
 |[]=>True
 |c::l=>c.cst/\Br l
theorem xR{M M':Mem}{w w':World}:∀{c:List Oc} {us us':List Value},Br c->nh M w c us->nh M' w' c us'->bJ c us=bJ c us'->us=us'
 |[],[],[],_,_,_,_=>rfl
 |.s x::l,v::vs,v'::vs',hc,h,h',e=>by
  obtain⟨y,rfl⟩:=hc.1;have e1:v=y:=h.1;have e2:v'=y:=h'.1;rw[e1,e2,xR hc.2 h.2 h'.2 e]
 |.r R::l,v::vs,v'::vs',hc,h,h',e=>by
  rw[bJ,bJ]at e;have e1:=(List.cons.inj e).1;have e2:=(List.cons.inj e).2;rw[xR hc.2 h.2 h'.2 e2];rw[(Prod.mk.inj e1).2]
 |[],[],_::_,_,_,h,_=>h.elim
 |[],_::_,_,_,h,_,_=>h.elim
 |.s _::_,[],_,_,h,_,_=>h.elim
 |.r _::_,[],_,_,h,_,_=>h.elim
 |.s _::_,_::_,[],_,_,h,_=>h.elim
 |.r _::_,_::_,[],_,_,h,_=>h.elim
theorem iI{P:Program}{f:FuncId}{fn:Func}{code:Code}{args:List AV}{T:TypeId}{c:List Oc}{res:SV}(ids:List Nat)(hf:P.funcs[f]? =some fn)(hb:fn.body=some code)(hn:args.length<=fn.ntmps)(Dq:args.all AV.oy=true)(w8:ids.Nodup)(M3:ids.length=(rowsOf c).length)(hge:(ids.all λi=>Nat.ble 1000 i)=true)(Xv:Br c)
  (h:∀(w:World) (M:Mem) (β:Nat) (us:List Value),Ok P (OT w M β c us ids hge) code (AS.vB fn.ntmps args [(1000,⟨T,bP ids c⟩)] (ids.zip (rowsOf c))) (λe S=>(e=.normal\/e=.ret)/\DF P S fn.results.toList res/\S.b 1000=some ⟨T,bP ids c⟩/\Lv S ids (rowsOf c))):xP P f args T c res:=by
 intro M w β vs us hM ho hv;have M4:(bJ c us).length=(rowsOf c).length:=by rw[<-eV ho.al,List.length_map]
 have hnd:((ids.zip (bJ c us)).map (·.1)).Nodup:=by rw[tu (by omega)];exact w8
 have KI:aY (OT w M β c us ids hge) (AS.vB fn.ntmps args [(1000,⟨T,bP ids c⟩)] (ids.zip (rowsOf c))) ⟨λ_=>β,gK (ids.zip (bJ c us)) (λ_=>.nilIface),λ_=>False,M⟩ {tmps:=⟨vs⟩++Array.replicate (fn.ntmps-(⟨vs⟩:Array Value).size) undef,defers:=[]} w:=by
  have h0:=B0 (n:=fn.ntmps) ids hM ho hv Dq hn w8 M3
  exact{wf:=h0.wf,marks:=h0.marks,size:=h0.size,os:=h0.os,tape:=h0.tape,output:=h0.output,grown:=h0.grown,frame:=h0.frame,m0:=h0.m0,dc:=h0.dc,cu:=h0.cu,tm:=h0.tm,bx:=h0.bx,inj:=h0.inj,rx:=h0.rx,dK:=h0.dK,eT:=h0.eT,cU:=λi v e=>(by
   obtain⟨R,hm⟩:=xQ e
   exact fy hnd hm),gM:=h0.gM,jj:=trivial}
 refine eU Y hf hb KI (h w M β us) ?_;rintro S' E a w' ⟨hr,hB,hL⟩ hh;obtain⟨v,hv,hx⟩:=(ue.sv hr).run hh;have hβ:E.β 1000=β:=hh.eT 1000 β Y;obtain⟨us',ho',gV⟩:=k7 hh hB hL w8;rw[hβ]at ho';obtain⟨_,_,_,Nl,q2,q3⟩:=hh.bx 1000 _ hB;rw[hβ,ho'.hp]at q2;obtain rfl:us'=Nl:=by
  have:=Option.some.inj q2;injection this with e
  injection e
 obtain⟨_,Xw⟩:=ni hh hL q3;have gP:bJ c us=bJ c us':=by
  rw[Xw];have key:∀(ids:List Nat) (l:List (Row×Value)) (Rs:List Row),ids.length=l.length->l.map (·.1)=Rs->(∀i R v,(i,R,v)∈ids.zip l->E.ν i=v)->l=Rs.zip (ids.map E.ν):=by
   intro ids
   induction ids with
   |nil=>intro l Rs hl hm _;cases l with|nil=>cases hm;rfl|cons _ _=>simp at hl
   |cons i ids ih=>
    intro l Rs hl hm hν;cases l with
    |nil=>simp at hl
    |cons p l=>
     cases hm;obtain⟨R,v⟩:=p;rw[List.map_cons,List.map_cons,List.zip_cons_cons,hν i R v (by rw[List.zip_cons_cons];simp),<-ih l _ (by simpa using hl) Y (λi R v hm=>hν i R v (by rw[List.zip_cons_cons];exact List.mem_cons_of_mem _ hm))]
  exact key ids _ _ (by omega) (eV ho.al) (λi R v hm=>hh.cU i v (ES hnd hm))
 obtain rfl:us=us':=xR Xv ho.al ho'.al gP;refine⟨v,hv,v,E.M,Y,hh.m0,λb o x e=>?_,hh.cu,hx,ho',hh.os,hh.tape,hh.output,hh.grown,λk hk hne hno=>hh.frame k hk (λe=>e.elim hne hno)⟩;rcases hh.dc b o x e with q|q|q|q
 ·exact .inl q
 ·exact .inr q
 ·rw[show b=β from q,ho'.nb o]at e;cases e
 rw[(ho'.nr b q).2 o]at e;cases e
section steps
variable {P:Program}{C:Ctx}{ops:Array Oper}{S:AS}{nd:Bool}{K:List Ac->AS->Prop}{rest:List Oper}{acc:List Ac}
variable {gd:Option (Nat×Bool)}{rg:List Nat}{d:Nat}{ty:TypeId}{pos:String}{aft:Array Edge}{x y z:Operand}{T U E0:TypeId}
theorem aY.B4{E:Env}{a:Act}{w w':World}(h:aY C S E a w){i:Nat}{js:List Nat}{c:List Oc}{us:List Value}{M':Mem}(hB:S.b i=some ⟨T,bP js c⟩)(hL:Lv S js (rowsOf c))(I4:js.Nodup)(tN:l9 E.M w (E.β i) T c us)
  (hM:E.M.le M') (hn:∀b o x,M' b o=some x->E.M b o=some x\/w.heap.size<=b) (hin:M'.cu w') (ho:l9 M' w' (E.β i) T c us)
  (hos:w'.os=w.os) (kZ:w'.tape=w.tape) (hout:w'.output=w.output) (hsize:w.heap.size<=w'.heap.size) (gV:∀k,k<w.heap.size->k≠E.β i->¬eI c us k->w'.heap[k]? =w.heap[k]?):
  aY C S {E with M:=M'} a w':=by
 obtain⟨C3,Xn,Hp,M6,C4,OU⟩:=h.bx i _ hB;obtain rfl:M6=us:=by
  rw[tN.hp]at C4;have:=Option.some.inj C4;injection this with e
  injection e with e
  exact e.symm
 obtain⟨_,M4⟩:=ni h hL OU;have hlen:=hL.len;have xh:∀g,eI c M6 g↔∃j∈js,(E.ν j).ownBlock=some g:=λg=>by
  unfold eI;rw[M4];constructor
  ·rintro⟨⟨R,v⟩,hm,hg⟩;obtain⟨j,hj,rfl⟩:=List.mem_map.1 (fG hm).2;exact⟨j,hj,hg⟩
  rintro⟨j,hj,hg⟩;obtain⟨R,hR⟩:=nj (l:=rowsOf c) (k:=js.map E.ν) (by simp[hlen]) (List.mem_map.2 ⟨j,hj,Y⟩);exact⟨(R,E.ν j),hR,hg⟩
 have ru:∀g,eI c M6 g->(C.w0.heap.size<=g\/C.nD g)/\¬E.O g/\(∀n B,S.b n=some B->E.β n≠g)/\∃c e,w.heap[g]? =some (Obj.cells c e (0,0)):=λg hg=>by
  obtain⟨j,hj,sG⟩:=(xh g).1 hg;obtain⟨R,hR⟩:=hL.mem j hj;obtain⟨⟨us,q1,_⟩,q2⟩:=h.rx j R hR;obtain⟨q3,q4,q5,q6⟩:=q2 g sG;refine⟨q3,q5,q6,?_⟩;rcases q1.2 with⟨q7,_⟩|⟨g',cap,cur,q7,_,q8,_⟩
  ·rw[q7]at sG;cases sG
  rw[q7]at sG;cases sG;exact⟨_,_,q8⟩
 have keep:∀x:AV,∀v,x.holds E v->x.holds {E with M:=M'} v:=λx v hv=>AV.bR (E:=E) (E':={E with M:=M'}) hM (λ_ _=>rfl) (λ_ _=>rfl) hv;have LU:∀b,b<w.heap.size->(∀o,E.M b o=none)->∀o,M' b o=none:=λb h1 h2 o=>by
  cases e:M' b o with
  |none=>rfl
  |some v=>
   rcases hn b o v e with q|q
   ·rw[h2 o]at q;cases q
   omega
 exact{
  wf:=h.wf
  marks:=by
   obtain⟨ds,d1,d2,d3⟩:=h.marks;refine⟨ds,d1,d2,λr hr=>?_⟩;obtain⟨p1,p2,p3⟩:=d3 r hr;refine⟨p1,p2,?_⟩;rw[gV r (Array.getElem?_eq_some_iff.1 p3).1 (λe=>by rw[e,C4]at p3;cases p3) (λe=>by
    obtain⟨_,_,_,c,e2,q⟩:=ru r e;rw[q]at p3;cases p3)]
   exact p3
  size:=h.size
  os:=hos.trans h.os
  tape:=kZ.trans h.tape
  output:=hout.trans h.output
  grown:=Nat.le_trans h.grown hsize
  frame:=λk hk hown=>by
   rw[gV k (Nat.lt_of_lt_of_le hk h.grown) (λe=>by
    rcases C3 with q|q
    ·omega
    ·exact hown (C.vv _ (by rw[e];exact q))) (λe=>by
    rcases(ru k e).1 with q|q
    ·omega
    exact hown (C.vv _ q))]
   exact h.frame k hk hown
  m0:=Mem.le_trans h.m0 hM
  dc:=λb o v e=>by
   rcases hn b o v e with q|q
   ·exact h.dc b o v q
   exact .inr (.inl (Nat.le_trans h.grown q))
  cu:=hin
  tm:=λs=>keep _ _ (h.tm s)
  bx:=λj B dL=>by
   obtain⟨p1,p2,p3,vs,p4,p5⟩:=h.bx j B dL;have hlt:=(Array.getElem?_eq_some_iff.1 p4).1;by_cases e:j=i
   ·subst e;rw[hB]at dL;cases dL;refine⟨p1,ho.nb,p3,M6,ho.hp,?_⟩;exact OU.imp (λx _ v hv=>keep x v hv)
   refine⟨p1,LU _ hlt p2,p3,vs,?_,p5.imp (λx _ v hv=>keep x v hv)⟩;show w'.heap[E.β j]? =_;rw[gV _ hlt (λq=>e (h.inj j i B _ dL hB q)) (λq=>(ru _ q).2.2.1 j B dL Y)];exact p4
  inj:=h.inj
  rx:=λj R hR=>by
   obtain⟨⟨vs,p1,p2⟩,p3⟩:=h.rx j R hR;by_cases hj:j∈js
   ·have hz:(R,E.ν j)∈bJ c M6:=by
     rw[M4];have key:∀(js:List Nat) (Rs:List Row),Lv S js Rs->j∈js->(R,E.ν j)∈Rs.zip (js.map E.ν):=by
      intro js
      induction js with
      |nil=>intro _ _ h;cases h
      |cons k js ih=>
       intro Rs hl hm;cases Rs with
       |nil=>exact hl.elim
       |cons R' Rs=>
        rw[List.map_cons,List.zip_cons_cons];rcases List.mem_cons.1 hm with q|q
        ·subst q;have:=hl.1;rw[hR]at this;cases this;simp
        exact List.mem_cons_of_mem _ (ih Rs hl.2 q)
     exact key js _ hL hj
    refine⟨iH ho.al _ hz,λg hg=>?_⟩;obtain⟨p4,p5,p6,p7⟩:=p3 g hg;exact⟨p4,(ho.nr g ⟨_,hz,hg⟩).2,p6,p7⟩
   have OQ:∀g,(E.ν j).ownBlock=some g->¬eI c M6 g:=λg hg q=>by
    obtain⟨j',hj',e⟩:=(xh g).1 q;obtain⟨R',jZ⟩:=hL.mem j' hj';have:=h.dK j j' R R' hR jZ g hg e;subst this;exact hj hj'
   refine⟨⟨vs,cA p1 λg hg=>gV g (fN h hR hg) (λe=>(p3 g hg).2.2.2 i _ hB e.symm) (OQ g hg),p2.mono hM⟩,λg hg=>?_⟩;obtain⟨p4,p5,p6,p7⟩:=p3 g hg;exact⟨p4,LU g (fN h hR hg) p5,p6,p7⟩
  dK:=h.dK
  eT:=h.eT
  cU:=h.cU
  gM:=λb hb=>by
   obtain⟨p1,p2,p3⟩:=h.gM b hb;exact⟨Nat.lt_of_lt_of_le p1 hsize,LU b p1 p2,p3⟩
  jj:=C.jf S.g S.go E.O E.M M' w w' h.jj hM hin (λb o v e=>by
    rcases hn b o v e with q|q
    ·exact .inl q
    ·exact .inr ⟨.inl (Nat.le_trans h.grown q),λq2=>by have:=(h.gM b q2).1;omega⟩) (λb hb=>by
    have hb':b<w.heap.size:=by
     rcases hb with⟨q,_⟩|q
     ·exact Nat.lt_of_lt_of_le q h.grown
     exact(h.gM b q).1
    refine gV b hb' (λe=>?_) (λe=>?_)
    ·subst e;rcases hb with⟨q1,q2⟩|q
     ·rcases C3 with p|p
      ·omega
      exact q2 p
     exact Hp q
    obtain⟨o1,o3,_⟩:=ru b e;rcases hb with⟨q1,q2⟩|q
    ·rcases o1 with p|p
     ·omega
     exact q2 p
    exact o3 q) hos kZ hout hsize}
theorem RT.nn(hg:Gd ops S gd rg){f:FuncId}[eC P f]{g:Operand}{xs:Array Operand}{at_:Array TypeId}{args:List AV}{T:TypeId}{c:List Oc}{res:SV}(hp:xP P f args T c res)(i:Nat)(js:List Nat)(hB:S.b i=some ⟨T,bP js c⟩)(hL:Lv S js (rowsOf c))(I4:js.Nodup)
  (Dq:args.all AV.oy=true) (hf:S.ev g=.sv (.v (.func (.func f) #[] #[]))) (hargs:oE S xs.toList (args.map (AV.I2 i))) (hd:d<S.n)
  (next:RunT P C ops nd K rest (⟨rg++(aW g++xs.toList.flatMap aW),[i],js,⟨some (d,.sv res),[],[]⟩⟩::acc) (S.set d (.sv res))):RunT P C ops nd K (⟨some d,.call ⟨.value g,xs,at_⟩,ty,pos,aft,gd⟩::rest) acc S:=by
 refine .inl ⟨_,[i],js,_,?_,next⟩;rintro S' hn ht hb hr k a w L Q ho ⟨E,h⟩ OR;refine bV (C:=C) ho (hg.wanted h (λs hs=>ht s (List.mem_append_left _ hs)) Y) ?_;have sF:a.eval g=.func (.func f) #[] ⟨[]⟩:=by
  have h1:=h.ev g;rw[bj (λ_ h=>List.mem_append_right _ (List.mem_append_left _ h)) ht,hf]at h1;exact h1
 have hall:=tv Dq (oE.vals h hargs (λs hs=>ht s (List.mem_append_right _ (List.mem_append_right _ hs))));have dL:S'.b i=some ⟨T,bP js c⟩:=by rw[hb i (by simp)];exact hB
 have I5:Lv S' js (rowsOf c):=hL.congr (λk hk=>hr k hk);obtain⟨us,Hr,uT⟩:=k7 h dL I5 I4;refine bW (C:=C) (by intro c h;cases h) (jA sF) ?_;rw[List.append_nil];refine⟨λh=>by simp at h,fL ((hp E.M w (E.β i) _ us h.cu Hr hall).mono ?_)⟩;rintro e w' ⟨v,M',rfl,hM,hnew,hin,hv,Dn,hos,kZ,hout,hsize,gV⟩;have h1:=h.B4 dL I5 I4 Hr hM hnew hin Dn hos kZ hout hsize gV;exact OR _ _ ⟨_,h1.put (x:=.sv res) (v:=v) hv (by show d<S'.n;omega) er⟩
theorem RT.Hu(hg:Gd ops S gd rg){f:FuncId}[eC P f]{g:Operand}{xs:Array Operand}{at_:Array TypeId}{args:List AV}{T:TypeId}{c:List Oc}{res:SV}(hp:xP P f (.ptr 1000 0::args) T c res)(i:Nat)(js:List Nat)(hB:S.b i=some ⟨T,bP js c⟩)(hL:Lv S js (rowsOf c))(I4:js.Nodup)
  (Dq:args.all AV.oy=true) (hf:S.ev g=.cmp (.MF f) [.box i]) (hargs:oE S xs.toList (args.map (AV.I2 i))) (hd:d<S.n)
  (next:RunT P C ops nd K rest (⟨rg++(aW g++xs.toList.flatMap aW),[i],js,⟨some (d,.sv res),[],[]⟩⟩::acc) (S.set d (.sv res))):RunT P C ops nd K (⟨some d,.call ⟨.value g,xs,at_⟩,ty,pos,aft,gd⟩::rest) acc S:=by
 refine .inl ⟨_,[i],js,_,?_,next⟩;rintro S' hn ht hb hr k a w L Q ho ⟨E,h⟩ OR;refine bV (C:=C) ho (hg.wanted h (λs hs=>ht s (List.mem_append_left _ hs)) Y) ?_;have sF:a.eval g=.func (.func f) ⟨[.pointer (some ⟨E.β i,0,none⟩)]⟩ #[]:=by
  have h1:=h.ev g;rw[bj (λ_ h=>List.mem_append_right _ (List.mem_append_left _ h)) ht,hf]at h1;obtain⟨vs,h2,h3⟩:=h1;cases vs with
  |nil=>exact h3.elim
  |cons v vs=>
   cases vs with
   |cons _ _=>exact h3.2.elim
   |nil=>rw[h2,show v=_ from h3.1];rfl
 have hall:cj (nk E.M (E.β i)) (.ptr 1000 0::args) (.pointer (some ⟨E.β i,0,none⟩)::xs.toList.map a.eval):=⟨Y,tv Dq (oE.vals h hargs (λs hs=>ht s (List.mem_append_right _ (List.mem_append_right _ hs))))⟩;have dL:S'.b i=some ⟨T,bP js c⟩:=by rw[hb i (by simp)];exact hB
 have I5:Lv S' js (rowsOf c):=hL.congr (λk hk=>hr k hk);obtain⟨us,Hr,uT⟩:=k7 h dL I5 I4;refine bW (C:=C) (by intro c h;cases h) (C6 sF) ?_;refine⟨λh=>by simp at h,fL ((hp E.M w (E.β i) _ us h.cu Hr hall).mono ?_)⟩;rintro e w' ⟨v,M',rfl,hM,hnew,hin,hv,Dn,hos,kZ,hout,hsize,gV⟩;have h1:=h.B4 dL I5 I4 Hr hM hnew hin Dn hos kZ hout hsize gV;exact OR _ _ ⟨_,h1.put (x:=.sv res) (v:=v) hv (by show d<S'.n;omega) er⟩
end steps
end
end Go.Fw
namespace Go.Proofs.Ytmiflmkdaeianaa
section
open Go.Fw
noncomputable def cC(x0:Qr):Option (Zr):=match x0 with|⟨⟨bD,bB⟩,⟨dr,dH⟩⟩=>(gG 1 2).bind λ⟨⟨⟨uP,uQ⟩,⟨ET,EU⟩⟩,Xx⟩=>(ia ⟨⟨bD,bB⟩,⟨dr,dH⟩⟩).bind λ⟨iS,iT⟩=>(bp 1).bind λ⟨mX,mY⟩=>(c9 ⟨iS,iT⟩ ⟨mX,mY⟩).bind λ⟨EV,EW⟩=>(b7 ⟨iS,iT⟩).bind λ⟨⟨wB,B5⟩,⟨B6,wC⟩⟩=>(gI ⟨⟨bD,bB⟩,⟨dr,dH⟩⟩ ⟨⟨wB,B5⟩,⟨B6,wC⟩⟩).bind λ⟨⟨I8,I9⟩,⟨Ja,Jb⟩⟩=>(fW ⟨⟨I8,I9⟩,⟨Ja,Jb⟩⟩ ⟨⟨uP,uQ⟩,⟨ET,EU⟩⟩).bind λfo=>(some (decide ((fo:Int)=(-1)))).bind λiY=>(bif iY then some ⟨iS,iT⟩else(some (decide ((fo:Int)=1))).bind λg9=>(bif g9 then some ⟨EV,EW⟩else(bp 2).bind λ⟨uV,uW⟩=>(bT ⟨iS,iT⟩ ⟨uV,uW⟩).bind λ⟨⟨L3,L4⟩,⟨EX,EY⟩,Xy⟩=>(bZ ⟨EX,EY⟩).bind λqA=>(some (decide ((qA:Int)=0))).bind λnJ=>(bif nJ then some ⟨iS,iT⟩else some ⟨EV,EW⟩)))
noncomputable def jS(x0:Int):Option (Int×(List En)):=cW (λ(L5:Bool)=>(bif L5 then none else some (x0,[]))) λK3=>(some (decide ((x0:Int)<1))).bind λx5=>(bif x5 then some true else(some (decide ((64:Int)<x0))).bind λx8=>some x8).bind λOV=>K3 OV
noncomputable def ct(o0:Int)(o1:List En):Option (Bool):=cW (λ(OW:Bool)=>some OW) λK3=>(bif false then none else(some (decide ((o0:Int)=0))).bind λiL=>some iL).bind λJc=>K3 Jc
noncomputable def eP(o0:Int)(o1:List En)(x1:Int):Option (Bool):=cW (λ(OX:Bool)=>some OX) λK3=>(some (decide ((0:Int)<x1))).bind λx6=>(bif x6 then(some (decide ((x1:Int)<o0))).bind λkF=>some kF else some false).bind λJd=>K3 Jd
noncomputable def ig(x0:En)(o0:Int)(o1:List En):Option (Int):=match x0 with|⟨bD,bB,dr,⟨dH,OY⟩⟩=>(eP o0 o1 bD).bind λx8=>(some (!x8)).bind λx9=>(bif x9 then some 1 else cW (λ(EZ:Bool)=>(bif EZ then some 12 else cW (λ(E4:Bool)=>(bif E4 then some 1 else some 0)) λK6=>(some (decide ((dr:Int)<(-1)))).bind λjm=>(bif jm then some true else(some (decide ((8:Int)<=dr))).bind λfo=>some fo).bind λJe=>K6 Je)) λK3=>(some (decide ((bB:Nat)<1))).bind λiw=>(bif iw then some true else(some (decide ((4:Nat)<bB))).bind λjD=>some jD).bind λJf=>K3 Jf)
noncomputable def bQ(o0:Int)(o1:List En)(x1:Int)(x2:Nat)(x3:Int)(x4:Qr):Option (Int×(List En)):=match x4 with|⟨⟨C1,C2⟩,⟨OZ,O0⟩⟩=>(ct o0 o1).bind λkO=>(bif kO then some (2,o1)else(ig ⟨x1,x2,x3,⟨false,[]⟩⟩ o0 o1).bind λjC=>(some (decide ((jC:Int)≠0))).bind λfo=>(bif fo then some (jC,o1)else(some (o1.length:Int)).bind λuB=>(some (decide ((1024:Int)<=uB))).bind λnV=>(bif nV then some (5,o1)else(cC ⟨⟨C1,C2⟩,⟨OZ,O0⟩⟩).bind λ⟨uV,uW⟩=>(xm 56 o1 [⟨x1,x2,x3,⟨uV,uW⟩⟩]).bind λot=>some (0,ot))))
noncomputable def dS(o0:Int)(o1:List En):Option (List En):=(ct o0 o1).bind λx7=>(bif x7 then some []else(some (o1.length:Int)).bind λiw=>(F8 56 iw (⟨0,0,0,⟨false,[]⟩⟩:En)).bind λkF=>(some (o1.length:Int)).bind λfJ=>(c5 (λ(s8:Int×(List En))=>match s8 with|⟨zH,zJ⟩=>(show Option ((Int×(List En))⊕((List En)))from(some (decide ((zH:Int)<fJ))).bind λjm=>(bif jm then(qN o1 zH).bind λjC=>(o1[jC]?).bind λ⟨wD,wE,wF,⟨zK,Jg⟩⟩=>(c9 ⟨zK,Jg⟩ ⟨false,[]⟩).bind λ⟨yY,wj⟩=>(qN zJ zH).bind λjE=>(stM zJ jE ⟨wD,wE,wF,⟨yY,wj⟩⟩).bind λGc=>(some (IntKind.i64.wrap (zH+1))).bind λmq=>some (.inl (mq,Gc))else some (.inr zJ)))) (0,kF)).bind λuX=>some uX)
noncomputable def fz(o0:Int)(o1:List En):Option (List Zr):=(ct o0 o1).bind λx7=>(bif x7 then some []else(F8 32 o0 (⟨false,[]⟩:Zr)).bind λiw=>(some (o1.length:Int)).bind λiv=>(c5 (λ(yW:Int×(List Zr))=>match yW with|⟨B7,uY⟩=>(show Option ((Int×(List Zr))⊕((List Zr)))from(some (decide ((B7:Int)<iv))).bind λmc=>(bif mc then(qN o1 B7).bind λjm=>(o1[jm]?).bind λ⟨wB,B5,B6,⟨wC,E5⟩⟩=>(qN uY wB).bind λnX=>(uY[nX]?).bind λ⟨sg,si⟩=>(c9 ⟨sg,si⟩ ⟨wC,E5⟩).bind λ⟨iQ,iA⟩=>(qN uY wB).bind λmq=>(stM uY mq ⟨iQ,iA⟩).bind λGh=>(qN Gh 0).bind λvK=>(Gh[vK]?).bind λ⟨m8,m9⟩=>(fR ⟨m8,m9⟩ ⟨wC,E5⟩).bind λ⟨jI,jJ⟩=>(qN Gh 0).bind λvH=>(stM Gh vH ⟨jI,jJ⟩).bind λXz=>(some (IntKind.i64.wrap (B7+1))).bind λot=>some (.inl (ot,Xz))else some (.inr uY)))) (0,iw)).bind λuZ=>some uZ)
noncomputable def fX(o0:Int)(o1:List En)(x1:Nat):Option (Zr):=(ct o0 o1).bind λiL=>(bif iL then some ⟨false,[]⟩else(some (o1.length:Int)).bind λjD=>(c5 (λ(s8:Int×Bool×(List Nat))=>match s8 with|⟨zL,rz,rA⟩=>(show Option ((Int×Bool×(List Nat))⊕(Bool×(List Nat)))from(some (decide ((zL:Int)<jD))).bind λfJ=>(bif fJ then(qN o1 zL).bind λmc=>(o1[mc]?).bind λ⟨uM,qe,uN,⟨rY,Jh⟩⟩=>(some (decide ((qe:Nat)=x1))).bind λfo=>cW (λ(Ji:Bool×(List Nat))=>match Ji with|⟨Bs,Bt⟩=>(some (IntKind.i64.wrap (zL+1))).bind λg9=>some (.inl (g9,Bs,Bt))) λSB=>(bif fo then(c9 ⟨rz,rA⟩ ⟨rY,Jh⟩).bind λ⟨wG,wH⟩=>SB (wG,wH)else SB (rz,rA))else some (.inr (rz,rA))))) (0,false,[])).bind λe8=>match e8 with|⟨E6,E7⟩=>some ⟨E6,E7⟩)
end
section
open Go.Fw Go.Fw.Z Go.RowKit
instance:I7 ah 35:=⟨by kernel_rfl⟩
theorem dB{x0:Qr}{r:Zr}(h:cC x0=some r):Pure ah 12 [.agg (eQ x0)] (.agg (eZ r)):=by
 obtain⟨⟨bD,bB⟩,⟨dr,dH⟩⟩:=x0;refine bN Try.func12 Y (af Y) (λga M vs hvs=>?_);unfold cC at h;refine sr<|bx Y<|al (cs:=[az false,ax]) (by exact⟨au,aB,aq⟩) Y<|dn<|sr ?_;obtain⟨⟨⟨⟨uP,uQ⟩,⟨ET,EU⟩⟩,Xx⟩,qW,h⟩:=bS h;refine cl (r7 qW) ⟨Y,Y,aq⟩<|mv Y<|ex Y Y<|ex Y Y<|al (cs:=[az false,ax,az false,ax]) (by exact⟨au,aB,au,aB,aq⟩) Y<|so Y Y Y<|ag Y<|dn<|sr<|ld Y Y (.k4 Y Y Y Y) ?_;obtain⟨⟨iS,iT⟩,pU,h⟩:=bS h;refine cl (vO pU) ⟨Y,aq⟩<|al (cs:=[az false,ax]) (by exact⟨au,aB,aq⟩) Y<|so Y Y Y<|dn<|qq<|bf mixed<|ld Y Y (.k2 Y Y) ?_;obtain⟨⟨mX,mY⟩,mU,h⟩:=bS h;refine cl (dm mU) ⟨Y,aq⟩ ?_;obtain⟨⟨EV,EW⟩,jK,h⟩:=bS h;refine cl (hH jK) ⟨Y,Y,aq⟩<|al (cs:=[az false,ax]) (by exact⟨au,aB,aq⟩) Y<|so Y Y Y ?_;refine RT.done ⟨by kernel_rfl,?_⟩;refine aV.n<|qq<|qq<|bf mixed<|ld Y Y (.k4 Y Y Y Y)<|ld Y Y (.k2 Y Y) ?_;obtain⟨⟨⟨wB,B5⟩,⟨B6,wC⟩⟩,qY,h⟩:=bS h;refine cl (gi qY) ⟨Y,aq⟩ ?_;obtain⟨⟨⟨I8,I9⟩,⟨Ja,Jb⟩⟩,sL,h⟩:=bS h;refine cl (r9 sL) ⟨Y,Y,aq⟩<|ld Y Y (.k4 Y Y Y Y)<|bE h λfo ou h=>cl (ng ou) ⟨Y,Y,aq⟩ ?_;refine RT.done ⟨by kernel_rfl,?_⟩;refine aV.n<|bn<|sr<|lE h λiY qC h=>eq _ Y Y (qz (p:=fo) (q:=(-1)) qC)<|ag Y<|dn ?_;cases iY;refine cF<|sr<|lE (F h) λg9 kQ h=>eq _ Y Y (qz (p:=fo) (q:=1) kQ)<|ag Y<|dn ?_;cases g9
 refine cF<|bH<|bG.n<|aV.n<|qq<|qq<|bf mixed<|ld Y Y (.k2 Y Y) ?_;obtain⟨⟨uV,uW⟩,rU,h⟩:=bS (F h);refine cl (dm rU) ⟨Y,aq⟩ ?_;obtain⟨⟨⟨L3,L4⟩,⟨EX,EY⟩,Xy⟩,pW,h⟩:=bS h;refine cl (jb pW) ⟨Y,Y,aq⟩<|mv Y<|ex Y Y<|ex Y Y<|ex Y Y<|al (cs:=[az false,ax]) (by exact⟨au,aB,aq⟩) Y<|al (cs:=[az false,ax]) (by exact⟨au,aB,aq⟩) Y<|so Y Y Y<|so Y Y Y<|ag Y ?_;refine RT.done ⟨by kernel_rfl,?_⟩;refine aV.n<|sr<|ld Y Y (.k2 Y Y)<|bE h λqA Ez h=>cl (ee Ez) ⟨Y,aq⟩<|lE h λnJ qB h=>eq _ Y Y (qz (p:=qA) (q:=0) qB)<|dn ?_;cases nJ;refine fs<|sr<|ld Y Y (.k2 Y Y)<|so Y Y Y<|dn<|bh ?_;obtain rfl:=O (F h);exact RZ (.agg Y Y (.k2 Y Y) Y (.nil));refine cT<|sr<|ld Y Y (.k2 Y Y)<|so Y Y Y<|dn<|bh<|aV.r ?_;obtain rfl:=O (V h);exact RZ (.agg Y Y (.k2 Y Y) Y (.nil));refine cT<|sr<|ld Y Y (.k2 Y Y)<|so Y Y Y<|dn<|bh<|bG.r<|aV.r ?_;obtain rfl:=O (V h);exact RZ (.agg Y Y (.k2 Y Y) Y (.nil));refine cT<|sr<|ld Y Y (.k2 Y Y)<|so Y Y Y<|dn<|bh<|bG.r<|aV.r ?_;obtain rfl:=O (V h);exact RZ (.agg Y Y (.k2 Y Y) Y (.nil))
theorem zM{x0:Int}{r:Int×(List En)}(h:jS x0=some r):LZ ah 28 [ay x0] true [ay 0] 66 [.s (ay r.1),.r (TR 43 5 oI r.2)]:=by
 refine zG (t1:=2) (t2:=3) Try.func28 Y (af Y) Y (λga M vs hvs=>?_);unfold jS at h;refine sr<|ag Y<|ag Y<|dn<|qq<|qq ?_;refine bF h (λj3=>AS.dR 13 [(0,ai x0),(9,aj j3)] [] []) (λh=>?_) (λL5 h=>?_);refine aZ<|mv Y<|lE h λx5 h5 h=>ls _ Y Y h5<|mv Y<|bE h λOV oR h=>?_;cases x5;refine gm Y<|lE (F oR) λx8 h8 oR=>gg _ Y Y h8 ?_;obtain rfl:=O oR;exact pF Y<|dn<|⟨x8,h,wR []⟩;obtain rfl:=O (V oR);exact ww<|ww<|pT Y<|dn<|⟨true,h,wR []⟩
 try dsimp only
 refine aV.n ?_;cases L5;refine fs<|sr<|mv Y<|bI (cs:=[_,_]) (cs':=[ay x0,.v (.slice none 0 0)]) (.one Y (.nil)) ⟨au,au,aq⟩<|bx Y<|an (s:=.ptr _ _) Y<|ag Y<|dn<|gy (CM 12 1 302 43 5 Y Y Y T)<|bh ?_;obtain rfl:=O (F h);exact⟨.inr Y,12,[302],Y,Y,Y,⟨Y,aq⟩,by decide⟩;refine cT<|sr<|ag Y<|ag Y<|dn<|bh<|aV.r ?_;replace h:=V h;cases h
theorem fk{o0:Int}{o1:List En}{r:Bool}(h:ct o0 o1=some r):xP ah 50 [.ptr 1000 0] 66 [.s (ay o0),.r (TR 43 5 oI o1)] (az r):=by
 refine iI [1001] Try.func50 Y (af Y) Y (by decide) Y Y ⟨⟨_,Y⟩,aq,aq⟩ (λga M β us=>?_);unfold ct at h;refine sr<|ag Y<|dn<|qq ?_;refine bF h (λj3=>AS.dR 12 [(2,aj j3)] [(1000,⟨66,[ai o0,.row 1001]⟩)] [(1001,TR 43 5 oI o1)]) (λh=>?_) (λOW h=>?_);refine aZ<|mo (s:=.ptr _ _) Y<|RT.LY .none Y Y T<|mv Y<|bE h λJc oR h=>RT.move (.some Y Y) (s:=.ptr _ _) Y T<|RT.fD (.some Y Y) Y T<|RT.fieldAddr (.some Y Y) Y T Y<|RT.KA (.some Y Y) Y Y Y T<|lE (F oR) λiL jy oR=>BW _ Y Y (qz (p:=o0) (q:=0) jy) ?_;obtain rfl:=O oR;exact pF Y<|ag Y<|dn<|⟨iL,h,wR []⟩
 try dsimp only
 refine aV.n<|bh ?_;obtain rfl:=O h;exact⟨.inr Y,cS (.tmp Y (.nil)) au,Y,⟨Y,aq⟩⟩
theorem qi{o0:Int}{o1:List En}{x1:Int}{r:Bool}(h:eP o0 o1 x1=some r):xP ah 58 [.ptr 1000 0,ai x1] 66 [.s (ay o0),.r (TR 43 5 oI o1)] (az r):=by
 refine iI [1001] Try.func58 Y (af Y) Y (by decide) Y Y ⟨⟨_,Y⟩,aq,aq⟩ (λga M β us=>?_);unfold eP at h;refine sr<|ag Y<|dn<|qq ?_;refine bF h (λj3=>AS.dR 15 [(4,aj j3)] [(1000,⟨66,[ai o0,.row 1001]⟩)] [(1001,TR 43 5 oI o1)]) (λh=>?_) (λOX h=>?_);refine aZ<|mv Y<|lE h λx6 h6 h=>gt _ Y Y h6<|mv Y<|bE h λJd oR h=>?_;cases x6;obtain rfl:=O (F oR);exact ww<|ww<|ww<|ww<|ww<|ww<|pF Y<|ag Y<|dn<|⟨false,h,wR []⟩;refine gm Y<|RT.move (.some Y Y) (s:=.ptr _ _) Y T<|RT.fD (.some Y Y) Y T<|RT.fieldAddr (.some Y Y) Y T Y<|RT.KA (.some Y Y) Y Y Y T<|lE (V oR) λkF me oR=>RT.lss (.some Y Y) _ Y Y T me ?_;obtain rfl:=O oR;exact pT Y<|ag Y<|dn<|⟨kF,h,wR []⟩
 try dsimp only
 refine aV.n<|bh ?_;obtain rfl:=O h;exact⟨.inr Y,cS (.tmp Y (.nil)) au,Y,⟨Y,aq⟩⟩
theorem vP{x0:En}{o0:Int}{o1:List En}{r:Int}(h:ig x0 o0 o1=some r):xP ah 57 [.sv (.agg (oI x0)),.cmp (.MF 58) [.box 1000]] 66 [.s (ay o0),.r (TR 43 5 oI o1)] (ay r):=by
 obtain⟨bD,bB,dr,⟨dH,OY⟩⟩:=x0;refine iI [1001] Try.func57 Y (af Y) Y (by decide) Y Y ⟨⟨_,Y⟩,aq,aq⟩ (λga M β us=>?_);unfold ig at h;refine sr<|bx Y<|ag Y<|dn<|qq<|sr<|mo (s:=.cmp _ _) Y<|fa Y Y<|lV Y Y Y<|bE h λx8 h8 h=>RT.Hu .none (qi h8) 1000 [1001] Y ⟨Y,aq⟩ (by decide) Y Y (.cons Y (.nil)) T<|lE h λx9 h9 h=>nt Y _ h9<|dn ?_;cases x9;refine fs<|qq<|qq ?_;refine bF (F h) (λj3=>AS.dR 26 [(2,.ptr 2 0),(17,aj j3)] [(1000,⟨66,[ai o0,.row 1001]⟩),(2,⟨43,[ai bD,.sv (.v (.int .u8 ((bB:Nat):Int))),ai dr,aj dH,.sv (slc 1 (List.map aX OY))]⟩)] [(1001,TR 43 5 oI o1)]) (λh=>?_) (λEZ h=>?_);refine aZ<|fa Y Y<|lV Y Y Y<|lE h λiw kW h=>ls _ Y Y (MQ (p:=bB) (q:=1) kW)<|mv Y<|bE h λJf Hg h=>?_;cases iw;refine RT.fieldAddr (.some Y Y) Y T Y<|RT.KA (.some Y Y) Y Y Y T<|lE (F Hg) λjD nZ Hg=>gg _ Y Y (MQ (p:=4) (q:=bB) nZ) ?_;obtain rfl:=O Hg;exact pF Y<|dn<|⟨jD,h,wR []⟩;obtain rfl:=O (V Hg);exact ww<|ww<|ww<|pT Y<|dn<|⟨true,h,wR []⟩
 try dsimp only
 refine aV.n ?_;cases EZ;refine fs<|qq<|qq ?_;refine bF (F h) (λj6=>AS.dR 26 [(25,aj j6)] [(1000,⟨66,[ai o0,.row 1001]⟩)] [(1001,TR 43 5 oI o1)]) (λh=>?_) (λE4 h=>?_);refine aZ<|fa Y Y<|lV Y Y Y<|lE h λjm nY h=>ls _ Y Y nY<|mv Y<|bE h λJe SC h=>?_;cases jm;refine RT.fieldAddr (.some Y Y) Y T Y<|RT.KA (.some Y Y) Y Y Y T<|lE (F SC) λfo ou SC=>RT.geq (.some Y Y) _ Y Y T ou ?_;obtain rfl:=O SC;exact pF Y<|dn<|⟨fo,h,wR []⟩;obtain rfl:=O (V SC);exact ww<|ww<|ww<|pT Y<|dn<|⟨true,h,wR []⟩
 try dsimp only
 refine aV.n ?_;cases E4;refine fs<|sr<|ag Y<|dn<|bh ?_;obtain rfl:=O (F h);exact⟨.inr Y,cS (.tmp Y (.nil)) au,Y,⟨Y,aq⟩⟩;refine cT<|sr<|ag Y<|dn<|bh<|aV.r ?_;obtain rfl:=O (V h);exact⟨.inr Y,cS (.tmp Y (.nil)) au,Y,⟨Y,aq⟩⟩;refine cT<|sr<|ag Y<|dn<|bh<|aV.r ?_;obtain rfl:=O (V h);exact⟨.inr Y,cS (.tmp Y (.nil)) au,Y,⟨Y,aq⟩⟩;refine cT<|sr<|ag Y<|dn<|bh<|aV.r ?_;obtain rfl:=O (V h);exact⟨.inr Y,cS (.tmp Y (.nil)) au,Y,⟨Y,aq⟩⟩
theorem dN{o0:Int}{o1:List En}{x1:Int}{x2:Nat}{x3:Int}{x4:Qr}{r:Int×(List En)}(h:bQ o0 o1 x1 x2 x3 x4=some r):LV ah 25 [.ptr 1000 0,ai x1,.sv (.v (.int .u8 ((x2:Nat):Int))),ai x3,.sv (.agg (eQ x4))] 66 [.s (ay o0),.r (TR 43 5 oI o1)] (ay r.1) [.s (ay o0),.r (TR 43 5 oI r.2)]:=by
 obtain⟨⟨C1,C2⟩,⟨OZ,O0⟩⟩:=x4;refine Bq [1001] Try.func25 Y (af Y) Y (by decide) Y (λga M β us=>?_);unfold bQ at h;refine sr<|bx Y<|ag Y<|dn<|qq<|sr<|mo (s:=.ptr _ _) Y<|bE h λkO rT h=>RT.nn .none (fk rT) 1000 [1001] Y ⟨Y,aq⟩ (by decide) Y Y (.cons Y (.nil)) T<|dn ?_;cases kO;refine fs<|sr<|mv Y<|mv Y<|mv Y<|bI (cs:=[_,_,_,_,_]) (cs':=[ay x1,.v (.int .u8 ((x2:Nat):Int)),ay x3,az false,ax]) (.one Y (.one Y (.one Y (.nil)))) ⟨au,au,au,au,aB,aq⟩<|al (cs:=[ay 0,.v (.int .u8 ((0:Nat):Int)),ay 0,az false,ax]) (by exact⟨au,au,au,au,aB,aq⟩) Y ?_;refine so Y Y Y<|dn<|qq<|sr<|ld Y Y (.cons Y (.k4 Y Y Y Y))<|mo (s:=.ptr _ _) Y<|RT.Hs .none Y T<|bE (F h) λjC sL h=>RT.nn .none (vP sL) 1000 [1001] Y ⟨Y,aq⟩ (by decide) Y Y (.k2 Y Y) T<|ag Y<|dn<|sr<|mv Y<|lE h λfo ou h=>ne _ Y Y (KQ (p:=jC) (q:=0) ou)<|dn ?_;cases fo;refine fs<|qq<|sr<|mo (s:=.ptr _ _) Y<|RT.fD .none Y T<|fa Y Y<|RT.kg .none (s:=.row _) Y Y Y T<|lE (F h) λuB xB h=>lL Y Y xB<|lE h λnV yq h=>ge _ Y Y yq<|dn ?_;cases nV;refine fs<|sr<|ld Y Y (.k4 Y Y Y Y) ?_;obtain⟨⟨uV,uW⟩,rU,h⟩:=bS (F h)
 refine cl (dB rU) ⟨Y,aq⟩<|fa Y Y<|RT.DC (cells:=[_,_,_,_,_]) .none Y Y Y Y T Y<|dn<|qq<|bf mixed<|mo (s:=.ptr _ _) Y<|mo (s:=.ptr _ _) Y<|RT.fD .none Y T<|fa Y Y<|RT.kg .none (s:=.row _) Y Y Y T<|ld Y Y (.cons Y (.k4 Y Y Y Y))<|bl (l:=[⟨x1,x2,x3,⟨uV,uW⟩⟩]) (e:=oI) (.agg Y (.nil)) Y Y Y Y Y Y ?_;refine bE h λot zg h=>aR (k:=[⟨x1,x2,x3,⟨uV,uW⟩⟩]) (e:=oI) Y Y Y zg<|RT.fD .none Y T<|fa Y Y<|RT.tO (cells:=[_,_]) .none Y Y Y Y T Y ?_;refine RT.done ⟨by kernel_rfl,?_⟩;refine aV.n<|sr<|ag Y<|dn<|bh ?_;obtain rfl:=O h;exact⟨.inr Y,cS (.tmp Y (.nil)) au,[42],Y,⟨Y,aq⟩,by decide⟩;refine cT<|sr<|ag Y<|dn<|bh<|aV.r ?_;obtain rfl:=O (V h);exact⟨.inr Y,cS (.tmp Y (.nil)) au,[1001],Y,⟨Y,aq⟩,by decide⟩;refine cT<|sr<|mv Y<|ag Y<|dn<|bh<|aV.r ?_;obtain rfl:=O (V h);exact⟨.inr Y,cS (.tmp Y (.nil)) au,[1001],Y,⟨Y,aq⟩,by decide⟩;refine cT<|sr<|ag Y<|dn<|bh<|aV.r ?_;obtain rfl:=O (V h);exact⟨.inr Y,cS (.tmp Y (.nil)) au,[1001],Y,⟨Y,aq⟩,by decide⟩
theorem nq{o0:Int}{o1:List En}{r:List En}(h:dS o0 o1=some r):xP ah 17 [.ptr 1000 0] 66 [.s (ay o0),.r (TR 43 5 oI o1)] (slc 5 (List.map oI r)):=by
 refine iI [1001] Try.func17 Y (af Y) Y (by decide) Y Y ⟨⟨_,Y⟩,aq,aq⟩ (λga M β us=>?_);unfold dS at h;refine sr<|aI Y (aB (n:=5) (e:=oI))<|dn<|qq<|sr<|mo (s:=.ptr _ _) Y<|bE h λx7 h7 h=>RT.nn .none (fk h7) 1000 [1001] Y ⟨Y,aq⟩ (by decide) Y Y (.cons Y (.nil)) T<|dn ?_;cases x7;refine fs<|sr<|mo (s:=.ptr _ _) Y<|RT.fD .none Y T<|fa Y Y<|RT.kg .none (s:=.row _) Y Y Y T<|lE (F h) λiw kW h=>lL Y Y kW<|bE h λkF me h=>RT.yO (n:=5) (e:=oI) .none Y Y T Y T (by rfl) (by decide) (by exact⟨au,au,au,au,aB,aq⟩) me<|an (s:=.row _) Y<|dn<|qq<|sr<|mo (s:=.ptr _ _) Y<|RT.fD .none Y T ?_;refine fa Y Y<|RT.kg .none (s:=.row _) Y Y Y T<|lE h λfJ jK h=>lL Y Y jK<|mv Y<|dn<|bE h λe8 G3 xC=>?_;refine cE (λ(uX:(List En))=>AS.dR 35 [(3,.row 13)] [(1000,⟨66,[ai o0,.row 1001]⟩)] [(13,TR 43 5 oI uX),(1001,TR 43 5 oI o1)]) (λuX=>uX=e8) ?_ (λuX G4=>?_);refine bn ?_;refine cG G3 (λs8=>AS.dR 35 [(3,.row 13),(17,.row 1001),(18,ai fJ),(19,ai s8.1)] [(1000,⟨66,[ai o0,.row 1001]⟩)] [(13,TR 43 5 oI s8.2),(1001,TR 43 5 oI o1)]) (wR []) (λs8 y8 G8 h G5 G7=>?_);obtain⟨zH,zJ⟩:=s8
 try dsimp only
 refine sr<|lE h λjm nY h=>ls _ Y Y nY<|dn<|qq ?_;cases jm;refine cF<|cQ<|aV.x<|aV.x<|bG.x<|aV.n ?_;obtain rfl:=O (F h);exact⟨zJ,G7 _ Y,wR []⟩;refine cT<|bH<|aV.n<|qq<|bn<|sr<|mv Y<|bE (V h) λjC sL h=>iR Y Y Y sL ?_;obtain⟨⟨wD,wE,wF,⟨zK,Jg⟩⟩,qX,h⟩:=bS h;refine lA Y Y qX<|al (cs:=[ay 0,.v (.int .u8 ((0:Nat):Int)),ay 0,az false,ax]) (by exact⟨au,au,au,au,aB,aq⟩) Y<|ag Y<|so Y Y Y<|dn<|sr<|fa Y Y<|ld Y Y (.k2 Y Y)<|bI (cs:=[_,_]) (cs':=[az false,ax]) (.nil) ⟨au,aB,aq⟩ ?_;obtain⟨⟨yY,wj⟩,vu,h⟩:=bS h;refine cl (hH vu) ⟨Y,Y,aq⟩<|fa Y Y<|RT.DC (cells:=[_,_,_,_,_]) .none Y Y Y Y T Y<|dn<|aZ<|mo (s:=.row _) Y<|mv Y<|ld Y Y (.cons Y (.k4 Y Y Y Y))<|bE h λjE nM h=>iR Y Y Y nM<|bE h λGc Ey h=>sA ⟨wD,wE,wF,⟨yY,wj⟩⟩ Y Y Y Ey<|RT.done<|bG.n<|aV.n<|aZ<|lE h λmq rU h=>ad _ Y Y rU<|mv Y ?_;refine RT.done ?_;obtain rfl:=O h;exact aV.n ⟨(mq,Gc),G5 _ Y,wR []⟩;subst G4
 try dsimp only
 refine aV.n<|sr<|mo (s:=.row _) Y<|an (s:=.row _) Y<|dn<|gy (v7 (i:=13) (E1:=43) (n:=5) (e:=oI) (l:=uX) Y)<|bh ?_;obtain rfl:=O xC;exact⟨.inr Y,cS (.tmp Y (.nil)) au,Y,⟨Y,aq⟩⟩;refine cT<|sr<|aI Y (aB (n:=5) (e:=oI))<|dn<|bh<|aV.r ?_;obtain rfl:=O (V h);exact⟨.inr Y,cS (.tmp Y (.nil)) au,Y,⟨Y,aq⟩⟩
theorem rB{o0:Int}{o1:List En}{r:List Zr}(h:fz o0 o1=some r):xP ah 16 [.ptr 1000 0] 66 [.s (ay o0),.r (TR 43 5 oI o1)] (slc 2 (List.map eZ r)):=by
 refine iI [1001] Try.func16 Y (af Y) Y (by decide) Y Y ⟨⟨_,Y⟩,aq,aq⟩ (λga M β us=>?_);unfold fz at h;refine sr<|aI Y (aB (n:=2) (e:=eZ))<|dn<|qq<|sr<|mo (s:=.ptr _ _) Y<|bE h λx7 h7 h=>RT.nn .none (fk h7) 1000 [1001] Y ⟨Y,aq⟩ (by decide) Y Y (.cons Y (.nil)) T<|dn ?_;cases x7;refine fs<|sr<|mo (s:=.ptr _ _) Y<|RT.fD .none Y T<|fa Y Y<|lV Y Y Y<|bE (F h) λiw kW h=>RT.yO (n:=2) (e:=eZ) .none Y Y T Y T (by rfl) (by decide) (by exact⟨au,aB,aq⟩) kW<|an (s:=.row _) Y<|dn<|qq<|sr<|mo (s:=.ptr _ _) Y<|RT.fD .none Y T<|fa Y Y<|RT.kg .none (s:=.row _) Y Y Y T<|lE h λiv mU h=>lL Y Y mU ?_;refine mv Y<|dn<|bE h λLs A5 xA=>?_;refine cE (λ(uZ:(List Zr))=>AS.dR 44 [(3,.row 12)] [(1000,⟨66,[ai o0,.row 1001]⟩)] [(12,TR 24 2 eZ uZ),(1001,TR 43 5 oI o1)]) (λuZ=>uZ=Ls) ?_ (λuZ A6=>?_);refine bn ?_;refine cG A5 (λyW=>AS.dR 44 [(3,.row 12),(16,.row 1001),(17,ai iv),(18,ai yW.1)] [(1000,⟨66,[ai o0,.row 1001]⟩)] [(12,TR 24 2 eZ yW.2),(1001,TR 43 5 oI o1)]) (wR []) (λyW Vz VA h A7 ze=>?_);obtain⟨B7,uY⟩:=yW
 try dsimp only
 refine sr<|lE h λmc oO h=>ls _ Y Y oO<|dn<|qq ?_;cases mc;refine cF<|cQ<|aV.x<|aV.x<|bG.x<|aV.n ?_;obtain rfl:=O (F h);exact⟨uY,ze _ Y,wR []⟩;refine cT<|bH<|aV.n<|qq<|bn<|sr<|bE (V h) λjm nY h=>iR Y Y Y nY ?_;obtain⟨⟨wB,B5,B6,⟨wC,E5⟩⟩,qY,h⟩:=bS h;refine lA Y Y qY<|al (cs:=[ay 0,.v (.int .u8 ((0:Nat):Int)),ay 0,az false,ax]) (by exact⟨au,au,au,au,aB,aq⟩) Y<|so Y Y Y<|dn<|qq<|bf mixed<|mo (s:=.row _) Y<|fa Y Y<|lV Y Y Y<|mo (s:=.row _) Y<|fa Y Y<|lV Y Y Y<|bE h λnX uH h=>iR Y Y Y uH ?_;obtain⟨⟨sg,si⟩,kQ,h⟩:=bS h;refine lA Y Y kQ<|fa Y Y<|ld Y Y (.k2 Y Y) ?_;obtain⟨⟨iQ,iA⟩,nM,h⟩:=bS h;refine cl (hH nM) ⟨Y,Y,aq⟩<|bE h λmq rU h=>iR Y Y Y rU<|bE h λGh O1 h=>sA ⟨iQ,iA⟩ Y Y Y O1 ?_;refine RT.done ⟨by kernel_rfl,?_⟩;refine aV.n<|bf mixed<|mo (s:=.row _) Y<|mo (s:=.row _) Y<|bE h λvK vM h=>iR Y Y Y vM ?_;obtain⟨⟨m8,m9⟩,xD,h⟩:=bS h;refine lA Y Y xD<|fa Y Y<|ld Y Y (.k2 Y Y) ?_;obtain⟨⟨jI,jJ⟩,qB,h⟩:=bS h;refine cl (xE qB) ⟨Y,Y,aq⟩<|bE h λvH CV h=>iR Y Y Y CV<|bE h λXz O2 h=>sA ⟨jI,jJ⟩ Y Y Y O2 ?_;refine RT.done ⟨by kernel_rfl,?_⟩;refine bG.n<|aV.n<|aZ<|lE h λot zg h=>ad _ Y Y zg<|mv Y<|RT.done ?_;obtain rfl:=O h;exact aV.n ⟨(ot,Xz),A7 _ Y,wR []⟩;subst A6
 try dsimp only
 refine aV.n<|sr<|mo (s:=.row _) Y<|an (s:=.row _) Y<|dn<|gy (v7 (i:=12) (E1:=24) (n:=2) (e:=eZ) (l:=uZ) Y)<|bh ?_;obtain rfl:=O xA;exact⟨.inr Y,cS (.tmp Y (.nil)) au,Y,⟨Y,aq⟩⟩;refine cT<|sr<|aI Y (aB (n:=2) (e:=eZ))<|dn<|bh<|aV.r ?_;obtain rfl:=O (V h);exact⟨.inr Y,cS (.tmp Y (.nil)) au,Y,⟨Y,aq⟩⟩
theorem sP{o0:Int}{o1:List En}{x1:Nat}{r:Zr}(h:fX o0 o1 x1=some r):xP ah 19 [.ptr 1000 0,.sv (.v (.int .u8 ((x1:Nat):Int)))] 66 [.s (ay o0),.r (TR 43 5 oI o1)] (.agg (eZ r)):=by
 refine iI [1001] Try.func19 Y (af Y) Y (by decide) Y Y ⟨⟨_,Y⟩,aq,aq⟩ (λga M β us=>?_);unfold fX at h;refine sr<|al (cs:=[az false,ax]) (by exact⟨au,aB,aq⟩) Y<|dn<|sr<|bI (cs:=[_,_]) (cs':=[az false,ax]) (.nil) ⟨au,aB,aq⟩<|al (cs:=[az false,ax]) (by exact⟨au,aB,aq⟩) Y<|so Y Y Y<|dn<|qq<|sr<|mo (s:=.ptr _ _) Y<|bE h λiL jy h=>RT.nn .none (fk jy) 1000 [1001] Y ⟨Y,aq⟩ (by decide) Y Y (.cons Y (.nil)) T ?_;refine dn ?_;cases iL;refine fs<|qq<|sr<|mo (s:=.ptr _ _) Y<|RT.fD .none Y T<|fa Y Y<|RT.kg .none (s:=.row _) Y Y Y T<|lE (F h) λjD nZ h=>lL Y Y nZ<|mv Y<|dn<|bE h λe8 G3 xC=>?_;refine cE (λ(q9:Bool×(List Nat))=>AS.dR 31 [(4,.ptr 4 0),(5,.ptr 5 0)] [(1000,⟨66,[ai o0,.row 1001]⟩),(5,⟨24,[aj q9.1,.sv (slc 1 (List.map aX q9.2))]⟩),(4,⟨24,[aj false,.sv ax]⟩)] [(1001,TR 43 5 oI o1)]) (λq9=>q9=e8) ?_ (λq9 G4=>?_);refine bn ?_;refine cG G3 (λs8=>AS.dR 31 [(1,.sv (.v (.int .u8 ((x1:Nat):Int)))),(4,.ptr 4 0),(5,.ptr 5 0),(15,.row 1001),(16,ai jD),(17,ai s8.1)] [(1000,⟨66,[ai o0,.row 1001]⟩),(5,⟨24,[aj s8.2.1,.sv (slc 1 (List.map aX s8.2.2))]⟩),(4,⟨24,[aj false,.sv ax]⟩)] [(1001,TR 43 5 oI o1)]) (wR []) (λs8 y8 G8 h G5 G7=>?_);obtain⟨zL,rz,rA⟩:=s8
 try dsimp only
 refine sr<|lE h λfJ jK h=>ls _ Y Y jK<|dn<|qq ?_;cases fJ;refine cF<|cQ<|aV.x<|aV.x<|bG.x<|aV.n ?_;obtain rfl:=O (F h);exact⟨(rz,rA),G7 _ Y,wR []⟩;refine cT<|bH<|aV.n<|qq<|bn<|sr<|bE (V h) λmc oO h=>iR Y Y Y oO ?_;obtain⟨⟨uM,qe,uN,⟨rY,Jh⟩⟩,nY,h⟩:=bS h;refine lA Y Y nY<|al (cs:=[ay 0,.v (.int .u8 ((0:Nat):Int)),ay 0,az false,ax]) (by exact⟨au,au,au,au,aB,aq⟩) Y<|so Y Y Y<|dn<|sr<|fa Y Y<|lV Y Y Y<|mv Y<|lE h λfo ou h=>eq _ Y Y (NH (p:=qe) (q:=x1) ou)<|dn ?_;refine bF h (λJi=>AS.dR 31 [(1,.sv (.v (.int .u8 ((x1:Nat):Int)))),(4,.ptr 4 0),(5,.ptr 5 0),(15,.row 1001),(16,ai jD),(17,ai zL)] [(1000,⟨66,[ai o0,.row 1001]⟩),(5,⟨24,[aj Ji.1,.sv (slc 1 (List.map aX Ji.2))]⟩),(4,⟨24,[aj false,.sv ax]⟩)] [(1001,TR 43 5 oI o1)]) (λh=>?_) (λJi h=>?_);cases fo;exact fs<|⟨(rz,rA),(F h),wR []⟩;refine cT<|aZ<|ld Y Y (.k2 Y Y)<|fa Y Y<|ld Y Y (.k2 Y Y) ?_;obtain⟨⟨wG,wH⟩,uH,h⟩:=bS (V h);exact cl (hH uH) ⟨Y,Y,aq⟩<|so Y Y Y<|dn<|⟨(wG,wH),h,wR []⟩;obtain⟨Bs,Bt⟩:=Ji
 try dsimp only
 refine bG.n<|aV.n<|aZ<|lE h λg9 kQ h=>ad _ Y Y kQ<|mv Y<|RT.done ?_;obtain rfl:=O h;exact aV.n ⟨(g9,Bs,Bt),G5 _ Y,wR []⟩;subst G4;obtain⟨E6,E7⟩:=q9
 try dsimp only
 refine aV.n<|sr<|ld Y Y (.k2 Y Y)<|so Y Y Y<|dn<|bh ?_;obtain rfl:=O xC;exact⟨.inr Y,cS (.agg Y Y (.k2 Y Y) Y (.nil)) au,Y,⟨Y,aq⟩⟩;refine cT<|sr<|ld Y Y (.k2 Y Y)<|so Y Y Y<|dn<|bh<|aV.r ?_;obtain rfl:=O (V h);exact⟨.inr Y,cS (.agg Y Y (.k2 Y Y) Y (.nil)) au,Y,⟨Y,aq⟩⟩
end
section
open Go.Fw
noncomputable def cY(x0:Zr)(x1:Zr):Option (Bool):=match x0 with|⟨bD,bB⟩=>match x1 with|⟨cq,b9⟩=>cW (λ(E8:Bool)=>(bif E8 then some false else(c5 (λ(sK:Int)=>(show Option ((Int)⊕((Unit)⊕(Bool)))from(some (bB.length:Int)).bind λkp=>(some (decide ((sK:Int)<kp))).bind λfo=>(bif fo then(ek bB sK).bind λuB=>(ek b9 sK).bind λpL=>(some (decide ((uB:Nat)≠pL))).bind λwe=>(bif we then some (.inr (.inr false))else(some (IntKind.i64.wrap (sK+1))).bind λiY=>some (.inl iY))else some (.inr (.inl ()))))) 0).bind λe9=>match e9 with|.inr v9=>some v9|.inl _=>some true)) λK3=>(some (!(bD==cq))).bind λiL=>(bif iL then some true else(some (bB.length:Int)).bind λkO=>(some (b9.length:Int)).bind λiv=>(some (decide ((kO:Int)≠iv))).bind λfJ=>some fJ).bind λE9=>K3 E9
end
section
open Go.Fw Go.Fw.Z Go.RowKit
theorem kM{x0:Zr}{x1:Zr}{r:Bool}(h:cY x0 x1=some r):Pure ah 11 [.agg (eZ x0),.agg (eZ x1)] (az r):=by
 obtain⟨bD,bB⟩:=x0;obtain⟨cq,b9⟩:=x1;refine bN Try.func11 Y (af Y) (λga M vs hvs=>?_);unfold cY at h;refine sr<|bx Y<|bx Y<|ag Y<|dn<|qq<|qq ?_;refine bF h (λj3=>AS.dR 38 [(2,.ptr 2 0),(3,.ptr 3 0),(19,aj j3)] [(3,⟨24,[aj cq,.sv (slc 1 (List.map aX b9))]⟩),(2,⟨24,[aj bD,.sv (slc 1 (List.map aX bB))]⟩)] []) (λh=>?_) (λE8 h=>?_);refine aZ<|fa Y Y<|lV Y Y Y<|fa Y Y<|lV Y Y Y<|lE h λiL jy h=>RT.Gp .none _ Y Y T jy<|mv Y<|bE h λE9 zN h=>?_;cases iL;refine RT.fieldAddr (.some Y Y) Y T Y<|RT.KA (.some Y Y) Y Y Y T<|lE (F zN) λkO rT zN=>gn Y rT<|RT.fieldAddr (.some Y Y) Y T Y<|RT.KA (.some Y Y) Y Y Y T<|lE zN λiv mU zN=>gn Y mU<|lE zN λfJ jK zN=>gq _ Y Y (KQ (p:=kO) (q:=iv) jK) ?_;obtain rfl:=O zN;exact pF Y<|dn<|⟨fJ,h,wR []⟩;obtain rfl:=O (V zN);exact ww<|ww<|ww<|ww<|ww<|ww<|ww<|pT Y<|dn<|⟨true,h,wR []⟩
 try dsimp only
 refine aV.n ?_;cases E8;refine fs<|qq<|sr<|ag Y<|dn<|bE (F h) λe9 hl9 Y5=>?_;refine cE (λ(XA:Unit)=>AS.dR 38 [] [] []) (λXA=>.inl XA=e9) ?_ (λXA hx9=>?_);refine bn ?_;refine cG hl9 (λs9=>AS.dR 38 [(2,.ptr 2 0),(3,.ptr 3 0),(5,ai s9)] [(3,⟨24,[aj cq,.sv (slc 1 (List.map aX b9))]⟩),(2,⟨24,[aj bD,.sv (slc 1 (List.map aX bB))]⟩)] []) (wR []) (λsK y9 G9 h hG9 Y6=>?_)
 try dsimp only
 refine qq<|sr<|mv Y<|fa Y Y<|lV Y Y Y<|lE h λkp qX h=>ln Y qX<|lE h λfo ou h=>ls _ Y Y ou<|dn ?_;cases fo;refine cF<|cQ<|aV.x<|aV.x<|bG.x<|aV.n ?_;obtain rfl:=O (F h);exact⟨(),Y6 _ Y,wR []⟩;refine cT<|bH<|aV.n<|qq<|bn<|qq<|bf mixed<|fa Y Y<|lV Y Y Y<|mv Y<|bE (V h) λuB xB h=>ix Y Y xB<|lr Y Y<|fa Y Y<|lV Y Y Y<|mv Y<|bE h λpL A8 h=>ix Y Y A8<|lr Y Y<|lE h λwe xD h=>ne _ Y Y (NI (p:=uB) (q:=pL) xD) ?_;refine RT.done ⟨by kernel_rfl,?_⟩;refine aV.n ?_;cases we;refine cF<|bH<|bG.n<|aV.n<|aZ<|mv Y<|lE (F h) λiY qC h=>ad _ Y Y qC<|ag Y<|RT.done ?_;obtain rfl:=O h;exact aV.n ⟨iY,hG9 _ Y,wR []⟩;refine cT<|sr<|ag Y<|dn<|bh<|bG.r<|aV.r ?_;obtain rfl:=O (V h);have he9:=Y6 _ Y;subst he9;refine aV.r<|bG.r<|aV.r<|aV.r ?_;obtain rfl:=O Y5;exact R1 Y;subst hx9
 try dsimp only
 refine aV.n<|sr<|ag Y<|dn<|bh ?_;obtain rfl:=O Y5;exact R1 Y;refine cT<|sr<|ag Y<|dn<|bh<|aV.r ?_;obtain rfl:=O (V h);exact R1 Y
end
section
open Go.Fw
noncomputable def ij(x0:List (List Qr)):Option (Bool):=(c5 (λ(M7:Int×Int)=>match M7 with|⟨O3,xS⟩=>(show Option ((Int×Int)⊕((Unit)⊕(Bool)))from(some (x0.length:Int)).bind λx8=>(some (decide ((xS:Int)<x8))).bind λx9=>(bif x9 then(ek x0 xS).bind λkO=>(some (kO.length:Int)).bind λjD=>(some (decide ((40:Int)<jD))).bind λiv=>(bif iv then some (.inr (.inr true))else(c5 (λ(M8:Int×Int)=>match M8 with|⟨B8,zO⟩=>(show Option ((Int×Int)⊕(Int))from(ek x0 xS).bind λkP=>(some (kP.length:Int)).bind λkp=>(some (decide ((zO:Int)<kp))).bind λfo=>(bif fo then(some (IntKind.i64.wrap (B8+1))).bind λnX=>(ek x0 xS).bind λnV=>(ek nV zO).bind λ⟨⟨wz,rX⟩,⟨Jj,Jk⟩⟩=>(some (rX.length:Int)).bind λtg=>(some (min (100:Int) tg)).bind λqA=>(some (IntKind.i64.wrap (nX+qA))).bind λnJ=>(ek x0 xS).bind λyp=>(ek yp zO).bind λ⟨⟨zP,zQ⟩,⟨Jl,B9⟩⟩=>(some (B9.length:Int)).bind λtj=>(some (min (100:Int) tj)).bind λGa=>(some (IntKind.i64.wrap (nJ+Ga))).bind λvI=>(some (IntKind.i64.wrap (zO+1))).bind λiY=>some (.inl (vI,iY))else some (.inr B8)))) (O3,0)).bind λsj=>(some (decide ((400:Int)<sj))).bind λGf=>(bif Gf then some (.inr (.inr true))else(some (IntKind.i64.wrap (xS+1))).bind λnU=>some (.inl (sj,nU))))else some (.inr (.inl ()))))) (0,0)).bind λXB=>match XB with|.inr Y7=>some Y7|.inl _=>some false
end
section
open Go.Fw Go.Fw.Z Go.RowKit
theorem vQ{x0:List (List Qr)}{r:Bool}(h:ij x0=some r):Pure ah 9 [slc 1 (List.map (eS 4 eQ) x0)] (az r):=by
 refine bN Try.func9 Y (af Y) (λga M vs hvs=>?_);unfold ij at h;refine sr<|ag Y<|dn<|sr<|ag Y<|dn<|qq<|sr<|ag Y<|dn<|bE h λXB XC L6=>?_;refine cE (λ(L7:Unit)=>AS.dR 55 [] [] []) (λL7=>.inl L7=XB) ?_ (λL7 XD=>?_);refine bn ?_;refine cG XC (λM7=>AS.dR 55 [(0,.sv (slc 1 (List.map (eS 4 eQ) x0))),(3,ai M7.1),(4,ai M7.2)] [] []) (wR []) (λM7 y16 G16 h XE L8=>?_);obtain⟨O3,xS⟩:=M7
 try dsimp only
 refine qq<|sr<|mv Y<|mv Y<|lE h λx8 h8 h=>ln Y h8<|lE h λx9 h9 h=>ls _ Y Y h9<|dn ?_;cases x9;refine cF<|cQ<|aV.x<|aV.x<|bG.x<|aV.n ?_;obtain rfl:=O (F h);exact⟨(),L8 _ Y,wR []⟩;refine cT<|bH<|aV.n<|qq<|bn<|qq<|sr<|mv Y<|mv Y<|bE (V h) λkO rT h=>ix Y Y rT<|lr Y Y<|lE h λjD nZ h=>ln Y nZ<|lE h λiv mU h=>gt _ Y Y mU<|dn ?_;cases iv;refine fs<|qq<|sr<|ag Y<|dn<|bE (F h) λe22 XF C7=>?_;refine cE (λ(sj:Int)=>AS.dR 55 [(0,.sv (slc 1 (List.map (eS 4 eQ) x0))),(3,ai sj),(4,ai xS)] [] []) (λsj=>sj=e22) ?_ (λsj XG=>?_);refine bn ?_;refine cG XF (λM8=>AS.dR 55 [(0,.sv (slc 1 (List.map (eS 4 eQ) x0))),(3,ai M8.1),(4,ai xS),(5,ai M8.2)] [] []) (wR []) (λM8 y22 G22 h XH XI=>?_);obtain⟨B8,zO⟩:=M8
 try dsimp only
 refine qq<|sr<|mv Y<|mv Y<|mv Y<|bE h λkP qY h=>ix Y Y qY<|lr Y Y<|lE h λkp qX h=>ln Y qX<|lE h λfo ou h=>ls _ Y Y ou<|dn ?_;cases fo;refine cF<|cQ<|aV.x<|aV.x<|bG.x<|aV.n ?_;obtain rfl:=O (F h);exact⟨B8,XI _ Y,wR []⟩;refine cT<|bH<|aV.n<|qq<|bn<|bf mixed<|mv Y<|lE (V h) λnX uH h=>ad _ Y Y uH<|mv Y<|mv Y<|bE h λnV yq h=>ix Y Y yq<|lr Y Y<|mv Y ?_;obtain⟨⟨⟨wz,rX⟩,⟨Jj,Jk⟩⟩,pW,h⟩:=bS h;refine ix Y Y pW<|RT.lF .none Y T Y<|RT.lF .none Y T Y<|lr Y Y<|lE h λtg CT h=>ln Y CT<|lE h λqA Ez h=>RT.min .none _ Y Y T (NJ (p:=100) (q:=tg) Ez)<|lE h λnJ qB h=>ad _ Y Y qB<|mv Y<|mv Y<|bE h λyp Gg h=>ix Y Y Gg<|lr Y Y<|mv Y ?_;obtain⟨⟨⟨zP,zQ⟩,⟨Jl,B9⟩⟩,h46,h⟩:=bS h;refine ix Y Y h46<|RT.lF .none Y T Y<|RT.lF .none Y T Y<|lr Y Y<|lE h λtj CW h=>ln Y CW<|lE h λGa G1 h=>RT.min .none _ Y Y T (NJ (p:=100) (q:=tj) G1)<|lE h λvI Ex h=>ad _ Y Y Ex<|ag Y ?_;refine RT.done ⟨by kernel_rfl,?_⟩;refine bG.n<|aV.n<|aZ<|mv Y<|lE h λiY qC h=>ad _ Y Y qC<|ag Y<|RT.done ?_;obtain rfl:=O h;exact aV.n ⟨(vI,iY),XH _ Y,wR []⟩;subst XG
 try dsimp only
 refine aV.n<|sr<|mv Y<|lE C7 λGf MY C7=>gt _ Y Y MY<|dn ?_;cases Gf;refine cF<|bH<|bG.n<|aV.n<|aZ<|mv Y<|lE (F C7) λnU qW C7=>ad _ Y Y qW<|ag Y<|RT.done ?_;obtain rfl:=O C7;exact aV.n ⟨(sj,nU),XE _ Y,wR []⟩;refine cT<|sr<|ag Y<|dn<|bh<|bG.r<|aV.r ?_;obtain rfl:=O (V C7);have L9:=L8 _ Y;subst L9;refine aV.r<|bG.r<|aV.r<|aV.r ?_;obtain rfl:=O L6;exact R1 Y;refine cT<|sr<|ag Y<|dn<|bh<|aV.r<|bG.r<|aV.r ?_;obtain rfl:=O (V h);have L9:=L8 _ Y;subst L9;refine aV.r<|bG.r<|aV.r<|aV.r ?_;obtain rfl:=O L6;exact R1 Y;subst XD
 try dsimp only
 refine aV.n<|sr<|ag Y<|dn<|bh ?_;obtain rfl:=O L6;exact R1 Y
end
section
open Go.Fw
noncomputable def dx(x0:Zr)(x1:Int):Option (Bool):=match x0 with|⟨bD,bB⟩=>(bp x1).bind λ⟨El,Em⟩=>(cY ⟨bD,bB⟩ ⟨El,Em⟩).bind λx8=>some x8
noncomputable def b8(x0:Int)(x1:Int):Option (Qr):=(gG x0 x1).bind λ⟨⟨⟨Fa,Fb⟩,⟨Fe,Ff⟩⟩,Hf⟩=>some ⟨⟨Fa,Fb⟩,⟨Fe,Ff⟩⟩
noncomputable def fE:Option (Bool):=(jS 3).bind λ⟨kY,zh⟩=>(b8 5 2).bind λ⟨⟨mX,mY⟩,⟨Jm,Jn⟩⟩=>(bQ kY zh 1 1 0 ⟨⟨mX,mY⟩,⟨Jm,Jn⟩⟩).bind λ⟨fJ,l2⟩=>(b8 (-7) 1).bind λ⟨⟨uM,qe⟩,⟨uN,rY⟩⟩=>(bQ kY l2 2 1 0 ⟨⟨uM,qe⟩,⟨uN,rY⟩⟩).bind λ⟨kP,l4⟩=>(b8 1 1).bind λ⟨⟨wD,wE⟩,⟨wF,zK⟩⟩=>(bQ kY l4 3 1 0 ⟨⟨wD,wE⟩,⟨wF,zK⟩⟩).bind λ⟨fo,l6⟩=>(b8 1 1).bind λ⟨⟨Jo,Jp⟩,⟨Jq,Jr⟩⟩=>(bQ kY l6 0 1 0 ⟨⟨Jo,Jp⟩,⟨Jq,Jr⟩⟩).bind λ⟨nW,l8⟩=>(b8 1 1).bind λ⟨⟨sg,si⟩,⟨zR,zS⟩⟩=>(bQ kY l8 1 5 0 ⟨⟨sg,si⟩,⟨zR,zS⟩⟩).bind λ⟨uB,Gc⟩=>(b8 1 1).bind λ⟨⟨iQ,iA⟩,⟨mZ,m7⟩⟩=>(bQ kY Gc 1 4 8 ⟨⟨iQ,iA⟩,⟨mZ,m7⟩⟩).bind λ⟨mq,Gh⟩=>(fz kY Gh).bind λpL=>cW (λ(Fg:Bool)=>some Fg) λXJ=>(b8 5 2).bind λ⟨⟨mP,mQ⟩,⟨Js,Jt⟩⟩=>(cC ⟨⟨mP,mQ⟩,⟨Js,Jt⟩⟩).bind λ⟨m8,m9⟩=>(dx ⟨m8,m9⟩ 2).bind λtg=>(bif tg then(b8 7 2).bind λ⟨⟨jI,jJ⟩,⟨rZ,r5⟩⟩=>(cC ⟨⟨jI,jJ⟩,⟨rZ,r5⟩⟩).bind λ⟨zo,zq⟩=>(dx ⟨zo,zq⟩ 4).bind λot=>some ot else some false).bind λCa=>(bif Ca then(b8 (-5) 2).bind λ⟨⟨Ju,Jv⟩,⟨Jw,Jx⟩⟩=>(cC ⟨⟨Ju,Jv⟩,⟨Jw,Jx⟩⟩).bind λ⟨zP,zQ⟩=>(dx ⟨zP,zQ⟩ (-2)).bind λyU=>some yU else some false).bind λHv=>(bif Hv then(b8 8 3).bind λ⟨⟨Jy,Jz⟩,⟨JA,JB⟩⟩=>(cC ⟨⟨Jy,Jz⟩,⟨JA,JB⟩⟩).bind λ⟨za,zb⟩=>(dx ⟨za,zb⟩ 3).bind λvI=>some vI else some false).bind λHw=>(bif Hw then(some (decide ((fJ:Int)=0))).bind λGY=>some GY else some false).bind λHx=>(bif Hx then(some (decide ((kP:Int)=0))).bind λCO=>some CO else some false).bind λHy=>(bif Hy then(some (decide ((fo:Int)=1))).bind λXK=>some XK else some false).bind λHz=>(bif Hz then(some (decide ((nW:Int)=1))).bind λLb=>some Lb else some false).bind λHA=>(bif HA then(some (decide ((uB:Int)=12))).bind λGe=>some Ge else some false).bind λHB=>(bif HB then(some (decide ((mq:Int)=1))).bind λXL=>some XL else some false).bind λHC=>(bif HC then(some (pL.length:Int)).bind λXM=>(some (decide ((XM:Int)=3))).bind λXN=>some XN else some false).bind λHD=>(bif HD then(ek pL 0).bind λ⟨JC,JD⟩=>(dx ⟨JC,JD⟩ 5).bind λLh=>some Lh else some false).bind λHE=>(bif HE then(ek pL 1).bind λ⟨JE,JF⟩=>(dx ⟨JE,JF⟩ 2).bind λLi=>some Li else some false).bind λHF=>(bif HF then(ek pL 2).bind λ⟨JG,JH⟩=>(dx ⟨JG,JH⟩ (-7)).bind λXO=>some XO else some false).bind λFh=>(bif Fh then(fX kY Gh 1).bind λ⟨Fi,Fj⟩=>(dx ⟨Fi,Fj⟩ (-5)).bind λCS=>some CS else some false).bind λFk=>(bif Fk then(dS kY Gh).bind λO4=>(some (O4.length:Int)).bind λMa=>(some (decide ((Ma:Int)=2))).bind λMb=>some Mb else some false).bind λFl=>XJ Fl
noncomputable def eF(x0:Qr)(x1:Qr)(x2:Int):Option (Bool):=match x0 with|⟨⟨bD,bB⟩,⟨dr,dH⟩⟩=>match x1 with|⟨⟨cq,b9⟩,⟨iy,iz⟩⟩=>cW (λ(Fm:Bool)=>(bif Fm then(fE).bind λkp=>some kp else(cC ⟨⟨bD,bB⟩,⟨dr,dH⟩⟩).bind λ⟨jG,jH⟩=>(b7 ⟨jG,jH⟩).bind λ⟨⟨wG,wH⟩,⟨JI,JJ⟩⟩=>(gI ⟨⟨bD,bB⟩,⟨dr,dH⟩⟩ ⟨⟨wG,wH⟩,⟨JI,JJ⟩⟩).bind λ⟨⟨sg,si⟩,⟨zR,zS⟩⟩=>(jO ⟨⟨sg,si⟩,⟨zR,zS⟩⟩).bind λ⟨⟨pR,pS⟩,⟨JK,JM⟩⟩=>(b8 1 2).bind λ⟨⟨iQ,iA⟩,⟨mZ,m7⟩⟩=>(fW ⟨⟨pR,pS⟩,⟨JK,JM⟩⟩ ⟨⟨iQ,iA⟩,⟨mZ,m7⟩⟩).bind λmq=>(bp 2).bind λ⟨mP,mQ⟩=>(bT ⟨jG,jH⟩ ⟨mP,mQ⟩).bind λ⟨⟨Mc,Md⟩,⟨Fo,Fp⟩,XP⟩=>cW (λ(Fq:Bool)=>(bif Fq then some false else(some (IntKind.i64.wrap x2)).bind λY8=>(some (IntKind.i64.wrap (2*Y8))).bind λGf=>(bp Gf).bind λ⟨Fs,Ft⟩=>cW (λ(Fu:Bool)=>(bif Fu then some false else cW (λ(JN:Bool)=>some JN) λN0=>(fW ⟨⟨bD,bB⟩,⟨dr,dH⟩⟩ ⟨⟨cq,b9⟩,⟨iy,iz⟩⟩).bind λY9=>(some (decide ((0:Int)<Y9))).bind λXQ=>(bif XQ then some true else(cC ⟨⟨cq,b9⟩,⟨iy,iz⟩⟩).bind λ⟨JO,JP⟩=>(fS ⟨jG,jH⟩ ⟨JO,JP⟩).bind λZa=>(some (decide ((Za:Int)<=0))).bind λMV=>some MV).bind λFv=>N0 Fv)) λSB=>(gJ ⟨⟨bD,bB⟩,⟨dr,dH⟩⟩).bind λ⟨⟨JQ,JR⟩,⟨JS,JU⟩⟩=>(cC ⟨⟨JQ,JR⟩,⟨JS,JU⟩⟩).bind λ⟨JV,JW⟩=>(dG ⟨jG,jH⟩).bind λ⟨JX,JY⟩=>(cY ⟨JV,JW⟩ ⟨JX,JY⟩).bind λGb=>(some (!Gb)).bind λXR=>(bif XR then some true else(b7 ⟨Fs,Ft⟩).bind λ⟨⟨JZ,J0⟩,⟨J1,J2⟩⟩=>(gH ⟨⟨bD,bB⟩,⟨dr,dH⟩⟩ ⟨⟨JZ,J0⟩,⟨J1,J2⟩⟩).bind λ⟨⟨J3,J4⟩,⟨J5,J6⟩⟩=>(cC ⟨⟨J3,J4⟩,⟨J5,J6⟩⟩).bind λ⟨J7,J8⟩=>(c9 ⟨jG,jH⟩ ⟨Fs,Ft⟩).bind λ⟨J9,Ka⟩=>(cY ⟨J7,J8⟩ ⟨J9,Ka⟩).bind λGe=>(some (!Ge)).bind λXS=>some XS).bind λFx=>SB Fx)) λK7=>(some (decide ((0:Int)<mq))).bind λot=>(bif ot then some true else(some (decide ((mq:Int)=0))).bind λyT=>(bif yT then(bZ ⟨Fo,Fp⟩).bind λvr=>(some (decide ((vr:Int)≠0))).bind λMS=>some MS else some false).bind λFy=>some Fy).bind λFz=>K7 Fz)) λK3=>(ij [[⟨⟨bD,bB⟩,⟨dr,dH⟩⟩,⟨⟨cq,b9⟩,⟨iy,iz⟩⟩]]).bind λfJ=>(bif fJ then some true else(fE).bind λjm=>(some (!jm)).bind λkP=>some kP).bind λFA=>K3 FA
end
section
open Go.Fw Go.Fw.Z Go.RowKit
theorem eW{x0:Zr}{x1:Int}{r:Bool}(h:dx x0 x1=some r):Pure ah 20 [.agg (eZ x0),ay x1] (az r):=by
 obtain⟨bD,bB⟩:=x0;refine bN Try.func20 Y (af Y) (λga M vs hvs=>?_);unfold dx at h;refine sr<|bx Y<|ag Y<|dn<|qq<|bf mixed<|ld Y Y (.k2 Y Y)<|mv Y ?_;obtain⟨⟨El,Em⟩,h7,h⟩:=bS h;refine cl (dm h7) ⟨Y,aq⟩<|bE h λx8 h8 h=>cl (kM h8) ⟨Y,Y,aq⟩<|ag Y ?_;refine RT.done ⟨by kernel_rfl,?_⟩;refine aV.n<|bh ?_;obtain rfl:=O h;exact R1 Y
theorem cK{x0:Int}{x1:Int}{r:Qr}(h:b8 x0 x1=some r):Pure ah 27 [ay x0,ay x1] (.agg (eQ r)):=by
 refine bN Try.func27 Y (af Y) (λga M vs hvs=>?_);unfold b8 at h;refine sr<|al (cs:=[az false,ax,az false,ax]) (by exact⟨au,aB,au,aB,aq⟩) Y<|dn<|sr<|mv Y<|mv Y ?_;obtain⟨⟨⟨⟨Fa,Fb⟩,⟨Fe,Ff⟩⟩,Hf⟩,jy,h⟩:=bS h;refine cl (r7 jy) ⟨Y,Y,aq⟩<|mv Y<|ex Y Y<|ex Y Y<|al (cs:=[az false,ax,az false,ax]) (by exact⟨au,aB,au,aB,aq⟩) Y<|so Y Y Y<|ag Y<|dn<|sr<|ld Y Y (.k4 Y Y Y Y)<|so Y Y Y<|dn<|bh ?_;obtain rfl:=O h;exact RZ (.agg Y Y (.k4 Y Y Y Y) Y (.nil))
set_option maxHeartbeats 4000000 in
theorem nu{r:Bool}(h:fE=some r):Pure ah 10 [] (az r):=by
 refine bN Try.func10 Y (af Y) (λga M vs hvs=>?_);unfold fE at h;refine sr<|ag Y<|dn<|sr ?_;obtain⟨⟨kY,zh⟩,qW,h⟩:=bS h;refine RT.Ht .none (zM qW) [302] (by decide) Y ⟨⟨Y,T⟩,aq⟩ Y ⟨Y,aq⟩ T Y Y<|mo (s:=.cmp _ _) Y<|RT.zF .none Y Y T<|RT.zF .none Y Y T<|an (s:=.ptr _ _) Y<|ag Y<|dn<|qq<|sr<|mv Y<|ne false Y Y (by decide)<|dn<|fs<|sr<|mo (s:=.ptr _ _) Y ?_;obtain⟨⟨⟨mX,mY⟩,⟨Jm,Jn⟩⟩,mU,h⟩:=bS h;refine cl (cK mU) ⟨Y,Y,aq⟩ ?_;obtain⟨⟨fJ,l2⟩,jK,h⟩:=bS h;refine RT.wA .none (dN jK) 11 [302] [304] Y ⟨Y,aq⟩ (by decide) (by decide) Y ⟨⟨Y,T⟩,aq⟩ Y Y (.cons Y (.k4 Y Y Y Y)) T<|ag Y<|dn<|sr<|mo (s:=.ptr _ _) Y ?_;obtain⟨⟨⟨uM,qe⟩,⟨uN,rY⟩⟩,nY,h⟩:=bS h;refine cl (cK nY) ⟨Y,Y,aq⟩ ?_;obtain⟨⟨kP,l4⟩,qY,h⟩:=bS h;refine RT.wA .none (dN qY) 11 [304] [306] Y ⟨Y,aq⟩ (by decide) (by decide) Y ⟨⟨Y,T⟩,aq⟩ Y Y (.cons Y (.k4 Y Y Y Y)) T<|ag Y<|dn<|sr<|mo (s:=.ptr _ _) Y ?_;obtain⟨⟨⟨wD,wE⟩,⟨wF,zK⟩⟩,qX,h⟩:=bS h;refine cl (cK qX) ⟨Y,Y,aq⟩ ?_;obtain⟨⟨fo,l6⟩,ou,h⟩:=bS h;refine RT.wA .none (dN ou) 11 [306] [308] Y ⟨Y,aq⟩ (by decide) (by decide) Y ⟨⟨Y,T⟩,aq⟩ Y Y (.cons Y (.k4 Y Y Y Y)) T<|ag Y<|dn<|sr<|mo (s:=.ptr _ _) Y ?_;obtain⟨⟨⟨Jo,Jp⟩,⟨Jq,Jr⟩⟩,qC,h⟩:=bS h;refine cl (cK qC) ⟨Y,Y,aq⟩ ?_;obtain⟨⟨nW,l8⟩,vu,h⟩:=bS h
 refine RT.wA .none (dN vu) 11 [308] [310] Y ⟨Y,aq⟩ (by decide) (by decide) Y ⟨⟨Y,T⟩,aq⟩ Y Y (.cons Y (.k4 Y Y Y Y)) T<|ag Y<|dn<|sr<|mo (s:=.ptr _ _) Y ?_;obtain⟨⟨⟨sg,si⟩,⟨zR,zS⟩⟩,kQ,h⟩:=bS h;refine cl (cK kQ) ⟨Y,Y,aq⟩ ?_;obtain⟨⟨uB,Gc⟩,xB,h⟩:=bS h;refine RT.wA .none (dN xB) 11 [310] [312] Y ⟨Y,aq⟩ (by decide) (by decide) Y ⟨⟨Y,T⟩,aq⟩ Y Y (.cons Y (.k4 Y Y Y Y)) T<|ag Y<|dn<|sr<|mo (s:=.ptr _ _) Y ?_;obtain⟨⟨⟨iQ,iA⟩,⟨mZ,m7⟩⟩,nM,h⟩:=bS h;refine cl (cK nM) ⟨Y,Y,aq⟩ ?_;obtain⟨⟨mq,Gh⟩,rU,h⟩:=bS h;refine RT.wA .none (dN rU) 11 [312] [314] Y ⟨Y,aq⟩ (by decide) (by decide) Y ⟨⟨Y,T⟩,aq⟩ Y Y (.cons Y (.k4 Y Y Y Y)) T<|ag Y<|dn<|sr<|mo (s:=.ptr _ _) Y<|bE h λpL A8 h=>RT.nn .none (rB A8) 11 [314] Y ⟨Y,aq⟩ (by decide) Y Y (.cons Y (.nil)) T<|ag Y<|dn<|qq ?_;refine bF h (λXT=>AS.dR 112 [(0,aj XT)] [] []) (λh=>?_) (λFg h=>?_);refine aZ ?_;obtain⟨⟨⟨mP,mQ⟩,⟨Js,Jt⟩⟩,vM,h⟩:=bS h;refine cl (cK vM) ⟨Y,Y,aq⟩ ?_;obtain⟨⟨m8,m9⟩,xD,h⟩:=bS h;refine cl (dB xD) ⟨Y,aq⟩<|bE h λtg CT h=>cl (eW CT) ⟨Y,Y,aq⟩<|mv Y<|bE h λCa sn h=>?_;cases tg;obtain rfl:=O (F sn);refine ww<|ww<|ww<|pF Y<|mv Y<|bE h λSD O5 h=>?_;obtain rfl:=O (F O5);refine ww<|ww<|ww<|pF Y<|mv Y<|bE h λSE O6 h=>?_;obtain rfl:=O (F O6)
 refine ww<|ww<|ww<|pF Y<|mv Y<|bE h λSF O7 h=>?_;obtain rfl:=O (F O7);refine ww<|ww<|pF Y<|mv Y<|bE h λSG O8 h=>?_;obtain rfl:=O (F O8);refine ww<|ww<|pF Y<|mv Y<|bE h λSH O9 h=>?_;obtain rfl:=O (F O9);refine ww<|ww<|pF Y<|mv Y<|bE h λSI Pa h=>?_;obtain rfl:=O (F Pa);refine ww<|ww<|pF Y<|mv Y<|bE h λSJ Pb h=>?_;obtain rfl:=O (F Pb);refine ww<|ww<|pF Y<|mv Y<|bE h λSK Pc h=>?_;obtain rfl:=O (F Pc);refine ww<|ww<|pF Y<|mv Y<|bE h λSL Pd h=>?_;obtain rfl:=O (F Pd);refine ww<|ww<|ww<|pF Y<|mv Y<|bE h λSM Pe h=>?_;obtain rfl:=O (F Pe);refine ww<|ww<|ww<|ww<|pF Y<|mv Y<|bE h λSN Pf h=>?_;obtain rfl:=O (F Pf);refine ww<|ww<|ww<|ww<|pF Y<|mv Y<|bE h λPg Ph h=>?_;obtain rfl:=O (F Ph);refine ww<|ww<|ww<|ww<|pF Y<|mv Y<|bE h λPj Pk h=>?_;obtain rfl:=O (F Pk);refine ww<|ww<|ww<|pF Y<|mv Y<|bE h λPm Pn h=>?_;obtain rfl:=O (F Pn);exact ww<|ww<|ww<|ww<|pF Y<|ag Y<|dn<|⟨false,h,wR []⟩;obtain⟨⟨⟨jI,jJ⟩,⟨rZ,r5⟩⟩,qB,sn⟩:=bS (V sn);refine gc (cK qB) ⟨Y,Y,aq⟩ ?_;obtain⟨⟨zo,zq⟩,CV,sn⟩:=bS sn;refine gc (dB CV) ⟨Y,aq⟩<|bE sn λot zg sn=>gc (eW zg) ⟨Y,Y,aq⟩ ?_;obtain rfl:=O sn;refine pT Y<|mv Y<|bE h λSO sq h=>?_;cases ot;obtain rfl:=O (F sq);refine ww<|ww<|ww<|pF Y<|mv Y<|bE h λSP Po h=>?_
 obtain rfl:=O (F Po);refine ww<|ww<|ww<|pF Y<|mv Y<|bE h λSQ Pp h=>?_;obtain rfl:=O (F Pp);refine ww<|ww<|pF Y<|mv Y<|bE h λSR Pq h=>?_;obtain rfl:=O (F Pq);refine ww<|ww<|pF Y<|mv Y<|bE h λSS Pr h=>?_;obtain rfl:=O (F Pr);refine ww<|ww<|pF Y<|mv Y<|bE h λSU Ps h=>?_;obtain rfl:=O (F Ps);refine ww<|ww<|pF Y<|mv Y<|bE h λSW Pt h=>?_;obtain rfl:=O (F Pt);refine ww<|ww<|pF Y<|mv Y<|bE h λSX Pu h=>?_;obtain rfl:=O (F Pu);refine ww<|ww<|pF Y<|mv Y<|bE h λSY Pv h=>?_;obtain rfl:=O (F Pv);refine ww<|ww<|ww<|pF Y<|mv Y<|bE h λSZ Pw h=>?_;obtain rfl:=O (F Pw);refine ww<|ww<|ww<|ww<|pF Y<|mv Y<|bE h λS0 Px h=>?_;obtain rfl:=O (F Px);refine ww<|ww<|ww<|ww<|pF Y<|mv Y<|bE h λPy Pz h=>?_;obtain rfl:=O (F Pz);refine ww<|ww<|ww<|ww<|pF Y<|mv Y<|bE h λPA PB h=>?_;obtain rfl:=O (F PB);refine ww<|ww<|ww<|pF Y<|mv Y<|bE h λPC PD h=>?_;obtain rfl:=O (F PD);exact ww<|ww<|ww<|ww<|pF Y<|ag Y<|dn<|⟨false,h,wR []⟩;obtain⟨⟨⟨Ju,Jv⟩,⟨Jw,Jx⟩⟩,Ev,sq⟩:=bS (V sq);refine gc (cK Ev) ⟨Y,Y,aq⟩ ?_;obtain⟨⟨zP,zQ⟩,h46,sq⟩:=bS sq;refine gc (dB h46) ⟨Y,aq⟩<|bE sq λyU Ew sq=>gc (eW Ew) ⟨Y,Y,aq⟩ ?_;obtain rfl:=O sq;refine pT Y<|mv Y<|bE h λS3 su h=>?_;cases yU;obtain rfl:=O (F su)
 refine ww<|ww<|ww<|pF Y<|mv Y<|bE h λS4 PE h=>?_;obtain rfl:=O (F PE);refine ww<|ww<|pF Y<|mv Y<|bE h λS5 PF h=>?_;obtain rfl:=O (F PF);refine ww<|ww<|pF Y<|mv Y<|bE h λS6 PG h=>?_;obtain rfl:=O (F PG);refine ww<|ww<|pF Y<|mv Y<|bE h λS7 PI h=>?_;obtain rfl:=O (F PI);refine ww<|ww<|pF Y<|mv Y<|bE h λS8 PJ h=>?_;obtain rfl:=O (F PJ);refine ww<|ww<|pF Y<|mv Y<|bE h λS9 PK h=>?_;obtain rfl:=O (F PK);refine ww<|ww<|pF Y<|mv Y<|bE h λTa PL h=>?_;obtain rfl:=O (F PL);refine ww<|ww<|ww<|pF Y<|mv Y<|bE h λTb PM h=>?_;obtain rfl:=O (F PM);refine ww<|ww<|ww<|ww<|pF Y<|mv Y<|bE h λTc PN h=>?_;obtain rfl:=O (F PN);refine ww<|ww<|ww<|ww<|pF Y<|mv Y<|bE h λPO PR h=>?_;obtain rfl:=O (F PR);refine ww<|ww<|ww<|ww<|pF Y<|mv Y<|bE h λPS PT h=>?_;obtain rfl:=O (F PT);refine ww<|ww<|ww<|pF Y<|mv Y<|bE h λPU PV h=>?_;obtain rfl:=O (F PV);exact ww<|ww<|ww<|ww<|pF Y<|ag Y<|dn<|⟨false,h,wR []⟩;obtain⟨⟨⟨Jy,Jz⟩,⟨JA,JB⟩⟩,CW,su⟩:=bS (V su);refine gc (cK CW) ⟨Y,Y,aq⟩ ?_;obtain⟨⟨za,zb⟩,G1,su⟩:=bS su;refine gc (dB G1) ⟨Y,aq⟩<|bE su λvI Ex su=>gc (eW Ex) ⟨Y,Y,aq⟩ ?_;obtain rfl:=O su;refine pT Y<|mv Y<|bE h λTd Cb h=>?_;cases vI;obtain rfl:=O (F Cb);refine ww<|ww<|pF Y<|mv Y<|bE h λTe PW h=>?_;obtain rfl:=O (F PW)
 refine ww<|ww<|pF Y<|mv Y<|bE h λTf PX h=>?_;obtain rfl:=O (F PX);refine ww<|ww<|pF Y<|mv Y<|bE h λTg PY h=>?_;obtain rfl:=O (F PY);refine ww<|ww<|pF Y<|mv Y<|bE h λTh PZ h=>?_;obtain rfl:=O (F PZ);refine ww<|ww<|pF Y<|mv Y<|bE h λTi P0 h=>?_;obtain rfl:=O (F P0);refine ww<|ww<|pF Y<|mv Y<|bE h λTj P1 h=>?_;obtain rfl:=O (F P1);refine ww<|ww<|ww<|pF Y<|mv Y<|bE h λTk P2 h=>?_;obtain rfl:=O (F P2);refine ww<|ww<|ww<|ww<|pF Y<|mv Y<|bE h λTl P3 h=>?_;obtain rfl:=O (F P3);refine ww<|ww<|ww<|ww<|pF Y<|mv Y<|bE h λP4 P5 h=>?_;obtain rfl:=O (F P5);refine ww<|ww<|ww<|ww<|pF Y<|mv Y<|bE h λP6 P7 h=>?_;obtain rfl:=O (F P7);refine ww<|ww<|ww<|pF Y<|mv Y<|bE h λP8 P9 h=>?_;obtain rfl:=O (F P9);exact ww<|ww<|ww<|ww<|pF Y<|ag Y<|dn<|⟨false,h,wR []⟩;refine gm Y<|lE (V Cb) λGY Lx Cb=>BW _ Y Y (qz (p:=fJ) (q:=0) Lx) ?_;obtain rfl:=O Cb;refine pT Y<|mv Y<|bE h λTm Cc h=>?_;cases GY;obtain rfl:=O (F Cc);refine ww<|ww<|pF Y<|mv Y<|bE h λTn Qa h=>?_;obtain rfl:=O (F Qa);refine ww<|ww<|pF Y<|mv Y<|bE h λTo Qb h=>?_;obtain rfl:=O (F Qb);refine ww<|ww<|pF Y<|mv Y<|bE h λTp Qc h=>?_;obtain rfl:=O (F Qc);refine ww<|ww<|pF Y<|mv Y<|bE h λTq Qd h=>?_;obtain rfl:=O (F Qd)
 refine ww<|ww<|pF Y<|mv Y<|bE h λTr Qe h=>?_;obtain rfl:=O (F Qe);refine ww<|ww<|ww<|pF Y<|mv Y<|bE h λTs Qf h=>?_;obtain rfl:=O (F Qf);refine ww<|ww<|ww<|ww<|pF Y<|mv Y<|bE h λTt Qg h=>?_;obtain rfl:=O (F Qg);refine ww<|ww<|ww<|ww<|pF Y<|mv Y<|bE h λQh Qi h=>?_;obtain rfl:=O (F Qi);refine ww<|ww<|ww<|ww<|pF Y<|mv Y<|bE h λQj Qk h=>?_;obtain rfl:=O (F Qk);refine ww<|ww<|ww<|pF Y<|mv Y<|bE h λQl Qm h=>?_;obtain rfl:=O (F Qm);exact ww<|ww<|ww<|ww<|pF Y<|ag Y<|dn<|⟨false,h,wR []⟩;refine gm Y<|lE (V Cc) λCO G2 Cc=>BW _ Y Y (qz (p:=kP) (q:=0) G2) ?_;obtain rfl:=O Cc;refine pT Y<|mv Y<|bE h λTu Cd h=>?_;cases CO;obtain rfl:=O (F Cd);refine ww<|ww<|pF Y<|mv Y<|bE h λTv Qn h=>?_;obtain rfl:=O (F Qn);refine ww<|ww<|pF Y<|mv Y<|bE h λTw Qo h=>?_;obtain rfl:=O (F Qo);refine ww<|ww<|pF Y<|mv Y<|bE h λTx Qp h=>?_;obtain rfl:=O (F Qp);refine ww<|ww<|pF Y<|mv Y<|bE h λTy Qq h=>?_;obtain rfl:=O (F Qq);refine ww<|ww<|ww<|pF Y<|mv Y<|bE h λTz Qs h=>?_;obtain rfl:=O (F Qs);refine ww<|ww<|ww<|ww<|pF Y<|mv Y<|bE h λTA Qt h=>?_;obtain rfl:=O (F Qt);refine ww<|ww<|ww<|ww<|pF Y<|mv Y<|bE h λQu Qv h=>?_;obtain rfl:=O (F Qv);refine ww<|ww<|ww<|ww<|pF Y<|mv Y<|bE h λQw Qx h=>?_;obtain rfl:=O (F Qx)
 refine ww<|ww<|ww<|pF Y<|mv Y<|bE h λQy Qz h=>?_;obtain rfl:=O (F Qz);exact ww<|ww<|ww<|ww<|pF Y<|ag Y<|dn<|⟨false,h,wR []⟩;refine gm Y<|lE (V Cd) λXK h64 Cd=>BW _ Y Y (qz (p:=fo) (q:=1) h64) ?_;obtain rfl:=O Cd;refine pT Y<|mv Y<|bE h λTB Ce h=>?_;cases XK;obtain rfl:=O (F Ce);refine ww<|ww<|pF Y<|mv Y<|bE h λTC QA h=>?_;obtain rfl:=O (F QA);refine ww<|ww<|pF Y<|mv Y<|bE h λTD QB h=>?_;obtain rfl:=O (F QB);refine ww<|ww<|pF Y<|mv Y<|bE h λTE QC h=>?_;obtain rfl:=O (F QC);refine ww<|ww<|ww<|pF Y<|mv Y<|bE h λTF QD h=>?_;obtain rfl:=O (F QD);refine ww<|ww<|ww<|ww<|pF Y<|mv Y<|bE h λTG QE h=>?_;obtain rfl:=O (F QE);refine ww<|ww<|ww<|ww<|pF Y<|mv Y<|bE h λQF QG h=>?_;obtain rfl:=O (F QG);refine ww<|ww<|ww<|ww<|pF Y<|mv Y<|bE h λQH QI h=>?_;obtain rfl:=O (F QI);refine ww<|ww<|ww<|pF Y<|mv Y<|bE h λQJ QK h=>?_;obtain rfl:=O (F QK);exact ww<|ww<|ww<|ww<|pF Y<|ag Y<|dn<|⟨false,h,wR []⟩;refine gm Y<|lE (V Ce) λLb OD Ce=>BW _ Y Y (qz (p:=nW) (q:=1) OD) ?_;obtain rfl:=O Ce;refine pT Y<|mv Y<|bE h λTH Cf h=>?_;cases Lb;obtain rfl:=O (F Cf);refine ww<|ww<|pF Y<|mv Y<|bE h λTI QL h=>?_;obtain rfl:=O (F QL);refine ww<|ww<|pF Y<|mv Y<|bE h λTJ QM h=>?_;obtain rfl:=O (F QM)
 refine ww<|ww<|ww<|pF Y<|mv Y<|bE h λTK QN h=>?_;obtain rfl:=O (F QN);refine ww<|ww<|ww<|ww<|pF Y<|mv Y<|bE h λTL QO h=>?_;obtain rfl:=O (F QO);refine ww<|ww<|ww<|ww<|pF Y<|mv Y<|bE h λQS QT h=>?_;obtain rfl:=O (F QT);refine ww<|ww<|ww<|ww<|pF Y<|mv Y<|bE h λQU QV h=>?_;obtain rfl:=O (F QV);refine ww<|ww<|ww<|pF Y<|mv Y<|bE h λQW QX h=>?_;obtain rfl:=O (F QX);exact ww<|ww<|ww<|ww<|pF Y<|ag Y<|dn<|⟨false,h,wR []⟩;refine gm Y<|lE (V Cf) λGe OF Cf=>BW _ Y Y (qz (p:=uB) (q:=12) OF) ?_;obtain rfl:=O Cf;refine pT Y<|mv Y<|bE h λTM Cg h=>?_;cases Ge;obtain rfl:=O (F Cg);refine ww<|ww<|pF Y<|mv Y<|bE h λTN QY h=>?_;obtain rfl:=O (F QY);refine ww<|ww<|ww<|pF Y<|mv Y<|bE h λTO QZ h=>?_;obtain rfl:=O (F QZ);refine ww<|ww<|ww<|ww<|pF Y<|mv Y<|bE h λTP Q0 h=>?_;obtain rfl:=O (F Q0);refine ww<|ww<|ww<|ww<|pF Y<|mv Y<|bE h λQ1 Q2 h=>?_;obtain rfl:=O (F Q2);refine ww<|ww<|ww<|ww<|pF Y<|mv Y<|bE h λQ3 Q4 h=>?_;obtain rfl:=O (F Q4);refine ww<|ww<|ww<|pF Y<|mv Y<|bE h λQ5 Q6 h=>?_;obtain rfl:=O (F Q6);exact ww<|ww<|ww<|ww<|pF Y<|ag Y<|dn<|⟨false,h,wR []⟩;refine gm Y<|lE (V Cg) λXL h76 Cg=>BW _ Y Y (qz (p:=mq) (q:=1) h76) ?_;obtain rfl:=O Cg;refine pT Y<|mv Y<|bE h λTQ wI h=>?_;cases XL
 obtain rfl:=O (F wI);refine ww<|ww<|ww<|pF Y<|mv Y<|bE h λTS Q7 h=>?_;obtain rfl:=O (F Q7);refine ww<|ww<|ww<|ww<|pF Y<|mv Y<|bE h λTT Q8 h=>?_;obtain rfl:=O (F Q8);refine ww<|ww<|ww<|ww<|pF Y<|mv Y<|bE h λQ9 Ra h=>?_;obtain rfl:=O (F Ra);refine ww<|ww<|ww<|ww<|pF Y<|mv Y<|bE h λRb Rc h=>?_;obtain rfl:=O (F Rc);refine ww<|ww<|ww<|pF Y<|mv Y<|bE h λRd Re h=>?_;obtain rfl:=O (F Re);exact ww<|ww<|ww<|ww<|pF Y<|ag Y<|dn<|⟨false,h,wR []⟩;refine gm Y<|lE (V wI) λXM h80 wI=>gn Y h80<|lE wI λXN h81 wI=>BW _ Y Y (qz (p:=XM) (q:=3) h81) ?_;obtain rfl:=O wI;refine pT Y<|mv Y<|bE h λTU wJ h=>?_;cases XN;obtain rfl:=O (F wJ);refine ww<|ww<|ww<|ww<|pF Y<|mv Y<|bE h λTV Rf h=>?_;obtain rfl:=O (F Rf);refine ww<|ww<|ww<|ww<|pF Y<|mv Y<|bE h λRg Rh h=>?_;obtain rfl:=O (F Rh);refine ww<|ww<|ww<|ww<|pF Y<|mv Y<|bE h λRi Rj h=>?_;obtain rfl:=O (F Rj);refine ww<|ww<|ww<|pF Y<|mv Y<|bE h λRk Rl h=>?_;obtain rfl:=O (F Rl);exact ww<|ww<|ww<|ww<|pF Y<|ag Y<|dn<|⟨false,h,wR []⟩;refine gm Y ?_;obtain⟨⟨JC,JD⟩,Wg,wJ⟩:=bS (V wJ);refine RT.NN (.some Y Y) Y Y T Wg<|RT.Dz (cs:=[_,_]) (.some Y Y) Y T Y Y<|bE wJ λLh Wh wJ=>gc (eW Wh) ⟨Y,Y,aq⟩ ?_;obtain rfl:=O wJ;refine pT Y<|mv Y<|bE h λTW wK h=>?_;cases Lh
 obtain rfl:=O (F wK);refine ww<|ww<|ww<|ww<|pF Y<|mv Y<|bE h λRm Rn h=>?_;obtain rfl:=O (F Rn);refine ww<|ww<|ww<|ww<|pF Y<|mv Y<|bE h λRo Rp h=>?_;obtain rfl:=O (F Rp);refine ww<|ww<|ww<|pF Y<|mv Y<|bE h λRq Rr h=>?_;obtain rfl:=O (F Rr);exact ww<|ww<|ww<|ww<|pF Y<|ag Y<|dn<|⟨false,h,wR []⟩;refine gm Y ?_;obtain⟨⟨JE,JF⟩,Wi,wK⟩:=bS (V wK);refine RT.NN (.some Y Y) Y Y T Wi<|RT.Dz (cs:=[_,_]) (.some Y Y) Y T Y Y<|bE wK λLi Wj wK=>gc (eW Wj) ⟨Y,Y,aq⟩ ?_;obtain rfl:=O wK;refine pT Y<|mv Y<|bE h λRt wL h=>?_;cases Li;obtain rfl:=O (F wL);refine ww<|ww<|ww<|ww<|pF Y<|mv Y<|bE h λRu Rv h=>?_;obtain rfl:=O (F Rv);refine ww<|ww<|ww<|pF Y<|mv Y<|bE h λRw Rx h=>?_;obtain rfl:=O (F Rx);exact ww<|ww<|ww<|ww<|pF Y<|ag Y<|dn<|⟨false,h,wR []⟩;refine gm Y ?_;obtain⟨⟨JG,JH⟩,Wk,wL⟩:=bS (V wL);refine RT.NN (.some Y Y) Y Y T Wk<|RT.Dz (cs:=[_,_]) (.some Y Y) Y T Y Y<|bE wL λXO h99 wL=>gc (eW h99) ⟨Y,Y,aq⟩ ?_;obtain rfl:=O wL;refine pT Y<|mv Y<|bE h λRy wM h=>?_;cases XO;obtain rfl:=O (F wM);refine ww<|ww<|ww<|pF Y<|mv Y<|bE h λRz RA h=>?_;obtain rfl:=O (F RA);exact ww<|ww<|ww<|ww<|pF Y<|ag Y<|dn<|⟨false,h,wR []⟩;refine RT.move (.some Y Y) (s:=.ptr _ _) Y T ?_;obtain⟨⟨Fi,Fj⟩,LD,wM⟩:=bS (V wM)
 refine RT.nn (.some Y Y) (sP LD) 11 [314] Y ⟨Y,aq⟩ (by decide) Y Y (.k2 Y Y) T<|bE wM λCS LF wM=>gc (eW LF) ⟨Y,Y,aq⟩ ?_;obtain rfl:=O wM;refine pT Y<|mv Y<|bE h λRB sw h=>?_;cases CS;obtain rfl:=O (F sw);exact ww<|ww<|ww<|ww<|pF Y<|ag Y<|dn<|⟨false,h,wR []⟩;refine RT.move (.some Y Y) (s:=.ptr _ _) Y T<|bE (V sw) λO4 XU sw=>RT.nn (.some Y Y) (nq XU) 11 [314] Y ⟨Y,aq⟩ (by decide) Y Y (.cons Y (.nil)) T<|lE sw λMa XV sw=>gn Y XV<|lE sw λMb XW sw=>BW _ Y Y (qz (p:=Ma) (q:=2) XW) ?_;obtain rfl:=O sw;exact pT Y<|ag Y<|dn<|⟨Mb,h,wR []⟩
 try dsimp only
 refine aV.n<|bh ?_;obtain rfl:=O h;exact R1 Y
end
section
open Go.Fw Go.Fw.Z Go.RowKit
set_option maxHeartbeats 4000000 in
theorem mg{x0:Qr}{x1:Qr}{x2:Int}{r:Bool}(h:eF x0 x1 x2=some r):Pure ah 8 [.agg (eQ x0),.agg (eQ x1),.v (.int .i32 x2)] (az r):=by
 obtain⟨⟨bD,bB⟩,⟨dr,dH⟩⟩:=x0;obtain⟨⟨cq,b9⟩,⟨iy,iz⟩⟩:=x1;refine bN Try.func8 Y (af Y) (λga M vs hvs=>?_);unfold eF at h;refine sr<|bx Y<|bx Y<|ag Y<|dn<|qq<|qq ?_;refine bF h (λj3=>AS.dR 86 [(2,.sv (.v (.int .i32 x2))),(3,.ptr 3 0),(4,.ptr 4 0),(22,aj j3)] [(4,⟨26,[aj cq,.sv (slc 1 (List.map aX b9)),aj iy,.sv (slc 1 (List.map aX iz))]⟩),(3,⟨26,[aj bD,.sv (slc 1 (List.map aX bB)),aj dr,.sv (slc 1 (List.map aX dH))]⟩)] []) (λh=>?_) (λFm h=>?_);refine aZ<|ld Y Y (.k4 Y Y Y Y)<|ld Y Y (.k4 Y Y Y Y)<|bl (l:=[⟨⟨bD,bB⟩,⟨dr,dH⟩⟩,⟨⟨cq,b9⟩,⟨iy,iz⟩⟩]) (e:=eQ) (.agg Y (.agg Y (.nil))) Y Y Y Y Y Y<|bl (l:=[[⟨⟨bD,bB⟩,⟨dr,dH⟩⟩,⟨⟨cq,b9⟩,⟨iy,iz⟩⟩]]) (e:=(eS 4 eQ)) (.one Y (.nil)) Y Y Y Y Y Y<|bE h λfJ jK h=>cl (vQ jK) ⟨Y,aq⟩<|mv Y ?_;refine bE h λFA rj h=>?_;cases fJ;refine bE (F rj) λjm nY rj=>gc (nu nY) trivial<|lE rj λkP qY rj=>U6 Y _ qY ?_;obtain rfl:=O rj;exact pF Y<|dn<|⟨kP,h,wR []⟩;obtain rfl:=O (V rj);exact ww<|ww<|pT Y<|dn<|⟨true,h,wR []⟩
 try dsimp only
 refine aV.n ?_;cases Fm;refine fs<|sr<|ld Y Y (.k4 Y Y Y Y) ?_;obtain⟨⟨jG,jH⟩,zf,h⟩:=bS (F h);refine cl (dB zf) ⟨Y,aq⟩<|al (cs:=[az false,ax]) (by exact⟨au,aB,aq⟩) Y<|so Y Y Y<|dn<|qq<|bf mixed<|ld Y Y (.k4 Y Y Y Y)<|ld Y Y (.k2 Y Y) ?_;obtain⟨⟨⟨wG,wH⟩,⟨JI,JJ⟩⟩,uH,h⟩:=bS h;refine cl (gi uH) ⟨Y,aq⟩ ?_;obtain⟨⟨⟨sg,si⟩,⟨zR,zS⟩⟩,kQ,h⟩:=bS h;refine cl (r9 kQ) ⟨Y,Y,aq⟩ ?_;obtain⟨⟨⟨pR,pS⟩,⟨JK,JM⟩⟩,xB,h⟩:=bS h;refine cl (zC xB) ⟨Y,aq⟩<|al (cs:=[az false,ax,az false,ax]) (by exact⟨au,aB,au,aB,aq⟩) Y<|so Y Y Y ?_;refine RT.done ⟨by kernel_rfl,?_⟩;refine aV.n<|qq<|bf mixed<|ld Y Y (.k4 Y Y Y Y) ?_;obtain⟨⟨⟨iQ,iA⟩,⟨mZ,m7⟩⟩,nM,h⟩:=bS h;refine cl (cK nM) ⟨Y,Y,aq⟩<|bE h λmq rU h=>cl (ng rU) ⟨Y,Y,aq⟩<|ag Y ?_;refine RT.done ⟨by kernel_rfl,?_⟩;refine aV.n<|qq<|bf mixed<|ld Y Y (.k2 Y Y) ?_;obtain⟨⟨mP,mQ⟩,vM,h⟩:=bS h;refine cl (dm vM) ⟨Y,aq⟩ ?_;obtain⟨⟨⟨Mc,Md⟩,⟨Fo,Fp⟩,XP⟩,xD,h⟩:=bS h;refine cl (jb xD) ⟨Y,Y,aq⟩<|mv Y<|ex Y Y<|ex Y Y<|ex Y Y<|al (cs:=[az false,ax]) (by exact⟨au,aB,aq⟩) Y<|al (cs:=[az false,ax]) (by exact⟨au,aB,aq⟩) Y<|so Y Y Y<|so Y Y Y<|ag Y ?_;refine RT.done ⟨by kernel_rfl,?_⟩;refine aV.n<|qq<|qq ?_
 refine bF h (λj7=>AS.dR 86 [(2,.sv (.v (.int .i32 x2))),(3,.ptr 3 0),(4,.ptr 4 0),(7,.ptr 7 0),(51,aj j7)] [(7,⟨24,[aj jG,.sv (slc 1 (List.map aX jH))]⟩),(4,⟨26,[aj cq,.sv (slc 1 (List.map aX b9)),aj iy,.sv (slc 1 (List.map aX iz))]⟩),(3,⟨26,[aj bD,.sv (slc 1 (List.map aX bB)),aj dr,.sv (slc 1 (List.map aX dH))]⟩)] []) (λh=>?_) (λFq h=>?_);refine aZ<|mv Y<|lE h λot zg h=>gt _ Y Y zg<|mv Y<|bE h λFz Bu h=>?_;cases ot;refine gm Y<|lE (F Bu) λyT Ev Bu=>BW _ Y Y (qz (p:=mq) (q:=0) Ev)<|gm Y<|bE Bu λFy n7 Bu=>?_;cases yT;obtain rfl:=O (F n7);refine ww<|ww<|ww<|gF Y ?_;obtain rfl:=O Bu;exact pF Y<|dn<|⟨false,h,wR []⟩;refine gl Y Y (.k2 Y Y)<|bE (V n7) λvr h48 n7=>gc (ee h48) ⟨Y,aq⟩<|lE n7 λMS Ox n7=>gq _ Y Y (KQ (p:=vr) (q:=0) Ox) ?_;obtain rfl:=O n7;refine gT Y ?_;obtain rfl:=O Bu;exact pF Y<|dn<|⟨MS,h,wR []⟩;obtain rfl:=O (V Bu);exact ww<|ww<|ww<|wu<|wu<|wu<|ww<|pT Y<|dn<|⟨true,h,wR []⟩
 try dsimp only
 refine aV.n ?_;cases Fq;refine fs<|sr<|mv Y<|lE (F h) λY8 V6 h=>cv _ Y V6<|lE h λGf MY h=>RT.mul .none _ Y Y T MY ?_;obtain⟨⟨Fs,Ft⟩,OC,h⟩:=bS h;refine cl (dm OC) ⟨Y,aq⟩<|al (cs:=[az false,ax]) (by exact⟨au,aB,aq⟩) Y<|so Y Y Y<|dn<|qq<|qq ?_;refine bF h (λJi=>AS.dR 86 [(3,.ptr 3 0),(4,.ptr 4 0),(7,.ptr 7 0),(74,aj Ji)] [(7,⟨24,[aj jG,.sv (slc 1 (List.map aX jH))]⟩),(4,⟨26,[aj cq,.sv (slc 1 (List.map aX b9)),aj iy,.sv (slc 1 (List.map aX iz))]⟩),(3,⟨26,[aj bD,.sv (slc 1 (List.map aX bB)),aj dr,.sv (slc 1 (List.map aX dH))]⟩)] []) (λh=>?_) (λFu h=>?_);refine bf mixed<|ld Y Y (.k4 Y Y Y Y) ?_;obtain⟨⟨⟨JQ,JR⟩,⟨JS,JU⟩⟩,Oz,h⟩:=bS h;refine cl (zB Oz) ⟨Y,aq⟩ ?_;obtain⟨⟨JV,JW⟩,VZ,h⟩:=bS h;refine cl (dB VZ) ⟨Y,aq⟩<|ld Y Y (.k2 Y Y) ?_;obtain⟨⟨JX,JY⟩,G2,h⟩:=bS h;refine cl (lN G2) ⟨Y,aq⟩<|bE h λGb OB h=>cl (kM OB) ⟨Y,Y,aq⟩<|lE h λXR V8 h=>nt Y _ V8<|mv Y<|bE h λFx qj h=>?_;cases XR;refine gl Y Y (.k4 Y Y Y Y)<|gl Y Y (.k2 Y Y) ?_;obtain⟨⟨⟨JZ,J0⟩,⟨J1,J2⟩⟩,V0,qj⟩:=bS (F qj);refine gc (gi V0) ⟨Y,aq⟩ ?_;obtain⟨⟨⟨J3,J4⟩,⟨J5,J6⟩⟩,Wa,qj⟩:=bS qj;refine gc (zx Wa) ⟨Y,Y,aq⟩ ?_;obtain⟨⟨J7,J8⟩,OD,qj⟩:=bS qj;refine gc (dB OD) ⟨Y,aq⟩<|gl Y Y (.k2 Y Y)<|gl Y Y (.k2 Y Y) ?_;obtain⟨⟨J9,Ka⟩,h71,qj⟩:=bS qj
 refine gc (hH h71) ⟨Y,Y,aq⟩<|bE qj λGe OF qj=>gc (kM OF) ⟨Y,Y,aq⟩<|lE qj λXS h73 qj=>U6 Y _ h73 ?_;obtain rfl:=O qj;refine pF Y ?_;refine RT.done ⟨by kernel_rfl,?_⟩;exact aV.n<|⟨XS,h,wR []⟩;obtain rfl:=O (V qj);refine ww<|ww<|ww<|ww<|ww<|ww<|ww<|ww<|ww<|ww<|pT Y ?_;refine RT.done ⟨by kernel_rfl,?_⟩;exact aV.n<|⟨true,h,wR []⟩
 try dsimp only
 refine aV.n ?_;cases Fu;refine fs<|qq ?_;refine bF (F h) (λLt=>AS.dR 86 [(6,aj Lt)] [] []) (λh=>?_) (λJN h=>?_);refine bf mixed<|ld Y Y (.k4 Y Y Y Y)<|ld Y Y (.k4 Y Y Y Y)<|bE h λY9 h77 h=>cl (ng h77) ⟨Y,Y,aq⟩<|lE h λXQ h78 h=>gt _ Y Y h78<|mv Y<|bE h λFv dY h=>?_;cases XQ;refine gl Y Y (.k2 Y Y)<|gl Y Y (.k4 Y Y Y Y) ?_;obtain⟨⟨JO,JP⟩,h82,dY⟩:=bS (F dY);refine gc (dB h82) ⟨Y,aq⟩<|bE dY λZa h83 dY=>gc (qc h83) ⟨Y,Y,aq⟩<|lE dY λMV Wf dY=>RT.leq (.some Y Y) _ Y Y T Wf ?_;obtain rfl:=O dY;refine pF Y<|ag Y ?_;refine RT.done ⟨by kernel_rfl,?_⟩;exact aV.n<|⟨MV,h,wR []⟩;obtain rfl:=O (V dY);refine ww<|ww<|ww<|ww<|ww<|pT Y<|ag Y ?_;refine RT.done ⟨by kernel_rfl,?_⟩;exact aV.n<|⟨true,h,wR []⟩
 try dsimp only
 refine aV.n<|bh ?_;obtain rfl:=O h;exact R1 Y;refine cT<|sr<|ag Y<|dn<|bh<|aV.r ?_;obtain rfl:=O (V h);exact R1 Y;refine cT<|sr<|ag Y<|dn<|bh<|aV.r ?_;obtain rfl:=O (V h);exact R1 Y;refine cT<|sr<|bE (V h) λkp qX h=>cl (nu qX) trivial<|ag Y<|dn<|bh<|aV.r ?_;obtain rfl:=O h;exact R1 Y
end
end Go.Proofs.Ytmiflmkdaeianaa
namespace Go.Fw
section
theorem nN{n:Nat}(h:n<=9223372036854775807):IntKind.i64.wrap (n:Int)=n:=mE (by omega)
theorem dI{x:Int}(h: -9223372036854775808<=x)(h':x<=9223372036854775807):IntKind.i64.wrap x=x:=mE ⟨h,h'⟩
theorem dU{n:Nat}(h:n<9223372036854775807):IntKind.i64.wrap ((n:Int)+1)=((n+1:Nat):Int):=by rw[mE (by omega)];simp
theorem nO{n m:Nat}(h:n+m<=9223372036854775807):IntKind.i64.wrap ((n:Int)+(m:Int))=((n+m:Nat):Int):=by rw[mE (by omega)];simp
theorem zT{n:Nat}(h:n<=9223372036854775807):IntKind.i64.wrap (((n+1:Nat):Int)-1)=(n:Int):=by rw[mE (by omega)];omega
theorem bX{α:Type}{l:List α}{i:Nat}{a:α}(h:l[i]? =some a):ek l (i:Int)=some a:=by simp[ek,h]
theorem nP{α:Type}{l:List α}{a:α}(h:l[0]? =some a):ek l 0=some a:=by simp[ek,h]
theorem zU{α:Type}{l:List α}{a:α}(h:l[1]? =some a):ek l 1=some a:=by simp[ek,h]
theorem ez{α:Type}{l:List α}{i:Nat}(h:i<l.length):qN l (i:Int)=some i:=by simp[qN,h]
theorem jc{α:Type}{l:List α}{i:Nat}{y:α}(h:i<l.length):stM l i y=some (l.set i y):=by simp[stM,h]
theorem FB{α:Type}{b:Nat}{l k:List α}(h:(l.length+k.length)*b<=140737488355328)(h':l.length+k.length<=140737488355328):xm b l k=some (l++k):=by simp[xm,h,h']
theorem Kb{b n M:Nat}(hb:1<=b/\b<=1000)(h:n*b<=M):n<=M:=Nat.le_trans (Nat.le_mul_of_pos_right n hb.1) h
theorem C8{α:Type}{b:Nat}{l:List α}{x:α}(hb:1<=b/\b<=1000)(h:(l.length+1)*b<=140737488355328):xm b l [x]=some (l++[x]):=FB h (Kb hb h)
theorem XX{α:Type}{b:Nat}{l k:List α}(hb:1<=b/\b<=1000)(h:(l.length+k.length)*b<=140737488355328):xm b l k=some (l++k):=FB h (Kb hb h)
theorem zV{b n:Nat}(hb:2<=b/\b<=1000)(h:b*n<=281474976710656):0<=(n:Int)/\(b:Int)*(n:Int)<=281474976710656/\(n:Int)<=140737488355328:=by
 have h2:(b:Int)*(n:Int)=((b*n:Nat):Int):=by simp
 have h3:2*n<=b*n:=Nat.mul_le_mul_right _ hb.1;rw[h2];exact⟨by omega,by omega,by omega⟩
theorem Bv{α:Type}{b:Nat}{n:Nat}(hb:2<=b/\b<=1000)(h:b*n<=281474976710656):GH (α:=α) b (n:Int)=some []:=by
 unfold GH;rw[if_pos (zV hb h)]
theorem u0{α:Type}{b:Nat}{n:Nat}{z:α}(hb:2<=b/\b<=1000)(h:b*n<=281474976710656):F8 b (n:Int) z=some (List.replicate n z):=by
 unfold F8;rw[if_pos (zV hb h),Int.toNat_natCast]
theorem FC{α:Type}{l:List α}{i j:Nat}(h:i<=j)(h':j<=l.length):xl l (i:Int) (j:Int)=some (cut l i j):=by
 unfold xl;rw[if_pos ⟨by omega,by omega,by omega⟩];simp
theorem wN{α:Type}{l:List α}{j:Nat}(h':j<=l.length):xl l 0 (j:Int)=some (l.take j):=by
 have:=FC (l:=l) (i:=0) (j:=j) (by omega) h';simpa[cut]using this
theorem lU{M a b:Nat}(h:b<=a)(h':a<M):j0 M a b=a-b:=by
 unfold j0;rw[show(a:Int)-(b:Int)=((a-b:Nat):Int) by omega,<-Int.natCast_emod,Int.toNat_natCast,Nat.mod_eq_of_lt (by omega)]
theorem tw{M a b:Nat}(h:a<b)(h':b<=M):j0 M a b=M+a-b:=by
 unfold j0;have:((a:Int)-(b:Int))%(M:Int)=((M+a-b:Nat):Int):=by
  rw[<-Int.add_emod_right (a:=(a:Int)-b),show(a:Int)-(b:Int)+(M:Int)=((M+a-b:Nat):Int) by omega,<-Int.natCast_emod,Nat.mod_eq_of_lt (by omega)]
 rw[this,Int.toNat_natCast]
theorem tB{o n i:Nat}(h:i<n):F9 o n (i:Int)=some (o+i):=by simp[F9,h]
theorem k8{α:Type}{l l':List α}(h:l'.length=l.length):om l l'=some ():=by simp[om,h]
theorem xT{M a b:Nat}(h:b≠0)(h':a<M):xn M a b=some (a/b):=by
 unfold xn;rw[if_neg h,Nat.mod_eq_of_lt (Nat.lt_of_le_of_lt (Nat.div_le_self _ _) h')]
theorem tC{a b:Nat}(h:b≠0):vE a b=some (a%b):=by unfold vE;rw[if_neg h]
theorem bO{α β:Type}{a:α}{f:α->Option β}:Option.bind (some a) f=f a:=by
 have h:∀o,o=some a->Option.bind o f=f a:=by intro o ho;rw[ho];rfl
 exact h _ Y
theorem gw{α:Type}{x y:α}:(bif true then x else y)=x:=by
 have h:∀b,b=true->(bif b then x else y)=x:=by intro b hb;rw[hb];rfl
 exact h _ Y
theorem gW{α:Type}{x y:α}:(bif false then x else y)=y:=by
 have h:∀b,b=false->(bif b then x else y)=y:=by intro b hb;rw[hb];rfl
 exact h _ Y
theorem lf{S E R:Type}{body:S->Option (S⊕E)}{s:S}{f:E->Option R}{r:R}(I:S->Prop)(Post:E->Prop)(μ:S->Nat)
  (step:∀s,I s->(∃s',body s=some (.inl s')/\I s'/\μ s'<μ s)\/(∃e,body s=some (.inr e)/\Post e)) (h:I s) (hf:∀e,Post e->f e=some r):(c5 body s).bind f=some r:=by
 obtain⟨e,h1,h2⟩:=qO I Post μ step h;rw[h1];exact hf e h2
theorem lW{S E R:Type}{body:S->Option (S⊕E)}{s:S}{f:E->Option R}{Q:R->Prop}(I:S->Prop)(Post:E->Prop)(μ:S->Nat)
  (step:∀s,I s->(∃s',body s=some (.inl s')/\I s'/\μ s'<μ s)\/(∃e,body s=some (.inr e)/\Post e)) (h:I s) (hf:∀e,Post e->∃r,f e=some r/\Q r):∃r,(c5 body s).bind f=some r/\Q r:=by
 obtain⟨e,h1,h2⟩:=qO I Post μ step h;rw[h1];exact hf e h2
theorem cZ{S E R:Type}{body:S->Option (S⊕E)}{s:S}{f:E->Option R}{r:R}(st:Nat->S)(n:Nat)(e:E)(h0:s=st 0)(hs:∀k,k<n->body (st k)=some (.inl (st (k+1))))(he:body (st n)=some (.inr e))(hf:f e=some r):(c5 body s).bind f=some r:=by
 rw[h0,D4 st n hs he];exact hf
theorem va{S R:Type}{body:Nat->S->Option S}{s:S}{f:S->Option R}{r:R}(st:Nat->S){n:Nat}(h0:s=st 0)(hs:∀k,k<n->body k (st k)=some (st (k+1)))(hf:f (st n)=some r):(mI body n s).bind f=some r:=by
 rw[h0,v8 st n hs];exact hf
theorem aA{α β:Type}{x:Option α}{a:α}{f:α->Option β}{r:Option β}(h:x=some a)(hf:f a=r):x.bind f=r:=by rw[h];exact hf
theorem fH{α:Type}{b:Bool}{x y r:α}(hb:b=true)(h:x=r):(bif b then x else y)=r:=by rw[hb];exact h
theorem cV{α:Type}{b:Bool}{x y r:α}(hb:b=false)(h:y=r):(bif b then x else y)=r:=by rw[hb];exact h
end
section
def val(B:Nat):List Nat->Nat
 |[]=>0
 |x::l=>x+B*val B l
def dZ(B:Nat):Nat->Nat->List Nat
 |0,_=>[]
 |n+1,v=>v%B::dZ B n (v/B)
def ik(ws:List Nat):List Nat:=(ws.reverse.dropWhile (· ==0)).reverse
def can(B v:Nat):List Nat:=ik (dZ B v v)
theorem bz(B:Nat):∀n v,(dZ B n v).length=n
 |0,_=>rfl
 |n+1,v=>by simp[dZ,bz B n]
theorem iq(B:Nat):∀n v,val B (dZ B n v)=v%B^n
 |0,v=>by simp[dZ,val,Nat.mod_one]
 |n+1,v=>by
  rw[dZ,val,iq B n,Nat.pow_succ,Nat.mul_comm (B^n) B,Nat.mod_mul]
theorem jd{B:Nat}(hB:0<B):∀(n v x:Nat),x∈dZ B n v->x<B
 |n+1,v,x,h=>by
  rcases List.mem_cons.1 h with rfl|h
  ·exact Nat.mod_lt _ hB
  exact jd hB n _ x h
theorem fm{B:Nat}:∀(l:List Nat),(∀x∈l,x<B)->val B l<B^l.length
 |[],_=>by simp[val]
 |x::l,h=>by
  have h1:=fm l (λy hy=>h y (List.mem_cons_of_mem _ hy));have h2:=h x (by simp);rw[val,List.length_cons,Nat.pow_succ]
  calc x+B*val B l<B+B*val B l:=by omega
   _=B*(val B l+1):=by rw[Nat.mul_add];omega
   _<=B*B^l.length:=Nat.mul_le_mul_left _ h1
   _=B^l.length*B:=Nat.mul_comm _ _
theorem tD{B:Nat}:∀(l:List Nat),(∀x∈l,x<B)->dZ B l.length (val B l)=l
 |[],_=>rfl
 |x::l,h=>by
  have h2:=h x (by simp);have hB:0<B:=by omega
  rw[List.length_cons,dZ,val,Nat.add_mul_mod_self_left,Nat.mod_eq_of_lt h2,Nat.add_mul_div_left _ _ hB,Nat.div_eq_of_lt h2,Nat.zero_add,tD l (λy hy=>h y (List.mem_cons_of_mem _ hy))]
theorem qk{B:Nat}:∀(n v j:Nat),j<n->(dZ B n v)[j]? =some (v/B^j%B)
 |n+1,v,0,_=>by simp[dZ]
 |n+1,v,j+1,h=>by
  rw[dZ,List.getElem?_cons_succ,qk n _ j (by omega),Nat.div_div_eq_div_mul,Nat.pow_succ,Nat.mul_comm B]
theorem xU{B:Nat}:∀(a b:List Nat),val B (a++b)=val B a+B^a.length*val B b
 |[],b=>by simp[val]
 |x::a,b=>by
  rw[List.cons_append,val,val,xU a b,List.length_cons,Nat.pow_succ,Nat.mul_add,Nat.add_assoc,Nat.mul_comm (B^a.length) B,Nat.mul_assoc]
theorem jT{B:Nat}:∀(n v:Nat),dZ B (n+1) v=dZ B n v++[v/B^n%B]
 |0,v=>by simp[dZ]
 |n+1,v=>by
  rw[dZ,jT n,dZ,List.cons_append,Nat.div_div_eq_div_mul,Nat.pow_succ,Nat.mul_comm B]
theorem nv(B:Nat):∀k,dZ B k 0=List.replicate k 0
 |0=>rfl
 |k+1=>by rw[dZ,Nat.zero_mod,Nat.zero_div,nv B k];rfl
theorem vb{B:Nat}(hB:0<B):∀(n k v:Nat),v<B^n->dZ B (n+k) v=dZ B n v++List.replicate k 0
 |0,k,v,h=>by
  have:v=0:=by simpa using h
  subst this;rw[Nat.zero_add,nv];rfl
 |n+1,k,v,h=>by
  rw[show n+1+k=n+k+1 by omega,dZ,dZ,List.cons_append,vb hB n k (v/B) (by rw[Nat.div_lt_iff_lt_mul hB];rwa[Nat.pow_succ]at h)]
theorem lX{B:Nat}(hB:2<=B):∀v,v<B^v
 |0=>by simp
 |v+1=>by
  have:=lX hB v;rw[Nat.pow_succ];have h2:B^v*2<=B^v*B:=Nat.mul_le_mul_left _ hB;omega
theorem lY(l:List Nat):ik (l++[0])=ik l:=by simp[ik]
theorem nx(l:List Nat):∀k,ik (l++List.replicate k 0)=ik l
 |0=>by simp
 |k+1=>by rw[List.replicate_succ',<-List.append_assoc,lY,nx l k]
theorem oY(l:List Nat){x:Nat}(h:x≠0):ik (l++[x])=l++[x]:=by simp[ik,h]
theorem oZ(xs:List Nat):xs=[]\/(∃ys,xs=ys++[0])\/(∃ys y,y≠0/\xs=ys++[y]):=by
 rcases List.eq_nil_or_concat xs with rfl|⟨ys,y,rfl⟩
 ·exact .inl Y
 by_cases hy:y=0
 ·subst hy;exact .inr (.inl ⟨ys,by simp⟩)
 exact .inr (.inr ⟨ys,y,hy,by simp⟩)
theorem rC:∀(n:Nat) (l:List Nat),l.length=n->∃k,l=ik l++List.replicate k 0:=by
 intro n
 induction n with
 |zero=>intro l h;obtain rfl:=List.length_eq_zero_iff.1 h;exact⟨0,Y⟩
 |succ n ih=>
  intro l h;rcases oZ l with rfl|⟨ys,rfl⟩|⟨ys,y,hy,rfl⟩
  ·simp at h
  ·obtain⟨k,hk⟩:=ih ys (by simpa using h);refine⟨k+1,?_⟩;rw[lY,List.replicate_succ',<-List.append_assoc,<-hk]
  exact⟨0,by rw[oY _ hy];simp⟩
theorem C9{l:List Nat}{x:Nat}(h:x∈ik l):x∈l:=by
 obtain⟨k,hk⟩:=rC _ l Y;rw[hk];exact List.mem_append_left _ h
theorem wO(l:List Nat):(ik l).length<=l.length:=by
 obtain⟨k,hk⟩:=rC _ l Y;have:=congrArg List.length hk;rw[List.length_append]at this;omega
theorem wP(B:Nat):∀k,val B (List.replicate k 0)=0
 |0=>rfl
 |k+1=>by rw[List.replicate_succ,val,wP B k];simp
theorem FD(B:Nat)(l:List Nat):val B (ik l)=val B l:=by
 obtain⟨k,hk⟩:=rC _ l Y
 conv=>rhs;rw[hk,xU,wP]
 simp
theorem zW{B:Nat}(hB:2<=B){n v:Nat}(h:v<B^n):ik (dZ B n v)=can B v:=by
 have hv:=lX hB v;rcases Nat.le_total n v with hn|hn
 ·obtain⟨k,rfl⟩:=Nat.exists_eq_add_of_le hn;rw[can,vb (by omega) n k _ h,nx]
 obtain⟨k,rfl⟩:=Nat.exists_eq_add_of_le hn;rw[can,vb (by omega) v k _ hv,nx]
theorem jU{B:Nat}(hB:2<=B){l:List Nat}(h:∀x∈l,x<B):ik l=can B (val B l):=by
 conv=>lhs;rw[<-tD l h]
 exact zW hB (fm l h)
theorem lZ{B:Nat}(hB:2<=B)(v:Nat):val B (can B v)=v:=by
 rw[can,FD,iq,Nat.mod_eq_of_lt (lX hB v)]
theorem gj{B:Nat}(hB:2<=B){v x:Nat}(h:x∈can B v):x<B:=jd (by omega) v v x (C9 h)
theorem ny(B:Nat):can B 0=[]:=rfl
theorem xV{B:Nat}(hB:2<=B){v:Nat}(h:can B v=[]):v=0:=by have:=lZ hB v;rw[h]at this;exact this.symm
theorem HG{B:Nat}(hB:2<=B){v n:Nat}(h:v<B^n):(can B v).length<=n:=by
 rw[<-zW hB h];have:=wO (dZ B n v);rwa[bz]at this
theorem HH{B:Nat}(hB:2<=B)(v:Nat):ik (can B v)=can B v:=by
 rw[jU hB (λx hx=>gj hB hx),lZ hB]
theorem HI{B:Nat}(hB:2<=B)(v:Nat):can B v=dZ B (can B v).length v:=by
 have:=tD (can B v) (λx hx=>gj hB hx);rw[lZ hB]at this;exact this.symm
theorem cM{B:Nat}(hB:2<=B)(v:Nat):v<B^(can B v).length:=by
 have:=fm (can B v) (λx hx=>gj hB hx);rwa[lZ hB]at this
theorem xW{B:Nat}(hB:2<=B){v j:Nat}(h:j<(can B v).length):(can B v)[j]? =some (v/B^j%B):=by
 rw[HI hB v]at h⊢;rw[bz]at h;exact qk _ _ _ h
theorem vc{B:Nat}(hB:2<=B){v j:Nat}(h:(can B v).length<=j):v/B^j=0:=by
 refine Nat.div_eq_of_lt (Nat.lt_of_lt_of_le (cM hB v) ?_);exact Nat.pow_le_pow_right (by omega) h
theorem zX{B:Nat}(hB:2<=B){v:Nat}(h:v≠0):∃l x,x≠0/\can B v=l++[x]:=by
 rcases oZ (can B v)with e|⟨ys,e⟩|⟨ys,y,hy,e⟩
 ·exact absurd (xV hB e) h
 ·exfalso;have h1:=HH hB v;rw[e,lY]at h1;have h2:=wO ys;rw[h1]at h2;simp at h2;omega
 exact⟨ys,y,hy,e⟩
theorem ow{B:Nat}(hB:2<=B){v n:Nat}(h:n<(can B v).length):B^n<=v:=by
 by_cases h0:v=0
 ·subst h0;simp[ny]at h
 obtain⟨l,x,hx,e⟩:=zX hB h0;have h1:=lZ hB v;rw[e,xU]at h1;have hl:n<=l.length:=by rw[e]at h;simp at h;omega
 have h2:B^n<=B^l.length:=Nat.pow_le_pow_right (by omega) hl;have h3:B^l.length<=B^l.length*val B [x]:=Nat.le_mul_of_pos_right _ (by simp[val];omega);omega
theorem cI{B:Nat}(hB:2<=B){v n:Nat}:(can B v).length<=n↔v<B^n:=by
 refine⟨λh=>?_,HG hB⟩;exact Nat.lt_of_lt_of_le (cM hB v) (Nat.pow_le_pow_right (by omega) h)
theorem FE{B:Nat}(hB:2<=B){l:List Nat}{x:Nat}(hx:x≠0)(h:∀y∈l++[x],y<B):l++[x]=can B (val B (l++[x])):=by
 rw[<-jU hB h,oY _ hx]
theorem lj{B:Nat}:∀(l:List Nat),(∀x∈l,x<B)->∀k,l.getD k 0=val B l/B^k%B
 |[],_,k=>by simp[val]
 |x::l,h,0=>by
  have h2:=h x (by simp);simp[val,Nat.add_mul_mod_self_left,Nat.mod_eq_of_lt h2]
 |x::l,h,k+1=>by
  have h2:=h x (by simp);have hB:0<B:=by omega
  rw[List.getD_cons_succ,lj l (λy hy=>h y (List.mem_cons_of_mem _ hy)) k,val,Nat.pow_succ,Nat.mul_comm (B^k) B,<-Nat.div_div_eq_div_mul,Nat.add_mul_div_left _ _ hB,Nat.div_eq_of_lt h2,Nat.zero_add]
theorem eG(B V k:Nat):V%B^(k+1)=V%B^k+B^k*(V/B^k%B):=by
 rw[Nat.pow_succ,Nat.mod_mul]
def yt(B V W k:Nat):Nat:=(V%B^k+W%B^k)/B^k
theorem Bw{B:Nat}(hB:0<B)(V W k:Nat):yt B V W k<=1:=by
 have hP:0<B^k:=Nat.pow_pos hB;have h1:=Nat.mod_lt V hP;have h2:=Nat.mod_lt W hP;have:yt B V W k<2:=by rw[yt,Nat.div_lt_iff_lt_mul hP];omega
 omega
theorem zY{B:Nat}(hB:0<B)(V W k:Nat):(V/B^k%B+W/B^k%B+yt B V W k)/B=yt B V W (k+1):=by
 have hP:0<B^k:=Nat.pow_pos hB;rw[yt,yt,eG,eG,Nat.pow_succ,<-Nat.div_div_eq_div_mul];congr 1;rw[show V%B^k+B^k*(V/B^k%B)+(W%B^k+B^k*(W/B^k%B))=(V%B^k+W%B^k)+B^k*(V/B^k%B+W/B^k%B) by rw[Nat.mul_add];omega,Nat.add_mul_div_left _ _ hP];omega
theorem xX{B:Nat}(hB:0<B)(V W k:Nat):(V/B^k%B+W/B^k%B+yt B V W k)%B=(V+W)/B^k%B:=by
 have hP:0<B^k:=Nat.pow_pos hB;have h:(V+W)/B^k=V/B^k+W/B^k+yt B V W k:=by
  have e1:=Nat.div_add_mod V (B^k);have e2:=Nat.div_add_mod W (B^k);rw[yt]
  conv=>lhs;rw[<-e1,<-e2]
  rw[show B^k*(V/B^k)+V%B^k+(B^k*(W/B^k)+W%B^k)=(V%B^k+W%B^k)+B^k*(V/B^k+W/B^k) by rw[Nat.mul_add];omega,Nat.add_mul_div_left _ _ hP];omega
 rw[h];simp[Nat.add_mod]
theorem HJ{B:Nat}{V W k:Nat}(hV:V<B^k)(hW:W<B^k):yt B V W k=(V+W)/B^k:=by
 rw[yt,Nat.mod_eq_of_lt hV,Nat.mod_eq_of_lt hW]
theorem zZ(B V W:Nat):yt B V W 0=0:=by simp[yt,Nat.mod_one]
def sQ(B V W k:Nat):Nat:=(V%B^k+B^k-W%B^k)/B^k
theorem Aa(B V W:Nat):sQ B V W 0=1:=by simp[sQ,Nat.mod_one]
theorem FF{B:Nat}(hB:0<B)(V W k:Nat):sQ B V W k<=1:=by
 have hP:0<B^k:=Nat.pow_pos hB;have h1:=Nat.mod_lt V hP;have:sQ B V W k<2:=by
  rw[sQ,Nat.div_lt_iff_lt_mul hP];generalize W%B^k=y at*;generalize V%B^k=x at*;omega
 omega
theorem Ch{B:Nat}(hB:0<B)(V W k:Nat):V%B^(k+1)+B^(k+1)-W%B^(k+1)=(V%B^k+B^k-W%B^k)+B^k*(V/B^k%B+(B-1-W/B^k%B)):=by
 have hP:0<B^k:=Nat.pow_pos hB;have h1:=Nat.mod_lt V hP;have h2:=Nat.mod_lt W hP;have h3:=Nat.mod_lt (W/B^k) hB;rw[eG,eG,Nat.pow_succ];generalize B^k=p at*;generalize V/p%B=x at*;generalize W/p%B=y at*;obtain⟨z,rfl⟩:∃z,B=y+1+z:=⟨B-y-1,by omega⟩;have e1:y+1+z-1-y=z:=by omega
 rw[e1,Nat.mul_add p x z,Nat.mul_add p (y+1) z,Nat.mul_add p y 1];omega
theorem Ab{B:Nat}(hB:0<B)(V W k:Nat):(V/B^k%B+(B-1-W/B^k%B)+sQ B V W k)/B=sQ B V W (k+1):=by
 have hP:0<B^k:=Nat.pow_pos hB;rw[sQ,sQ,Ch hB,Nat.pow_succ,<-Nat.div_div_eq_div_mul,Nat.add_mul_div_left _ _ hP];congr 1;omega
theorem Bx{Q V W:Nat}(hQ:0<Q)(h:W<=V):(V%Q+Q-W%Q)%Q=(V-W)%Q:=by
 have e1:=Nat.div_add_mod V Q;have e2:=Nat.div_add_mod W Q;have h1:=Nat.mod_lt V hQ;have h2:=Nat.mod_lt W hQ;have hq:W/Q<=V/Q:=Nat.div_le_div_right h;generalize V%Q=r at*;generalize W%Q=s at*;generalize V/Q=a at*;generalize W/Q=b at*;obtain⟨c,rfl⟩:=Nat.exists_eq_add_of_le hq;rw[Nat.mul_add]at e1;rcases Nat.lt_or_ge r s with L1|L1
 ·cases c with
  |zero=>simp at e1;omega
  |succ c=>
   rw[Nat.mul_add,Nat.mul_one]at e1;rw[show V-W=Q*c+(r+Q-s) by omega,Nat.mul_add_mod]
 rw[show V-W=Q*c+(r-s) by omega,Nat.mul_add_mod,show r+Q-s=r-s+Q by omega,Nat.add_mod_right]
theorem Ci{B:Nat}(hB:0<B){V W:Nat}(h:W<=V)(k:Nat):(V/B^k%B+(B-1-W/B^k%B)+sQ B V W k)%B=(V-W)/B^k%B:=by
 have hP:0<B^k:=Nat.pow_pos hB;have hQ:0<B^(k+1):=Nat.pow_pos hB;have e:=Bx hQ h;have e2:V/B^k%B+(B-1-W/B^k%B)+sQ B V W k=(V%B^(k+1)+B^(k+1)-W%B^(k+1))/B^k:=by
  rw[Ch hB,Nat.add_mul_div_left _ _ hP,sQ];omega
 rw[e2,<-Nat.mod_mul_right_div_self,<-Nat.mod_mul_right_div_self,<-Nat.pow_succ,e]
end
section
theorem Cj{B:Nat}(hB:0<B):∀(j N lo p d hi:Nat),lo<B^j->p<B->d<B->j<N->(dZ B N (lo+B^j*(p+B*hi))).set j d=dZ B N (lo+B^j*(d+B*hi))
 |0,N+1,lo,p,d,hi,hlo,hp,hd,_=>by
  have:lo=0:=by simpa using hlo
  subst this;simp only[Nat.pow_zero,Nat.zero_add,Nat.one_mul,dZ,List.set_cons_zero,Nat.add_mul_mod_self_left,Nat.mod_eq_of_lt hd];rw[Nat.add_mul_div_left _ _ hB,Nat.add_mul_div_left _ _ hB,Nat.div_eq_of_lt hp,Nat.div_eq_of_lt hd]
 |j+1,N+1,lo,p,d,hi,hlo,hp,hd,hN=>by
  have e:∀q,(lo+B^(j+1)*(q+B*hi))%B=lo%B:=λq=>by
   rw[Nat.pow_succ,Nat.mul_comm (B^j) B,Nat.mul_assoc,Nat.add_mul_mod_self_left]
  have e2:∀q,(lo+B^(j+1)*(q+B*hi))/B=lo/B+B^j*(q+B*hi):=λq=>by
   rw[Nat.pow_succ,Nat.mul_comm (B^j) B,Nat.mul_assoc,Nat.add_mul_div_left _ _ hB]
  have XY:lo/B<B^j:=by rw[Nat.div_lt_iff_lt_mul hB];rwa[Nat.pow_succ]at hlo
  rw[dZ,dZ,List.set_cons_succ,e,e,e2,e2,Cj hB j N (lo/B) p d hi XY hp hd (by omega)]
theorem nQ{B:Nat}(hB:0<B){N j u u' d:Nat}(hj:j<N)(hd:d<B)(hlo:u'%B^j=u%B^j)(Me:u'/B^j%B=d)(hhi:u'/B^(j+1)=u/B^(j+1)):(dZ B N u).set j d=dZ B N u':=by
 have hP:0<B^j:=Nat.pow_pos hB;have f:∀u,u=u%B^j+B^j*(u/B^j%B+B*(u/B^(j+1))):=λu=>by
  have e1:=Nat.mod_add_div u (B^j);have e2:=Da B u j;rw[Nat.add_comm]at e2;rw[<-e2,e1]
 rw[f u,Cj hB j N _ _ d _ (Nat.mod_lt _ hP) (Nat.mod_lt _ hB) hd hj]
 conv=>rhs;rw[f u',hlo,Me,hhi]
where
 Da (B v m:Nat):v/B^m=B*(v/B^(m+1))+v/B^m%B:=by
  rw[Nat.pow_succ,<-Nat.div_div_eq_div_mul,Nat.div_add_mod]
def mT(B V W i k:Nat):Nat:=((V%B^i)*W)%B^(i+k)+B^i*(V/B^i%B)*(W%B^k)
def mC(B V W i k:Nat):Nat:=mT B V W i k/B^(i+k)
def mV(B V W i k:Nat):Nat:=mT B V W i k%B^(i+k)+B^(i+k)*(((V%B^i)*W)/B^(i+k))
theorem Kc{B:Nat}(hB:0<B)(V W i k:Nat):mT B V W i k<B^(i+k)*B:=by
 have h1:((V%B^i)*W)%B^(i+k)<B^(i+k):=Nat.mod_lt _ (Nat.pow_pos hB);have h2:V/B^i%B<B:=Nat.mod_lt _ hB;have h3:W%B^k<B^k:=Nat.mod_lt _ (Nat.pow_pos hB);have h4:B^i*(V/B^i%B)*(W%B^k)<=B^i*(B-1)*B^k:=Nat.mul_le_mul (Nat.mul_le_mul_left _ (by omega)) (Nat.le_of_lt h3);have h5:B^i*(B-1)*B^k=B^(i+k)*(B-1):=by rw[Nat.pow_add,Nat.mul_assoc,Nat.mul_assoc,Nat.mul_comm (B-1)]
 have h6:B^(i+k)*B=B^(i+k)*(B-1)+B^(i+k):=by
  obtain⟨b,rfl⟩:∃b,B=b+1:=⟨B-1,by omega⟩;rw[Nat.add_sub_cancel,Nat.mul_add,Nat.mul_one]
 unfold mT;omega
theorem Ke{B:Nat}(hB:0<B)(V W i k:Nat):mC B V W i k<B:=by
 rw[mC,Nat.div_lt_iff_lt_mul (Nat.pow_pos hB),Nat.mul_comm];exact Kc hB V W i k
theorem xY{B:Nat}(V W i k:Nat):mT B V W i (k+1)=mT B V W i k+B^(i+k)*(((V%B^i)*W)/B^(i+k)%B+(V/B^i%B)*(W/B^k%B)):=by
 have e1:((V%B^i)*W)%B^(i+(k+1))=((V%B^i)*W)%B^(i+k)+B^(i+k)*(((V%B^i)*W)/B^(i+k)%B):=by rw[<-Nat.add_assoc,eG]
 have e2:W%B^(k+1)=W%B^k+B^k*(W/B^k%B):=eG B W k;unfold mT;rw[e1,e2,Nat.mul_add,Nat.mul_add (B^(i+k))];have e3:B^i*(V/B^i%B)*(B^k*(W/B^k%B))=B^(i+k)*((V/B^i%B)*(W/B^k%B)):=by
  rw[Nat.pow_add,Nat.mul_assoc,Nat.mul_assoc,Nat.mul_left_comm (V/B^i%B)]
 omega
theorem HK{B:Nat}(hB:0<B)(V W i k:Nat):(((V%B^i)*W)/B^(i+k)%B+(V/B^i%B)*(W/B^k%B)+mC B V W i k)/B=mC B V W i (k+1):=by
 have hP:0<B^(i+k):=Nat.pow_pos hB;rw[mC,mC,xY,<-Nat.add_assoc,Nat.pow_succ,<-Nat.div_div_eq_div_mul,Nat.add_mul_div_left _ _ hP];congr 1;omega
theorem Kf{B:Nat}(V W i k:Nat):mV B V W i k%B^(i+k)=mT B V W i k%B^(i+k):=by
 rw[mV,Nat.add_mul_mod_self_left,Nat.mod_mod]
theorem Ck{B:Nat}(hB:0<B)(V W i k:Nat):mV B V W i k/B^(i+k)=((V%B^i)*W)/B^(i+k):=by
 have hP:0<B^(i+k):=Nat.pow_pos hB;rw[mV,Nat.add_mul_div_left _ _ hP,Nat.div_eq_of_lt (Nat.mod_lt _ hP),Nat.zero_add]
theorem Mf{B:Nat}(hB:0<B){V W i k N:Nat}(h:i+k<N):(dZ B N (mV B V W i k))[i+k]? =some (((V%B^i)*W)/B^(i+k)%B):=by
 rw[qk _ _ _ h,Ck hB]
theorem HL{B:Nat}(hB:0<B){V W i k N:Nat}(h:i+k<N):
  (dZ B N (mV B V W i k)).set (i+k) ((((V%B^i)*W)/B^(i+k)%B+(V/B^i%B)*(W/B^k%B)+mC B V W i k)%B)=dZ B N (mV B V W i (k+1)):=by
 have hP:0<B^(i+k):=Nat.pow_pos hB;have Zb:B^(i+(k+1))=B^(i+k)*B:=by rw[<-Nat.add_assoc,Nat.pow_succ]
 have hs:mT B V W i (k+1)/B^(i+k)=((V%B^i)*W)/B^(i+k)%B+(V/B^i%B)*(W/B^k%B)+mC B V W i k:=by
  rw[xY,Nat.add_mul_div_left _ _ hP,mC];omega
 have ht:mT B V W i (k+1)%B^(i+k)=mT B V W i k%B^(i+k):=by rw[xY,Nat.add_mul_mod_self_left]
 refine nQ hB h (Nat.mod_lt _ hB) ?_ ?_ ?_
 ·rw[Kf,<-ht,mV,Zb,Nat.mul_assoc,Nat.add_mul_mod_self_left,Nat.mod_mul_right_mod]
 ·rw[mV,Zb,Nat.mul_assoc,Nat.add_mul_div_left _ _ hP,Nat.add_mul_mod_self_left,Nat.mod_mul_right_div_self,Nat.mod_mod,hs]
 rw[show i+k+1=i+(k+1) by omega,Ck hB,show i+(k+1)=i+k+1 by omega,Nat.pow_succ,<-Nat.div_div_eq_div_mul,<-Nat.div_div_eq_div_mul,Ck hB]
theorem HM{B:Nat}(V W i:Nat):mV B V W i 0=(V%B^i)*W:=by
 rw[mV,mT,Nat.pow_zero,Nat.mod_one,Nat.mul_zero,Nat.add_zero,Nat.add_zero,Nat.mod_mod,Nat.mod_add_div]
theorem HN{B:Nat}(hB:0<B)(V W i:Nat):mC B V W i 0=0:=by
 rw[mC,mT,Nat.pow_zero,Nat.mod_one,Nat.mul_zero,Nat.add_zero,Nat.add_zero];exact Nat.div_eq_of_lt (Nat.mod_lt _ (Nat.pow_pos hB))
theorem Mg{B:Nat}(hB:0<B){V W i n N:Nat}(hW:W<B^n)(h:i+n<N):(dZ B N (mV B V W i n)).set (i+n) ((0+mC B V W i n)%B)=dZ B N ((V%B^(i+1))*W):=by
 have hP:0<B^(i+n):=Nat.pow_pos hB;have hp:(V%B^i)*W<B^(i+n):=by
  have h1:V%B^i<B^i:=Nat.mod_lt _ (Nat.pow_pos hB);rw[Nat.pow_add];by_cases h0:W=0
  ·subst h0;rw[Nat.mul_zero];exact Nat.mul_pos (Nat.pow_pos hB) (Nat.pow_pos hB)
  calc (V%B^i)*W<B^i*W:=Nat.mul_lt_mul_of_pos_right h1 (by omega)
   _<=B^i*B^n:=Nat.mul_le_mul_left _ (Nat.le_of_lt hW)
 have hT:mT B V W i n=(V%B^(i+1))*W:=by
  rw[mT,Nat.mod_eq_of_lt hp,Nat.mod_eq_of_lt hW,eG,Nat.add_mul]
 have hlt:=Kc hB V W i n;rw[hT]at hlt;refine nQ hB h (Nat.mod_lt _ hB) ?_ ?_ ?_
 ·rw[Kf,hT]
 ·rw[Nat.zero_add,mC,hT]
 rw[Nat.pow_succ B (i+n),Nat.div_eq_of_lt hlt,<-Nat.div_div_eq_div_mul,Ck hB,Nat.div_eq_of_lt hp,Nat.zero_div]
def sT(B V f e i:Nat):Nat:=V%B^i*f+e
def sC(B V f e i:Nat):Nat:=sT B V f e i/B^i
theorem Cm(B V f e:Nat):sC B V f e 0=e:=by simp[sC,sT,Nat.mod_one]
theorem Cn(B V f e i:Nat):sT B V f e (i+1)=sT B V f e i+B^i*(V/B^i%B*f):=by
 unfold sT;rw[eG,Nat.add_mul,Nat.mul_assoc];omega
theorem Co{B:Nat}(hB:0<B)(V f e i:Nat):(V/B^i%B*f+sC B V f e i)/B=sC B V f e (i+1):=by
 have hP:0<B^i:=Nat.pow_pos hB;rw[sC,sC,Cn,Nat.pow_succ,<-Nat.div_div_eq_div_mul,Nat.add_mul_div_left _ _ hP];congr 1;omega
theorem FG{B:Nat}(hB:0<B)(V f e i:Nat):(V/B^i%B*f+sC B V f e i)%B=(V*f+e)/B^i%B:=by
 have hP:0<B^i:=Nat.pow_pos hB;have h1:V*f+e=sT B V f e (i+1)+B^i*(B*(V/B^(i+1)*f)):=by
  have e1:=Nat.mod_add_div V (B^(i+1));unfold sT
  conv=>lhs;rw[<-e1,Nat.add_mul]
  rw[Nat.pow_succ,Nat.mul_assoc,Nat.mul_assoc];omega
 rw[h1,Nat.add_mul_div_left _ _ hP,Nat.add_mul_mod_self_left,Cn,Nat.add_mul_div_left _ _ hP,sC,Nat.add_comm]
theorem Kg{B:Nat}(hB:0<B){V f e:Nat}(hf:f<B)(he:e<B)(i:Nat):sC B V f e i<B:=by
 have hP:0<B^i:=Nat.pow_pos hB;rw[sC,Nat.div_lt_iff_lt_mul hP];have h1:V%B^i<=B^i-1:=by have:=Nat.mod_lt V hP;omega
 have h2:V%B^i*f<=(B^i-1)*(B-1):=Nat.mul_le_mul h1 (by omega);obtain⟨p,hp⟩:∃p,B^i=p+1:=⟨B^i-1,by omega⟩;obtain⟨b,rfl⟩:∃b,B=b+1:=⟨B-1,by omega⟩;unfold sT;rw[hp]at h2⊢;rw[Nat.add_sub_cancel,Nat.add_sub_cancel]at h2;have h3:(b+1)*(p+1)=p*b+b+p+1:=by rw[Nat.add_mul,Nat.mul_add,Nat.mul_comm b p];omega
 omega
theorem Mh{B V f e i:Nat}(h:V<B^i):sC B V f e i=(V*f+e)/B^i:=by rw[sC,sT,Nat.mod_eq_of_lt h]
def sU(B V f e i:Nat):Nat:=sT B V f e i%B^i+B^i*(V/B^i)
def qU(B V d n:Nat):Nat:=V%B^n+B^n*(V/B^n/d)
theorem HO(B V d:Nat):qU B V d 0=V/d:=by simp[qU,Nat.mod_one]
theorem Mi{B V d n:Nat}(h:V<B^n):qU B V d n=V:=by simp[qU,Nat.mod_eq_of_lt h,Nat.div_eq_of_lt h]
theorem HP(B V m:Nat):V/B^m=B*(V/B^(m+1))+V/B^m%B:=by rw[Nat.pow_succ,<-Nat.div_div_eq_div_mul,Nat.div_add_mod]
theorem Kh{B d:Nat}(V m:Nat):V/B^m=(V/B^(m+1)%d*B+V/B^m%B)+d*(B*(V/B^(m+1)/d)):=by
 have h1:=HP B V m;have h2:=Nat.mod_add_div (V/B^(m+1)) d;generalize V/B^(m+1)=q at*;generalize V/B^m%B=y at*;rw[h1]
 conv=>lhs;rw[<-h2]
 rw[Nat.mul_add,Nat.mul_left_comm B d,Nat.mul_comm B (q%d)];omega
theorem RC{B d:Nat}(hd:0<d)(V m:Nat):V/B^m/d=B*(V/B^(m+1)/d)+(V/B^(m+1)%d*B+V/B^m%B)/d:=by
 conv=>lhs;rw[Kh (B:=B) (d:=d) V m]
 rw[Nat.add_mul_div_left _ _ hd,Nat.add_comm]
theorem RE{B d:Nat}(V m:Nat):V/B^m%d=(V/B^(m+1)%d*B+V/B^m%B)%d:=by
 conv=>lhs;rw[Kh (B:=B) (d:=d) V m]
 rw[Nat.add_mul_mod_self_left]
theorem RF{B d:Nat}(hB:0<B)(hd:0<d)(V m:Nat):V/B^(m+1)%d*B+V/B^m%B<d*B:=by
 have h1:=Nat.mod_lt (V/B^(m+1)) hd;have h2:=Nat.mod_lt (V/B^m) hB;have h3:(V/B^(m+1)%d+1)*B<=d*B:=Nat.mul_le_mul_right _ h1;rw[Nat.add_mul]at h3;omega
theorem FH{B:Nat}(hB:0<B)(V d n:Nat):qU B V d n/B^n=V/B^n/d:=by
 have hP:0<B^n:=Nat.pow_pos hB;rw[qU,Nat.add_mul_div_left _ _ hP,Nat.div_eq_of_lt (Nat.mod_lt _ hP),Nat.zero_add]
theorem RG(B V d n:Nat):qU B V d n%B^n=V%B^n:=by rw[qU,Nat.add_mul_mod_self_left,Nat.mod_mod]
theorem HQ{B:Nat}(V d m:Nat):qU B V d (m+1)%B^m=V%B^m:=by
 rw[qU,Nat.pow_succ,Nat.mul_assoc,Nat.add_mul_mod_self_left,Nat.mod_mul_right_mod]
theorem Mj{B:Nat}(hB:0<B){V d m N:Nat}(h:m<N):(dZ B N (qU B V d (m+1)))[m]? =some (V/B^m%B):=by
 have hP:0<B^m:=Nat.pow_pos hB;rw[qk _ _ _ h,qU,Nat.pow_succ,Nat.mul_assoc,Nat.add_mul_div_left _ _ hP,Nat.add_mul_mod_self_left,Nat.mod_mul_right_div_self,Nat.mod_mod]
theorem HR{B:Nat}(hB:0<B){V d m N:Nat}(hd:0<d)(h:m<N):(dZ B N (qU B V d (m+1))).set m ((V/B^(m+1)%d*B+V/B^m%B)/d)=dZ B N (qU B V d m):=by
 have hx:(V/B^(m+1)%d*B+V/B^m%B)/d<B:=by rw[Nat.div_lt_iff_lt_mul hd,Nat.mul_comm B d];exact RF hB hd V m
 have hq:=RC (B:=B) hd V m;refine nQ hB h hx ?_ ?_ ?_
 ·rw[RG,HQ]
 ·rw[FH hB,hq,Nat.mul_add_mod,Nat.mod_eq_of_lt hx]
 rw[FH hB,Nat.pow_succ,<-Nat.div_div_eq_div_mul,FH hB,hq,Nat.mul_add_div hB,Nat.div_eq_of_lt hx,<-Nat.pow_succ];rfl
end
section
theorem HS{B v:Nat}(hB:2<=B)(h0:v≠0)(h:v<B):can B v=[v]:=by
 have:=FE hB (l:=[]) h0 (by simpa using h);simpa[val]using this.symm
theorem HT{B v:Nat}(hB:2<=B)(h0:v/B≠0)(h:v<B*B):can B v=[v%B,v/B]:=by
 have h1:v/B<B:=by rw[Nat.div_lt_iff_lt_mul (by omega)];exact h
 have h2:v%B<B:=Nat.mod_lt _ (by omega);have:=FE hB (l:=[v%B]) h0 (by simp;exact⟨h2,h1⟩);simp only[List.cons_append,List.nil_append,val,Nat.mul_zero,Nat.add_zero]at this;rw[Nat.mod_add_div]at this;exact this.symm
theorem kA{B:Nat}{l:List Nat}(h:∀x∈l,x<B){i:Nat}(hi:i<l.length):l[i]? =some (val B l/B^i%B):=by
 rw[<-lj l h i];simp[List.getD,hi]
def vR(v w:Nat):Int:=if v<w then-1 else if v=w then 0 else 1
theorem ql{v w:Nat}(h:v<w):vR v w=-1:=by simp[vR,h]
theorem xZ(v:Nat):vR v v=0:=by simp[vR]
theorem tF{v w:Nat}(h:w<v):vR v w=1:=by
 have h1:¬v<w:=by omega
 have h2:¬v=w:=by omega
 simp[vR,h1,h2]
theorem ve{B v w:Nat}(hB:2<=B)(h:(can B v).length<(can B w).length):v<w:=
 Nat.lt_of_lt_of_le (cM hB v) (ow hB h)
theorem Ad(B v m:Nat):v/B^m=B*(v/B^(m+1))+v/B^m%B:=by
 rw[Nat.pow_succ,<-Nat.div_div_eq_div_mul,Nat.div_add_mod]
theorem wQ{B v w m:Nat}(h:v/B^m<w/B^m):v<w:=by
 rcases Nat.lt_or_ge v w with h1|h1
 ·exact h1
 have:=Nat.div_le_div_right (c:=B^m) h1;omega
theorem Db{B v w m:Nat}(h:v/B^(m+1)=w/B^(m+1)):(v/B^m%B=w/B^m%B/\v/B^m=w/B^m)\/(v/B^m%B<w/B^m%B/\v<w)\/(w/B^m%B<v/B^m%B/\w<v):=by
 have h1:=Ad B v m;have h2:=Ad B w m;rw[<-h]at h2;rcases Nat.lt_trichotomy (v/B^m%B) (w/B^m%B)with h3|h3|h3
 ·exact .inr (.inl ⟨h3,wQ (B:=B) (m:=m) (by omega)⟩)
 ·exact .inl ⟨h3,by omega⟩
 exact .inr (.inr ⟨h3,wQ (B:=B) (m:=m) (by omega)⟩)
end
end Go.Fw
namespace Go.Proofs.Ytmiflmkdaeianaa
section
open Go.Fw
theorem qm(l:List Nat)(hl:l.length<=9000000000000000000):bg l=some (ik l):=by
 unfold bg;refine lf (λy=>y.length<=9000000000000000000/\ik y=ik l) (λe=>e=ik l) (λy=>y.length) ?_ ⟨hl,Y⟩ (λe he=>by rw[he]);rintro y ⟨hy,ht⟩;rcases oZ y with rfl|⟨ys,rfl⟩|⟨ys,x,hx,rfl⟩
 ·right;exact⟨[],by simp[cW],ht⟩
 ·left;have h1:((ys++[0]).length:Int)=((ys.length+1:Nat):Int):=by simp
  have h2:ys.length<=9223372036854775807:=by simp at hy;omega
  refine⟨ys,?_,⟨by simp at hy⊢;omega,by rw[<-ht,lY]⟩,by simp⟩;simp only[cW,Option.bind_some,h1,zT h2];rw[bX (a:=0) (by simp),wN (by simp)];simp
 right;have h1:((ys++[x]).length:Int)=((ys.length+1:Nat):Int):=by simp
 have h2:ys.length<=9223372036854775807:=by simp at hy;omega
 refine⟨ys++[x],?_,by rw[<-ht,oY _ hx]⟩;simp only[cW,Option.bind_some,h1,zT h2];rw[bX (a:=x) (by simp)];simp[hx]
def zc(n:Bool)(v:Nat):Zr:=⟨n&&v != 0,can 4294967296 v⟩
theorem Cp(n:Bool):zc n 0=⟨false,[]⟩:=by simp[zc,ny]
theorem FI(n:Bool){v:Nat}(h:v≠0):zc n v=⟨n,can 4294967296 v⟩:=by simp[zc,h]
def ya(l:List Nat):Prop:=(∀x∈l,x<4294967296)/\l.length<=35184372088808
def Zc(l:List Nat):Prop:=(∀x∈l,x<4294967296)/\l.length<=9000000000000000000
theorem ya.x{l:List Nat}(h:ya l):Zc l:=⟨h.1,Nat.le_trans h.2 (by decide)⟩
abbrev vl(l:List Nat):Nat:=val 4294967296 l
theorem fY(n:Bool)(l:List Nat)(h:Zc l):bK n l=some (zc n (vl l)):=by
 unfold bK;rw[qm l (by have:=h.2;omega),jU (by decide) h.1];show _=some (zc n (val 4294967296 l));by_cases hz:val 4294967296 l=0
 ·rw[hz,Cp];simp[ny]
 have:can 4294967296 (val 4294967296 l)≠[]:=λe=>hz (xV (by decide) e);rw[FI _ hz];simp[this]
theorem lp(n:Bool)(v:Nat)(h:v<18446744073709551616):dz n v=some (zc n v):=by
 unfold dz;by_cases hz:v=0
 ·subst hz;simp[Cp]
 rw[FI _ hz];by_cases h1:v/2^32=0
 ·rw[HS (by decide) hz (by omega)];simp only[Option.bind_some,hz,h1,decide_false,decide_true,cond_false,cond_true];rw[Nat.mod_eq_of_lt (by omega)]
 rw[HT (by decide) (by omega) (by omega)];simp only[Option.bind_some,hz,h1,decide_false,cond_false];rw[Nat.mod_eq_of_lt (a:=v/2^32) (by omega)]
theorem FJ{a b s:Nat}(h:a<2^s):a ||| b*2^s=a+b*2^s:=by
 rw[Nat.or_comm,Nat.mul_comm b,<-Nat.two_pow_add_eq_or_of_lt h,Nat.add_comm]
theorem low_eq(l:List Nat)(h:∀x∈l,x<4294967296)(hl:l.length<=2):cH l=some (vl l):=by
 rcases l with _|⟨x,_|⟨y,_|⟨z,l⟩⟩⟩
 ·simp[cH,vl,val]
 ·have hx:=h x (by simp);simp only[cH,nP (l:=[x]) (a:=x) rfl];simp[vl,val];omega
 ·have hx:=h x (by simp);have hy:=h y (by simp);simp only[cH,nP (l:=[x,y]) (a:=x) Y,zU (l:=[x,y]) (a:=y) Y,Option.bind_some];rw[Nat.mod_eq_of_lt (a:=x) (by omega),Nat.mod_eq_of_lt (a:=y) (by omega),Nat.mod_eq_of_lt (a:=y*2^32) (by omega),FJ (by omega),Nat.mod_eq_of_lt (by omega)];simp[vl,val];omega
 simp at hl
theorem eH(x c:Nat)(h:x+c<18446744073709551616):bw x c=some ((x+c)%4294967296,(x+c)/4294967296):=by
 simp[bw,Nat.mod_eq_of_lt h]
theorem gB(v w:Nat)(hv:(can 4294967296 v).length<=9000000000000000000)(hw:(can 4294967296 w).length<=9000000000000000000):bY (can 4294967296 v) (can 4294967296 w)=some (vR v w):=by
 unfold bY;rcases Nat.lt_trichotomy (can 4294967296 v).length (can 4294967296 w).length with hl|hl|hl
 ·rw[ql (ve (by decide) hl)];simp only[Option.bind_some];rw[show decide (((can 4294967296 v).length:Int)≠((can 4294967296 w).length:Int))=true by simp;omega,show decide (((can 4294967296 v).length:Int)<((can 4294967296 w).length:Int))=true by simp;omega];rfl
 ·simp only[Option.bind_some];rw[show decide (((can 4294967296 v).length:Int)≠((can 4294967296 w).length:Int))=false by simp;omega,cond_false];refine lf (λy=>∃n:Nat,y=(n:Int)-1/\n<=(can 4294967296 v).length/\v/4294967296^n=w/4294967296^n) (λe=>e=(if v=w then .inl ()else .inr (vR v w))) (λy=>(y+1).toNat) ?_ ⟨(can 4294967296 v).length,?_,Nat.le_refl _,?_⟩ ?_
  ·rintro y ⟨n,rfl,hn,he⟩;cases n with
   |zero=>
    right;have:v=w:=by simpa using he
    subst this;exact⟨_,by simp,Y⟩
   |succ m=>
    have yo:=xW (B:=4294967296) (by decide) (v:=v) (j:=m) (by omega);have XZ:=xW (B:=4294967296) (by decide) (v:=w) (j:=m) (by omega);have e0:((m+1:Nat):Int)-1=(m:Int):=by omega
    rw[e0];rcases Db he with⟨h1,h2⟩|⟨h1,h2⟩|⟨h1,h2⟩
    ·left;refine⟨(m:Int)-1,?_,⟨m,Y,by omega,h2⟩,by omega⟩;simp only[Option.bind_some,bX yo,bX XZ,h1];rw[dI (by omega) (by omega)];simp
    ·right;refine⟨.inr (-1),?_,by rw[if_neg (by omega),ql h2]⟩;simp only[Option.bind_some,bX yo,bX XZ];simp[h1,Nat.ne_of_lt h1]
    right;refine⟨.inr 1,?_,by rw[if_neg (by omega),tF h2]⟩;simp only[Option.bind_some,bX yo,bX XZ];simp[Nat.not_lt_of_lt h1,Nat.ne_of_gt h1]
  ·rw[dI (by omega) (by omega)]
  ·rw[vc (by decide) (Nat.le_refl _),vc (by decide) (by omega)]
  rintro e rfl;by_cases h:v=w
  ·subst h;simp[xZ]
  simp[h]
 rw[tF (ve (by decide) hl)];simp only[Option.bind_some];rw[show decide (((can 4294967296 v).length:Int)≠((can 4294967296 w).length:Int))=true by simp;omega,show decide (((can 4294967296 v).length:Int)<((can 4294967296 w).length:Int))=false by simp;omega];rfl
theorem tG{l:List Nat}(h:∀x∈l,x<4294967296)(i:Nat):l.getD i 0<4294967296:=by
 rcases Nat.lt_or_ge i l.length with hi|hi
 ·exact h _ (List.mem_of_getElem? (mH hi))
 rw[oJ hi];decide
theorem sx(a b:List Nat)(ha:ya a)(hb:ya b):di a b=some (dZ 4294967296 (max a.length b.length+1) (vl a+vl b)):=by
 obtain⟨hA,hla⟩:=ha;obtain⟨hB,hlb⟩:=hb;have hV:val 4294967296 a<4294967296^(max a.length b.length):=Nat.lt_of_lt_of_le (fm a hA) (Nat.pow_le_pow_right (by decide) (by omega));have hW:val 4294967296 b<4294967296^(max a.length b.length):=Nat.lt_of_lt_of_le (fm b hB) (Nat.pow_le_pow_right (by decide) (by omega));unfold di;simp only[Option.bind_some];rw[show max (a.length:Int) (b.length:Int)=((max a.length b.length:Nat):Int) by omega,dU (by omega),Bv (by decide) (by omega),Option.bind_some];refine va (λk=>(yt 4294967296 (vl a) (vl b) k,dZ 4294967296 k (vl a+vl b))) (by simp[zZ,dZ]) (λk hk=>?_) ?_
 ·have hx:=tG hA k;have hy:=tG hB k;have hc:=Bw (B:=4294967296) (by decide) (vl a) (vl b) k;have X0:=lj a hA k;have X1:=lj b hB k;simp only[Option.bind_some];rw[Nat.mod_eq_of_lt (a:=a.getD k 0) (by omega),Nat.mod_eq_of_lt (a:=b.getD k 0) (by omega),Nat.mod_eq_of_lt (a:=a.getD k 0+b.getD k 0) (by omega),eH _ _ (by omega)];simp only[Option.bind_some];rw[C8 (by decide) (by rw[bz];omega),Option.bind_some,X0,X1,zY (by decide),xX (by decide),<-jT]
 have hc:=Bw (B:=4294967296) (by decide) (vl a) (vl b) (max a.length b.length);simp only;rw[eH _ _ (by omega)];simp only[Option.bind_some];rw[C8 (by decide) (by rw[bz];omega),Option.bind_some,Nat.zero_add,HJ hV hW,<-jT]
theorem sy(a b:List Nat)(ha:ya a)(hb:ya b)(hl:b.length<=a.length)(hle:vl b<=vl a):cc a b=some (dZ 4294967296 a.length (vl a-vl b)):=by
 obtain⟨hA,hla⟩:=ha;obtain⟨hB,hlb⟩:=hb;have hmx:max a.length b.length=a.length:=by omega
 unfold cc;simp only[Option.bind_some];rw[Bv (by decide) (by omega),Option.bind_some,hmx];refine va (λk=>(sQ 4294967296 (vl a) (vl b) k,dZ 4294967296 k (vl a-vl b))) (by simp[Aa,dZ]) (λk hk=>?_) Y;have hx:=tG hA k;have hy:=tG hB k;have hc:=FF (B:=4294967296) (by decide) (vl a) (vl b) k;have X0:=lj a hA k;have X1:=lj b hB k;simp only[Option.bind_some];rw[Nat.mod_eq_of_lt (a:=a.getD k 0) (by omega),Nat.mod_eq_of_lt (a:=b.getD k 0) (by omega),lU (by omega) (by omega),Nat.mod_eq_of_lt (a:=a.getD k 0+(4294967295-b.getD k 0)) (by omega),eH _ _ (by omega)];simp only[Option.bind_some];rw[C8 (by decide) (by rw[bz];omega),Option.bind_some,X0,X1,Ab (B:=4294967296) (by decide),Ci (B:=4294967296) (by decide) hle,<-jT]
theorem Ae(a b:List Nat)(ha:ya a)(hb:ya b):eo a b=some (dZ 4294967296 (a.length+b.length) (vl a*vl b)):=by
 obtain⟨hA,hla⟩:=ha;obtain⟨hB,hlb⟩:=hb;unfold eo;simp only[Option.bind_some];rw[nO (by omega),u0 (by decide) (by omega),Option.bind_some];refine cZ (λi=>((i:Int),dZ 4294967296 (a.length+b.length) (vl a%4294967296^i*vl b))) a.length (dZ 4294967296 (a.length+b.length) (vl a%4294967296^a.length*vl b)) (by simp[Nat.mod_one,nv]) (λi hi=>?_) (by simp) (by rw[Nat.mod_eq_of_lt (fm a hA)]);have TX:=kA hA hi;have hx:val 4294967296 a/4294967296^i%4294967296<4294967296:=Nat.mod_lt _ (by decide);simp only[Option.bind_some,show decide ((i:Int)<(a.length:Int))=true by simp;omega,cond_true];rw[bX TX,Option.bind_some];refine cZ (λk=>((k:Int),mC 4294967296 (vl a) (vl b) i k,dZ 4294967296 (a.length+b.length) (mV 4294967296 (vl a) (vl b) i k))) b.length (mC 4294967296 (vl a) (vl b) i b.length,dZ 4294967296 (a.length+b.length) (mV 4294967296 (vl a) (vl b) i b.length)) (by simp[HN,HM]) (λk hk=>?_) (by simp) ?_
 ·have hgy:=kA hB hk;have TY:=Mf (B:=4294967296) (by decide) (V:=vl a) (W:=vl b) (i:=i) (k:=k) (N:=a.length+b.length) (by omega);have hy:val 4294967296 b/4294967296^k%4294967296<4294967296:=Nat.mod_lt _ (by decide);have hp:vl a%4294967296^i*vl b/4294967296^(i+k)%4294967296<4294967296:=Nat.mod_lt _ (by decide);have hc:=Ke (B:=4294967296) (by decide) (vl a) (vl b) i k;have hxy:val 4294967296 a/4294967296^i%4294967296*(val 4294967296 b/4294967296^k%4294967296)<=4294967295*4294967295:=Nat.mul_le_mul (by omega) (by omega);simp only[Option.bind_some,show decide ((k:Int)<(b.length:Int))=true by simp;omega,cond_true];rw[bX hgy,Option.bind_some,nO (by omega),ez (by rw[bz];omega),Option.bind_some,TY,Option.bind_some]
  rw[Nat.mod_eq_of_lt (a:=vl a%4294967296^i*vl b/4294967296^(i+k)%4294967296) (by omega),Nat.mod_eq_of_lt (a:=val 4294967296 a/4294967296^i%4294967296) (b:=18446744073709551616) (by omega),Nat.mod_eq_of_lt (a:=val 4294967296 b/4294967296^k%4294967296) (b:=18446744073709551616) (by omega),Nat.mod_eq_of_lt (a:=val 4294967296 a/4294967296^i%4294967296*(val 4294967296 b/4294967296^k%4294967296)) (by omega),Nat.mod_eq_of_lt (a:=vl a%4294967296^i*vl b/4294967296^(i+k)%4294967296+_) (by omega),eH _ _ (by omega)];simp only[Option.bind_some];rw[jc (by rw[bz];omega),Option.bind_some,HK (B:=4294967296) (by decide),HL (B:=4294967296) (by decide) (by omega),dU (by omega)]
 have hc:=Ke (B:=4294967296) (by decide) (vl a) (vl b) i b.length;simp only[Option.bind_some];rw[nO (by omega),eH _ _ (by omega)];simp only[Option.bind_some];rw[ez (by rw[bz];omega),Option.bind_some,jc (by rw[bz];omega),Option.bind_some,Mg (B:=4294967296) (by decide) (fm b hB) (by omega),dU (by omega)]
end
section
open Go.Fw
theorem HU{a b s:Nat}(h:a<2^s):b*2^s ||| a=b*2^s+a:=by rw[Nat.or_comm,FJ h,Nat.add_comm]
theorem Cq{a b:Nat}(h:a<4294967296):b*4294967296 ||| a=b*4294967296+a:=HU (s:=32) h
theorem Af(a:List Nat)(d:Nat)(ha:ya a)(hd:0<d)(Zd:d<=4294967296):eN a d=some (vl a%d,dZ 4294967296 a.length (vl a/d)):=by
 obtain⟨hA,hla⟩:=ha;unfold eN;simp only[Option.bind_some];rw[dI (by omega) (by omega)];refine cZ (λi=>(vl a/4294967296^(a.length-i)%d,((a.length-i:Nat):Int)-1,dZ 4294967296 a.length (qU 4294967296 (vl a) d (a.length-i)))) a.length (vl a%d,dZ 4294967296 a.length (vl a/d)) ?_ (λi hi=>?_) (by simp[HO]) ?_
 ·simp only[Nat.sub_zero];rw[Mi (fm a hA),tD a hA,Nat.div_eq_of_lt (fm a hA),Nat.zero_mod]
 ·obtain⟨m,hm⟩:∃m,a.length-i=m+1:=⟨a.length-i-1,by omega⟩;have hm':a.length-(i+1)=m:=by omega
  have hml:m<a.length:=by omega
  rw[hm,hm'];have hy:vl a/4294967296^m%4294967296<4294967296:=Nat.mod_lt _ (by decide);have hr:vl a/4294967296^(m+1)%d<d:=Nat.mod_lt _ hd;have hq:=RF (B:=4294967296) (by decide) hd (vl a) m;have hqd:(vl a/4294967296^(m+1)%d*4294967296+vl a/4294967296^m%4294967296)/d<4294967296:=by rw[Nat.div_lt_iff_lt_mul hd,Nat.mul_comm 4294967296 d];exact hq
  have hg:=Mj (B:=4294967296) (by decide) (V:=vl a) (d:=d) (m:=m) (N:=a.length) hml;have hlt:vl a/4294967296^(m+1)%d*4294967296+vl a/4294967296^m%4294967296<18446744073709551616:=by omega
  have MO:vl a/4294967296^(m+1)%d*4294967296<18446744073709551616:=Nat.lt_of_le_of_lt (Nat.le_add_right _ _) hlt;have Av:vl a/4294967296^m%4294967296<18446744073709551616:=Nat.lt_of_le_of_lt (Nat.le_add_left _ _) hlt;have Xu:((m+1:Nat):Int)-1=(m:Int):=by omega
  simp only[Xu,show decide ((0:Int)<=(m:Int))=true by simp,cond_true,Option.bind_some];rw[ez (by rw[bz];omega),Option.bind_some,hg];simp only[Option.bind_some];rw[show(2:Nat)^32=4294967296 from rfl];rw[Nat.mod_eq_of_lt (a:=vl a/4294967296^(m+1)%d*4294967296) MO,Nat.mod_eq_of_lt (a:=vl a/4294967296^m%4294967296) (b:=18446744073709551616) Av,Cq hy,Nat.mod_eq_of_lt (a:=vl a/4294967296^(m+1)%d*4294967296+vl a/4294967296^m%4294967296) hlt,xT (by omega) hlt,tC (by omega)];simp only[Option.bind_some];rw[Nat.mod_eq_of_lt (b:=4294967296) (a:=(vl a/4294967296^(m+1)%d*4294967296+vl a/4294967296^m%4294967296)/d) hqd,jc (by rw[bz];omega),Option.bind_some,dI (by omega) (by omega)];rw[HR (B:=4294967296) (by decide) hd hml,<-RE (B:=4294967296) (d:=d) (vl a) m]
 simp only;rw[k8 (by rw[bz]),Option.bind_some]
theorem shiftLeft_eq(a:List Nat)(s:Nat)(ha:ya a)(hs:s<32):dM a s=some (dZ 4294967296 (a.length+1) (vl a*2^s)):=by
 obtain⟨hA,hla⟩:=ha;have hf:2^s<4294967296:=by
  have:2^s<2^32:=Nat.pow_lt_pow_right (by decide) hs;omega
 unfold dM;simp only[Option.bind_some];rw[dU (by omega),Bv (by decide) (by omega),Option.bind_some];refine cZ (λi=>((i:Int),sC 4294967296 (vl a) (2^s) 0 i,dZ 4294967296 i (vl a*2^s+0))) a.length (sC 4294967296 (vl a) (2^s) 0 a.length,dZ 4294967296 a.length (vl a*2^s+0)) (by simp[Cm,dZ]) (λi hi=>?_) (by simp) ?_
 ·have hx:vl a/4294967296^i%4294967296<4294967296:=Nat.mod_lt _ (by decide);have hc:=Kg (B:=4294967296) (by decide) (V:=vl a) hf (show(0:Nat)<4294967296 by decide) i;have hxf:vl a/4294967296^i%4294967296*2^s<=4294967295*4294967295:=Nat.mul_le_mul (by omega) (by omega);have hg:a[i]? =some (vl a/4294967296^i%4294967296):=kA hA hi;simp only[show decide ((i:Int)<(a.length:Int))=true by simp;omega,cond_true];rw[bX hg];simp only[Option.bind_some];rw[show min s 64=s by omega,Nat.mod_eq_of_lt (a:=vl a/4294967296^i%4294967296) (b:=18446744073709551616) (by omega),Nat.mod_eq_of_lt (b:=18446744073709551616) (by omega),eH _ _ (by omega)];simp only[Option.bind_some];rw[C8 (by decide) (by rw[bz];omega),Option.bind_some,Co (B:=4294967296) (by decide),FG (B:=4294967296) (by decide),dU (by omega),<-jT]
 have hc:=Kg (B:=4294967296) (by decide) (V:=vl a) hf (show(0:Nat)<4294967296 by decide) a.length;simp only;rw[eH _ _ (by omega)];simp only[Option.bind_some];rw[C8 (by decide) (by rw[bz];omega),Option.bind_some,Nat.zero_add,Mh (fm a hA),<-jT];simp
theorem vS(a:List Nat)(s:Nat):fe a s=dM a s:=rfl
def o5:KV:=[0,1,2,2,3,3,3,3,4,4,4,4,4,4,4,4,5,5,5,5,5,5,5,5,5,5,5,5,5,5,5,5]++List.replicate 32 6++List.replicate 64 7++List.replicate 128 8
theorem Mk:∀y:Nat,y<256->oh o5 (y:Int)=some ((oh o5 (y:Int)).getD 0)/\(oh o5 (y:Int)).getD 0<=8/\y<2^(oh o5 (y:Int)).getD 0/\(y=0\/2^(oh o5 (y:Int)).getD 0<=2*y):=by decide+kernel
set_option maxRecDepth 20000 in
theorem FK(x:Nat)(h:x<4294967296):∃n:Nat,eE x=some (n:Int)/\n<=32/\x<2^n/\(x=0\/2^n<=2*x):=by
 have key:∀(y k:Nat),y<256->y=x/2^k->k<=24->(x≠0->y≠0)->∃n:Nat,(((oh o5 ((y%256:Nat):Int)).bind λjD=>(some (IntKind.i64.wrap (jD:Int))).bind λiv=>(some (IntKind.i64.wrap ((k:Int)+iv))).bind λfJ=>some fJ)=some (n:Int))/\n<=32/\x<2^n/\(x=0\/2^n<=2*x):=by
  intro y k hy hyx hk hnz;obtain⟨h1,h2,h3,h4⟩:=Mk y hy;rw[Nat.mod_eq_of_lt hy,h1];generalize (oh o5 (y:Int)).getD 0=t at*;have hp:0<2^k:=Nat.two_pow_pos _;have e1:2^(k+t)=2^k*2^t:=Nat.pow_add ..;have e2:=Nat.div_add_mod x (2^k);have e3:=Nat.mod_lt x hp;rw[<-hyx]at e2;refine⟨k+t,?_,by omega,?_,?_⟩
  ·simp only[Option.bind_some];rw[nN (by omega),nO (by omega)]
  ·rw[e1];have:2^k*(y+1)<=2^k*2^t:=Nat.mul_le_mul_left _ h3;rw[Nat.mul_add]at this;omega
  rcases h4 with h4|h4
  ·left;cases Nat.eq_zero_or_pos x with
   |inl h=>exact h
   |inr h=>exact absurd h4 (hnz (by omega))
  right;rw[e1];have:2^k*2^t<=2^k*(2*y):=Nat.mul_le_mul_left _ h4;rw[show 2^k*(2*y)=2*(2^k*y) by rw[Nat.mul_left_comm]]at this;omega
 unfold eE;simp only[cW,Option.bind_some];by_cases c1:65536<=x
 ·rw[show decide (65536<=x)=true by simpa using c1];simp only[cond_true];by_cases c2:256<=x/2^16
  ·rw[show decide (256<=x/2^16)=true by simpa using c2];simp only[cond_true];rw[show IntKind.i64.wrap (16+8)=((24:Nat):Int) by decide];exact key (x/2^16/2^8) 24 (by omega) (by omega) (by omega) (by omega)
  rw[show decide (256<=x/2^16)=false by simpa using c2];simp only[cond_false];exact key (x/2^16) 16 (by omega) Y (by omega) (by omega)
 rw[show decide (65536<=x)=false by simpa using c1];simp only[cond_false];by_cases c2:256<=x
 ·rw[show decide (256<=x)=true by simpa using c2];simp only[cond_true];rw[show IntKind.i64.wrap (0+8)=((8:Nat):Int) by decide];exact key (x/2^8) 8 (by omega) Y (by omega) (by omega)
 rw[show decide (256<=x)=false by simpa using c2];simp only[cond_false];exact key x 0 (by omega) (by simp) (by omega) (λh=>h)
theorem RH(x:Nat)(h:x<4294967296)(h0:x≠0):∃s:Nat,cx x=some (s:Int)/\s<32/\2147483648<=x*2^s/\x*2^s<4294967296:=by
 obtain⟨n,h1,h2,h3,h4⟩:=FK x h;have h4:2^n<=2*x:=h4.resolve_left h0;have hn:n≠0:=by rintro rfl;simp at h3;omega
 refine⟨32-n,?_,by omega,?_,?_⟩
 ·unfold cx;rw[h1];simp only[Option.bind_some];rw[dI (by omega) (by omega)];congr 1;omega
 ·have:2^n*2^(32-n)<=2*x*2^(32-n):=Nat.mul_le_mul_right _ h4;rw[<-Nat.pow_add,show n+(32-n)=32 by omega,Nat.mul_assoc]at this;omega
 have:x*2^(32-n)<2^n*2^(32-n):=Nat.mul_lt_mul_of_pos_right h3 (Nat.two_pow_pos _);rw[<-Nat.pow_add,show n+(32-n)=32 by omega]at this;omega
end
end Go.Proofs.Ytmiflmkdaeianaa
namespace Go.Fw
section
section RI
variable {B V U W:Nat}
theorem Ml{P F T:Nat}(hP:0<P)(hF:0<F)(hV:F*P<=V)(hU:U<(T+1)*P):U/V<=T/F:=by
 have Mm:0<V:=Nat.lt_of_lt_of_le (Nat.mul_pos hF hP) hV;rw[Nat.le_div_iff_mul_le hF];rcases Nat.lt_or_ge T (U/V*F)with h|h
 ·exfalso;have h1:U/V*V<=U:=Nat.div_mul_le_self U V;have h2:U/V*(F*P)<=U/V*V:=Nat.mul_le_mul_left _ hV;have h3:(T+1)*P<=U/V*F*P:=Nat.mul_le_mul_right _ h;rw[Nat.mul_assoc]at h3;omega
 exact h
theorem HV{P F S T u g r:Nat}(hV:(F*B+S)*P<=V)(hU:U<(T*B+u+1)*P)(Ns:g*F+r=T)(h:r*B+u<g*S):U<g*V:=by
 have h1:g*((F*B+S)*P)<=g*V:=Nat.mul_le_mul_left _ hV;have h2:(T*B+u+1)*P<=g*(F*B+S)*P:=by
  apply Nat.mul_le_mul_right;rw[Nat.mul_add,<-Nat.mul_assoc,<-Ns,Nat.add_mul];omega
 rw[Nat.mul_assoc]at h2;omega
theorem Mn{P V2 U2 g:Nat}(hV:V<(V2+1)*P)(hU:U2*P<=U)(hq:U/V<B)(hB:B<=V2)(Mm:0<V)(h:g*V2<=U2):g<=U/V+1:=by
 rcases Nat.lt_or_ge (U/V+1) g with h'|h'
 ·exfalso;have h1:U<(U/V+1)*V:=by have:=Nat.lt_div_mul_add (a:=U) Mm;rw[Nat.add_mul,Nat.one_mul];exact this
  have h2:(U/V+1)*V<=(U/V+1)*((V2+1)*P):=Nat.mul_le_mul_left _ (Nat.le_of_lt hV);have h3:g*V2*P<=U2*P:=Nat.mul_le_mul_right _ h;have h4:(U/V+2)*V2<=g*V2:=Nat.mul_le_mul_right _ h';have h5:(U/V+2)*V2*P<=g*V2*P:=Nat.mul_le_mul_right _ h4;have h6:(U/V+1)*((V2+1)*P)<=(U/V+2)*V2*P:=by
   rw[<-Nat.mul_assoc];apply Nat.mul_le_mul_right;rw[Nat.mul_add,Nat.add_mul (U/V) 2 V2,Nat.add_mul (U/V) 1 V2];omega
  omega
 exact h'
end RI
def mix(B o i X U A:Nat):Nat:=A%B^o+B^o*(X%B^i+B^i*(U/B^i))
theorem Cr(B o i X U A:Nat):mix B o i X U A%B^o=A%B^o:=by rw[mix,Nat.add_mul_mod_self_left,Nat.mod_mod]
section mix
variable {B:Nat}(hB:0<B)(o i X U A:Nat)
include hB
theorem qo:mix B o i X U A/B^o=X%B^i+B^i*(U/B^i):=by
 rw[mix,Nat.add_mul_div_left _ _ (Nat.pow_pos hB),Nat.div_eq_of_lt (Nat.mod_lt _ (Nat.pow_pos hB)),Nat.zero_add]
theorem qp:mix B o i X U A/B^(o+i)=U/B^i:=by
 rw[Nat.pow_add,<-Nat.div_div_eq_div_mul,qo hB,Nat.add_mul_div_left _ _ (Nat.pow_pos hB),Nat.div_eq_of_lt (Nat.mod_lt _ (Nat.pow_pos hB)),Nat.zero_add]
theorem HW:mix B o i X U A%B^(o+i)=A%B^o+B^o*(X%B^i):=by
 rw[Nat.pow_add,Nat.mod_mul,Cr,qo hB,Nat.add_mul_mod_self_left,Nat.mod_mod]
theorem yc{N:Nat}(h:o+i<N):(dZ B N (mix B o i X U A)).set (o+i) (X/B^i%B)=dZ B N (mix B o (i+1) X U A):=by
 apply nQ hB h (Nat.mod_lt _ hB)
 ·rw[HW hB,Nat.pow_add,Nat.mod_mul,Cr,qo hB,Nat.pow_succ B i,Nat.mul_assoc,Nat.add_mul_mod_self_left,Nat.mod_mul,Nat.add_mul_mod_self_left,Nat.mod_mod]
 ·rw[Nat.pow_add,<-Nat.div_div_eq_div_mul,qo hB,Nat.pow_succ B i,Nat.mod_mul,Nat.mul_assoc,Nat.add_assoc,<-Nat.mul_add,Nat.add_mul_div_left _ _ (Nat.pow_pos hB),Nat.div_eq_of_lt (Nat.mod_lt _ (Nat.pow_pos hB)),Nat.zero_add,Nat.add_mul_mod_self_left,Nat.mod_mod]
 have h1:=qp hB o (i+1) X U A;have h2:=qp hB o i X U A;rw[show o+i+1=o+(i+1) by omega,h1,show o+(i+1)=(o+i)+1 by omega,Nat.pow_succ B (o+i),<-Nat.div_div_eq_div_mul,h2,Nat.pow_succ,<-Nat.div_div_eq_div_mul]
end mix
theorem Ag{B o m X U A:Nat}(hU:U<B^m):mix B o m X U A=A%B^o+B^o*(X%B^m):=by rw[mix,Nat.div_eq_of_lt hU];simp
theorem Ah{B:Nat}(o X A:Nat):mix B o 0 X (A/B^o) A=A:=by
 simp only[mix,Nat.pow_zero,Nat.mod_one,Nat.zero_add,Nat.one_mul,Nat.div_one];exact Nat.mod_add_div A (B^o)
theorem Dc{B U U' T i:Nat}(h:U%B^i=U'%B^i):sQ B U T i=sQ B U' T i:=by rw[sQ,sQ,h]
theorem FL{B:Nat}(hB:0<B){U T m i:Nat}(hi:i<m)(hT:T<=U+B^m):(U/B^i%B+(B-1-T/B^i%B)+sQ B U T i)%B=(U+B^m-T)/B^i%B:=by
 have e:B^m=B^i*(B*B^(m-i-1)):=by rw[<-Nat.pow_succ',<-Nat.pow_add];congr 1;omega
 have h1:(U+B^m)%B^i=U%B^i:=by rw[e,Nat.add_mul_mod_self_left]
 have h2:(U+B^m)/B^i%B=U/B^i%B:=by rw[e,Nat.add_mul_div_left _ _ (Nat.pow_pos hB),Nat.add_mul_mod_self_left]
 rw[<-h2,Dc (U':=U+B^m) h1.symm,Ci hB hT]
theorem HX{B m U T:Nat}(hB:0<B)(hU:U<B^m)(hT:T<B^m):sQ B U T m=if U<T then 0 else 1:=by
 rw[sQ,Nat.mod_eq_of_lt hU,Nat.mod_eq_of_lt hT];have hp:0<B^m:=Nat.pow_pos hB;split
 ·exact Nat.div_eq_of_lt (by omega)
 rw[show U+B^m-T=(U-T)+B^m by omega,Nat.add_div_right _ hp,Nat.div_eq_of_lt (by omega)]
end
end Go.Fw
namespace Go.Proofs.Ytmiflmkdaeianaa
section
open Go.Fw
theorem iV{N A j:Nat}(h:j<N):(dZ 4294967296 N A)[j]? =some (A/4294967296^j%4294967296):=qk N A j h
theorem two32:(2:Nat)^32=4294967296:=rfl
theorem RJ:(2:Nat)^63=9223372036854775808:=rfl
theorem yd(A o j:Nat):A/4294967296^(o+j)=A/4294967296^o/4294967296^j:=by rw[Nat.pow_add,Nat.div_div_eq_div_mul]
theorem Ai{N A o n:Nat}{v:List Nat}(hv:ya v)(hn:v.length=n+2)(hN:N<=35184372088809)(ho:o+(n+2)<N)
  (hU:A/4294967296^o<4294967296*vl v) (FM:2147483648*4294967296^(n+1)<=vl v):
  ∃r,eO (dZ 4294967296 N A) o (n+3) v=some r/\r.2=dZ 4294967296 N A/\A/4294967296^o/vl v<=r.1/\r.1<=A/4294967296^o/vl v+1:=by
 obtain⟨hV,hlv⟩:=hv;obtain⟨U,Gi⟩:∃U,A/4294967296^o=U:=⟨_,Y⟩;obtain⟨V,Gj⟩:∃V,vl v=V:=⟨_,Y⟩;have sS:V<4294967296^(n+2):=by rw[<-Gj,<-hn];exact fm v hV
 have Ki:0<4294967296^(n+1):=Nat.pow_pos (by decide);have hP:0<4294967296^n:=Nat.pow_pos (by decide);have Mo:4294967296^(n+1)=4294967296^n*4294967296:=Nat.pow_succ ..;have Aj:4294967296^(n+2)=4294967296^(n+1)*4294967296:=Nat.pow_succ ..;rw[Gi,Gj]at hU⊢;rw[Gj]at FM;have RK:U<4294967296^(n+1)*4294967296*4294967296:=by
  have:4294967296*V<4294967296*4294967296^(n+2):=Nat.mul_lt_mul_of_pos_left sS (by decide);rw[Aj]at this;omega
 obtain⟨F,hF⟩:∃F,V/4294967296^(n+1)=F:=⟨_,Y⟩;obtain⟨S,hS⟩:∃S,V/4294967296^n%4294967296=S:=⟨_,Y⟩;obtain⟨T,hT⟩:∃T,U/4294967296^(n+1)=T:=⟨_,Y⟩;obtain⟨u,hu⟩:∃u,U/4294967296^n%4294967296=u:=⟨_,Y⟩;have X2:F<4294967296:=by rw[<-hF,Nat.div_lt_iff_lt_mul Ki];rw[Aj,Nat.mul_comm]at sS;exact sS
 have aaN:2147483648<=F:=by rw[<-hF,Nat.le_div_iff_mul_le Ki];exact FM
 have aaO:S<4294967296:=by rw[<-hS];exact Nat.mod_lt _ (by decide)
 have RL:u<4294967296:=by rw[<-hu];exact Nat.mod_lt _ (by decide)
 have X3:T<4294967296*4294967296:=by rw[<-hT,Nat.div_lt_iff_lt_mul Ki];rw[Nat.mul_comm,<-Nat.mul_assoc];exact RK
 have X4:V/4294967296^n=F*4294967296+S:=by rw[<-hF,<-hS,Mo,<-Nat.div_div_eq_div_mul,Nat.mul_comm,Nat.div_add_mod]
 have X5:U/4294967296^n=T*4294967296+u:=by rw[<-hT,<-hu,Mo,<-Nat.div_div_eq_div_mul,Nat.mul_comm,Nat.div_add_mod]
 have hq:U/V<4294967296:=by rw[Nat.div_lt_iff_lt_mul (by omega)];exact hU
 have RM:(F*4294967296+S)*4294967296^n<=V:=by rw[<-X4];exact Nat.div_mul_le_self _ _
 have RN:V<(F*4294967296+S+1)*4294967296^n:=by rw[<-X4,Nat.add_mul,Nat.one_mul];exact Nat.lt_div_mul_add hP
 have RO:(T*4294967296+u)*4294967296^n<=U:=by rw[<-X5];exact Nat.div_mul_le_self _ _
 have RQ:U<(T*4294967296+u+1)*4294967296^n:=by rw[<-X5,Nat.add_mul,Nat.one_mul];exact Nat.lt_div_mul_add hP
 have Kj:F*4294967296^(n+1)<=V:=by rw[<-hF];exact Nat.div_mul_le_self _ _
 have Kk:U<(T+1)*4294967296^(n+1):=by rw[<-hT,Nat.add_mul,Nat.one_mul];exact Nat.lt_div_mul_add Ki
 have Kl:V<(F+1)*4294967296^(n+1):=by rw[<-hF,Nat.add_mul,Nat.one_mul];exact Nat.lt_div_mul_add Ki
 have hTF:T<4294967296*(F+1):=by
  rw[<-hT,Nat.div_lt_iff_lt_mul Ki];have:4294967296*V<4294967296*((F+1)*4294967296^(n+1)):=Nat.mul_lt_mul_of_pos_left Kl (by decide);rw[Nat.mul_assoc];omega
 have g1:(dZ 4294967296 N A)[o+(n+2)]? =some (U/4294967296^(n+2)%4294967296):=by rw[iV (by omega),yd,Gi]
 have g2:(dZ 4294967296 N A)[o+(n+1)]? =some (U/4294967296^(n+1)%4294967296):=by rw[iV (by omega),yd,Gi]
 have g3:(dZ 4294967296 N A)[o+n]? =some u:=by rw[iV (by omega),yd,Gi,hu]
 have g4:v[n+1]? =some F:=by rw[kA hV (by omega),show val 4294967296 v=V from Gj,hF,Nat.mod_eq_of_lt X2]
 have g5:v[n]? =some S:=by rw[kA hV (by omega),show val 4294967296 v=V from Gj,hS]
 have hun:U/4294967296^(n+2)<4294967296:=by rw[Aj,<-Nat.div_div_eq_div_mul,hT,Nat.div_lt_iff_lt_mul (by decide)];exact X3
 have By:U/4294967296^(n+2)%4294967296*4294967296+U/4294967296^(n+1)%4294967296=T:=by
  rw[Nat.mod_eq_of_lt hun,Aj,<-Nat.div_div_eq_div_mul,hT,Nat.mul_comm,Nat.div_add_mod]
 obtain⟨t1,X6⟩:∃t,U/4294967296^(n+2)%4294967296=t:=⟨_,Y⟩;obtain⟨t2,X7⟩:∃t,U/4294967296^(n+1)%4294967296=t:=⟨_,Y⟩;have l1:t1<4294967296:=by rw[<-X6];exact Nat.mod_lt _ (by decide)
 have l2:t2<4294967296:=by rw[<-X7];exact Nat.mod_lt _ (by decide)
 rw[X6]at g1 By;rw[X7]at g2 By;clear X6 X7 X5 X4;have c1:((n+2:Nat):Int)-1=((n+1:Nat):Int):=by omega
 have c2:((n+2:Nat):Int)-2=(n:Int):=by omega
 unfold eO;simp only[Option.bind_some,hn,c1,c2];rw[nN (by omega),nN (by omega),tB (by omega),tB (by omega),tB (by omega)];simp only[Option.bind_some];rw[g1,g2,bX g4,bX g5];simp only[Option.bind_some,two32];rw[Nat.mod_eq_of_lt (a:=t1) (by omega),Nat.mod_eq_of_lt (a:=t2) (by omega),Nat.mod_eq_of_lt (a:=t1*4294967296) (by omega),Cq l2,By,Nat.mod_eq_of_lt (a:=T) (by omega),Nat.mod_eq_of_lt (a:=F) (by omega),Nat.mod_eq_of_lt (a:=S) (by omega),xT (by omega) (by omega),tC (by omega)];simp only[Option.bind_some];have X8:=Ml (V:=V) (U:=U) Ki (show 0<F by omega) Kj Kk;have hle:∀g,g*(F*4294967296+S)<=T*4294967296+u->g<=U/V+1:=λg h=>Mn (B:=4294967296) RN RO hq (by omega) (by omega) h;have X9:∀g r,g*F+r=T->r*4294967296+u<g*S->U/V<g:=λg r i1 ht=>(Nat.div_lt_iff_lt_mul (by omega)).2 (HV RM RQ i1 ht);have hg0:T/F<=4294967297:=by
  have:T/F<4294967298:=by
   rw[Nat.div_lt_iff_lt_mul (by omega)];omega
  omega
 generalize U/V=q at*;clear RM RN RO RQ Kj Kk Kl hTF RK FM sS Mo Aj hP Ki hF hS hT hu Gi Gj hU;have Ze:=Nat.div_add_mod T F;have hml:=Nat.mod_lt T (show 0<F by omega);have Ya:T/F*F+T%F=T:=by rw[Nat.mul_comm];exact Ze
 clear Ze;refine lW (λx=>x.1*F+x.2=T/\q<=x.1/\x.2<4294967296/\x.1<=4294967297) (λe=>q<=e/\e<=q+1) (λx=>x.1) ?_ ⟨Ya,X8,by show T%F<_;omega,hg0⟩ ?_
 ·rintro⟨g,r⟩ ⟨i1,i2,i3,i4⟩;simp only at i1 i2 i3 i4;have down:q<g->(∃s',(bif decide ((r+F)%18446744073709551616/4294967296≠0)then some (.inr (j0 18446744073709551616 g 1))else some (.inl (j0 18446744073709551616 g 1,(r+F)%18446744073709551616)):Option ((Nat×Nat)⊕Nat))=some (.inl s')/\(s'.1*F+s'.2=T/\q<=s'.1/\s'.2<4294967296/\s'.1<=4294967297)/\s'.1<g)\/
    (∃e,(bif decide ((r+F)%18446744073709551616/4294967296≠0)then some (.inr (j0 18446744073709551616 g 1))else some (.inl (j0 18446744073709551616 g 1,(r+F)%18446744073709551616)):Option ((Nat×Nat)⊕Nat))=some (.inr e)/\q<=e/\e<=q+1):=by
   intro hlt;have e1:(g-1)*F+(r+F)=T:=by
    obtain⟨k,rfl⟩:∃k,g=k+1:=⟨g-1,by omega⟩;rw[Nat.add_sub_cancel];rw[Nat.add_mul]at i1;omega
   rw[lU (by omega) (by omega),Nat.mod_eq_of_lt (a:=r+F) (by omega)];by_cases hb:r+F<4294967296
   ·left;refine⟨(g-1,r+F),by simp[Nat.div_eq_of_lt hb],⟨e1,by simp only;omega,hb,by simp only;omega⟩,by simp only;omega⟩
   right;have hne:(r+F)/4294967296≠0:=by omega
   refine⟨g-1,by simp[hne],by omega,?_⟩;refine hle _ ?_;have m1:(g-1)*S<=4294967296*4294967295:=Nat.mul_le_mul (by omega) (by omega);rw[Nat.mul_add,<-Nat.mul_assoc];have m2:((g-1)*F+(r+F))*4294967296=T*4294967296:=by rw[e1]
   rw[Nat.add_mul]at m2;omega
  simp only[cW,bO];by_cases hg:g<4294967296
  ·rw[show decide (g/4294967296≠0)=false by simp;omega];have hgS:g*S<=4294967295*4294967295:=Nat.mul_le_mul (by omega) (by omega);simp only[gW];rw[g3];simp only[bO];rw[Nat.mod_eq_of_lt (a:=g*S) (by omega),Nat.mod_eq_of_lt (a:=r*4294967296) (by omega),Nat.mod_eq_of_lt (a:=u) (by omega),Cq RL,Nat.mod_eq_of_lt (a:=r*4294967296+u) (by omega)];by_cases ht:r*4294967296+u<g*S
   ·rw[show decide (r*4294967296+u<g*S)=true by simpa using ht];simp only[bO,gw];exact down (X9 _ _ i1 ht)
   rw[show decide (r*4294967296+u<g*S)=false by simpa using ht];right;refine⟨g,by simp,i2,?_⟩;refine hle _ ?_;rw[Nat.mul_add,<-Nat.mul_assoc,<-i1,Nat.add_mul];omega
  rw[show decide (g/4294967296≠0)=true by simp;omega];simp only[bO,gw];exact down (by omega)
 rintro e ⟨h2,h3⟩;exact⟨(e,dZ 4294967296 N A),by rw[k8 Y,Option.bind_some],Y,h2,h3⟩
end
section
open Go.Fw
theorem n9{N A o n f:Nat}{v:List Nat}(hv:ya v)(hn:v.length=n)(hN:N<=35184372088809)(ho:o+n<N)(hf:f<=4294967296)
  (hU:A/4294967296^o<4294967296^(n+1)):
  cf (dZ 4294967296 N A) o (n+1) v f=some (decide (A/4294967296^o<vl v*f),dZ 4294967296 N (A%4294967296^o+4294967296^o*((A/4294967296^o+4294967296^(n+1)-vl v*f)%4294967296^(n+1)))):=by
 obtain⟨hV,hlv⟩:=hv;obtain⟨U,Gi⟩:∃U,A/4294967296^o=U:=⟨_,Y⟩;obtain⟨V,Gj⟩:∃V,vl v=V:=⟨_,Y⟩;have sS:V<4294967296^n:=by rw[<-Gj,<-hn];exact fm v hV
 have DP:4294967296^(n+1)=4294967296^n*4294967296:=Nat.pow_succ ..;have hT:V*f<4294967296^(n+1):=by
  rw[DP]
  calc V*f<=V*4294967296:=Nat.mul_le_mul_left _ hf
   _<4294967296^n*4294967296:=Nat.mul_lt_mul_of_pos_right sS (by decide)
 rw[Gi]at hU⊢;rw[Gj];obtain⟨X,hX⟩:∃X,U+4294967296^(n+1)-V*f=X:=⟨_,Y⟩;rw[hX];unfold cf;simp only[bO];have Mp:∀i,sQ 4294967296 U (V*f) i<=1:=λi=>FF (by decide) _ _ _;refine cZ (λi=>(1-sQ 4294967296 U (V*f) i,(i:Int),sC 4294967296 V f 0 i,dZ 4294967296 N (mix 4294967296 o i X U A))) (n+1) (1-sQ 4294967296 U (V*f) (n+1),dZ 4294967296 N (mix 4294967296 o (n+1) X U A)) ?_ (λi hi=>?_) ?_ ?_
 ·rw[Aa,Cm,<-Gi,Ah];rfl
 ·
  obtain⟨t,ht⟩:∃t,V*f/4294967296^i%4294967296=t:=⟨_,Y⟩;obtain⟨c,hc⟩:∃c,sC 4294967296 V f 0 i=c:=⟨_,Y⟩;obtain⟨p,hp⟩:∃p,V/4294967296^i%4294967296*f=p:=⟨_,Y⟩;have aaR:c<4294967296:=by
   rw[<-hc,sC,sT,Nat.add_zero,Nat.div_lt_iff_lt_mul (Nat.pow_pos (by decide))]
   calc V%4294967296^i*f<=V%4294967296^i*4294967296:=Nat.mul_le_mul_left _ hf
    _<4294967296*4294967296^i:=by rw[Nat.mul_comm];exact Nat.mul_lt_mul_of_pos_left (Nat.mod_lt _ (Nat.pow_pos (by decide))) (by decide)
  have aaS:p<=4294967295*4294967296:=by
   rw[<-hp];exact Nat.mul_le_mul (by have:=Nat.mod_lt (V/4294967296^i) (show 0<4294967296 by decide);omega) hf
  have Me:(p+c)%4294967296=t:=by rw[<-hp,<-hc,FG (B:=4294967296) (by decide),Nat.add_zero,ht]
  have hstep:(p+c)/4294967296=sC 4294967296 V f 0 (i+1):=by rw[<-hp,<-hc,Co (B:=4294967296) (by decide)]
  have aaT:t<4294967296:=by rw[<-ht];exact Nat.mod_lt _ (by decide)
  obtain⟨u,hu⟩:∃u,U/4294967296^i%4294967296=u:=⟨_,Y⟩;have RL:u<4294967296:=by rw[<-hu];exact Nat.mod_lt _ (by decide)
  have hg:(dZ 4294967296 N (mix 4294967296 o i X U A))[o+i]? =some u:=by rw[iV (by omega),qp (by decide),hu]
  have hl:=Mp i;obtain⟨l,hle⟩:∃l,sQ 4294967296 U (V*f) i=l:=⟨_,Y⟩;have Zf:(u+(4294967296-1-t)+l)%4294967296=X/4294967296^i%4294967296:=by rw[<-hu,<-ht,<-hle,FL (B:=4294967296) (by decide) hi (by omega),hX]
  have hls:(u+(4294967296-1-t)+l)/4294967296=sQ 4294967296 U (V*f) (i+1):=by rw[<-hu,<-ht,<-hle,Ab (B:=4294967296) (by decide)]
  rw[hle]at hl;have hput:=yc (B:=4294967296) (by decide) o i X U A (N:=N) (by omega);rw[hle,hc,<-hls];simp only[show decide ((i:Int)<((n+1:Nat):Int))=true by simp;omega,gw,bO,cW];rw[tB (by omega)];simp only[bO,hg];have way:∀k:Nat->Option ((Nat×Int×Nat×List Nat)⊕(Nat×List Nat)),(bif decide ((i:Int)<(v.length:Int))then(ek v (i:Int)).bind λfo=>k (fo%18446744073709551616*f%18446744073709551616)else k 0)=k p:=by
   intro k;by_cases hin:i<v.length
   ·rw[show decide ((i:Int)<(v.length:Int))=true by simp;omega,gw];have yo:v[i]? =some (V/4294967296^i%4294967296):=by rw[<-Gj];exact kA hV hin
    rw[bX yo,bO,Nat.mod_eq_of_lt (a:=V/4294967296^i%4294967296) (b:=18446744073709551616) (by have:=Nat.mod_lt (V/4294967296^i) (show 0<4294967296 by decide);omega),hp,Nat.mod_eq_of_lt (a:=p) (by omega)]
   rw[show decide ((i:Int)<(v.length:Int))=false by simp;omega,gW];have:V/4294967296^i=0:=Nat.div_eq_of_lt (Nat.lt_of_lt_of_le sS (Nat.pow_le_pow_right (by decide) (by omega)));rw[<-hp,this];simp
  refine(way (λy=>(bw y c).bind _)).trans ?_;rw[eH _ _ (by omega)];simp only[bO];rw[Me,hstep,Nat.mod_eq_of_lt (a:=u) (by omega),Nat.mod_eq_of_lt (a:=t) (by omega)];rw[jc (by rw[bz];omega),bO,dU (by omega),RJ];by_cases KJ:u<t+(1-l)
  ·have e1:j0 18446744073709551616 (j0 18446744073709551616 u t) (1-l)=18446744073709551616+u-t-(1-l):=by
    by_cases h1:u<t
    ·rw[tw h1 (by omega),lU (by omega) (by omega)]
    rw[lU (a:=u) (b:=t) (by omega) (by omega),tw (by omega) (by omega)];omega
   rw[e1];have e2:(18446744073709551616+u-t-(1-l))%4294967296=X/4294967296^i%4294967296:=by rw[<-Zf];omega
   have e3:(18446744073709551616+u-t-(1-l))/9223372036854775808=1-(u+(4294967296-1-t)+l)/4294967296:=by omega
   rw[e2,e3,hput]
  have e1:j0 18446744073709551616 (j0 18446744073709551616 u t) (1-l)=u-t-(1-l):=by
   rw[lU (a:=u) (b:=t) (by omega) (by omega),lU (by omega) (by omega)]
  rw[e1];have e2:(u-t-(1-l))%4294967296=X/4294967296^i%4294967296:=by rw[<-Zf];omega
  have e3:(u-t-(1-l))/9223372036854775808=1-(u+(4294967296-1-t)+l)/4294967296:=by omega
  rw[e2,e3,hput]
 ·simp
 simp only[bO];rw[k8 (by rw[bz,bz]),bO,Ag hU,HX (by decide) hU hT];congr 2;by_cases h:U<V*f<;>simp[h]
end
section
open Go.Fw
theorem RR{B V:Nat}(hB:0<B)(hV:0<V)(A k:Nat):A%(V*B^(k+1))/B^k<B*V:=by
 rw[Nat.div_lt_iff_lt_mul (Nat.pow_pos hB)];have:V*B^(k+1)=B*V*B^k:=by rw[Nat.pow_succ,Nat.mul_comm (B^k),<-Nat.mul_assoc,Nat.mul_comm V]
 rw[<-this];exact Nat.mod_lt _ (Nat.mul_pos hV (Nat.pow_pos hB))
theorem Mq{B V:Nat}(A k:Nat):A%(V*B^(k+1))%B^k+B^k*(A%(V*B^(k+1))/B^k%V)=A%(V*B^k):=by
 rw[<-Nat.mod_mul,Nat.mul_comm (B^k),Nat.mod_mod_of_dvd];rw[Nat.pow_succ,<-Nat.mul_assoc];exact Nat.dvd_mul_right _ _
theorem Mr{B V:Nat}(A k:Nat):A%(V*B^(k+1))/B^k/V=A/V/B^k%B:=by
 rw[Nat.div_div_eq_div_mul,Nat.mul_comm (B^k),Nat.pow_succ,<-Nat.mul_assoc,Nat.mod_mul_right_div_self,Nat.div_div_eq_div_mul]
theorem FN{B:Nat}(hB:0<B){N k:Nat}(h:k<N)(Q:Nat):(dZ B N (Q/B^(k+1)*B^(k+1))).set k (Q/B^k%B)=dZ B N (Q/B^k*B^k):=by
 have hP:0<B^k:=Nat.pow_pos hB;refine nQ hB h (Nat.mod_lt _ hB) ?_ ?_ ?_
 ·rw[Nat.mul_mod_left,Nat.pow_succ,Nat.mul_comm (B^k),<-Nat.mul_assoc,Nat.mul_mod_left]
 ·rw[Nat.mul_div_cancel _ hP]
 rw[Nat.mul_div_cancel _ (Nat.pow_pos hB),Nat.pow_succ,<-Nat.div_div_eq_div_mul,Nat.mul_div_cancel _ hP,Nat.div_div_eq_div_mul]
theorem Cs{α:Type}{l:List α}{o n:Nat}(h:o<l.length)(h':o+n<=l.length):KX l (o:Int) ((o+n:Nat):Int)=some (o,n):=by
 unfold KX;rw[if_pos (by omega)];congr 2;omega
theorem HY{U V g M:Nat}(hV:0<V)(h1:U/V<=g)(h2:g<=U/V+1)(hM:U<M)(hVM:V<=M):
  (V*g<=U/\g=U/V/\(U+M-V*g)%M=U%V)\/(U<V*g/\g=U/V+1/\U+M-V*g<M/\(U+M-V*g+V)%M=U%V):=by
 have hd:=Nat.div_add_mod U V;have hm:=Nat.mod_lt U hV
 revert h1 h2 hd hm
 generalize U/V=q;generalize U%V=r;intro h1 h2 hd hm;rcases Nat.lt_or_ge q g with h|h
 ·obtain rfl:g=q+1:=by omega
  have e:V*(q+1)=V*q+V:=Nat.mul_succ ..;right;refine⟨by omega,Y,by omega,?_⟩;rw[show U+M-V*(q+1)+V=r+M by omega,Nat.add_mod_right,Nat.mod_eq_of_lt (by omega)]
 obtain rfl:g=q:=by omega
 left;refine⟨by omega,Y,?_⟩;rw[show U+M-V*g=r+M by omega,Nat.add_mod_right,Nat.mod_eq_of_lt (by omega)]
theorem HZ{R D e i:Nat}(hD:0<D)(he:4294967296=D*e):(R*D/4294967296^(i+1)%4294967296*4294967296+R*D/4294967296^i%4294967296)/D%4294967296=R/4294967296^i%4294967296:=by
 have h1:R*D/4294967296^(i+1)%4294967296*4294967296+R*D/4294967296^i%4294967296=R*D/4294967296^i%(4294967296*4294967296):=by
  rw[Nat.mod_mul,Nat.div_div_eq_div_mul,show 4294967296^i*4294967296=4294967296^(i+1)from(Nat.pow_succ ..).symm,Nat.add_comm,Nat.mul_comm 4294967296]
 have h2:(4294967296*4294967296:Nat)=D*(e*4294967296):=by
  rw[<-Nat.mul_assoc,<-he]
 rw[h1,h2,Nat.mod_mul_right_div_self,Nat.mod_mul_left_mod,Nat.div_div_eq_div_mul,Nat.mul_comm (4294967296^i) D,<-Nat.div_div_eq_div_mul,Nat.mul_div_cancel _ hD]
theorem Ms{B:Nat}(hB:0<B){N i R:Nat}(h:i<N):(dZ B N (R%B^i)).set i (R/B^i%B)=dZ B N (R%B^(i+1)):=by
 refine nQ hB h (Nat.mod_lt _ hB) ?_ ?_ ?_
 ·rw[Nat.mod_mod,Nat.mod_mod_of_dvd _ (Nat.pow_dvd_pow _ (Nat.le_succ i))]
 ·rw[Nat.pow_succ,Nat.mod_mul_right_div_self,Nat.mod_mod]
 rw[Nat.div_eq_of_lt (Nat.mod_lt _ (Nat.pow_pos hB)),Nat.div_eq_of_lt];exact Nat.lt_of_lt_of_le (Nat.mod_lt _ (Nat.pow_pos hB)) (Nat.pow_le_pow_right hB (Nat.le_succ i))
theorem Bz(a b:List Nat)(ha:ya a)(hb:ya b){n:Nat}(hn:b.length=n+2)(hl:b.length<=a.length)(By:b[n+1]? ≠some 0):
  fu a b=some (dZ 4294967296 (a.length-b.length+1) (vl a/vl b),dZ 4294967296 b.length (vl a%vl b)):=by
 obtain⟨hA,hla⟩:=ha;obtain⟨hB,hlb⟩:=hb;have hP:∀k,0<4294967296^k:=λk=>Nat.pow_pos (by decide);obtain⟨Va,Zg⟩:∃V,vl a=V:=⟨_,Y⟩;obtain⟨Vb,Yb⟩:∃V,vl b=V:=⟨_,Y⟩;have Mt:Vb<4294967296^(n+2):=by rw[<-Yb,<-hn];exact fm b hB
 have halt:Va<4294967296^a.length:=by rw[<-Zg];exact fm a hA
 have Aj:4294967296^(n+2)=4294967296^(n+1)*4294967296:=Nat.pow_succ ..;obtain⟨x,hx⟩:∃x,Vb/4294967296^(n+1)=x:=⟨_,Y⟩;have RU:x<4294967296:=by rw[<-hx,Nat.div_lt_iff_lt_mul (hP _)];rw[Aj,Nat.mul_comm]at Mt;exact Mt
 have TX:b[n+1]? =some x:=by rw[kA hB (by omega),show val 4294967296 b=Vb from Yb,hx,Nat.mod_eq_of_lt RU]
 have hx0:x≠0:=λe=>By (by rw[TX,e]);obtain⟨s,MO,Av,Zh,Zi⟩:=RH x RU hx0;have RV:0<2^s:=Nat.two_pow_pos s;have RW:2^s<4294967296:=by
  have:2^s<2^32:=Nat.pow_lt_pow_right (by decide) Av;rw[two32]at this;exact this
 obtain⟨D,hD⟩:∃D,2^s=D:=⟨_,Y⟩;rw[hD]at Zh Zi RV RW;obtain⟨V,hV⟩:∃V,Vb*D=V:=⟨_,Y⟩;obtain⟨A,TZ⟩:∃A,Va*D=A:=⟨_,Y⟩;have sS:V<4294967296^(n+2):=by
  have h1:Vb<(x+1)*4294967296^(n+1):=by rw[<-hx,Nat.add_mul,Nat.one_mul];exact Nat.lt_div_mul_add (hP _)
  have h2:(x+1)*D<=4294967296:=by
   obtain⟨e,he⟩:∃e,4294967296=D*e:=⟨2^(32-s),by rw[<-hD,<-Nat.pow_add,show s+(32-s)=32 by omega,two32]⟩;have h3:x<e:=by
    apply Nat.lt_of_mul_lt_mul_left (a:=D);rw[<-he,Nat.mul_comm];exact Zi
   calc (x+1)*D<=e*D:=Nat.mul_le_mul_right _ h3
    _=4294967296:=by rw[Nat.mul_comm,<-he]
  rw[<-hV,Aj]
  calc Vb*D<(x+1)*4294967296^(n+1)*D:=Nat.mul_lt_mul_of_pos_right h1 RV
   _=4294967296^(n+1)*((x+1)*D):=by rw[Nat.mul_comm (x+1),Nat.mul_assoc]
   _<=4294967296^(n+1)*4294967296:=Nat.mul_le_mul_left _ h2
 have FO:2147483648*4294967296^(n+1)<=V:=by
  have h1:x*4294967296^(n+1)<=Vb:=by rw[<-hx];exact Nat.div_mul_le_self _ _
  rw[<-hV]
  calc 2147483648*4294967296^(n+1)<=x*D*4294967296^(n+1):=Nat.mul_le_mul_right _ Zh
   _=x*4294967296^(n+1)*D:=by rw[Nat.mul_assoc,Nat.mul_comm D,<-Nat.mul_assoc]
   _<=Vb*D:=Nat.mul_le_mul_right _ h1
 have Mm:0<V:=Nat.lt_of_lt_of_le (Nat.mul_pos (by decide) (hP _)) FO;have hb0:0<Vb:=by
  rcases Nat.eq_zero_or_pos Vb with h|h
  ·rw[<-hV,h,Nat.zero_mul]at Mm;omega
  exact h
 have hAV:A/V=Va/Vb:=by rw[<-TZ,<-hV,Nat.mul_div_mul_right _ _ RV]
 have Yc:A%V=Va%Vb*D:=by rw[<-TZ,<-hV,Nat.mul_mod_mul_right]
 obtain⟨K,hK⟩:∃K,a.length=K+(n+2):=⟨a.length-(n+2),by omega⟩;have RX:A<V*4294967296^(K+1):=by
  have h1:4294967296^(n+1)<=Vb:=by
   have:1*4294967296^(n+1)<=x*4294967296^(n+1):=Nat.mul_le_mul_right _ (by omega);have h2:x*4294967296^(n+1)<=Vb:=by rw[<-hx];exact Nat.div_mul_le_self _ _
   omega
  rw[<-TZ,<-hV]
  calc Va*D<4294967296^a.length*D:=Nat.mul_lt_mul_of_pos_right halt RV
   _=4294967296^(n+1)*4294967296^(K+1)*D:=by rw[hK,<-Nat.pow_add];congr 2;omega
   _<=Vb*4294967296^(K+1)*D:=Nat.mul_le_mul_right _ (Nat.mul_le_mul_right _ h1)
   _=Vb*D*4294967296^(K+1):=by rw[Nat.mul_assoc,Nat.mul_comm _ D,<-Nat.mul_assoc]
 obtain⟨v,T0⟩:∃v,dZ 4294967296 (n+2) V=v:=⟨_,Y⟩;have hvl:v.length=n+2:=by rw[<-T0,bz]
 have Yd:ya v:=⟨λy hy=>by rw[<-T0]at hy;exact jd (by decide) _ _ _ hy,by omega⟩;have RY:vl v=V:=by rw[<-T0];show val _ _=_;rw[iq,Nat.mod_eq_of_lt sS]
 have R3:List.take b.length (dZ 4294967296 (b.length+1) (Vb*2^s))=v:=by
  rw[hD,hV,hn,jT,List.take_append_of_le_length (by rw[bz];omega),List.take_of_length_le (by rw[bz];omega),T0]
 unfold fu;simp only[bO];rw[show((b.length:Nat):Int)-1=((n+1:Nat):Int) by omega,nN (by omega),bX TX,bO,MO,bO];rw[show((s:Int)%18446744073709551616).toNat=s by rw[Int.emod_eq_of_lt (by omega) (by omega)];simp];rw[vS,shiftLeft_eq a s ⟨hA,hla⟩ Av,bO,shiftLeft_eq b s ⟨hB,hlb⟩ Av,bO,wN (by rw[bz];omega),bO];obtain⟨Q,hQ⟩:∃Q,A/V=Q:=⟨_,Y⟩;have Ye:Q<4294967296^(K+1):=by rw[<-hQ,Nat.div_lt_iff_lt_mul Mm,Nat.mul_comm];exact RX
 rw[Zg,Yb,<-hAV,hQ,R3,hD,TZ,hn];rw[show a.length-(n+2)+1=K+1 by omega];rw[dI (x:=(a.length:Int)-((n+2:Nat):Int)) (by omega) (by omega),dI (x:=(a.length:Int)-((n+2:Nat):Int)+1) (by omega) (by omega),show(a.length:Int)-((n+2:Nat):Int)+1=((K+1:Nat):Int) by omega,u0 (by decide) (by omega),bO,show(a.length:Int)-((n+2:Nat):Int)=(K:Int) by omega];refine cZ (λj=>((K:Int)-(j:Int),dZ 4294967296 (K+1) (Q/4294967296^(K+1-j)*4294967296^(K+1-j)),dZ 4294967296 (a.length+1) (A%(V*4294967296^(K+1-j))))) (K+1) (dZ 4294967296 (K+1) Q,dZ 4294967296 (a.length+1) (A%V)) ?_ (λj hj=>?_) ?_ ?_
 ·rw[show K+1-0=K+1 by omega,Nat.mod_eq_of_lt RX,Nat.div_eq_of_lt Ye,Nat.zero_mul,nv];simp
 ·
  obtain⟨k,hk⟩:∃k,K=k+j:=⟨K-j,by omega⟩;rw[show K+1-j=k+1 by omega,show K+1-(j+1)=k by omega,show(K:Int)-(j:Int)=(k:Int) by omega,show(K:Int)-((j+1:Nat):Int)=(k:Int)-1 by omega];have hU:=RR (B:=4294967296) (by decide) Mm A k;have H6:=Mq (B:=4294967296) (V:=V) A k;have Mu:=Mr (B:=4294967296) (V:=V) A k;obtain⟨N,hN⟩:∃N,a.length+1=N:=⟨_,Y⟩;obtain⟨A1,hA1⟩:∃A1,A%(V*4294967296^(k+1))=A1:=⟨_,Y⟩;rw[hN];rw[hA1]at hU H6 Mu⊢;rw[hQ]at Mu;obtain⟨⟨g,lg⟩,hge,Zj,T1,I6⟩:=Ai (N:=N) (A:=A1) (o:=k) (n:=n) (v:=v) Yd hvl (by omega) (by omega) (by rw[RY];exact hU) (by rw[RY];exact FO);simp only at Zj T1 I6;rw[RY]at T1 I6;subst Zj;have hsub:=n9 (N:=N) (A:=A1) (o:=k) (n:=n+2) (v:=v) (f:=g) Yd hvl (by omega) (by omega) ?_ ?_
  ·rw[RY]at hsub;obtain⟨U,Gi⟩:∃U,A1/4294967296^k=U:=⟨_,Y⟩;rw[Gi]at hU H6 Mu T1 I6 hsub;have H7:4294967296^(n+2+1)=4294967296^(n+2)*4294967296:=Nat.pow_succ ..;have hUM:U<4294967296^(n+2+1):=by
    have:4294967296*V<4294967296*4294967296^(n+2):=Nat.mul_lt_mul_of_pos_left sS (by decide);rw[H7];omega
   have FP:=HY (M:=4294967296^(n+2+1)) Mm T1 I6 hUM (by rw[H7];omega);have R4:U/V<4294967296:=by rw[Mu];exact Nat.mod_lt _ (by decide)
   rw[show decide ((0:Int)<=(k:Int))=true by simp,gw];rw[nO (by omega),dU (by omega),show k+(n+2)+1=k+(n+3) by omega,Cs (by rw[bz];omega) (by rw[bz];omega),bO,hge,bO,k8 Y,bO,Cs (by rw[bz];omega) (by rw[bz];omega),bO];show(Option.bind (cf _ k (n+2+1) v g) _)=_;rw[hsub,bO,k8 (by rw[bz,bz]),bO];simp only[cW];rcases FP with⟨hc1,yA,R5⟩|⟨hc1,yA,R5,Zk⟩
   ·rw[show decide (U<V*g)=false by simp;omega,gW,R5,H6,yA,Nat.mod_eq_of_lt R4,Mu,ez (by rw[bz];omega),bO,jc (by rw[bz];omega),bO,FN (by decide) (by omega),dI (by omega) (by omega)]
   rw[show decide (U<V*g)=true by simp;omega,gw,lU (by omega) (by omega),show g-1=U/V by omega,Nat.mod_eq_of_lt R4,Mu];rw[Nat.mod_eq_of_lt R5];obtain⟨aa,hY⟩:∃aa,U+4294967296^(n+2+1)-V*g=aa:=⟨_,Y⟩;rw[hY]at R5 Zk⊢;obtain⟨A2,Yf⟩:∃A2,A1%4294967296^k+4294967296^k*aa=A2:=⟨_,Y⟩;rw[Yf];have U4:A2/4294967296^k=aa:=by rw[<-Yf,Nat.add_mul_div_left _ _ (hP k),Nat.div_eq_of_lt (Nat.mod_lt _ (hP k)),Nat.zero_add]
   have Dy:A2%4294967296^k=A1%4294967296^k:=by rw[<-Yf,Nat.add_mul_mod_self_left,Nat.mod_mod]
   have Zl:∀i,yt 4294967296 aa V i<=1:=λi=>Bw (by decide) _ _ _;refine cZ (λi=>((i:Int),yt 4294967296 aa V i,dZ 4294967296 N (mix 4294967296 k i (aa+V) aa A2))) (n+2) (yt 4294967296 aa V (n+2),dZ 4294967296 N (mix 4294967296 k (n+2) (aa+V) aa A2)) ?_ (λi hi=>?_) ?_ ?_
   ·rw[zZ,<-U4,Ah];rfl
   ·have yo:v[i]? =some (V/4294967296^i%4294967296):=by rw[<-RY];exact kA Yd.1 (by omega)
    have Yg:(dZ 4294967296 N (mix 4294967296 k i (aa+V) aa A2))[k+i]? =some (aa/4294967296^i%4294967296):=by rw[iV (by omega),qp (by decide)]
    have MO:=zY (B:=4294967296) (by decide) aa V i;have Av:=xX (B:=4294967296) (by decide) aa V i;have hput:=yc (B:=4294967296) (by decide) k i (aa+V) aa A2 (N:=N) (by omega);have hci:=Zl i;have hv1:=Nat.mod_lt (V/4294967296^i) (show 0<4294967296 by decide);have Nd:=Nat.mod_lt (aa/4294967296^i) (show 0<4294967296 by decide);simp only[show decide ((i:Int)<(v.length:Int))=true by simp;omega,gw];rw[bX yo,bO,nO (by omega),ez (by rw[bz];omega),bO,Yg,bO,Nat.mod_eq_of_lt (a:=aa/4294967296^i%4294967296) (b:=18446744073709551616) (by omega),Nat.mod_eq_of_lt (a:=V/4294967296^i%4294967296) (b:=18446744073709551616) (by omega),Nat.mod_eq_of_lt (b:=18446744073709551616) (by omega),eH _ _ (by omega),bO,bO,jc (by rw[bz];omega),bO,dU (by omega)];rw[MO,Av,hput]
   ·simp[hvl]
   have Yg:(dZ 4294967296 N (mix 4294967296 k (n+2) (aa+V) aa A2))[k+(n+2)]? =some (aa/4294967296^(n+2)%4294967296):=by rw[iV (by omega),qp (by decide)]
   have Av:=xX (B:=4294967296) (by decide) aa V (n+2);have hput:=yc (B:=4294967296) (by decide) k (n+2) (aa+V) aa A2 (N:=N) (by omega);have hci:=Zl (n+2);have Nd:=Nat.mod_lt (aa/4294967296^(n+2)) (show 0<4294967296 by decide);rw[Nat.div_eq_of_lt sS,Nat.zero_mod,Nat.add_zero]at Av;simp only[];rw[ez (by rw[bz];omega),bO,Yg,bO,Nat.mod_eq_of_lt (a:=aa/4294967296^(n+2)%4294967296) (b:=18446744073709551616) (by omega),eH _ _ (by omega),bO,bO,jc (by rw[bz];omega),bO,Av,hput,Ag R5,Dy,Zk,H6,ez (by rw[bz];omega),bO,jc (by rw[bz];omega),bO,FN (by decide) (by omega),dI (by omega) (by omega)]
  ·
   have R4:A1/4294967296^k/V<4294967296:=by rw[Mu];exact Nat.mod_lt _ (by decide)
   omega
  have H7:4294967296^(n+2+1)=4294967296^(n+2)*4294967296:=Nat.pow_succ ..;have:4294967296*V<4294967296*4294967296^(n+2):=Nat.mul_lt_mul_of_pos_left sS (by decide);rw[H7];omega
 ·rw[show K+1-(K+1)=0 by omega,Nat.pow_zero,Nat.mul_one,Nat.mul_one,Nat.div_one,show decide (0<=(K:Int)-((K+1:Nat):Int))=false by simp;omega,gW]
 obtain⟨R,hR⟩:∃R,Va%Vb=R:=⟨_,Y⟩;rw[Yc,hR];have Yh:R<4294967296^(n+2):=by rw[<-hR];exact Nat.lt_trans (Nat.mod_lt _ hb0) Mt
 rw[u0 (by decide) (by omega),bO];refine cZ (λi=>((i:Int),dZ 4294967296 (n+2) (R%4294967296^i))) (n+2) (dZ 4294967296 (n+2) R) ?_ (λi hi=>?_) ?_ Y
 ·rw[Nat.pow_zero,Nat.mod_one,nv];rfl
 ·obtain⟨e,he⟩:∃e,4294967296=D*e:=⟨2^(32-s),by rw[<-hD,<-Nat.pow_add,show s+(32-s)=32 by omega,two32]⟩;have R6:=HZ (R:=R) (i:=i) RV he;obtain⟨u,hu⟩:∃u,R*D/4294967296^i%4294967296=u:=⟨_,Y⟩;obtain⟨w,hw⟩:∃w,R*D/4294967296^(i+1)%4294967296=w:=⟨_,Y⟩;have Uf:u<4294967296:=by rw[<-hu];exact Nat.mod_lt _ (by decide)
  have YI:w<4294967296:=by rw[<-hw];exact Nat.mod_lt _ (by decide)
  rw[hu,hw]at R6;simp only[show decide ((i:Int)<((n+2:Nat):Int))=true by simp;omega,gw];rw[ez (by rw[bz];omega),bO,iV (by omega),bO,hu,dU (by omega),ez (by rw[bz];omega),bO,iV (by omega),bO,hw,Nat.mod_eq_of_lt (a:=u) (by omega),Nat.mod_eq_of_lt (a:=w) (by omega),two32,Nat.mod_eq_of_lt (a:=w*4294967296) (by omega),Nat.or_comm,Cq Uf,Nat.mod_eq_of_lt (a:=w*4294967296+u) (by omega),show min s 64=s by omega,hD,R6,ez (by rw[bz];omega),bO,jc (by rw[bz];omega),bO];rw[Ms (by decide) hi]
 rw[Nat.mod_eq_of_lt Yh];simp
end
section
open Go.Fw
def sv(n:Bool)(v:Nat):Int:=bif n then-(v:Int)else v
def zi(z:Zr):Int:=sv z.neg (vl z.w)
def zn(i:Int):Zr:=⟨decide (i<0),can 4294967296 i.natAbs⟩
def Wl(z:Zr):Prop:=(∀x∈z.w,x<4294967296)/\z.w.length<=35184372088788
def Fit(L:Nat)(i:Int):Prop:=i.natAbs<4294967296^L
theorem FR(n:Bool)(v:Nat):(sv n v).natAbs=v:=by cases n<;>simp[sv]
theorem vf(z:Zr):(zi z).natAbs=vl z.w:=FR _ _
theorem Mw(n:Bool)(v:Nat):decide (sv n v<0)=(n&&v != 0):=by
 cases n
 ·have:¬((v:Int)<0):=by omega
  simp[sv,this]
 rcases v with _|v
 ·simp[sv]
 simp[sv]
theorem jV(n:Bool)(v:Nat):zc n v=zn (sv n v):=by rw[zc,zn,Mw,FR]
theorem H8(i:Int):sv (decide (i<0)) i.natAbs=i:=by
 by_cases h:i<0
 ·rw[show decide (i<0)=true by simp[h]];simp[sv];omega
 rw[show decide (i<0)=false by simp[h]];simp[sv];omega
theorem bU(i:Int):zi (zn i)=i:=by
 show sv (decide (i<0)) (vl (can 4294967296 i.natAbs))=i;rw[show vl (can 4294967296 i.natAbs)=i.natAbs from lZ (by decide) _,H8]
theorem ye(n:Bool)(v:Nat):sv (!n) v=-sv n v:=by cases n<;>simp[sv]
theorem iW(v:Nat):sv false v=v:=rfl
theorem Fit.mono{L M:Nat}{i:Int}(h:Fit L i)(hl:L<=M):Fit M i:=Nat.lt_of_lt_of_le h (Nat.pow_le_pow_right (by decide) hl)
theorem Fit.neg{L:Nat}{i:Int}(h:Fit L i):Fit L (-i):=by unfold Fit at*;rw[Int.natAbs_neg];exact h
theorem Fit.add{L:Nat}{i j:Int}(h:Fit L i)(h':Fit L j):Fit (L+1) (i+j):=by
 unfold Fit at*;have:=Int.natAbs_add_le i j;rw[Nat.pow_succ];omega
theorem Fit.sub{L:Nat}{i j:Int}(h:Fit L i)(h':Fit L j):Fit (L+1) (i-j):=by
 rw[Int.sub_eq_add_neg];exact h.add h'.neg
theorem Fit.mul{L M:Nat}{i j:Int}(h:Fit L i)(h':Fit M j):Fit (L+M) (i*j):=by
 unfold Fit at*;rw[Int.natAbs_mul,Nat.pow_add];exact Nat.mul_lt_mul'' h h'
theorem Fit.i64{i:Int}(h: -9223372036854775808<=i)(h':i<=9223372036854775807):Fit 2 i:=by
 unfold Fit;rw[show(4294967296:Nat)^2=18446744073709551616 by decide];omega
theorem Fit.le{L:Nat}{i j:Int}(h:Fit L i)(h':j.natAbs<=i.natAbs):Fit L j:=Nat.lt_of_le_of_lt h' h
theorem cP{L:Nat}{i:Int}(h:Fit L i)(hL:L<=35184372088788):Wl (zn i):=
 ⟨λ_ hx=>gj (by decide) hx,Nat.le_trans ((cI (by decide)).2 h) hL⟩
theorem Wl.fit{z:Zr}(h:Wl z):Fit z.w.length (zi z):=by
 unfold Fit;rw[vf];exact fm z.w h.1
theorem Wl.lt{z:Zr}(h:Wl z):vl z.w<4294967296^z.w.length:=fm z.w h.1
theorem Wl.cl{z:Zr}(h:Wl z):(can 4294967296 (vl z.w)).length<=35184372088788:=
 Nat.le_trans ((cI (by decide)).2 (Wl.lt h)) h.2
def Wx(z:Zr):Prop:=(∀x∈z.w,x<4294967296)/\z.w.length<=9000000000000000000
theorem Wl.x{z:Zr}(h:Wl z):Wx z:=⟨h.1,Nat.le_trans h.2 (by decide)⟩
theorem Km{L:Nat}{i:Int}(h:Fit L i)(hL:L<=9000000000000000000):Wx (zn i):=
 ⟨λ_ hx=>gj (by decide) hx,Nat.le_trans ((cI (by decide)).2 h) hL⟩
theorem Wx.cl{z:Zr}(h:Wx z):(can 4294967296 (vl z.w)).length<=9000000000000000000:=
 Nat.le_trans ((cI (by decide)).2 (fm z.w h.1)) h.2
theorem Wx.trim{z:Zr}(h:Wx z):bg z.w=some (can 4294967296 (vl z.w)):=by
 rw[qm _ (by have:=h.2;omega),jU (by decide) h.1]
theorem Wl.trim{z:Zr}(h:Wl z):bg z.w=some (can 4294967296 (vl z.w)):=by
 rw[qm _ (by have:=h.2;omega),jU (by decide) h.1]
theorem eA{v:Nat}(h:(can 4294967296 v).length<=35184372088789):ya (can 4294967296 v):=⟨λ_ hx=>gj (by decide) hx,by omega⟩
theorem dg(v:Nat):vl (can 4294967296 v)=v:=lZ (by decide) v
theorem ew{v:Nat}:((can 4294967296 v).length:Int)<=2↔v<18446744073709551616:=by
 have:=cI (B:=4294967296) (by decide) (v:=v) (n:=2);rw[show(4294967296:Nat)^2=18446744073709551616 by decide]at this;omega
theorem ir{v:Nat}:((can 4294967296 v).length:Int)<=1↔v<4294967296:=by
 have:=cI (B:=4294967296) (by decide) (v:=v) (n:=1);rw[show(4294967296:Nat)^1=4294967296 by decide]at this;omega
theorem lq{v:Nat}:(can 4294967296 v).length=0↔v=0:=by
 constructor
 ·intro h;exact xV (by decide) (List.length_eq_zero_iff.1 h)
 intro h;rw[h,ny];rfl
theorem nA(l:List Nat)(h:l.length<=35184372088832):cJ l=some l:=by
 unfold cJ;rw[XX (by decide) (by simp;omega)];simp
end
section
open Go.Fw
theorem Ak(a b:Nat):decide (vR a b<0)=decide (a<b):=by
 rcases Nat.lt_trichotomy a b with h|h|h
 ·rw[ql h];simp[h]
 ·rw[h,xZ];simp
 rw[tF h];simp;omega
theorem sB(a b:Nat)(ha:(can 4294967296 a).length<=35184372088788)(hb:(can 4294967296 b).length<=35184372088788)(h0:b≠0):
  ∃q r,ep (can 4294967296 a) (can 4294967296 b)=some (q,r)/\ya q/\vl q=a/b/\ya r/\vl r=a%b/\q.length<=35184372088789/\r.length<=35184372088789:=by
 unfold ep;rw[gB a b (by omega) (by omega)];simp only[bO];by_cases hlt:a<b
 ·rw[ql hlt];simp only[show decide ((-1:Int)<0)=true by decide,gw];rw[nA _ (by omega)];refine⟨_,_,Y,⟨by simp,by simp⟩,?_,eA (by omega),?_,by simp,by omega⟩
  ·rw[Nat.div_eq_of_lt hlt];rfl
  rw[dg,Nat.mod_eq_of_lt hlt]
 rw[Ak,show decide (a<b)=false by simp[hlt]];simp only[gW];by_cases h2:a<18446744073709551616
 ·rw[show decide (((can 4294967296 a).length:Int)<=2)=true by rw[decide_eq_true_eq];exact ew.2 h2];have DN:b<18446744073709551616:=by omega
  simp only[gw];have l1:=low_eq (can 4294967296 a) (λ_ hx=>gj (by decide) hx) (by have:=ew.2 h2;omega);have l2:=low_eq (can 4294967296 b) (λ_ hx=>gj (by decide) hx) (by have:=ew.2 DN;omega);rw[dg]at l1 l2;rw[l1,bO,l2,bO,xT h0 h2,bO,lp _ _ (Nat.lt_of_le_of_lt (Nat.div_le_self _ _) h2),bO,tC h0,bO,lp _ _ (Nat.lt_of_le_of_lt (Nat.mod_le _ _) h2),bO];have hq:a/b<18446744073709551616:=Nat.lt_of_le_of_lt (Nat.div_le_self _ _) h2;have hr:a%b<18446744073709551616:=Nat.lt_of_le_of_lt (Nat.mod_le _ _) h2;have c1:=ew.2 hq;have c2:=ew.2 hr;exact⟨_,_,Y,eA (by omega),dg _,eA (by omega),dg _,by show(can _ _).length<=_;omega,by show(can _ _).length<=_;omega⟩
 rw[show decide (((can 4294967296 a).length:Int)<=2)=false by rw[decide_eq_false_iff_not];exact λh=>h2 (ew.1 h)];simp only[gW];have rS:(can 4294967296 b).length≠0:=λh=>h0 (lq.1 h);by_cases h1:b<4294967296
 ·have h1':=ir.2 h1;rw[show decide (((can 4294967296 b).length:Int)=1)=true by simp;omega,gw];have hg:(can 4294967296 b)[0]? =some b:=by rw[xW (by decide) (by omega)];simp;exact h1
  rw[nA _ (by omega),bO,nP hg,bO,Nat.mod_eq_of_lt (b:=18446744073709551616) (by omega),Af _ _ (eA (by omega)) (by omega) (by omega),bO,dg];simp only[];rw[k8 (by rw[bz]),bO];have hm:a%b<b:=Nat.mod_lt _ (by omega);rw[Nat.mod_eq_of_lt (a:=a%b) (by omega)];refine⟨_,_,Y,⟨λx hx=>jd (by decide) _ _ _ hx,by rw[bz];omega⟩,?_,⟨?_,by simp⟩,?_,by rw[bz];omega,by simp⟩
  ·show val _ _=_;rw[iq,Nat.mod_eq_of_lt (Nat.lt_of_le_of_lt (Nat.div_le_self _ _) (cM (by decide) a))]
  ·intro x hx;simp at hx;omega
  simp[vl,val]
 have h1':¬(((can 4294967296 b).length:Int)<=1):=λh=>h1 (ir.1 h);rw[show decide (((can 4294967296 b).length:Int)=1)=false by simp;omega,gW];obtain⟨n,hn⟩:∃n,(can 4294967296 b).length=n+2:=⟨(can 4294967296 b).length-2,by omega⟩;have hl:(can 4294967296 b).length<=(can 4294967296 a).length:=(cI (by decide)).2 (Nat.lt_of_le_of_lt (by omega) (cM (by decide) a));obtain⟨l,x,hx,he⟩:=zX (B:=4294967296) (by decide) h0;have By:(can 4294967296 b)[n+1]? ≠some 0:=by
  have:l.length=n+1:=by rw[he]at hn;simp at hn;omega
  rw[he,<-this];simp;exact hx
 rw[Bz _ _ (eA (by omega)) (eA (by omega)) hn hl By,bO,dg,dg];have Zm:0<b:=by omega
 have e1:a<4294967296^(can 4294967296 a).length:=cM (by decide) a;have e2:b<4294967296^(can 4294967296 b).length:=cM (by decide) b;have e3:4294967296^(n+1)<=b:=ow (by decide) (by omega);refine⟨_,_,Y,⟨λx hx=>jd (by decide) _ _ _ hx,by rw[bz];omega⟩,?_,⟨λx hx=>jd (by decide) _ _ _ hx,by rw[bz];omega⟩,?_,by rw[bz];omega,by rw[bz];omega⟩
 ·show val _ _=_;rw[iq,Nat.mod_eq_of_lt];rw[Nat.div_lt_iff_lt_mul Zm];have:4294967296^((can 4294967296 a).length-(can 4294967296 b).length+1)*4294967296^(n+1)=4294967296^(can 4294967296 a).length:=by rw[<-Nat.pow_add];congr 1;omega
  calc a<4294967296^((can 4294967296 a).length-(can 4294967296 b).length+1)*4294967296^(n+1):=by rw[this];exact e1
   _<=_:=Nat.mul_le_mul_left _ e3
 show val _ _=_;rw[iq,Nat.mod_eq_of_lt (Nat.lt_trans (Nat.mod_lt _ Zm) e2)]
end
section
open Go.Fw
theorem dy{x:Int}(h1: -9223372036854775808<=x)(h2:x<=9223372036854775807):bp x=some (zn x):=by
 unfold bp;simp only[bO,cW];by_cases hx:x<0
 ·have e:(x%18446744073709551616).toNat=18446744073709551616-x.natAbs:=by omega
  rw[show decide (x<0)=true by simp[hx],gw,e,tw (by omega) (by omega),show 18446744073709551616+0-(18446744073709551616-x.natAbs)=x.natAbs by omega,lp _ _ (by omega),bO,jV,show sv true x.natAbs=x by simp[sv];omega]
 have e:(x%18446744073709551616).toNat=x.natAbs:=by omega
 rw[show decide (x<0)=false by simp[hx],gW,e,lp _ _ (by omega),bO,jV,show sv false x.natAbs=x by simp[sv];omega]
def dJ(i:Int):Prop:=-9223372036854775808<=i/\i<=9223372036854775807
instance(i:Int):Decidable (dJ i):=by unfold dJ;infer_instance
def nB(i:Int):Int×Bool:=if dJ i then(i,true)else(0,false)
theorem jW{z:Zr}(h:Wl z):cz z=some (nB (zi z)):=by
 obtain⟨n,w⟩:=z;unfold cz;have ht:=h.trim;have Yi:vl w<18446744073709551616->cH (can 4294967296 (vl w))=some (vl w):=λh2=>by
  rw[low_eq _ (λ_ hx=>gj (by decide) hx) (by have:=ew.2 h2;omega),dg]
 show(bg w).bind _=some (nB (sv n (vl w)));rw[show bg w=some (can 4294967296 (vl w))from ht];simp only[bO];generalize vl w=v at*;by_cases h2:v<18446744073709551616
 ·have:=ew.2 h2;rw[show decide ((2:Int)<((can 4294967296 v).length:Int))=false by simp;omega,gW,Yi h2,bO];cases n
  ·rw[gW,iW];by_cases h3:v<9223372036854775808
   ·rw[show decide (9223372036854775808<=v)=false by simp;omega,gW,nN (by omega),nB,if_pos (by unfold dJ;omega)]
   rw[show decide (9223372036854775808<=v)=true by simp;omega,gw,nB,if_neg (by unfold dJ;omega)]
  rw[gw,show sv true v=-(v:Int)from rfl];by_cases h3:9223372036854775808<v
  ·rw[show decide (9223372036854775808<v)=true by simp;omega,gw,nB,if_neg (by unfold dJ;omega)]
  rw[show decide (9223372036854775808<v)=false by simp;omega,gW,nB,if_pos (by unfold dJ;omega)];by_cases h0:v=0
  ·subst h0;rfl
  rw[tw (by omega) (by omega)];rw[show IntKind.i64.wrap ((18446744073709551616+0-v:Nat):Int)=-(v:Int) by
   rw[IntKind.wrap];simp[IntKind.signed,IntKind.bits];omega]
 have:¬(((can 4294967296 v).length:Int)<=2):=λh=>h2 (ew.1 h);rw[show decide ((2:Int)<((can 4294967296 v).length:Int))=true by simp;omega,gw,nB,if_neg (by unfold dJ;cases n<;>simp[sv]<;>omega)]
theorem FU{z:Zr}(h:Wx z):bZ z=some (zi z).sign:=by
 obtain⟨n,w⟩:=z;unfold bZ;show(bg w).bind _=some (sv n (vl w)).sign;rw[show bg w=some (can 4294967296 (vl w))from h.trim];simp only[bO];generalize vl w=v;by_cases h0:v=0
 ·subst h0;cases n<;>rfl
 have:(can 4294967296 v).length≠0:=λh=>h0 (lq.1 h);rw[show decide (((can 4294967296 v).length:Int)=0)=false by simp;intro e;rw[e]at this;exact this Y,gW];cases n
 ·rw[gW,iW,Int.sign_eq_one_of_pos (by omega)]
 rw[gw,show sv true v=-(v:Int)from Y,Int.sign_eq_neg_one_of_neg (by omega)]
def j9(i j:Int):Int:=if i<j then-1 else if i=j then 0 else 1
theorem jr{i j:Int}(h:i<j):j9 i j=-1:=by simp[j9,h]
theorem jt{i j:Int}(h:j<i):j9 i j=1:=by
 have h1:¬i<j:=by omega
 have h2:¬i=j:=by omega
 simp[j9,h1,h2]
theorem rD(i:Int):j9 i i=0:=by simp[j9]
theorem Al(v w:Nat):vR v w=j9 (v:Int) (w:Int):=by
 rcases Nat.lt_trichotomy v w with h|h|h
 ·rw[ql h,jr (by omega)]
 ·rw[h,xZ,rD]
 rw[tF h,jt (by omega)]
theorem FV(i j:Int):j9 (-i) (-j)=j9 j i:=by
 rcases Int.lt_trichotomy i j with h|h|h
 ·rw[jt h,jt (by omega)]
 ·rw[h,rD,rD]
 rw[jr h,jr (by omega)]
theorem sign_eq{z:Zr}(h:Wl z):bZ z=some (zi z).sign:=FU h.x
theorem Kn{x y:Zr}(hx:Wx x)(hy:Wx y):fS x y=some (j9 (zi x) (zi y)):=by
 obtain⟨n,w⟩:=x;obtain⟨m,u⟩:=y;unfold fS;show(bZ ⟨n,w⟩).bind _=_;rw[FU hx,bO];show(bZ ⟨m,u⟩).bind _=_;rw[FU hy,bO,show bg w=some (can 4294967296 (vl w))from hx.trim,show bg u=some (can 4294967296 (vl u))from hy.trim];simp only[bO];rw[gB _ _ hx.cl hy.cl,gB _ _ hy.cl hx.cl];simp only[bO];rw[show zi ⟨n,w⟩=sv n (vl w)from Y,show zi ⟨m,u⟩=sv m (vl u)from rfl];generalize vl w=a;generalize vl u=b;rw[Al,Al];obtain⟨i,hi⟩:∃i,sv n a=i:=⟨_,Y⟩;obtain⟨j,hj⟩:∃j,sv m b=j:=⟨_,Y⟩;have MH:(i<0->i=-(a:Int))/\(0<=i->i=a):=by rw[<-hi];cases n<;>simp[sv]<;>omega
 have Yj:(j<0->j=-(b:Int))/\(0<=j->j=b):=by rw[<-hj];cases m<;>simp[sv]<;>omega
 rw[hi,hj];rcases Int.lt_trichotomy i 0 with h1|h1|h1<;>rcases Int.lt_trichotomy j 0 with h2|h2|h2
 ·rw[Int.sign_eq_neg_one_of_neg h1,Int.sign_eq_neg_one_of_neg h2,MH.1 h1,Yj.1 h2,FV];rfl
 ·rw[Int.sign_eq_neg_one_of_neg h1,show Int.sign j=0 by rw[h2];rfl,show j9 i j=-1 from jr (by omega)];rfl
 ·rw[Int.sign_eq_neg_one_of_neg h1,Int.sign_eq_one_of_pos h2,show j9 i j=-1 from jr (by omega)];rfl
 ·rw[show Int.sign i=0 by rw[h1];rfl,Int.sign_eq_neg_one_of_neg h2,show j9 i j=1 from jt (by omega)];rfl
 ·rw[show Int.sign i=0 by rw[h1];rfl,show Int.sign j=0 by rw[h2];rfl,<-MH.2 (by omega),<-Yj.2 (by omega)];rfl
 ·rw[show Int.sign i=0 by rw[h1];rfl,Int.sign_eq_one_of_pos h2,show j9 i j=-1 from jr (by omega)];rfl
 ·rw[Int.sign_eq_one_of_pos h1,Int.sign_eq_neg_one_of_neg h2,show j9 i j=1 from jt (by omega)];rfl
 ·rw[Int.sign_eq_one_of_pos h1,show Int.sign j=0 by rw[h2];rfl,show j9 i j=1 from jt (by omega)];rfl
 rw[Int.sign_eq_one_of_pos h1,Int.sign_eq_one_of_pos h2,<-MH.2 (by omega),<-Yj.2 (by omega)];rfl
theorem Mx{x y:Zr}(hx:Wl x)(hy:Wl y):fS x y=some (j9 (zi x) (zi y)):=Kn hx.x hy.x
theorem neg_eq{x:Zr}(hx:Wl x):dG x=some (zn (-zi x)):=by
 obtain⟨n,w⟩:=x;unfold dG;have hc:(can 4294967296 (vl w)).length<=35184372088788:=hx.cl;simp only[bO];rw[show bg w=some (can 4294967296 (vl w))from hx.trim,bO,nA _ (by omega),bO,fY _ _ (eA (by omega)).x,bO,dg,jV,ye];rfl
theorem abs_eq{x:Zr}(hx:Wl x):gQ x=some (zn ((zi x).natAbs:Int)):=by
 obtain⟨n,w⟩:=x;unfold gQ;have hc:(can 4294967296 (vl w)).length<=35184372088788:=hx.cl;simp only[];rw[show bg w=some (can 4294967296 (vl w))from hx.trim,bO,nA _ (by omega),bO,fY _ _ (eA (by omega)).x,bO,dg,jV,iW,vf]
end
section
open Go.Fw
theorem qt(n m:Bool)(a b:Nat)(ha:(can 4294967296 a).length<=35184372088788)(hb:(can 4294967296 b).length<=35184372088788):
  cn n (can 4294967296 a) m (can 4294967296 b)=some (zn (sv n a+sv m b)):=by
 have la:=cM (B:=4294967296) (by decide) a;have lb:=cM (B:=4294967296) (by decide) b;unfold cn;simp only[bO];by_cases hnm:n=m
 ·subst hnm;rw[show(n==n)=true by simp,gw,sx _ _ (eA (by omega)) (eA (by omega)),bO,dg,dg,fY _ _ ⟨λx hx=>jd (by decide) _ _ _ hx,by rw[bz];omega⟩,bO];have hv:vl (dZ 4294967296 (max (can 4294967296 a).length (can 4294967296 b).length+1) (a+b))=a+b:=by
   show val _ _=_;rw[iq,Nat.mod_eq_of_lt];have h1:a<4294967296^(max (can 4294967296 a).length (can 4294967296 b).length):=Nat.lt_of_lt_of_le la (Nat.pow_le_pow_right (by decide) (by omega));have h2:b<4294967296^(max (can 4294967296 a).length (can 4294967296 b).length):=Nat.lt_of_lt_of_le lb (Nat.pow_le_pow_right (by decide) (by omega));rw[Nat.pow_succ];omega
  rw[hv,jV,show sv n (a+b)=sv n a+sv n b by cases n<;>simp[sv];omega]
 rw[show(n==m)=false by simp[hnm],gW,gB _ _ (by omega) (by omega),bO,Ak];have hm:m= !n:=by cases n<;>cases m<;>simp_all
 subst hm;have hv:∀c d,d<=c->(can 4294967296 c).length<=35184372088788->cc (can 4294967296 c) (can 4294967296 d)=some (dZ 4294967296 (can 4294967296 c).length (c-d))/\vl (dZ 4294967296 (can 4294967296 c).length (c-d))=c-d:=by
  intro c d hdc qH;have lc:=cM (B:=4294967296) (by decide) c;have Yk:(can 4294967296 d).length<=(can 4294967296 c).length:=(cI (by decide)).2 (by omega);constructor
  ·rw[sy _ _ (eA (by omega)) (eA (by omega)) Yk (by rw[dg,dg];exact hdc),dg,dg]
  show val _ _=_;rw[iq,Nat.mod_eq_of_lt (by omega)]
 by_cases hlt:a<b
 ·obtain⟨h1,h2⟩:=hv b a (by omega) hb;rw[show decide (a<b)=true by simp[hlt],gw,h1,bO,fY _ _ ⟨λx hx=>jd (by decide) _ _ _ hx,by rw[bz];omega⟩,bO,h2,jV,show sv (!n) (b-a)=sv n a+sv (!n) b by cases n<;>simp[sv]<;>omega]
 obtain⟨h1,h2⟩:=hv a b (by omega) ha;rw[show decide (a<b)=false by simp[hlt],gW,h1,bO,fY _ _ ⟨λx hx=>jd (by decide) _ _ _ hx,by rw[bz];omega⟩,bO,h2,jV,show sv n (a-b)=sv n a+sv (!n) b by cases n<;>simp[sv]<;>omega]
theorem Ct(v:BitVec 64):IntKind.i64.wrap (v.toNat:Int)=v.toInt:=by
 rw[BitVec.toInt_eq_toNat_cond];have:=v.isLt;rw[show(2:Nat)^64=18446744073709551616 by decide]at this⊢;split
 ·rw[nN (by omega)]
 rw[IntKind.wrap];simp[IntKind.signed,IntKind.bits];omega
theorem Cu(v:BitVec 64):BitVec.ofInt 64 (IntKind.i64.wrap (v.toNat:Int))=v:=by rw[Ct,BitVec.ofInt_toInt]
theorem rE{x:Int}(h:dJ x):(BitVec.ofInt 64 x).msb=decide (x<0):=by
 rw[BitVec.msb_eq_toInt,BitVec.toInt_ofInt];unfold dJ at h;have:x.bmod (2^64)=x:=by
  rw[Int.bmod_def];simp only[show((2^64:Nat):Int)=18446744073709551616 by decide];split<;>omega
 rw[this]
theorem wS(v:BitVec 64):decide ((0:Int)<=IntKind.i64.wrap (v.toNat:Int))= !v.msb:=by
 rw[Ct,BitVec.msb_eq_toInt];by_cases h:v.toInt<0
 ·simp[h]
 simp[h];omega
theorem lu(x:Int):dJ (IntKind.i64.wrap x):=by
 unfold dJ;rw[IntKind.wrap];simp[IntKind.signed,IntKind.bits];split<;>omega
theorem vg{α:Type}(b:Bool)(x:α):(bif b then x else x)=x:=by cases b<;>rfl
theorem fB{i:Int}(h:dJ i):nB i=(i,true):=if_pos h
theorem jX{i:Int}(h:¬dJ i):nB i=(0,false):=if_neg h
theorem add_eq{x y:Zr}(hx:Wl x)(hy:Wl y):c9 x y=some (zn (zi x+zi y)):=by
 obtain⟨n,w⟩:=x;obtain⟨m,u⟩:=y;unfold c9;simp only[jW hx,jW hy,bO,cW];have hK:((bg w).bind λvH=>(bg u).bind λuD=>(cn n vH m uD).bind λx=>some x)=some (zn (zi ⟨n,w⟩+zi ⟨m,u⟩)):=by
  rw[show bg w=some (can 4294967296 (vl w))from hx.trim,show bg u=some (can 4294967296 (vl u))from hy.trim,bO,bO,qt _ _ _ _ hx.cl hy.cl,bO];rfl
 have Yl:((bg w).bind λvH=>(bg u).bind λuD=>(cn n vH m uD).bind λx=>some ⟨x.neg,x.w⟩)=some (zn (zi ⟨n,w⟩+zi ⟨m,u⟩)):=hK;rw[Yl];generalize zi ⟨n,w⟩=i;generalize zi ⟨m,u⟩=j;by_cases h1:dJ i
 ·by_cases h2:dJ j
  ·rw[fB h1,fB h2,gw,bO,gw,Cu,Cu,wS,BitVec.msb_and,BitVec.msb_xor,BitVec.msb_xor,rE h1,rE h2,rE (lu _),dy (lu _).1 (lu _).2,bO];by_cases hr:dJ (i+j)
   ·rw[dI hr.1 hr.2];exact vg _ _
   have:(!((decide (i<0)^^decide (IntKind.i64.wrap (i+j)<0))&&(decide (j<0)^^decide (IntKind.i64.wrap (i+j)<0))))=false:=by
    unfold dJ at*;by_cases hs:i<0
    ·have e:IntKind.i64.wrap (i+j)=i+j+18446744073709551616:=by rw[IntKind.wrap];simp[IntKind.signed,IntKind.bits];omega
     rw[e,show decide (i<0)=true by simp[hs],show decide (j<0)=true by simp;omega,show decide (i+j+18446744073709551616<0)=false by simp;omega];rfl
    have e:IntKind.i64.wrap (i+j)=i+j-18446744073709551616:=by rw[IntKind.wrap];simp[IntKind.signed,IntKind.bits];omega
    rw[e,show decide (i<0)=false by simp[hs],show decide (j<0)=false by simp;omega,show decide (i+j-18446744073709551616<0)=true by simp;omega];rfl
   rw[this,gW]
  rw[fB h1,jX h2,gw,bO,gW]
 rw[jX h1,gW,bO,gW]
theorem sub_eq{x y:Zr}(hx:Wl x)(hy:Wl y):fR x y=some (zn (zi x-zi y)):=by
 obtain⟨n,w⟩:=x;obtain⟨m,u⟩:=y;unfold fR;simp only[jW hx,jW hy,bO,cW];have Yl:((bg w).bind λvH=>(bg u).bind λuD=>(cn n vH (!m) uD).bind λx=>some ⟨x.neg,x.w⟩)=some (zn (zi ⟨n,w⟩-zi ⟨m,u⟩)):=by
  rw[show bg w=some (can 4294967296 (vl w))from hx.trim,show bg u=some (can 4294967296 (vl u))from hy.trim,bO,bO,qt _ _ _ _ hx.cl hy.cl,bO,ye,<-Int.sub_eq_add_neg];rfl
 rw[Yl];generalize zi ⟨n,w⟩=i;generalize zi ⟨m,u⟩=j;by_cases h1:dJ i
 ·by_cases h2:dJ j
  ·rw[fB h1,fB h2,gw,bO,gw,Cu,Cu,wS,BitVec.msb_and,BitVec.msb_xor,BitVec.msb_xor,rE h1,rE h2,rE (lu _),dy (lu _).1 (lu _).2,bO];by_cases hr:dJ (i-j)
   ·rw[dI hr.1 hr.2];exact vg _ _
   have:(!((decide (i<0)^^decide (j<0))&&(decide (i<0)^^decide (IntKind.i64.wrap (i-j)<0))))=false:=by
    unfold dJ at*;by_cases hs:i<0
    ·have e:IntKind.i64.wrap (i-j)=i-j+18446744073709551616:=by rw[IntKind.wrap];simp[IntKind.signed,IntKind.bits];omega
     rw[e,show decide (i<0)=true by simp[hs],show decide (j<0)=false by simp;omega,show decide (i-j+18446744073709551616<0)=false by simp;omega];rfl
    have e:IntKind.i64.wrap (i-j)=i-j-18446744073709551616:=by rw[IntKind.wrap];simp[IntKind.signed,IntKind.bits];omega
    rw[e,show decide (i<0)=false by simp[hs],show decide (j<0)=true by simp;omega,show decide (i-j-18446744073709551616<0)=true by simp;omega];rfl
   rw[this,gW]
  rw[fB h1,jX h2,gw,bO,gW]
 rw[jX h1,gW,bO,gW]
theorem FW(n m:Bool)(a b:Nat):sv (!(n==m)) (a*b)=sv n a*sv m b:=by
 cases n<;>cases m<;>simp[sv,Int.neg_mul,Int.mul_neg]
theorem mul_eq{x y:Zr}(hx:Wl x)(hy:Wl y):cO x y=some (zn (zi x*zi y)):=by
 obtain⟨n,w⟩:=x;obtain⟨m,u⟩:=y;unfold cO;have T2:(can 4294967296 (vl w)).length<=35184372088788:=hx.cl;have R7:(can 4294967296 (vl u)).length<=35184372088788:=hy.cl;simp only[];rw[show bg w=some (can 4294967296 (vl w))from hx.trim,show bg u=some (can 4294967296 (vl u))from hy.trim,bO,bO,show zi ⟨n,w⟩=sv n (vl w)from Y,show zi ⟨m,u⟩=sv m (vl u)from rfl];simp only[bO,cW];generalize vl w=a at*;generalize vl u=b at*;have la:=cM (B:=4294967296) (by decide) a;have lb:=cM (B:=4294967296) (by decide) b;have hK:((eo (can 4294967296 a) (can 4294967296 b)).bind λqA=>(bK (!(n==m)) qA).bind λx=>some ⟨x.neg,x.w⟩)=some (zn (sv n a*sv m b)):=by
  rw[Ae _ _ (eA (by omega)) (eA (by omega)),bO,dg,dg,fY _ _ ⟨λx hx=>jd (by decide) _ _ _ hx,by rw[bz];omega⟩,bO,jV];have hv:vl (dZ 4294967296 ((can 4294967296 a).length+(can 4294967296 b).length) (a*b))=a*b:=by
   show val _ _=_;rw[iq,Nat.mod_eq_of_lt];rw[Nat.pow_add];exact Nat.mul_lt_mul'' la lb
  rw[hv,FW]
 rw[hK];by_cases h1:a<4294967296
 ·by_cases h2:b<4294967296
  ·have l1:=low_eq (can 4294967296 a) (λ_ hx=>gj (by decide) hx) (by have:=ir.2 h1;omega);have l2:=low_eq (can 4294967296 b) (λ_ hx=>gj (by decide) hx) (by have:=ir.2 h2;omega);rw[dg]at l1 l2;have hlt:a*b<18446744073709551616:=Nat.mul_lt_mul'' h1 h2;rw[show decide (((can 4294967296 a).length:Int)<=1)=true by rw[decide_eq_true_eq];exact ir.2 h1,gw,bO,show decide (((can 4294967296 b).length:Int)<=1)=true by rw[decide_eq_true_eq];exact ir.2 h2,gw,l1,l2,bO,bO,Nat.mod_eq_of_lt hlt,lp _ _ hlt,bO,jV,FW]
  rw[show decide (((can 4294967296 a).length:Int)<=1)=true by rw[decide_eq_true_eq];exact ir.2 h1,gw,bO,show decide (((can 4294967296 b).length:Int)<=1)=false by rw[decide_eq_false_iff_not];exact λh=>h2 (ir.1 h),gW]
 rw[show decide (((can 4294967296 a).length:Int)<=1)=false by rw[decide_eq_false_iff_not];exact λh=>h1 (ir.1 h),gW,bO,gW]
end
section
open Go.Fw
theorem My(n m:Bool){a b:Nat}(hb:0<b):
  sv n a/sv m b=(if n=true/\0<a%b then sv (!(n==m)) (a/b+1)else sv (!(n==m)) (a/b))/\
  sv n a%sv m b=(if n=true/\0<a%b then((b-a%b:Nat):Int)else((a%b:Nat):Int)):=by
 have hd:=Nat.div_add_mod a b;have hm:=Nat.mod_lt a hb
 revert hd hm
 generalize a/b=q;generalize a%b=r;intro hd hm;have hd':(b:Int)*q+r=a:=by exact_mod_cast hd
 have pos:∀n,sv n a/(b:Int)=(if n=true/\0<r then sv n (q+1)else sv n q)/\sv n a%(b:Int)=(if n=true/\0<r then((b-r:Nat):Int)else(r:Int)):=by
  intro n;apply(Int.ediv_emod_unique (by omega)).2;cases n
  ·simp[sv];omega
  by_cases hr:0<r
  ·simp only[hr,and_self,if_true,sv,cond_true];have:(b:Int)* -((q+1:Nat):Int)=-((b:Int)*q)-b:=by
    rw[Int.mul_neg,Int.natCast_add,Int.mul_add];simp;omega
   rw[this];omega
  have:r=0:=by omega
  subst this;simp[sv,Int.mul_neg];omega
 cases m
 ·have:=pos n;rw[iW,show(!(n==false))=n by cases n<;>rfl];exact this
 have:=pos n;rw[show sv true b=-(b:Int)from rfl,Int.ediv_neg,Int.emod_neg,this.1,this.2,show(!(n==true))= !n by cases n<;>rfl,ye,ye];refine⟨?_,Y⟩;split<;>rfl
theorem Mz{a b:Nat}(hba:b<=a)(qH:(can 4294967296 a).length<=35184372088788):cc (can 4294967296 a) (can 4294967296 b)=some (dZ 4294967296 (can 4294967296 a).length (a-b))/\vl (dZ 4294967296 (can 4294967296 a).length (a-b))=a-b:=by
 have lc:=cM (B:=4294967296) (by decide) a;have Yk:(can 4294967296 b).length<=(can 4294967296 a).length:=(cI (by decide)).2 (by omega);constructor
 ·rw[sy _ _ (eA (by omega)) (eA (by omega)) Yk (by rw[dg,dg];exact hba),dg,dg]
 show val _ _=_;rw[iq,Nat.mod_eq_of_lt (by omega)]
def FX(i j:Int):Zr×Zr×Int:=if j=0 then(⟨false,[]⟩,⟨false,[]⟩,7)else(zn (i/j),zn (i%j),0)
theorem divMod_eq{x y:Zr}(hx:Wl x)(hy:Wl y):bT x y=some (FX (zi x) (zi y)):=by
 obtain⟨n,w⟩:=x;obtain⟨m,u⟩:=y;unfold bT;have T2:(can 4294967296 (vl w)).length<=35184372088788:=hx.cl;have R7:(can 4294967296 (vl u)).length<=35184372088788:=hy.cl;simp only[];rw[show bg w=some (can 4294967296 (vl w))from hx.trim,show bg u=some (can 4294967296 (vl u))from hy.trim,bO,bO,show zi ⟨n,w⟩=sv n (vl w)from Y,show zi ⟨m,u⟩=sv m (vl u)from rfl];simp only[bO,cW];generalize vl w=a at*;generalize vl u=b at*;by_cases h0:b=0
 ·subst h0;rw[show sv m 0=0 by cases m<;>rfl];rfl
 have rS:(can 4294967296 b).length≠0:=λh=>h0 (lq.1 h);rw[show decide (((can 4294967296 b).length:Int)=0)=false by simp;intro e;rw[e]at rS;exact rS Y,gW];obtain⟨q,r,Ym,T3,T4,L0,OS,hq3,hr3⟩:=sB a b T2 R7 h0;have hm:a%b<b:=Nat.mod_lt _ (by omega);obtain⟨e1,e2⟩:=My n m (a:=a) (show 0<b by omega);have hj:sv m b≠0:=by cases m<;>simp[sv]<;>omega
 rw[Ym,bO];simp only[];rw[qm r (by have:=L0.2;omega),jU (by decide) L0.1,show val 4294967296 r=a%b from OS,bO,FX,if_neg hj,e1,e2];have hrl:(can 4294967296 (a%b)).length<=(can 4294967296 b).length:=(cI (by decide)).2 (Nat.lt_trans hm (cM (by decide) b));have hK:∀c:Bool,(decide (n=true/\0<a%b)=c)->(bif c then(di q [1]).bind λqA=>(cc (can 4294967296 b) (can 4294967296 (a%b))).bind λot=>(bK (!(n==m)) qA).bind λx=>(bK false ot).bind λx_1=>some ((⟨x.neg,x.w⟩:Zr),(⟨x_1.neg,x_1.w⟩:Zr),(0:Int))
   else(bK (!(n==m)) q).bind λx=>(bK false (can 4294967296 (a%b))).bind λx_1=>some ((⟨x.neg,x.w⟩:Zr),(⟨x_1.neg,x_1.w⟩:Zr),(0:Int)))=
   some (zn (if n=true/\0<a%b then sv (!(n==m)) (a/b+1)else sv (!(n==m)) (a/b)),zn (if n=true/\0<a%b then((b-a%b:Nat):Int)else((a%b:Nat):Int)),0):=by
  intro c hc;cases c
  ·have R8:=of_decide_eq_false hc;rw[gW,if_neg R8,if_neg R8,fY _ _ T3.x,bO,fY _ _ (eA (by omega)).x,bO,dg,T4,jV,jV,iW]
  have R8:=of_decide_eq_true hc;obtain⟨s1,s2⟩:=Mz (a:=b) (b:=a%b) (by omega) R7;have w1:ya [1]:=⟨by simp,by simp⟩;rw[gw,if_pos R8,if_pos R8,sx _ _ T3 w1,bO,s1,bO,fY _ _ ⟨λx hx=>jd (by decide) _ _ _ hx,by rw[bz];simp;omega⟩,bO,fY _ _ ⟨λx hx=>jd (by decide) _ _ _ hx,by rw[bz];omega⟩,bO,s2,jV,jV,iW];have:vl (dZ 4294967296 (max q.length [1].length+1) (vl q+vl [1]))=a/b+1:=by
   show val _ _=_;rw[iq,show vl [1]=1 by decide,T4,Nat.mod_eq_of_lt];have h1:vl q<4294967296^q.length:=fm q T3.1;rw[T4]at h1;have h2:4294967296^q.length<=4294967296^(max q.length [1].length):=Nat.pow_le_pow_right (by decide) (by omega);have h3:0<4294967296^(max q.length [1].length):=Nat.pow_pos (by decide);rw[Nat.pow_succ];omega
  rw[this]
 have hz:(0<(can 4294967296 (a%b)).length)↔0<a%b:=by
  have:=lq (v:=a%b);omega
 cases n
 ·rw[gW,bO];exact hK false (by simp)
 rw[gw,bO];refine hK _ ?_;simp only[true_and];by_cases h:0<a%b
 ·simp[h,hz.2 h]
 have h':¬0<(can 4294967296 (a%b)).length:=λe=>h (hz.1 e);have h'':¬((0:Int)<((can 4294967296 (a%b)).length:Int)):=by omega
 simp only[h,h'',decide_false]
theorem MA{x y:Zr}(hx:Wl x)(hy:Wl y):gR x y=some (zn (Int.gcd (zi x) (zi y):Int)):=by
 obtain⟨n,w⟩:=x;obtain⟨m,u⟩:=y;unfold gR;have T2:(can 4294967296 (vl w)).length<=35184372088788:=hx.cl;have R7:(can 4294967296 (vl u)).length<=35184372088788:=hy.cl;simp only[];rw[show bg w=some (can 4294967296 (vl w))from hx.trim,show bg u=some (can 4294967296 (vl u))from hy.trim,bO,bO,Int.gcd,vf,vf];show _=some (zn ((Nat.gcd (vl w) (vl u):Nat):Int));generalize vl w=a at*;generalize vl u=b at*;refine lf (λs=>∃c d,s=(can 4294967296 c,can 4294967296 d)/\Nat.gcd c d=Nat.gcd a b/\(can 4294967296 c).length<=35184372088788/\(can 4294967296 d).length<=35184372088788)
  (λs=>∃c d,s=(can 4294967296 c,can 4294967296 d)/\Nat.gcd c d=Nat.gcd a b/\(can 4294967296 c).length<=35184372088788/\(d=0\/(c<18446744073709551616/\d<18446744073709551616))) (λs=>vl s.2) ?_ ⟨a,b,Y,Y,T2,R7⟩ ?_
 ·rintro _ ⟨c,d,rfl,hg,hc,hd⟩;simp only[bO,cW];by_cases h0:d=0
  ·right;subst h0;exact⟨_,Y,c,0,Y,hg,hc,.inl Y⟩
  have rS:(can 4294967296 d).length≠0:=λh=>h0 (lq.1 h);rw[show decide ((0:Int)<((can 4294967296 d).length:Int))=true by simp;omega,gw];by_cases h2:c<18446744073709551616/\d<18446744073709551616
  ·right;have c1:=ew.2 h2.1;have c2:=ew.2 h2.2;rw[show decide ((2:Int)<((can 4294967296 c).length:Int))=false by simp;omega,gW,show decide ((2:Int)<((can 4294967296 d).length:Int))=false by simp;omega];exact⟨_,Y,c,d,Y,hg,hc,.inr h2⟩
  left;have hm:c%d<d:=Nat.mod_lt _ (by omega);obtain⟨q,r,Ym,T3,T4,L0,OS,-,-⟩:=sB c d hc hd h0;have DO:((bif decide ((2:Int)<((can 4294967296 c).length:Int))then some true else some (decide ((2:Int)<((can 4294967296 d).length:Int)))):Option Bool)=some true:=by
   by_cases yA:c<18446744073709551616
   ·have Zd:¬d<18446744073709551616:=λh=>h2 ⟨yA,h⟩;have:¬(((can 4294967296 d).length:Int)<=2):=λh=>Zd (ew.1 h);rw[show decide ((2:Int)<((can 4294967296 d).length:Int))=true by simp;omega];exact vg _ _
   have:¬(((can 4294967296 c).length:Int)<=2):=λh=>yA (ew.1 h);rw[show decide ((2:Int)<((can 4294967296 c).length:Int))=true by simp;omega,gw]
  rw[DO,bO,bO,gw,Ym,bO];simp only[];rw[qm r (by have:=L0.2;omega),jU (by decide) L0.1,show val 4294967296 r=c%d from OS,bO];refine⟨_,Y,⟨d,c%d,Y,?_,hd,?_⟩,?_⟩
  ·rw[<-hg,Nat.gcd_comm d,<-Nat.gcd_rec,Nat.gcd_comm]
  ·exact Nat.le_trans ((cI (by decide)).2 (Nat.lt_trans hm (cM (by decide) d))) hd
  simp only[dg];exact hm
 rintro _ ⟨c,d,rfl,hg,hc,FP⟩;simp only[bO];by_cases h0:d=0
 ·subst h0;rw[show decide (((can 4294967296 0).length:Int)=0)=true by simp[ny],gw,nA _ (by omega),bO,fY _ _ (eA (by omega)).x,bO,dg,jV,iW,<-hg,Nat.gcd_zero_right]
 have h2:=FP.resolve_left h0;have rS:(can 4294967296 d).length≠0:=λh=>h0 (lq.1 h);have c1:=ew.2 h2.1;have c2:=ew.2 h2.2;rw[show decide (((can 4294967296 d).length:Int)=0)=false by simp;intro e;rw[e]at rS;exact rS Y,gW,low_eq _ (λ_ hx=>gj (by decide) hx) (by omega),bO,low_eq _ (λ_ hx=>gj (by decide) hx) (by omega),bO,dg,dg];refine lf (λs=>Nat.gcd s.1 s.2=Nat.gcd a b/\s.1<18446744073709551616/\s.2<18446744073709551616) (λe=>e=Nat.gcd a b/\e<18446744073709551616) (λs=>s.2) ?_ ⟨hg,h2.1,h2.2⟩ ?_
 ·rintro⟨s,t⟩ ⟨i1,i2,i3⟩;simp only at i1 i2 i3⊢;by_cases ht:0<t
  ·left;rw[show decide (0<t)=true by simp[ht],gw,tC (by omega),bO];refine⟨_,Y,⟨?_,i3,?_⟩,Nat.mod_lt _ ht⟩
   ·rw[<-i1,Nat.gcd_comm t,<-Nat.gcd_rec,Nat.gcd_comm]
   exact Nat.lt_trans (Nat.mod_lt _ ht) i3
  right;rw[show decide (0<t)=false by simp[ht],gW];refine⟨_,Y,?_,i2⟩;rw[<-i1,show t=0 by omega,Nat.gcd_zero_right]
 rintro e ⟨rfl,he⟩;rw[lp _ _ he,bO,jV,iW]
end
section
open Go.Fw
def zl(l:List Nat):List Int:=l.map (λ(n:Nat)=>(n:Int))
abbrev Y7(l:List Nat):Nat:=val 65536 l
theorem H9{x y:Zr}(h:x.w.length<=9000000000000000000):∃b,cY x y=some b/\(b=true↔x=y):=by
 obtain⟨n,w⟩:=x;obtain⟨m,u⟩:=y;unfold cY;simp only[bO,cW];by_cases hnm:n=m
 ·subst hnm;rw[show(!(n==n))=false by simp,gW,bO];by_cases hl:w.length=u.length
  ·rw[show decide ((w.length:Int)≠(u.length:Int))=false by simp[hl],gW];refine lW (λy=>∃i:Nat,y=(i:Int)/\i<=w.length/\w.take i=u.take i) (λe=>(∃c,e=.inl c/\w=u)\/(e=.inr false/\w≠u)) (λy=>w.length-y.toNat) ?_ ⟨0,Y,by omega,Y⟩ ?_
   ·rintro _ ⟨i,rfl,hi,ht⟩;by_cases hlt:i<w.length
    ·have g1:w[i]? =some w[i]:=by simp
     have g2:u[i]? =some (u[i]'(by omega)):=by simp
     rw[show decide ((i:Int)<(w.length:Int))=true by simp[hlt],gw,bX g1,bO,bX g2,bO];by_cases he:w[i]=u[i]'(by omega)
     ·left;rw[show decide (w[i]≠u[i]'(by omega))=false by simp[he],gW,dU (by simp at h;omega)];refine⟨_,Y,⟨i+1,Y,hlt,?_⟩,by omega⟩;rw[List.take_add_one,List.take_add_one,ht,g1,g2,he]
     right;rw[show decide (w[i]≠u[i]'(by omega))=true by simp[he],gw];refine⟨_,Y,.inr ⟨Y,?_⟩⟩;rintro rfl;exact he rfl
    right;rw[show decide ((i:Int)<(w.length:Int))=false by simp;omega,gW];refine⟨_,Y,.inl ⟨_,Y,?_⟩⟩;rw[List.take_of_length_le (by omega),List.take_of_length_le (by omega)]at ht;exact ht
   rintro e (⟨c,rfl,he⟩|⟨rfl,he⟩)
   ·exact⟨true,Y,by simp[he]⟩
   exact⟨false,Y,by simp[he]⟩
  rw[show decide ((w.length:Int)≠(u.length:Int))=true by simp;omega,gw];refine⟨_,Y,?_⟩;simp only[Bool.false_eq_true,false_iff];intro e;have:w=u:=congrArg Zr.w e;exact hl (by rw[this])
 rw[show(!(n==m))=true by simp[hnm],gw,bO,gw];refine⟨_,Y,?_⟩;simp only[Bool.false_eq_true,false_iff];intro e;exact hnm (congrArg Zr.neg e)
theorem wU{x:Zr}(h:x.w.length<=9000000000000000000):cY x x=some true:=by
 obtain⟨b,h1,h2⟩:=H9 (y:=x) h;rw[h1,h2.2 rfl]
end
section
open Go.Fw
theorem zeta'(z:Zr):(⟨z.neg,z.w⟩:Zr)=z:=by cases z;rfl
theorem rF{i:Int}(h:dJ i):Fit 2 i:=Fit.i64 h.1 h.2
theorem Am{i:Int}(h:dJ i):Wl (zn i):=cP (rF h) (by decide)
end
section
open Go.Fw
abbrev Zn(z:Zr):Prop:=True/\(z.w.length*4<=140737488351232/\∀x∈z.w,x<4294967296)
end
section
open Go.Fw
def qd(q:Qr):Int:=if zi q.den=0 then 1 else zi q.den
def qv(q:Qr):Rat:=Rat.divInt (zi q.num) (qd q)
def qn(r:Rat):Qr:=⟨zn r.num,if r.den=1 then⟨false,[]⟩else zn (r.den:Int)⟩
def FQ(L:Nat)(r:Rat):Prop:=Fit L r.num/\Fit L (r.den:Int)
structure iB (L:Nat) (q:Qr) (r:Rat):Prop where
 n:∀x∈q.num.w,x<4294967296
 d:∀x∈q.den.w,x<4294967296
 ln:q.num.w.length<=L
 ld:q.den.w.length<=L
 l1:1<=L
 v:qv q=r
theorem R9(q:Qr):qd q≠0:=by
 unfold qd;by_cases h:zi q.den=0
 ·rw[if_pos h];decide
 rw[if_neg h];exact h
theorem Sa(r:Rat):qv (qn r)=r:=by
 unfold qv qd qn;by_cases h:r.den=1
 ·rw[if_pos h];show Rat.divInt (zi (zn r.num)) (if zi ⟨false,[]⟩=0 then 1 else zi ⟨false,[]⟩)=r;rw[if_pos (show zi ⟨false,[]⟩=0 from rfl),bU];have:=Rat.num_divInt_den r;rw[h]at this;exact this
 rw[if_neg h];show Rat.divInt (zi (zn r.num)) (if zi (zn (r.den:Int))=0 then 1 else zi (zn (r.den:Int)))=r;have:=r.den_nz;rw[bU,bU,if_neg (by omega),Rat.num_divInt_den]
theorem Cv{w:List Nat}{n:Bool}{L:Nat}(h:∀x∈w,x<4294967296)(hl:w.length<=L):Fit L (zi ⟨n,w⟩):=by
 unfold Fit;rw[vf];exact Nat.lt_of_lt_of_le (fm w h) (Nat.pow_le_pow_right (by decide) hl)
theorem qu{L:Nat}(h:1<=L):Fit L 1:=by
 unfold Fit;exact Nat.lt_of_lt_of_le (show(1:Int).natAbs<4294967296^1 by decide) (Nat.pow_le_pow_right (by decide) h)
theorem FQ.rep{L:Nat}{r:Rat}(h:FQ L r)(h1:1<=L):iB L (qn r) r:=by
 refine⟨λx hx=>gj (by decide) hx,?_,(cI (by decide)).2 h.1,?_,h1,Sa r⟩
 ·unfold qn;by_cases e:r.den=1
  ·rw[if_pos e];simp
  rw[if_neg e];exact λx hx=>gj (by decide) hx
 unfold qn;by_cases e:r.den=1
 ·rw[if_pos e];simp
 rw[if_neg e];exact(cI (by decide)).2 h.2
theorem iB.wn{L:Nat}{q:Qr}{r:Rat}(h:iB L q r)(hL:L<=35184372088788):Wl q.num:=⟨h.n,Nat.le_trans h.ln hL⟩
theorem iB.wd{L:Nat}{q:Qr}{r:Rat}(h:iB L q r)(hL:L<=35184372088788):Wl q.den:=⟨h.d,Nat.le_trans h.ld hL⟩
theorem iB.fn{L:Nat}{q:Qr}{r:Rat}(h:iB L q r):Fit L (zi q.num):=Cv (n:=q.num.neg) h.n h.ln
theorem iB.fd{L:Nat}{q:Qr}{r:Rat}(h:iB L q r):Fit L (zi q.den):=Cv (n:=q.den.neg) h.d h.ld
theorem iB.fqd{L:Nat}{q:Qr}{r:Rat}(h:iB L q r):Fit L (qd q):=by
 unfold qd;by_cases e:zi q.den=0
 ·rw[if_pos e];exact qu h.l1
 rw[if_neg e];exact h.fd
theorem nR{L:Nat}{a d:Int}(h0:d≠0)(ha:Fit L a)(hd:Fit L d):FQ L (Rat.divInt a d):=by
 generalize hr:Rat.divInt a d=r;obtain⟨n',d',z',c⟩:=r;obtain⟨m,hm,h1,h2⟩:=Rat.divInt_num_den h0 hr;have hm':0<m.natAbs:=Int.natAbs_pos.2 hm;refine⟨ha.le ?_,hd.le ?_⟩
 ·rw[h1,Int.natAbs_mul];exact Nat.le_mul_of_pos_right _ hm'
 rw[h2,Int.natAbs_mul];exact Nat.le_mul_of_pos_right _ hm'
theorem iB.fq{L:Nat}{q:Qr}{r:Rat}(h:iB L q r):FQ L r:=by rw[<-h.v];exact nR (R9 q) h.fn h.fqd
theorem Cw(r:Rat):r=Rat.divInt r.num (r.den:Int):=(Rat.num_divInt_den r).symm
theorem yf(r:Rat):(r.den:Int)≠0:=by have:=r.den_nz;omega
theorem FQ.add{L M:Nat}{x y:Rat}(hx:FQ L x)(hy:FQ M y):FQ (L+M+1) (x+y):=by
 have e:x+y=Rat.divInt (x.num*y.den+y.num*x.den) (x.den*y.den):=by
  conv=>lhs;rw[Cw x,Cw y,Rat.divInt_add_divInt _ _ (yf x) (yf y)]
 rw[e];refine nR (Int.mul_ne_zero (yf x) (yf y)) ?_ ?_
 ·exact(hx.1.mul hy.2).add (by rw[Nat.add_comm L M];exact hy.1.mul hx.2)
 exact(hx.2.mul hy.2).mono (by omega)
theorem FQ.neg{L:Nat}{x:Rat}(hx:FQ L x):FQ L (-x):=⟨hx.1.neg,hx.2⟩
theorem FQ.int{L:Nat}{i:Int}(h:Fit L i)(h1:1<=L):FQ L (i:Rat):=⟨h,qu h1⟩
theorem FQ.floor{L:Nat}{x:Rat}(hx:FQ L x):Fit L x.floor:=by
 rw[Rat.floor_def];exact hx.1.le (Int.natAbs_ediv_le_natAbs _ _)
def mh(x y:Rat):Int:=if x<y then-1 else if x=y then 0 else 1
theorem Dd(x:Rat):mh x x=0:=by unfold mh;rw[if_neg Rat.lt_irrefl,if_pos rfl]
theorem Ia{x y:Rat}(h:x<y):mh x y=-1:=if_pos h
theorem Ib{x y:Rat}(h:y<x):mh x y=1:=by
 unfold mh;rw[if_neg (λh'=>by grind),if_neg (λh'=>by grind)]
theorem nS{a b c d:Int}(hb:0<b)(hd:0<d):Rat.divInt a b<Rat.divInt c d↔a*d<c*b:=by
 have hb':(0:Rat)<(b:Rat):=Rat.intCast_pos.2 hb;have hd':(0:Rat)<(d:Rat):=Rat.intCast_pos.2 hd;rw[Rat.divInt_eq_div,Rat.divInt_eq_div,Rat.div_lt_iff hb',Rat.div_def,Rat.mul_assoc,Rat.mul_comm (d:Rat)⁻¹,<-Rat.mul_assoc,<-Rat.div_def,Rat.lt_div_iff hd',<-Rat.intCast_mul,<-Rat.intCast_mul,Rat.intCast_lt_intCast]
theorem FY{a b c d:Int}(hb:0<b)(hd:0<d):mh (Rat.divInt a b) (Rat.divInt c d)=j9 (a*d) (c*b):=by
 unfold mh j9;have e1:=nS (a:=a) (c:=c) hb hd;have e2:=Rat.divInt_eq_divInt_iff (n₁:=a) (d₁:=b) (n₂:=c) (d₂:=d) (by omega) (by omega);by_cases h1:a*d<c*b
 ·rw[if_pos (e1.2 h1),if_pos h1]
 rw[if_neg (λh=>h1 (e1.1 h)),if_neg h1];by_cases h2:a*d=c*b
 ·rw[if_pos (e2.2 h2),if_pos h2]
 rw[if_neg (λh=>h2 (e2.1 h)),if_neg h2]
theorem wV{a d:Int}(hd:0<d):qn (Rat.divInt a d)=⟨zn (a/(Int.gcd a d:Int)),if d/(Int.gcd a d:Int)=1 then⟨false,[]⟩else zn (d/(Int.gcd a d:Int))⟩:=by
 have h1:(Rat.divInt a d).num=a/(Int.gcd a d:Int):=by rw[Rat.num_divInt,Int.sign_eq_one_of_pos hd,Int.one_mul,Int.gcd_comm]
 have h2:((Rat.divInt a d).den:Int)=d/(Int.gcd a d:Int):=by
  rw[Rat.den_divInt,if_neg (by omega),Int.gcd_comm];have:(d.natAbs:Int)=d:=by omega
  rw[Int.natCast_ediv,this]
 unfold qn;rw[h1,h2];by_cases e:(Rat.divInt a d).den=1
 ·rw[if_pos e,if_pos (by omega)]
 rw[if_neg e,if_neg (by omega)]
theorem Ic(k:Int):((bif(nB k).2 then some (decide ((nB k).1=1))else some false):Option Bool)=some (decide (k=1)):=by
 by_cases h:dJ k
 ·rw[fB h];rfl
 rw[jX h];have:¬k=1:=by rintro rfl;exact h (by decide)
 rw[decide_eq_false this];rfl
theorem vh{n d:Zr}(hn:Wl n)(hd:Wl d)(h:0<zi d):((gR n d).bind λg=>(bT n g).bind λa=>(bT d g).bind λb=>(cz b.1).bind λc=>
  (bif c.2 then some (decide (c.1=1))else some false).bind λe=>bif e then some (⟨a.1,⟨false,[]⟩⟩:Qr)else some ⟨a.1,b.1⟩)=some (qn (Rat.divInt (zi n) (zi d))):=by
 have g0:(Int.gcd (zi n) (zi d):Int)≠0:=by
  have:0<Int.gcd (zi n) (zi d):=Int.gcd_pos_of_ne_zero_right _ (by omega);omega
 have wg:Wl (zn (Int.gcd (zi n) (zi d):Int)):=cP ((Wl.fit hd).le (by
  have:=Nat.le_of_dvd (Int.natAbs_pos.2 (show zi d≠0 by omega)) (Int.gcd_dvd_natAbs_right (zi n) (zi d));simpa using this)) hd.2
 have wq:Wl (zn (zi d/(Int.gcd (zi n) (zi d):Int))):=cP ((Wl.fit hd).le (Int.natAbs_ediv_le_natAbs _ _)) hd.2;rw[MA hn hd,bO,divMod_eq hn wg,bO,divMod_eq hd wg,bO,bU,FX,if_neg g0,FX,if_neg g0];simp only[];rw[jW wq,bO,bU,Ic,bO,wV h];by_cases e:zi d/(Int.gcd (zi n) (zi d):Int)=1
 ·rw[decide_eq_true e,gw,if_pos e]
 rw[decide_eq_false e,gW,if_neg e]
theorem reduce_eq{x y:Zr}(hx:Wl x)(hy:Wl y)(h0:zi y≠0):ef x y=some (qn (Rat.divInt (zi x) (zi y))):=by
 unfold ef;simp only[cW,bO,zeta',sign_eq hy];by_cases h:zi y<0
 ·rw[show decide ((zi y).sign<0)=true by rw[Int.sign_eq_neg_one_of_neg h];rfl,gw,neg_eq hx,bO,neg_eq hy,bO];have hp:=vh (cP (Wl.fit hx).neg hx.2) (cP (Wl.fit hy).neg hy.2) (by rw[bU];omega);rw[bU,bU,Rat.neg_divInt_neg]at hp;exact hp
 rw[show decide ((zi y).sign<0)=false by rw[Int.sign_eq_one_of_pos (by omega)];rfl,gW];exact vh hx hy (by omega)
end
section
open Go.Fw
theorem oz(q:Qr):(⟨⟨q.num.neg,q.num.w⟩,⟨q.den.neg,q.den.w⟩⟩:Qr)=q:=by cases q;rfl
theorem oA(q:Qr):(⟨q.num,q.den⟩:Qr)=q:=by cases q;rfl
theorem parts_eq{L:Nat}{q:Qr}{r:Rat}(h:iB L q r)(hL:L<=35184372088788):∃n d:Zr,cr q=some (n,d)/\Wl n/\Wl d/\0<zi d/\Rat.divInt (zi n) (zi d)=r/\Fit L (zi n)/\Fit L (zi d):=by
 have wn:=h.wn hL;have wd:=h.wd hL;have hv:=h.v;unfold cr;simp only[zeta',bO,sign_eq wd,dy (x:=1) (by decide) (by decide),neg_eq wn,neg_eq wd];unfold qv qd at hv;rcases Int.lt_trichotomy (zi q.den) 0 with h1|h1|h1
 ·refine⟨_,_,?_,cP h.fn.neg hL,cP h.fd.neg hL,by rw[bU];omega,?_,by rw[bU];exact h.fn.neg,by rw[bU];exact h.fd.neg⟩
  ·rw[Int.sign_eq_neg_one_of_neg h1];rfl
  rw[bU,bU,Rat.neg_divInt_neg,<-hv,if_neg (by omega)]
 ·refine⟨_,_,?_,wn,cP (qu h.l1) hL,by rw[bU];decide,?_,h.fn,by rw[bU];exact qu h.l1⟩
  ·rw[h1];rfl
  rw[bU,<-hv,if_pos h1]
 refine⟨_,_,?_,wn,wd,h1,?_,h.fn,h.fd⟩
 ·rw[Int.sign_eq_one_of_pos h1];rfl
 rw[<-hv,if_neg (by omega)]
def Sm(a:Int):Prop:=-2147483648<a/\a<2147483648
theorem Sm.ok{a:Int}(h:Sm a):dJ a:=by unfold Sm at h;unfold dJ;omega
theorem nC{L:Nat}{q:Qr}{r:Rat}(h:iB L q r)(hL:L<=35184372088788):∃a b c,dA q=some (a,b,c)/\(c=true->Sm a/\0<b/\Sm b/\Rat.divInt a b=r):=by
 have wn:=h.wn hL;have wd:=h.wd hL;have hv:=h.v;unfold dA;simp only[zeta',bO,cW,jW wn,jW wd];unfold qv qd at hv;generalize zi q.num=n at*;generalize zi q.den=d at*;by_cases hs:Sm n/\Sm d
 ·obtain⟨h1,h2⟩:=hs;rw[fB h1.ok,fB h2.ok];unfold Sm at h1 h2;simp only[];rw[decide_eq_false (show ¬n<=-2147483648 by omega),decide_eq_false (show ¬2147483648<=n by omega),decide_eq_false (show ¬d<=-2147483648 by omega),decide_eq_false (show ¬2147483648<=d by omega)];simp only[Bool.not_true,gW,bO];by_cases h0:d=0
  ·rw[decide_eq_true h0,gw];refine⟨_,_,_,Y,λ_=>⟨h1,by decide,⟨by decide,by decide⟩,?_⟩⟩;rw[<-hv,if_pos h0]
  rw[decide_eq_false h0,gW];rw[if_neg h0]at hv;by_cases hneg:d<0
  ·rw[decide_eq_true hneg,gw,dI (by omega) (by omega),dI (by omega) (by omega)];refine⟨_,_,_,Y,λ_=>⟨⟨by omega,by omega⟩,by omega,⟨by omega,by omega⟩,?_⟩⟩;rw[Int.zero_sub,Int.zero_sub,Rat.neg_divInt_neg,hv]
  rw[decide_eq_false hneg,gW];exact⟨_,_,_,Y,λ_=>⟨h1,by omega,h2,hv⟩⟩
 refine⟨0,0,false,?_,λe=>by cases e⟩;by_cases o1:dJ n
 ·by_cases o2:dJ d
  ·rw[fB o1,fB o2];simp only[Bool.not_true,gW,bO];unfold Sm at hs;by_cases c1:n<=-2147483648
   ·rw[decide_eq_true c1];simp only[bO,gw]
   rw[decide_eq_false c1];simp only[bO,gW];by_cases c2:2147483648<=n
   ·rw[decide_eq_true c2];simp only[bO,gw]
   rw[decide_eq_false c2];simp only[bO,gW];by_cases c3:d<=-2147483648
   ·rw[decide_eq_true c3];simp only[bO,gw]
   rw[decide_eq_false c3];simp only[bO,gW];rw[decide_eq_true (show 2147483648<=d by omega)];simp only[gw]
  rw[fB o1,jX o2];simp only[Bool.not_true,Bool.not_false,gW,bO,gw]
 rw[jX o1];simp only[Bool.not_false,bO,gw]
theorem An{a g:Int}(hg:0<g)(h:g∣a):Int.tdiv a g=a/g:=by
 obtain⟨k,rfl⟩:=h;rw[Int.mul_tdiv_cancel_left _ (by omega),Int.mul_ediv_cancel_left _ (by omega)]
theorem vi{n d:Int}(hd:0<d)(hd':d<=9223372036854775807)(hn: -9223372036854775807<=n)(hn':n<=9223372036854775807):fj n d=some (qn (Rat.divInt n d)):=by
 unfold fj;simp only[bO,cW];refine lf (λs=>Int.gcd s.1 s.2=Int.gcd n d/\s.1.natAbs<=9223372036854775807/\s.2.natAbs<=9223372036854775807) (λe=>e.natAbs=Int.gcd n d/\e.natAbs<=9223372036854775807) (λs=>s.2.natAbs) ?_ ⟨Y,by simp only[];omega,by simp only[];omega⟩ ?_
 ·rintro⟨a,b⟩ ⟨i1,i2,i3⟩;simp only at i1 i2 i3⊢;by_cases hb:b=0
  ·right;subst hb;refine⟨a,by simp,?_,i2⟩;rw[<-i1];simp[Int.gcd]
  left;rw[decide_eq_true hb,gw,CK,if_neg hb,bO];have hm:(Int.tmod a b).natAbs=a.natAbs%b.natAbs:=Int.natAbs_tmod a b;have hlt:=Nat.mod_lt a.natAbs (Int.natAbs_pos.2 hb);refine⟨_,Y,⟨?_,i3,by simp only[];omega⟩,by simp only[];omega⟩;simp only[];rw[<-i1,Int.gcd,Int.gcd,hm,Nat.gcd_comm b.natAbs,<-Nat.gcd_rec,Nat.gcd_comm]
 rintro e ⟨he,hle⟩;obtain⟨g,hg⟩:∃g:Int,(Int.gcd n d:Int)=g:=⟨_,Y⟩;have TY:0<g:=by have:=Int.gcd_pos_of_ne_zero_right n (show d≠0 by omega);omega
 have hgn:g∣n:=hg▸Int.gcd_dvd_left ..;have hgd:g∣d:=hg▸Int.gcd_dvd_right ..;have hK:∀m:Int,m=g->(bif decide (m=d)then(pG n m).bind λfo=>(bp fo).bind λx=>some (⟨⟨x.neg,x.w⟩,⟨false,[]⟩⟩:Qr)else(pG n m).bind λg9=>(bp g9).bind λx=>(pG d m).bind λmq=>(bp mq).bind λy=>some ⟨⟨x.neg,x.w⟩,⟨y.neg,y.w⟩⟩)=some (qn (Rat.divInt n d)):=by
  rintro m rfl;have b1:(n/m).natAbs<=n.natAbs:=Int.natAbs_ediv_le_natAbs _ _;have b2:(d/m).natAbs<=d.natAbs:=Int.natAbs_ediv_le_natAbs _ _;have q1:pG n m=some (n/m):=by
   rw[pG,if_neg (by omega),An TY hgn,dI (by omega) (by omega)]
  have q2:pG d m=some (d/m):=by
   rw[pG,if_neg (by omega),An TY hgd,dI (by omega) (by omega)]
  rw[wV hd,hg,q1,q2];simp only[bO,dy (x:=n/m) (by omega) (by omega),dy (x:=d/m) (by omega) (by omega),zeta'];by_cases e1:m=d
  ·rw[decide_eq_true e1,gw,if_pos (by rw[e1];exact Int.ediv_self (by omega))]
  rw[decide_eq_false e1,gW,if_neg];intro e2;have:=Int.ediv_mul_cancel hgd;rw[e2]at this;omega
 by_cases hneg:e<0
 ·rw[decide_eq_true hneg,gw,dI (by omega) (by omega)];exact hK _ (by omega)
 rw[decide_eq_false hneg,gW];exact hK _ (by omega)
theorem jw{a b:Int}(ha:Sm a)(hb:Sm b): -4611686018427387904<a*b/\a*b<4611686018427387904:=by
 unfold Sm at ha hb;have h1:(a*b).natAbs=a.natAbs*b.natAbs:=Int.natAbs_mul a b;have h2:a.natAbs*b.natAbs<=2147483647*2147483647:=Nat.mul_le_mul (by omega) (by omega);omega
theorem yg{a b:Int}(ha:0<a)(hb:0<b):0<a*b:=Int.mul_pos ha hb
section ops
variable {L M:Nat}{a b:Qr}{x y:Rat}
theorem iB.add(ha:iB L a x)(hb:iB M b y)(h:L+M<=35184372088768):gH a b=some (qn (x+y))/\iB (L+M+1) (qn (x+y)) (x+y):=by
 refine⟨?_,(ha.fq.add hb.fq).rep (by omega)⟩;obtain⟨n1,d1,c1,e1,k1⟩:=nC ha (by omega);obtain⟨n2,d2,c2,e2,k2⟩:=nC hb (by omega);obtain⟨p1,q1,f1,w1,w2,g1,v1,t1,t2⟩:=parts_eq ha (by omega);obtain⟨p2,q2,f2,w3,w4,g2,v2,t3,t4⟩:=parts_eq hb (by omega);have FZ:fU a b=some (qn (x+y)):=by
  unfold fU eJ;have u1:=cP (t1.mul t4) (by omega);have u2:=cP (t3.mul t2) (by omega);have u3:=cP (t2.mul t4) (by omega);have u4:=cP ((t1.mul t4).add ((t3.mul t2).mono (by omega))) (by omega);simp only[zeta',oz,oA,f1,f2,bO,mul_eq w1 w4,mul_eq w3 w2,add_eq u1 u2,mul_eq w2 w4,bU];rw[reduce_eq u4 u3 (by rw[bU];have:=yg g1 g2;omega),bO,bU,bU,<-v1,<-v2,Rat.divInt_add_divInt _ _ (by omega) (by omega)]
 unfold gH;simp only[zeta',oz,oA,e1,e2,bO,cW,FZ];cases c1
 ·rw[gW,bO,gW]
 cases c2
 ·rw[gw,bO,gW]
 obtain⟨s1,s2,s3,s4⟩:=k1 Y;obtain⟨s5,s6,s7,s8⟩:=k2 Y;have m1:=jw s1 s7;have m2:=jw s5 s3;have m3:=jw s3 s7;have m4:=yg s2 s6;rw[gw,bO,gw,dI (x:=n1*d2) (by omega) (by omega),dI (x:=n2*d1) (by omega) (by omega),dI (x:=d1*d2) (by omega) (by omega),dI (by omega) (by omega),vi m4 (by omega) (by omega) (by omega),bO,<-s4,<-s8,Rat.divInt_add_divInt _ _ (by omega) (by omega)]
theorem De(i:Int):cr ⟨zn i,⟨false,[]⟩⟩=some (zn i,zn 1):=by
 unfold cr;simp only[zeta',bO,sign_eq (z:=⟨false,[]⟩) ⟨by simp,by simp⟩,dy (x:=1) (by decide) (by decide)];rfl
theorem Df{i:Int}{L:Nat}(h:Fit L i)(h1:1<=L)(hL:L<=35184372088788):∃a b c,dA ⟨zn i,⟨false,[]⟩⟩=some (a,b,c)/\(c=true->Sm a/\0<b/\Sm b/\Rat.divInt a b=Rat.divInt i 1):=
 nC (L:=L) ⟨λ_ hx=>gj (by decide) hx,by simp,(cI (by decide)).2 h,by simp,h1,by
  unfold qv qd;rw[if_pos (show zi ⟨false,[]⟩=0 from rfl)];show Rat.divInt (zi (zn i)) 1=_;rw[bU]⟩ hL
theorem iB.Sb{i:Int}(ha:iB L a x)(hi:Fit (L+1) i)(h:L+1<=35184372088788)(h1:x-Rat.divInt i 1<=1)(h2: -1<=x-Rat.divInt i 1):gI a ⟨zn i,⟨false,[]⟩⟩=some (qn (x-Rat.divInt i 1))/\iB L (qn (x-Rat.divInt i 1)) (x-Rat.divInt i 1):=by
 have l1:=ha.l1;obtain⟨n1,d1,c1,e1,k1⟩:=nC ha (by omega);obtain⟨n2,d2,c2,e2,k2⟩:=Df hi (by omega) (by omega);obtain⟨p1,q1,f1,w1,w2,g1,v1,t1,t2⟩:=parts_eq ha (by omega);have f2:=De i;have e:x-Rat.divInt i 1=Rat.divInt (zi p1-i*zi q1) (zi q1):=by
  rw[<-v1,Rat.divInt_sub_divInt _ _ (by omega) (by decide),Int.mul_one,Int.mul_one]
 have b1:zi p1-i*zi q1<=zi q1:=by
  rw[e,show(1:Rat)=Rat.divInt 1 1 from rfl]at h1;rcases Int.lt_or_le (zi q1) (zi p1-i*zi q1)with k|k
  ·exact absurd ((nS (a:=1) (b:=1) (by decide) g1).2 (by omega)) (Rat.not_lt.2 h1)
  exact k
 have b2: -zi q1<=zi p1-i*zi q1:=by
  rw[e,show(-1:Rat)=Rat.divInt (-1) 1 from rfl]at h2;rcases Int.lt_or_le (zi p1-i*zi q1) (-zi q1)with k|k
  ·exact absurd ((nS (c:=-1) (d:=1) g1 (by decide)).2 (by omega)) (Rat.not_lt.2 h2)
  exact k
 have t5:Fit L (zi p1-i*zi q1):=t2.le (by omega);have t6:Fit (L+1) (i*zi q1):=by
  have:i*zi q1=zi p1-(zi p1-i*zi q1):=by omega
  rw[this];exact t1.sub t5
 refine⟨?_,by rw[e];exact(nR (by omega) t5 t2).rep l1⟩;have FZ:fV a ⟨zn i,⟨false,[]⟩⟩=some (qn (x-Rat.divInt i 1)):=by
  unfold fV eK;have w3:=cP hi (by omega);have w4:=cP (qu (L:=1) (by decide)) (by omega);have u1:=cP t1 (by omega);have u2:=cP t6 (by omega);have u3:=cP t2 (by omega);have u4:=cP t5 (by omega);simp only[zeta',oz,oA,f1,f2,bO,mul_eq w1 w4,mul_eq w3 w2,mul_eq w2 w4,bU,Int.mul_one,sub_eq u1 u2];rw[reduce_eq u4 u3 (by rw[bU];omega),bO,bU,bU,e]
 unfold gI;simp only[zeta',oz,oA,e1,e2,bO,cW,FZ];cases c1
 ·rw[gW,bO,gW]
 cases c2
 ·rw[gw,bO,gW]
 obtain⟨s1,s2,s3,s4⟩:=k1 Y;obtain⟨s5,s6,s7,s8⟩:=k2 Y;have m1:=jw s1 s7;have m2:=jw s5 s3;have m3:=jw s3 s7;have m4:=yg s2 s6;rw[gw,bO,gw,dI (x:=n1*d2) (by omega) (by omega),dI (x:=n2*d1) (by omega) (by omega),dI (x:=d1*d2) (by omega) (by omega),dI (by omega) (by omega),vi m4 (by omega) (by omega) (by omega),bO,<-s4,<-s8,Rat.divInt_sub_divInt _ _ (by omega) (by omega)]
theorem iB.canon(ha:iB L a x)(h:L<=35184372088788):dw a=some (qn x)/\iB L (qn x) x:=by
 refine⟨?_,ha.fq.rep ha.l1⟩;obtain⟨n1,d1,c1,e1,k1⟩:=nC ha (by omega);obtain⟨p1,q1,f1,w1,w2,g1,v1,t1,t2⟩:=parts_eq ha (by omega);unfold dw;simp only[zeta',oz,oA,e1,bO,f1];cases c1
 ·rw[gW,reduce_eq w1 w2 (by omega),bO,v1]
 obtain⟨s1,s2,s3,s4⟩:=k1 Y;unfold Sm at s1 s3;rw[gw,vi s2 (by omega) (by omega) (by omega),bO,s4]
end ops
end
section
open Go.Fw
def rG(x:Rat):Rat:=if x<0 then-x else x
theorem yh{p q:Int}(hq:0<q):(Rat.divInt p q).floor=p/q:=by
 have key:∀k:Int,k<=(Rat.divInt p q).floor↔k<=p/q:=by
  intro k;rw[Rat.le_floor_iff,<-Rat.not_lt,show(k:Rat)=Rat.divInt k 1 by rw[Rat.divInt_eq_div];show _=(k:Rat)/1;grind,nS hq (by decide),Int.mul_one,Int.not_lt,Int.le_ediv_iff_mul_le hq]
 exact Int.le_antisymm ((key _).1 (Int.le_refl _)) ((key _).2 (Int.le_refl _))
theorem wW{p q u v:Int}(hq:0<q)(hv:0<v)(h:p.sign≠u.sign\/p.sign=0):kx (IntKind.i64.wrap (p.sign-u.sign))=some (j9 (p*v) (u*q)):=by
 have pv:0<p->0<p*v:=λh=>Int.mul_pos h hv;have Zo:p<0->p*v<0:=λh=>Int.mul_neg_of_neg_of_pos h hv;have uq:0<u->0<u*q:=λh=>Int.mul_pos h hq;have Zp:u<0->u*q<0:=λh=>Int.mul_neg_of_neg_of_pos h hq;rcases Int.lt_trichotomy p 0 with e1|e1|e1<;>rcases Int.lt_trichotomy u 0 with e2|e2|e2
 ·rw[Int.sign_eq_neg_one_of_neg e1,Int.sign_eq_neg_one_of_neg e2]at h;simp at h
 ·have:=Zo e1;rw[Int.sign_eq_neg_one_of_neg e1,e2,Int.zero_mul,jr this];rfl
 ·have:=Zo e1;have:=uq e2;rw[Int.sign_eq_neg_one_of_neg e1,Int.sign_eq_one_of_pos e2,jr (by omega)];rfl
 ·have:=Zp e2;rw[Int.sign_eq_neg_one_of_neg e2,e1,Int.zero_mul,jt this];rfl
 ·rw[e1,e2,Int.zero_mul,Int.zero_mul];rfl
 ·have:=uq e2;rw[Int.sign_eq_one_of_pos e2,e1,Int.zero_mul,jr this];rfl
 ·have:=pv e1;have:=Zp e2;rw[Int.sign_eq_one_of_pos e1,Int.sign_eq_neg_one_of_neg e2,jt (by omega)];rfl
 ·have:=pv e1;rw[Int.sign_eq_one_of_pos e1,e2,Int.zero_mul,jt this];rfl
 rw[Int.sign_eq_one_of_pos e1,Int.sign_eq_one_of_pos e2]at h;simp at h
theorem F0{x y:Rat}:mh x y=0↔x=y:=by
 unfold mh;by_cases h:x<y
 ·rw[if_pos h];refine⟨λe=>absurd e (by decide),λe=>?_⟩;rw[e]at h;exact absurd h Rat.lt_irrefl
 rw[if_neg h];by_cases h2:x=y
 ·rw[if_pos h2];simp[h2]
 rw[if_neg h2];simp[h2]
theorem Ao{x y:Rat}:0<mh x y↔y<x:=by
 unfold mh;by_cases h:x<y
 ·rw[if_pos h];have:¬y<x:=by grind
  simp[this]
 rw[if_neg h];by_cases h2:x=y
 ·rw[if_pos h2];simp[h2,Rat.lt_irrefl]
 rw[if_neg h2];have:y<x:=by grind
 simp[this]
theorem BA(i:Int):qn (i:Rat)=⟨zn i,⟨false,[]⟩⟩:=by
 unfold qn;rw[Rat.den_intCast,if_pos Y,Rat.num_intCast]
section ops
variable {L M:Nat}{a b:Qr}{x y:Rat}
theorem iB.neg(ha:iB L a x)(h:L<=35184372088788):gJ a=some (qn (-x))/\iB L (qn (-x)) (-x):=by
 refine⟨?_,ha.fq.neg.rep ha.l1⟩;unfold gJ;have r:=(ha.canon h).2;simp only[zeta',oz,oA,(ha.canon h).1,bO,neg_eq (r.wn h)];show some (⟨zn (-zi (zn x.num)),_⟩:Qr)=some (qn (-x));rw[bU];rfl
theorem iB.abs(ha:iB L a x)(h:L<=35184372088788):jO a=some (qn (rG x))/\iB L (qn (rG x)) (rG x):=by
 have hf:FQ L (rG x):=by
  unfold rG;split
  ·exact ha.fq.neg
  exact ha.fq
 refine⟨?_,hf.rep ha.l1⟩;unfold jO;have r:=(ha.canon h).2;simp only[zeta',oz,oA,(ha.canon h).1,bO,abs_eq (r.wn h)];show some (⟨zn ((zi (zn x.num)).natAbs:Int),_⟩:Qr)=some (qn (rG x));rw[bU];unfold rG;have hx:x<0↔x.num<0:=by
  rw[<-Rat.not_le,<-Rat.num_nonneg,Int.not_le]
 by_cases e:x<0
 ·rw[if_pos e,show((x.num.natAbs:Nat):Int)=-x.num by have:=hx.1 e;omega];rfl
 rw[if_neg e,show((x.num.natAbs:Nat):Int)=x.num by have:¬x.num<0:=λq=>e (hx.2 q);omega];rfl
theorem iB.Sc(ha:iB L a x)(hb:iB M b y)(hL:L<=35184372088788)(hM:M<=35184372088788):fW a b=some (mh x y):=by
 obtain⟨p1,q1,f1,w1,w2,g1,v1,t1,t2⟩:=parts_eq ha (by omega);obtain⟨p2,q2,f2,w3,w4,g2,v2,t3,t4⟩:=parts_eq hb (by omega);unfold fW;have u1:=Km (t1.mul t4) (by omega);have u2:=Km (t3.mul t2) (by omega);simp only[zeta',oz,oA,f1,f2,bO,cW,sign_eq w1,sign_eq w3,mul_eq w1 w4,mul_eq w3 w2,Kn u1 u2,bU];rw[<-v1,<-v2,FY g1 g2];by_cases e1:(zi p1).sign=(zi p2).sign
 ·rw[show decide ((zi p1).sign≠(zi p2).sign)=false by simp[e1],gW,bO];by_cases e2:(zi p1).sign=0
  ·rw[decide_eq_true e2,gw,wW g1 g2 (.inr e2),bO]
  rw[decide_eq_false e2,gW]
 rw[show decide ((zi p1).sign≠(zi p2).sign)=true by simp[e1],gw,bO,gw,wW g1 g2 (.inl e1),bO]
theorem iB.cmp(ha:iB L a x)(hb:iB M b y)(h:L+M<=35184372088768):fW a b=some (mh x y):=ha.Sc hb (by omega) (by omega)
theorem iB.floor(ha:iB L a x)(h:L<=35184372088788):ia a=some (zn x.floor):=by
 obtain⟨p1,q1,f1,w1,w2,g1,v1,t1,t2⟩:=parts_eq ha h;unfold ia;simp only[zeta',oz,oA,f1,bO,divMod_eq w1 w2];rw[FX,if_neg (by omega),<-v1,yh g1]
theorem new_eq{n d:Int}(hn:dJ n)(hd:dJ d)(h0:d≠0):gG n d=some (qn (Rat.divInt n d),0)/\iB 2 (qn (Rat.divInt n d)) (Rat.divInt n d):=by
 refine⟨?_,(nR h0 (rF hn) (rF hd)).rep (by decide)⟩;unfold gG;simp only[zeta',oz,oA,bO,dy hn.1 hn.2,dy hd.1 hd.2];rw[decide_eq_false h0,gW,reduce_eq (Am hn) (Am hd) (by rw[bU];exact h0),bO,bU,bU]
theorem Cx:zi ⟨false,[]⟩=0:=rfl
theorem Cy:Wl ⟨false,[]⟩:=⟨by simp,by simp⟩
theorem vk{z:Zr}(hz:Wl z):b7 z=some (qn (zi z:Rat)):=by
 unfold b7 iM;simp only[zeta',bO,add_eq hz Cy,Cx,Int.add_zero];rw[BA]
end ops
end
section
open Go.Fw
theorem tm{a:Nat}:Int.tmod (a:Int) 65536=((a%65536:Nat):Int):=by
 rw[Int.tmod_eq_emod_of_nonneg (by omega)];omega
end
section
open Go.Fw
abbrev T5(q:Qr):Prop:=Zn q.num/\Zn q.den
theorem MB{q:Qr}{L:Nat}(h:T5 q)(h1:q.num.w.length<=L)(h2:q.den.w.length<=L)(hL:1<=L):iB L q (qv q):=⟨h.1.2.2,h.2.2.2,h1,h2,hL,Y⟩
end
section
open Go.Fw
theorem Sd(x y:Rat):x<y\/x=y\/y<x:=by grind
theorem je{i:Int}{L:Nat}(h:Fit L i)(h1:1<=L)(hL:L<=35184372088788):b7 (zn i)=some (qn (i:Rat))/\iB L (qn (i:Rat)) (i:Rat):=by
 refine⟨?_,(FQ.int h h1).rep h1⟩;rw[vk (cP h hL),bU]
end
section
open Go.Fw
theorem fI{J R:Type}{f:J->Option R}{g:(J->Option R)->Option R}{r:Option R}(h:g f=r):cW f g=r:=h
theorem dT{p:Prop}[Decidable p](h:p):(some (decide p):Option Bool)=some true:=congrArg some (decide_eq_true h)
theorem dF{p:Prop}[Decidable p](h:¬p):(some (decide p):Option Bool)=some false:=congrArg some (decide_eq_false h)
theorem o6{β:Type}{x:Option Bool}{f:Bool->Option β}{r:Option β}{y:Option Bool}(h:x=some true)(hf:f true=r):(bif true then x else y).bind f=r:=by rw[gw,h];exact hf
theorem orC{β:Type}{b c:Bool}{x:Option Bool}{f:Bool->Option β}{r:Option β}(h:b=false->x=some c)(hf:f (b||c)=r):(bif b then some true else x).bind f=r:=by
 cases b
 ·rw[gW,h rfl];exact hf
 rw[gw];exact hf
section ops
variable {K L M:Nat}{a b c:Qr}{x y z:Rat}
theorem iB.add'(ha:iB L a x)(hb:iB M b y)(h:L+M<=35184372088768):∃q,gH a b=some q/\iB (L+M+1) q (x+y):=⟨_,ha.add hb h⟩
theorem iB.neg'(ha:iB L a x)(h:L<=35184372088788):∃q,gJ a=some q/\iB L q (-x):=⟨_,ha.neg h⟩
end ops
theorem Se{q:Qr}(h:T5 q):iB 35184372087808 q (qv q):=MB h (by have:=h.1.2.1;omega) (by have:=h.2.2.1;omega) (by decide)
theorem MC(l:List (List Qr))(hl:l.length<=9223372036854775807):∃b,ij l=some b/\(b=false->∀v∈l,v.length<=40):=by
 unfold ij;refine lW (λs=>∃(i:Nat) (n:Int),s=(n,(i:Int))/\i<=l.length/\∀v∈l.take i,v.length<=40) (λe=>(e=.inl ()/\∀v∈l,v.length<=40)\/e=.inr true) (λs=>l.length-s.2.toNat) ?_ ⟨0,0,Y,by omega,by simp⟩ ?_
 ·rintro _ ⟨i,n,rfl,hi,ht⟩;by_cases hlt:i<l.length
  ·have g:=List.getElem?_eq_getElem hlt;by_cases h1:40<l[i].length
   ·exact .inr ⟨.inr true,aA Y<|aA (dT (by omega))<|fH Y<|aA (bX g)<|aA Y<|aA (dT (by omega))<|fH Y Y,.inr Y⟩
   obtain⟨e,he,-⟩:=qO (body:=λ(s:Int×Int)=>match s with|⟨y3,y5⟩=>(show Option ((Int×Int)⊕Int)from(ek l (i:Int)).bind λkP=>(some (kP.length:Int)).bind λkp=>(some (decide ((y5:Int)<kp))).bind λfo=>(bif fo then(some (IntKind.i64.wrap (y3+1))).bind λnX=>(ek l (i:Int)).bind λnV=>(ek nV y5).bind λ⟨⟨wz,rX⟩,⟨Jj,Jk⟩⟩=>(some (rX.length:Int)).bind λtg=>(some (min (100:Int) tg)).bind λqA=>(some (IntKind.i64.wrap (nX+qA))).bind λnJ=>(ek l (i:Int)).bind λyp=>(ek yp y5).bind λ⟨⟨zP,zQ⟩,⟨Jl,B9⟩⟩=>(some (B9.length:Int)).bind λtj=>(some (min (100:Int) tj)).bind λGa=>(some (IntKind.i64.wrap (nJ+Ga))).bind λvI=>(some (IntKind.i64.wrap (y5+1))).bind λiY=>some (.inl (vI,iY))else some (.inr y3))))
    (s:=(n,0)) (λs=>∃(k:Nat) (m:Int),s=(m,(k:Int))/\k<=l[i].length) (λ_=>True) (λs=>l[i].length-s.2.toNat) (by
     rintro _ ⟨k,m,rfl,hk⟩;by_cases Zq:k<l[i].length
     ·have gk:=List.getElem?_eq_getElem Zq;generalize l[i][k]=q at gk;refine .inl ⟨(_,((k+1:Nat):Int)),aA (bX g)<|aA Y<|aA (dT (by omega))<|fH Y<|aA Y<|aA (bX g)<|aA (bX gk)<|aA Y<|aA Y<|aA Y<|aA (bX g)<|aA (bX gk)<|aA Y<|aA Y<|aA Y<|aA (congrArg some (dU (by omega))) Y,⟨k+1,_,Y,Zq⟩,by simp only[Int.toNat_natCast];omega⟩
     exact .inr ⟨m,aA (bX g)<|aA Y<|aA (dF (by omega))<|cV Y Y,aq⟩) ⟨0,n,Y,by omega⟩
   by_cases h2:400<e
   ·exact .inr ⟨.inr true,aA Y<|aA (dT (by omega))<|fH Y<|aA (bX g)<|aA Y<|aA (dF (by omega))<|cV Y<|aA he<|aA (dT h2)<|fH Y Y,.inr Y⟩
   refine .inl ⟨(e,((i+1:Nat):Int)),aA Y<|aA (dT (by omega))<|fH Y<|aA (bX g)<|aA Y<|aA (dF (by omega))<|cV Y<|aA he<|aA (dF h2)<|cV Y<|aA (congrArg some (dU (by omega))) Y,⟨i+1,e,Y,hlt,?_⟩,by simp only[Int.toNat_natCast];omega⟩;rw[List.take_add_one,g];intro u hu;rcases List.mem_append.1 hu with h|h
   ·exact ht u h
   simp at h;rw[h];omega
  refine .inr ⟨.inl (),aA Y<|aA (dF (by omega))<|cV Y Y,.inl ⟨Y,?_⟩⟩;rw[List.take_of_length_le (by omega)]at ht;exact ht
 rintro e (⟨rfl,he⟩|rfl)
 ·exact⟨false,Y,λ_=>he⟩
 exact⟨true,rfl,λh=>by cases h⟩
end
section
open Go.Fw
def kN(x:Rat):Int:=if x-(x.floor:Rat)<1/2 then x.floor else if 1/2<x-(x.floor:Rat)then x.floor+1 else if x.floor%2=0 then x.floor else x.floor+1
theorem Sf(i:Int):Rat.divInt i 1=(i:Rat):=by rw[Rat.divInt_eq_div];show(i:Rat)/1=_;grind
theorem Yn:Fit 1 1:=by unfold Fit;decide
theorem Sg:Fit 1 2:=by unfold Fit;decide
theorem Ko:Rat.divInt 1 2=1/2:=by rw[Rat.divInt_eq_div];simp
theorem MD{L:Nat}{x:Rat}(h:FQ L x):Fit L 1:=Fit.le h.2 (by have:=Rat.den_pos x;omega)
theorem tH{L:Nat}{x:Rat}(h:FQ L x):Fit (L+1) (kN x):=by
 have h1:=(h.floor).mono (show L<=L+1 by omega);have h2:Fit (L+1) (x.floor+1):=h.floor.add (MD h);unfold kN;split
 ·exact h1
 split
 ·exact h2
 split
 ·exact h1
 exact h2
theorem Ap(i:Int):Fit 1 (i%2):=by
 have h1:=Int.emod_nonneg i (show(2:Int)≠0 by decide);have h2:=Int.emod_lt_of_pos i (show(0:Int)<2 by decide);unfold Fit;omega
theorem Dg(i:Int):decide ((i%2).sign=0)=decide (i%2=0):=by
 congr 1;exact propext Int.sign_eq_zero_iff_zero
theorem iB.round{L:Nat}{a:Qr}{x:Rat}(ha:iB L a x)(h:L<=35184372088508):cC a=some (zn (kN x)):=by
 have hf:=ha.fq;have f1:=ha.floor (show L<=35184372088788 by omega);obtain⟨n1,r1⟩:=new_eq (n:=1) (d:=2) (by decide) (by decide) (by decide);have w1:=dy (x:=1) (by decide) (by decide);have a1:=add_eq (cP hf.floor (by omega)) (cP Yn (by decide));rw[bU,bU]at a1;obtain⟨i1,s1⟩:=je hf.floor ha.l1 (by omega);have fi:=Sf x.floor;have fl1:=Rat.floor_le x;have fl2:=Rat.lt_floor_add_one x;rw[Rat.intCast_add,show((1:Int):Rat)=1 from rfl]at fl2;obtain⟨e,r⟩:=ha.Sb (hf.floor.mono (by omega)) (by omega) (by rw[fi];grind) (by rw[fi];grind);rw[fi]at e r;rw[<-BA]at e;generalize qn (x-(x.floor:Rat))=q at e r;rw[Ko]at n1 r1;have c1:=r.cmp r1 (by omega);have w2:=dy (x:=2) (by decide) (by decide);have d1:=divMod_eq (cP hf.floor (show L<=35184372088788 by omega)) (cP Sg (by decide));rw[bU,bU]at d1;replace d1:bT (zn x.floor) (zn 2)=some (zn (x.floor/2),zn (x.floor%2),0):=d1;have g1:=sign_eq (cP (Ap x.floor) (by decide));rw[bU]at g1;have hr:zn (kN x)=if x-(x.floor:Rat)<1/2 then zn x.floor else if 1/2<x-(x.floor:Rat)then zn (x.floor+1)else if x.floor%2=0 then zn x.floor else zn (x.floor+1):=by
  unfold kN
  repeat' split
  all_goals rfl
 rw[hr];clear hr s1 r r1;generalize qn (1/2)=q1 at n1 c1;generalize qn (x.floor:Rat)=q2 at i1 e;generalize ZF:zn x.floor=z0 at*;generalize zn (x.floor+1)=z1 at*;generalize zn (x.floor/2)=z2 at*;generalize zn (x.floor%2)=z3 at*;generalize zn 1=z4 at*;generalize zn 2=z5 at*;unfold cC;refine aA n1<|aA f1<|aA w1<|aA a1<|aA i1<|aA e<|aA c1 ?_;rcases Sd (x-(x.floor:Rat)) (1/2)with k|k|k
 ·rw[Ia k,if_pos k];exact aA (dT Y)<|fH Y Y
 ·rw[k,Dd,if_neg Rat.lt_irrefl,if_neg Rat.lt_irrefl];refine aA (dF (by decide))<|cV Y<|aA (dF (by decide))<|cV Y<|aA w2<|aA d1<|aA g1<|aA (congrArg some (Dg _)) ?_;by_cases h2:x.floor%2=0
  ·rw[if_pos h2];exact fH (decide_eq_true h2) Y
  rw[if_neg h2];exact cV (decide_eq_false h2) Y
 rw[Ib k,if_neg (by grind),if_pos k];exact aA (dF (by decide))<|cV Y<|aA (dT Y)<|fH Y Y
def Dh(n:Int)(len:Nat)(acc:Int)(kd:Nat)(hour:Int):Int:=if ¬(0<acc/\acc<n)then 1 else if kd<1\/4<kd then 12 else if hour< -1\/8<=hour then 1 else if 1024<=len then 5 else 0
theorem qw{n:Int}{es:List En}(h:n≠0):ct n es=some false:=by
 unfold ct;exact fI<|aA (a:=false) (cV Y<|aA (dF h) Y) Y
theorem tJ(n:Int)(es:List En)(a:Int):eP n es a=some (decide (0<a/\a<n)):=by
 unfold eP;refine fI<|aA Y ?_;by_cases h:0<a
 ·exact aA (a:=decide (0<a/\a<n)) (fH (decide_eq_true h)<|aA Y (by simp[h])) Y
 exact aA (a:=decide (0<a/\a<n)) (cV (decide_eq_false h) (by simp[h])) Y
theorem check_eq(n:Int)(es:List En)(acc:Int)(kd:Nat)(hour:Int)(c:Zr)(len:Nat):∃e,ig ⟨acc,kd,hour,c⟩ n es=some e/\(e≠0->Dh n len acc kd hour=e)/\(e=0->Dh n len acc kd hour=if 1024<=len then 5 else 0):=by
 unfold ig Dh;by_cases h1:0<acc/\acc<n
 ·by_cases h2:kd<1\/4<kd
  ·refine⟨12,aA (tJ _ _ _)<|aA Y<|cV (by simp[h1])<|fI<|aA Y<|aA (a:=true) ?_<|fH Y Y,λ_=>by rw[if_neg (by simpa using h1),if_pos h2],by simp⟩;by_cases h3:kd<1
   ·exact fH (decide_eq_true h3) Y
   exact cV (decide_eq_false h3)<|aA (dT (by omega)) Y
  by_cases h3:hour< -1\/8<=hour
  ·refine⟨1,aA (tJ _ _ _)<|aA Y<|cV (by simp[h1])<|fI<|aA Y<|aA (a:=false) (cV (decide_eq_false (by omega))<|aA (dF (by omega)) Y)<|cV Y<|fI<|aA Y<|aA (a:=true) ?_<|fH Y Y,λ_=>by rw[if_neg (by simpa using h1),if_neg h2,if_pos h3],by simp⟩;by_cases h4:hour< -1
   ·exact fH (decide_eq_true h4) Y
   exact cV (decide_eq_false h4)<|aA (dT (by omega)) Y
  exact⟨0,aA (tJ _ _ _)<|aA Y<|cV (by simp[h1])<|fI<|aA Y<|aA (a:=false) (cV (decide_eq_false (by omega))<|aA (dF (by omega)) Y)<|cV Y<|fI<|aA Y<|aA (a:=false) (cV (decide_eq_false (by omega))<|aA (dF (by omega)) Y)<|cV Y Y,by simp,λ_=>by rw[if_neg (by simpa using h1),if_neg h2,if_neg h3]⟩
 exact⟨1,aA (tJ _ _ _)<|aA Y<|fH (by simp[h1]) Y,λ_=>by simp[h1],by simp⟩
def Sh(n:Int)(es:List En)(m:Mv)(c:Zr):List En:=if Dh n es.length m.acc m.kd m.hour=0 then es++[⟨m.acc,m.kd,m.hour,c⟩]else es
theorem move_eq{n:Int}{es:List En}{acc:Int}{kd:Nat}{hour:Int}{a:Qr}{L:Nat}{x:Rat}(hn:n≠0)(ha:iB L a x)(hL:L<=35184372088508)(hl:es.length<=1000000):
  bQ n es acc kd hour a=some (Dh n es.length acc kd hour,Sh n es ⟨acc,kd,hour,a⟩ (zn (kN x))):=by
 obtain⟨e,he,h1,h2⟩:=check_eq n es acc kd hour ⟨false,[]⟩ es.length;have hr:=ha.round hL;unfold Sh bQ;show(ct n es).bind _=some (Dh n es.length acc kd hour,if Dh n es.length acc kd hour=0 then es++[⟨acc,kd,hour,zn (kN x)⟩]else es);generalize zn (kN x)=z at hr⊢;refine aA (qw hn)<|cV Y<|aA he<|?_;by_cases h0:e=0
 ·subst h0;rw[h2 rfl];refine aA (dF (by simp))<|cV Y<|aA Y ?_;by_cases h3:1024<=es.length
  ·rw[if_pos h3,if_neg (by decide)];exact aA (dT (by omega))<|fH Y Y
  rw[if_neg h3,if_pos rfl];exact aA (dF (by omega))<|cV Y<|aA hr<|aA (C8 (by decide) (by omega)) Y
 rw[h1 h0,if_neg h0];exact aA (dT h0)<|fH Y Y
structure Aq (n:Int) (K:Nat) (e:En):Prop where
 a:1<=e.acc
 b:e.acc<n
 k:1<=e.kd/\e.kd<=4
 z:e.jB=zn (zi e.jB)
 f:Fit K (zi e.jB)
def gb(f:En->Int)(es:List En):Int:=(es.map f).sum
theorem Ar(f:En->Int)(l k:List En):gb f (l++k)=gb f l+gb f k:=by simp[gb]
theorem wX(f:En->Int){es:List En}{k:Nat}(h:k<es.length):gb f (es.take (k+1))=gb f (es.take k)+f es[k]:=by
 rw[List.take_add_one,List.getElem?_eq_getElem h,Ar];simp[gb]
theorem Cz{K:Nat}:∀{l:List Int},(∀c∈l,Fit K c)->l.sum.natAbs<=l.length*(4294967296^K-1)
 |[],_=>by simp
 |c::l,h=>by
  have h1:=h c (by simp);have h2:=Cz (l:=l) (λc hc=>h c (by simp[hc]));rw[List.sum_cons,List.length_cons,Nat.succ_mul];have:=Int.natAbs_add_le c l.sum;unfold Fit at h1;omega
theorem Ie{K:Nat}{l:List Int}(h:∀c∈l,Fit K c)(hl:l.length<=4294967296):Fit (K+1) l.sum:=by
 have h1:=Cz h;have h2:=Nat.mul_le_mul_right (4294967296^K-1) hl;have h3:=Nat.pow_pos (n:=K) (show 0<4294967296 by decide);unfold Fit;rw[Nat.pow_succ,Nat.mul_comm (4294967296^K)];generalize 4294967296^K=m at*;omega
theorem Si{K:Nat}:Fit K 0:=by unfold Fit;exact Nat.pow_pos (by decide)
theorem F1{K:Nat}{f:En->Int}{es:List En}(h:∀e∈es,Fit K (f e))(hl:es.length<=1000000):Fit (K+1) (gb f es):=
 Ie (λc hc=>by obtain⟨e,he,rfl⟩:=List.mem_map.1 hc;exact h e he) (by simp;omega)
theorem vm{K:Nat}{f:En->Int}{es:List En}(h:∀e∈es,Fit K (f e))(k:Nat)(hl:es.length<=1000000):Fit (K+1) (gb f (es.take k)):=
 F1 (λe he=>h e (List.mem_of_mem_take he)) (by rw[List.length_take];omega)
def ju(i:Int)(e:En):Int:=if i=0 then-zi e.jB else if e.acc=i then zi e.jB else 0
theorem As{n:Int}{K:Nat}{e:En}(h:Aq n K e)(i:Int):Fit K (ju i e):=by
 unfold ju;split
 ·exact h.f.neg
 split
 ·exact h.f
 exact Si
def sV(n:Nat)(es:List En):List Zr:=(List.range n).map λ(i:Nat)=>zn (gb (ju (i:Int)) es)
theorem lz(n:Nat)(es:List En):(sV n es).length=n:=by simp[sV]
theorem iX{n i:Nat}(es:List En)(h:i<n):(sV n es)[i]? =some (zn (gb (ju (i:Int)) es)):=by simp[sV,h]
theorem F2{n:Nat}{es:List En}{k a:Nat}(hk:k<es.length)(hn:0<n)(ha:es[k].acc=(a:Int))(h1:1<=a)(h2:a<n):
  ((sV n (es.take k)).set a (zn (gb (ju a) (es.take k)+zi es[k].jB))).set 0 (zn (gb (ju 0) (es.take k)-zi es[k].jB))=sV n (es.take (k+1)):=by
 apply List.ext_getElem?;intro i;by_cases hi:i<n
 ·rw[iX _ hi,List.getElem?_set,List.getElem?_set,List.length_set,lz,iX _ hi,wX _ hk];by_cases e0:0=i
  ·subst e0;rw[if_pos Y,if_pos hn];rw[show ju ((0:Nat):Int) es[k]=-zi es[k].jB from if_pos rfl];rfl
  rw[if_neg e0];by_cases ea:a=i
  ·subst ea;rw[if_pos Y,if_pos hi];unfold ju;rw[if_neg (show ¬((a:Int)=0) by omega),if_pos ha]
  rw[if_neg ea];have:ju i es[k]=0:=by unfold ju;rw[if_neg (by omega),ha,if_neg (by omega)]
  rw[this,Int.add_zero]
 rw[List.getElem?_eq_none (by simp[lz];omega),List.getElem?_eq_none (by simp[lz];omega)]
theorem all_eq{n:Nat}{es:List En}{K:Nat}(hn:0<n)(hn2:n<=64)(he:∀e∈es,Aq n K e)(hl:es.length<=1000000)(hK:K<=35184372088508):fz n es=some (sV n es):=by
 unfold fz;refine aA (qw (by omega))<|cV Y<|aA (u0 (by decide) (by omega))<|aA Y ?_;refine cZ (λk=>((k:Int),sV n (es.take k))) es.length (sV n es) ?_ (λk hk=>?_) ?_ Y
 ·simp only[List.take_zero];congr 1;apply List.ext_getElem?;intro i;by_cases hi:i<n
  ·rw[iX _ hi,List.getElem?_replicate,if_pos hi];rfl
  rw[List.getElem?_eq_none (by simp;omega),List.getElem?_eq_none (by simp[lz];omega)]
 ·have g:=List.getElem?_eq_getElem hk;have ho:=he _ (List.getElem_mem hk);obtain⟨a,ha⟩:∃a:Nat,es[k].acc=(a:Int):=⟨es[k].acc.toNat,by have:=ho.a;omega⟩;have h1:1<=a:=by have:=ho.a;omega
  have h2:a<n:=by have:=ho.b;omega
  have s:=F2 hk hn ha h1 h2;have f1:Fit (K+1) (gb (ju a) (es.take k)):=vm (λe h=>As (he e h) _) k hl;have f2:Fit (K+1) (gb (ju 0) (es.take k)):=vm (λe h=>As (he e h) _) k hl;have a1:=add_eq (cP f1 (by omega)) (cP ho.f (by omega));have a2:=sub_eq (cP f2 (by omega)) (cP ho.f (by omega));rw[bU,bU,<-ho.z]at a1 a2;have g1:=iX (es.take k) h2;have g2:((sV n (es.take k)).set a (zn (gb (ju a) (es.take k)+zi es[k].jB)))[0]? =some (zn (gb (ju 0) (es.take k))):=by
   rw[List.getElem?_set,if_neg (by omega)];exact iX (es.take k) hn
  rw[<-s];generalize hq:sV n (es.take k)=q at*;have R4:q.length=n:=by rw[<-hq];exact lz _ _
  generalize zn (gb (ju a) (es.take k)+zi es[k].jB)=z1 at*;generalize zn (gb (ju 0) (es.take k)-zi es[k].jB)=z2 at*;generalize zn (gb (ju a) (es.take k))=z3 at*;generalize zn (gb (ju 0) (es.take k))=z4 at*;clear s ho f1 f2;generalize es[k]=e at*;obtain⟨acc,kd,hour,c⟩:=e;replace ha:acc=(a:Int):=ha;subst ha;refine aA (dT (by omega))<|fH Y<|aA (ez hk)<|aA g<|aA (ez (by omega))<|aA g1<|aA a1<|aA (ez (by omega))<|aA (jc (by omega))<|aA (ez (i:=0) (by simp;omega))<|aA g2<|aA a2<|aA (ez (i:=0) (by simp;omega))<|aA (jc (by simp;omega))<|aA (congrArg some (dU (by omega))) Y
 rw[List.take_length];exact aA (dF (by omega))<|cV Y Y
theorem entries_eq{n:Nat}{es:List En}{K:Nat}(hn:0<n)(he:∀e∈es,Aq n K e)(hl:es.length<=1000000)(hK:K<=35184372088508):dS n es=some es:=by
 unfold dS;refine aA (qw (by omega))<|cV Y<|aA Y<|aA (u0 (by decide) (by omega))<|aA Y ?_;refine cZ (λk=>((k:Int),es.take k++List.replicate (es.length-k) (⟨0,0,0,⟨false,[]⟩⟩:En))) es.length es (by simp) (λk hk=>?_) ?_ Y
 ·have g:=List.getElem?_eq_getElem hk;have ho:=he _ (List.getElem_mem hk);have a1:=add_eq (cP ho.f (show K<=35184372088788 by omega)) (show Wl ⟨false,[]⟩from Cy);rw[bU,Cx,Int.add_zero,<-ho.z]at a1;have s:(es.take k++List.replicate (es.length-k) (⟨0,0,0,⟨false,[]⟩⟩:En)).set k es[k]=es.take (k+1)++List.replicate (es.length-(k+1)) ⟨0,0,0,⟨false,[]⟩⟩:=by
   rw[List.set_append_right _ _ (by simp;omega),show k-(es.take k).length=0 by simp;omega,show es.length-k=(es.length-(k+1))+1 by omega,List.replicate_succ,List.set_cons_zero,List.take_add_one,g];simp only[Option.toList_some,List.append_assoc,List.singleton_append]
  rw[<-s];have R4:(es.take k++List.replicate (es.length-k) (⟨0,0,0,⟨false,[]⟩⟩:En)).length=es.length:=by simp;omega
  generalize (es.take k++List.replicate (es.length-k) (⟨0,0,0,⟨false,[]⟩⟩:En))=q at*;clear s ho;generalize es[k]=e at*;obtain⟨acc,kd,hour,c⟩:=e;refine aA (dT (by omega))<|fH Y<|aA (ez hk)<|aA g<|aA a1<|aA (ez (by omega))<|aA (jc (by omega))<|aA (congrArg some (dU (by omega))) Y
 simp only[List.take_length,Nat.sub_self,List.replicate_zero,List.append_nil];exact aA (dF (by omega))<|cV Y Y
def Dr(k:Nat)(e:En):Int:=if e.kd=k then zi e.jB else 0
theorem Ig{n:Int}{K:Nat}{e:En}(h:Aq n K e)(k:Nat):Fit K (Dr k e):=by
 unfold Dr;split
 ·exact h.f
 exact Si
theorem Sj{n:Nat}{es:List En}{K:Nat}(hn:0<n)(he:∀e∈es,Aq n K e)(hl:es.length<=1000000)(hK:K<=35184372088508)(kind:Nat):fX n es kind=some (zn (gb (Dr kind) es)):=by
 unfold fX;refine aA (qw (by omega))<|cV Y<|aA Y ?_;refine cZ (λk=>((k:Int),(zn (gb (Dr kind) (es.take k))).neg,(zn (gb (Dr kind) (es.take k))).w)) es.length ((zn (gb (Dr kind) es)).neg,(zn (gb (Dr kind) es)).w) Y (λk hk=>?_) ?_ Y
 ·have g:=List.getElem?_eq_getElem hk;have ho:=he _ (List.getElem_mem hk);have f1:Fit (K+1) (gb (Dr kind) (es.take k)):=vm (λe h=>Ig (he e h) _) k hl;have a1:=add_eq (cP f1 (by omega)) (cP ho.f (by omega));rw[bU,bU,<-ho.z]at a1;rw[wX _ hk];have Zs:Dr kind es[k]=if es[k].kd=kind then zi es[k].jB else 0:=rfl;generalize gb (Dr kind) (es.take k)=s at*;rw[Zs];clear f1 ho Zs;generalize es[k]=e at*;obtain⟨acc,kd,hour,c⟩:=e;refine aA (dT (by omega))<|fH Y<|aA (ez hk)<|aA g<|aA Y<|fI ?_;by_cases h:kd=kind
  ·rw[if_pos h];refine fH (decide_eq_true h) ?_;generalize zn (s+zi c)=z1 at*;generalize zn s=z0 at*;exact aA a1<|aA (congrArg some (dU (by omega))) Y
  rw[if_neg h,Int.add_zero];exact cV (decide_eq_false h)<|aA (congrArg some (dU (by omega))) Y
 rw[List.take_length];exact aA (dF (by omega))<|cV Y Y
theorem ME{n:Int}(h1:1<=n)(h2:n<=64):jS n=some (n,[]):=by
 unfold jS;exact fI<|aA (dF (by omega))<|aA (a:=false) (cV Y<|aA (dF (by omega)) Y) Y
end
section
open Go.Fw
def kC(x:Rat)(r:Int):Prop:=(2*(x-(r:Rat))<1/\-1<2*(x-(r:Rat)))\/((2*(x-(r:Rat))=1\/2*(x-(r:Rat))=-1)/\r%2=0)
theorem At(l:Int):((l+1:Int):Rat)=(l:Rat)+1:=by rw[Rat.intCast_add];rfl
theorem qx(x:Rat):kC x (kN x):=by
 have h1:=Rat.floor_le x;have h2:=Rat.lt_floor_add_one x;rw[At]at h2;have hh:(1:Rat)/2+1/2=1:=by grind
 unfold kN;generalize x.floor=l at*;split
 ·exact .inl (by constructor<;>grind)
 split
 ·exact .inl (by rw[At];constructor<;>grind)
 have e:2*(x-(l:Rat))=1:=by grind
 split
 ·rename_i h;exact .inr ⟨.inl e,h⟩
 refine .inr ⟨.inr ?_,by omega⟩;rw[At];grind
theorem yj{x y:Rat}{r s:Int}(h:kC x r)(k:kC y s)(e:x<=y):r<=s:=by
 by_cases L1:r<=s
 ·exact L1
 exfalso;have h2:((s+1:Int):Rat)<=(r:Rat):=Rat.intCast_le_intCast.2 (by omega);rw[At]at h2;have a1: -1<=2*(x-(r:Rat)):=by rcases h with h|⟨h|h,_⟩<;>grind
 have a2:2*(y-(s:Rat))<=1:=by rcases k with h|⟨h|h,_⟩<;>grind
 have e1:(r:Rat)=((s+1:Int):Rat):=by rw[At];grind
 have e2:r=s+1:=Rat.intCast_inj.1 e1;have b1:r%2=0:=by
  rcases h with⟨h,h'⟩|⟨_,h⟩
  ·exfalso;grind
  exact h
 have b2:s%2=0:=by
  rcases k with⟨h,h'⟩|⟨_,h⟩
  ·exfalso;grind
  exact h
 omega
theorem jY{x:Rat}{r:Int}(h:kC x r):kN x=r:=Int.le_antisymm (yj (qx x) h Rat.le_refl) (yj h (qx x) Rat.le_refl)
theorem Ih{i n:Int}{K:Nat}(hf:Fit K i)(hK:K<=35184372088788)(hn:dJ n)(e:i=n):dx (zn i) n=some true:=by
 subst e;have h1:=dy hn.1 hn.2;have h2:=wU (x:=zn i) (Nat.le_trans (cP hf hK).2 (by decide));unfold dx;generalize zn i=z at*;exact aA h1<|aA h2 Y
theorem gL{n:Int}(hn:dJ n):dx (zn n) n=some true:=Ih (K:=2) (Fit.i64 hn.1 hn.2) (by decide) hn Y
theorem iJ{n d:Int}(hn:dJ n)(hd:dJ d)(h0:d≠0):∃q,b8 n d=some q/\iB 2 q (Rat.divInt n d):=by
 obtain⟨h,r⟩:=new_eq hn hd h0;refine⟨_,?_,r⟩;unfold b8;generalize qn (Rat.divInt n d)=q at*;exact aA h Y
theorem qy{n:Int}{es:List En}{acc:Int}{kd:Nat}{hour:Int}{a:Qr}{L:Nat}{x:Rat}(e:Int)(hn:n≠0)(ha:iB L a x)(hL:L<=35184372088508)(hl:es.length<=1000000)(he:Dh n es.length acc kd hour=e)(h0:e≠0):bQ n es acc kd hour a=some (e,es):=by
 rw[move_eq hn ha hL hl];unfold Sh;show some (Dh n es.length acc kd hour,if Dh n es.length acc kd hour=0 then es++[⟨acc,kd,hour,zn (kN x)⟩]else es)=_;rw[he,if_neg h0]
theorem wY{n:Int}{es:List En}{acc:Int}{kd:Nat}{hour:Int}{a:Qr}{L:Nat}{x:Rat}(hn:n≠0)(ha:iB L a x)(hL:L<=35184372088508)(hl:es.length<=1000000)(he:Dh n es.length acc kd hour=0)(r:Int)(hr:kN x=r):bQ n es acc kd hour a=some (0,es++[⟨acc,kd,hour,zn r⟩]):=by
 rw[move_eq hn ha hL hl];unfold Sh;show some (Dh n es.length acc kd hour,if Dh n es.length acc kd hour=0 then es++[⟨acc,kd,hour,zn (kN x)⟩]else es)=_;rw[he,if_pos Y,hr]
theorem Zt:kN (Rat.divInt 5 2)=2:=jY (.inr ⟨.inl (by rw[Rat.divInt_eq_div];show 2*((5:Rat)/2-2)=1;grind),Y⟩)
theorem r72:kN (Rat.divInt 7 2)=4:=jY (.inr ⟨.inr (by rw[Rat.divInt_eq_div];show 2*((7:Rat)/2-4)=-1;grind),Y⟩)
theorem Yo:kN (Rat.divInt (-5) 2)=-2:=jY (.inr ⟨.inr (by rw[Rat.divInt_eq_div];show 2*((-5:Rat)/2-(-2))=-1;grind),Y⟩)
theorem r83:kN (Rat.divInt 8 3)=3:=jY (.inl (by rw[Rat.divInt_eq_div];show 2*((8:Rat)/3-3)<1/\-1<2*((8:Rat)/3-3);constructor<;>grind))
theorem Yp:kN (Rat.divInt (-7) 1)=-7:=jY (.inl (by rw[Rat.divInt_eq_div];show 2*((-7:Rat)/1-(-7))<1/\-1<2*((-7:Rat)/1-(-7));constructor<;>grind))
theorem vn:fE=some true:=by
 obtain⟨q1,e1,s1⟩:=iJ (n:=5) (d:=2) (by decide) (by decide) (by decide);obtain⟨q2,e2,s2⟩:=iJ (n:=-7) (d:=1) (by decide) (by decide) (by decide);obtain⟨q3,e3,s3⟩:=iJ (n:=1) (d:=1) (by decide) (by decide) (by decide);obtain⟨q4,e4,s4⟩:=iJ (n:=7) (d:=2) (by decide) (by decide) (by decide);obtain⟨q5,e5,s5⟩:=iJ (n:=-5) (d:=2) (by decide) (by decide) (by decide);obtain⟨q6,e6,s6⟩:=iJ (n:=8) (d:=3) (by decide) (by decide) (by decide);have m1:=wY (n:=3) (es:=[]) (acc:=1) (kd:=1) (hour:=0) (by decide) s1 (by decide) (by simp) (by decide) 2 Zt;have m2:=wY (n:=3) (es:=[]++[⟨1,1,0,zn 2⟩]) (acc:=2) (kd:=1) (hour:=0) (by decide) s2 (by decide) (by simp) (by decide) (-7) Yp;obtain⟨es,Sk⟩:∃es,([]++[⟨1,1,0,zn 2⟩]++[⟨2,1,0,zn (-7)⟩]:List En)=es:=⟨_,Y⟩;have hlen:es.length=2:=by rw[<-Sk];rfl
 have T6:Aq (3:Nat) 1 ⟨1,1,0,zn 2⟩:=⟨by decide,by decide,by decide,by rw[bU],by rw[bU];unfold Fit;decide⟩;have T7:Aq (3:Nat) 1 ⟨2,1,0,zn (-7)⟩:=⟨by decide,by decide,by decide,by rw[bU],by rw[bU];unfold Fit;decide⟩;have hok:∀e∈es,Aq (3:Nat) 1 e:=by
  rw[<-Sk];intro e he;simp only[List.nil_append,List.cons_append,List.mem_cons,List.not_mem_nil,or_false]at he;rcases he with rfl|rfl
  ·exact T6
  exact T7
 have Sl:∀f:En->Int,gb f es=f ⟨1,1,0,zn 2⟩+f ⟨2,1,0,zn (-7)⟩:=λf=>by rw[<-Sk];simp[gb]
 have a1:=all_eq (n:=3) (by decide) (by decide) hok (by omega) (by decide);have g0:=iX (n:=3) (i:=0) es (by decide);have g1:=iX (n:=3) (i:=1) es (by decide);have g2:=iX (n:=3) (i:=2) es (by decide);have gl:=lz 3 es;have b0:gb (ju ((0:Nat):Int)) es=5:=by rw[Sl];unfold ju;simp only[bU];decide
 have b1:gb (ju ((1:Nat):Int)) es=2:=by rw[Sl];unfold ju;simp only[bU];decide
 have b2:gb (ju ((2:Nat):Int)) es=-7:=by rw[Sl];unfold ju;simp only[bU];decide
 have b3:gb (Dr 1) es=-5:=by rw[Sl];unfold Dr;simp only[bU];decide
 rw[b0]at g0;rw[b1]at g1;rw[b2]at g2;have y1:=Sj (n:=3) (by decide) hok (by omega) (by decide) 1;rw[b3]at y1;have n1:=entries_eq (n:=3) (by decide) hok (by omega) (by decide);rw[Sk]at m2;have m3:=qy (n:=3) (es:=es) (acc:=3) (kd:=1) (hour:=0) 1 (by decide) s3 (by decide) (by omega) (by rw[hlen];decide) (by decide);have m4:=qy (n:=3) (es:=es) (acc:=0) (kd:=1) (hour:=0) 1 (by decide) s3 (by decide) (by omega) (by rw[hlen];decide) (by decide);have m5:=qy (n:=3) (es:=es) (acc:=1) (kd:=5) (hour:=0) 12 (by decide) s3 (by decide) (by omega) (by rw[hlen];decide) (by decide);have m6:=qy (n:=3) (es:=es) (acc:=1) (kd:=4) (hour:=8) 1 (by decide) s3 (by decide) (by omega) (by rw[hlen];decide) (by decide);have o1:=s1.round (by decide);have o2:=s4.round (by decide);have o3:=s5.round (by decide);have o4:=s6.round (by decide);rw[Zt]at o1;rw[r72]at o2;rw[Yo]at o3;rw[r83]at o4;have i1:=gL (n:=2) (by decide);have i2:=gL (n:=4) (by decide);have i3:=gL (n:=-2) (by decide);have i4:=gL (n:=3) (by decide);have i5:=gL (n:=5) (by decide);have i6:=gL (n:=-7) (by decide);have i7:=gL (n:=-5) (by decide);generalize sV 3 es=al at*;clear hok Sl T6 T7 Sk b0 b1 b2 b3;generalize ([]++[⟨1,1,0,zn 2⟩]:List En)=es1 at*
 generalize zn 2=z2 at*;generalize zn 4=z4 at*;generalize zn (-2)=z2' at*;generalize zn 3=z3 at*;generalize zn 5=z5 at*;generalize zn (-7)=z7 at*;generalize zn (-5)=z5' at*;unfold fE;refine aA (ME (by decide) (by decide))<|aA e1<|aA m1<|aA e2<|aA m2<|aA e3<|aA m3<|aA e3<|aA m4<|aA e3<|aA m5<|aA e3<|aA m6<|aA a1<|fI ?_;refine aA e1<|aA o1<|aA i1<|o6 (aA e4<|aA o2<|aA i2 Y)<|o6 (aA e5<|aA o3<|aA i3 Y)<|o6 (aA e6<|aA o4<|aA i4 Y) ?_;refine o6 (aA (dT Y) Y)<|o6 (aA (dT Y) Y)<|o6 (aA (dT Y) Y)<|o6 (aA (dT Y) Y)<|o6 (aA (dT Y) Y)<|o6 (aA (dT Y) Y) ?_;refine o6 (aA Y<|aA (dT (by omega)) Y)<|o6 (aA (nP g0)<|aA i5 Y)<|o6 (aA (zU g1)<|aA i1 Y)<|o6 (aA (bX (i:=2) g2)<|aA i6 Y) ?_;exact o6 (aA y1<|aA i7 Y)<|o6 (aA n1<|aA Y<|aA (dT (by omega)) Y) Y
end
end Go.Proofs.Ytmiflmkdaeianaa
