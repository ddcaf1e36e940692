/- A part of the proof: the framework, the plain functions, the followed functions, the plain laws. -/
import Derived.Test.YtmiflmkdaeianaaPSZ2
set_option linter.unusedVariables false
set_option linter.unusedSimpArgs false
set_option linter.unusedSectionVars false
namespace Go.Fw
section
open Go.RowKit
def gJ:List (Nat×Row×Value)->(Nat->Value)->Nat->Value
 |[],ν,j=>ν j
 |(k,_,v)::l,ν,j=>if j=k then v else gJ l ν j
theorem iX{ν:Nat->Value}:∀{l:List (Nat×Row×Value)} {j:Nat},(∀R v,(j,R,v)∉l)->gJ l ν j=ν j
 |[],_,_=>rfl
 |(k,R,v)::l,j,h=>by
  have:j≠k:=λe=>h R v (by rw[e];simp);rw[gJ,if_neg this];exact iX (λR v hm=>h R v (List.mem_cons_of_mem _ hm))
theorem fE{ν:Nat->Value}:∀{l:List (Nat×Row×Value)} {j:Nat} {R:Row} {v:Value},(l.map (·.1)).Nodup->(j,R,v)∈l->gJ l ν j=v
 |(k,R',v')::l,j,R,v,hn,h=>by
  rw[List.map_cons,List.nodup_cons]at hn;rcases List.mem_cons.1 h with e|e
  ·cases e;rw[gJ,if_pos rfl]
  have:j≠k:=λq=>hn.1 (List.mem_map.2 ⟨(j,R,v),e,q⟩);rw[gJ,if_neg this];exact fE hn.2 e
def pY(olds:List Nat)(news:List (Nat×Row×Value)):List (Nat×gR):=olds.map (λj=>(j,.dead))++news.map (λn=>(n.1,.live n.2.1))
theorem lT:∀(l k:List (Nat×gR)) (j:Nat),cH (l++k) j=match cH k j with|some R=>some R|none=>cH l j
 |[],k,j=>by cases h:cH k j<;>simp[h,cH]
 |(i,R)::l,k,j=>by
  rw[List.cons_append,cH,cH,lT l k j];cases h:cH k j<;>simp
theorem oQ{l:List (Nat×gR)}{j:Nat}(h:∀R,(j,R)∉l):cH l j=none:=by
 induction l with
 |nil=>rfl
 |cons p l ih=>
  obtain⟨i,R⟩:=p;rw[cH,ih (λR hm=>h R (List.mem_cons_of_mem _ hm))];have:j≠i:=λe=>h R (by rw[e];simp);simp[this]
theorem oR{l:List (Nat×gR)}{j:Nat}{R:gR}(h:cH l j=some R):(j,R)∈l:=by
 induction l with
 |nil=>cases h
 |cons p l ih=>
  obtain⟨i,R'⟩:=p;rw[cH]at h;cases e:cH l j with
  |some R2=>rw[e]at h;cases h;exact List.mem_cons_of_mem _ (ih e)
  |none=>
   rw[e]at h;by_cases q:j=i
   ·subst q;simp at h;subst h;simp
   simp[q]at h
theorem vf{l:List (Nat×gR)}{j:Nat}{R:gR}(h:(j,R)∈l):∃R',cH l j=some R':=by
 induction l with
 |nil=>cases h
 |cons p l ih=>
  obtain⟨i,R'⟩:=p;rw[cH];rcases List.mem_cons.1 h with e|e
  ·cases e;cases q:cH l j with
   |some R2=>exact⟨R2,Y⟩
   |none=>exact⟨R,by simp⟩
  obtain⟨R2,h2⟩:=ih e;exact⟨R2,by rw[h2]⟩
section swap
variable {C:Ctx}{S:AS}
theorem aY.Pc{E:Env}{a:Act}{w w':World}(h:aY C S E a w){i:Nat}{T:TypeId}{cells cells':List AV}{us':List Value}{M':Mem}(hB:S.b i=some ⟨T,cells⟩)(olds:List Nat)(news:List (Nat×Row×Value))
  (hold:∀j∈olds,∃R,S.r j=.live R) (hnew:∀k R v,(k,R,v)∈news->S.r k=.un/\k<1000) (hnd:(news.map (·.1)).Nodup)
  (hM:E.M.le M') (hmn:∀b o x,M' b o=some x->E.M b o=some x\/w.heap.size<=b\/∃j∈olds,(E.ν j).ownBlock=some b) (hin:M'.cy w')
  (Yd:w'.heap[E.β i]? =some (.cells ⟨us'⟩ T (0,0))) (hnb:∀o,M' (E.β i) o=none) (om:cn {E with M:=M',ν:=gJ news E.ν} cells' us')
  (hcb:∀x∈cells',(∀j,¬x.mb j)/\∀j,x.mr j->∃R v,(j,R,v)∈news)
  (hrow:∀k R v,(k,R,v)∈news->(∃vs:List Value,w'.ownsRow 0 R.E R.sz v R.n vs/\SV.dg M' R.cells vs)/\∀g,v.ownBlock=some g->((∃j∈olds,(E.ν j).ownBlock=some g)\/w.heap.size<=g)/\(∀o,M' g o=none)/\g≠E.β i)
  (Pd:∀k R v k' R' v' g,(k,R,v)∈news->(k',R',v')∈news->v.ownBlock=some g->v'.ownBlock=some g->k=k')
  (hos:w'.os=w.os) (kW:w'.tape=w.tape) (hout:w'.output=w.output) (hsize:w.heap.size<=w'.heap.size)
  (gS:∀k,k<w.heap.size->k≠E.β i->(∀j∈olds,(E.ν j).ownBlock≠some k)->w'.heap[k]? =w.heap[k]?):
  aY C (AS.bB (pY olds news) (AS.dK [(i,⟨T,cells'⟩)] S)) {E with M:=M',ν:=gJ news E.ν} a w':=by
 obtain⟨Dy,Ye,HO,GB,Dz,_⟩:=h.bx i _ hB;have aam:E.β i<w.heap.size:=(Array.getElem?_eq_some_iff.1 Dz).1;obtain⟨n1,n2,n3,n4,n5⟩:=dz (pY olds news) (AS.dK [(i,⟨T,cells'⟩)] S);have Yf:(AS.bB (pY olds news) (AS.dK [(i,⟨T,cells'⟩)] S)).t=S.t:=n2;have wL:∀j,(AS.bB (pY olds news) (AS.dK [(i,⟨T,cells'⟩)] S)).b j=if j=i then some ⟨T,cells'⟩else S.b j:=λj=>by
  rw[n3];by_cases e:j=i
  ·subst e;rw[if_pos rfl];exact AS.cf _ _ _
  rw[if_neg e];exact AS.bz _ _ _ _ e
 have Pe:∀k R v,(k,R,v)∈news->cH (news.map (λn=>(n.1,gR.live n.2.1))) k=some (.live R):=λk R v hm=>by
  obtain⟨R',jV⟩:=vf (l:=news.map (λn=>(n.1,gR.live n.2.1))) (j:=k) (R:=.live R) (List.mem_map.2 ⟨(k,R,v),hm,Y⟩);obtain⟨⟨k2,R2,v2⟩,D3,e⟩:=List.mem_map.1 (oR jV);have e1:k2=k:=congrArg Prod.fst e;have e2:gR.live R2=R':=congrArg Prod.snd e;rw[e1]at D3;have:R2=R:=by
   have key:∀(l:List (Nat×Row×Value)),(l.map (·.1)).Nodup->(k,R2,v2)∈l->(k,R,v)∈l->R2=R:=by
    intro l
    induction l with
    |nil=>intro _ h;cases h
    |cons p l ih=>
     intro hn h1 h2;rw[List.map_cons,List.nodup_cons]at hn;rcases List.mem_cons.1 h1 with e1|e1<;>rcases List.mem_cons.1 h2 with e2|e2
     ·rw[<-e1]at e2;cases e2;rfl
     ·exact absurd (List.mem_map.2 ⟨_,e2,by rw[<-e1]⟩) hn.1
     ·exact absurd (List.mem_map.2 ⟨_,e1,by rw[<-e2]⟩) hn.1
     exact ih hn.2 e1 e2
   exact key news hnd D3 hm
  rw[jV,<-e2,this]
 have Pf:∀k R v,(k,R,v)∈news->(AS.bB (pY olds news) (AS.dK [(i,⟨T,cells'⟩)] S)).r k=.live R:=λk R v hm=>by
  rw[gx,pY,lT,Pe k R v hm];rfl
 have Pg:∀j,(∀R v,(j,R,v)∉news)->(AS.bB (pY olds news) (AS.dK [(i,⟨T,cells'⟩)] S)).r j=if j∈olds then .dead else S.r j:=λj hn=>by
  have e1:cH (news.map (λn=>(n.1,gR.live n.2.1))) j=none:=oQ (λR hm=>by
   obtain⟨⟨k2,R2,v2⟩,D3,e⟩:=List.mem_map.1 hm;cases e;exact hn R2 v2 D3)
  rw[gx,pY,lT,e1];by_cases ho:j∈olds
  ·rw[if_pos ho];obtain⟨R',jV⟩:=vf (l:=olds.map (λj=>(j,gR.dead))) (j:=j) (R:=.dead) (List.mem_map.2 ⟨j,ho,Y⟩);obtain⟨j2,_,e⟩:=List.mem_map.1 (oR jV);cases e;rw[jV];rfl
  rw[if_neg ho,oQ (λR hm=>by obtain⟨j2,D3,e⟩:=List.mem_map.1 hm;cases e;exact ho D3)];rfl
 have Fv:∀j,S.r j≠ .un->∀R v,(j,R,v)∉news:=λj hj R v hm=>hj (hnew j R v hm).1;have rne:∀j,S.r j≠ .un->(AS.bB (pY olds news) (AS.dK [(i,⟨T,cells'⟩)] S)).r j≠ .un:=λj hj=>by
  rw[Pg j (Fv j hj)];split
  ·simp
  exact hj
 have ru:∀j∈olds,∀g,(E.ν j).ownBlock=some g->(C.w0.heap.size<=g\/C.ny g)/\(∀o,E.M g o=none)/\¬E.O g/\(∀n B,S.b n=some B->E.β n≠g)/\g<w.heap.size/\∃c e,w.heap[g]? =some (Obj.cells c e (0,0)):=λj hj g hg=>by
  obtain⟨R,hR⟩:=hold j hj;obtain⟨⟨us,q1,_⟩,q2⟩:=h.rx j R hR;obtain⟨q3,q4,q5,q6⟩:=q2 g hg;refine⟨q3,q4,q5,q6,fR h hR hg,?_⟩;rcases q1.2 with⟨q7,_⟩|⟨g',cap,cur,q7,_,q8,_⟩
  ·rw[q7]at hg;cases hg
  rw[q7]at hg;cases hg;exact⟨_,_,q8⟩
 have keep:∀x:AV,(∀j,x.mr j->S.r j≠ .un)->∀v,x.holds E v->x.holds {E with M:=M',ν:=gJ news E.ν} v:=λx hx v hv=>
  AV.bU (E:=E) (E':={E with M:=M',ν:=gJ news E.ν}) hM (λ_ _=>rfl) (λj hj=>iX (Fv j (hx j hj))) hv
 have Mj:∀b,b<w.heap.size->(∀o,E.M b o=none)->(∀j∈olds,(E.ν j).ownBlock≠some b)->∀o,M' b o=none:=λb h1 h2 h3 o=>by
  cases e:M' b o with
  |none=>rfl
  |some v=>
   rcases hmn b o v e with q|q|⟨j,q1,q2⟩
   ·rw[h2 o]at q;cases q
   ·omega
   exact absurd q2 (h3 j q1)
 have live:∀j R,(AS.bB (pY olds news) (AS.dK [(i,⟨T,cells'⟩)] S)).r j=.live R->(∃v,(j,R,v)∈news)\/((∀R v,(j,R,v)∉news)/\j∉olds/\S.r j=.live R):=λj R hj=>by
  by_cases hn:∃R v,(j,R,v)∈news
  ·obtain⟨R',v,hm⟩:=hn;rw[Pf j R' v hm]at hj;cases hj;exact .inl ⟨v,hm⟩
  have hn:∀R v,(j,R,v)∉news:=λR v hm=>hn ⟨R,v,hm⟩;rw[Pg j hn]at hj;by_cases ho:j∈olds
  ·rw[if_pos ho]at hj;cases hj
  rw[if_neg ho]at hj;exact .inr ⟨hn,ho,hj⟩
 have Ph:∀j R,S.r j=.live R->j∉olds->∀g,(E.ν j).ownBlock=some g->∀j'∈olds,(E.ν j').ownBlock≠some g:=λj R hR ho g hg j' hj' e=>by
  obtain⟨R',jV⟩:=hold j' hj';have:=h.dI j j' R R' hR jV g hg e;subst this;exact ho hj'
 exact{
  wf:=by
   refine⟨λs j hj=>?_,λs j hj=>?_,λj B dL x hx m hm=>?_,λj B dL x hx m hm=>?_⟩
   ·rw[Yf]at hj;obtain⟨B,dL⟩:=h.wf.tb s j hj;rw[wL];by_cases e:j=i
    ·exact⟨_,if_pos e⟩
    exact⟨B,by rw[if_neg e];exact dL⟩
   ·rw[Yf]at hj;exact rne j (h.wf.tr s j hj)
   ·rw[wL]at dL⊢;by_cases e:j=i
    ·rw[if_pos e]at dL;cases dL;exact absurd hm ((hcb x hx).1 m)
    rw[if_neg e]at dL;obtain⟨B2,hB2⟩:=h.wf.bb j B dL x hx m hm;by_cases e2:m=i
    ·exact⟨_,if_pos e2⟩
    exact⟨B2,by rw[if_neg e2];exact hB2⟩
   rw[wL]at dL;by_cases e:j=i
   ·rw[if_pos e]at dL;cases dL;obtain⟨R,v,D3⟩:=(hcb x hx).2 m hm;rw[Pf m R v D3];simp
   rw[if_neg e]at dL;exact rne m (h.wf.br j B dL x hx m hm)
  marks:=by
   obtain⟨ds,d1,d2,d3⟩:=h.marks;refine⟨ds,d1,d2,λr hr=>?_⟩;obtain⟨p1,p2,p3⟩:=d3 r hr;refine⟨p1,p2,?_⟩;rw[gS r (Array.getElem?_eq_some_iff.1 p3).1 (λe=>by rw[e,Dz]at p3;cases p3) (λj hj e=>by
    obtain⟨_,_,_,_,_,c,e2,q⟩:=ru j hj r e;rw[q]at p3;cases p3)]
   exact p3
  size:=by rw[n1];exact h.size
  os:=hos.trans h.os
  tape:=kW.trans h.tape
  output:=hout.trans h.output
  grown:=Nat.le_trans h.grown hsize
  frame:=λk hk hown=>by
   rw[gS k (Nat.lt_of_lt_of_le hk h.grown) (λe=>by
    rcases Dy with q|q
    ·omega
    ·exact hown (C.vQ _ (by rw[e];exact q))) (λj hj e=>by
    rcases(ru j hj k e).1 with q|q
    ·omega
    exact hown (C.vQ _ q))]
   exact h.frame k hk hown
  m0:=Mem.le_trans h.m0 hM
  di:=λb o v e=>by
   rcases hmn b o v e with q|q|⟨j,q1,q2⟩
   ·exact h.di b o v q
   ·exact .inr (.inl (Nat.le_trans h.grown q))
   rcases(ru j q1 b q2).1 with q|q
   ·exact .inr (.inl q)
   exact .inr (.inr (C.vQ _ q))
  cy:=hin
  tm:=λs=>by rw[Yf];exact keep _ (h.wf.tr s) _ (h.tm s)
  bx:=λj B dL=>by
   rw[wL]at dL;by_cases e:j=i
   ·rw[if_pos e]at dL;cases dL;subst e;exact⟨Dy,hnb,HO,us',Yd,om⟩
   rw[if_neg e]at dL;obtain⟨p1,p2,p3,vs,p4,p5⟩:=h.bx j B dL;have hlt:=(Array.getElem?_eq_some_iff.1 p4).1;have hno:∀j'∈olds,(E.ν j').ownBlock≠some (E.β j):=λj' hj' q=>(ru j' hj' _ q).2.2.2.1 j B dL Y;refine⟨p1,Mj _ hlt p2 hno,p3,vs,?_,p5.imp (λx hx v hv=>keep x (h.wf.br j B dL x hx) v hv)⟩;show w'.heap[E.β j]? =_;rw[gS _ hlt (λq=>e (h.inj j i B _ dL hB q)) hno];exact p4
  inj:=λj j' B B' h1 h2 e=>by
   have key:∀n B,(AS.bB (pY olds news) (AS.dK [(i,⟨T,cells'⟩)] S)).b n=some B->∃B',S.b n=some B':=λn B hn=>by
    rw[wL]at hn;by_cases e:n=i
    ·subst e;exact⟨_,hB⟩
    rw[if_neg e]at hn;exact⟨B,hn⟩
   obtain⟨B1,p1⟩:=key j B h1;obtain⟨B2,p2⟩:=key j' B' h2;exact h.inj j j' B1 B2 p1 p2 e
  rx:=λj R hj=>by
   have boxes:∀g,(∀n B,S.b n=some B->E.β n≠g)->∀n B,(AS.bB (pY olds news) (AS.dK [(i,⟨T,cells'⟩)] S)).b n=some B->E.β n≠g:=λg hg n B hn=>by
    rw[wL]at hn;by_cases e:n=i
    ·subst e;exact hg _ _ hB
    rw[if_neg e]at hn;exact hg n B hn
   rcases live j R hj with⟨v,hm⟩|⟨hn,ho,hR⟩
   ·rw[show({E with M:=M',ν:=gJ news E.ν}:Env).ν j=v from fE hnd hm];obtain⟨p1,p2⟩:=hrow j R v hm;refine⟨p1,λg hg=>?_⟩;obtain⟨p3,p4,p5⟩:=p2 g hg;rcases p3 with⟨j',q1,q2⟩|p3
    ·obtain⟨o1,o2,o3,o4,_⟩:=ru j' q1 g q2;exact⟨o1,p4,o3,boxes g o4⟩
    refine⟨.inl (Nat.le_trans h.grown p3),p4,λq=>?_,boxes g (λn B hn q=>?_)⟩
    ·have:=(h.gK g q).1;omega
    obtain⟨_,_,_,vs,q4,_⟩:=h.bx n B hn;have:=(Array.getElem?_eq_some_iff.1 q4).1;omega
   rw[show({E with M:=M',ν:=gJ news E.ν}:Env).ν j=E.ν j from iX hn];obtain⟨⟨us,p1,p2⟩,p3⟩:=h.rx j R hR;refine⟨⟨us,cG p1 λg hg=>gS g (fR h hR hg) (λe=>(p3 g hg).2.2.2 i _ hB e.symm) (Ph j R hR ho g hg),p2.mono hM⟩,λg hg=>?_⟩;obtain⟨p4,p5,p6,p7⟩:=p3 g hg;exact⟨p4,Mj g (fR h hR hg) p5 (Ph j R hR ho g hg),p6,boxes g p7⟩
  dI:=λj j' R R' h1 h2 g e1 e2=>by
   have mixed:∀j R v j' R' g,(j,R,v)∈news->S.r j'=.live R'->j'∉olds->v.ownBlock=some g->(E.ν j').ownBlock=some g->False:=λj R v j' R' g hm jV ho e1 e2=>by
    rcases((hrow j R v hm).2 g e1).1 with⟨j2,q1,q2⟩|q
    ·exact Ph j' R' jV ho g e2 j2 q1 q2
    have:=fR h jV e2;omega
   rcases live j R h1 with⟨v,hm⟩|⟨hn,ho,hR⟩<;>rcases live j' R' h2 with⟨v',hm'⟩|⟨hn',ho',jV⟩
   ·rw[show({E with M:=M',ν:=gJ news E.ν}:Env).ν j=v from fE hnd hm]at e1;rw[show({E with M:=M',ν:=gJ news E.ν}:Env).ν j'=v' from fE hnd hm']at e2;exact Pd j R v j' R' v' g hm hm' e1 e2
   ·rw[show({E with M:=M',ν:=gJ news E.ν}:Env).ν j=v from fE hnd hm]at e1;rw[show({E with M:=M',ν:=gJ news E.ν}:Env).ν j'=E.ν j' from iX hn']at e2;exact(mixed j R v j' R' g hm jV ho' e1 e2).elim
   ·rw[show({E with M:=M',ν:=gJ news E.ν}:Env).ν j=E.ν j from iX hn]at e1;rw[show({E with M:=M',ν:=gJ news E.ν}:Env).ν j'=v' from fE hnd hm']at e2;exact(mixed j' R' v' j R g hm' hR ho e2 e1).elim
   rw[show({E with M:=M',ν:=gJ news E.ν}:Env).ν j=E.ν j from iX hn]at e1;rw[show({E with M:=M',ν:=gJ news E.ν}:Env).ν j'=E.ν j' from iX hn']at e2;exact h.dI j j' R R' hR jV g e1 e2
  eX:=h.eX
  cV:=λk v e=>by
   rw[show({E with M:=M',ν:=gJ news E.ν}:Env).ν k=E.ν k from iX (λR v hm=>by have:=(hnew k R v hm).2;have:=C.CZ k _ e;omega)];exact h.cV k v e
  gK:=λb hb=>by
   obtain⟨p1,p2,p3⟩:=h.gK b hb;exact⟨Nat.lt_of_lt_of_le p1 hsize,Mj b p1 p2 (λj hj e=>(ru j hj b e).2.2.1 hb),p3⟩
  jj:=by
   have hj:=C.jf S.g S.go E.O E.M M' w w' h.jj hM hin (λb o v e=>by
    rcases hmn b o v e with q|q|⟨j,q1,q2⟩
    ·exact .inl q
    ·exact .inr ⟨.inl (Nat.le_trans h.grown q),λq2=>by have:=(h.gK b q2).1;omega⟩
    ·obtain⟨o1,_,o3,_⟩:=ru j q1 b q2;exact .inr ⟨o1,o3⟩) (λb hb=>by
    have hlt:b<w.heap.size\/w.heap.size<=b:=Nat.lt_or_ge _ _;have hb':b<w.heap.size:=by
     rcases hb with⟨q,_⟩|q
     ·exact Nat.lt_of_lt_of_le q h.grown
     exact(h.gK b q).1
    refine gS b hb' (λe=>?_) (λj hj e=>?_)
    ·subst e;rcases hb with⟨q1,q2⟩|q
     ·rcases Dy with p|p
      ·omega
      exact q2 p
     exact HO q
    obtain⟨o1,_,o3,_⟩:=ru j hj b e;rcases hb with⟨q1,q2⟩|q
    ·rcases o1 with p|p
     ·omega
     exact q2 p
    exact o3 q) hos kW hout hsize
   rw[n4,n5];exact hj}
end swap
end
section
open Go.RowKit
inductive Oc where
 |s (x:SV)
 |r (R:Row)
def m8(M:Mem)(w:World):List Oc->List Value->Prop
 |[],[]=>True
 |.s x::l,v::vs=>x.h M v/\m8 M w l vs
 |.r R::l,v::vs=>(∃us:List Value,w.ownsRow 0 R.E R.sz v R.n us/\SV.dg M R.cells us)/\m8 M w l vs
 |_,_=>False
def rowsOf:List Oc->List Row
 |[]=>[]
 |.s _::l=>rowsOf l
 |.r R::l=>R::rowsOf l
def bH:List Oc->List Value->List (Row×Value)
 |.s _::l,_::vs=>bH l vs
 |.r R::l,v::vs=>(R,v)::bH l vs
 |_,_=>[]
def eJ(c:List Oc)(us:List Value)(g:Nat):Prop:=∃p∈bH c us,p.2.ownBlock=some g
def bP:List Nat->List Oc->List AV
 |ids,.s x::l=>.sv x::bP ids l
 |i::ids,.r _::l=>.row i::bP ids l
 |[],.r _::l=>.sv .any::bP [] l
 |_,[]=>[]
def Cj(l:List (Row×Value)):Prop:=l.Pairwise λp q=>∀g,p.2.ownBlock=some g->q.2.ownBlock≠some g
structure mh (M:Mem) (w:World) (β:Nat) (T:TypeId) (c:List Oc) (us:List Value):Prop where
 hp:w.heap[β]? =some (.cells ⟨us⟩ T (0,0))
 al:m8 M w c us
 nb:∀o,M β o=none
 nr:∀g,eJ c us g->g≠β/\∀o,M g o=none
 ap:Cj (bH c us)
theorem fe{M:Mem}{w:World}:∀{c:List Oc} {us:List Value},m8 M w c us->(bH c us).map (·.1)=rowsOf c
 |[],[],_=>rfl
 |.s _::l,_::vs,h=>fe (c:=l) (us:=vs) h.2
 |.r R::l,v::vs,h=>congrArg (R:: ·) (fe (c:=l) (us:=vs) h.2)
 |[],_::_,h=>h.elim
 |.s _::_,[],h=>h.elim
 |.r _::_,[],h=>h.elim
theorem iH{M:Mem}{w:World}:∀{c:List Oc} {us:List Value},m8 M w c us->∀p∈bH c us,∃vs:List Value,w.ownsRow 0 p.1.E p.1.sz p.2 p.1.n vs/\SV.dg M p.1.cells vs
 |[],[],_,p,hp=>by cases hp
 |.s _::l,_::vs,h,p,hp=>iH (c:=l) (us:=vs) h.2 p hp
 |.r R::l,v::vs,h,p,hp=>by
  rcases List.mem_cons.1 hp with rfl|hp
  ·exact h.1
  exact iH (c:=l) (us:=vs) h.2 p hp
 |[],_::_,h,_,_=>h.elim
 |.s _::_,[],h,_,_=>h.elim
 |.r _::_,[],h,_,_=>h.elim
theorem fM{α β:Type}:∀{l:List α} {k:List β} {a:α} {b:β},(a,b)∈l.zip k->a∈l/\b∈k
 |_::_,_::_,_,_,h=>by
  rw[List.zip_cons_cons]at h;rcases List.mem_cons.1 h with e|e
  ·cases e;simp
  have:=fM e;exact⟨List.mem_cons_of_mem _ this.1,List.mem_cons_of_mem _ this.2⟩
 |[],_,_,_,h=>by simp at h
 |_::_,[],_,_,h=>by simp at h
theorem tH{α β:Type}:∀{l:List α} {k:List β},l.length=k.length->(l.zip k).map (·.1)=l
 |[],[],_=>rfl
 |_::l,_::k,h=>by rw[List.zip_cons_cons,List.map_cons,tH (by simpa using h)]
 |[],_::_,h=>by simp at h
 |_::_,[],h=>by simp at h
theorem ry:∀{ids:List Nat} {l:List (Row×Value)},ids.Nodup->Cj l->∀k R v k' R' v' g,(k,R,v)∈ids.zip l->(k',R',v')∈ids.zip l->v.ownBlock=some g->v'.ownBlock=some g->k=k'
 |i::ids,p::l,hn,ha,k,R,v,k',R',v',g,h1,h2,e1,e2=>by
  rw[List.zip_cons_cons]at h1 h2;rw[List.nodup_cons]at hn;obtain⟨Tt,Yg⟩:=List.pairwise_cons.1 ha;rcases List.mem_cons.1 h1 with q1|q1<;>rcases List.mem_cons.1 h2 with q2|q2
  ·cases q1;cases q2;rfl
  ·cases q1;exact absurd e2 (Tt (R',v') (fM q2).2 g e1)
  ·cases q2;exact absurd e1 (Tt (R,v) (fM q1).2 g e2)
  exact ry hn.2 Yg k R v k' R' v' g q1 q2 e1 e2
 |[],_,_,_,_,_,_,_,_,_,_,h1,_,_,_=>by simp at h1
 |_::_,[],_,_,_,_,_,_,_,_,_,h1,_,_,_=>by simp at h1
theorem jJ{E:Env}{w:World}:∀{ids:List Nat} {c:List Oc} {us:List Value},ids.length=(rowsOf c).length->m8 E.M w c us->(∀i p,(i,p)∈ids.zip (bH c us)->E.ν i=p.2)->cn E (bP ids c) us
 |ids,[],[],_,_,_=>by cases ids<;>exact trivial
 |ids,.s x::l,v::vs,hl,h,hv=>by
  have ih:=jJ (E:=E) (w:=w) (ids:=ids) (c:=l) (us:=vs) hl h.2 hv;cases ids<;>exact⟨h.1,ih⟩
 |i::ids,.r R::l,v::vs,hl,h,hv=>by
  refine⟨(hv i (R,v) (by rw[bH,List.zip_cons_cons];simp)).symm,jJ (w:=w) (ids:=ids) (c:=l) (us:=vs) (by simpa[rowsOf]using hl) h.2 (λj p hm=>hv j p ?_)⟩;rw[bH,List.zip_cons_cons];exact List.mem_cons_of_mem _ hm
 |[],.r R::l,_::_,hl,_,_=>by simp[rowsOf]at hl
 |_,[],_::_,_,h,_=>h.elim
 |_,.s _::_,[],_,h,_=>h.elim
 |_,.r _::_,[],_,h,_=>h.elim
theorem jK:∀{ids:List Nat} {c:List Oc} (x:AV),x∈bP ids c->(∀j,¬x.mb j)/\∀j,x.mr j->j∈ids
 |ids,[],x,h=>by cases ids<;>simp[bP]at h
 |ids,.s y::l,x,h=>by
  have h':x∈AV.sv y::bP ids l:=by cases ids<;>exact h
  rcases List.mem_cons.1 h' with rfl|h'
  ·exact⟨λj e=>e,λj e=>e.elim⟩
  exact jK x h'
 |i::ids,.r _::l,x,h=>by
  rcases List.mem_cons.1 (show x∈AV.row i::bP ids l from h)with rfl|h'
  ·exact⟨λj e=>e,λj e=>by cases e;simp⟩
  obtain⟨h1,h2⟩:=jK x h';exact⟨h1,λj e=>List.mem_cons_of_mem _ (h2 j e)⟩
 |[],.r _::l,x,h=>by
  rcases List.mem_cons.1 (show x∈AV.sv .any::bP [] l from h)with rfl|h'
  ·exact⟨λj e=>e,λj e=>e.elim⟩
  exact jK x h'
def Lv(S:AS):List Nat->List Row->Prop
 |[],[]=>True
 |j::js,R::Rs=>S.r j=.live R/\Lv S js Rs
 |_,_=>False
theorem Lv.len{S:AS}:∀{js:List Nat} {Rs:List Row},Lv S js Rs->js.length=Rs.length
 |[],[],_=>rfl
 |_::_,_::_,h=>congrArg (· +1) (Lv.len h.2)
 |[],_::_,h=>h.elim
 |_::_,[],h=>h.elim
theorem Lv.mem{S:AS}:∀{js:List Nat} {Rs:List Row},Lv S js Rs->∀j∈js,∃R,S.r j=.live R
 |j::js,R::Rs,h,k,hk=>by
  rcases List.mem_cons.1 hk with rfl|hk
  ·exact⟨R,h.1⟩
  exact Lv.mem h.2 k hk
 |[],_,_,k,hk=>by cases hk
 |_::_,[],h,_,_=>h.elim
theorem m9{C:Ctx}{S:AS}{E:Env}{a:Act}{w:World}(h:aY C S E a w):∀{js:List Nat} {c:List Oc} {us:List Value},Lv S js (rowsOf c)->cn E (bP js c) us->m8 E.M w c us/\bH c us=(rowsOf c).zip (js.map E.ν)
 |[],[],[],_,_=>⟨aq,Y⟩
 |js,.s x::l,v::vs,hL,hv=>by
  have nM:cn E (AV.sv x::bP js l) (v::vs):=by cases js<;>exact hv
  obtain⟨h1,h2⟩:=m9 h (js:=js) (c:=l) (us:=vs) hL nM.2;exact⟨⟨nM.1,h1⟩,h2⟩
 |j::js,.r R::l,v::vs,hL,hv=>by
  have hL:S.r j=.live R/\Lv S js (rowsOf l):=hL;have nM:cn E (AV.row j::bP js l) (v::vs):=hv;obtain⟨h1,h2⟩:=m9 h (js:=js) (c:=l) (us:=vs) hL.2 nM.2;have e:v=E.ν j:=nM.1;obtain⟨q1,_⟩:=h.rx j R hL.1;rw[<-e]at q1;refine⟨⟨q1,h1⟩,?_⟩;rw[bH,h2,e];rfl
 |[],.r _::_,_,hL,_=>hL.elim
 |_::_,[],_,hL,_=>hL.elim
 |[],[],_::_,_,hv=>by simp[bP]at hv;exact hv.elim
 |js,.s x::l,[],_,hv=>by
  have nM:cn E (AV.sv x::bP js l) []:=by cases js<;>exact hv
  exact nM.elim
 |_::_,.r _::_,[],_,hv=>hv.elim
theorem nc{α β:Type}:∀{l:List α} {k:List β} {b:β},l.length=k.length->b∈k->∃a,(a,b)∈l.zip k
 |a::l,c::k,b,h,hb=>by
  rcases List.mem_cons.1 hb with rfl|hb
  ·exact⟨a,by rw[List.zip_cons_cons];simp⟩
  obtain⟨a',h'⟩:=nc (l:=l) (k:=k) (by simpa using h) hb;exact⟨a',by rw[List.zip_cons_cons];exact List.mem_cons_of_mem _ h'⟩
 |[],[],_,_,hb=>by cases hb
 |[],_::_,_,h,_=>by simp at h
theorem kX{C:Ctx}{S:AS}{E:Env}{a:Act}{w:World}(h:aY C S E a w){i:Nat}{T:TypeId}{js:List Nat}{c:List Oc}(hB:S.b i=some ⟨T,bP js c⟩)(hL:Lv S js (rowsOf c))(hn:js.Nodup):
  ∃us,mh E.M w (E.β i) T c us/\(∀g,eJ c us g↔∃j∈js,(E.ν j).ownBlock=some g):=by
 obtain⟨_,q1,_,us,q2,q3⟩:=h.bx i _ hB;obtain⟨p1,p2⟩:=m9 h hL q3;have hlen:=hL.len;have xQ:∀g,eJ c us g↔∃j∈js,(E.ν j).ownBlock=some g:=λg=>by
  unfold eJ;rw[p2];constructor
  ·rintro⟨⟨R,v⟩,hm,hg⟩;obtain⟨j,hj,rfl⟩:=List.mem_map.1 (fM hm).2;exact⟨j,hj,hg⟩
  rintro⟨j,hj,hg⟩;obtain⟨R,hR⟩:=nc (l:=rowsOf c) (k:=js.map E.ν) (by simp[hlen]) (List.mem_map.2 ⟨j,hj,Y⟩);exact⟨(R,E.ν j),hR,hg⟩
 refine⟨us,⟨q2,p1,q1,λg hg=>?_,?_⟩,xQ⟩
 ·obtain⟨j,hj,sI⟩:=(xQ g).1 hg;obtain⟨R,hR⟩:=hL.mem j hj;obtain⟨_,q4⟩:=h.rx j R hR;obtain⟨_,q5,_,q6⟩:=q4 g sI;exact⟨λe=>q6 i _ hB e.symm,q5⟩
 rw[p2];have key:∀(js:List Nat) (Rs:List Row),Lv S js Rs->js.Nodup->Cj (Rs.zip (js.map E.ν)):=by
  intro js
  induction js with
  |nil=>intro Rs hL _;cases Rs with|nil=>exact List.Pairwise.nil|cons _ _=>exact hL.elim
  |cons j js ih=>
   intro Rs hL hn;cases Rs with
   |nil=>exact hL.elim
   |cons R Rs=>
    rw[List.nodup_cons]at hn;rw[List.map_cons,List.zip_cons_cons];refine List.pairwise_cons.2 ⟨λp hp g e1 e2=>?_,ih Rs hL.2 hn.2⟩;obtain⟨R',v'⟩:=p;obtain⟨j',hj',rfl⟩:=List.mem_map.1 (fM hp).2;obtain⟨R2,hR2⟩:=hL.2.mem j' hj';have:=h.dI j j' R R2 hL.1 hR2 g e1 e2;subst this;exact hn.1 hj'
 exact key js _ hL hn
def nf(M:Mem)(β:Nat):Env:=⟨λ_=>β,λ_=>.nilIface,λ_=>False,M⟩
def Fc.oy:Fc->Bool
 |.val _=>true
 |.box i=>Nat.beq i 1000
 |.row _=>false
def AV.oy:AV->Bool
 |.sv _=>true
 |.ptr i _=>Nat.beq i 1000
 |.cmp _ js=>js.all Fc.oy
 |_=>false
def Fc.Jx(i:Nat):Fc->Fc
 |.box _=>.box i
 |c=>c
def AV.Jx(i:Nat):AV->AV
 |.ptr _ o=>.ptr i o
 |.cmp t js=>.cmp t (js.map (Fc.Jx i))
 |x=>x
theorem DA{E:Env}{i:Nat}{x:AV}{v:Value}(hx:x.oy=true)(h:(x.Jx i).holds E v):x.holds (nf E.M (E.β i)) v:=by
 cases x with
 |sv s=>exact h
 |ptr k o=>exact h
 |cmp t js=>
  obtain⟨vs,rfl,h⟩:=h;refine⟨vs,Y,?_⟩;have key:∀(l:List Fc) (vs:List Value),(l.all Fc.oy)=true->ue E (l.map (Fc.Jx i)) vs->ue (nf E.M (E.β i)) l vs:=by
   intro l
   induction l with
   |nil=>intro vs _ h;cases vs with|nil=>trivial|cons _ _=>exact h.elim
   |cons c l ih=>
    intro vs ho h;rw[List.all_cons,Bool.and_eq_true]at ho;cases vs with
    |nil=>exact h.elim
    |cons u vs=>
     refine⟨?_,ih vs ho.2 h.2⟩;cases c with
     |val s=>exact h.1
     |box k=>exact h.1
     |row k=>exact(Bool.false_ne_true ho.1).elim
  exact key js vs hx h
 |_=>exact(Bool.false_ne_true hx).elim
theorem tJ{E:Env}{i:Nat}:∀{l:List AV} {vs:List Value},(l.all AV.oy)=true->cn E (l.map (AV.Jx i)) vs->cn (nf E.M (E.β i)) l vs
 |[],[],_,_=>trivial
 |x::l,v::vs,h,hv=>by
  rw[List.all_cons,Bool.and_eq_true]at h;exact⟨DA h.1 hv.1,tJ h.2 hv.2⟩
 |[],_::_,_,h=>h.elim
 |_::_,[],_,h=>h.elim
def Mk(P:Program)(f:FuncId)(args:List AV)(T:TypeId)(c0:List Oc)(res:SV)(c1:List Oc):Prop:=
 ∀(M:Mem) (w:World) (β:Nat) (vs us:List Value),M.cy w->mh M w β T c0 us->cn (nf M β) args vs->
  Calls P f ⟨vs⟩ w λe w'=>∃v M' us',e=.returned v/\M.le M'/\(∀b o x,M' b o=some x->M b o=some x\/w.heap.size<=b\/eJ c0 us b)/\M'.cy w'/\res.h M' v/\
   mh M' w' β T c1 us'/\(∀g,eJ c1 us' g->eJ c0 us g\/w.heap.size<=g)/\w'.os=w.os/\w'.tape=w.tape/\w'.output=w.output/\w.heap.size<=w'.heap.size/\
   ∀k,k<w.heap.size->k≠β->¬eJ c0 us k->w'.heap[k]? =w.heap[k]?
def Ml(w:World)(M:Mem)(β:Nat)(c:List Oc)(us:List Value):Ctx:={w0:=w,M0:=M,own:=λk=>k=β\/eJ c us k,ny:=λk=>k=β\/eJ c us k,eX:=λi=>bif Nat.beq i 1000 then some β else none,cV:=λ_=>none,ro:=none,J:=λ_ _ _ _ _=>True,vQ:=λ_ h=>h,CZ:=λ_ _ h=>(by cases h),jf:=λ_ _ _ _ _ _ _ _ _ _ _ _ _ _ _ _=>trivial}
theorem pZ{M:Mem}{w:World}:∀{ids:List Nat} {c:List Oc} {us:List Value},m8 M w c us->∀{i:Nat} {R:Row},(i,R)∈ids.zip (rowsOf c)->∃v,(i,R,v)∈ids.zip (bH c us)
 |ids,.s x::l,v::vs,h,i,R,hm=>by
  have hm':(i,R)∈ids.zip (rowsOf l):=hm;exact pZ (c:=l) (us:=vs) h.2 hm'
 |k::ids,.r R'::l,v::vs,h,i,R,hm=>by
  have hm':(i,R)∈(k,R')::ids.zip (rowsOf l):=hm;rw[bH,List.zip_cons_cons];rcases List.mem_cons.1 hm' with e|e
  ·cases e;exact⟨v,by simp⟩
  obtain⟨v',h'⟩:=pZ (ids:=ids) (c:=l) (us:=vs) h.2 e;exact⟨v',List.mem_cons_of_mem _ h'⟩
 |[],.r _::_,_::_,_,_,_,hm=>by simp at hm
 |_,[],[],_,_,_,hm=>by simp[rowsOf]at hm
 |_,[],_::_,h,_,_,_=>h.elim
 |_,.s _::_,[],h,_,_,_=>h.elim
 |_,.r _::_,[],h,_,_,_=>h.elim
theorem Ck{n:Nat}{args:List AV}{T:TypeId}{c:List Oc}{M:Mem}{w:World}{β:Nat}{vs us:List Value}(ids:List Nat)(hM:M.cy w)(ho:mh M w β T c us)(hv:cn (nf M β) args vs)(DW:args.all AV.oy=true)(hn:args.length<=n)(xK:ids.Nodup)(Nw:ids.length=(rowsOf c).length):
  aY (Ml w M β c us) (AS.vV n args [(1000,⟨T,bP ids c⟩)] (ids.zip (rowsOf c))) ⟨λ_=>β,gJ (ids.zip (bH c us)) (λ_=>.nilIface),λ_=>False,M⟩ {tmps:=⟨vs⟩++Array.replicate (n-(⟨vs⟩:Array Value).size) undef,defers:=[]} w:=by
 have hl:=hv.length;have Nx:(bH c us).length=(rowsOf c).length:=by rw[<-fe ho.al,List.length_map]
 have hnd:((ids.zip (bH c us)).map (·.1)).Nodup:=by rw[tH (by omega)];exact xK
 have Jy:∀s,(lG args s).oy=true:=λs=>by
  rcases pg (l:=args) (k:=s)with e|e
  ·rw[e];rfl
  exact List.all_eq_true.1 DW _ e
 have Yh:∀x:AV,x.oy=true->(∀j,x.mb j->j=1000)/\∀j,¬x.mr j:=λx hx=>by
  cases x with
  |sv s=>exact⟨λj e=>e.elim,λj e=>e⟩
  |ptr k o=>exact⟨λj e=>by cases e;exact Nat.eq_of_beq_eq_true hx,λj e=>e⟩
  |cmp t js=>
   refine⟨λj e=>?_,λj e=>?_⟩
   ·exact Nat.eq_of_beq_eq_true (List.all_eq_true.1 hx _ e)
   exact Bool.false_ne_true (List.all_eq_true.1 hx _ e)
  |_=>exact(Bool.false_ne_true hx).elim
 have hall:cn ⟨λ_=>β,gJ (ids.zip (bH c us)) (λ_=>.nilIface),λ_=>False,M⟩ args vs:=by
  refine hv.imp (λx hx v hh=>?_);exact AV.bU (E:=nf M β) (E':=⟨λ_=>β,gJ (ids.zip (bH c us)) (λ_=>.nilIface),λ_=>False,M⟩) (Mem.le_refl _) (λ_ _=>rfl) (λj hj=>absurd hj ((Yh x (List.all_eq_true.1 DW x hx)).2 j)) hh
 have live:∀j R,(AS.vV n args [(1000,⟨T,bP ids c⟩)] (ids.zip (rowsOf c))).r j=.live R->(j,R)∈ids.zip (rowsOf c):=λj R hj=>by
  have hj:(match vN (ids.zip (rowsOf c)) j with|some R=>gR.live R|none=>.un)=.live R:=hj;cases e:vN (ids.zip (rowsOf c)) j with
  |none=>rw[e]at hj;cases hj
  |some R'=>rw[e]at hj;cases hj;exact tg e
 have isLive:∀j∈ids,(AS.vV n args [(1000,⟨T,bP ids c⟩)] (ids.zip (rowsOf c))).r j≠ .un:=λj hj=>by
  have key:∀(ids:List Nat) (Rs:List Row),ids.length=Rs.length->j∈ids->∃R,vN (ids.zip Rs) j=some R:=by
   intro ids
   induction ids with
   |nil=>intro _ _ h;cases h
   |cons k ids ih=>
    intro Rs hl hm;cases Rs with
    |nil=>simp at hl
    |cons R Rs=>
     rw[List.zip_cons_cons,vN];by_cases e:j=k
     ·subst e;exact⟨R,by simp⟩
     rw[cU e];rcases List.mem_cons.1 hm with q|q
     ·exact absurd q e
     exact ih Rs (by simpa using hl) q
  obtain⟨R,hR⟩:=key ids _ Nw hj;show(match vN (ids.zip (rowsOf c)) j with|some R=>gR.live R|none=>.un)≠ .un;rw[hR];simp
 have box:∀j B,(AS.vV n args [(1000,⟨T,bP ids c⟩)] (ids.zip (rowsOf c))).b j=some B->j=1000/\B=⟨T,bP ids c⟩:=λj B h=>by
  have:=kg h;simpa using this
 have Er:(AS.vV n args [(1000,⟨T,bP ids c⟩)] (ids.zip (rowsOf c))).b 1000=some ⟨T,bP ids c⟩:=rfl
 exact{
  wf:=by
   refine⟨λs j hj=>?_,λs j hj=>?_,λi B hB x hx j hj=>?_,λi B hB x hx j hj=>?_⟩
   ·have:=(Yh _ (Jy s)).1 j hj;subst this;exact⟨_,Er⟩
   ·exact absurd hj ((Yh _ (Jy s)).2 j)
   ·obtain⟨rfl,rfl⟩:=box i B hB;exact absurd hj ((jK x hx).1 j)
   obtain⟨rfl,rfl⟩:=box i B hB;exact isLive j ((jK x hx).2 j hj)
  marks:=⟨[],Y,List.nodup_nil,by simp⟩
  size:=by simp[AS.vV];omega
  os:=rfl
  tape:=rfl
  output:=rfl
  grown:=Nat.le_refl _
  frame:=λ_ _ _=>rfl
  m0:=Mem.le_refl _
  di:=λ_ _ _ e=>.inl e
  cy:=hM
  tm:=λs=>A9 hall s
  bx:=λi B h=>by
   obtain⟨rfl,rfl⟩:=box i B h;refine⟨.inr (.inl Y),ho.nb,λh=>h,us,ho.hp,?_⟩;exact jJ (w:=w) Nw ho.al (λj p hm=>fE (R:=p.1) (v:=p.2) hnd hm)
  inj:=λi j B1 B2 hi hj _=>by rw[(box i B1 hi).1,(box j B2 hj).1]
  rx:=λj R hj=>by
   obtain⟨v,hm⟩:=pZ ho.al (live j R hj);have hν:gJ (ids.zip (bH c us)) (λ_=>Value.nilIface) j=v:=fE hnd hm;show(∃vs:List Value,w.ownsRow 0 R.E R.sz (gJ (ids.zip (bH c us)) (λ_=>.nilIface) j) R.n vs/\SV.dg M R.cells vs)/\_;rw[hν];refine⟨iH ho.al (R,v) (fM hm).2,λg hg=>?_⟩;have hg:v.ownBlock=some g:=by rw[<-hν];exact hg
   have hb:eJ c us g:=⟨(R,v),(fM hm).2,hg⟩;obtain⟨q1,q2⟩:=ho.nr g hb;refine⟨.inr (.inr hb),q2,λh=>h,λk B _ e=>q1 e.symm⟩
  dI:=λj j' R R' h1 h2 g e1 e2=>by
   obtain⟨v,hm⟩:=pZ ho.al (live j R h1);obtain⟨v',hm'⟩:=pZ ho.al (live j' R' h2);have hν:gJ (ids.zip (bH c us)) (λ_=>Value.nilIface) j=v:=fE hnd hm;have Yi:gJ (ids.zip (bH c us)) (λ_=>Value.nilIface) j'=v':=fE hnd hm';exact ry xK ho.ap j R v j' R' v' g hm hm' (by rw[<-hν];exact e1) (by rw[<-Yi];exact e2)
  eX:=λi b e=>by
   simp only[Ml]at e;cases h:Nat.beq i 1000 with
   |false=>rw[h]at e;cases e
   |true=>rw[h]at e;cases e;rfl
  cV:=λi v e=>by cases e
  gK:=λb e=>e.elim
  jj:=trivial}
theorem BD{P:Program}{f:FuncId}{fn:Func}{code:Code}{args:List AV}{T:TypeId}{c0 c1:List Oc}{res:SV}(ids:List Nat)(hf:P.funcs[f]? =some fn)(hb:fn.body=some code)(hn:args.length<=fn.ntmps)(DW:args.all AV.oy=true)(xK:ids.Nodup)(Nw:ids.length=(rowsOf c0).length)
  (h:∀(w:World) (M:Mem) (β:Nat) (us:List Value),Ok P (Ml w M β c0 us) code (AS.vV fn.ntmps args [(1000,⟨T,bP ids c0⟩)] (ids.zip (rowsOf c0))) (λe S=>(e=.normal\/e=.ret)/\D9 P S fn.results.toList res/\∃ks:List Nat,S.b 1000=some ⟨T,bP ks c1⟩/\Lv S ks (rowsOf c1)/\ks.Nodup)):Mk P f args T c0 res c1:=by
 intro M w β vs us hM ho hv;refine ey Y hf hb (Ck ids hM ho hv DW hn xK Nw) (h w M β us) ?_;rintro S' E a w' ⟨hr,ks,hB,hL,hk⟩ hh;obtain⟨v,hv,hx⟩:=(sJ.sv hr).run hh;have hβ:E.β 1000=β:=hh.eX 1000 β Y;obtain⟨us',ho',gS⟩:=kX hh hB hL hk;rw[hβ]at ho';refine⟨v,hv,v,E.M,us',Y,hh.m0,λb o x e=>?_,hh.cy,hx,ho',λg hg=>?_,hh.os,hh.tape,hh.output,hh.grown,λk hk hne hno=>hh.frame k hk (λe=>e.elim hne hno)⟩
 ·rcases hh.di b o x e with q|q|q|q
  ·exact .inl q
  ·exact .inr (.inl q)
  ·rw[show b=β from q,ho'.nb o]at e;cases e
  exact .inr (.inr q)
 obtain⟨j,hj,sI⟩:=(gS g).1 hg;obtain⟨R,hR⟩:=hL.mem j hj;obtain⟨_,q⟩:=hh.rx j R hR;rcases(q g sI).1 with q1|q1|q1
 ·exact .inr q1
 ·exact absurd q1 (ho'.nr g hg).1
 exact .inl q1
end
section
open Go.RowKit
def Un(S:AS):List Nat->Prop
 |[]=>True
 |k::ks=>(S.r k=.un/\k<1000)/\Un S ks
theorem Un.mem{S:AS}:∀{ks:List Nat},Un S ks->∀k∈ks,S.r k=.un/\k<1000
 |k::ks,h,j,hj=>by
  rcases List.mem_cons.1 hj with rfl|hj
  ·exact h.1
  exact Un.mem h.2 j hj
 |[],_,j,hj=>by cases hj
theorem Un.congr{S S':AS}:∀{ks:List Nat},(∀k∈ks,S'.r k=S.r k)->Un S ks->Un S' ks
 |[],_,_=>trivial
 |k::ks,h,hu=>⟨by rw[h k (by simp)];exact hu.1,Un.congr (λj hj=>h j (List.mem_cons_of_mem _ hj)) hu.2⟩
theorem Lv.congr{S S':AS}:∀{js:List Nat} {Rs:List Row},(∀k∈js,S'.r k=S.r k)->Lv S js Rs->Lv S' js Rs
 |[],[],_,_=>trivial
 |j::js,R::Rs,h,hl=>⟨by rw[h j (by simp)];exact hl.1,Lv.congr (λk hk=>h k (List.mem_cons_of_mem _ hk)) hl.2⟩
 |[],_::_,_,h=>h.elim
 |_::_,[],_,h=>h.elim
def qa(js ks:List Nat)(c:List Oc):List (Nat×gR):=js.map (λj=>(j,gR.dead))++(ks.zip (rowsOf c)).map (λp=>(p.1,.live p.2))
theorem z8:∀(ks:List Nat) (l:List (Row×Value)),(ks.zip l).map (λn=>(n.1,gR.live n.2.1))=(ks.zip (l.map (·.1))).map (λp=>(p.1,.live p.2))
 |[],_=>rfl
 |_::_,[]=>rfl
 |k::ks,p::l=>by rw[List.map_cons,List.zip_cons_cons,List.zip_cons_cons,List.map_cons,List.map_cons,z8 ks l]
theorem z9{M:Mem}{w:World}{c:List Oc}{us:List Value}(h:m8 M w c us)(js ks:List Nat):pY js (ks.zip (bH c us))=qa js ks c:=by
 unfold pY qa;rw[z8,fe h]
section steps
variable {P:Program}{C:Ctx}{ops:Array Oper}{S:AS}{nd:Bool}{K:List Ac->AS->Prop}{rest:List Oper}{acc:List Ac}
variable {gd:Option (Nat×Bool)}{rg:List Nat}{d:Nat}{ty:TypeId}{pos:String}{aft:Array Edge}{x y z:Operand}{T U E0:TypeId}
theorem aY.HP{E:Env}{a:Act}{w w':World}(h:aY C S E a w){i:Nat}{js ks:List Nat}{c0 c1:List Oc}{us us':List Value}{M':Mem}(hB:S.b i=some ⟨T,bP js c0⟩)(hL:Lv S js (rowsOf c0))(hks:ks.Nodup)(vU:ks.length=(rowsOf c1).length)(HQ:Un S ks)
  (vg:∀g,eJ c0 us g↔∃j∈js,(E.ν j).ownBlock=some g) (hM:E.M.le M') (hn:∀b o x,M' b o=some x->E.M b o=some x\/w.heap.size<=b\/eJ c0 us b) (hin:M'.cy w') (ho:mh M' w' (E.β i) T c1 us') (hg:∀g,eJ c1 us' g->eJ c0 us g\/w.heap.size<=g)
  (hos:w'.os=w.os) (kW:w'.tape=w.tape) (hout:w'.output=w.output) (hsize:w.heap.size<=w'.heap.size) (gS:∀k,k<w.heap.size->k≠E.β i->¬eJ c0 us k->w'.heap[k]? =w.heap[k]?):
  ∃E':Env,E'.M=M'/\E'.β=E.β/\aY C (AS.bB (qa js ks c1) (AS.dK [(i,⟨T,bP ks c1⟩)] S)) E' a w':=by
 have Nx:(bH c1 us').length=(rowsOf c1).length:=by rw[<-fe ho.al,List.length_map]
 have hnd:((ks.zip (bH c1 us')).map (·.1)).Nodup:=by rw[tH (by omega)];exact hks
 rw[<-z9 ho.al js ks];refine⟨{E with M:=M',ν:=gJ (ks.zip (bH c1 us')) E.ν},Y,Y,h.Pc hB js (ks.zip (bH c1 us')) (λj hj=>hL.mem j hj) (λk R v hm=>HQ.mem k (fM hm).1) hnd hM (λb o x e=>?_) hin ho.hp ho.nb ?_ (λx hx=>?_) (λk R v hm=>?_) (ry hks ho.ap) hos kW hout hsize (λk hk hne hno=>gS k hk hne (λq=>?_))⟩
 ·rcases hn b o x e with q|q|q
  ·exact .inl q
  ·exact .inr (.inl q)
  exact .inr (.inr ((vg b).1 q))
 ·exact jJ (E:={E with M:=M',ν:=gJ (ks.zip (bH c1 us')) E.ν}) (w:=w') vU ho.al (λj p hm=>fE (R:=p.1) (v:=p.2) hnd hm)
 ·obtain⟨q1,q2⟩:=jK x hx;refine⟨q1,λj hj=>?_⟩;have hj:=q2 j hj;have key:∀(ks:List Nat) (l:List (Row×Value)),ks.length=l.length->j∈ks->∃R v,(j,R,v)∈ks.zip l:=by
   intro ks
   induction ks with
   |nil=>intro _ _ h;cases h
   |cons k ks ih=>
    intro l hl hm;cases l with
    |nil=>simp at hl
    |cons p l=>
     rw[List.zip_cons_cons];rcases List.mem_cons.1 hm with q|q
     ·subst q;exact⟨p.1,p.2,by simp⟩
     obtain⟨R,v,h⟩:=ih l (by simpa using hl) q;exact⟨R,v,List.mem_cons_of_mem _ h⟩
  exact key ks _ (by omega) hj
 ·refine⟨iH ho.al (R,v) (fM hm).2,λg yR=>?_⟩;have hb:eJ c1 us' g:=⟨(R,v),(fM hm).2,yR⟩;obtain⟨q1,q2⟩:=ho.nr g hb;refine⟨?_,q2,q1⟩;rcases hg g hb with q|q
  ·exact .inl ((vg g).1 q)
  exact .inr q
 obtain⟨j,hj,e⟩:=(vg k).1 q;exact hno j hj e
theorem RT.vh(hg:Gd ops S gd rg){f:FuncId}[er P f]{g:Operand}{xs:Array Operand}{at_:Array TypeId}{args:List AV}{T:TypeId}{c0 c1:List Oc}{res:SV}(hp:Mk P f args T c0 res c1)(i:Nat)(js ks:List Nat)(hB:S.b i=some ⟨T,bP js c0⟩)(hL:Lv S js (rowsOf c0))(Jz:js.Nodup)(hks:ks.Nodup)(vU:ks.length=(rowsOf c1).length)(HQ:Un S ks)
  (DW:args.all AV.oy=true) (hf:S.ev g=.sv (.v (.func (.func f) #[] #[]))) (hargs:ot S xs.toList (args.map (AV.Jx i))) (hd:d<S.n)
  (next:RunT P C ops nd K rest (⟨rg++(aW g++xs.toList.flatMap aW),[i],js++ks,⟨some (d,.sv res),[(i,⟨T,bP ks c1⟩)],qa js ks c1⟩⟩::acc) ((AS.bB (qa js ks c1) (AS.dK [(i,⟨T,bP ks c1⟩)] S)).set d (.sv res))):RunT P C ops nd K (⟨some d,.call ⟨.value g,xs,at_⟩,ty,pos,aft,gd⟩::rest) acc S:=by
 refine .inl ⟨_,[i],js++ks,_,?_,next⟩;rintro S' hn ht hb hr k a w L Q ho ⟨E,h⟩ Pj;refine bV (C:=C) ho (hg.wanted h (λs hs=>ht s (List.mem_append_left _ hs)) Y) ?_;have qJ:a.eval g=.func (.func f) #[] ⟨[]⟩:=by
  have h1:=h.ev g;rw[bk (λ_ h=>List.mem_append_right _ (List.mem_append_left _ h)) ht,hf]at h1;exact h1
 have hall:=tJ DW (ot.vals h hargs (λs hs=>ht s (List.mem_append_right _ (List.mem_append_right _ hs))));have dL:S'.b i=some ⟨T,bP js c0⟩:=by rw[hb i (by simp)];exact hB
 have JA:Lv S' js (rowsOf c0):=hL.congr (λk hk=>hr k (List.mem_append_left _ hk));have Yj:Un S' ks:=HQ.congr (λk hk=>hr k (List.mem_append_right _ hk));obtain⟨us,HR,vg⟩:=kX h dL JA Jz;refine bW (C:=C) (by intro c h;cases h) (iP qJ) ?_;rw[List.append_nil];refine⟨λh=>by simp at h,fC ((hp E.M w (E.β i) _ us h.cy HR hall).mono ?_)⟩;rintro e w' ⟨v,M',us',rfl,hM,hnew,hin,hv,Cf,GI,hos,kW,hout,hsize,gS⟩;obtain⟨E',e1,e2,h1⟩:=h.HP dL JA hks vU Yj vg hM hnew hin Cf GI hos kW hout hsize gS;refine Pj _ _ ⟨_,h1.put (x:=.sv res) (v:=v) (by show res.h E'.M v;rw[e1];exact hv) ?_ dY⟩;rw[(dz _ _).1];show d<S'.n;omega
theorem DB{f:FuncId}[er P f]{o:Option Nat}{g:Operand}{xs:Array Operand}{at_:Array TypeId}{a:Act}{w:World}{bs:List Value}(qJ:a.eval g=.func (.func f) ⟨bs⟩ #[]):
  (execOp a.eval ⟨o,.call ⟨.value g,xs,at_⟩,ty,pos,aft,gd⟩).run P w=.ok (.enter f ⟨bs++xs.toList.map a.eval⟩) w:=by
 have e2:(⟨bs⟩:Array Value)++xs.map a.eval=⟨bs++xs.toList.map a.eval⟩:=by apply Array.ext';simp
 have e1:=er.run (P:=P) (f:=f) (⟨bs⟩++xs.map a.eval) w;rw[<-e2];simp[execOp,resolve,qJ,Deferred.ofValue,invoke,e1]
theorem RT.HS(hg:Gd ops S gd rg){g:FuncId}{i:Nat}(hx:S.ev x=.ptr i 0)(hd:d<S.n)
  (next:RunT P C ops nd K rest (⟨rg++aW x,[],[],⟨some (d,.cmp (.M9 g) [.box i]),[],[]⟩⟩::acc) (S.set d (.cmp (.M9 g) [.box i]))):RunT P C ops nd K (⟨some d,.makeFunc (.func g) #[x] #[],ty,pos,aft,gd⟩::rest) acc S:=
 RT.value hg (aW x) [] [] (.cmp (.M9 g) [.box i]) hd (by intro c h;cases h) (λS' ht _ _ E a w h=>by
  have hx':S'.ev x=.ptr i 0:=by rw[bk (λ_ h=>h) ht,hx]
  have h1:=h.ev x;rw[hx']at h1;obtain⟨l1,l2⟩:=gy h.wf hx';refine⟨.func (.func g) #[a.eval x] #[],by simp[execOp,Instr.makeFunc],⟨[a.eval x],Y,h1,aq⟩,λj e=>?_,λj e=>?_⟩
  ·have:j=i:=by simpa[AV.mb]using e
   exact l1 j this
  simp[AV.mr]at e) next
theorem RT.fH(hg:Gd ops S gd rg){i o:Nat}(hx:S.ev x=.ptr i o)(hd:d<S.n)
  (next:RunT P C ops nd K rest (⟨rg++aW x,[],[],⟨some (d,.ptr i o),[],[]⟩⟩::acc) (S.set d (.ptr i o))):RunT P C ops nd K (⟨some d,.nilCheck x,ty,pos,aft,gd⟩::rest) acc S:=
 RT.value hg (aW x) [] [] (.ptr i o) hd (by intro c h;cases h) (λS' ht _ _ E a w h=>by
  have hx':S'.ev x=.ptr i o:=by rw[bk (λ_ h=>h) ht,hx]
  have h1:=h.ev x;rw[hx']at h1;have h2:a.eval x=.pointer (some ⟨E.β i,o,none⟩):=h1;exact⟨a.eval x,by simp[execOp,h2],h1,gy h.wf hx'⟩) next
class JB (P:Program) (T:TypeId):Prop where
 u:P.underlying T=some (.pointer (P.pointee T))
theorem RT.Mm(hg:Gd ops S gd rg)[tT:JB P T]{i o:Nat}(hx:S.ev x=.ptr i o)(hy:S.ev y=.sv (.v (.pointer none)))(hd:d<S.n)
  (next:RunT P C ops nd K rest (⟨rg++(aW x++aW y),[],[],⟨some (d,.sv (.v (.bool false))),[],[]⟩⟩::acc) (S.set d (.sv (.v (.bool false))))):RunT P C ops nd K (⟨some d,.binOp .eql T x y U,ty,pos,aft,gd⟩::rest) acc S:=
 RT.value hg (aW x++aW y) [] [] (.sv (.v (.bool false))) hd (by intro c h;cases h) (λS' ht _ _ E a w h=>by
  have h1:=h.ev x;rw[bk (λ_ h=>List.mem_append_left _ h) ht,hx]at h1;have h2:=h.ev y;rw[bk (λ_ h=>List.mem_append_right _ h) ht,hy]at h2;have h1:a.eval x=.pointer (some ⟨E.β i,o,none⟩):=h1;have h2:a.eval y=.pointer none:=h2;have e:=run_eql_pointer_nil (P:=P) w T (some ⟨E.β i,o,none⟩) tT.u;refine⟨.bool false,?_,Y,dY⟩;simp[execOp,h1,h2,eqGuard,e]) next
def Fc.av:Fc->AV
 |.val s=>.sv s
 |.box i=>.ptr i 0
 |.row i=>.row i
theorem RT.qb(hg:Gd ops S gd rg){i:Nat}{js:List Fc}{s:Fc}(hx:S.ev x=.cmp .sF js)(hi:js[i]? =some s)(hd:d<S.n)
  (next:RunT P C ops nd K rest (⟨rg++aW x,[],[],⟨some (d,s.av),[],[]⟩⟩::acc) (S.set d s.av)):RunT P C ops nd K (⟨some d,.extract x i,ty,pos,aft,gd⟩::rest) acc S:=
 RT.value hg (aW x) [] [] s.av hd (by intro c h;cases h) (λS' ht _ _ E a w h=>by
  have hx':S'.ev x=.cmp .sF js:=by rw[bk (λ_ h=>h) ht,hx]
  have h1:=h.ev x;rw[hx']at h1;obtain⟨l1,l2⟩:=gy h.wf hx';obtain⟨vs,hv,hall⟩:=h1;have hv:a.eval x=.tuple ⟨vs⟩:=hv;obtain⟨u,hu,hs⟩:=hall.get hi;have hm:=List.mem_of_getElem? hi;refine⟨u,by simp[execOp,hv,Instr.extract,hu],?_,λj e=>?_,λj e=>?_⟩
  ·cases s<;>exact hs
  ·cases s with
   |val s=>exact e.elim
   |box k=>have e:j=k:=e;subst e;exact l1 j hm
   |row k=>exact e.elim
  cases s with
  |val s=>exact e.elim
  |box k=>exact e.elim
  |row k=>have e:j=k:=e;subst e;exact l2 j hm) next
def Yk(tp:Bool)(p:Value)(rs:List Value):Value:=bif tp then .tuple ⟨p::rs⟩else p
def DC(P:Program)(f:FuncId)(args:List SV)(tp:Bool)(rest:List SV)(T:TypeId)(c:List Oc):Prop:=
 ∀(M:Mem) (w:World) (vs:List Value),M.cy w->SV.dg M args vs->
  Calls P f ⟨vs⟩ w λe w'=>∃β rs M' us,e=.returned (Yk tp (.pointer (some ⟨β,0,none⟩)) rs)/\M.le M'/\(∀b o x,M' b o=some x->M b o=some x\/w.heap.size<=b)/\M'.cy w'/\SV.dg M' rest rs/\
   mh M' w' β T c us/\w.heap.size<=β/\(∀g,eJ c us g->w.heap.size<=g)/\Below w.heap.size w w'
theorem Aa{w:World}{M:Mem}{S':AS}{E:Env}{a:Act}{w':World}{k:Nat}{ks:List Nat}{c:List Oc}(hB:S'.b k=some ⟨T,bP ks c⟩)(hL:Lv S' ks (rowsOf c))(hk:ks.Nodup)(hh:aY (zb w M) S' E a w'):
  ∃us,M.le E.M/\(∀b o x,E.M b o=some x->M b o=some x\/w.heap.size<=b)/\E.M.cy w'/\mh E.M w' (E.β k) T c us/\w.heap.size<=E.β k/\(∀g,eJ c us g->w.heap.size<=g)/\Below w.heap.size w w':=by
 obtain⟨us,ho,gS⟩:=kX hh hB hL hk;refine⟨us,hh.m0,λb o x e=>?_,hh.cy,ho,(hh.bx k _ hB).1.elim id (λh=>h.elim),λg hg=>?_,hh.os,hh.tape,hh.output,hh.grown,λk hk=>hh.frame k hk (λh=>h)⟩
 ·rcases hh.di b o x e with h|h|h
  ·exact .inl h
  ·exact .inr h
  exact h.elim
 obtain⟨j,hj,sI⟩:=(gS g).1 hg;obtain⟨R,hR⟩:=hL.mem j hj;exact((hh.rx j R hR).2 g sI).1.elim id (λh=>h.elim)
theorem Ab{f:FuncId}{fn:Func}{code:Code}{args:List SV}{c:List Oc}(hf:P.funcs[f]? =some fn)(hb:fn.body=some code)(hn:args.length<=fn.ntmps)
  (h:∀(w:World) (M:Mem) (vs:List Value),SV.dg M args vs->Ok P (zb w M) code (AS.init fn.ntmps args) (λe S=>(e=.normal\/e=.ret)/\∃(k:Nat) (ks:List Nat),sJ P S fn.results.toList (.ptr k 0)/\S.b k=some ⟨T,bP ks c⟩/\Lv S ks (rowsOf c)/\ks.Nodup)):DC P f args false [] T c:=by
 intro M w vs hM hvs;refine ey Y hf hb (gG hM hvs hn) (h w M vs hvs) ?_;rintro S' E a w' ⟨k,ks,hr,hB,hL,hk⟩ hh;obtain⟨v,hv,hx⟩:=hr.run hh;obtain rfl:v=.pointer (some ⟨E.β k,0,none⟩):=hx;obtain⟨us,q1,q2,q3,q4,q5,q6,q7⟩:=Aa hB hL hk hh;exact⟨_,hv,E.β k,[],E.M,us,Y,q1,q2,q3,aq,q4,q5,q6,q7⟩
theorem Ad{f:FuncId}{fn:Func}{code:Code}{args:List SV}{s:SV}{c:List Oc}{t1 t2:Nat}(hf:P.funcs[f]? =some fn)(hb:fn.body=some code)(hn:args.length<=fn.ntmps)(hres:fn.results=#[.tmp t1,.tmp t2])
  (h:∀(w:World) (M:Mem) (vs:List Value),SV.dg M args vs->Ok P (zb w M) code (AS.init fn.ntmps args) (λe S=>(e=.normal\/e=.ret)/\∃(k:Nat) (ks:List Nat),S.t t1=.ptr k 0/\S.t t2=.sv s/\S.b k=some ⟨T,bP ks c⟩/\Lv S ks (rowsOf c)/\ks.Nodup)):DC P f args true [s] T c:=by
 intro M w vs hM hvs;refine ey Y hf hb (gG hM hvs hn) (h w M vs hvs) ?_;rintro S' E a w' ⟨k,ks,Mn,Pk,hB,hL,hk⟩ hh;have h1:=hh.tm t1;rw[Mn]at h1;have h1:a.tmps.getD t1 undef=.pointer (some ⟨E.β k,0,none⟩):=h1;have h2:=hh.tm t2;rw[Pk]at h2;obtain⟨us,q1,q2,q3,q4,q5,q6,q7⟩:=Aa hB hL hk hh;refine⟨.tuple #[.pointer (some ⟨E.β k,0,none⟩),a.tmps.getD t2 undef],?_,E.β k,[a.tmps.getD t2 undef],E.M,us,Y,q1,q2,q3,⟨h2,aq⟩,q4,q5,q6,q7⟩;rw[Array.getD_eq_getD_getElem?]at h1;simp[results,hres,h1]
theorem aY.Cm{a:Act}{w:World}:∀(ks:List Nat) (l:List (Row×Value)) {S:AS} {E:Env},aY C S E a w->ks.length=l.length->ks.Nodup->Un S ks->(∀p∈l,∃vs:List Value,w.ownsRow 0 p.1.E p.1.sz p.2 p.1.n vs/\SV.dg E.M p.1.cells vs)->Cj l->(∀p∈l,∀g,p.2.ownBlock=some g->C2 C S E g)->
  ∃E':Env,E'.M=E.M/\E'.β=E.β/\E'.O=E.O/\(∀i p,(i,p)∈ks.zip l->E'.ν i=p.2)/\(∀i,i∉ks->E'.ν i=E.ν i)/\aY C (AS.bB ((ks.zip l).map (λn=>(n.1,.live n.2.1))) S) E' a w
 |[],[],S,E,h,_,_,_,_,_,_=>⟨E,Y,Y,Y,λi p hm=>(by simp at hm),λ_ _=>Y,h⟩
 |k::ks,p::l,S,E,h,hl,hn,hu,ho,ha,hf=>by
  obtain⟨R,v⟩:=p;rw[List.nodup_cons]at hn;obtain⟨Tt,Yg⟩:=List.pairwise_cons.1 ha;obtain⟨vs,HR,Cf⟩:=ho (R,v) (by simp);have h1:=h.xP hu.1.1 hu.1.2 [] none (.inl ⟨Y,Y⟩) (R':=R) HR Cf (λg hg=>.inr (hf (R,v) (by simp) g hg)) (lH w none);have hu':Un (AS.bB ([]++[(k,.live R)]) S) ks:=hu.2.congr (λj hj=>by
   show(AS.kL S k _).r j=_;exact AS.gD _ _ _ _ (λe=>hn.1 (e▸hj)))
  obtain⟨E',q1,q2,q3,q4,q5,q6⟩:=aY.Cm ks l h1 (by simpa using hl) hn.2 hu' (λp hp=>ho p (List.mem_cons_of_mem _ hp)) Yg (λp hp g hg=>by
   obtain⟨f1,f2,f3,f4,f5⟩:=hf p (List.mem_cons_of_mem _ hp) g hg;refine⟨f1,f2,f3,f4,λj R' jV e=>?_⟩;have jV:(AS.kL S k (.live R)).r j=.live R':=jV;by_cases ej:j=k
   ·subst ej;have e:(if j=j then v else E.ν j).ownBlock=some g:=e;rw[if_pos rfl]at e;exact Tt p hp g e hg
   rw[AS.gD _ _ _ _ ej]at jV;have e:(if j=k then v else E.ν j).ownBlock=some g:=e;rw[if_neg ej]at e;exact f5 j R' jV e)
  refine⟨E',q1,q2,q3,λi p hm=>?_,λi hi=>?_,q6⟩
  ·rw[List.zip_cons_cons]at hm;rcases List.mem_cons.1 hm with e|e
   ·cases e;rw[q5 k hn.1];show(if k=k then v else E.ν k)=v;rw[if_pos rfl]
   exact q4 i p e
  rw[q5 i (λhm=>hi (List.mem_cons_of_mem _ hm))];show(if i=k then v else E.ν i)=E.ν i;rw[if_neg (λe=>hi (by rw[e];simp))]
 |[],_::_,_,_,_,hl,_,_,_,_,_=>by simp at hl
 |_::_,[],_,_,_,hl,_,_,_,_,_=>by simp at hl
theorem vi(i:Nat)(B:jA):∀(l:List (Nat×gR)) (S:AS),AS.bB l (S.gC i B)=(AS.bB l S).gC i B
 |[],_=>rfl
 |(j,R)::l,S=>vi i B l (S.kL j R)
theorem nh{α β:Type}:∀{l:List α} {k:List β} {a:α},l.length=k.length->a∈l->∃b,(a,b)∈l.zip k
 |a::l,c::k,b,h,hb=>by
  rcases List.mem_cons.1 hb with rfl|hb
  ·exact⟨c,by rw[List.zip_cons_cons];simp⟩
  obtain⟨a',h'⟩:=nh (l:=l) (k:=k) (by simpa using h) hb;exact⟨a',by rw[List.zip_cons_cons];exact List.mem_cons_of_mem _ h'⟩
 |[],_,_,_,hb=>by cases hb
 |_::_,[],_,h,_=>by simp at h
theorem aY.newObj{E:Env}{a:Act}{w w':World}(h:aY C S E a w){i:Nat}(hi:S.b i=none)(hp:C.eX i=none){ks:List Nat}{c:List Oc}{us:List Value}{M':Mem}{β:Nat}(hks:ks.Nodup)(vU:ks.length=(rowsOf c).length)(HQ:Un S ks)
  (hM:E.M.le M') (hn:∀b o x,M' b o=some x->E.M b o=some x\/w.heap.size<=b) (hin:M'.cy w') (ho:mh M' w' β T c us) (hβ:w.heap.size<=β) (hg:∀g,eJ c us g->w.heap.size<=g) (K0:Below w.heap.size w w'):
  ∃E':Env,E'.M=M'/\E'.β i=β/\aY C (AS.bB (qa [] ks c) (AS.dK [(i,⟨T,bP ks c⟩)] S)) E' a w':=by
 have Nx:(bH c us).length=(rowsOf c).length:=by rw[<-fe ho.al,List.length_map]
 have h0:=h.grow hM hn hin K0;obtain⟨E1,q1,q2,q3,q4,q5,h1⟩:=aY.Cm ks (bH c us) h0 (by omega) hks HQ (iH ho.al) ho.ap (λp hp g yR=>h.tj (hg g ⟨p,hp,yR⟩) (ho.nr g ⟨p,hp,yR⟩).2);have hS1:AS.bB ((ks.zip (bH c us)).map (λn=>(n.1,.live n.2.1))) S=AS.bB (qa [] ks c) S:=by rw[<-z9 ho.al [] ks];rfl
 rw[hS1]at h1;obtain⟨f1,f2,f3,f4,f5⟩:=h.tj (M':=M') hβ ho.nb;have Yl:(AS.bB (qa [] ks c) S).b i=none:=by rw[(dz _ _).2.2.1];exact hi
 have hfree:C2 C (AS.bB (qa [] ks c) S) E1 β:=by
  refine⟨f1,by rw[q1];exact f2,by rw[q3];exact f3,λj B hB=>?_,λj R hR e=>?_⟩
  ·rw[(dz _ _).2.2.1]at hB;rw[q2];exact f4 j B hB
  by_cases hj:j∈ks
  ·obtain⟨p,hm⟩:=nh (l:=ks) (k:=bH c us) (by omega) hj;rw[q4 j p hm]at e;exact(ho.nr β ⟨p,(fM hm).2,e⟩).1 Y
  rw[gx,oQ (λR hm=>by
   obtain⟨x,hx,e⟩:=List.mem_map.1 (show(j,R)∈(ks.zip (rowsOf c)).map (λp=>(p.1,gR.live p.2))from hm);obtain⟨k,R2⟩:=x;have e:k=j:=congrArg Prod.fst e;exact hj (e▸(fM hx).1))]at hR
  rw[q5 j hj]at e;exact f5 j R hR e
 have h2:=h1.B4 Yl hp hfree ho.hp (jJ (w:=w') vU (by rw[q1];exact ho.al) q4) (λx hx=>by
  obtain⟨p1,p2⟩:=jK x hx;refine⟨λj e=>absurd e (p1 j),λj e=>?_⟩;obtain⟨R,hm⟩:=nh (l:=ks) (k:=rowsOf c) vU (p2 j e);obtain⟨R',jV⟩:=vf (l:=qa [] ks c) (j:=j) (R:=.live R) (List.mem_map.2 ⟨(j,R),hm,Y⟩);rw[gx,jV];obtain⟨x,hx,e⟩:=List.mem_map.1 (show(j,R')∈(ks.zip (rowsOf c)).map (λp=>(p.1,gR.live p.2))from oR jV);rw[<-show gR.live x.2=R' from congrArg Prod.snd e];simp)
 refine⟨{E1 with β:=λj=>if j=i then β else E1.β j},q1,?_,?_⟩
 rotate_left 1
 ·rw[show AS.dK [(i,(⟨T,bP ks c⟩:jA))] S=S.gC i ⟨T,bP ks c⟩from Y,vi];exact h2
 show(if i=i then β else E1.β i)=β;rw[if_pos rfl]
theorem RT.Mo(hg:Gd ops S gd rg){f:FuncId}[er P f]{g:Operand}{xs:Array Operand}{at_:Array TypeId}{args:List SV}{T:TypeId}{c:List Oc}(hp:DC P f args false [] T c)(ks:List Nat)(hks:ks.Nodup)(vU:ks.length=(rowsOf c).length)(HQ:Un S ks)(hf:S.ev g=.sv (.v (.func (.func f) #[] #[])))(hargs:fL S xs.toList args)(hd:d<S.n)(hdb:S.b d=none)(Es:C.eX d=none)
  (next:RunT P C ops nd K rest (⟨rg++(aW g++xs.toList.flatMap aW),[d],ks,⟨some (d,.ptr d 0),[(d,⟨T,bP ks c⟩)],qa [] ks c⟩⟩::acc) ((AS.bB (qa [] ks c) (AS.dK [(d,⟨T,bP ks c⟩)] S)).set d (.ptr d 0))):RunT P C ops nd K (⟨some d,.call ⟨.value g,xs,at_⟩,ty,pos,aft,gd⟩::rest) acc S:=by
 refine .inl ⟨_,[d],ks,_,?_,next⟩;rintro S' hn ht hb hr i a w L Q ho ⟨E,h⟩ hL;refine bV (C:=C) ho (hg.wanted h (λs hs=>ht s (List.mem_append_left _ hs)) Y) ?_;have qJ:a.eval g=.func (.func f) #[] ⟨[]⟩:=by
  have h1:=h.ev g;rw[bk (λ_ h=>List.mem_append_right _ (List.mem_append_left _ h)) ht,hf]at h1;exact h1
 have hall:=fL.vals h hargs (λs hs=>ht s (List.mem_append_right _ (List.mem_append_right _ hs)));have hdn:S'.b d=none:=by rw[hb d (by simp)];exact hdb
 refine bW (C:=C) (by intro c h;cases h) (iP qJ) ?_;rw[List.append_nil];refine⟨λh=>by simp at h,fC ((hp E.M w _ h.cy hall).mono ?_)⟩;rintro e w' ⟨β,rs,M',us,rfl,hM,hnew,hin,JC,Cf,hβ,GI,K0⟩;obtain⟨E',e1,e2,h1⟩:=h.newObj hdn Es hks vU (HQ.congr hr) hM hnew hin Cf hβ GI K0;refine hL _ _ ⟨_,h1.put (x:=.ptr d 0) (v:=.pointer (some ⟨β,0,none⟩)) (by show _=Value.pointer (some ⟨E'.β d,0,none⟩);rw[e2]) ?_ ⟨λj e=>?_,λj e=>e.elim⟩⟩
 ·rw[(dz _ _).1];show d<S'.n;omega
 have e:j=d:=e;subst e;rw[(dz _ _).2.2.1];exact⟨_,AS.cf _ _ _⟩
theorem RT.Cn(hg:Gd ops S gd rg){f:FuncId}[er P f]{g:Operand}{xs:Array Operand}{at_:Array TypeId}{args:List SV}{T:TypeId}{c:List Oc}{s:SV}(hp:DC P f args true [s] T c)(ks:List Nat)(hks:ks.Nodup)(vU:ks.length=(rowsOf c).length)(HQ:Un S ks)(hf:S.ev g=.sv (.v (.func (.func f) #[] #[])))(hargs:fL S xs.toList args)(hd:d<S.n)(hdb:S.b d=none)(Es:C.eX d=none)
  (next:RunT P C ops nd K rest (⟨rg++(aW g++xs.toList.flatMap aW),[d],ks,⟨some (d,.cmp .sF [.box d,.val s]),[(d,⟨T,bP ks c⟩)],qa [] ks c⟩⟩::acc) ((AS.bB (qa [] ks c) (AS.dK [(d,⟨T,bP ks c⟩)] S)).set d (.cmp .sF [.box d,.val s]))):RunT P C ops nd K (⟨some d,.call ⟨.value g,xs,at_⟩,ty,pos,aft,gd⟩::rest) acc S:=by
 refine .inl ⟨_,[d],ks,_,?_,next⟩;rintro S' hn ht hb hr i a w L Q ho ⟨E,h⟩ hL;refine bV (C:=C) ho (hg.wanted h (λs hs=>ht s (List.mem_append_left _ hs)) Y) ?_;have qJ:a.eval g=.func (.func f) #[] ⟨[]⟩:=by
  have h1:=h.ev g;rw[bk (λ_ h=>List.mem_append_right _ (List.mem_append_left _ h)) ht,hf]at h1;exact h1
 have hall:=fL.vals h hargs (λs hs=>ht s (List.mem_append_right _ (List.mem_append_right _ hs)));have hdn:S'.b d=none:=by rw[hb d (by simp)];exact hdb
 refine bW (C:=C) (by intro c h;cases h) (iP qJ) ?_;rw[List.append_nil];refine⟨λh=>by simp at h,fC ((hp E.M w _ h.cy hall).mono ?_)⟩;rintro e w' ⟨β,rs,M',us,rfl,hM,hnew,hin,JC,Cf,hβ,GI,K0⟩;obtain⟨E',e1,e2,h1⟩:=h.newObj hdn Es hks vU (HQ.congr hr) hM hnew hin Cf hβ GI K0
 match rs,JC with
 |[r],JC=>
  refine hL _ _ ⟨_,h1.put (x:=.cmp .sF [.box d,.val s]) (v:=.tuple #[.pointer (some ⟨β,0,none⟩),r]) ⟨[.pointer (some ⟨β,0,none⟩),r],Y,by show _=Value.pointer (some ⟨E'.β d,0,none⟩);rw[e2],by show s.h E'.M r;rw[e1];exact JC.1,aq⟩ ?_ ⟨λj e=>?_,λj e=>?_⟩⟩
  ·rw[(dz _ _).1];show d<S'.n;omega
  ·have e:j=d:=by simpa[AV.mb]using e
   subst e;rw[(dz _ _).2.2.1];exact⟨_,AS.cf _ _ _⟩
  simp[AV.mr]at e
end steps
end
section
open Go.RowKit
def yt(P:Program)(f:FuncId)(args:List AV)(T:TypeId)(c:List Oc)(res:SV):Prop:=
 ∀(M:Mem) (w:World) (β:Nat) (vs us:List Value),M.cy w->mh M w β T c us->cn (nf M β) args vs->
  Calls P f ⟨vs⟩ w λe w'=>∃v M',e=.returned v/\M.le M'/\(∀b o x,M' b o=some x->M b o=some x\/w.heap.size<=b)/\M'.cy w'/\res.h M' v/\
   mh M' w' β T c us/\w'.os=w.os/\w'.tape=w.tape/\w'.output=w.output/\w.heap.size<=w'.heap.size/\∀k,k<w.heap.size->k≠β->¬eJ c us k->w'.heap[k]? =w.heap[k]?
def Ny:List (Nat×Row×Value)->Nat->Option Value
 |[],_=>none
 |(k,_,v)::l,j=>if j=k then some v else Ny l j
theorem yu:∀{l:List (Nat×Row×Value)} {j:Nat} {v:Value},Ny l j=some v->∃R,(j,R,v)∈l
 |(k,R,u)::l,j,v,h=>by
  rw[Ny]at h;by_cases e:j=k
  ·rw[if_pos e]at h;cases h;subst e;exact⟨R,by simp⟩
  rw[if_neg e]at h;obtain⟨R',hm⟩:=yu h;exact⟨R',List.mem_cons_of_mem _ hm⟩
 |[],_,_,h=>by cases h
theorem Fx:∀{l:List (Nat×Row×Value)} {j:Nat} {R:Row} {v:Value},(l.map (·.1)).Nodup->(j,R,v)∈l->Ny l j=some v
 |(k,R',v')::l,j,R,v,hn,h=>by
  rw[List.map_cons,List.nodup_cons]at hn;rw[Ny];rcases List.mem_cons.1 h with e|e
  ·cases e;rw[if_pos rfl]
  have:j≠k:=λq=>hn.1 (List.mem_map.2 ⟨(j,R,v),e,q⟩);rw[if_neg this];exact Fx hn.2 e
theorem Mp{ids:List Nat}(h:(ids.all λi=>Nat.ble 1000 i)=true):∀i∈ids,1000<=i:=λi hi=>af (List.all_eq_true.1 h i hi)
def Pm(w:World)(M:Mem)(β:Nat)(c:List Oc)(us:List Value)(ids:List Nat)(xK:(ids.all λi=>Nat.ble 1000 i)=true):Ctx:={w0:=w,M0:=M,own:=λk=>k=β\/eJ c us k,ny:=λk=>k=β\/eJ c us k,eX:=λi=>bif Nat.beq i 1000 then some β else none,cV:=Ny (ids.zip (bH c us)),ro:=none,J:=λ_ _ _ _ _=>True,vQ:=λ_ h=>h,CZ:=λ_ _ h=>(by obtain⟨R,hm⟩:=yu h;exact Mp xK _ (fM hm).1),jf:=λ_ _ _ _ _ _ _ _ _ _ _ _ _ _ _ _=>trivial}
def Oc.cst:Oc->Prop
 |.s x=>∃v,x=.v v
 |.r _=>True
def BE:List Oc->Prop
 |[]=>True
 |c::l=>c.cst/\BE l
theorem yw{M M':Mem}{w w':World}:∀{c:List Oc} {us us':List Value},BE c->m8 M w c us->m8 M' w' c us'->bH c us=bH c us'->us=us'
 |[],[],[],_,_,_,_=>rfl
 |.s x::l,v::vs,v'::vs',hc,h,h',e=>by
  obtain⟨y,rfl⟩:=hc.1;have e1:v=y:=h.1;have e2:v'=y:=h'.1;rw[e1,e2,yw hc.2 h.2 h'.2 e]
 |.r R::l,v::vs,v'::vs',hc,h,h',e=>by
  rw[bH,bH]at e;have e1:=(List.cons.inj e).1;have e2:=(List.cons.inj e).2;rw[yw hc.2 h.2 h'.2 e2];rw[(Prod.mk.inj e1).2]
 |[],[],_::_,_,_,h,_=>h.elim
 |[],_::_,_,_,h,_,_=>h.elim
 |.s _::_,[],_,_,h,_,_=>h.elim
 |.r _::_,[],_,_,h,_,_=>h.elim
 |.s _::_,_::_,[],_,_,h,_=>h.elim
 |.r _::_,_::_,[],_,_,h,_=>h.elim
theorem iI{P:Program}{f:FuncId}{fn:Func}{code:Code}{args:List AV}{T:TypeId}{c:List Oc}{res:SV}(ids:List Nat)(hf:P.funcs[f]? =some fn)(hb:fn.body=some code)(hn:args.length<=fn.ntmps)(DW:args.all AV.oy=true)(xK:ids.Nodup)(Nw:ids.length=(rowsOf c).length)(hge:(ids.all λi=>Nat.ble 1000 i)=true)(Ym:BE c)
  (h:∀(w:World) (M:Mem) (β:Nat) (us:List Value),Ok P (Pm w M β c us ids hge) code (AS.vV fn.ntmps args [(1000,⟨T,bP ids c⟩)] (ids.zip (rowsOf c))) (λe S=>(e=.normal\/e=.ret)/\D9 P S fn.results.toList res/\S.b 1000=some ⟨T,bP ids c⟩/\Lv S ids (rowsOf c))):yt P f args T c res:=by
 intro M w β vs us hM ho hv;have Nx:(bH c us).length=(rowsOf c).length:=by rw[<-fe ho.al,List.length_map]
 have hnd:((ids.zip (bH c us)).map (·.1)).Nodup:=by rw[tH (by omega)];exact xK
 have K9:aY (Pm w M β c us ids hge) (AS.vV fn.ntmps args [(1000,⟨T,bP ids c⟩)] (ids.zip (rowsOf c))) ⟨λ_=>β,gJ (ids.zip (bH c us)) (λ_=>.nilIface),λ_=>False,M⟩ {tmps:=⟨vs⟩++Array.replicate (fn.ntmps-(⟨vs⟩:Array Value).size) undef,defers:=[]} w:=by
  have h0:=Ck (n:=fn.ntmps) ids hM ho hv DW hn xK Nw
  exact{wf:=h0.wf,marks:=h0.marks,size:=h0.size,os:=h0.os,tape:=h0.tape,output:=h0.output,grown:=h0.grown,frame:=h0.frame,m0:=h0.m0,di:=h0.di,cy:=h0.cy,tm:=h0.tm,bx:=h0.bx,inj:=h0.inj,rx:=h0.rx,dI:=h0.dI,eX:=h0.eX,cV:=λi v e=>(by
   obtain⟨R,hm⟩:=yu e
   exact fE hnd hm),gK:=h0.gK,jj:=trivial}
 refine ey Y hf hb K9 (h w M β us) ?_;rintro S' E a w' ⟨hr,hB,hL⟩ hh;obtain⟨v,hv,hx⟩:=(sJ.sv hr).run hh;have hβ:E.β 1000=β:=hh.eX 1000 β Y;obtain⟨us',ho',gS⟩:=kX hh hB hL xK;rw[hβ]at ho';obtain⟨_,_,_,NR,q2,q3⟩:=hh.bx 1000 _ hB;rw[hβ,ho'.hp]at q2;obtain rfl:us'=NR:=by
  have:=Option.some.inj q2;injection this with e
  injection e
 obtain⟨_,Yn⟩:=m9 hh hL q3;have gN:bH c us=bH c us':=by
  rw[Yn];have key:∀(ids:List Nat) (l:List (Row×Value)) (Rs:List Row),ids.length=l.length->l.map (·.1)=Rs->(∀i R v,(i,R,v)∈ids.zip l->E.ν i=v)->l=Rs.zip (ids.map E.ν):=by
   intro ids
   induction ids with
   |nil=>intro l Rs hl hm _;cases l with|nil=>cases hm;rfl|cons _ _=>simp at hl
   |cons i ids ih=>
    intro l Rs hl hm hν;cases l with
    |nil=>simp at hl
    |cons p l=>
     cases hm;obtain⟨R,v⟩:=p;rw[List.map_cons,List.map_cons,List.zip_cons_cons,hν i R v (by rw[List.zip_cons_cons];simp),<-ih l _ (by simpa using hl) Y (λi R v hm=>hν i R v (by rw[List.zip_cons_cons];exact List.mem_cons_of_mem _ hm))]
  exact key ids _ _ (by omega) (fe ho.al) (λi R v hm=>hh.cV i v (Fx hnd hm))
 obtain rfl:us=us':=yw Ym ho.al ho'.al gN;refine⟨v,hv,v,E.M,Y,hh.m0,λb o x e=>?_,hh.cy,hx,ho',hh.os,hh.tape,hh.output,hh.grown,λk hk hne hno=>hh.frame k hk (λe=>e.elim hne hno)⟩;rcases hh.di b o x e with q|q|q|q
 ·exact .inl q
 ·exact .inr q
 ·rw[show b=β from q,ho'.nb o]at e;cases e
 rw[(ho'.nr b q).2 o]at e;cases e
section steps
variable {P:Program}{C:Ctx}{ops:Array Oper}{S:AS}{nd:Bool}{K:List Ac->AS->Prop}{rest:List Oper}{acc:List Ac}
variable {gd:Option (Nat×Bool)}{rg:List Nat}{d:Nat}{ty:TypeId}{pos:String}{aft:Array Edge}{x y z:Operand}{T U E0:TypeId}
theorem aY.Co{E:Env}{a:Act}{w w':World}(h:aY C S E a w){i:Nat}{js:List Nat}{c:List Oc}{us:List Value}{M':Mem}(hB:S.b i=some ⟨T,bP js c⟩)(hL:Lv S js (rowsOf c))(Jz:js.Nodup)(ug:mh E.M w (E.β i) T c us)
  (hM:E.M.le M') (hn:∀b o x,M' b o=some x->E.M b o=some x\/w.heap.size<=b) (hin:M'.cy w') (ho:mh M' w' (E.β i) T c us)
  (hos:w'.os=w.os) (kW:w'.tape=w.tape) (hout:w'.output=w.output) (hsize:w.heap.size<=w'.heap.size) (gS:∀k,k<w.heap.size->k≠E.β i->¬eJ c us k->w'.heap[k]? =w.heap[k]?):
  aY C S {E with M:=M'} a w':=by
 obtain⟨Dy,Ye,HO,Nz,Dz,Pn⟩:=h.bx i _ hB;obtain rfl:Nz=us:=by
  rw[ug.hp]at Dz;have:=Option.some.inj Dz;injection this with e
  injection e with e
  exact e.symm
 obtain⟨_,Nx⟩:=m9 h hL Pn;have hlen:=hL.len;have xQ:∀g,eJ c Nz g↔∃j∈js,(E.ν j).ownBlock=some g:=λg=>by
  unfold eJ;rw[Nx];constructor
  ·rintro⟨⟨R,v⟩,hm,hg⟩;obtain⟨j,hj,rfl⟩:=List.mem_map.1 (fM hm).2;exact⟨j,hj,hg⟩
  rintro⟨j,hj,hg⟩;obtain⟨R,hR⟩:=nc (l:=rowsOf c) (k:=js.map E.ν) (by simp[hlen]) (List.mem_map.2 ⟨j,hj,Y⟩);exact⟨(R,E.ν j),hR,hg⟩
 have ru:∀g,eJ c Nz g->(C.w0.heap.size<=g\/C.ny g)/\¬E.O g/\(∀n B,S.b n=some B->E.β n≠g)/\∃c e,w.heap[g]? =some (Obj.cells c e (0,0)):=λg hg=>by
  obtain⟨j,hj,sI⟩:=(xQ g).1 hg;obtain⟨R,hR⟩:=hL.mem j hj;obtain⟨⟨us,q1,_⟩,q2⟩:=h.rx j R hR;obtain⟨q3,q4,q5,q6⟩:=q2 g sI;refine⟨q3,q5,q6,?_⟩;rcases q1.2 with⟨q7,_⟩|⟨g',cap,cur,q7,_,q8,_⟩
  ·rw[q7]at sI;cases sI
  rw[q7]at sI;cases sI;exact⟨_,_,q8⟩
 have keep:∀x:AV,∀v,x.holds E v->x.holds {E with M:=M'} v:=λx v hv=>AV.bU (E:=E) (E':={E with M:=M'}) hM (λ_ _=>rfl) (λ_ _=>rfl) hv;have Mj:∀b,b<w.heap.size->(∀o,E.M b o=none)->∀o,M' b o=none:=λb h1 h2 o=>by
  cases e:M' b o with
  |none=>rfl
  |some v=>
   rcases hn b o v e with q|q
   ·rw[h2 o]at q;cases q
   omega
 exact{
  wf:=h.wf
  marks:=by
   obtain⟨ds,d1,d2,d3⟩:=h.marks;refine⟨ds,d1,d2,λr hr=>?_⟩;obtain⟨p1,p2,p3⟩:=d3 r hr;refine⟨p1,p2,?_⟩;rw[gS r (Array.getElem?_eq_some_iff.1 p3).1 (λe=>by rw[e,Dz]at p3;cases p3) (λe=>by
    obtain⟨_,_,_,c,e2,q⟩:=ru r e;rw[q]at p3;cases p3)]
   exact p3
  size:=h.size
  os:=hos.trans h.os
  tape:=kW.trans h.tape
  output:=hout.trans h.output
  grown:=Nat.le_trans h.grown hsize
  frame:=λk hk hown=>by
   rw[gS k (Nat.lt_of_lt_of_le hk h.grown) (λe=>by
    rcases Dy with q|q
    ·omega
    ·exact hown (C.vQ _ (by rw[e];exact q))) (λe=>by
    rcases(ru k e).1 with q|q
    ·omega
    exact hown (C.vQ _ q))]
   exact h.frame k hk hown
  m0:=Mem.le_trans h.m0 hM
  di:=λb o v e=>by
   rcases hn b o v e with q|q
   ·exact h.di b o v q
   exact .inr (.inl (Nat.le_trans h.grown q))
  cy:=hin
  tm:=λs=>keep _ _ (h.tm s)
  bx:=λj B dL=>by
   obtain⟨p1,p2,p3,vs,p4,p5⟩:=h.bx j B dL;have hlt:=(Array.getElem?_eq_some_iff.1 p4).1;by_cases e:j=i
   ·subst e;rw[hB]at dL;cases dL;refine⟨p1,ho.nb,p3,Nz,ho.hp,?_⟩;exact Pn.imp (λx _ v hv=>keep x v hv)
   refine⟨p1,Mj _ hlt p2,p3,vs,?_,p5.imp (λx _ v hv=>keep x v hv)⟩;show w'.heap[E.β j]? =_;rw[gS _ hlt (λq=>e (h.inj j i B _ dL hB q)) (λq=>(ru _ q).2.2.1 j B dL Y)];exact p4
  inj:=h.inj
  rx:=λj R hR=>by
   obtain⟨⟨vs,p1,p2⟩,p3⟩:=h.rx j R hR;by_cases hj:j∈js
   ·have hz:(R,E.ν j)∈bH c Nz:=by
     rw[Nx];have key:∀(js:List Nat) (Rs:List Row),Lv S js Rs->j∈js->(R,E.ν j)∈Rs.zip (js.map E.ν):=by
      intro js
      induction js with
      |nil=>intro _ _ h;cases h
      |cons k js ih=>
       intro Rs hl hm;cases Rs with
       |nil=>exact hl.elim
       |cons R' Rs=>
        rw[List.map_cons,List.zip_cons_cons];rcases List.mem_cons.1 hm with q|q
        ·subst q;have:=hl.1;rw[hR]at this;cases this;simp
        exact List.mem_cons_of_mem _ (ih Rs hl.2 q)
     exact key js _ hL hj
    refine⟨iH ho.al _ hz,λg hg=>?_⟩;obtain⟨p4,p5,p6,p7⟩:=p3 g hg;exact⟨p4,(ho.nr g ⟨_,hz,hg⟩).2,p6,p7⟩
   have Ph:∀g,(E.ν j).ownBlock=some g->¬eJ c Nz g:=λg hg q=>by
    obtain⟨j',hj',e⟩:=(xQ g).1 q;obtain⟨R',jV⟩:=hL.mem j' hj';have:=h.dI j j' R R' hR jV g hg e;subst this;exact hj hj'
   refine⟨⟨vs,cG p1 λg hg=>gS g (fR h hR hg) (λe=>(p3 g hg).2.2.2 i _ hB e.symm) (Ph g hg),p2.mono hM⟩,λg hg=>?_⟩;obtain⟨p4,p5,p6,p7⟩:=p3 g hg;exact⟨p4,Mj g (fR h hR hg) p5,p6,p7⟩
  dI:=h.dI
  eX:=h.eX
  cV:=h.cV
  gK:=λb hb=>by
   obtain⟨p1,p2,p3⟩:=h.gK b hb;exact⟨Nat.lt_of_lt_of_le p1 hsize,Mj b p1 p2,p3⟩
  jj:=C.jf S.g S.go E.O E.M M' w w' h.jj hM hin (λb o v e=>by
    rcases hn b o v e with q|q
    ·exact .inl q
    ·exact .inr ⟨.inl (Nat.le_trans h.grown q),λq2=>by have:=(h.gK b q2).1;omega⟩) (λb hb=>by
    have hb':b<w.heap.size:=by
     rcases hb with⟨q,_⟩|q
     ·exact Nat.lt_of_lt_of_le q h.grown
     exact(h.gK b q).1
    refine gS b hb' (λe=>?_) (λe=>?_)
    ·subst e;rcases hb with⟨q1,q2⟩|q
     ·rcases Dy with p|p
      ·omega
      exact q2 p
     exact HO q
    obtain⟨o1,o3,_⟩:=ru b e;rcases hb with⟨q1,q2⟩|q
    ·rcases o1 with p|p
     ·omega
     exact q2 p
    exact o3 q) hos kW hout hsize}
theorem RT.jL(hg:Gd ops S gd rg){f:FuncId}[er P f]{g:Operand}{xs:Array Operand}{at_:Array TypeId}{args:List AV}{T:TypeId}{c:List Oc}{res:SV}(hp:yt P f args T c res)(i:Nat)(js:List Nat)(hB:S.b i=some ⟨T,bP js c⟩)(hL:Lv S js (rowsOf c))(Jz:js.Nodup)
  (DW:args.all AV.oy=true) (hf:S.ev g=.sv (.v (.func (.func f) #[] #[]))) (hargs:ot S xs.toList (args.map (AV.Jx i))) (hd:d<S.n)
  (next:RunT P C ops nd K rest (⟨rg++(aW g++xs.toList.flatMap aW),[i],js,⟨some (d,.sv res),[],[]⟩⟩::acc) (S.set d (.sv res))):RunT P C ops nd K (⟨some d,.call ⟨.value g,xs,at_⟩,ty,pos,aft,gd⟩::rest) acc S:=by
 refine .inl ⟨_,[i],js,_,?_,next⟩;rintro S' hn ht hb hr k a w L Q ho ⟨E,h⟩ Pj;refine bV (C:=C) ho (hg.wanted h (λs hs=>ht s (List.mem_append_left _ hs)) Y) ?_;have qJ:a.eval g=.func (.func f) #[] ⟨[]⟩:=by
  have h1:=h.ev g;rw[bk (λ_ h=>List.mem_append_right _ (List.mem_append_left _ h)) ht,hf]at h1;exact h1
 have hall:=tJ DW (ot.vals h hargs (λs hs=>ht s (List.mem_append_right _ (List.mem_append_right _ hs))));have dL:S'.b i=some ⟨T,bP js c⟩:=by rw[hb i (by simp)];exact hB
 have JA:Lv S' js (rowsOf c):=hL.congr (λk hk=>hr k hk);obtain⟨us,HR,vg⟩:=kX h dL JA Jz;refine bW (C:=C) (by intro c h;cases h) (iP qJ) ?_;rw[List.append_nil];refine⟨λh=>by simp at h,fC ((hp E.M w (E.β i) _ us h.cy HR hall).mono ?_)⟩;rintro e w' ⟨v,M',rfl,hM,hnew,hin,hv,Cf,hos,kW,hout,hsize,gS⟩;have h1:=h.Co dL JA Jz HR hM hnew hin Cf hos kW hout hsize gS;exact Pj _ _ ⟨_,h1.put (x:=.sv res) (v:=v) hv (by show d<S'.n;omega) dY⟩
theorem RT.HT(hg:Gd ops S gd rg){f:FuncId}[er P f]{g:Operand}{xs:Array Operand}{at_:Array TypeId}{args:List AV}{T:TypeId}{c:List Oc}{res:SV}(hp:yt P f (.ptr 1000 0::args) T c res)(i:Nat)(js:List Nat)(hB:S.b i=some ⟨T,bP js c⟩)(hL:Lv S js (rowsOf c))(Jz:js.Nodup)
  (DW:args.all AV.oy=true) (hf:S.ev g=.cmp (.M9 f) [.box i]) (hargs:ot S xs.toList (args.map (AV.Jx i))) (hd:d<S.n)
  (next:RunT P C ops nd K rest (⟨rg++(aW g++xs.toList.flatMap aW),[i],js,⟨some (d,.sv res),[],[]⟩⟩::acc) (S.set d (.sv res))):RunT P C ops nd K (⟨some d,.call ⟨.value g,xs,at_⟩,ty,pos,aft,gd⟩::rest) acc S:=by
 refine .inl ⟨_,[i],js,_,?_,next⟩;rintro S' hn ht hb hr k a w L Q ho ⟨E,h⟩ Pj;refine bV (C:=C) ho (hg.wanted h (λs hs=>ht s (List.mem_append_left _ hs)) Y) ?_;have qJ:a.eval g=.func (.func f) ⟨[.pointer (some ⟨E.β i,0,none⟩)]⟩ #[]:=by
  have h1:=h.ev g;rw[bk (λ_ h=>List.mem_append_right _ (List.mem_append_left _ h)) ht,hf]at h1;obtain⟨vs,h2,h3⟩:=h1;cases vs with
  |nil=>exact h3.elim
  |cons v vs=>
   cases vs with
   |cons _ _=>exact h3.2.elim
   |nil=>rw[h2,show v=_ from h3.1];rfl
 have hall:cn (nf E.M (E.β i)) (.ptr 1000 0::args) (.pointer (some ⟨E.β i,0,none⟩)::xs.toList.map a.eval):=⟨Y,tJ DW (ot.vals h hargs (λs hs=>ht s (List.mem_append_right _ (List.mem_append_right _ hs))))⟩;have dL:S'.b i=some ⟨T,bP js c⟩:=by rw[hb i (by simp)];exact hB
 have JA:Lv S' js (rowsOf c):=hL.congr (λk hk=>hr k hk);obtain⟨us,HR,vg⟩:=kX h dL JA Jz;refine bW (C:=C) (by intro c h;cases h) (DB qJ) ?_;refine⟨λh=>by simp at h,fC ((hp E.M w (E.β i) _ us h.cy HR hall).mono ?_)⟩;rintro e w' ⟨v,M',rfl,hM,hnew,hin,hv,Cf,hos,kW,hout,hsize,gS⟩;have h1:=h.Co dL JA Jz HR hM hnew hin Cf hos kW hout hsize gS;exact Pj _ _ ⟨_,h1.put (x:=.sv res) (v:=v) hv (by show d<S'.n;omega) dY⟩
end steps
end
end Go.Fw
namespace Go.Proofs.Ytmiflmkdaeianaa
section
open Go.Fw
noncomputable def dQ(x0:Qr):Option (Zr):=match x0 with|⟨⟨bR,bN⟩,⟨gi,gW⟩⟩=>(gI 1 2).bind λ⟨⟨⟨vb,vc⟩,⟨Fy,Fz⟩⟩,Yo⟩=>(hH ⟨⟨bR,bN⟩,⟨gi,gW⟩⟩).bind λ⟨ko,kp⟩=>(bp 1).bind λ⟨kq,ku⟩=>(cK ⟨ko,kp⟩ ⟨kq,ku⟩).bind λ⟨FA,FB⟩=>(cO ⟨ko,kp⟩).bind λ⟨⟨xe,Cp⟩,⟨Cq,xg⟩⟩=>(iF ⟨⟨bR,bN⟩,⟨gi,gW⟩⟩ ⟨⟨xe,Cp⟩,⟨Cq,xg⟩⟩).bind λ⟨⟨JD,JE⟩,⟨JF,JG⟩⟩=>(iG ⟨⟨JD,JE⟩,⟨JF,JG⟩⟩ ⟨⟨vb,vc⟩,⟨Fy,Fz⟩⟩).bind λeK=>(some (decide ((eK:Int)=(-1)))).bind λja=>(bif ja then some ⟨ko,kp⟩else(some (decide ((eK:Int)=1))).bind λgz=>(bif gz then some ⟨FA,FB⟩else(bp 2).bind λ⟨vk,vm⟩=>(cc ⟨ko,kp⟩ ⟨vk,vm⟩).bind λ⟨⟨Mq,Mr⟩,⟨FC,FD⟩,Yp⟩=>(ct ⟨FC,FD⟩).bind λqz=>(some (decide ((qz:Int)=0))).bind λnF=>(bif nF then some ⟨ko,kp⟩else some ⟨FA,FB⟩)))
noncomputable def iJ(x0:Int):Option (Int×(List En)):=cW (λ(Ms:Bool)=>(bif Ms then none else some (x0,[]))) λK3=>(some (decide ((x0:Int)<1))).bind λx5=>(bif x5 then some true else(some (decide ((64:Int)<x0))).bind λx8=>some x8).bind λPo=>K3 Po
noncomputable def cw(o0:Int)(o1:List En):Option (Bool):=cW (λ(Pp:Bool)=>some Pp) λK3=>(bif false then none else(some (decide ((o0:Int)=0))).bind λgO=>some gO).bind λJH=>K3 JH
noncomputable def eU(o0:Int)(o1:List En)(x1:Int):Option (Bool):=cW (λ(Pq:Bool)=>some Pq) λK3=>(some (decide ((0:Int)<x1))).bind λx6=>(bif x6 then(some (decide ((x1:Int)<o0))).bind λiv=>some iv else some false).bind λJI=>K3 JI
noncomputable def ia(x0:En)(o0:Int)(o1:List En):Option (Int):=match x0 with|⟨bR,bN,gi,⟨gW,Pr⟩⟩=>(eU o0 o1 bR).bind λx8=>(some (!x8)).bind λx9=>(bif x9 then some 1 else cW (λ(FE:Bool)=>(bif FE then some 12 else cW (λ(FF:Bool)=>(bif FF then some 1 else some 0)) λK6=>(some (decide ((gi:Int)<(-1)))).bind λiT=>(bif iT then some true else(some (decide ((8:Int)<=gi))).bind λeK=>some eK).bind λJJ=>K6 JJ)) λK3=>(some (decide ((bN:Nat)<1))).bind λgV=>(bif gV then some true else(some (decide ((4:Nat)<bN))).bind λjD=>some jD).bind λJK=>K3 JK)
noncomputable def bQ(o0:Int)(o1:List En)(x1:Int)(x2:Nat)(x3:Int)(x4:Qr):Option (Int×(List En)):=match x4 with|⟨⟨Dw,Dx⟩,⟨Ps,Pt⟩⟩=>(cw o0 o1).bind λkK=>(bif kK then some (2,o1)else(ia ⟨x1,x2,x3,⟨false,[]⟩⟩ o0 o1).bind λjC=>(some (decide ((jC:Int)≠0))).bind λeK=>(bif eK then some (jC,o1)else(some (o1.length:Int)).bind λoE=>(some (decide ((1024:Int)<=oE))).bind λnN=>(bif nN then some (5,o1)else(dQ ⟨⟨Dw,Dx⟩,⟨Ps,Pt⟩⟩).bind λ⟨vk,vm⟩=>(vY 56 o1 [⟨x1,x2,x3,⟨vk,vm⟩⟩]).bind λqy=>some (0,qy))))
noncomputable def dc(o0:Int)(o1:List En):Option (List En):=(cw o0 o1).bind λx7=>(bif x7 then some []else(some (o1.length:Int)).bind λgV=>(GC 56 gV (⟨0,0,0,⟨false,[]⟩⟩:En)).bind λiv=>(some (o1.length:Int)).bind λfN=>(cI (λ(s8:Int×(List En))=>match s8 with|⟨Ae,Af⟩=>(show Option ((Int×(List En))⊕((List En)))from(some (decide ((Ae:Int)<fN))).bind λiT=>(bif iT then(qO o1 Ae).bind λjC=>(o1[jC]?).bind λ⟨iy,iz,xh,⟨Ag,JM⟩⟩=>(cK ⟨Ag,JM⟩ ⟨false,[]⟩).bind λ⟨rX,rY⟩=>(qO Af Ae).bind λjE=>(stM Af jE ⟨iy,iz,xh,⟨rX,rY⟩⟩).bind λCg=>(some (IntKind.i64.wrap (Ae+1))).bind λn6=>some (.inl (n6,Cg))else some (.inr Af)))) (0,iv)).bind λvn=>some vn)
noncomputable def eu(o0:Int)(o1:List En):Option (List Zr):=(cw o0 o1).bind λx7=>(bif x7 then some []else(GC 32 o0 (⟨false,[]⟩:Zr)).bind λgV=>(some (o1.length:Int)).bind λgU=>(cI (λ(zJ:Int×(List Zr))=>match zJ with|⟨Cr,vo⟩=>(show Option ((Int×(List Zr))⊕((List Zr)))from(some (decide ((Cr:Int)<gU))).bind λmq=>(bif mq then(qO o1 Cr).bind λiT=>(o1[iT]?).bind λ⟨xe,Cp,Cq,⟨xg,FG⟩⟩=>(qO vo xe).bind λlB=>(vo[lB]?).bind λ⟨Ah,Ai⟩=>(cK ⟨Ah,Ai⟩ ⟨xg,FG⟩).bind λ⟨jG,iV⟩=>(qO vo xe).bind λn6=>(stM vo n6 ⟨jG,iV⟩).bind λGJ=>(qO GJ 0).bind λyU=>(GJ[yU]?).bind λ⟨oa,oc⟩=>(fV ⟨oa,oc⟩ ⟨xg,FG⟩).bind λ⟨l9,mc⟩=>(qO GJ 0).bind λv8=>(stM GJ v8 ⟨l9,mc⟩).bind λYq=>(some (IntKind.i64.wrap (Cr+1))).bind λqy=>some (.inl (qy,Yq))else some (.inr vo)))) (0,gV)).bind λvp=>some vp)
noncomputable def eV(o0:Int)(o1:List En)(x1:Nat):Option (Zr):=(cw o0 o1).bind λgO=>(bif gO then some ⟨false,[]⟩else(some (o1.length:Int)).bind λjD=>(cI (λ(s8:Int×Bool×(List Nat))=>match s8 with|⟨Aj,rz,rA⟩=>(show Option ((Int×Bool×(List Nat))⊕(Bool×(List Nat)))from(some (decide ((Aj:Int)<jD))).bind λfN=>(bif fN then(qO o1 Aj).bind λmq=>(o1[mq]?).bind λ⟨xb,si,xd,⟨u0,JN⟩⟩=>(some (decide ((si:Nat)=x1))).bind λeK=>cW (λ(NA:Bool×(List Nat))=>match NA with|⟨BF,BG⟩=>(some (IntKind.i64.wrap (Aj+1))).bind λgz=>some (.inl (gz,BF,BG))) λK10=>(bif eK then(cK ⟨rz,rA⟩ ⟨u0,JN⟩).bind λ⟨FH,FI⟩=>K10 (FH,FI)else K10 (rz,rA))else some (.inr (rz,rA))))) (0,false,[])).bind λe8=>match e8 with|⟨FJ,FK⟩=>some ⟨FJ,FK⟩)
end
section
open Go.Fw Go.Fw.Z Go.RowKit
instance:JB ah 35:=⟨by kernel_rfl⟩
theorem gp{x0:Qr}{r:Zr}(h:dQ x0=some r):Pure ah 12 [.agg (eQ x0)] (.agg (eZ r)):=by
 obtain⟨⟨bR,bN⟩,⟨gi,gW⟩⟩:=x0;refine bL Try.func12 Y (af Y) (λgA M vs hvs=>?_);unfold dQ at h;refine sr<|bx Y<|al (cs:=[az false,ax]) (by exact⟨au,aB,aq⟩) Y<|dn<|sr ?_;obtain⟨⟨⟨⟨vb,vc⟩,⟨Fy,Fz⟩⟩,Yo⟩,oI,h⟩:=bS h;refine cl (sj oI) ⟨Y,Y,aq⟩<|mv Y<|ex Y Y<|ex Y Y<|al (cs:=[az false,ax,az false,ax]) (by exact⟨au,aB,au,aB,aq⟩) Y<|so Y Y Y<|ag Y<|dn<|sr<|ld Y Y (.k4 Y Y Y Y) ?_;obtain⟨⟨ko,kp⟩,q9,h⟩:=bS h;refine cl (wz q9) ⟨Y,aq⟩<|al (cs:=[az false,ax]) (by exact⟨au,aB,aq⟩) Y<|so Y Y Y<|dn<|qq<|bg mixed<|ld Y Y (.k2 Y Y) ?_;obtain⟨⟨kq,ku⟩,mw,h⟩:=bS h;refine cl (fu mw) ⟨Y,aq⟩ ?_;obtain⟨⟨FA,FB⟩,jY,h⟩:=bS h;refine cl (fy jY) ⟨Y,Y,aq⟩<|al (cs:=[az false,ax]) (by exact⟨au,aB,aq⟩) Y<|so Y Y Y ?_;refine RT.done ⟨by kernel_rfl,?_⟩;refine aV.n<|qq<|qq<|bg mixed<|ld Y Y (.k4 Y Y Y Y)<|ld Y Y (.k2 Y Y) ?_;obtain⟨⟨⟨xe,Cp⟩,⟨Cq,xg⟩⟩,pN,h⟩:=bS h;refine cl (nT pN) ⟨Y,aq⟩ ?_;obtain⟨⟨⟨JD,JE⟩,⟨JF,JG⟩⟩,sO,h⟩:=bS h;refine cl (zY sO) ⟨Y,Y,aq⟩<|ld Y Y (.k4 Y Y Y Y)<|bE h λeK nI h=>cl (zZ nI) ⟨Y,Y,aq⟩ ?_;refine RT.done ⟨by kernel_rfl,?_⟩;refine aV.n<|bn<|sr<|lE h λja qA h=>eq _ Y Y (oA (p:=eK) (q:=(-1)) qA)<|ag Y<|dn ?_;cases ja;refine cF<|sr<|lE (F h) λgz me h=>eq _ Y Y (oA (p:=eK) (q:=1) me)<|ag Y<|dn ?_;cases gz
 refine cF<|bA<|bC.n<|aV.n<|qq<|qq<|bg mixed<|ld Y Y (.k2 Y Y) ?_;obtain⟨⟨vk,vm⟩,tG,h⟩:=bS (F h);refine cl (fu tG) ⟨Y,aq⟩ ?_;obtain⟨⟨⟨Mq,Mr⟩,⟨FC,FD⟩,Yp⟩,oL,h⟩:=bS h;refine cl (mg oL) ⟨Y,Y,aq⟩<|mv Y<|ex Y Y<|ex Y Y<|ex Y Y<|al (cs:=[az false,ax]) (by exact⟨au,aB,aq⟩) Y<|al (cs:=[az false,ax]) (by exact⟨au,aB,aq⟩) Y<|so Y Y Y<|so Y Y Y<|ag Y ?_;refine RT.done ⟨by kernel_rfl,?_⟩;refine aV.n<|sr<|ld Y Y (.k2 Y Y)<|bE h λqz Dr h=>cl (eH Dr) ⟨Y,aq⟩<|lE h λnF r8 h=>eq _ Y Y (oA (p:=qz) (q:=0) r8)<|dn ?_;cases nF;refine fs<|sr<|ld Y Y (.k2 Y Y)<|so Y Y Y<|dn<|bj ?_;obtain rfl:=O (F h);exact RZ (.agg Y Y (.k2 Y Y) Y (.nil));refine cT<|sr<|ld Y Y (.k2 Y Y)<|so Y Y Y<|dn<|bj<|aV.r ?_;obtain rfl:=O (V h);exact RZ (.agg Y Y (.k2 Y Y) Y (.nil));refine cT<|sr<|ld Y Y (.k2 Y Y)<|so Y Y Y<|dn<|bj<|bC.r<|aV.r ?_;obtain rfl:=O (V h);exact RZ (.agg Y Y (.k2 Y Y) Y (.nil));refine cT<|sr<|ld Y Y (.k2 Y Y)<|so Y Y Y<|dn<|bj<|bC.r<|aV.r ?_;obtain rfl:=O (V h);exact RZ (.agg Y Y (.k2 Y Y) Y (.nil))
theorem sn{x0:Int}{r:Int×(List En)}(h:iJ x0=some r):DC ah 28 [ay x0] true [ay 0] 66 [.s (ay r.1),.r (TR 43 5 jT r.2)]:=by
 refine Ad (t1:=2) (t2:=3) Try.func28 Y (af Y) Y (λgA M vs hvs=>?_);unfold iJ at h;refine sr<|ag Y<|ag Y<|dn<|qq<|qq ?_;refine bD h (λj3=>AS.dm 13 [(0,ai x0),(9,aj j3)] [] []) (λh=>?_) (λMs h=>?_);refine aZ<|mv Y<|lE h λx5 h5 h=>ls _ Y Y h5<|mv Y<|bE h λPo qB h=>?_;cases x5;refine gm Y<|lE (F qB) λx8 h8 qB=>gg _ Y Y h8 ?_;obtain rfl:=O qB;exact pF Y<|dn<|⟨x8,h,wR []⟩;obtain rfl:=O (V qB);exact ww<|ww<|pT Y<|dn<|⟨true,h,wR []⟩
 try dsimp only
 refine aV.n ?_;cases Ms;refine fs<|sr<|mv Y<|bI (cs:=[_,_]) (cs':=[ay x0,.v (.slice none 0 0)]) (.one Y (.nil)) ⟨au,au,aq⟩<|bx Y<|an (s:=.ptr _ _) Y<|ag Y<|dn<|fK (Da 12 1 302 43 5 Y Y Y T)<|bj ?_;obtain rfl:=O (F h);exact⟨.inr Y,12,[302],Y,Y,Y,⟨Y,aq⟩,by decide⟩;refine cT<|sr<|ag Y<|ag Y<|dn<|bj<|aV.r ?_;replace h:=V h;cases h
theorem fz{o0:Int}{o1:List En}{r:Bool}(h:cw o0 o1=some r):yt ah 50 [.ptr 1000 0] 66 [.s (ay o0),.r (TR 43 5 jT o1)] (az r):=by
 refine iI [1001] Try.func50 Y (af Y) Y (by decide) Y Y ⟨⟨_,Y⟩,aq,aq⟩ (λgA M β us=>?_);unfold cw at h;refine sr<|ag Y<|dn<|qq ?_;refine bD h (λj3=>AS.dm 12 [(2,aj j3)] [(1000,⟨66,[ai o0,.row 1001]⟩)] [(1001,TR 43 5 jT o1)]) (λh=>?_) (λPp h=>?_);refine aZ<|mo (s:=.ptr _ _) Y<|RT.Mm .none Y Y T<|mv Y<|bE h λJH qB h=>RT.move (.some Y Y) (s:=.ptr _ _) Y T<|RT.fH (.some Y Y) Y T<|RT.fieldAddr (.some Y Y) Y T Y<|RT.KU (.some Y Y) Y Y Y T<|lE (F qB) λgO jc qB=>Cd _ Y Y (oA (p:=o0) (q:=0) jc) ?_;obtain rfl:=O qB;exact pF Y<|ag Y<|dn<|⟨gO,h,wR []⟩
 try dsimp only
 refine aV.n<|bj ?_;obtain rfl:=O h;exact⟨.inr Y,cS (.tmp Y (.nil)) au,Y,⟨Y,aq⟩⟩
theorem qc{o0:Int}{o1:List En}{x1:Int}{r:Bool}(h:eU o0 o1 x1=some r):yt ah 58 [.ptr 1000 0,ai x1] 66 [.s (ay o0),.r (TR 43 5 jT o1)] (az r):=by
 refine iI [1001] Try.func58 Y (af Y) Y (by decide) Y Y ⟨⟨_,Y⟩,aq,aq⟩ (λgA M β us=>?_);unfold eU at h;refine sr<|ag Y<|dn<|qq ?_;refine bD h (λj3=>AS.dm 15 [(4,aj j3)] [(1000,⟨66,[ai o0,.row 1001]⟩)] [(1001,TR 43 5 jT o1)]) (λh=>?_) (λPq h=>?_);refine aZ<|mv Y<|lE h λx6 h6 h=>gt _ Y Y h6<|mv Y<|bE h λJI qB h=>?_;cases x6;obtain rfl:=O (F qB);exact ww<|ww<|ww<|ww<|ww<|ww<|pF Y<|ag Y<|dn<|⟨false,h,wR []⟩;refine gm Y<|RT.move (.some Y Y) (s:=.ptr _ _) Y T<|RT.fH (.some Y Y) Y T<|RT.fieldAddr (.some Y Y) Y T Y<|RT.KU (.some Y Y) Y Y Y T<|lE (V qB) λiv mu qB=>RT.lss (.some Y Y) _ Y Y T mu ?_;obtain rfl:=O qB;exact pT Y<|ag Y<|dn<|⟨iv,h,wR []⟩
 try dsimp only
 refine aV.n<|bj ?_;obtain rfl:=O h;exact⟨.inr Y,cS (.tmp Y (.nil)) au,Y,⟨Y,aq⟩⟩
theorem wA{x0:En}{o0:Int}{o1:List En}{r:Int}(h:ia x0 o0 o1=some r):yt ah 57 [.sv (.agg (jT x0)),.cmp (.M9 58) [.box 1000]] 66 [.s (ay o0),.r (TR 43 5 jT o1)] (ay r):=by
 obtain⟨bR,bN,gi,⟨gW,Pr⟩⟩:=x0;refine iI [1001] Try.func57 Y (af Y) Y (by decide) Y Y ⟨⟨_,Y⟩,aq,aq⟩ (λgA M β us=>?_);unfold ia at h;refine sr<|bx Y<|ag Y<|dn<|qq<|sr<|mo (s:=.cmp _ _) Y<|fa Y Y<|lV Y Y Y<|bE h λx8 h8 h=>RT.HT .none (qc h8) 1000 [1001] Y ⟨Y,aq⟩ (by decide) Y Y (.cons Y (.nil)) T<|lE h λx9 h9 h=>nt Y _ h9<|dn ?_;cases x9;refine fs<|qq<|qq ?_;refine bD (F h) (λj3=>AS.dm 26 [(2,.ptr 2 0),(17,aj j3)] [(1000,⟨66,[ai o0,.row 1001]⟩),(2,⟨43,[ai bR,.sv (.v (.int .u8 ((bN:Nat):Int))),ai gi,aj gW,.sv (slc 1 (List.map aX Pr))]⟩)] [(1001,TR 43 5 jT o1)]) (λh=>?_) (λFE h=>?_);refine aZ<|fa Y Y<|lV Y Y Y<|lE h λgV kQ h=>ls _ Y Y (Nm (p:=bN) (q:=1) kQ)<|mv Y<|bE h λJK HI h=>?_;cases gV;refine RT.fieldAddr (.some Y Y) Y T Y<|RT.KU (.some Y Y) Y Y Y T<|lE (F HI) λjD oK HI=>gg _ Y Y (Nm (p:=4) (q:=bN) oK) ?_;obtain rfl:=O HI;exact pF Y<|dn<|⟨jD,h,wR []⟩;obtain rfl:=O (V HI);exact ww<|ww<|ww<|pT Y<|dn<|⟨true,h,wR []⟩
 try dsimp only
 refine aV.n ?_;cases FE;refine fs<|qq<|qq ?_;refine bD (F h) (λj6=>AS.dm 26 [(25,aj j6)] [(1000,⟨66,[ai o0,.row 1001]⟩)] [(1001,TR 43 5 jT o1)]) (λh=>?_) (λFF h=>?_);refine aZ<|fa Y Y<|lV Y Y Y<|lE h λiT nP h=>ls _ Y Y nP<|mv Y<|bE h λJJ Tu h=>?_;cases iT;refine RT.fieldAddr (.some Y Y) Y T Y<|RT.KU (.some Y Y) Y Y Y T<|lE (F Tu) λeK nI Tu=>RT.geq (.some Y Y) _ Y Y T nI ?_;obtain rfl:=O Tu;exact pF Y<|dn<|⟨eK,h,wR []⟩;obtain rfl:=O (V Tu);exact ww<|ww<|ww<|pT Y<|dn<|⟨true,h,wR []⟩
 try dsimp only
 refine aV.n ?_;cases FF;refine fs<|sr<|ag Y<|dn<|bj ?_;obtain rfl:=O (F h);exact⟨.inr Y,cS (.tmp Y (.nil)) au,Y,⟨Y,aq⟩⟩;refine cT<|sr<|ag Y<|dn<|bj<|aV.r ?_;obtain rfl:=O (V h);exact⟨.inr Y,cS (.tmp Y (.nil)) au,Y,⟨Y,aq⟩⟩;refine cT<|sr<|ag Y<|dn<|bj<|aV.r ?_;obtain rfl:=O (V h);exact⟨.inr Y,cS (.tmp Y (.nil)) au,Y,⟨Y,aq⟩⟩;refine cT<|sr<|ag Y<|dn<|bj<|aV.r ?_;obtain rfl:=O (V h);exact⟨.inr Y,cS (.tmp Y (.nil)) au,Y,⟨Y,aq⟩⟩
theorem c9{o0:Int}{o1:List En}{x1:Int}{x2:Nat}{x3:Int}{x4:Qr}{r:Int×(List En)}(h:bQ o0 o1 x1 x2 x3 x4=some r):Mk ah 25 [.ptr 1000 0,ai x1,.sv (.v (.int .u8 ((x2:Nat):Int))),ai x3,.sv (.agg (eQ x4))] 66 [.s (ay o0),.r (TR 43 5 jT o1)] (ay r.1) [.s (ay o0),.r (TR 43 5 jT r.2)]:=by
 obtain⟨⟨Dw,Dx⟩,⟨Ps,Pt⟩⟩:=x4;refine BD [1001] Try.func25 Y (af Y) Y (by decide) Y (λgA M β us=>?_);unfold bQ at h;refine sr<|bx Y<|ag Y<|dn<|qq<|sr<|mo (s:=.ptr _ _) Y<|bE h λkK r7 h=>RT.jL .none (fz r7) 1000 [1001] Y ⟨Y,aq⟩ (by decide) Y Y (.cons Y (.nil)) T<|dn ?_;cases kK;refine fs<|sr<|mv Y<|mv Y<|mv Y<|bI (cs:=[_,_,_,_,_]) (cs':=[ay x1,.v (.int .u8 ((x2:Nat):Int)),ay x3,az false,ax]) (.one Y (.one Y (.one Y (.nil)))) ⟨au,au,au,au,aB,aq⟩<|al (cs:=[ay 0,.v (.int .u8 ((0:Nat):Int)),ay 0,az false,ax]) (by exact⟨au,au,au,au,aB,aq⟩) Y ?_;refine so Y Y Y<|dn<|qq<|sr<|ld Y Y (.cons Y (.k4 Y Y Y Y))<|mo (s:=.ptr _ _) Y<|RT.HS .none Y T<|bE (F h) λjC sO h=>RT.jL .none (wA sO) 1000 [1001] Y ⟨Y,aq⟩ (by decide) Y Y (.k2 Y Y) T<|ag Y<|dn<|sr<|mv Y<|lE h λeK nI h=>ne _ Y Y (Nl (p:=jC) (q:=0) nI)<|dn ?_;cases eK;refine fs<|qq<|sr<|mo (s:=.ptr _ _) Y<|RT.fH .none Y T<|fa Y Y<|RT.j9 .none (s:=.row _) Y Y Y T<|lE (F h) λoE yf h=>lL Y Y yf<|lE h λnN yV h=>ge _ Y Y yV<|dn ?_;cases nN;refine fs<|sr<|ld Y Y (.k4 Y Y Y Y) ?_;obtain⟨⟨vk,vm⟩,tG,h⟩:=bS (F h)
 refine cl (gp tG) ⟨Y,aq⟩<|fa Y Y<|RT.D6 (cells:=[_,_,_,_,_]) .none Y Y Y Y T Y<|dn<|qq<|bg mixed<|mo (s:=.ptr _ _) Y<|mo (s:=.ptr _ _) Y<|RT.fH .none Y T<|fa Y Y<|RT.j9 .none (s:=.row _) Y Y Y T<|ld Y Y (.cons Y (.k4 Y Y Y Y))<|bl (l:=[⟨x1,x2,x3,⟨vk,vm⟩⟩]) (e:=jT) (.agg Y (.nil)) Y Y Y Y Y Y ?_;refine bE h λqy zP h=>aR (k:=[⟨x1,x2,x3,⟨vk,vm⟩⟩]) (e:=jT) Y Y Y zP<|RT.fH .none Y T<|fa Y Y<|RT.uh (cells:=[_,_]) .none Y Y Y Y T Y ?_;refine RT.done ⟨by kernel_rfl,?_⟩;refine aV.n<|sr<|ag Y<|dn<|bj ?_;obtain rfl:=O h;exact⟨.inr Y,cS (.tmp Y (.nil)) au,[42],Y,⟨Y,aq⟩,by decide⟩;refine cT<|sr<|ag Y<|dn<|bj<|aV.r ?_;obtain rfl:=O (V h);exact⟨.inr Y,cS (.tmp Y (.nil)) au,[1001],Y,⟨Y,aq⟩,by decide⟩;refine cT<|sr<|mv Y<|ag Y<|dn<|bj<|aV.r ?_;obtain rfl:=O (V h);exact⟨.inr Y,cS (.tmp Y (.nil)) au,[1001],Y,⟨Y,aq⟩,by decide⟩;refine cT<|sr<|ag Y<|dn<|bj<|aV.r ?_;obtain rfl:=O (V h);exact⟨.inr Y,cS (.tmp Y (.nil)) au,[1001],Y,⟨Y,aq⟩,by decide⟩
theorem iY{o0:Int}{o1:List En}{r:List En}(h:dc o0 o1=some r):yt ah 17 [.ptr 1000 0] 66 [.s (ay o0),.r (TR 43 5 jT o1)] (slc 5 (List.map jT r)):=by
 refine iI [1001] Try.func17 Y (af Y) Y (by decide) Y Y ⟨⟨_,Y⟩,aq,aq⟩ (λgA M β us=>?_);unfold dc at h;refine sr<|aI Y (aB (n:=5) (e:=jT))<|dn<|qq<|sr<|mo (s:=.ptr _ _) Y<|bE h λx7 h7 h=>RT.jL .none (fz h7) 1000 [1001] Y ⟨Y,aq⟩ (by decide) Y Y (.cons Y (.nil)) T<|dn ?_;cases x7;refine fs<|sr<|mo (s:=.ptr _ _) Y<|RT.fH .none Y T<|fa Y Y<|RT.j9 .none (s:=.row _) Y Y Y T<|lE (F h) λgV kQ h=>lL Y Y kQ<|bE h λiv mu h=>RT.zA (n:=5) (e:=jT) .none Y Y T Y T (by rfl) (by decide) (by exact⟨au,au,au,au,aB,aq⟩) mu<|an (s:=.row _) Y<|dn<|qq<|sr<|mo (s:=.ptr _ _) Y<|RT.fH .none Y T ?_;refine fa Y Y<|RT.j9 .none (s:=.row _) Y Y Y T<|lE h λfN jY h=>lL Y Y jY<|mv Y<|dn<|bE h λe8 E9 wj=>?_;refine bX (λ(vn:(List En))=>AS.dm 35 [(3,.row 13)] [(1000,⟨66,[ai o0,.row 1001]⟩)] [(13,TR 43 5 jT vn),(1001,TR 43 5 jT o1)]) (λvn=>vn=e8) ?_ (λvn Fa=>?_);refine bn ?_;refine bY E9 (λs8=>AS.dm 35 [(3,.row 13),(17,.row 1001),(18,ai fN),(19,ai s8.1)] [(1000,⟨66,[ai o0,.row 1001]⟩)] [(13,TR 43 5 jT s8.2),(1001,TR 43 5 jT o1)]) (wR []) (λs8 y8 G8 h Fb Fe=>?_);obtain⟨Ae,Af⟩:=s8
 try dsimp only
 refine sr<|lE h λiT nP h=>ls _ Y Y nP<|dn<|qq ?_;cases iT;refine cF<|cq<|aV.x<|aV.x<|bC.x<|aV.n ?_;obtain rfl:=O (F h);exact⟨Af,Fe _ Y,wR []⟩;refine cT<|bA<|aV.n<|qq<|bn<|sr<|mv Y<|bE (V h) λjC sO h=>iR Y Y Y sO ?_;obtain⟨⟨iy,iz,xh,⟨Ag,JM⟩⟩,oJ,h⟩:=bS h;refine lA Y Y oJ<|al (cs:=[ay 0,.v (.int .u8 ((0:Nat):Int)),ay 0,az false,ax]) (by exact⟨au,au,au,au,aB,aq⟩) Y<|ag Y<|so Y Y Y<|dn<|sr<|fa Y Y<|ld Y Y (.k2 Y Y)<|bI (cs:=[_,_]) (cs':=[az false,ax]) (.nil) ⟨au,aB,aq⟩ ?_;obtain⟨⟨rX,rY⟩,r9,h⟩:=bS h;refine cl (fy r9) ⟨Y,Y,aq⟩<|fa Y Y<|RT.D6 (cells:=[_,_,_,_,_]) .none Y Y Y Y T Y<|dn<|aZ<|mo (s:=.row _) Y<|mv Y<|ld Y Y (.cons Y (.k4 Y Y Y Y))<|bE h λjE n9 h=>iR Y Y Y n9<|bE h λCg Ff h=>sA ⟨iy,iz,xh,⟨rX,rY⟩⟩ Y Y Y Ff<|RT.done<|bC.n<|aV.n<|aZ<|lE h λn6 tG h=>ad _ Y Y tG<|mv Y ?_;refine RT.done ?_;obtain rfl:=O h;exact aV.n ⟨(n6,Cg),Fb _ Y,wR []⟩;subst Fa
 try dsimp only
 refine aV.n<|sr<|mo (s:=.row _) Y<|an (s:=.row _) Y<|dn<|fK (qQ (i:=13) (E1:=43) (n:=5) (e:=jT) (l:=vn) Y)<|bj ?_;obtain rfl:=O wj;exact⟨.inr Y,cS (.tmp Y (.nil)) au,Y,⟨Y,aq⟩⟩;refine cT<|sr<|aI Y (aB (n:=5) (e:=jT))<|dn<|bj<|aV.r ?_;obtain rfl:=O (V h);exact⟨.inr Y,cS (.tmp Y (.nil)) au,Y,⟨Y,aq⟩⟩
theorem kY{o0:Int}{o1:List En}{r:List Zr}(h:eu o0 o1=some r):yt ah 16 [.ptr 1000 0] 66 [.s (ay o0),.r (TR 43 5 jT o1)] (slc 2 (List.map eZ r)):=by
 refine iI [1001] Try.func16 Y (af Y) Y (by decide) Y Y ⟨⟨_,Y⟩,aq,aq⟩ (λgA M β us=>?_);unfold eu at h;refine sr<|aI Y (aB (n:=2) (e:=eZ))<|dn<|qq<|sr<|mo (s:=.ptr _ _) Y<|bE h λx7 h7 h=>RT.jL .none (fz h7) 1000 [1001] Y ⟨Y,aq⟩ (by decide) Y Y (.cons Y (.nil)) T<|dn ?_;cases x7;refine fs<|sr<|mo (s:=.ptr _ _) Y<|RT.fH .none Y T<|fa Y Y<|lV Y Y Y<|bE (F h) λgV kQ h=>RT.zA (n:=2) (e:=eZ) .none Y Y T Y T (by rfl) (by decide) (by exact⟨au,aB,aq⟩) kQ<|an (s:=.row _) Y<|dn<|qq<|sr<|mo (s:=.ptr _ _) Y<|RT.fH .none Y T<|fa Y Y<|RT.j9 .none (s:=.row _) Y Y Y T<|lE h λgU mw h=>lL Y Y mw ?_;refine mv Y<|dn<|bE h λLQ Bs ye=>?_;refine bX (λ(vp:(List Zr))=>AS.dm 44 [(3,.row 12)] [(1000,⟨66,[ai o0,.row 1001]⟩)] [(12,TR 24 2 eZ vp),(1001,TR 43 5 jT o1)]) (λvp=>vp=LQ) ?_ (λvp Bt=>?_);refine bn ?_;refine bY Bs (λzJ=>AS.dm 44 [(3,.row 12),(16,.row 1001),(17,ai gU),(18,ai zJ.1)] [(1000,⟨66,[ai o0,.row 1001]⟩)] [(12,TR 24 2 eZ zJ.2),(1001,TR 43 5 jT o1)]) (wR []) (λzJ Wo Wp h Bu zM=>?_);obtain⟨Cr,vo⟩:=zJ
 try dsimp only
 refine sr<|lE h λmq qZ h=>ls _ Y Y qZ<|dn<|qq ?_;cases mq;refine cF<|cq<|aV.x<|aV.x<|bC.x<|aV.n ?_;obtain rfl:=O (F h);exact⟨vo,zM _ Y,wR []⟩;refine cT<|bA<|aV.n<|qq<|bn<|sr<|bE (V h) λiT nP h=>iR Y Y Y nP ?_;obtain⟨⟨xe,Cp,Cq,⟨xg,FG⟩⟩,pN,h⟩:=bS h;refine lA Y Y pN<|al (cs:=[ay 0,.v (.int .u8 ((0:Nat):Int)),ay 0,az false,ax]) (by exact⟨au,au,au,au,aB,aq⟩) Y<|so Y Y Y<|dn<|qq<|bg mixed<|mo (s:=.row _) Y<|fa Y Y<|lV Y Y Y<|mo (s:=.row _) Y<|fa Y Y<|lV Y Y Y<|bE h λlB uR h=>iR Y Y Y uR ?_;obtain⟨⟨Ah,Ai⟩,me,h⟩:=bS h;refine lA Y Y me<|fa Y Y<|ld Y Y (.k2 Y Y) ?_;obtain⟨⟨jG,iV⟩,n9,h⟩:=bS h;refine cl (fy n9) ⟨Y,Y,aq⟩<|bE h λn6 tG h=>iR Y Y Y tG<|bE h λGJ Pu h=>sA ⟨jG,iV⟩ Y Y Y Pu ?_;refine RT.done ⟨by kernel_rfl,?_⟩;refine aV.n<|bg mixed<|mo (s:=.row _) Y<|mo (s:=.row _) Y<|bE h λyU zR h=>iR Y Y Y zR ?_;obtain⟨⟨oa,oc⟩,zQ,h⟩:=bS h;refine lA Y Y zQ<|fa Y Y<|ld Y Y (.k2 Y Y) ?_;obtain⟨⟨l9,mc⟩,r8,h⟩:=bS h;refine cl (yg r8) ⟨Y,Y,aq⟩<|bE h λv8 Bv h=>iR Y Y Y Bv<|bE h λYq Pv h=>sA ⟨l9,mc⟩ Y Y Y Pv ?_;refine RT.done ⟨by kernel_rfl,?_⟩;refine bC.n<|aV.n<|aZ<|lE h λqy zP h=>ad _ Y Y zP<|mv Y<|RT.done ?_;obtain rfl:=O h;exact aV.n ⟨(qy,Yq),Bu _ Y,wR []⟩;subst Bt
 try dsimp only
 refine aV.n<|sr<|mo (s:=.row _) Y<|an (s:=.row _) Y<|dn<|fK (qQ (i:=12) (E1:=24) (n:=2) (e:=eZ) (l:=vp) Y)<|bj ?_;obtain rfl:=O ye;exact⟨.inr Y,cS (.tmp Y (.nil)) au,Y,⟨Y,aq⟩⟩;refine cT<|sr<|aI Y (aB (n:=2) (e:=eZ))<|dn<|bj<|aV.r ?_;obtain rfl:=O (V h);exact⟨.inr Y,cS (.tmp Y (.nil)) au,Y,⟨Y,aq⟩⟩
theorem mm{o0:Int}{o1:List En}{x1:Nat}{r:Zr}(h:eV o0 o1 x1=some r):yt ah 19 [.ptr 1000 0,.sv (.v (.int .u8 ((x1:Nat):Int)))] 66 [.s (ay o0),.r (TR 43 5 jT o1)] (.agg (eZ r)):=by
 refine iI [1001] Try.func19 Y (af Y) Y (by decide) Y Y ⟨⟨_,Y⟩,aq,aq⟩ (λgA M β us=>?_);unfold eV at h;refine sr<|al (cs:=[az false,ax]) (by exact⟨au,aB,aq⟩) Y<|dn<|sr<|bI (cs:=[_,_]) (cs':=[az false,ax]) (.nil) ⟨au,aB,aq⟩<|al (cs:=[az false,ax]) (by exact⟨au,aB,aq⟩) Y<|so Y Y Y<|dn<|qq<|sr<|mo (s:=.ptr _ _) Y<|bE h λgO jc h=>RT.jL .none (fz jc) 1000 [1001] Y ⟨Y,aq⟩ (by decide) Y Y (.cons Y (.nil)) T ?_;refine dn ?_;cases gO;refine fs<|qq<|sr<|mo (s:=.ptr _ _) Y<|RT.fH .none Y T<|fa Y Y<|RT.j9 .none (s:=.row _) Y Y Y T<|lE (F h) λjD oK h=>lL Y Y oK<|mv Y<|dn<|bE h λe8 E9 wj=>?_;refine bX (λ(ri:Bool×(List Nat))=>AS.dm 31 [(4,.ptr 4 0),(5,.ptr 5 0)] [(1000,⟨66,[ai o0,.row 1001]⟩),(5,⟨24,[aj ri.1,.sv (slc 1 (List.map aX ri.2))]⟩),(4,⟨24,[aj false,.sv ax]⟩)] [(1001,TR 43 5 jT o1)]) (λri=>ri=e8) ?_ (λri Fa=>?_);refine bn ?_;refine bY E9 (λs8=>AS.dm 31 [(1,.sv (.v (.int .u8 ((x1:Nat):Int)))),(4,.ptr 4 0),(5,.ptr 5 0),(15,.row 1001),(16,ai jD),(17,ai s8.1)] [(1000,⟨66,[ai o0,.row 1001]⟩),(5,⟨24,[aj s8.2.1,.sv (slc 1 (List.map aX s8.2.2))]⟩),(4,⟨24,[aj false,.sv ax]⟩)] [(1001,TR 43 5 jT o1)]) (wR []) (λs8 y8 G8 h Fb Fe=>?_);obtain⟨Aj,rz,rA⟩:=s8
 try dsimp only
 refine sr<|lE h λfN jY h=>ls _ Y Y jY<|dn<|qq ?_;cases fN;refine cF<|cq<|aV.x<|aV.x<|bC.x<|aV.n ?_;obtain rfl:=O (F h);exact⟨(rz,rA),Fe _ Y,wR []⟩;refine cT<|bA<|aV.n<|qq<|bn<|sr<|bE (V h) λmq qZ h=>iR Y Y Y qZ ?_;obtain⟨⟨xb,si,xd,⟨u0,JN⟩⟩,nP,h⟩:=bS h;refine lA Y Y nP<|al (cs:=[ay 0,.v (.int .u8 ((0:Nat):Int)),ay 0,az false,ax]) (by exact⟨au,au,au,au,aB,aq⟩) Y<|so Y Y Y<|dn<|sr<|fa Y Y<|lV Y Y Y<|mv Y<|lE h λeK nI h=>eq _ Y Y (Ob (p:=si) (q:=x1) nI)<|dn ?_;refine bD h (λNA=>AS.dm 31 [(1,.sv (.v (.int .u8 ((x1:Nat):Int)))),(4,.ptr 4 0),(5,.ptr 5 0),(15,.row 1001),(16,ai jD),(17,ai Aj)] [(1000,⟨66,[ai o0,.row 1001]⟩),(5,⟨24,[aj NA.1,.sv (slc 1 (List.map aX NA.2))]⟩),(4,⟨24,[aj false,.sv ax]⟩)] [(1001,TR 43 5 jT o1)]) (λh=>?_) (λNA h=>?_);cases eK;exact fs<|⟨(rz,rA),(F h),wR []⟩;refine cT<|aZ<|ld Y Y (.k2 Y Y)<|fa Y Y<|ld Y Y (.k2 Y Y) ?_;obtain⟨⟨FH,FI⟩,uR,h⟩:=bS (V h);exact cl (fy uR) ⟨Y,Y,aq⟩<|so Y Y Y<|dn<|⟨(FH,FI),h,wR []⟩;obtain⟨BF,BG⟩:=NA
 try dsimp only
 refine bC.n<|aV.n<|aZ<|lE h λgz me h=>ad _ Y Y me<|mv Y<|RT.done ?_;obtain rfl:=O h;exact aV.n ⟨(gz,BF,BG),Fb _ Y,wR []⟩;subst Fa;obtain⟨FJ,FK⟩:=ri
 try dsimp only
 refine aV.n<|sr<|ld Y Y (.k2 Y Y)<|so Y Y Y<|dn<|bj ?_;obtain rfl:=O wj;exact⟨.inr Y,cS (.agg Y Y (.k2 Y Y) Y (.nil)) au,Y,⟨Y,aq⟩⟩;refine cT<|sr<|ld Y Y (.k2 Y Y)<|so Y Y Y<|dn<|bj<|aV.r ?_;obtain rfl:=O (V h);exact⟨.inr Y,cS (.agg Y Y (.k2 Y Y) Y (.nil)) au,Y,⟨Y,aq⟩⟩
end
section
open Go.Fw
noncomputable def dB(x0:Zr)(x1:Zr):Option (Bool):=match x0 with|⟨bR,bN⟩=>match x1 with|⟨dj,cY⟩=>cW (λ(vq:Bool)=>(bif vq then some false else(cI (λ(sN:Int)=>(show Option ((Int)⊕((Unit)⊕(Bool)))from(some (bN.length:Int)).bind λjd=>(some (decide ((sN:Int)<jd))).bind λeK=>(bif eK then(c7 bN sN).bind λoE=>(c7 cY sN).bind λnO=>(some (decide ((oE:Nat)≠nO))).bind λwV=>(bif wV then some (.inr (.inr false))else(some (IntKind.i64.wrap (sN+1))).bind λja=>some (.inl ja))else some (.inr (.inl ()))))) 0).bind λe9=>match e9 with|.inr v9=>some v9|.inl _=>some true)) λK3=>(some (!(bR==dj))).bind λgO=>(bif gO then some true else(some (bN.length:Int)).bind λkK=>(some (cY.length:Int)).bind λgU=>(some (decide ((kK:Int)≠gU))).bind λfN=>some fN).bind λFL=>K3 FL
end
section
open Go.Fw Go.Fw.Z Go.RowKit
theorem kH{x0:Zr}{x1:Zr}{r:Bool}(h:dB x0 x1=some r):Pure ah 11 [.agg (eZ x0),.agg (eZ x1)] (az r):=by
 obtain⟨bR,bN⟩:=x0;obtain⟨dj,cY⟩:=x1;refine bL Try.func11 Y (af Y) (λgA M vs hvs=>?_);unfold dB at h;refine sr<|bx Y<|bx Y<|ag Y<|dn<|qq<|qq ?_;refine bD h (λj3=>AS.dm 38 [(2,.ptr 2 0),(3,.ptr 3 0),(19,aj j3)] [(3,⟨24,[aj dj,.sv (slc 1 (List.map aX cY))]⟩),(2,⟨24,[aj bR,.sv (slc 1 (List.map aX bN))]⟩)] []) (λh=>?_) (λvq h=>?_);refine aZ<|fa Y Y<|lV Y Y Y<|fa Y Y<|lV Y Y Y<|lE h λgO jc h=>RT.GQ .none _ Y Y T jc<|mv Y<|bE h λFL Ak h=>?_;cases gO;refine RT.fieldAddr (.some Y Y) Y T Y<|RT.KU (.some Y Y) Y Y Y T<|lE (F Ak) λkK r7 Ak=>gn Y r7<|RT.fieldAddr (.some Y Y) Y T Y<|RT.KU (.some Y Y) Y Y Y T<|lE Ak λgU mw Ak=>gn Y mw<|lE Ak λfN jY Ak=>gq _ Y Y (Nl (p:=kK) (q:=gU) jY) ?_;obtain rfl:=O Ak;exact pF Y<|dn<|⟨fN,h,wR []⟩;obtain rfl:=O (V Ak);exact ww<|ww<|ww<|ww<|ww<|ww<|ww<|pT Y<|dn<|⟨true,h,wR []⟩
 try dsimp only
 refine aV.n ?_;cases vq;refine fs<|qq<|sr<|ag Y<|dn<|bE (F h) λe9 hl9 ho9=>?_;refine bX (λ(Yr:Unit)=>AS.dm 38 [] [] []) (λYr=>.inl Yr=e9) ?_ (λYr hx9=>?_);refine bn ?_;refine bY hl9 (λs9=>AS.dm 38 [(2,.ptr 2 0),(3,.ptr 3 0),(5,ai s9)] [(3,⟨24,[aj dj,.sv (slc 1 (List.map aX cY))]⟩),(2,⟨24,[aj bR,.sv (slc 1 (List.map aX bN))]⟩)] []) (wR []) (λsN y9 G9 h hG9 hE9=>?_)
 try dsimp only
 refine qq<|sr<|mv Y<|fa Y Y<|lV Y Y Y<|lE h λjd oJ h=>ln Y oJ<|lE h λeK nI h=>ls _ Y Y nI<|dn ?_;cases eK;refine cF<|cq<|aV.x<|aV.x<|bC.x<|aV.n ?_;obtain rfl:=O (F h);exact⟨(),hE9 _ Y,wR []⟩;refine cT<|bA<|aV.n<|qq<|bn<|qq<|bg mixed<|fa Y Y<|lV Y Y Y<|mv Y<|bE (V h) λoE yf h=>ix Y Y yf<|lr Y Y<|fa Y Y<|lV Y Y Y<|mv Y<|bE h λnO zO h=>ix Y Y zO<|lr Y Y<|lE h λwV zQ h=>ne _ Y Y (Od (p:=oE) (q:=nO) zQ) ?_;refine RT.done ⟨by kernel_rfl,?_⟩;refine aV.n ?_;cases wV;refine cF<|bA<|bC.n<|aV.n<|aZ<|mv Y<|lE (F h) λja qA h=>ad _ Y Y qA<|ag Y<|RT.done ?_;obtain rfl:=O h;exact aV.n ⟨ja,hG9 _ Y,wR []⟩;refine cT<|sr<|ag Y<|dn<|bj<|bC.r<|aV.r ?_;obtain rfl:=O (V h);have he9:=hE9 _ Y;subst he9;refine aV.r<|bC.r<|aV.r<|aV.r ?_;obtain rfl:=O ho9;exact R1 Y;subst hx9
 try dsimp only
 refine aV.n<|sr<|ag Y<|dn<|bj ?_;obtain rfl:=O ho9;exact R1 Y;refine cT<|sr<|ag Y<|dn<|bj<|aV.r ?_;obtain rfl:=O (V h);exact R1 Y
end
section
open Go.Fw
noncomputable def eC(x0:List (List Qr)):Option (Bool):=(cI (λ(NB:Int×Int)=>match NB with|⟨Pw,yx⟩=>(show Option ((Int×Int)⊕((Unit)⊕(Bool)))from(some (x0.length:Int)).bind λx8=>(some (decide ((yx:Int)<x8))).bind λx9=>(bif x9 then(c7 x0 yx).bind λkK=>(some (kK.length:Int)).bind λjD=>(some (decide ((40:Int)<jD))).bind λgU=>(bif gU then some (.inr (.inr true))else(cI (λ(NC:Int×Int)=>match NC with|⟨Cs,Al⟩=>(show Option ((Int×Int)⊕(Int))from(c7 x0 yx).bind λiU=>(some (iU.length:Int)).bind λjd=>(some (decide ((Al:Int)<jd))).bind λeK=>(bif eK then(some (IntKind.i64.wrap (Cs+1))).bind λlB=>(c7 x0 yx).bind λnN=>(c7 nN Al).bind λ⟨⟨w9,sg⟩,⟨JO,JP⟩⟩=>(some (sg.length:Int)).bind λtw=>(some (min (100:Int) tw)).bind λqz=>(some (IntKind.i64.wrap (lB+qz))).bind λnF=>(c7 x0 yx).bind λyS=>(c7 yS Al).bind λ⟨⟨Am,An⟩,⟨JQ,Ct⟩⟩=>(some (Ct.length:Int)).bind λtC=>(some (min (100:Int) tC)).bind λGF=>(some (IntKind.i64.wrap (nF+GF))).bind λwc=>(some (IntKind.i64.wrap (Al+1))).bind λja=>some (.inl (wc,ja))else some (.inr Cs)))) (Pw,0)).bind λsq=>(some (decide ((400:Int)<sq))).bind λLO=>(bif LO then some (.inr (.inr true))else(some (IntKind.i64.wrap (yx+1))).bind λkI=>some (.inl (sq,kI))))else some (.inr (.inl ()))))) (0,0)).bind λYs=>match Ys with|.inr v16=>some v16|.inl _=>some false
end
section
open Go.Fw Go.Fw.Z Go.RowKit
theorem wB{x0:List (List Qr)}{r:Bool}(h:eC x0=some r):Pure ah 9 [slc 1 (List.map (eS 4 eQ) x0)] (az r):=by
 refine bL Try.func9 Y (af Y) (λgA M vs hvs=>?_);unfold eC at h;refine sr<|ag Y<|dn<|sr<|ag Y<|dn<|qq<|sr<|ag Y<|dn<|bE h λYs Yt Mt=>?_;refine bX (λ(Mu:Unit)=>AS.dm 55 [] [] []) (λMu=>.inl Mu=Ys) ?_ (λMu Yu=>?_);refine bn ?_;refine bY Yt (λNB=>AS.dm 55 [(0,.sv (slc 1 (List.map (eS 4 eQ) x0))),(3,ai NB.1),(4,ai NB.2)] [] []) (wR []) (λNB y16 G16 h Yv Mw=>?_);obtain⟨Pw,yx⟩:=NB
 try dsimp only
 refine qq<|sr<|mv Y<|mv Y<|lE h λx8 h8 h=>ln Y h8<|lE h λx9 h9 h=>ls _ Y Y h9<|dn ?_;cases x9;refine cF<|cq<|aV.x<|aV.x<|bC.x<|aV.n ?_;obtain rfl:=O (F h);exact⟨(),Mw _ Y,wR []⟩;refine cT<|bA<|aV.n<|qq<|bn<|qq<|sr<|mv Y<|mv Y<|bE (V h) λkK r7 h=>ix Y Y r7<|lr Y Y<|lE h λjD oK h=>ln Y oK<|lE h λgU mw h=>gt _ Y Y mw<|dn ?_;cases gU;refine fs<|qq<|sr<|ag Y<|dn<|bE (F h) λe22 Yw DD=>?_;refine bX (λ(sq:Int)=>AS.dm 55 [(0,.sv (slc 1 (List.map (eS 4 eQ) x0))),(3,ai sq),(4,ai yx)] [] []) (λsq=>sq=e22) ?_ (λsq Yx=>?_);refine bn ?_;refine bY Yw (λNC=>AS.dm 55 [(0,.sv (slc 1 (List.map (eS 4 eQ) x0))),(3,ai NC.1),(4,ai yx),(5,ai NC.2)] [] []) (wR []) (λNC y22 G22 h Yy Yz=>?_);obtain⟨Cs,Al⟩:=NC
 try dsimp only
 refine qq<|sr<|mv Y<|mv Y<|mv Y<|bE h λiU pN h=>ix Y Y pN<|lr Y Y<|lE h λjd oJ h=>ln Y oJ<|lE h λeK nI h=>ls _ Y Y nI<|dn ?_;cases eK;refine cF<|cq<|aV.x<|aV.x<|bC.x<|aV.n ?_;obtain rfl:=O (F h);exact⟨Cs,Yz _ Y,wR []⟩;refine cT<|bA<|aV.n<|qq<|bn<|bg mixed<|mv Y<|lE (V h) λlB uR h=>ad _ Y Y uR<|mv Y<|mv Y<|bE h λnN yV h=>ix Y Y yV<|lr Y Y<|mv Y ?_;obtain⟨⟨⟨w9,sg⟩,⟨JO,JP⟩⟩,oL,h⟩:=bS h;refine ix Y Y oL<|RT.dZ .none Y T Y<|RT.dZ .none Y T Y<|lr Y Y<|lE h λtw Dj h=>ln Y Dj<|lE h λqz Dr h=>RT.min .none _ Y Y T (Oe (p:=100) (q:=tw) Dr)<|lE h λnF r8 h=>ad _ Y Y r8<|mv Y<|mv Y<|bE h λyS GH h=>ix Y Y GH<|lr Y Y<|mv Y ?_;obtain⟨⟨⟨Am,An⟩,⟨JQ,Ct⟩⟩,h46,h⟩:=bS h;refine ix Y Y h46<|RT.dZ .none Y T Y<|RT.dZ .none Y T Y<|lr Y Y<|lE h λtC Dm h=>ln Y Dm<|lE h λGF E7 h=>RT.min .none _ Y Y T (Oe (p:=100) (q:=tC) E7)<|lE h λwc E8 h=>ad _ Y Y E8<|ag Y ?_;refine RT.done ⟨by kernel_rfl,?_⟩;refine bC.n<|aV.n<|aZ<|mv Y<|lE h λja qA h=>ad _ Y Y qA<|ag Y<|RT.done ?_;obtain rfl:=O h;exact aV.n ⟨(wc,ja),Yy _ Y,wR []⟩;subst Yx
 try dsimp only
 refine aV.n<|sr<|mv Y<|lE DD λLO Ts DD=>gt _ Y Y Ts<|dn ?_;cases LO;refine cF<|bA<|bC.n<|aV.n<|aZ<|mv Y<|lE (F DD) λkI oI DD=>ad _ Y Y oI<|ag Y<|RT.done ?_;obtain rfl:=O DD;exact aV.n ⟨(sq,kI),Yv _ Y,wR []⟩;refine cT<|sr<|ag Y<|dn<|bj<|bC.r<|aV.r ?_;obtain rfl:=O (V DD);have Mx:=Mw _ Y;subst Mx;refine aV.r<|bC.r<|aV.r<|aV.r ?_;obtain rfl:=O Mt;exact R1 Y;refine cT<|sr<|ag Y<|dn<|bj<|aV.r<|bC.r<|aV.r ?_;obtain rfl:=O (V h);have Mx:=Mw _ Y;subst Mx;refine aV.r<|bC.r<|aV.r<|aV.r ?_;obtain rfl:=O Mt;exact R1 Y;subst Yu
 try dsimp only
 refine aV.n<|sr<|ag Y<|dn<|bj ?_;obtain rfl:=O Mt;exact R1 Y
end
section
open Go.Fw
noncomputable def ic(x0:List Mv):Option (Bool):=(some (x0.length:Int)).bind λx6=>(some (decide ((60:Int)<x6))).bind λx7=>(bif x7 then some true else(cI (λ(tF:Int×(List Qr))=>match tF with|⟨oS,yy⟩=>(show Option ((Int×(List Qr))⊕((Unit)⊕(Bool)))from(some (x0.length:Int)).bind λgO=>(some (decide ((oS:Int)<gO))).bind λkI=>(bif kI then(c7 x0 oS).bind λ⟨kq,ku,Ao,⟨⟨qe,xj⟩,⟨xk,xl⟩⟩⟩=>(vY 64 yy [⟨⟨qe,xj⟩,⟨xk,xl⟩⟩]).bind λiU=>cW (λ(vr:Bool)=>cW (λ(qf:(List Qr))=>(some (IntKind.i64.wrap (oS+1))).bind λiv=>some (.inl (iv,qf))) λPx=>(bif vr then(eC [iU]).bind λjX=>(bif jX then some (.inr (.inr true))else Px [])else Px iU)) λYA=>(some (Int.tmod oS 40)).bind λjd=>(some (decide ((jd:Int)=39))).bind λeK=>(bif eK then some true else(some (x0.length:Int)).bind λlB=>(some (IntKind.i64.wrap (lB-1))).bind λgz=>(some (decide ((oS:Int)=gz))).bind λoE=>some oE).bind λyz=>YA yz else some (.inr (.inl ()))))) (0,[])).bind λDh=>match Dh with|.inr YB=>some YB|.inl _=>some false)
noncomputable def da(x0:Zr)(x1:Int):Option (Bool):=match x0 with|⟨bR,bN⟩=>(bp x1).bind λ⟨Py,Pz⟩=>(dB ⟨bR,bN⟩ ⟨Py,Pz⟩).bind λx8=>some x8
noncomputable def cx(x0:Int)(x1:Int):Option (Qr):=(gI x0 x1).bind λ⟨⟨⟨FM,FN⟩,⟨FO,FP⟩⟩,HB⟩=>some ⟨⟨FM,FN⟩,⟨FO,FP⟩⟩
noncomputable def fI:Option (Bool):=(iJ 3).bind λ⟨kT,zS⟩=>(cx 5 2).bind λ⟨⟨kq,ku⟩,⟨Ao,qe⟩⟩=>(bQ kT zS 1 1 0 ⟨⟨kq,ku⟩,⟨Ao,qe⟩⟩).bind λ⟨fN,l2⟩=>(cx (-7) 1).bind λ⟨⟨xb,si⟩,⟨xd,u0⟩⟩=>(bQ kT l2 2 1 0 ⟨⟨xb,si⟩,⟨xd,u0⟩⟩).bind λ⟨iU,l4⟩=>(cx 1 1).bind λ⟨⟨iy,iz⟩,⟨xh,Ag⟩⟩=>(bQ kT l4 3 1 0 ⟨⟨iy,iz⟩,⟨xh,Ag⟩⟩).bind λ⟨eK,l6⟩=>(cx 1 1).bind λ⟨⟨JR,JS⟩,⟨JU,JV⟩⟩=>(bQ kT l6 0 1 0 ⟨⟨JR,JS⟩,⟨JU,JV⟩⟩).bind λ⟨kF,l8⟩=>(cx 1 1).bind λ⟨⟨Ah,Ai⟩,⟨JW,JX⟩⟩=>(bQ kT l8 1 5 0 ⟨⟨Ah,Ai⟩,⟨JW,JX⟩⟩).bind λ⟨oE,Cg⟩=>(cx 1 1).bind λ⟨⟨jG,iV⟩,⟨pW,pX⟩⟩=>(bQ kT Cg 1 4 8 ⟨⟨jG,iV⟩,⟨pW,pX⟩⟩).bind λ⟨n6,GJ⟩=>(eu kT GJ).bind λnO=>cW (λ(FR:Bool)=>some FR) λYC=>(cx 5 2).bind λ⟨⟨r5,r6⟩,⟨JY,JZ⟩⟩=>(dQ ⟨⟨r5,r6⟩,⟨JY,JZ⟩⟩).bind λ⟨oa,oc⟩=>(da ⟨oa,oc⟩ 2).bind λtw=>(bif tw then(cx 7 2).bind λ⟨⟨l9,mc⟩,⟨zU,zV⟩⟩=>(dQ ⟨⟨l9,mc⟩,⟨zU,zV⟩⟩).bind λ⟨kU,kV⟩=>(da ⟨kU,kV⟩ 4).bind λqy=>some qy else some false).bind λCu=>(bif Cu then(cx (-5) 2).bind λ⟨⟨J0,J1⟩,⟨J2,J3⟩⟩=>(dQ ⟨⟨J0,J1⟩,⟨J2,J3⟩⟩).bind λ⟨Am,An⟩=>(da ⟨Am,An⟩ (-2)).bind λzG=>some zG else some false).bind λHU=>(bif HU then(cx 8 3).bind λ⟨⟨J4,J5⟩,⟨J6,J7⟩⟩=>(dQ ⟨⟨J4,J5⟩,⟨J6,J7⟩⟩).bind λ⟨pM,uQ⟩=>(da ⟨pM,uQ⟩ 3).bind λwc=>some wc else some false).bind λHV=>(bif HV then(some (decide ((fN:Int)=0))).bind λHx=>some Hx else some false).bind λHW=>(bif HW then(some (decide ((iU:Int)=0))).bind λDc=>some Dc else some false).bind λHX=>(bif HX then(some (decide ((eK:Int)=1))).bind λMy=>some My else some false).bind λHY=>(bif HY then(some (decide ((kF:Int)=1))).bind λLy=>some Ly else some false).bind λHZ=>(bif HZ then(some (decide ((oE:Int)=12))).bind λEU=>some EU else some false).bind λH6=>(bif H6 then(some (decide ((n6:Int)=1))).bind λYD=>some YD else some false).bind λH7=>(bif H7 then(some (nO.length:Int)).bind λYE=>(some (decide ((YE:Int)=3))).bind λYF=>some YF else some false).bind λH8=>(bif H8 then(c7 nO 0).bind λ⟨J8,J9⟩=>(da ⟨J8,J9⟩ 5).bind λGG=>some GG else some false).bind λH9=>(bif H9 then(c7 nO 1).bind λ⟨Ka,Kb⟩=>(da ⟨Ka,Kb⟩ 2).bind λLF=>some LF else some false).bind λIa=>(bif Ia then(c7 nO 2).bind λ⟨Kc,Ke⟩=>(da ⟨Kc,Ke⟩ (-7)).bind λYG=>some YG else some false).bind λFU=>(bif FU then(eV kT GJ 1).bind λ⟨FV,FW⟩=>(da ⟨FV,FW⟩ (-5)).bind λDi=>some Di else some false).bind λFX=>(bif FX then(dc kT GJ).bind λPA=>(some (PA.length:Int)).bind λMz=>(some (decide ((Mz:Int)=2))).bind λMA=>some MA else some false).bind λFY=>YC FY
noncomputable def ig(x0:Nat)(x1:List Mv):Option (Int×(List En)):=(some (IntKind.i64.wrap (x0:Int))).bind λgO=>(some (Int.tmod gO 64)).bind λkI=>(some (IntKind.i64.wrap (1+kI))).bind λgV=>(iJ gV).bind λ⟨mO,rZ⟩=>(cI (λ(s8:Int×(List En))=>match s8 with|⟨BH,yA⟩=>(show Option ((Int×(List En))⊕((List En)))from(some (x1.length:Int)).bind λiT=>(some (decide ((BH:Int)<iT))).bind λiU=>(bif iU then(c7 x1 BH).bind λ⟨rX,rY,PB,⟨⟨PC,PD⟩,⟨PE,PF⟩⟩⟩=>(c7 x1 BH).bind λ⟨jG,iV,pW,⟨⟨pX,PG⟩,⟨PI,PJ⟩⟩⟩=>(c7 x1 BH).bind λ⟨oa,oc,zT,⟨⟨Ci,PK⟩,⟨PL,PM⟩⟩⟩=>(c7 x1 BH).bind λ⟨PN,PO,PR,⟨⟨Kf,Kg⟩,⟨Kh,Ki⟩⟩⟩=>(bQ mO yA rX iV zT ⟨⟨Kf,Kg⟩,⟨Kh,Ki⟩⟩).bind λ⟨yT,Cg⟩=>(some (IntKind.i64.wrap (BH+1))).bind λjd=>some (.inl (jd,Cg))else some (.inr yA)))) (0,rZ)).bind λrB=>some (mO,rB)
noncomputable def eM(x0:Nat)(x1:List Mv):Option (Bool):=cW (λ(vq:Bool)=>(bif vq then(fI).bind λiT=>some iT else(ig x0 x1).bind λ⟨iy,iz⟩=>(eu iy iz).bind λoC=>(dc iy iz).bind λkF=>(cI (λ(MB:Int×Bool×(List Nat))=>match MB with|⟨jh,tK,tL⟩=>(show Option ((Int×Bool×(List Nat))⊕((Bool×(List Nat))⊕(Bool)))from(some (oC.length:Int)).bind λjE=>(some (decide ((jh:Int)<jE))).bind λn6=>(bif n6 then(c7 oC jh).bind λ⟨Kj,Kk⟩=>(cK ⟨tK,tL⟩ ⟨Kj,Kk⟩).bind λ⟨kU,kV⟩=>(cI (λ(MC:Int×Bool×(List Nat))=>match MC with|⟨rC,kZ,k7⟩=>(show Option ((Int×Bool×(List Nat))⊕(Bool×(List Nat)))from(some (kF.length:Int)).bind λyT=>(some (decide ((rC:Int)<yT))).bind λqV=>(bif qV then(c7 kF rC).bind λ⟨pM,uQ,PS,⟨PT,PU⟩⟩=>(some (decide ((pM:Int)=jh))).bind λDd=>cW (λ(ND:Bool×(List Nat))=>match ND with|⟨vu,vv⟩=>(some (IntKind.i64.wrap (rC+1))).bind λvP=>some (.inl (vP,vu,vv))) λK37=>(bif Dd then(c7 kF rC).bind λ⟨PV,PW,PX,⟨Kl,Km⟩⟩=>(cK ⟨kZ,k7⟩ ⟨Kl,Km⟩).bind λ⟨FZ,F0⟩=>K37 (FZ,F0)else K37 (kZ,k7))else some (.inr (kZ,k7))))) (0,false,[])).bind λYH=>match YH with|⟨Ap,Aq⟩=>cW (λ(BI:Bool)=>(bif BI then some (.inr (.inr false))else(some (IntKind.i64.wrap (jh+1))).bind λnO=>some (.inl (nO,kU,kV)))) λK40=>(some (decide ((0:Int)<jh))).bind λMy=>(bif My then(c7 oC jh).bind λ⟨Kn,Ko⟩=>(dB ⟨Ap,Aq⟩ ⟨Kn,Ko⟩).bind λx71=>(some (!x71)).bind λEU=>some EU else some false).bind λF1=>K40 F1 else some (.inr (.inl (tK,tL)))))) (0,false,[])).bind λYI=>match YI with|.inr v27=>some v27|.inl ⟨tN,tO⟩=>(cI (λ(MD:Nat×Bool×(List Nat))=>match MD with|⟨rD,tQ,tR⟩=>(show Option ((Nat×Bool×(List Nat))⊕(Bool×(List Nat)))from(some (decide ((rD:Nat)<=4))).bind λYJ=>(bif YJ then(eV iy iz rD).bind λ⟨Kp,Kq⟩=>(cK ⟨tQ,tR⟩ ⟨Kp,Kq⟩).bind λ⟨F2,F3⟩=>(some ((rD+1)%256)).bind λYK=>some (.inl (YK,F2,F3))else some (.inr (tQ,tR))))) (1,false,[])).bind λYL=>match YL with|⟨Cv,Cw⟩=>cW (λ(Kr:Bool)=>some Kr) λTr=>(some (oC.length:Int)).bind λNq=>(some (IntKind.i64.wrap (x0:Int))).bind λOD=>(some (Int.tmod OD 64)).bind λGG=>(some (IntKind.i64.wrap (1+GG))).bind λYM=>(some (decide ((Nq:Int)=YM))).bind λLD=>(bif LD then(da ⟨tN,tO⟩ 0).bind λNr=>some Nr else some false).bind λF4=>(bif F4 then(dD ⟨Cv,Cw⟩).bind λ⟨Ks,Kt⟩=>(c7 oC 0).bind λ⟨Ku,Kv⟩=>(dB ⟨Ks,Kt⟩ ⟨Ku,Kv⟩).bind λME=>some ME else some false).bind λIb=>Tr Ib)) λK3=>(ic x1).bind λkJ=>(bif kJ then some true else(fI).bind λgU=>(some (!gU)).bind λfN=>some fN).bind λF5=>K3 F5
end
section
open Go.Fw Go.Fw.Z Go.RowKit
theorem wC{x0:List Mv}{r:Bool}(h:ic x0=some r):Pure ah 14 [slc 7 (List.map EC x0)] (az r):=by
 refine bL Try.func14 Y (af Y) (λgA M vs hvs=>?_);unfold ic at h;refine sr<|ag Y<|dn<|qq<|sr<|mv Y<|lE h λx6 h6 h=>ln Y h6<|lE h λx7 h7 h=>gt _ Y Y h7<|dn ?_;cases x7;refine fs<|sr<|ag Y<|dn<|fK (iS 3 304 26 4 Y Y T)<|qq<|sr<|ag Y<|dn<|bE (F h) λDh Fg jH=>?_;refine bX (λ(mR:Unit)=>AS.dm 35 [] [] []) (λmR=>.inl mR=Dh) ?_ (λmR Fh=>?_);refine bn ?_;refine bY Fg (λtF=>AS.dm 35 [(0,.sv (slc 7 (List.map EC x0))),(3,.row 309),(4,ai tF.1)] [] [(309,TR 26 4 eQ tF.2)]) (fS (λi=>bif Nat.beq i 309 then 304 else i) Y Y Y Y Y ⟨.sv au,.row Y,.sv au,aq⟩ trivial ⟨⟨_,Y,cX.refl _⟩,aq⟩ (λi hi=>by rw[cU (show i≠309 by omega)];rfl)) (λtF y12 G12 h Fi Dn=>?_);obtain⟨oS,yy⟩:=tF
 try dsimp only
 refine qq<|sr<|mv Y<|mv Y<|lE h λgO jc h=>ln Y jc<|lE h λkI oI h=>ls _ Y Y oI<|dn ?_;cases kI;refine cF<|cq<|aV.x<|aV.x<|bC.x<|aV.n ?_;obtain rfl:=O (F h);exact⟨(),Dn _ Y,wR []⟩;refine cT<|bA<|aV.n<|qq<|bn<|sr<|mo (s:=.row _) Y<|mv Y<|mv Y ?_;obtain⟨⟨kq,ku,Ao,⟨⟨qe,xj⟩,⟨xk,xl⟩⟩⟩,mw,h⟩:=bS (V h);refine ix Y Y mw<|RT.dZ .none Y T Y<|RT.o6 (cs:=[_,_,_,_]) .none Y T Y Y<|bl (l:=[⟨⟨qe,xj⟩,⟨xk,xl⟩⟩]) (e:=eQ) (.agg Y (.nil)) Y Y Y Y Y Y<|bE h λiU pN h=>aR (k:=[⟨⟨qe,xj⟩,⟨xk,xl⟩⟩]) (e:=eQ) Y Y Y pN<|an (s:=.row _) Y<|dn<|qq ?_;refine bD h (λj15=>AS.dm 35 [(0,.sv (slc 7 (List.map EC x0))),(3,.row 21),(4,ai oS),(31,aj j15)] [] [(21,TR 26 4 eQ iU)]) (λh=>?_) (λvr h=>?_);refine aZ<|mv Y<|lE h λjd oJ h=>RT.rem .none _ Y Y T (by decide) oJ<|lE h λeK nI h=>eq _ Y Y (oA (p:=jd) (q:=39) nI)<|mv Y<|bE h λyz oO h=>?_;cases eK;refine gm Y<|gm Y<|lE (F oO) λlB uR oO=>gn Y uR<|lE oO λgz me oO=>RT.sub (.some Y Y) _ Y Y T me<|lE oO λoE yf oO=>Cd _ Y Y (oA (p:=oS) (q:=gz) yf) ?_;obtain rfl:=O oO;exact pF Y<|dn<|⟨oE,h,wR []⟩;obtain rfl:=O (V oO);exact ww<|ww<|ww<|ww<|ww<|pT Y<|dn<|⟨true,h,wR []⟩
 try dsimp only
 refine aV.n ?_;refine bD h (λj17=>AS.dm 35 [(0,.sv (slc 7 (List.map EC x0))),(3,.row 316),(4,ai oS)] [] [(316,TR 26 4 eQ j17)]) (λh=>?_) (λqf h=>?_);cases vr;exact fs<|⟨iU,(F h),fS (λi=>bif Nat.beq i 316 then 21 else i) Y Y Y Y Y ⟨.sv au,.row Y,.sv au,aq⟩ trivial ⟨⟨_,Y,cX.refl _⟩,aq⟩ (λi hi=>by rw[cU (show i≠316 by omega)];rfl)⟩;refine cT<|qq<|qq<|fK (qQ (i:=21) (E1:=26) (n:=4) (e:=eQ) (l:=iU) Y)<|aZ<|mv Y<|bl (l:=[iU]) (e:=(eS 4 eQ)) (.one Y (.nil)) Y Y Y Y Y Y<|bE (V h) λjX oL h=>cl (wB oL) ⟨Y,aq⟩<|dn ?_;cases jX;refine fs<|aZ<|ag Y<|dn ?_;refine⟨[],(F h),?_⟩
 try dsimp only
 exact Bi (iS 3 320 26 4 Y Y T)<|fS (λi=>bif Nat.beq i 316 then 320 else i) Y Y Y Y Y ⟨.sv au,.row Y,.sv au,aq⟩ trivial ⟨⟨_,Y,cX.refl _⟩,aq⟩ (λi hi=>by rw[cU (show i≠316 by omega)];rfl);refine cT<|sr<|ag Y<|dn<|bj<|aV.r<|aV.r<|bC.r<|aV.r ?_;obtain rfl:=O (V h);have YN:=Dn _ Y;subst YN;refine aV.r<|bC.r<|aV.r<|aV.r ?_;obtain rfl:=O jH;exact R1 Y
 try dsimp only
 refine bC.n<|aV.n<|aZ<|mv Y<|lE h λiv mu h=>ad _ Y Y mu<|ag Y<|RT.done ?_;obtain rfl:=O h;exact aV.n ⟨(iv,qf),Fi _ Y,fS (λi=>bif Nat.beq i 309 then 316 else i) Y Y Y Y Y ⟨.sv au,.row Y,.sv au,aq⟩ trivial ⟨⟨_,Y,cX.refl _⟩,aq⟩ (λi hi=>by rw[cU (show i≠309 by omega)];rfl)⟩;subst Fh
 try dsimp only
 refine aV.n<|sr<|ag Y<|dn<|bj ?_;obtain rfl:=O jH;exact R1 Y;refine cT<|sr<|ag Y<|dn<|bj<|aV.r ?_;obtain rfl:=O (V h);exact R1 Y
theorem eD{x0:Zr}{x1:Int}{r:Bool}(h:da x0 x1=some r):Pure ah 20 [.agg (eZ x0),ay x1] (az r):=by
 obtain⟨bR,bN⟩:=x0;refine bL Try.func20 Y (af Y) (λgA M vs hvs=>?_);unfold da at h;refine sr<|bx Y<|ag Y<|dn<|qq<|bg mixed<|ld Y Y (.k2 Y Y)<|mv Y ?_;obtain⟨⟨Py,Pz⟩,h7,h⟩:=bS h;refine cl (fu h7) ⟨Y,aq⟩<|bE h λx8 h8 h=>cl (kH h8) ⟨Y,Y,aq⟩<|ag Y ?_;refine RT.done ⟨by kernel_rfl,?_⟩;refine aV.n<|bj ?_;obtain rfl:=O h;exact R1 Y
theorem cZ{x0:Int}{x1:Int}{r:Qr}(h:cx x0 x1=some r):Pure ah 27 [ay x0,ay x1] (.agg (eQ r)):=by
 refine bL Try.func27 Y (af Y) (λgA M vs hvs=>?_);unfold cx at h;refine sr<|al (cs:=[az false,ax,az false,ax]) (by exact⟨au,aB,au,aB,aq⟩) Y<|dn<|sr<|mv Y<|mv Y ?_;obtain⟨⟨⟨⟨FM,FN⟩,⟨FO,FP⟩⟩,HB⟩,jc,h⟩:=bS h;refine cl (sj jc) ⟨Y,Y,aq⟩<|mv Y<|ex Y Y<|ex Y Y<|al (cs:=[az false,ax,az false,ax]) (by exact⟨au,aB,au,aB,aq⟩) Y<|so Y Y Y<|ag Y<|dn<|sr<|ld Y Y (.k4 Y Y Y Y)<|so Y Y Y<|dn<|bj ?_;obtain rfl:=O h;exact RZ (.agg Y Y (.k4 Y Y Y Y) Y (.nil))
set_option maxHeartbeats 4000000 in
theorem ni{r:Bool}(h:fI=some r):Pure ah 10 [] (az r):=by
 refine bL Try.func10 Y (af Y) (λgA M vs hvs=>?_);unfold fI at h;refine sr<|ag Y<|dn<|sr ?_;obtain⟨⟨kT,zS⟩,oI,h⟩:=bS h;refine RT.Cn .none (sn oI) [302] (by decide) Y ⟨⟨Y,T⟩,aq⟩ Y ⟨Y,aq⟩ T Y Y<|mo (s:=.cmp _ _) Y<|RT.qb .none Y Y T<|RT.qb .none Y Y T<|an (s:=.ptr _ _) Y<|ag Y<|dn<|qq<|sr<|mv Y<|ne false Y Y (by decide)<|dn<|fs<|sr<|mo (s:=.ptr _ _) Y ?_;obtain⟨⟨⟨kq,ku⟩,⟨Ao,qe⟩⟩,mw,h⟩:=bS h;refine cl (cZ mw) ⟨Y,Y,aq⟩ ?_;obtain⟨⟨fN,l2⟩,jY,h⟩:=bS h;refine RT.vh .none (c9 jY) 11 [302] [304] Y ⟨Y,aq⟩ (by decide) (by decide) Y ⟨⟨Y,T⟩,aq⟩ Y Y (.cons Y (.k4 Y Y Y Y)) T<|ag Y<|dn<|sr<|mo (s:=.ptr _ _) Y ?_;obtain⟨⟨⟨xb,si⟩,⟨xd,u0⟩⟩,nP,h⟩:=bS h;refine cl (cZ nP) ⟨Y,Y,aq⟩ ?_;obtain⟨⟨iU,l4⟩,pN,h⟩:=bS h;refine RT.vh .none (c9 pN) 11 [304] [306] Y ⟨Y,aq⟩ (by decide) (by decide) Y ⟨⟨Y,T⟩,aq⟩ Y Y (.cons Y (.k4 Y Y Y Y)) T<|ag Y<|dn<|sr<|mo (s:=.ptr _ _) Y ?_;obtain⟨⟨⟨iy,iz⟩,⟨xh,Ag⟩⟩,oJ,h⟩:=bS h;refine cl (cZ oJ) ⟨Y,Y,aq⟩ ?_;obtain⟨⟨eK,l6⟩,nI,h⟩:=bS h;refine RT.vh .none (c9 nI) 11 [306] [308] Y ⟨Y,aq⟩ (by decide) (by decide) Y ⟨⟨Y,T⟩,aq⟩ Y Y (.cons Y (.k4 Y Y Y Y)) T<|ag Y<|dn<|sr<|mo (s:=.ptr _ _) Y ?_;obtain⟨⟨⟨JR,JS⟩,⟨JU,JV⟩⟩,qA,h⟩:=bS h;refine cl (cZ qA) ⟨Y,Y,aq⟩ ?_;obtain⟨⟨kF,l8⟩,r9,h⟩:=bS h
 refine RT.vh .none (c9 r9) 11 [308] [310] Y ⟨Y,aq⟩ (by decide) (by decide) Y ⟨⟨Y,T⟩,aq⟩ Y Y (.cons Y (.k4 Y Y Y Y)) T<|ag Y<|dn<|sr<|mo (s:=.ptr _ _) Y ?_;obtain⟨⟨⟨Ah,Ai⟩,⟨JW,JX⟩⟩,me,h⟩:=bS h;refine cl (cZ me) ⟨Y,Y,aq⟩ ?_;obtain⟨⟨oE,Cg⟩,yf,h⟩:=bS h;refine RT.vh .none (c9 yf) 11 [310] [312] Y ⟨Y,aq⟩ (by decide) (by decide) Y ⟨⟨Y,T⟩,aq⟩ Y Y (.cons Y (.k4 Y Y Y Y)) T<|ag Y<|dn<|sr<|mo (s:=.ptr _ _) Y ?_;obtain⟨⟨⟨jG,iV⟩,⟨pW,pX⟩⟩,n9,h⟩:=bS h;refine cl (cZ n9) ⟨Y,Y,aq⟩ ?_;obtain⟨⟨n6,GJ⟩,tG,h⟩:=bS h;refine RT.vh .none (c9 tG) 11 [312] [314] Y ⟨Y,aq⟩ (by decide) (by decide) Y ⟨⟨Y,T⟩,aq⟩ Y Y (.cons Y (.k4 Y Y Y Y)) T<|ag Y<|dn<|sr<|mo (s:=.ptr _ _) Y<|bE h λnO zO h=>RT.jL .none (kY zO) 11 [314] Y ⟨Y,aq⟩ (by decide) Y Y (.cons Y (.nil)) T<|ag Y<|dn<|qq ?_;refine bD h (λYO=>AS.dm 112 [(0,aj YO)] [] []) (λh=>?_) (λFR h=>?_);refine aZ ?_;obtain⟨⟨⟨r5,r6⟩,⟨JY,JZ⟩⟩,zR,h⟩:=bS h;refine cl (cZ zR) ⟨Y,Y,aq⟩ ?_;obtain⟨⟨oa,oc⟩,zQ,h⟩:=bS h;refine cl (gp zQ) ⟨Y,aq⟩<|bE h λtw Dj h=>cl (eD Dj) ⟨Y,Y,aq⟩<|mv Y<|bE h λCu su h=>?_;cases tw;obtain rfl:=O (F su);refine ww<|ww<|ww<|pF Y<|mv Y<|bE h λTv PY h=>?_;obtain rfl:=O (F PY);refine ww<|ww<|ww<|pF Y<|mv Y<|bE h λTw PZ h=>?_;obtain rfl:=O (F PZ)
 refine ww<|ww<|ww<|pF Y<|mv Y<|bE h λTx P0 h=>?_;obtain rfl:=O (F P0);refine ww<|ww<|pF Y<|mv Y<|bE h λTy P1 h=>?_;obtain rfl:=O (F P1);refine ww<|ww<|pF Y<|mv Y<|bE h λTz P2 h=>?_;obtain rfl:=O (F P2);refine ww<|ww<|pF Y<|mv Y<|bE h λTA P3 h=>?_;obtain rfl:=O (F P3);refine ww<|ww<|pF Y<|mv Y<|bE h λTB P4 h=>?_;obtain rfl:=O (F P4);refine ww<|ww<|pF Y<|mv Y<|bE h λTC P5 h=>?_;obtain rfl:=O (F P5);refine ww<|ww<|pF Y<|mv Y<|bE h λTD P6 h=>?_;obtain rfl:=O (F P6);refine ww<|ww<|ww<|pF Y<|mv Y<|bE h λTE P7 h=>?_;obtain rfl:=O (F P7);refine ww<|ww<|ww<|ww<|pF Y<|mv Y<|bE h λTF P8 h=>?_;obtain rfl:=O (F P8);refine ww<|ww<|ww<|ww<|pF Y<|mv Y<|bE h λP9 Qa h=>?_;obtain rfl:=O (F Qa);refine ww<|ww<|ww<|ww<|pF Y<|mv Y<|bE h λQb Qc h=>?_;obtain rfl:=O (F Qc);refine ww<|ww<|ww<|pF Y<|mv Y<|bE h λQd Qe h=>?_;obtain rfl:=O (F Qe);exact ww<|ww<|ww<|ww<|pF Y<|ag Y<|dn<|⟨false,h,wR []⟩;obtain⟨⟨⟨l9,mc⟩,⟨zU,zV⟩⟩,r8,su⟩:=bS (V su);refine gc (cZ r8) ⟨Y,Y,aq⟩ ?_;obtain⟨⟨kU,kV⟩,Bv,su⟩:=bS su;refine gc (gp Bv) ⟨Y,aq⟩<|bE su λqy zP su=>gc (eD zP) ⟨Y,Y,aq⟩ ?_;obtain rfl:=O su;refine pT Y<|mv Y<|bE h λTG sw h=>?_;cases qy;obtain rfl:=O (F sw);refine ww<|ww<|ww<|pF Y<|mv Y<|bE h λTH Qf h=>?_
 obtain rfl:=O (F Qf);refine ww<|ww<|ww<|pF Y<|mv Y<|bE h λTI Qg h=>?_;obtain rfl:=O (F Qg);refine ww<|ww<|pF Y<|mv Y<|bE h λTJ Qh h=>?_;obtain rfl:=O (F Qh);refine ww<|ww<|pF Y<|mv Y<|bE h λTK Qi h=>?_;obtain rfl:=O (F Qi);refine ww<|ww<|pF Y<|mv Y<|bE h λTL Qj h=>?_;obtain rfl:=O (F Qj);refine ww<|ww<|pF Y<|mv Y<|bE h λTM Qk h=>?_;obtain rfl:=O (F Qk);refine ww<|ww<|pF Y<|mv Y<|bE h λTN Ql h=>?_;obtain rfl:=O (F Ql);refine ww<|ww<|pF Y<|mv Y<|bE h λTO Qm h=>?_;obtain rfl:=O (F Qm);refine ww<|ww<|ww<|pF Y<|mv Y<|bE h λTP Qn h=>?_;obtain rfl:=O (F Qn);refine ww<|ww<|ww<|ww<|pF Y<|mv Y<|bE h λTQ Qo h=>?_;obtain rfl:=O (F Qo);refine ww<|ww<|ww<|ww<|pF Y<|mv Y<|bE h λQp Qq h=>?_;obtain rfl:=O (F Qq);refine ww<|ww<|ww<|ww<|pF Y<|mv Y<|bE h λQs Qt h=>?_;obtain rfl:=O (F Qt);refine ww<|ww<|ww<|pF Y<|mv Y<|bE h λQu Qv h=>?_;obtain rfl:=O (F Qv);exact ww<|ww<|ww<|ww<|pF Y<|ag Y<|dn<|⟨false,h,wR []⟩;obtain⟨⟨⟨J0,J1⟩,⟨J2,J3⟩⟩,Dl,sw⟩:=bS (V sw);refine gc (cZ Dl) ⟨Y,Y,aq⟩ ?_;obtain⟨⟨Am,An⟩,h46,sw⟩:=bS sw;refine gc (gp h46) ⟨Y,aq⟩<|bE sw λzG E6 sw=>gc (eD E6) ⟨Y,Y,aq⟩ ?_;obtain rfl:=O sw;refine pT Y<|mv Y<|bE h λTS sx h=>?_;cases zG;obtain rfl:=O (F sx)
 refine ww<|ww<|ww<|pF Y<|mv Y<|bE h λTT Qw h=>?_;obtain rfl:=O (F Qw);refine ww<|ww<|pF Y<|mv Y<|bE h λTU Qx h=>?_;obtain rfl:=O (F Qx);refine ww<|ww<|pF Y<|mv Y<|bE h λTV Qy h=>?_;obtain rfl:=O (F Qy);refine ww<|ww<|pF Y<|mv Y<|bE h λTW Qz h=>?_;obtain rfl:=O (F Qz);refine ww<|ww<|pF Y<|mv Y<|bE h λTX QA h=>?_;obtain rfl:=O (F QA);refine ww<|ww<|pF Y<|mv Y<|bE h λTY QB h=>?_;obtain rfl:=O (F QB);refine ww<|ww<|pF Y<|mv Y<|bE h λTZ QC h=>?_;obtain rfl:=O (F QC);refine ww<|ww<|ww<|pF Y<|mv Y<|bE h λT0 QD h=>?_;obtain rfl:=O (F QD);refine ww<|ww<|ww<|ww<|pF Y<|mv Y<|bE h λT1 QE h=>?_;obtain rfl:=O (F QE);refine ww<|ww<|ww<|ww<|pF Y<|mv Y<|bE h λQF QG h=>?_;obtain rfl:=O (F QG);refine ww<|ww<|ww<|ww<|pF Y<|mv Y<|bE h λQH QI h=>?_;obtain rfl:=O (F QI);refine ww<|ww<|ww<|pF Y<|mv Y<|bE h λQJ QK h=>?_;obtain rfl:=O (F QK);exact ww<|ww<|ww<|ww<|pF Y<|ag Y<|dn<|⟨false,h,wR []⟩;obtain⟨⟨⟨J4,J5⟩,⟨J6,J7⟩⟩,Dm,sx⟩:=bS (V sx);refine gc (cZ Dm) ⟨Y,Y,aq⟩ ?_;obtain⟨⟨pM,uQ⟩,E7,sx⟩:=bS sx;refine gc (gp E7) ⟨Y,aq⟩<|bE sx λwc E8 sx=>gc (eD E8) ⟨Y,Y,aq⟩ ?_;obtain rfl:=O sx;refine pT Y<|mv Y<|bE h λT2 Cx h=>?_;cases wc;obtain rfl:=O (F Cx);refine ww<|ww<|pF Y<|mv Y<|bE h λT3 QL h=>?_;obtain rfl:=O (F QL)
 refine ww<|ww<|pF Y<|mv Y<|bE h λT4 QM h=>?_;obtain rfl:=O (F QM);refine ww<|ww<|pF Y<|mv Y<|bE h λT5 QN h=>?_;obtain rfl:=O (F QN);refine ww<|ww<|pF Y<|mv Y<|bE h λT6 QO h=>?_;obtain rfl:=O (F QO);refine ww<|ww<|pF Y<|mv Y<|bE h λT7 QS h=>?_;obtain rfl:=O (F QS);refine ww<|ww<|pF Y<|mv Y<|bE h λT8 QT h=>?_;obtain rfl:=O (F QT);refine ww<|ww<|ww<|pF Y<|mv Y<|bE h λT9 QU h=>?_;obtain rfl:=O (F QU);refine ww<|ww<|ww<|ww<|pF Y<|mv Y<|bE h λUa QV h=>?_;obtain rfl:=O (F QV);refine ww<|ww<|ww<|ww<|pF Y<|mv Y<|bE h λQW QX h=>?_;obtain rfl:=O (F QX);refine ww<|ww<|ww<|ww<|pF Y<|mv Y<|bE h λQY QZ h=>?_;obtain rfl:=O (F QZ);refine ww<|ww<|ww<|pF Y<|mv Y<|bE h λQ0 Q1 h=>?_;obtain rfl:=O (F Q1);exact ww<|ww<|ww<|ww<|pF Y<|ag Y<|dn<|⟨false,h,wR []⟩;refine gm Y<|lE (V Cx) λHx LU Cx=>Cd _ Y Y (oA (p:=fN) (q:=0) LU) ?_;obtain rfl:=O Cx;refine pT Y<|mv Y<|bE h λUb Cy h=>?_;cases Hx;obtain rfl:=O (F Cy);refine ww<|ww<|pF Y<|mv Y<|bE h λUc Q2 h=>?_;obtain rfl:=O (F Q2);refine ww<|ww<|pF Y<|mv Y<|bE h λUd Q3 h=>?_;obtain rfl:=O (F Q3);refine ww<|ww<|pF Y<|mv Y<|bE h λUe Q4 h=>?_;obtain rfl:=O (F Q4);refine ww<|ww<|pF Y<|mv Y<|bE h λUf Q5 h=>?_;obtain rfl:=O (F Q5)
 refine ww<|ww<|pF Y<|mv Y<|bE h λUg Q6 h=>?_;obtain rfl:=O (F Q6);refine ww<|ww<|ww<|pF Y<|mv Y<|bE h λUh Q7 h=>?_;obtain rfl:=O (F Q7);refine ww<|ww<|ww<|ww<|pF Y<|mv Y<|bE h λUi Q8 h=>?_;obtain rfl:=O (F Q8);refine ww<|ww<|ww<|ww<|pF Y<|mv Y<|bE h λQ9 Ra h=>?_;obtain rfl:=O (F Ra);refine ww<|ww<|ww<|ww<|pF Y<|mv Y<|bE h λRb Rc h=>?_;obtain rfl:=O (F Rc);refine ww<|ww<|ww<|pF Y<|mv Y<|bE h λRd Re h=>?_;obtain rfl:=O (F Re);exact ww<|ww<|ww<|ww<|pF Y<|ag Y<|dn<|⟨false,h,wR []⟩;refine gm Y<|lE (V Cy) λDc Hz Cy=>Cd _ Y Y (oA (p:=iU) (q:=0) Hz) ?_;obtain rfl:=O Cy;refine pT Y<|mv Y<|bE h λUj Cz h=>?_;cases Dc;obtain rfl:=O (F Cz);refine ww<|ww<|pF Y<|mv Y<|bE h λUk Rf h=>?_;obtain rfl:=O (F Rf);refine ww<|ww<|pF Y<|mv Y<|bE h λUl Rg h=>?_;obtain rfl:=O (F Rg);refine ww<|ww<|pF Y<|mv Y<|bE h λUm Rh h=>?_;obtain rfl:=O (F Rh);refine ww<|ww<|pF Y<|mv Y<|bE h λUo Ri h=>?_;obtain rfl:=O (F Ri);refine ww<|ww<|ww<|pF Y<|mv Y<|bE h λUp Rj h=>?_;obtain rfl:=O (F Rj);refine ww<|ww<|ww<|ww<|pF Y<|mv Y<|bE h λUq Rk h=>?_;obtain rfl:=O (F Rk);refine ww<|ww<|ww<|ww<|pF Y<|mv Y<|bE h λRl Rm h=>?_;obtain rfl:=O (F Rm);refine ww<|ww<|ww<|ww<|pF Y<|mv Y<|bE h λRn Ro h=>?_;obtain rfl:=O (F Ro)
 refine ww<|ww<|ww<|pF Y<|mv Y<|bE h λRp Rq h=>?_;obtain rfl:=O (F Rq);exact ww<|ww<|ww<|ww<|pF Y<|ag Y<|dn<|⟨false,h,wR []⟩;refine gm Y<|lE (V Cz) λMy YP Cz=>Cd _ Y Y (oA (p:=eK) (q:=1) YP) ?_;obtain rfl:=O Cz;refine pT Y<|mv Y<|bE h λUr CA h=>?_;cases My;obtain rfl:=O (F CA);refine ww<|ww<|pF Y<|mv Y<|bE h λUs Rr h=>?_;obtain rfl:=O (F Rr);refine ww<|ww<|pF Y<|mv Y<|bE h λUt Rt h=>?_;obtain rfl:=O (F Rt);refine ww<|ww<|pF Y<|mv Y<|bE h λUu Ru h=>?_;obtain rfl:=O (F Ru);refine ww<|ww<|ww<|pF Y<|mv Y<|bE h λUv Rv h=>?_;obtain rfl:=O (F Rv);refine ww<|ww<|ww<|ww<|pF Y<|mv Y<|bE h λUw Rw h=>?_;obtain rfl:=O (F Rw);refine ww<|ww<|ww<|ww<|pF Y<|mv Y<|bE h λRx Ry h=>?_;obtain rfl:=O (F Ry);refine ww<|ww<|ww<|ww<|pF Y<|mv Y<|bE h λRz RA h=>?_;obtain rfl:=O (F RA);refine ww<|ww<|ww<|pF Y<|mv Y<|bE h λRB RC h=>?_;obtain rfl:=O (F RC);exact ww<|ww<|ww<|ww<|pF Y<|ag Y<|dn<|⟨false,h,wR []⟩;refine gm Y<|lE (V CA) λLy WT CA=>Cd _ Y Y (oA (p:=kF) (q:=1) WT) ?_;obtain rfl:=O CA;refine pT Y<|mv Y<|bE h λUx CB h=>?_;cases Ly;obtain rfl:=O (F CB);refine ww<|ww<|pF Y<|mv Y<|bE h λUy RE h=>?_;obtain rfl:=O (F RE);refine ww<|ww<|pF Y<|mv Y<|bE h λUz RF h=>?_;obtain rfl:=O (F RF)
 refine ww<|ww<|ww<|pF Y<|mv Y<|bE h λUA RG h=>?_;obtain rfl:=O (F RG);refine ww<|ww<|ww<|ww<|pF Y<|mv Y<|bE h λUB RH h=>?_;obtain rfl:=O (F RH);refine ww<|ww<|ww<|ww<|pF Y<|mv Y<|bE h λRI RJ h=>?_;obtain rfl:=O (F RJ);refine ww<|ww<|ww<|ww<|pF Y<|mv Y<|bE h λRK RL h=>?_;obtain rfl:=O (F RL);refine ww<|ww<|ww<|pF Y<|mv Y<|bE h λRM RN h=>?_;obtain rfl:=O (F RN);exact ww<|ww<|ww<|ww<|pF Y<|ag Y<|dn<|⟨false,h,wR []⟩;refine gm Y<|lE (V CB) λEU O3 CB=>Cd _ Y Y (oA (p:=oE) (q:=12) O3) ?_;obtain rfl:=O CB;refine pT Y<|mv Y<|bE h λUC CC h=>?_;cases EU;obtain rfl:=O (F CC);refine ww<|ww<|pF Y<|mv Y<|bE h λUD RO h=>?_;obtain rfl:=O (F RO);refine ww<|ww<|ww<|pF Y<|mv Y<|bE h λUE RQ h=>?_;obtain rfl:=O (F RQ);refine ww<|ww<|ww<|ww<|pF Y<|mv Y<|bE h λUF RR h=>?_;obtain rfl:=O (F RR);refine ww<|ww<|ww<|ww<|pF Y<|mv Y<|bE h λRU RV h=>?_;obtain rfl:=O (F RV);refine ww<|ww<|ww<|ww<|pF Y<|mv Y<|bE h λRW RX h=>?_;obtain rfl:=O (F RX);refine ww<|ww<|ww<|pF Y<|mv Y<|bE h λRY R3 h=>?_;obtain rfl:=O (F R3);exact ww<|ww<|ww<|ww<|pF Y<|ag Y<|dn<|⟨false,h,wR []⟩;refine gm Y<|lE (V CC) λYD h76 CC=>Cd _ Y Y (oA (p:=n6) (q:=1) h76) ?_;obtain rfl:=O CC;refine pT Y<|mv Y<|bE h λUG xm h=>?_;cases YD
 obtain rfl:=O (F xm);refine ww<|ww<|ww<|pF Y<|mv Y<|bE h λUH R4 h=>?_;obtain rfl:=O (F R4);refine ww<|ww<|ww<|ww<|pF Y<|mv Y<|bE h λUI R5 h=>?_;obtain rfl:=O (F R5);refine ww<|ww<|ww<|ww<|pF Y<|mv Y<|bE h λR6 R7 h=>?_;obtain rfl:=O (F R7);refine ww<|ww<|ww<|ww<|pF Y<|mv Y<|bE h λR8 R9 h=>?_;obtain rfl:=O (F R9);refine ww<|ww<|ww<|pF Y<|mv Y<|bE h λSa Sb h=>?_;obtain rfl:=O (F Sb);exact ww<|ww<|ww<|ww<|pF Y<|ag Y<|dn<|⟨false,h,wR []⟩;refine gm Y<|lE (V xm) λYE h80 xm=>gn Y h80<|lE xm λYF YQ xm=>Cd _ Y Y (oA (p:=YE) (q:=3) YQ) ?_;obtain rfl:=O xm;refine pT Y<|mv Y<|bE h λUJ xn h=>?_;cases YF;obtain rfl:=O (F xn);refine ww<|ww<|ww<|ww<|pF Y<|mv Y<|bE h λUL Sc h=>?_;obtain rfl:=O (F Sc);refine ww<|ww<|ww<|ww<|pF Y<|mv Y<|bE h λSd Se h=>?_;obtain rfl:=O (F Se);refine ww<|ww<|ww<|ww<|pF Y<|mv Y<|bE h λSf Sg h=>?_;obtain rfl:=O (F Sg);refine ww<|ww<|ww<|pF Y<|mv Y<|bE h λSh Si h=>?_;obtain rfl:=O (F Si);exact ww<|ww<|ww<|ww<|pF Y<|ag Y<|dn<|⟨false,h,wR []⟩;refine gm Y ?_;obtain⟨⟨J8,J9⟩,W9,xn⟩:=bS (V xn);refine RT.Ll (.some Y Y) Y Y T W9<|RT.o6 (cs:=[_,_]) (.some Y Y) Y T Y Y<|bE xn λGG O4 xn=>gc (eD O4) ⟨Y,Y,aq⟩ ?_;obtain rfl:=O xn;refine pT Y<|mv Y<|bE h λUM xo h=>?_;cases GG
 obtain rfl:=O (F xo);refine ww<|ww<|ww<|ww<|pF Y<|mv Y<|bE h λSj Sk h=>?_;obtain rfl:=O (F Sk);refine ww<|ww<|ww<|ww<|pF Y<|mv Y<|bE h λSl Sn h=>?_;obtain rfl:=O (F Sn);refine ww<|ww<|ww<|pF Y<|mv Y<|bE h λSo Sq h=>?_;obtain rfl:=O (F Sq);exact ww<|ww<|ww<|ww<|pF Y<|ag Y<|dn<|⟨false,h,wR []⟩;refine gm Y ?_;obtain⟨⟨Ka,Kb⟩,Xc,xo⟩:=bS (V xo);refine RT.Ll (.some Y Y) Y Y T Xc<|RT.o6 (cs:=[_,_]) (.some Y Y) Y T Y Y<|bE xo λLF Xe xo=>gc (eD Xe) ⟨Y,Y,aq⟩ ?_;obtain rfl:=O xo;refine pT Y<|mv Y<|bE h λSr xp h=>?_;cases LF;obtain rfl:=O (F xp);refine ww<|ww<|ww<|ww<|pF Y<|mv Y<|bE h λSs St h=>?_;obtain rfl:=O (F St);refine ww<|ww<|ww<|pF Y<|mv Y<|bE h λSu Sv h=>?_;obtain rfl:=O (F Sv);exact ww<|ww<|ww<|ww<|pF Y<|ag Y<|dn<|⟨false,h,wR []⟩;refine gm Y ?_;obtain⟨⟨Kc,Ke⟩,Xf,xp⟩:=bS (V xp);refine RT.Ll (.some Y Y) Y Y T Xf<|RT.o6 (cs:=[_,_]) (.some Y Y) Y T Y Y<|bE xp λYG h99 xp=>gc (eD h99) ⟨Y,Y,aq⟩ ?_;obtain rfl:=O xp;refine pT Y<|mv Y<|bE h λSw xq h=>?_;cases YG;obtain rfl:=O (F xq);refine ww<|ww<|ww<|pF Y<|mv Y<|bE h λSx Sy h=>?_;obtain rfl:=O (F Sy);exact ww<|ww<|ww<|ww<|pF Y<|ag Y<|dn<|⟨false,h,wR []⟩;refine RT.move (.some Y Y) (s:=.ptr _ _) Y T ?_;obtain⟨⟨FV,FW⟩,LW,xq⟩:=bS (V xq)
 refine RT.jL (.some Y Y) (mm LW) 11 [314] Y ⟨Y,aq⟩ (by decide) Y Y (.k2 Y Y) T<|bE xq λDi LX xq=>gc (eD LX) ⟨Y,Y,aq⟩ ?_;obtain rfl:=O xq;refine pT Y<|mv Y<|bE h λSz sy h=>?_;cases Di;obtain rfl:=O (F sy);exact ww<|ww<|ww<|ww<|pF Y<|ag Y<|dn<|⟨false,h,wR []⟩;refine RT.move (.some Y Y) (s:=.ptr _ _) Y T<|bE (V sy) λPA YR sy=>RT.jL (.some Y Y) (iY YR) 11 [314] Y ⟨Y,aq⟩ (by decide) Y Y (.cons Y (.nil)) T<|lE sy λMz YS sy=>gn Y YS<|lE sy λMA YT sy=>Cd _ Y Y (oA (p:=Mz) (q:=2) YT) ?_;obtain rfl:=O sy;exact pT Y<|ag Y<|dn<|⟨MA,h,wR []⟩
 try dsimp only
 refine aV.n<|bj ?_;obtain rfl:=O h;exact R1 Y
theorem wD{x0:Nat}{x1:List Mv}{r:Int×(List En)}(h:ig x0 x1=some r):DC ah 15 [.v (.int .u8 ((x0:Nat):Int)),slc 7 (List.map EC x1)] false [] 66 [.s (ay r.1),.r (TR 43 5 jT r.2)]:=by
 refine Ab Try.func15 Y (af Y) (λgA M vs hvs=>?_);unfold ig at h;refine sr<|ag Y<|dn<|sr<|mv Y<|lE h λgO jc h=>cv _ Y jc<|lE h λkI oI h=>RT.rem .none _ Y Y T (by decide) oI<|lE h λgV kQ h=>ad _ Y Y kQ ?_;obtain⟨⟨mO,rZ⟩,mu,h⟩:=bS h;refine RT.Cn .none (sn mu) [302] (by decide) Y ⟨⟨Y,T⟩,aq⟩ Y ⟨Y,aq⟩ T Y Y<|mo (s:=.cmp _ _) Y<|RT.qb .none Y Y T<|RT.qb .none Y Y T<|an (s:=.ptr _ _) Y<|ag Y<|dn<|qq<|sr<|mv Y<|ne false Y Y (by decide)<|dn<|fs<|qq<|sr<|ag Y<|dn<|bE h λe8 E9 wj=>?_;refine bX (λ(rB:(List En))=>AS.dm 47 [(5,.ptr 13 0)] [(13,⟨66,[ai mO,.row 305]⟩)] [(305,TR 43 5 jT rB)]) (λrB=>rB=e8) ?_ (λrB Fa=>?_);refine bn ?_;refine bY E9 (λs8=>AS.dm 47 [(1,.sv (slc 7 (List.map EC x1))),(5,.ptr 13 0),(7,ai s8.1)] [(13,⟨66,[ai mO,.row 305]⟩)] [(305,TR 43 5 jT s8.2)]) (fS (λi=>bif Nat.beq i 305 then 302 else i) Y Y Y Y Y ⟨.sv au,.ptr,.sv au,aq⟩ ⟨⟨_,Y,⟨.sv au,.row Y,aq⟩⟩,aq⟩ ⟨⟨_,Y,cX.refl _⟩,aq⟩ (λi hi=>by rw[cU (show i≠305 by omega)];rfl)) (λs8 y8 G8 h Fb Fe=>?_);obtain⟨BH,yA⟩:=s8
 try dsimp only
 refine qq<|sr<|mv Y<|mv Y<|lE h λiT nP h=>ln Y nP<|lE h λiU pN h=>ls _ Y Y pN<|dn ?_;cases iU;refine cF<|cq<|aV.x<|aV.x<|bC.x<|aV.n ?_;obtain rfl:=O (F h);exact⟨yA,Fe _ Y,wR []⟩;refine cT<|bA<|aV.n<|qq<|bn<|bg mixed<|mo (s:=.ptr _ _) Y<|mv Y<|mv Y ?_;obtain⟨⟨rX,rY,PB,⟨⟨PC,PD⟩,⟨PE,PF⟩⟩⟩,r9,h⟩:=bS (V h);refine ix Y Y r9<|RT.dZ .none Y T Y<|lr Y Y<|mv Y<|mv Y ?_;obtain⟨⟨jG,iV,pW,⟨⟨pX,PG⟩,⟨PI,PJ⟩⟩⟩,n9,h⟩:=bS h;refine ix Y Y n9<|RT.dZ .none Y T Y<|lr Y Y<|mv Y<|mv Y ?_;obtain⟨⟨oa,oc,zT,⟨⟨Ci,PK⟩,⟨PL,PM⟩⟩⟩,zQ,h⟩:=bS h;refine ix Y Y zQ<|RT.dZ .none Y T Y<|lr Y Y<|mv Y<|mv Y ?_;obtain⟨⟨PN,PO,PR,⟨⟨Kf,Kg⟩,⟨Kh,Ki⟩⟩⟩,zP,h⟩:=bS h;refine ix Y Y zP<|RT.dZ .none Y T Y<|RT.o6 (cs:=[_,_,_,_]) .none Y T Y Y ?_;obtain⟨⟨yT,Cg⟩,Dl,h⟩:=bS h;refine RT.vh .none (c9 Dl) 13 [305] [309] Y ⟨Y,aq⟩ (by decide) (by decide) Y ⟨⟨Y,T⟩,aq⟩ Y Y (.cons Y (.k4 Y Y Y Y)) T ?_;refine RT.done ⟨by kernel_rfl,?_⟩;refine bC.n<|aV.n<|aZ<|mv Y<|lE h λjd oJ h=>ad _ Y Y oJ<|ag Y<|RT.done ?_;obtain rfl:=O h;exact aV.n ⟨(jd,Cg),Fb _ Y,fS (λi=>bif Nat.beq i 305 then 309 else i) Y Y Y Y Y ⟨.sv au,.ptr,.sv au,aq⟩ ⟨⟨_,Y,⟨.sv au,.row Y,aq⟩⟩,aq⟩ ⟨⟨_,Y,cX.refl _⟩,aq⟩ (λi hi=>by rw[cU (show i≠305 by omega)];rfl)⟩;subst Fa
 try dsimp only
 refine aV.n<|sr<|mo (s:=.ptr _ _) Y<|an (s:=.ptr _ _) Y<|dn<|bj ?_;obtain rfl:=O wj;exact⟨.inr Y,13,[305],.tmp Y,Y,⟨Y,aq⟩,by decide⟩
end
section
open Go.Fw Go.Fw.Z Go.RowKit
set_option maxHeartbeats 4000000 in
theorem nj{x0:Nat}{x1:List Mv}{r:Bool}(h:eM x0 x1=some r):Pure ah 4 [.v (.int .u8 ((x0:Nat):Int)),slc 7 (List.map EC x1)] (az r):=by
 refine bL Try.func4 Y (af Y) (λgA M vs hvs=>?_);unfold eM at h;refine sr<|ag Y<|dn<|qq<|qq ?_;refine bD h (λj3=>AS.dm 102 [(0,.sv (.v (.int .u8 ((x0:Nat):Int)))),(1,.sv (slc 7 (List.map EC x1))),(19,aj j3)] [] []) (λh=>?_) (λvq h=>?_);refine aZ<|mv Y<|bE h λkJ q9 h=>cl (wC q9) ⟨Y,aq⟩<|mv Y<|bE h λF5 DE h=>?_;cases kJ;refine bE (F DE) λgU mw DE=>gc (ni mw) trivial<|lE DE λfN jY DE=>VV Y _ jY ?_;obtain rfl:=O DE;exact pF Y<|dn<|⟨fN,h,wR []⟩;obtain rfl:=O (V DE);exact ww<|ww<|pT Y<|dn<|⟨true,h,wR []⟩
 try dsimp only
 refine aV.n ?_;cases vq;refine fs<|sr<|mv Y<|mv Y ?_;obtain⟨⟨iy,iz⟩,oJ,h⟩:=bS (F h);refine RT.Mo .none (wD oJ) [302] (by decide) Y ⟨⟨Y,T⟩,aq⟩ Y ⟨Y,Y,aq⟩ T Y Y<|an (s:=.ptr _ _) Y<|dn<|sr<|mo (s:=.ptr _ _) Y<|bE h λoC zN h=>RT.jL .none (kY zN) 23 [302] Y ⟨Y,aq⟩ (by decide) Y Y (.cons Y (.nil)) T<|mo (s:=.ptr _ _) Y<|bE h λkF r9 h=>RT.jL .none (iY r9) 23 [302] Y ⟨Y,aq⟩ (by decide) Y Y (.cons Y (.nil)) T<|ag Y<|ag Y ?_;refine dn<|sr<|bI (cs:=[_,_]) (cs':=[az false,ax]) (.nil) ⟨au,aB,aq⟩<|bI (cs:=[_,_]) (cs':=[az false,ax]) (.nil) ⟨au,aB,aq⟩<|al (cs:=[az false,ax]) (by exact⟨au,aB,aq⟩) Y<|al (cs:=[az false,ax]) (by exact⟨au,aB,aq⟩) Y<|so Y Y Y ?_;refine so Y Y Y<|dn<|qq<|sr<|ag Y<|dn<|bE h λYI YU SA=>?_;refine bX (λ(DF:Bool×(List Nat))=>AS.dm 102 [(0,.sv (.v (.int .u8 ((x0:Nat):Int)))),(5,.ptr 23 0),(6,.sv (slc 2 (List.map eZ oC))),(8,.ptr 8 0),(9,.ptr 9 0)] [(9,⟨24,[aj false,.sv ax]⟩),(8,⟨24,[aj DF.1,.sv (slc 1 (List.map aX DF.2))]⟩),(23,⟨66,[ai iy,.row 302]⟩)] [(302,TR 43 5 jT iz)]) (λDF=>.inl DF=YI) ?_ (λDF YV=>?_);refine bn ?_
 refine bY YU (λMB=>AS.dm 102 [(0,.sv (.v (.int .u8 ((x0:Nat):Int)))),(5,.ptr 23 0),(6,.sv (slc 2 (List.map eZ oC))),(7,.sv (slc 5 (List.map jT kF))),(8,.ptr 8 0),(9,.ptr 9 0),(10,ai MB.1)] [(9,⟨24,[aj false,.sv ax]⟩),(8,⟨24,[aj MB.2.1,.sv (slc 1 (List.map aX MB.2.2))]⟩),(23,⟨66,[ai iy,.row 302]⟩)] [(302,TR 43 5 jT iz)]) (wR []) (λMB y27 G27 h YW SB=>?_);obtain⟨jh,tK,tL⟩:=MB
 try dsimp only
 refine qq<|sr<|mv Y<|mv Y<|lE h λjE n9 h=>ln Y n9<|lE h λn6 tG h=>ls _ Y Y tG<|dn ?_;cases n6;refine cF<|cq<|aV.x<|aV.x<|bC.x<|aV.n ?_;obtain rfl:=O (F h);exact⟨(tK,tL),SB _ Y,wR []⟩;refine cT<|bA<|aV.n<|qq<|bn<|qq<|bg mixed<|ld Y Y (.k2 Y Y)<|mv Y<|mv Y ?_;obtain⟨⟨Kj,Kk⟩,Dr,h⟩:=bS (V h);refine ix Y Y Dr<|RT.o6 (cs:=[_,_]) .none Y T Y Y ?_;obtain⟨⟨kU,kV⟩,Bv,h⟩:=bS h;refine cl (fy Bv) ⟨Y,Y,aq⟩<|so Y Y Y ?_;refine RT.done ⟨by kernel_rfl,?_⟩;refine aV.n<|sr<|bI (cs:=[_,_]) (cs':=[az false,ax]) (.nil) ⟨au,aB,aq⟩<|al (cs:=[az false,ax]) (by exact⟨au,aB,aq⟩) Y<|so Y Y Y<|dn<|qq<|sr<|ag Y<|dn<|bE h λYH YX rE=>?_;refine bX (λ(DG:Bool×(List Nat))=>AS.dm 102 [(0,.sv (.v (.int .u8 ((x0:Nat):Int)))),(5,.ptr 23 0),(6,.sv (slc 2 (List.map eZ oC))),(7,.sv (slc 5 (List.map jT kF))),(8,.ptr 8 0),(9,.ptr 9 0),(10,ai jh),(11,.ptr 11 0)] [(11,⟨24,[aj DG.1,.sv (slc 1 (List.map aX DG.2))]⟩),(9,⟨24,[aj false,.sv ax]⟩),(8,⟨24,[aj kU,.sv (slc 1 (List.map aX kV))]⟩),(23,⟨66,[ai iy,.row 302]⟩)] [(302,TR 43 5 jT iz)]) (λDG=>DG=YH) ?_ (λDG YY=>?_);refine bn ?_
 refine bY YX (λMC=>AS.dm 102 [(0,.sv (.v (.int .u8 ((x0:Nat):Int)))),(5,.ptr 23 0),(6,.sv (slc 2 (List.map eZ oC))),(7,.sv (slc 5 (List.map jT kF))),(8,.ptr 8 0),(9,.ptr 9 0),(10,ai jh),(11,.ptr 11 0),(12,ai MC.1)] [(11,⟨24,[aj MC.2.1,.sv (slc 1 (List.map aX MC.2.2))]⟩),(9,⟨24,[aj false,.sv ax]⟩),(8,⟨24,[aj kU,.sv (slc 1 (List.map aX kV))]⟩),(23,⟨66,[ai iy,.row 302]⟩)] [(302,TR 43 5 jT iz)]) (wR []) (λMC y35 G35 h YZ Y0=>?_);obtain⟨rC,kZ,k7⟩:=MC
 try dsimp only
 refine qq<|sr<|mv Y<|mv Y<|lE h λyT Dl h=>ln Y Dl<|lE h λqV h46 h=>ls _ Y Y h46<|dn ?_;cases qV;refine cF<|cq<|aV.x<|aV.x<|bC.x<|aV.n ?_;obtain rfl:=O (F h);exact⟨(kZ,k7),Y0 _ Y,wR []⟩;refine cT<|bA<|aV.n<|qq<|bn<|sr<|mv Y<|mv Y ?_;obtain⟨⟨pM,uQ,PS,⟨PT,PU⟩⟩,E7,h⟩:=bS (V h);refine ix Y Y E7<|RT.dZ .none Y T Y<|lr Y Y<|mv Y<|lE h λDd O1 h=>eq _ Y Y (oA (p:=pM) (q:=jh) O1)<|dn ?_;refine bD h (λND=>AS.dm 102 [(0,.sv (.v (.int .u8 ((x0:Nat):Int)))),(5,.ptr 23 0),(6,.sv (slc 2 (List.map eZ oC))),(7,.sv (slc 5 (List.map jT kF))),(8,.ptr 8 0),(9,.ptr 9 0),(10,ai jh),(11,.ptr 11 0),(12,ai rC)] [(11,⟨24,[aj ND.1,.sv (slc 1 (List.map aX ND.2))]⟩),(9,⟨24,[aj false,.sv ax]⟩),(8,⟨24,[aj kU,.sv (slc 1 (List.map aX kV))]⟩),(23,⟨66,[ai iy,.row 302]⟩)] [(302,TR 43 5 jT iz)]) (λh=>?_) (λND h=>?_);cases Dd;exact fs<|⟨(kZ,k7),(F h),wR []⟩;refine cT<|bg mixed<|ld Y Y (.k2 Y Y)<|mv Y<|mv Y ?_;obtain⟨⟨PV,PW,PX,⟨Kl,Km⟩⟩,OZ,h⟩:=bS (V h);refine ix Y Y OZ<|RT.dZ .none Y T Y<|RT.o6 (cs:=[_,_]) .none Y T Y Y ?_;obtain⟨⟨FZ,F0⟩,W0,h⟩:=bS h;refine cl (fy W0) ⟨Y,Y,aq⟩<|so Y Y Y ?_;refine RT.done ⟨by kernel_rfl,?_⟩;exact aV.n<|⟨(FZ,F0),h,wR []⟩;obtain⟨vu,vv⟩:=ND
 try dsimp only
 refine bC.n<|aV.n<|aZ<|mv Y<|lE h λvP h48 h=>ad _ Y Y h48<|ag Y<|RT.done ?_;obtain rfl:=O h;exact aV.n ⟨(vP,vu,vv),YZ _ Y,wR []⟩;subst YY;obtain⟨Ap,Aq⟩:=DG
 try dsimp only
 refine aV.n<|qq ?_;refine bD rE (λj40=>AS.dm 102 [(0,.sv (.v (.int .u8 ((x0:Nat):Int)))),(5,.ptr 23 0),(6,.sv (slc 2 (List.map eZ oC))),(7,.sv (slc 5 (List.map jT kF))),(8,.ptr 8 0),(9,.ptr 9 0),(10,ai jh),(73,aj j40)] [(9,⟨24,[aj false,.sv ax]⟩),(8,⟨24,[aj kU,.sv (slc 1 (List.map aX kV))]⟩),(23,⟨66,[ai iy,.row 302]⟩)] [(302,TR 43 5 jT iz)]) (λrE=>?_) (λBI rE=>?_);refine bg mixed<|mv Y<|lE rE λMy YP rE=>gt _ Y Y YP<|mv Y<|bE rE λF1 wo rE=>?_;cases My;obtain rfl:=O (F wo);refine ww<|ww<|ww<|ww<|ww<|ww<|ww<|pF Y ?_;refine RT.done ⟨by kernel_rfl,?_⟩;exact aV.n<|⟨false,rE,wR []⟩;refine gl Y Y (.k2 Y Y)<|gm Y<|gm Y ?_;obtain⟨⟨Kn,Ko⟩,WU,wo⟩:=bS (V wo);refine RT.Ll (.some Y Y) Y Y T WU<|RT.o6 (cs:=[_,_]) (.some Y Y) Y T Y Y<|bE wo λx71 h71 wo=>gc (kH h71) ⟨Y,Y,aq⟩<|lE wo λEU O3 wo=>VV Y _ O3 ?_;obtain rfl:=O wo;refine pT Y ?_;refine RT.done ⟨by kernel_rfl,?_⟩;exact aV.n<|⟨EU,rE,wR []⟩
 try dsimp only
 refine aV.n ?_;cases BI;refine cF<|bA<|bC.n<|aV.n<|aZ<|mv Y<|lE (F rE) λnO zO rE=>ad _ Y Y zO<|ag Y<|RT.done ?_;obtain rfl:=O rE;exact aV.n ⟨(nO,kU,kV),YW _ Y,wR []⟩;refine cT<|sr<|ag Y<|dn<|bj<|bC.r<|aV.r ?_;obtain rfl:=O (V rE);have Y1:=SB _ Y;subst Y1;refine aV.r<|bC.r<|aV.r<|aV.r ?_;obtain rfl:=O SA;exact R1 Y;subst YV;obtain⟨tN,tO⟩:=DF
 try dsimp only
 refine aV.n<|qq<|sr<|ag Y<|dn<|bE SA λYL Y2 jM=>?_;refine bX (λ(DH:Bool×(List Nat))=>AS.dm 102 [(0,.sv (.v (.int .u8 ((x0:Nat):Int)))),(6,.sv (slc 2 (List.map eZ oC))),(8,.ptr 8 0),(9,.ptr 9 0)] [(9,⟨24,[aj DH.1,.sv (slc 1 (List.map aX DH.2))]⟩),(8,⟨24,[aj tN,.sv (slc 1 (List.map aX tO))]⟩)] []) (λDH=>DH=YL) ?_ (λDH Y3=>?_);refine bn ?_;refine bY Y2 (λMD=>AS.dm 102 [(0,.sv (.v (.int .u8 ((x0:Nat):Int)))),(5,.ptr 23 0),(6,.sv (slc 2 (List.map eZ oC))),(8,.ptr 8 0),(9,.ptr 9 0),(13,.sv (.v (.int .u8 ((MD.1:Nat):Int))))] [(9,⟨24,[aj MD.2.1,.sv (slc 1 (List.map aX MD.2.2))]⟩),(8,⟨24,[aj tN,.sv (slc 1 (List.map aX tO))]⟩),(23,⟨66,[ai iy,.row 302]⟩)] [(302,TR 43 5 jT iz)]) (wR []) (λMD y47 G47 h Y4 Y5=>?_);obtain⟨rD,tQ,tR⟩:=MD
 try dsimp only
 refine qq<|sr<|mv Y<|lE h λYJ h75 h=>RT.leq .none _ Y Y T (Tm (p:=rD) (q:=4) h75)<|dn ?_;cases YJ;refine cF<|cq<|aV.x<|aV.x<|bC.x<|aV.n ?_;obtain rfl:=O (F h);exact⟨(tQ,tR),Y5 _ Y,wR []⟩;refine cT<|bA<|aV.n<|qq<|bn<|bg mixed<|ld Y Y (.k2 Y Y)<|mo (s:=.ptr _ _) Y<|mv Y ?_;obtain⟨⟨Kp,Kq⟩,YQ,h⟩:=bS (V h);refine RT.jL .none (mm YQ) 23 [302] Y ⟨Y,aq⟩ (by decide) Y Y (.k2 Y Y) T ?_;obtain⟨⟨F2,F3⟩,h82,h⟩:=bS h;refine cl (fy h82) ⟨Y,Y,aq⟩<|so Y Y Y ?_;refine RT.done ⟨by kernel_rfl,?_⟩;refine bC.n<|aV.n<|aZ<|mv Y<|lE h λYK h77 h=>ad _ Y Y (UK.add (a:=rD) (b:=1) h77)<|ag Y<|RT.done ?_;obtain rfl:=O h;exact aV.n ⟨(YK,F2,F3),Y4 _ Y,wR []⟩;subst Y3;obtain⟨Cv,Cw⟩:=DH
 try dsimp only
 refine aV.n<|qq ?_;refine bD jM (λI4=>AS.dm 102 [(4,aj I4)] [] []) (λjM=>?_) (λKr jM=>?_);refine bg mixed<|mv Y<|lE jM λNq W8 jM=>ln Y W8<|mv Y<|lE jM λOD Xa jM=>cv _ Y Xa<|lE jM λGG O4 jM=>RT.rem .none _ Y Y T (by decide) O4<|lE jM λYM h88 jM=>ad _ Y Y h88<|lE jM λLD Xb jM=>eq _ Y Y (oA (p:=Nq) (q:=YM) Xb)<|mv Y<|bE jM λF4 Ic jM=>?_;cases LD;obtain rfl:=O (F Ic);refine ww<|ww<|pF Y<|mv Y<|bE jM λUN Y6 jM=>?_;obtain rfl:=O (F Y6);refine ww<|ww<|ww<|ww<|ww<|ww<|pF Y<|ag Y ?_;refine RT.done ⟨by kernel_rfl,?_⟩;exact aV.n<|⟨false,jM,wR []⟩;refine gl Y Y (.k2 Y Y)<|bE (V Ic) λNr Xd Ic=>gc (eD Xd) ⟨Y,Y,aq⟩ ?_;obtain rfl:=O Ic;refine pT Y<|mv Y<|bE jM λUO Ar jM=>?_;cases Nr;obtain rfl:=O (F Ar);refine ww<|ww<|ww<|ww<|ww<|ww<|pF Y<|ag Y ?_;refine RT.done ⟨by kernel_rfl,?_⟩;exact aV.n<|⟨false,jM,wR []⟩;refine gl Y Y (.k2 Y Y) ?_;obtain⟨⟨Ks,Kt⟩,h96,Ar⟩:=bS (V Ar);refine gc (lN h96) ⟨Y,aq⟩<|gm Y ?_;obtain⟨⟨Ku,Kv⟩,h98,Ar⟩:=bS Ar;refine RT.Ll (.some Y Y) Y Y T h98<|RT.o6 (cs:=[_,_]) (.some Y Y) Y T Y Y<|bE Ar λME Y7 Ar=>gc (kH Y7) ⟨Y,Y,aq⟩ ?_;obtain rfl:=O Ar;refine pT Y<|ag Y ?_;refine RT.done ⟨by kernel_rfl,?_⟩;exact aV.n<|⟨ME,jM,wR []⟩
 try dsimp only
 refine aV.n<|bj ?_;obtain rfl:=O jM;exact R1 Y;refine cT<|sr<|bE (V h) λiT nP h=>cl (ni nP) trivial<|ag Y<|dn<|bj<|aV.r ?_;obtain rfl:=O h;exact R1 Y
end
end Go.Proofs.Ytmiflmkdaeianaa
namespace Go.Fw
section
theorem kz{n:Nat}(h:n<=9223372036854775807):IntKind.i64.wrap (n:Int)=n:=mF (by omega)
theorem ep{x:Int}(h: -9223372036854775808<=x)(h':x<=9223372036854775807):IntKind.i64.wrap x=x:=mF ⟨h,h'⟩
theorem cC{n:Nat}(h:n<9223372036854775807):IntKind.i64.wrap ((n:Int)+1)=((n+1:Nat):Int):=by rw[mF (by omega)];simp
theorem nJ{n m:Nat}(h:n+m<=9223372036854775807):IntKind.i64.wrap ((n:Int)+(m:Int))=((n+m:Nat):Int):=by rw[mF (by omega)];simp
theorem As{n:Nat}(h:n<=9223372036854775807):IntKind.i64.wrap (((n+1:Nat):Int)-1)=(n:Int):=by rw[mF (by omega)];omega
theorem bF{α:Type}{l:List α}{i:Nat}{a:α}(h:l[i]? =some a):c7 l (i:Int)=some a:=by simp[c7,h]
theorem k8{α:Type}{l:List α}{a:α}(h:l[0]? =some a):c7 l 0=some a:=by simp[c7,h]
theorem At{α:Type}{l:List α}{a:α}(h:l[1]? =some a):c7 l 1=some a:=by simp[c7,h]
theorem ek{α:Type}{l:List α}{i:Nat}(h:i<l.length):qO l (i:Int)=some i:=by simp[qO,h]
theorem ji{α:Type}{l:List α}{i:Nat}{y:α}(h:i<l.length):stM l i y=some (l.set i y):=by simp[stM,h]
theorem F6{α:Type}{b:Nat}{l k:List α}(h:(l.length+k.length)*b<=140737488355328)(h':l.length+k.length<=140737488355328):vY b l k=some (l++k):=by simp[vY,h,h']
theorem Kw{b n M:Nat}(hb:1<=b/\b<=1000)(h:n*b<=M):n<=M:=Nat.le_trans (Nat.le_mul_of_pos_right n hb.1) h
theorem BJ{α:Type}{b:Nat}{l:List α}{x:α}(hb:1<=b/\b<=1000)(h:(l.length+1)*b<=140737488355328):vY b l [x]=some (l++[x]):=F6 h (Kw hb h)
theorem Y8{α:Type}{b:Nat}{l k:List α}(hb:1<=b/\b<=1000)(h:(l.length+k.length)*b<=140737488355328):vY b l k=some (l++k):=F6 h (Kw hb h)
theorem Au{b n:Nat}(hb:2<=b/\b<=1000)(h:b*n<=281474976710656):0<=(n:Int)/\(b:Int)*(n:Int)<=281474976710656/\(n:Int)<=140737488355328:=by
 have h2:(b:Int)*(n:Int)=((b*n:Nat):Int):=by simp
 have h3:2*n<=b*n:=Nat.mul_le_mul_right _ hb.1;rw[h2];exact⟨by omega,by omega,by omega⟩
theorem BK{α:Type}{b:Nat}{n:Nat}(hb:2<=b/\b<=1000)(h:b*n<=281474976710656):Hf (α:=α) b (n:Int)=some []:=by
 unfold Hf;rw[if_pos (Au hb h)]
theorem vw{α:Type}{b:Nat}{n:Nat}{z:α}(hb:2<=b/\b<=1000)(h:b*n<=281474976710656):GC b (n:Int) z=some (List.replicate n z):=by
 unfold GC;rw[if_pos (Au hb h),Int.toNat_natCast]
theorem F7{α:Type}{l:List α}{i j:Nat}(h:i<=j)(h':j<=l.length):xS l (i:Int) (j:Int)=some (cut l i j):=by
 unfold xS;rw[if_pos ⟨by omega,by omega,by omega⟩];simp
theorem xu{α:Type}{l:List α}{j:Nat}(h':j<=l.length):xS l 0 (j:Int)=some (l.take j):=by
 have:=F7 (l:=l) (i:=0) (j:=j) (by omega) h';simpa[cut]using this
theorem lU{M a b:Nat}(h:b<=a)(h':a<M):jW M a b=a-b:=by
 unfold jW;rw[show(a:Int)-(b:Int)=((a-b:Nat):Int) by omega,<-Int.natCast_emod,Int.toNat_natCast,Nat.mod_eq_of_lt (by omega)]
theorem tW{M a b:Nat}(h:a<b)(h':b<=M):jW M a b=M+a-b:=by
 unfold jW;have:((a:Int)-(b:Int))%(M:Int)=((M+a-b:Nat):Int):=by
  rw[<-Int.add_emod_right (a:=(a:Int)-b),show(a:Int)-(b:Int)+(M:Int)=((M+a-b:Nat):Int) by omega,<-Int.natCast_emod,Nat.mod_eq_of_lt (by omega)]
 rw[this,Int.toNat_natCast]
theorem tX{o n i:Nat}(h:i<n):GD o n (i:Int)=some (o+i):=by simp[GD,h]
theorem lf{α:Type}{l l':List α}(h:l'.length=l.length):nY l l'=some ():=by simp[nY,h]
theorem yB{M a b:Nat}(h:b≠0)(h':a<M):xT M a b=some (a/b):=by
 unfold xT;rw[if_neg h,Nat.mod_eq_of_lt (Nat.lt_of_le_of_lt (Nat.div_le_self _ _) h')]
theorem tY{a b:Nat}(h:b≠0):vZ a b=some (a%b):=by unfold vZ;rw[if_neg h]
theorem bT{α β:Type}{a:α}{f:α->Option β}:Option.bind (some a) f=f a:=by
 have h:∀o,o=some a->Option.bind o f=f a:=by intro o ho;rw[ho];rfl
 exact h _ Y
theorem gQ{α:Type}{x y:α}:(bif true then x else y)=x:=by
 have h:∀b,b=true->(bif b then x else y)=x:=by intro b hb;rw[hb];rfl
 exact h _ Y
theorem iw{α:Type}{x y:α}:(bif false then x else y)=y:=by
 have h:∀b,b=false->(bif b then x else y)=y:=by intro b hb;rw[hb];rfl
 exact h _ Y
theorem lj{S E R:Type}{body:S->Option (S⊕E)}{s:S}{f:E->Option R}{r:R}(I:S->Prop)(Post:E->Prop)(μ:S->Nat)
  (step:∀s,I s->(∃s',body s=some (.inl s')/\I s'/\μ s'<μ s)\/(∃e,body s=some (.inr e)/\Post e)) (h:I s) (hf:∀e,Post e->f e=some r):(cI body s).bind f=some r:=by
 obtain⟨e,h1,h2⟩:=qP I Post μ step h;rw[h1];exact hf e h2
theorem jv{S E R:Type}{body:S->Option (S⊕E)}{s:S}{f:E->Option R}{Q:R->Prop}(I:S->Prop)(Post:E->Prop)(μ:S->Nat)
  (step:∀s,I s->(∃s',body s=some (.inl s')/\I s'/\μ s'<μ s)\/(∃e,body s=some (.inr e)/\Post e)) (h:I s) (hf:∀e,Post e->∃r,f e=some r/\Q r):∃r,(cI body s).bind f=some r/\Q r:=by
 obtain⟨e,h1,h2⟩:=qP I Post μ step h;rw[h1];exact hf e h2
theorem b9{S E R:Type}{body:S->Option (S⊕E)}{s:S}{f:E->Option R}{r:R}(st:Nat->S)(n:Nat)(e:E)(h0:s=st 0)(hs:∀k,k<n->body (st k)=some (.inl (st (k+1))))(he:body (st n)=some (.inr e))(hf:f e=some r):(cI body s).bind f=some r:=by
 rw[h0,EB st n hs he];exact hf
theorem vz{S R:Type}{body:Nat->S->Option S}{s:S}{f:S->Option R}{r:R}(st:Nat->S){n:Nat}(h0:s=st 0)(hs:∀k,k<n->body k (st k)=some (st (k+1)))(hf:f (st n)=some r):(mJ body n s).bind f=some r:=by
 rw[h0,wQ st n hs];exact hf
theorem aA{α β:Type}{x:Option α}{a:α}{f:α->Option β}{r:Option β}(h:x=some a)(hf:f a=r):x.bind f=r:=by rw[h];exact hf
theorem dO{α:Type}{b:Bool}{x y r:α}(hb:b=true)(h:x=r):(bif b then x else y)=r:=by rw[hb];exact h
theorem cE{α:Type}{b:Bool}{x y r:α}(hb:b=false)(h:y=r):(bif b then x else y)=r:=by rw[hb];exact h
end
section
def val(B:Nat):List Nat->Nat
 |[]=>0
 |x::l=>x+B*val B l
def dR(B:Nat):Nat->Nat->List Nat
 |0,_=>[]
 |n+1,v=>v%B::dR B n (v/B)
def ij(ws:List Nat):List Nat:=(ws.reverse.dropWhile (· ==0)).reverse
def can(B v:Nat):List Nat:=ij (dR B v v)
theorem bw(B:Nat):∀n v,(dR B n v).length=n
 |0,_=>rfl
 |n+1,v=>by simp[dR,bw B n]
theorem ik(B:Nat):∀n v,val B (dR B n v)=v%B^n
 |0,v=>by simp[dR,val,Nat.mod_one]
 |n+1,v=>by
  rw[dR,val,ik B n,Nat.pow_succ,Nat.mul_comm (B^n) B,Nat.mod_mul]
theorem jk{B:Nat}(hB:0<B):∀(n v x:Nat),x∈dR B n v->x<B
 |n+1,v,x,h=>by
  rcases List.mem_cons.1 h with rfl|h
  ·exact Nat.mod_lt _ hB
  exact jk hB n _ x h
theorem fB{B:Nat}:∀(l:List Nat),(∀x∈l,x<B)->val B l<B^l.length
 |[],_=>by simp[val]
 |x::l,h=>by
  have h1:=fB l (λy hy=>h y (List.mem_cons_of_mem _ hy));have h2:=h x (by simp);rw[val,List.length_cons,Nat.pow_succ]
  calc x+B*val B l<B+B*val B l:=by omega
   _=B*(val B l+1):=by rw[Nat.mul_add];omega
   _<=B*B^l.length:=Nat.mul_le_mul_left _ h1
   _=B^l.length*B:=Nat.mul_comm _ _
theorem tZ{B:Nat}:∀(l:List Nat),(∀x∈l,x<B)->dR B l.length (val B l)=l
 |[],_=>rfl
 |x::l,h=>by
  have h2:=h x (by simp);have hB:0<B:=by omega
  rw[List.length_cons,dR,val,Nat.add_mul_mod_self_left,Nat.mod_eq_of_lt h2,Nat.add_mul_div_left _ _ hB,Nat.div_eq_of_lt h2,Nat.zero_add,tZ l (λy hy=>h y (List.mem_cons_of_mem _ hy))]
theorem qg{B:Nat}:∀(n v j:Nat),j<n->(dR B n v)[j]? =some (v/B^j%B)
 |n+1,v,0,_=>by simp[dR]
 |n+1,v,j+1,h=>by
  rw[dR,List.getElem?_cons_succ,qg n _ j (by omega),Nat.div_div_eq_div_mul,Nat.pow_succ,Nat.mul_comm B]
theorem yC{B:Nat}:∀(a b:List Nat),val B (a++b)=val B a+B^a.length*val B b
 |[],b=>by simp[val]
 |x::a,b=>by
  rw[List.cons_append,val,val,yC a b,List.length_cons,Nat.pow_succ,Nat.mul_add,Nat.add_assoc,Nat.mul_comm (B^a.length) B,Nat.mul_assoc]
theorem jN{B:Nat}:∀(n v:Nat),dR B (n+1) v=dR B n v++[v/B^n%B]
 |0,v=>by simp[dR]
 |n+1,v=>by
  rw[dR,jN n,dR,List.cons_append,Nat.div_div_eq_div_mul,Nat.pow_succ,Nat.mul_comm B]
theorem nk(B:Nat):∀k,dR B k 0=List.replicate k 0
 |0=>rfl
 |k+1=>by rw[dR,Nat.zero_mod,Nat.zero_div,nk B k];rfl
theorem vA{B:Nat}(hB:0<B):∀(n k v:Nat),v<B^n->dR B (n+k) v=dR B n v++List.replicate k 0
 |0,k,v,h=>by
  have:v=0:=by simpa using h
  subst this;rw[Nat.zero_add,nk];rfl
 |n+1,k,v,h=>by
  rw[show n+1+k=n+k+1 by omega,dR,dR,List.cons_append,vA hB n k (v/B) (by rw[Nat.div_lt_iff_lt_mul hB];rwa[Nat.pow_succ]at h)]
theorem lW{B:Nat}(hB:2<=B):∀v,v<B^v
 |0=>by simp
 |v+1=>by
  have:=lW hB v;rw[Nat.pow_succ];have h2:B^v*2<=B^v*B:=Nat.mul_le_mul_left _ hB;omega
theorem lX(l:List Nat):ij (l++[0])=ij l:=by simp[ij]
theorem nm(l:List Nat):∀k,ij (l++List.replicate k 0)=ij l
 |0=>by simp
 |k+1=>by rw[List.replicate_succ',<-List.append_assoc,lX,nm l k]
theorem oT(l:List Nat){x:Nat}(h:x≠0):ij (l++[x])=l++[x]:=by simp[ij,h]
theorem oU(xs:List Nat):xs=[]\/(∃ys,xs=ys++[0])\/(∃ys y,y≠0/\xs=ys++[y]):=by
 rcases List.eq_nil_or_concat xs with rfl|⟨ys,y,rfl⟩
 ·exact .inl Y
 by_cases hy:y=0
 ·subst hy;exact .inr (.inl ⟨ys,by simp⟩)
 exact .inr (.inr ⟨ys,y,hy,by simp⟩)
theorem rF:∀(n:Nat) (l:List Nat),l.length=n->∃k,l=ij l++List.replicate k 0:=by
 intro n
 induction n with
 |zero=>intro l h;obtain rfl:=List.length_eq_zero_iff.1 h;exact⟨0,Y⟩
 |succ n ih=>
  intro l h;rcases oU l with rfl|⟨ys,rfl⟩|⟨ys,y,hy,rfl⟩
  ·simp at h
  ·obtain⟨k,hk⟩:=ih ys (by simpa using h);refine⟨k+1,?_⟩;rw[lX,List.replicate_succ',<-List.append_assoc,<-hk]
  exact⟨0,by rw[oT _ hy];simp⟩
theorem DI{l:List Nat}{x:Nat}(h:x∈ij l):x∈l:=by
 obtain⟨k,hk⟩:=rF _ l Y;rw[hk];exact List.mem_append_left _ h
theorem xw(l:List Nat):(ij l).length<=l.length:=by
 obtain⟨k,hk⟩:=rF _ l Y;have:=congrArg List.length hk;rw[List.length_append]at this;omega
theorem xx(B:Nat):∀k,val B (List.replicate k 0)=0
 |0=>rfl
 |k+1=>by rw[List.replicate_succ,val,xx B k];simp
theorem F8(B:Nat)(l:List Nat):val B (ij l)=val B l:=by
 obtain⟨k,hk⟩:=rF _ l Y
 conv=>rhs;rw[hk,yC,xx]
 simp
theorem Av{B:Nat}(hB:2<=B){n v:Nat}(h:v<B^n):ij (dR B n v)=can B v:=by
 have hv:=lW hB v;rcases Nat.le_total n v with hn|hn
 ·obtain⟨k,rfl⟩:=Nat.exists_eq_add_of_le hn;rw[can,vA (by omega) n k _ h,nm]
 obtain⟨k,rfl⟩:=Nat.exists_eq_add_of_le hn;rw[can,vA (by omega) v k _ hv,nm]
theorem jO{B:Nat}(hB:2<=B){l:List Nat}(h:∀x∈l,x<B):ij l=can B (val B l):=by
 conv=>lhs;rw[<-tZ l h]
 exact Av hB (fB l h)
theorem lY{B:Nat}(hB:2<=B)(v:Nat):val B (can B v)=v:=by
 rw[can,F8,ik,Nat.mod_eq_of_lt (lW hB v)]
theorem gb{B:Nat}(hB:2<=B){v x:Nat}(h:x∈can B v):x<B:=jk (by omega) v v x (DI h)
theorem nn(B:Nat):can B 0=[]:=rfl
theorem yD{B:Nat}(hB:2<=B){v:Nat}(h:can B v=[]):v=0:=by have:=lY hB v;rw[h]at this;exact this.symm
theorem Ie{B:Nat}(hB:2<=B){v n:Nat}(h:v<B^n):(can B v).length<=n:=by
 rw[<-Av hB h];have:=xw (dR B n v);rwa[bw]at this
theorem Ig{B:Nat}(hB:2<=B)(v:Nat):ij (can B v)=can B v:=by
 rw[jO hB (λx hx=>gb hB hx),lY hB]
theorem Ih{B:Nat}(hB:2<=B)(v:Nat):can B v=dR B (can B v).length v:=by
 have:=tZ (can B v) (λx hx=>gb hB hx);rw[lY hB]at this;exact this.symm
theorem cP{B:Nat}(hB:2<=B)(v:Nat):v<B^(can B v).length:=by
 have:=fB (can B v) (λx hx=>gb hB hx);rwa[lY hB]at this
theorem yE{B:Nat}(hB:2<=B){v j:Nat}(h:j<(can B v).length):(can B v)[j]? =some (v/B^j%B):=by
 rw[Ih hB v]at h⊢;rw[bw]at h;exact qg _ _ _ h
theorem vB{B:Nat}(hB:2<=B){v j:Nat}(h:(can B v).length<=j):v/B^j=0:=by
 refine Nat.div_eq_of_lt (Nat.lt_of_lt_of_le (cP hB v) ?_);exact Nat.pow_le_pow_right (by omega) h
theorem Aw{B:Nat}(hB:2<=B){v:Nat}(h:v≠0):∃l x,x≠0/\can B v=l++[x]:=by
 rcases oU (can B v)with e|⟨ys,e⟩|⟨ys,y,hy,e⟩
 ·exact absurd (yD hB e) h
 ·exfalso;have h1:=Ig hB v;rw[e,lX]at h1;have h2:=xw ys;rw[h1]at h2;simp at h2;omega
 exact⟨ys,y,hy,e⟩
theorem og{B:Nat}(hB:2<=B){v n:Nat}(h:n<(can B v).length):B^n<=v:=by
 by_cases h0:v=0
 ·subst h0;simp[nn]at h
 obtain⟨l,x,hx,e⟩:=Aw hB h0;have h1:=lY hB v;rw[e,yC]at h1;have hl:n<=l.length:=by rw[e]at h;simp at h;omega
 have h2:B^n<=B^l.length:=Nat.pow_le_pow_right (by omega) hl;have h3:B^l.length<=B^l.length*val B [x]:=Nat.le_mul_of_pos_right _ (by simp[val];omega);omega
theorem cL{B:Nat}(hB:2<=B){v n:Nat}:(can B v).length<=n↔v<B^n:=by
 refine⟨λh=>?_,Ie hB⟩;exact Nat.lt_of_lt_of_le (cP hB v) (Nat.pow_le_pow_right (by omega) h)
theorem F9{B:Nat}(hB:2<=B){l:List Nat}{x:Nat}(hx:x≠0)(h:∀y∈l++[x],y<B):l++[x]=can B (val B (l++[x])):=by
 rw[<-jO hB h,oT _ hx]
theorem lp{B:Nat}:∀(l:List Nat),(∀x∈l,x<B)->∀k,l.getD k 0=val B l/B^k%B
 |[],_,k=>by simp[val]
 |x::l,h,0=>by
  have h2:=h x (by simp);simp[val,Nat.add_mul_mod_self_left,Nat.mod_eq_of_lt h2]
 |x::l,h,k+1=>by
  have h2:=h x (by simp);have hB:0<B:=by omega
  rw[List.getD_cons_succ,lp l (λy hy=>h y (List.mem_cons_of_mem _ hy)) k,val,Nat.pow_succ,Nat.mul_comm (B^k) B,<-Nat.div_div_eq_div_mul,Nat.add_mul_div_left _ _ hB,Nat.div_eq_of_lt h2,Nat.zero_add]
theorem eE(B V k:Nat):V%B^(k+1)=V%B^k+B^k*(V/B^k%B):=by
 rw[Nat.pow_succ,Nat.mod_mul]
def yW(B V W k:Nat):Nat:=(V%B^k+W%B^k)/B^k
theorem BL{B:Nat}(hB:0<B)(V W k:Nat):yW B V W k<=1:=by
 have hP:0<B^k:=Nat.pow_pos hB;have h1:=Nat.mod_lt V hP;have h2:=Nat.mod_lt W hP;have:yW B V W k<2:=by rw[yW,Nat.div_lt_iff_lt_mul hP];omega
 omega
theorem Ax{B:Nat}(hB:0<B)(V W k:Nat):(V/B^k%B+W/B^k%B+yW B V W k)/B=yW B V W (k+1):=by
 have hP:0<B^k:=Nat.pow_pos hB;rw[yW,yW,eE,eE,Nat.pow_succ,<-Nat.div_div_eq_div_mul];congr 1;rw[show V%B^k+B^k*(V/B^k%B)+(W%B^k+B^k*(W/B^k%B))=(V%B^k+W%B^k)+B^k*(V/B^k%B+W/B^k%B) by rw[Nat.mul_add];omega,Nat.add_mul_div_left _ _ hP];omega
theorem yF{B:Nat}(hB:0<B)(V W k:Nat):(V/B^k%B+W/B^k%B+yW B V W k)%B=(V+W)/B^k%B:=by
 have hP:0<B^k:=Nat.pow_pos hB;have h:(V+W)/B^k=V/B^k+W/B^k+yW B V W k:=by
  have e1:=Nat.div_add_mod V (B^k);have e2:=Nat.div_add_mod W (B^k);rw[yW]
  conv=>lhs;rw[<-e1,<-e2]
  rw[show B^k*(V/B^k)+V%B^k+(B^k*(W/B^k)+W%B^k)=(V%B^k+W%B^k)+B^k*(V/B^k+W/B^k) by rw[Nat.mul_add];omega,Nat.add_mul_div_left _ _ hP];omega
 rw[h];simp[Nat.add_mod]
theorem Ii{B:Nat}{V W k:Nat}(hV:V<B^k)(hW:W<B^k):yW B V W k=(V+W)/B^k:=by
 rw[yW,Nat.mod_eq_of_lt hV,Nat.mod_eq_of_lt hW]
theorem Ay(B V W:Nat):yW B V W 0=0:=by simp[yW,Nat.mod_one]
def sV(B V W k:Nat):Nat:=(V%B^k+B^k-W%B^k)/B^k
theorem Az(B V W:Nat):sV B V W 0=1:=by simp[sV,Nat.mod_one]
theorem Ga{B:Nat}(hB:0<B)(V W k:Nat):sV B V W k<=1:=by
 have hP:0<B^k:=Nat.pow_pos hB;have h1:=Nat.mod_lt V hP;have:sV B V W k<2:=by
  rw[sV,Nat.div_lt_iff_lt_mul hP];generalize W%B^k=y at*;generalize V%B^k=x at*;omega
 omega
theorem CD{B:Nat}(hB:0<B)(V W k:Nat):V%B^(k+1)+B^(k+1)-W%B^(k+1)=(V%B^k+B^k-W%B^k)+B^k*(V/B^k%B+(B-1-W/B^k%B)):=by
 have hP:0<B^k:=Nat.pow_pos hB;have h1:=Nat.mod_lt V hP;have h2:=Nat.mod_lt W hP;have h3:=Nat.mod_lt (W/B^k) hB;rw[eE,eE,Nat.pow_succ];generalize B^k=p at*;generalize V/p%B=x at*;generalize W/p%B=y at*;obtain⟨z,rfl⟩:∃z,B=y+1+z:=⟨B-y-1,by omega⟩;have e1:y+1+z-1-y=z:=by omega
 rw[e1,Nat.mul_add p x z,Nat.mul_add p (y+1) z,Nat.mul_add p y 1];omega
theorem AA{B:Nat}(hB:0<B)(V W k:Nat):(V/B^k%B+(B-1-W/B^k%B)+sV B V W k)/B=sV B V W (k+1):=by
 have hP:0<B^k:=Nat.pow_pos hB;rw[sV,sV,CD hB,Nat.pow_succ,<-Nat.div_div_eq_div_mul,Nat.add_mul_div_left _ _ hP];congr 1;omega
theorem BM{Q V W:Nat}(hQ:0<Q)(h:W<=V):(V%Q+Q-W%Q)%Q=(V-W)%Q:=by
 have e1:=Nat.div_add_mod V Q;have e2:=Nat.div_add_mod W Q;have h1:=Nat.mod_lt V hQ;have h2:=Nat.mod_lt W hQ;have hq:W/Q<=V/Q:=Nat.div_le_div_right h;generalize V%Q=r at*;generalize W%Q=s at*;generalize V/Q=a at*;generalize W/Q=b at*;obtain⟨c,rfl⟩:=Nat.exists_eq_add_of_le hq;rw[Nat.mul_add]at e1;rcases Nat.lt_or_ge r s with JC|JC
 ·cases c with
  |zero=>simp at e1;omega
  |succ c=>
   rw[Nat.mul_add,Nat.mul_one]at e1;rw[show V-W=Q*c+(r+Q-s) by omega,Nat.mul_add_mod]
 rw[show V-W=Q*c+(r-s) by omega,Nat.mul_add_mod,show r+Q-s=r-s+Q by omega,Nat.add_mod_right]
theorem CE{B:Nat}(hB:0<B){V W:Nat}(h:W<=V)(k:Nat):(V/B^k%B+(B-1-W/B^k%B)+sV B V W k)%B=(V-W)/B^k%B:=by
 have hP:0<B^k:=Nat.pow_pos hB;have hQ:0<B^(k+1):=Nat.pow_pos hB;have e:=BM hQ h;have e2:V/B^k%B+(B-1-W/B^k%B)+sV B V W k=(V%B^(k+1)+B^(k+1)-W%B^(k+1))/B^k:=by
  rw[CD hB,Nat.add_mul_div_left _ _ hP,sV];omega
 rw[e2,<-Nat.mod_mul_right_div_self,<-Nat.mod_mul_right_div_self,<-Nat.pow_succ,e]
end
section
theorem CF{B:Nat}(hB:0<B):∀(j N lo p d hi:Nat),lo<B^j->p<B->d<B->j<N->(dR B N (lo+B^j*(p+B*hi))).set j d=dR B N (lo+B^j*(d+B*hi))
 |0,N+1,lo,p,d,hi,hlo,hp,hd,_=>by
  have:lo=0:=by simpa using hlo
  subst this;simp only[Nat.pow_zero,Nat.zero_add,Nat.one_mul,dR,List.set_cons_zero,Nat.add_mul_mod_self_left,Nat.mod_eq_of_lt hd];rw[Nat.add_mul_div_left _ _ hB,Nat.add_mul_div_left _ _ hB,Nat.div_eq_of_lt hp,Nat.div_eq_of_lt hd]
 |j+1,N+1,lo,p,d,hi,hlo,hp,hd,hN=>by
  have e:∀q,(lo+B^(j+1)*(q+B*hi))%B=lo%B:=λq=>by
   rw[Nat.pow_succ,Nat.mul_comm (B^j) B,Nat.mul_assoc,Nat.add_mul_mod_self_left]
  have e2:∀q,(lo+B^(j+1)*(q+B*hi))/B=lo/B+B^j*(q+B*hi):=λq=>by
   rw[Nat.pow_succ,Nat.mul_comm (B^j) B,Nat.mul_assoc,Nat.add_mul_div_left _ _ hB]
  have Y9:lo/B<B^j:=by rw[Nat.div_lt_iff_lt_mul hB];rwa[Nat.pow_succ]at hlo
  rw[dR,dR,List.set_cons_succ,e,e,e2,e2,CF hB j N (lo/B) p d hi Y9 hp hd (by omega)]
theorem nK{B:Nat}(hB:0<B){N j u u' d:Nat}(hj:j<N)(hd:d<B)(hlo:u'%B^j=u%B^j)(MF:u'/B^j%B=d)(hhi:u'/B^(j+1)=u/B^(j+1)):(dR B N u).set j d=dR B N u':=by
 have hP:0<B^j:=Nat.pow_pos hB;have f:∀u,u=u%B^j+B^j*(u/B^j%B+B*(u/B^(j+1))):=λu=>by
  have e1:=Nat.mod_add_div u (B^j);have e2:=DJ B u j;rw[Nat.add_comm]at e2;rw[<-e2,e1]
 rw[f u,CF hB j N _ _ d _ (Nat.mod_lt _ hP) (Nat.mod_lt _ hB) hd hj]
 conv=>rhs;rw[f u',hlo,MF,hhi]
where
 DJ (B v m:Nat):v/B^m=B*(v/B^(m+1))+v/B^m%B:=by
  rw[Nat.pow_succ,<-Nat.div_div_eq_div_mul,Nat.div_add_mod]
def mT(B V W i k:Nat):Nat:=((V%B^i)*W)%B^(i+k)+B^i*(V/B^i%B)*(W%B^k)
def mC(B V W i k:Nat):Nat:=mT B V W i k/B^(i+k)
def mV(B V W i k:Nat):Nat:=mT B V W i k%B^(i+k)+B^(i+k)*(((V%B^i)*W)/B^(i+k))
theorem Kx{B:Nat}(hB:0<B)(V W i k:Nat):mT B V W i k<B^(i+k)*B:=by
 have h1:((V%B^i)*W)%B^(i+k)<B^(i+k):=Nat.mod_lt _ (Nat.pow_pos hB);have h2:V/B^i%B<B:=Nat.mod_lt _ hB;have h3:W%B^k<B^k:=Nat.mod_lt _ (Nat.pow_pos hB);have h4:B^i*(V/B^i%B)*(W%B^k)<=B^i*(B-1)*B^k:=Nat.mul_le_mul (Nat.mul_le_mul_left _ (by omega)) (Nat.le_of_lt h3);have h5:B^i*(B-1)*B^k=B^(i+k)*(B-1):=by rw[Nat.pow_add,Nat.mul_assoc,Nat.mul_assoc,Nat.mul_comm (B-1)]
 have h6:B^(i+k)*B=B^(i+k)*(B-1)+B^(i+k):=by
  obtain⟨b,rfl⟩:∃b,B=b+1:=⟨B-1,by omega⟩;rw[Nat.add_sub_cancel,Nat.mul_add,Nat.mul_one]
 unfold mT;omega
theorem Ky{B:Nat}(hB:0<B)(V W i k:Nat):mC B V W i k<B:=by
 rw[mC,Nat.div_lt_iff_lt_mul (Nat.pow_pos hB),Nat.mul_comm];exact Kx hB V W i k
theorem yG{B:Nat}(V W i k:Nat):mT B V W i (k+1)=mT B V W i k+B^(i+k)*(((V%B^i)*W)/B^(i+k)%B+(V/B^i%B)*(W/B^k%B)):=by
 have e1:((V%B^i)*W)%B^(i+(k+1))=((V%B^i)*W)%B^(i+k)+B^(i+k)*(((V%B^i)*W)/B^(i+k)%B):=by rw[<-Nat.add_assoc,eE]
 have e2:W%B^(k+1)=W%B^k+B^k*(W/B^k%B):=eE B W k;unfold mT;rw[e1,e2,Nat.mul_add,Nat.mul_add (B^(i+k))];have e3:B^i*(V/B^i%B)*(B^k*(W/B^k%B))=B^(i+k)*((V/B^i%B)*(W/B^k%B)):=by
  rw[Nat.pow_add,Nat.mul_assoc,Nat.mul_assoc,Nat.mul_left_comm (V/B^i%B)]
 omega
theorem Ij{B:Nat}(hB:0<B)(V W i k:Nat):(((V%B^i)*W)/B^(i+k)%B+(V/B^i%B)*(W/B^k%B)+mC B V W i k)/B=mC B V W i (k+1):=by
 have hP:0<B^(i+k):=Nat.pow_pos hB;rw[mC,mC,yG,<-Nat.add_assoc,Nat.pow_succ,<-Nat.div_div_eq_div_mul,Nat.add_mul_div_left _ _ hP];congr 1;omega
theorem Kz{B:Nat}(V W i k:Nat):mV B V W i k%B^(i+k)=mT B V W i k%B^(i+k):=by
 rw[mV,Nat.add_mul_mod_self_left,Nat.mod_mod]
theorem CG{B:Nat}(hB:0<B)(V W i k:Nat):mV B V W i k/B^(i+k)=((V%B^i)*W)/B^(i+k):=by
 have hP:0<B^(i+k):=Nat.pow_pos hB;rw[mV,Nat.add_mul_div_left _ _ hP,Nat.div_eq_of_lt (Nat.mod_lt _ hP),Nat.zero_add]
theorem MG{B:Nat}(hB:0<B){V W i k N:Nat}(h:i+k<N):(dR B N (mV B V W i k))[i+k]? =some (((V%B^i)*W)/B^(i+k)%B):=by
 rw[qg _ _ _ h,CG hB]
theorem Ik{B:Nat}(hB:0<B){V W i k N:Nat}(h:i+k<N):
  (dR B N (mV B V W i k)).set (i+k) ((((V%B^i)*W)/B^(i+k)%B+(V/B^i%B)*(W/B^k%B)+mC B V W i k)%B)=dR B N (mV B V W i (k+1)):=by
 have hP:0<B^(i+k):=Nat.pow_pos hB;have hPB:B^(i+(k+1))=B^(i+k)*B:=by rw[<-Nat.add_assoc,Nat.pow_succ]
 have hs:mT B V W i (k+1)/B^(i+k)=((V%B^i)*W)/B^(i+k)%B+(V/B^i%B)*(W/B^k%B)+mC B V W i k:=by
  rw[yG,Nat.add_mul_div_left _ _ hP,mC];omega
 have ht:mT B V W i (k+1)%B^(i+k)=mT B V W i k%B^(i+k):=by rw[yG,Nat.add_mul_mod_self_left]
 refine nK hB h (Nat.mod_lt _ hB) ?_ ?_ ?_
 ·rw[Kz,<-ht,mV,hPB,Nat.mul_assoc,Nat.add_mul_mod_self_left,Nat.mod_mul_right_mod]
 ·rw[mV,hPB,Nat.mul_assoc,Nat.add_mul_div_left _ _ hP,Nat.add_mul_mod_self_left,Nat.mod_mul_right_div_self,Nat.mod_mod,hs]
 rw[show i+k+1=i+(k+1) by omega,CG hB,show i+(k+1)=i+k+1 by omega,Nat.pow_succ,<-Nat.div_div_eq_div_mul,<-Nat.div_div_eq_div_mul,CG hB]
theorem Il{B:Nat}(V W i:Nat):mV B V W i 0=(V%B^i)*W:=by
 rw[mV,mT,Nat.pow_zero,Nat.mod_one,Nat.mul_zero,Nat.add_zero,Nat.add_zero,Nat.mod_mod,Nat.mod_add_div]
theorem Im{B:Nat}(hB:0<B)(V W i:Nat):mC B V W i 0=0:=by
 rw[mC,mT,Nat.pow_zero,Nat.mod_one,Nat.mul_zero,Nat.add_zero,Nat.add_zero];exact Nat.div_eq_of_lt (Nat.mod_lt _ (Nat.pow_pos hB))
theorem MH{B:Nat}(hB:0<B){V W i n N:Nat}(hW:W<B^n)(h:i+n<N):(dR B N (mV B V W i n)).set (i+n) ((0+mC B V W i n)%B)=dR B N ((V%B^(i+1))*W):=by
 have hP:0<B^(i+n):=Nat.pow_pos hB;have hp:(V%B^i)*W<B^(i+n):=by
  have h1:V%B^i<B^i:=Nat.mod_lt _ (Nat.pow_pos hB);rw[Nat.pow_add];by_cases h0:W=0
  ·subst h0;rw[Nat.mul_zero];exact Nat.mul_pos (Nat.pow_pos hB) (Nat.pow_pos hB)
  calc (V%B^i)*W<B^i*W:=Nat.mul_lt_mul_of_pos_right h1 (by omega)
   _<=B^i*B^n:=Nat.mul_le_mul_left _ (Nat.le_of_lt hW)
 have hT:mT B V W i n=(V%B^(i+1))*W:=by
  rw[mT,Nat.mod_eq_of_lt hp,Nat.mod_eq_of_lt hW,eE,Nat.add_mul]
 have hlt:=Kx hB V W i n;rw[hT]at hlt;refine nK hB h (Nat.mod_lt _ hB) ?_ ?_ ?_
 ·rw[Kz,hT]
 ·rw[Nat.zero_add,mC,hT]
 rw[Nat.pow_succ B (i+n),Nat.div_eq_of_lt hlt,<-Nat.div_div_eq_div_mul,CG hB,Nat.div_eq_of_lt hp,Nat.zero_div]
def sT(B V f e i:Nat):Nat:=V%B^i*f+e
def sC(B V f e i:Nat):Nat:=sT B V f e i/B^i
theorem CH(B V f e:Nat):sC B V f e 0=e:=by simp[sC,sT,Nat.mod_one]
theorem CI(B V f e i:Nat):sT B V f e (i+1)=sT B V f e i+B^i*(V/B^i%B*f):=by
 unfold sT;rw[eE,Nat.add_mul,Nat.mul_assoc];omega
theorem CJ{B:Nat}(hB:0<B)(V f e i:Nat):(V/B^i%B*f+sC B V f e i)/B=sC B V f e (i+1):=by
 have hP:0<B^i:=Nat.pow_pos hB;rw[sC,sC,CI,Nat.pow_succ,<-Nat.div_div_eq_div_mul,Nat.add_mul_div_left _ _ hP];congr 1;omega
theorem Gb{B:Nat}(hB:0<B)(V f e i:Nat):(V/B^i%B*f+sC B V f e i)%B=(V*f+e)/B^i%B:=by
 have hP:0<B^i:=Nat.pow_pos hB;have h1:V*f+e=sT B V f e (i+1)+B^i*(B*(V/B^(i+1)*f)):=by
  have e1:=Nat.mod_add_div V (B^(i+1));unfold sT
  conv=>lhs;rw[<-e1,Nat.add_mul]
  rw[Nat.pow_succ,Nat.mul_assoc,Nat.mul_assoc];omega
 rw[h1,Nat.add_mul_div_left _ _ hP,Nat.add_mul_mod_self_left,CI,Nat.add_mul_div_left _ _ hP,sC,Nat.add_comm]
theorem KA{B:Nat}(hB:0<B){V f e:Nat}(hf:f<B)(he:e<B)(i:Nat):sC B V f e i<B:=by
 have hP:0<B^i:=Nat.pow_pos hB;rw[sC,Nat.div_lt_iff_lt_mul hP];have h1:V%B^i<=B^i-1:=by have:=Nat.mod_lt V hP;omega
 have h2:V%B^i*f<=(B^i-1)*(B-1):=Nat.mul_le_mul h1 (by omega);obtain⟨p,hp⟩:∃p,B^i=p+1:=⟨B^i-1,by omega⟩;obtain⟨b,rfl⟩:∃b,B=b+1:=⟨B-1,by omega⟩;unfold sT;rw[hp]at h2⊢;rw[Nat.add_sub_cancel,Nat.add_sub_cancel]at h2;have h3:(b+1)*(p+1)=p*b+b+p+1:=by rw[Nat.add_mul,Nat.mul_add,Nat.mul_comm b p];omega
 omega
theorem MI{B V f e i:Nat}(h:V<B^i):sC B V f e i=(V*f+e)/B^i:=by rw[sC,sT,Nat.mod_eq_of_lt h]
def sU(B V f e i:Nat):Nat:=sT B V f e i%B^i+B^i*(V/B^i)
def qU(B V d n:Nat):Nat:=V%B^n+B^n*(V/B^n/d)
theorem Io(B V d:Nat):qU B V d 0=V/d:=by simp[qU,Nat.mod_one]
theorem MJ{B V d n:Nat}(h:V<B^n):qU B V d n=V:=by simp[qU,Nat.mod_eq_of_lt h,Nat.div_eq_of_lt h]
theorem Ip(B V m:Nat):V/B^m=B*(V/B^(m+1))+V/B^m%B:=by rw[Nat.pow_succ,<-Nat.div_div_eq_div_mul,Nat.div_add_mod]
theorem KB{B d:Nat}(V m:Nat):V/B^m=(V/B^(m+1)%d*B+V/B^m%B)+d*(B*(V/B^(m+1)/d)):=by
 have h1:=Ip B V m;have h2:=Nat.mod_add_div (V/B^(m+1)) d;generalize V/B^(m+1)=q at*;generalize V/B^m%B=y at*;rw[h1]
 conv=>lhs;rw[<-h2]
 rw[Nat.mul_add,Nat.mul_left_comm B d,Nat.mul_comm B (q%d)];omega
theorem SC{B d:Nat}(hd:0<d)(V m:Nat):V/B^m/d=B*(V/B^(m+1)/d)+(V/B^(m+1)%d*B+V/B^m%B)/d:=by
 conv=>lhs;rw[KB (B:=B) (d:=d) V m]
 rw[Nat.add_mul_div_left _ _ hd,Nat.add_comm]
theorem SD{B d:Nat}(V m:Nat):V/B^m%d=(V/B^(m+1)%d*B+V/B^m%B)%d:=by
 conv=>lhs;rw[KB (B:=B) (d:=d) V m]
 rw[Nat.add_mul_mod_self_left]
theorem SE{B d:Nat}(hB:0<B)(hd:0<d)(V m:Nat):V/B^(m+1)%d*B+V/B^m%B<d*B:=by
 have h1:=Nat.mod_lt (V/B^(m+1)) hd;have h2:=Nat.mod_lt (V/B^m) hB;have h3:(V/B^(m+1)%d+1)*B<=d*B:=Nat.mul_le_mul_right _ h1;rw[Nat.add_mul]at h3;omega
theorem Gc{B:Nat}(hB:0<B)(V d n:Nat):qU B V d n/B^n=V/B^n/d:=by
 have hP:0<B^n:=Nat.pow_pos hB;rw[qU,Nat.add_mul_div_left _ _ hP,Nat.div_eq_of_lt (Nat.mod_lt _ hP),Nat.zero_add]
theorem SF(B V d n:Nat):qU B V d n%B^n=V%B^n:=by rw[qU,Nat.add_mul_mod_self_left,Nat.mod_mod]
theorem Iq{B:Nat}(V d m:Nat):qU B V d (m+1)%B^m=V%B^m:=by
 rw[qU,Nat.pow_succ,Nat.mul_assoc,Nat.add_mul_mod_self_left,Nat.mod_mul_right_mod]
theorem MK{B:Nat}(hB:0<B){V d m N:Nat}(h:m<N):(dR B N (qU B V d (m+1)))[m]? =some (V/B^m%B):=by
 have hP:0<B^m:=Nat.pow_pos hB;rw[qg _ _ _ h,qU,Nat.pow_succ,Nat.mul_assoc,Nat.add_mul_div_left _ _ hP,Nat.add_mul_mod_self_left,Nat.mod_mul_right_div_self,Nat.mod_mod]
theorem Ir{B:Nat}(hB:0<B){V d m N:Nat}(hd:0<d)(h:m<N):(dR B N (qU B V d (m+1))).set m ((V/B^(m+1)%d*B+V/B^m%B)/d)=dR B N (qU B V d m):=by
 have hx:(V/B^(m+1)%d*B+V/B^m%B)/d<B:=by rw[Nat.div_lt_iff_lt_mul hd,Nat.mul_comm B d];exact SE hB hd V m
 have hq:=SC (B:=B) hd V m;refine nK hB h hx ?_ ?_ ?_
 ·rw[SF,Iq]
 ·rw[Gc hB,hq,Nat.mul_add_mod,Nat.mod_eq_of_lt hx]
 rw[Gc hB,Nat.pow_succ,<-Nat.div_div_eq_div_mul,Gc hB,hq,Nat.mul_add_div hB,Nat.div_eq_of_lt hx,<-Nat.pow_succ];rfl
end
section
theorem Is{B v:Nat}(hB:2<=B)(h0:v≠0)(h:v<B):can B v=[v]:=by
 have:=F9 hB (l:=[]) h0 (by simpa using h);simpa[val]using this.symm
theorem It{B v:Nat}(hB:2<=B)(h0:v/B≠0)(h:v<B*B):can B v=[v%B,v/B]:=by
 have h1:v/B<B:=by rw[Nat.div_lt_iff_lt_mul (by omega)];exact h
 have h2:v%B<B:=Nat.mod_lt _ (by omega);have:=F9 hB (l:=[v%B]) h0 (by simp;exact⟨h2,h1⟩);simp only[List.cons_append,List.nil_append,val,Nat.mul_zero,Nat.add_zero]at this;rw[Nat.mod_add_div]at this;exact this.symm
theorem kA{B:Nat}{l:List Nat}(h:∀x∈l,x<B){i:Nat}(hi:i<l.length):l[i]? =some (val B l/B^i%B):=by
 rw[<-lp l h i];simp[List.getD,hi]
def wE(v w:Nat):Int:=if v<w then-1 else if v=w then 0 else 1
theorem qh{v w:Nat}(h:v<w):wE v w=-1:=by simp[wE,h]
theorem yH(v:Nat):wE v v=0:=by simp[wE]
theorem ua{v w:Nat}(h:w<v):wE v w=1:=by
 have h1:¬v<w:=by omega
 have h2:¬v=w:=by omega
 simp[wE,h1,h2]
theorem vC{B v w:Nat}(hB:2<=B)(h:(can B v).length<(can B w).length):v<w:=
 Nat.lt_of_lt_of_le (cP hB v) (og hB h)
theorem AB(B v m:Nat):v/B^m=B*(v/B^(m+1))+v/B^m%B:=by
 rw[Nat.pow_succ,<-Nat.div_div_eq_div_mul,Nat.div_add_mod]
theorem xy{B v w m:Nat}(h:v/B^m<w/B^m):v<w:=by
 rcases Nat.lt_or_ge v w with h1|h1
 ·exact h1
 have:=Nat.div_le_div_right (c:=B^m) h1;omega
theorem DK{B v w m:Nat}(h:v/B^(m+1)=w/B^(m+1)):(v/B^m%B=w/B^m%B/\v/B^m=w/B^m)\/(v/B^m%B<w/B^m%B/\v<w)\/(w/B^m%B<v/B^m%B/\w<v):=by
 have h1:=AB B v m;have h2:=AB B w m;rw[<-h]at h2;rcases Nat.lt_trichotomy (v/B^m%B) (w/B^m%B)with h3|h3|h3
 ·exact .inr (.inl ⟨h3,xy (B:=B) (m:=m) (by omega)⟩)
 ·exact .inl ⟨h3,by omega⟩
 exact .inr (.inr ⟨h3,xy (B:=B) (m:=m) (by omega)⟩)
end
end Go.Fw
namespace Go.Proofs.Ytmiflmkdaeianaa
section
open Go.Fw
theorem qi(l:List Nat)(hl:l.length<=9000000000000000000):bh l=some (ij l):=by
 unfold bh;refine lj (λy=>y.length<=9000000000000000000/\ij y=ij l) (λe=>e=ij l) (λy=>y.length) ?_ ⟨hl,Y⟩ (λe he=>by rw[he]);rintro y ⟨hy,ht⟩;rcases oU y with rfl|⟨ys,rfl⟩|⟨ys,x,hx,rfl⟩
 ·right;exact⟨[],by simp[cW],ht⟩
 ·left;have h1:((ys++[0]).length:Int)=((ys.length+1:Nat):Int):=by simp
  have h2:ys.length<=9223372036854775807:=by simp at hy;omega
  refine⟨ys,?_,⟨by simp at hy⊢;omega,by rw[<-ht,lX]⟩,by simp⟩;simp only[cW,Option.bind_some,h1,As h2];rw[bF (a:=0) (by simp),xu (by simp)];simp
 right;have h1:((ys++[x]).length:Int)=((ys.length+1:Nat):Int):=by simp
 have h2:ys.length<=9223372036854775807:=by simp at hy;omega
 refine⟨ys++[x],?_,by rw[<-ht,oT _ hx]⟩;simp only[cW,Option.bind_some,h1,As h2];rw[bF (a:=x) (by simp)];simp[hx]
def zc(n:Bool)(v:Nat):Zr:=⟨n&&v != 0,can 4294967296 v⟩
theorem CK(n:Bool):zc n 0=⟨false,[]⟩:=by simp[zc,nn]
theorem Ge(n:Bool){v:Nat}(h:v≠0):zc n v=⟨n,can 4294967296 v⟩:=by simp[zc,h]
def yI(l:List Nat):Prop:=(∀x∈l,x<4294967296)/\l.length<=35184372088808
def W64(l:List Nat):Prop:=(∀x∈l,x<4294967296)/\l.length<=9000000000000000000
theorem yI.x{l:List Nat}(h:yI l):W64 l:=⟨h.1,Nat.le_trans h.2 (by decide)⟩
abbrev vl(l:List Nat):Nat:=val 4294967296 l
theorem gu(n:Bool)(l:List Nat)(h:W64 l):bM n l=some (zc n (vl l)):=by
 unfold bM;rw[qi l (by have:=h.2;omega),jO (by decide) h.1];show _=some (zc n (val 4294967296 l));by_cases hz:val 4294967296 l=0
 ·rw[hz,CK];simp[nn]
 have:can 4294967296 (val 4294967296 l)≠[]:=λe=>hz (yD (by decide) e);rw[Ge _ hz];simp[this]
theorem lq(n:Bool)(v:Nat)(h:v<18446744073709551616):dA n v=some (zc n v):=by
 unfold dA;by_cases hz:v=0
 ·subst hz;simp[CK]
 rw[Ge _ hz];by_cases h1:v/2^32=0
 ·rw[Is (by decide) hz (by omega)];simp only[Option.bind_some,hz,h1,decide_false,decide_true,cond_false,cond_true];rw[Nat.mod_eq_of_lt (by omega)]
 rw[It (by decide) (by omega) (by omega)];simp only[Option.bind_some,hz,h1,decide_false,cond_false];rw[Nat.mod_eq_of_lt (a:=v/2^32) (by omega)]
theorem Gf{a b s:Nat}(h:a<2^s):a ||| b*2^s=a+b*2^s:=by
 rw[Nat.or_comm,Nat.mul_comm b,<-Nat.two_pow_add_eq_or_of_lt h,Nat.add_comm]
theorem low_eq(l:List Nat)(h:∀x∈l,x<4294967296)(hl:l.length<=2):cJ l=some (vl l):=by
 rcases l with _|⟨x,_|⟨y,_|⟨z,l⟩⟩⟩
 ·simp[cJ,vl,val]
 ·have hx:=h x (by simp);simp only[cJ,k8 (l:=[x]) (a:=x) rfl];simp[vl,val];omega
 ·have hx:=h x (by simp);have hy:=h y (by simp);simp only[cJ,k8 (l:=[x,y]) (a:=x) Y,At (l:=[x,y]) (a:=y) Y,Option.bind_some];rw[Nat.mod_eq_of_lt (a:=x) (by omega),Nat.mod_eq_of_lt (a:=y) (by omega),Nat.mod_eq_of_lt (a:=y*2^32) (by omega),Gf (by omega),Nat.mod_eq_of_lt (by omega)];simp[vl,val];omega
 simp at hl
theorem eI(x c:Nat)(h:x+c<18446744073709551616):bu x c=some ((x+c)%4294967296,(x+c)/4294967296):=by
 simp[bu,Nat.mod_eq_of_lt h]
theorem gB(v w:Nat)(hv:(can 4294967296 v).length<=9000000000000000000)(hw:(can 4294967296 w).length<=9000000000000000000):b7 (can 4294967296 v) (can 4294967296 w)=some (wE v w):=by
 unfold b7;rcases Nat.lt_trichotomy (can 4294967296 v).length (can 4294967296 w).length with hl|hl|hl
 ·rw[qh (vC (by decide) hl)];simp only[Option.bind_some];rw[show decide (((can 4294967296 v).length:Int)≠((can 4294967296 w).length:Int))=true by simp;omega,show decide (((can 4294967296 v).length:Int)<((can 4294967296 w).length:Int))=true by simp;omega];rfl
 ·simp only[Option.bind_some];rw[show decide (((can 4294967296 v).length:Int)≠((can 4294967296 w).length:Int))=false by simp;omega,cond_false];refine lj (λy=>∃n:Nat,y=(n:Int)-1/\n<=(can 4294967296 v).length/\v/4294967296^n=w/4294967296^n) (λe=>e=(if v=w then .inl ()else .inr (wE v w))) (λy=>(y+1).toNat) ?_ ⟨(can 4294967296 v).length,?_,Nat.le_refl _,?_⟩ ?_
  ·rintro y ⟨n,rfl,hn,he⟩;cases n with
   |zero=>
    right;have:v=w:=by simpa using he
    subst this;exact⟨_,by simp,Y⟩
   |succ m=>
    have yR:=yE (B:=4294967296) (by decide) (v:=v) (j:=m) (by omega);have Za:=yE (B:=4294967296) (by decide) (v:=w) (j:=m) (by omega);have e0:((m+1:Nat):Int)-1=(m:Int):=by omega
    rw[e0];rcases DK he with⟨h1,h2⟩|⟨h1,h2⟩|⟨h1,h2⟩
    ·left;refine⟨(m:Int)-1,?_,⟨m,Y,by omega,h2⟩,by omega⟩;simp only[Option.bind_some,bF yR,bF Za,h1];rw[ep (by omega) (by omega)];simp
    ·right;refine⟨.inr (-1),?_,by rw[if_neg (by omega),qh h2]⟩;simp only[Option.bind_some,bF yR,bF Za];simp[h1,Nat.ne_of_lt h1]
    right;refine⟨.inr 1,?_,by rw[if_neg (by omega),ua h2]⟩;simp only[Option.bind_some,bF yR,bF Za];simp[Nat.not_lt_of_lt h1,Nat.ne_of_gt h1]
  ·rw[ep (by omega) (by omega)]
  ·rw[vB (by decide) (Nat.le_refl _),vB (by decide) (by omega)]
  rintro e rfl;by_cases h:v=w
  ·subst h;simp[yH]
  simp[h]
 rw[ua (vC (by decide) hl)];simp only[Option.bind_some];rw[show decide (((can 4294967296 v).length:Int)≠((can 4294967296 w).length:Int))=true by simp;omega,show decide (((can 4294967296 v).length:Int)<((can 4294967296 w).length:Int))=false by simp;omega];rfl
theorem uc{l:List Nat}(h:∀x∈l,x<4294967296)(i:Nat):l.getD i 0<4294967296:=by
 rcases Nat.lt_or_ge i l.length with hi|hi
 ·exact h _ (List.mem_of_getElem? (mI hi))
 rw[oB hi];decide
theorem sB(a b:List Nat)(ha:yI a)(hb:yI b):dr a b=some (dR 4294967296 (max a.length b.length+1) (vl a+vl b)):=by
 obtain⟨hA,hla⟩:=ha;obtain⟨hB,hlb⟩:=hb;have hV:val 4294967296 a<4294967296^(max a.length b.length):=Nat.lt_of_lt_of_le (fB a hA) (Nat.pow_le_pow_right (by decide) (by omega));have hW:val 4294967296 b<4294967296^(max a.length b.length):=Nat.lt_of_lt_of_le (fB b hB) (Nat.pow_le_pow_right (by decide) (by omega));unfold dr;simp only[Option.bind_some];rw[show max (a.length:Int) (b.length:Int)=((max a.length b.length:Nat):Int) by omega,cC (by omega),BK (by decide) (by omega),Option.bind_some];refine vz (λk=>(yW 4294967296 (vl a) (vl b) k,dR 4294967296 k (vl a+vl b))) (by simp[Ay,dR]) (λk hk=>?_) ?_
 ·have hx:=uc hA k;have hy:=uc hB k;have hc:=BL (B:=4294967296) (by decide) (vl a) (vl b) k;have Zb:=lp a hA k;have Zc:=lp b hB k;simp only[Option.bind_some];rw[Nat.mod_eq_of_lt (a:=a.getD k 0) (by omega),Nat.mod_eq_of_lt (a:=b.getD k 0) (by omega),Nat.mod_eq_of_lt (a:=a.getD k 0+b.getD k 0) (by omega),eI _ _ (by omega)];simp only[Option.bind_some];rw[BJ (by decide) (by rw[bw];omega),Option.bind_some,Zb,Zc,Ax (by decide),yF (by decide),<-jN]
 have hc:=BL (B:=4294967296) (by decide) (vl a) (vl b) (max a.length b.length);simp only;rw[eI _ _ (by omega)];simp only[Option.bind_some];rw[BJ (by decide) (by rw[bw];omega),Option.bind_some,Nat.zero_add,Ii hV hW,<-jN]
theorem sD(a b:List Nat)(ha:yI a)(hb:yI b)(hl:b.length<=a.length)(hle:vl b<=vl a):cg a b=some (dR 4294967296 a.length (vl a-vl b)):=by
 obtain⟨hA,hla⟩:=ha;obtain⟨hB,hlb⟩:=hb;have hmx:max a.length b.length=a.length:=by omega
 unfold cg;simp only[Option.bind_some];rw[BK (by decide) (by omega),Option.bind_some,hmx];refine vz (λk=>(sV 4294967296 (vl a) (vl b) k,dR 4294967296 k (vl a-vl b))) (by simp[Az,dR]) (λk hk=>?_) Y;have hx:=uc hA k;have hy:=uc hB k;have hc:=Ga (B:=4294967296) (by decide) (vl a) (vl b) k;have Zb:=lp a hA k;have Zc:=lp b hB k;simp only[Option.bind_some];rw[Nat.mod_eq_of_lt (a:=a.getD k 0) (by omega),Nat.mod_eq_of_lt (a:=b.getD k 0) (by omega),lU (by omega) (by omega),Nat.mod_eq_of_lt (a:=a.getD k 0+(4294967295-b.getD k 0)) (by omega),eI _ _ (by omega)];simp only[Option.bind_some];rw[BJ (by decide) (by rw[bw];omega),Option.bind_some,Zb,Zc,AA (B:=4294967296) (by decide),CE (B:=4294967296) (by decide) hle,<-jN]
theorem AD(a b:List Nat)(ha:yI a)(hb:yI b):dW a b=some (dR 4294967296 (a.length+b.length) (vl a*vl b)):=by
 obtain⟨hA,hla⟩:=ha;obtain⟨hB,hlb⟩:=hb;unfold dW;simp only[Option.bind_some];rw[nJ (by omega),vw (by decide) (by omega),Option.bind_some];refine b9 (λi=>((i:Int),dR 4294967296 (a.length+b.length) (vl a%4294967296^i*vl b))) a.length (dR 4294967296 (a.length+b.length) (vl a%4294967296^a.length*vl b)) (by simp[Nat.mod_one,nk]) (λi hi=>?_) (by simp) (by rw[Nat.mod_eq_of_lt (fB a hA)]);have UP:=kA hA hi;have hx:val 4294967296 a/4294967296^i%4294967296<4294967296:=Nat.mod_lt _ (by decide);simp only[Option.bind_some,show decide ((i:Int)<(a.length:Int))=true by simp;omega,cond_true];rw[bF UP,Option.bind_some];refine b9 (λk=>((k:Int),mC 4294967296 (vl a) (vl b) i k,dR 4294967296 (a.length+b.length) (mV 4294967296 (vl a) (vl b) i k))) b.length (mC 4294967296 (vl a) (vl b) i b.length,dR 4294967296 (a.length+b.length) (mV 4294967296 (vl a) (vl b) i b.length)) (by simp[Im,Il]) (λk hk=>?_) (by simp) ?_
 ·have hgy:=kA hB hk;have UQ:=MG (B:=4294967296) (by decide) (V:=vl a) (W:=vl b) (i:=i) (k:=k) (N:=a.length+b.length) (by omega);have hy:val 4294967296 b/4294967296^k%4294967296<4294967296:=Nat.mod_lt _ (by decide);have hp:vl a%4294967296^i*vl b/4294967296^(i+k)%4294967296<4294967296:=Nat.mod_lt _ (by decide);have hc:=Ky (B:=4294967296) (by decide) (vl a) (vl b) i k;have hxy:val 4294967296 a/4294967296^i%4294967296*(val 4294967296 b/4294967296^k%4294967296)<=4294967295*4294967295:=Nat.mul_le_mul (by omega) (by omega);simp only[Option.bind_some,show decide ((k:Int)<(b.length:Int))=true by simp;omega,cond_true];rw[bF hgy,Option.bind_some,nJ (by omega),ek (by rw[bw];omega),Option.bind_some,UQ,Option.bind_some]
  rw[Nat.mod_eq_of_lt (a:=vl a%4294967296^i*vl b/4294967296^(i+k)%4294967296) (by omega),Nat.mod_eq_of_lt (a:=val 4294967296 a/4294967296^i%4294967296) (b:=18446744073709551616) (by omega),Nat.mod_eq_of_lt (a:=val 4294967296 b/4294967296^k%4294967296) (b:=18446744073709551616) (by omega),Nat.mod_eq_of_lt (a:=val 4294967296 a/4294967296^i%4294967296*(val 4294967296 b/4294967296^k%4294967296)) (by omega),Nat.mod_eq_of_lt (a:=vl a%4294967296^i*vl b/4294967296^(i+k)%4294967296+_) (by omega),eI _ _ (by omega)];simp only[Option.bind_some];rw[ji (by rw[bw];omega),Option.bind_some,Ij (B:=4294967296) (by decide),Ik (B:=4294967296) (by decide) (by omega),cC (by omega)]
 have hc:=Ky (B:=4294967296) (by decide) (vl a) (vl b) i b.length;simp only[Option.bind_some];rw[nJ (by omega),eI _ _ (by omega)];simp only[Option.bind_some];rw[ek (by rw[bw];omega),Option.bind_some,ji (by rw[bw];omega),Option.bind_some,MH (B:=4294967296) (by decide) (fB b hB) (by omega),cC (by omega)]
end
section
open Go.Fw
theorem Iu{a b s:Nat}(h:a<2^s):b*2^s ||| a=b*2^s+a:=by rw[Nat.or_comm,Gf h,Nat.add_comm]
theorem CL{a b:Nat}(h:a<4294967296):b*4294967296 ||| a=b*4294967296+a:=Iu (s:=32) h
theorem AE(a:List Nat)(d:Nat)(ha:yI a)(hd:0<d)(hd2:d<=4294967296):eR a d=some (vl a%d,dR 4294967296 a.length (vl a/d)):=by
 obtain⟨hA,hla⟩:=ha;unfold eR;simp only[Option.bind_some];rw[ep (by omega) (by omega)];refine b9 (λi=>(vl a/4294967296^(a.length-i)%d,((a.length-i:Nat):Int)-1,dR 4294967296 a.length (qU 4294967296 (vl a) d (a.length-i)))) a.length (vl a%d,dR 4294967296 a.length (vl a/d)) ?_ (λi hi=>?_) (by simp[Io]) ?_
 ·simp only[Nat.sub_zero];rw[MJ (fB a hA),tZ a hA,Nat.div_eq_of_lt (fB a hA),Nat.zero_mod]
 ·obtain⟨m,hm⟩:∃m,a.length-i=m+1:=⟨a.length-i-1,by omega⟩;have hm':a.length-(i+1)=m:=by omega
  have hml:m<a.length:=by omega
  rw[hm,hm'];have hy:vl a/4294967296^m%4294967296<4294967296:=Nat.mod_lt _ (by decide);have hr:vl a/4294967296^(m+1)%d<d:=Nat.mod_lt _ hd;have hq:=SE (B:=4294967296) (by decide) hd (vl a) m;have hqd:(vl a/4294967296^(m+1)%d*4294967296+vl a/4294967296^m%4294967296)/d<4294967296:=by rw[Nat.div_lt_iff_lt_mul hd,Nat.mul_comm 4294967296 d];exact hq
  have hg:=MK (B:=4294967296) (by decide) (V:=vl a) (d:=d) (m:=m) (N:=a.length) hml;have hlt:vl a/4294967296^(m+1)%d*4294967296+vl a/4294967296^m%4294967296<18446744073709551616:=by omega
  have Nj:vl a/4294967296^(m+1)%d*4294967296<18446744073709551616:=Nat.lt_of_le_of_lt (Nat.le_add_right _ _) hlt;have AY:vl a/4294967296^m%4294967296<18446744073709551616:=Nat.lt_of_le_of_lt (Nat.le_add_left _ _) hlt;have Yl:((m+1:Nat):Int)-1=(m:Int):=by omega
  simp only[Yl,show decide ((0:Int)<=(m:Int))=true by simp,cond_true,Option.bind_some];rw[ek (by rw[bw];omega),Option.bind_some,hg];simp only[Option.bind_some];rw[show(2:Nat)^32=4294967296 from rfl];rw[Nat.mod_eq_of_lt (a:=vl a/4294967296^(m+1)%d*4294967296) Nj,Nat.mod_eq_of_lt (a:=vl a/4294967296^m%4294967296) (b:=18446744073709551616) AY,CL hy,Nat.mod_eq_of_lt (a:=vl a/4294967296^(m+1)%d*4294967296+vl a/4294967296^m%4294967296) hlt,yB (by omega) hlt,tY (by omega)];simp only[Option.bind_some];rw[Nat.mod_eq_of_lt (b:=4294967296) (a:=(vl a/4294967296^(m+1)%d*4294967296+vl a/4294967296^m%4294967296)/d) hqd,ji (by rw[bw];omega),Option.bind_some,ep (by omega) (by omega)];rw[Ir (B:=4294967296) (by decide) hd hml,<-SD (B:=4294967296) (d:=d) (vl a) m]
 simp only;rw[lf (by rw[bw]),Option.bind_some]
theorem shiftLeft_eq(a:List Nat)(s:Nat)(ha:yI a)(hs:s<32):dN a s=some (dR 4294967296 (a.length+1) (vl a*2^s)):=by
 obtain⟨hA,hla⟩:=ha;have hf:2^s<4294967296:=by
  have:2^s<2^32:=Nat.pow_lt_pow_right (by decide) hs;omega
 unfold dN;simp only[Option.bind_some];rw[cC (by omega),BK (by decide) (by omega),Option.bind_some];refine b9 (λi=>((i:Int),sC 4294967296 (vl a) (2^s) 0 i,dR 4294967296 i (vl a*2^s+0))) a.length (sC 4294967296 (vl a) (2^s) 0 a.length,dR 4294967296 a.length (vl a*2^s+0)) (by simp[CH,dR]) (λi hi=>?_) (by simp) ?_
 ·have hx:vl a/4294967296^i%4294967296<4294967296:=Nat.mod_lt _ (by decide);have hc:=KA (B:=4294967296) (by decide) (V:=vl a) hf (show(0:Nat)<4294967296 by decide) i;have hxf:vl a/4294967296^i%4294967296*2^s<=4294967295*4294967295:=Nat.mul_le_mul (by omega) (by omega);have hg:a[i]? =some (vl a/4294967296^i%4294967296):=kA hA hi;simp only[show decide ((i:Int)<(a.length:Int))=true by simp;omega,cond_true];rw[bF hg];simp only[Option.bind_some];rw[show min s 64=s by omega,Nat.mod_eq_of_lt (a:=vl a/4294967296^i%4294967296) (b:=18446744073709551616) (by omega),Nat.mod_eq_of_lt (b:=18446744073709551616) (by omega),eI _ _ (by omega)];simp only[Option.bind_some];rw[BJ (by decide) (by rw[bw];omega),Option.bind_some,CJ (B:=4294967296) (by decide),Gb (B:=4294967296) (by decide),cC (by omega),<-jN]
 have hc:=KA (B:=4294967296) (by decide) (V:=vl a) hf (show(0:Nat)<4294967296 by decide) a.length;simp only;rw[eI _ _ (by omega)];simp only[Option.bind_some];rw[BJ (by decide) (by rw[bw];omega),Option.bind_some,Nat.zero_add,MI (fB a hA),<-jN];simp
theorem wF(a:List Nat)(s:Nat):fm a s=dN a s:=rfl
def oV:Lm:=[0,1,2,2,3,3,3,3,4,4,4,4,4,4,4,4,5,5,5,5,5,5,5,5,5,5,5,5,5,5,5,5]++List.replicate 32 6++List.replicate 64 7++List.replicate 128 8
theorem ML:∀y:Nat,y<256->nX oV (y:Int)=some ((nX oV (y:Int)).getD 0)/\(nX oV (y:Int)).getD 0<=8/\y<2^(nX oV (y:Int)).getD 0/\(y=0\/2^(nX oV (y:Int)).getD 0<=2*y):=by decide+kernel
set_option maxRecDepth 20000 in
theorem Gg(x:Nat)(h:x<4294967296):∃n:Nat,ez x=some (n:Int)/\n<=32/\x<2^n/\(x=0\/2^n<=2*x):=by
 have key:∀(y k:Nat),y<256->y=x/2^k->k<=24->(x≠0->y≠0)->∃n:Nat,(((nX oV ((y%256:Nat):Int)).bind λjD=>(some (IntKind.i64.wrap (jD:Int))).bind λgU=>(some (IntKind.i64.wrap ((k:Int)+gU))).bind λfN=>some fN)=some (n:Int))/\n<=32/\x<2^n/\(x=0\/2^n<=2*x):=by
  intro y k hy hyx hk hnz;obtain⟨h1,h2,h3,h4⟩:=ML y hy;rw[Nat.mod_eq_of_lt hy,h1];generalize (nX oV (y:Int)).getD 0=t at*;have hp:0<2^k:=Nat.two_pow_pos _;have e1:2^(k+t)=2^k*2^t:=Nat.pow_add ..;have e2:=Nat.div_add_mod x (2^k);have e3:=Nat.mod_lt x hp;rw[<-hyx]at e2;refine⟨k+t,?_,by omega,?_,?_⟩
  ·simp only[Option.bind_some];rw[kz (by omega),nJ (by omega)]
  ·rw[e1];have:2^k*(y+1)<=2^k*2^t:=Nat.mul_le_mul_left _ h3;rw[Nat.mul_add]at this;omega
  rcases h4 with h4|h4
  ·left;cases Nat.eq_zero_or_pos x with
   |inl h=>exact h
   |inr h=>exact absurd h4 (hnz (by omega))
  right;rw[e1];have:2^k*2^t<=2^k*(2*y):=Nat.mul_le_mul_left _ h4;rw[show 2^k*(2*y)=2*(2^k*y) by rw[Nat.mul_left_comm]]at this;omega
 unfold ez;simp only[cW,Option.bind_some];by_cases c1:65536<=x
 ·rw[show decide (65536<=x)=true by simpa using c1];simp only[cond_true];by_cases c2:256<=x/2^16
  ·rw[show decide (256<=x/2^16)=true by simpa using c2];simp only[cond_true];rw[show IntKind.i64.wrap (16+8)=((24:Nat):Int) by decide];exact key (x/2^16/2^8) 24 (by omega) (by omega) (by omega) (by omega)
  rw[show decide (256<=x/2^16)=false by simpa using c2];simp only[cond_false];exact key (x/2^16) 16 (by omega) Y (by omega) (by omega)
 rw[show decide (65536<=x)=false by simpa using c1];simp only[cond_false];by_cases c2:256<=x
 ·rw[show decide (256<=x)=true by simpa using c2];simp only[cond_true];rw[show IntKind.i64.wrap (0+8)=((8:Nat):Int) by decide];exact key (x/2^8) 8 (by omega) Y (by omega) (by omega)
 rw[show decide (256<=x)=false by simpa using c2];simp only[cond_false];exact key x 0 (by omega) (by simp) (by omega) (λh=>h)
theorem SG(x:Nat)(h:x<4294967296)(h0:x≠0):∃s:Nat,cz x=some (s:Int)/\s<32/\2147483648<=x*2^s/\x*2^s<4294967296:=by
 obtain⟨n,h1,h2,h3,h4⟩:=Gg x h;have h4:2^n<=2*x:=h4.resolve_left h0;have hn:n≠0:=by rintro rfl;simp at h3;omega
 refine⟨32-n,?_,by omega,?_,?_⟩
 ·unfold cz;rw[h1];simp only[Option.bind_some];rw[ep (by omega) (by omega)];congr 1;omega
 ·have:2^n*2^(32-n)<=2*x*2^(32-n):=Nat.mul_le_mul_right _ h4;rw[<-Nat.pow_add,show n+(32-n)=32 by omega,Nat.mul_assoc]at this;omega
 have:x*2^(32-n)<2^n*2^(32-n):=Nat.mul_lt_mul_of_pos_right h3 (Nat.two_pow_pos _);rw[<-Nat.pow_add,show n+(32-n)=32 by omega]at this;omega
end
end Go.Proofs.Ytmiflmkdaeianaa
namespace Go.Fw
section
section SH
variable {B V U W:Nat}
theorem MM{P F T:Nat}(hP:0<P)(hF:0<F)(hV:F*P<=V)(hU:U<(T+1)*P):U/V<=T/F:=by
 have MN:0<V:=Nat.lt_of_lt_of_le (Nat.mul_pos hF hP) hV;rw[Nat.le_div_iff_mul_le hF];rcases Nat.lt_or_ge T (U/V*F)with h|h
 ·exfalso;have h1:U/V*V<=U:=Nat.div_mul_le_self U V;have h2:U/V*(F*P)<=U/V*V:=Nat.mul_le_mul_left _ hV;have h3:(T+1)*P<=U/V*F*P:=Nat.mul_le_mul_right _ h;rw[Nat.mul_assoc]at h3;omega
 exact h
theorem Iv{P F S T u g r:Nat}(hV:(F*B+S)*P<=V)(hU:U<(T*B+u+1)*P)(NY:g*F+r=T)(h:r*B+u<g*S):U<g*V:=by
 have h1:g*((F*B+S)*P)<=g*V:=Nat.mul_le_mul_left _ hV;have h2:(T*B+u+1)*P<=g*(F*B+S)*P:=by
  apply Nat.mul_le_mul_right;rw[Nat.mul_add,<-Nat.mul_assoc,<-NY,Nat.add_mul];omega
 rw[Nat.mul_assoc]at h2;omega
theorem MO{P V2 U2 g:Nat}(hV:V<(V2+1)*P)(hU:U2*P<=U)(hq:U/V<B)(hB:B<=V2)(MN:0<V)(h:g*V2<=U2):g<=U/V+1:=by
 rcases Nat.lt_or_ge (U/V+1) g with h'|h'
 ·exfalso;have h1:U<(U/V+1)*V:=by have:=Nat.lt_div_mul_add (a:=U) MN;rw[Nat.add_mul,Nat.one_mul];exact this
  have h2:(U/V+1)*V<=(U/V+1)*((V2+1)*P):=Nat.mul_le_mul_left _ (Nat.le_of_lt hV);have h3:g*V2*P<=U2*P:=Nat.mul_le_mul_right _ h;have h4:(U/V+2)*V2<=g*V2:=Nat.mul_le_mul_right _ h';have h5:(U/V+2)*V2*P<=g*V2*P:=Nat.mul_le_mul_right _ h4;have h6:(U/V+1)*((V2+1)*P)<=(U/V+2)*V2*P:=by
   rw[<-Nat.mul_assoc];apply Nat.mul_le_mul_right;rw[Nat.mul_add,Nat.add_mul (U/V) 2 V2,Nat.add_mul (U/V) 1 V2];omega
  omega
 exact h'
end SH
def mix(B o i X U A:Nat):Nat:=A%B^o+B^o*(X%B^i+B^i*(U/B^i))
theorem CM(B o i X U A:Nat):mix B o i X U A%B^o=A%B^o:=by rw[mix,Nat.add_mul_mod_self_left,Nat.mod_mod]
section mix
variable {B:Nat}(hB:0<B)(o i X U A:Nat)
include hB
theorem qj:mix B o i X U A/B^o=X%B^i+B^i*(U/B^i):=by
 rw[mix,Nat.add_mul_div_left _ _ (Nat.pow_pos hB),Nat.div_eq_of_lt (Nat.mod_lt _ (Nat.pow_pos hB)),Nat.zero_add]
theorem qk:mix B o i X U A/B^(o+i)=U/B^i:=by
 rw[Nat.pow_add,<-Nat.div_div_eq_div_mul,qj hB,Nat.add_mul_div_left _ _ (Nat.pow_pos hB),Nat.div_eq_of_lt (Nat.mod_lt _ (Nat.pow_pos hB)),Nat.zero_add]
theorem Iw:mix B o i X U A%B^(o+i)=A%B^o+B^o*(X%B^i):=by
 rw[Nat.pow_add,Nat.mod_mul,CM,qj hB,Nat.add_mul_mod_self_left,Nat.mod_mod]
theorem yJ{N:Nat}(h:o+i<N):(dR B N (mix B o i X U A)).set (o+i) (X/B^i%B)=dR B N (mix B o (i+1) X U A):=by
 apply nK hB h (Nat.mod_lt _ hB)
 ·rw[Iw hB,Nat.pow_add,Nat.mod_mul,CM,qj hB,Nat.pow_succ B i,Nat.mul_assoc,Nat.add_mul_mod_self_left,Nat.mod_mul,Nat.add_mul_mod_self_left,Nat.mod_mod]
 ·rw[Nat.pow_add,<-Nat.div_div_eq_div_mul,qj hB,Nat.pow_succ B i,Nat.mod_mul,Nat.mul_assoc,Nat.add_assoc,<-Nat.mul_add,Nat.add_mul_div_left _ _ (Nat.pow_pos hB),Nat.div_eq_of_lt (Nat.mod_lt _ (Nat.pow_pos hB)),Nat.zero_add,Nat.add_mul_mod_self_left,Nat.mod_mod]
 have h1:=qk hB o (i+1) X U A;have h2:=qk hB o i X U A;rw[show o+i+1=o+(i+1) by omega,h1,show o+(i+1)=(o+i)+1 by omega,Nat.pow_succ B (o+i),<-Nat.div_div_eq_div_mul,h2,Nat.pow_succ,<-Nat.div_div_eq_div_mul]
end mix
theorem AF{B o m X U A:Nat}(hU:U<B^m):mix B o m X U A=A%B^o+B^o*(X%B^m):=by rw[mix,Nat.div_eq_of_lt hU];simp
theorem AG{B:Nat}(o X A:Nat):mix B o 0 X (A/B^o) A=A:=by
 simp only[mix,Nat.pow_zero,Nat.mod_one,Nat.zero_add,Nat.one_mul,Nat.div_one];exact Nat.mod_add_div A (B^o)
theorem DL{B U U' T i:Nat}(h:U%B^i=U'%B^i):sV B U T i=sV B U' T i:=by rw[sV,sV,h]
theorem Gh{B:Nat}(hB:0<B){U T m i:Nat}(hi:i<m)(hT:T<=U+B^m):(U/B^i%B+(B-1-T/B^i%B)+sV B U T i)%B=(U+B^m-T)/B^i%B:=by
 have e:B^m=B^i*(B*B^(m-i-1)):=by rw[<-Nat.pow_succ',<-Nat.pow_add];congr 1;omega
 have h1:(U+B^m)%B^i=U%B^i:=by rw[e,Nat.add_mul_mod_self_left]
 have h2:(U+B^m)/B^i%B=U/B^i%B:=by rw[e,Nat.add_mul_div_left _ _ (Nat.pow_pos hB),Nat.add_mul_mod_self_left]
 rw[<-h2,DL (U':=U+B^m) h1.symm,CE hB hT]
theorem Iy{B m U T:Nat}(hB:0<B)(hU:U<B^m)(hT:T<B^m):sV B U T m=if U<T then 0 else 1:=by
 rw[sV,Nat.mod_eq_of_lt hU,Nat.mod_eq_of_lt hT];have hp:0<B^m:=Nat.pow_pos hB;split
 ·exact Nat.div_eq_of_lt (by omega)
 rw[show U+B^m-T=(U-T)+B^m by omega,Nat.add_div_right _ hp,Nat.div_eq_of_lt (by omega)]
end
end Go.Fw
namespace Go.Proofs.Ytmiflmkdaeianaa
section
open Go.Fw
theorem iZ{N A j:Nat}(h:j<N):(dR 4294967296 N A)[j]? =some (A/4294967296^j%4294967296):=qg N A j h
theorem two32:(2:Nat)^32=4294967296:=rfl
theorem SI:(2:Nat)^63=9223372036854775808:=rfl
theorem yK(A o j:Nat):A/4294967296^(o+j)=A/4294967296^o/4294967296^j:=by rw[Nat.pow_add,Nat.div_div_eq_div_mul]
theorem AH{N A o n:Nat}{v:List Nat}(hv:yI v)(hn:v.length=n+2)(hN:N<=35184372088809)(ho:o+(n+2)<N)
  (hU:A/4294967296^o<4294967296*vl v) (Gi:2147483648*4294967296^(n+1)<=vl v):
  ∃r,eT (dR 4294967296 N A) o (n+3) v=some r/\r.2=dR 4294967296 N A/\A/4294967296^o/vl v<=r.1/\r.1<=A/4294967296^o/vl v+1:=by
 obtain⟨hV,hlv⟩:=hv;obtain⟨U,GK⟩:∃U,A/4294967296^o=U:=⟨_,Y⟩;obtain⟨V,GL⟩:∃V,vl v=V:=⟨_,Y⟩;have sW:V<4294967296^(n+2):=by rw[<-GL,<-hn];exact fB v hV
 have KC:0<4294967296^(n+1):=Nat.pow_pos (by decide);have hP:0<4294967296^n:=Nat.pow_pos (by decide);have MP:4294967296^(n+1)=4294967296^n*4294967296:=Nat.pow_succ ..;have AI:4294967296^(n+2)=4294967296^(n+1)*4294967296:=Nat.pow_succ ..;rw[GK,GL]at hU⊢;rw[GL]at Gi;have SJ:U<4294967296^(n+1)*4294967296*4294967296:=by
  have:4294967296*V<4294967296*4294967296^(n+2):=Nat.mul_lt_mul_of_pos_left sW (by decide);rw[AI]at this;omega
 obtain⟨F,hF⟩:∃F,V/4294967296^(n+1)=F:=⟨_,Y⟩;obtain⟨S,hS⟩:∃S,V/4294967296^n%4294967296=S:=⟨_,Y⟩;obtain⟨T,hT⟩:∃T,U/4294967296^(n+1)=T:=⟨_,Y⟩;obtain⟨u,hu⟩:∃u,U/4294967296^n%4294967296=u:=⟨_,Y⟩;have Zd:F<4294967296:=by rw[<-hF,Nat.div_lt_iff_lt_mul KC];rw[AI,Nat.mul_comm]at sW;exact sW
 have ace:2147483648<=F:=by rw[<-hF,Nat.le_div_iff_mul_le KC];exact Gi
 have acf:S<4294967296:=by rw[<-hS];exact Nat.mod_lt _ (by decide)
 have SK:u<4294967296:=by rw[<-hu];exact Nat.mod_lt _ (by decide)
 have Ze:T<4294967296*4294967296:=by rw[<-hT,Nat.div_lt_iff_lt_mul KC];rw[Nat.mul_comm,<-Nat.mul_assoc];exact SJ
 have Zf:V/4294967296^n=F*4294967296+S:=by rw[<-hF,<-hS,MP,<-Nat.div_div_eq_div_mul,Nat.mul_comm,Nat.div_add_mod]
 have Zg:U/4294967296^n=T*4294967296+u:=by rw[<-hT,<-hu,MP,<-Nat.div_div_eq_div_mul,Nat.mul_comm,Nat.div_add_mod]
 have hq:U/V<4294967296:=by rw[Nat.div_lt_iff_lt_mul (by omega)];exact hU
 have SL:(F*4294967296+S)*4294967296^n<=V:=by rw[<-Zf];exact Nat.div_mul_le_self _ _
 have SM:V<(F*4294967296+S+1)*4294967296^n:=by rw[<-Zf,Nat.add_mul,Nat.one_mul];exact Nat.lt_div_mul_add hP
 have SN:(T*4294967296+u)*4294967296^n<=U:=by rw[<-Zg];exact Nat.div_mul_le_self _ _
 have SO:U<(T*4294967296+u+1)*4294967296^n:=by rw[<-Zg,Nat.add_mul,Nat.one_mul];exact Nat.lt_div_mul_add hP
 have KD:F*4294967296^(n+1)<=V:=by rw[<-hF];exact Nat.div_mul_le_self _ _
 have KE:U<(T+1)*4294967296^(n+1):=by rw[<-hT,Nat.add_mul,Nat.one_mul];exact Nat.lt_div_mul_add KC
 have KF:V<(F+1)*4294967296^(n+1):=by rw[<-hF,Nat.add_mul,Nat.one_mul];exact Nat.lt_div_mul_add KC
 have hTF:T<4294967296*(F+1):=by
  rw[<-hT,Nat.div_lt_iff_lt_mul KC];have:4294967296*V<4294967296*((F+1)*4294967296^(n+1)):=Nat.mul_lt_mul_of_pos_left KF (by decide);rw[Nat.mul_assoc];omega
 have g1:(dR 4294967296 N A)[o+(n+2)]? =some (U/4294967296^(n+2)%4294967296):=by rw[iZ (by omega),yK,GK]
 have g2:(dR 4294967296 N A)[o+(n+1)]? =some (U/4294967296^(n+1)%4294967296):=by rw[iZ (by omega),yK,GK]
 have g3:(dR 4294967296 N A)[o+n]? =some u:=by rw[iZ (by omega),yK,GK,hu]
 have g4:v[n+1]? =some F:=by rw[kA hV (by omega),show val 4294967296 v=V from GL,hF,Nat.mod_eq_of_lt Zd]
 have g5:v[n]? =some S:=by rw[kA hV (by omega),show val 4294967296 v=V from GL,hS]
 have hun:U/4294967296^(n+2)<4294967296:=by rw[AI,<-Nat.div_div_eq_div_mul,hT,Nat.div_lt_iff_lt_mul (by decide)];exact Ze
 have BN:U/4294967296^(n+2)%4294967296*4294967296+U/4294967296^(n+1)%4294967296=T:=by
  rw[Nat.mod_eq_of_lt hun,AI,<-Nat.div_div_eq_div_mul,hT,Nat.mul_comm,Nat.div_add_mod]
 obtain⟨t1,Zh⟩:∃t,U/4294967296^(n+2)%4294967296=t:=⟨_,Y⟩;obtain⟨t2,Zi⟩:∃t,U/4294967296^(n+1)%4294967296=t:=⟨_,Y⟩;have l1:t1<4294967296:=by rw[<-Zh];exact Nat.mod_lt _ (by decide)
 have l2:t2<4294967296:=by rw[<-Zi];exact Nat.mod_lt _ (by decide)
 rw[Zh]at g1 BN;rw[Zi]at g2 BN;clear Zh Zi Zg Zf;have c1:((n+2:Nat):Int)-1=((n+1:Nat):Int):=by omega
 have c2:((n+2:Nat):Int)-2=(n:Int):=by omega
 unfold eT;simp only[Option.bind_some,hn,c1,c2];rw[kz (by omega),kz (by omega),tX (by omega),tX (by omega),tX (by omega)];simp only[Option.bind_some];rw[g1,g2,bF g4,bF g5];simp only[Option.bind_some,two32];rw[Nat.mod_eq_of_lt (a:=t1) (by omega),Nat.mod_eq_of_lt (a:=t2) (by omega),Nat.mod_eq_of_lt (a:=t1*4294967296) (by omega),CL l2,BN,Nat.mod_eq_of_lt (a:=T) (by omega),Nat.mod_eq_of_lt (a:=F) (by omega),Nat.mod_eq_of_lt (a:=S) (by omega),yB (by omega) (by omega),tY (by omega)];simp only[Option.bind_some];have Zj:=MM (V:=V) (U:=U) KC (show 0<F by omega) KD KE;have hle:∀g,g*(F*4294967296+S)<=T*4294967296+u->g<=U/V+1:=λg h=>MO (B:=4294967296) SM SN hq (by omega) (by omega) h;have Zk:∀g r,g*F+r=T->r*4294967296+u<g*S->U/V<g:=λg r i1 ht=>(Nat.div_lt_iff_lt_mul (by omega)).2 (Iv SL SO i1 ht);have hg0:T/F<=4294967297:=by
  have:T/F<4294967298:=by
   rw[Nat.div_lt_iff_lt_mul (by omega)];omega
  omega
 generalize U/V=q at*;clear SL SM SN SO KD KE KF hTF SJ Gi sW MP AI hP KC hF hS hT hu GK GL hU;have hdm:=Nat.div_add_mod T F;have hml:=Nat.mod_lt T (show 0<F by omega);have Zl:T/F*F+T%F=T:=by rw[Nat.mul_comm];exact hdm
 clear hdm;refine jv (λx=>x.1*F+x.2=T/\q<=x.1/\x.2<4294967296/\x.1<=4294967297) (λe=>q<=e/\e<=q+1) (λx=>x.1) ?_ ⟨Zl,Zj,by show T%F<_;omega,hg0⟩ ?_
 ·rintro⟨g,r⟩ ⟨i1,i2,i3,i4⟩;simp only at i1 i2 i3 i4;have down:q<g->(∃s',(bif decide ((r+F)%18446744073709551616/4294967296≠0)then some (.inr (jW 18446744073709551616 g 1))else some (.inl (jW 18446744073709551616 g 1,(r+F)%18446744073709551616)):Option ((Nat×Nat)⊕Nat))=some (.inl s')/\(s'.1*F+s'.2=T/\q<=s'.1/\s'.2<4294967296/\s'.1<=4294967297)/\s'.1<g)\/
    (∃e,(bif decide ((r+F)%18446744073709551616/4294967296≠0)then some (.inr (jW 18446744073709551616 g 1))else some (.inl (jW 18446744073709551616 g 1,(r+F)%18446744073709551616)):Option ((Nat×Nat)⊕Nat))=some (.inr e)/\q<=e/\e<=q+1):=by
   intro hlt;have e1:(g-1)*F+(r+F)=T:=by
    obtain⟨k,rfl⟩:∃k,g=k+1:=⟨g-1,by omega⟩;rw[Nat.add_sub_cancel];rw[Nat.add_mul]at i1;omega
   rw[lU (by omega) (by omega),Nat.mod_eq_of_lt (a:=r+F) (by omega)];by_cases hb:r+F<4294967296
   ·left;refine⟨(g-1,r+F),by simp[Nat.div_eq_of_lt hb],⟨e1,by simp only;omega,hb,by simp only;omega⟩,by simp only;omega⟩
   right;have hne:(r+F)/4294967296≠0:=by omega
   refine⟨g-1,by simp[hne],by omega,?_⟩;refine hle _ ?_;have m1:(g-1)*S<=4294967296*4294967295:=Nat.mul_le_mul (by omega) (by omega);rw[Nat.mul_add,<-Nat.mul_assoc];have m2:((g-1)*F+(r+F))*4294967296=T*4294967296:=by rw[e1]
   rw[Nat.add_mul]at m2;omega
  simp only[cW,bT];by_cases hg:g<4294967296
  ·rw[show decide (g/4294967296≠0)=false by simp;omega];have hgS:g*S<=4294967295*4294967295:=Nat.mul_le_mul (by omega) (by omega);simp only[iw];rw[g3];simp only[bT];rw[Nat.mod_eq_of_lt (a:=g*S) (by omega),Nat.mod_eq_of_lt (a:=r*4294967296) (by omega),Nat.mod_eq_of_lt (a:=u) (by omega),CL SK,Nat.mod_eq_of_lt (a:=r*4294967296+u) (by omega)];by_cases ht:r*4294967296+u<g*S
   ·rw[show decide (r*4294967296+u<g*S)=true by simpa using ht];simp only[bT,gQ];exact down (Zk _ _ i1 ht)
   rw[show decide (r*4294967296+u<g*S)=false by simpa using ht];right;refine⟨g,by simp,i2,?_⟩;refine hle _ ?_;rw[Nat.mul_add,<-Nat.mul_assoc,<-i1,Nat.add_mul];omega
  rw[show decide (g/4294967296≠0)=true by simp;omega];simp only[bT,gQ];exact down (by omega)
 rintro e ⟨h2,h3⟩;exact⟨(e,dR 4294967296 N A),by rw[lf Y,Option.bind_some],Y,h2,h3⟩
end
section
open Go.Fw
theorem nU{N A o n f:Nat}{v:List Nat}(hv:yI v)(hn:v.length=n)(hN:N<=35184372088809)(ho:o+n<N)(hf:f<=4294967296)
  (hU:A/4294967296^o<4294967296^(n+1)):
  cj (dR 4294967296 N A) o (n+1) v f=some (decide (A/4294967296^o<vl v*f),dR 4294967296 N (A%4294967296^o+4294967296^o*((A/4294967296^o+4294967296^(n+1)-vl v*f)%4294967296^(n+1)))):=by
 obtain⟨hV,hlv⟩:=hv;obtain⟨U,GK⟩:∃U,A/4294967296^o=U:=⟨_,Y⟩;obtain⟨V,GL⟩:∃V,vl v=V:=⟨_,Y⟩;have sW:V<4294967296^n:=by rw[<-GL,<-hn];exact fB v hV
 have Ej:4294967296^(n+1)=4294967296^n*4294967296:=Nat.pow_succ ..;have hT:V*f<4294967296^(n+1):=by
  rw[Ej]
  calc V*f<=V*4294967296:=Nat.mul_le_mul_left _ hf
   _<4294967296^n*4294967296:=Nat.mul_lt_mul_of_pos_right sW (by decide)
 rw[GK]at hU⊢;rw[GL];obtain⟨X,hX⟩:∃X,U+4294967296^(n+1)-V*f=X:=⟨_,Y⟩;rw[hX];unfold cj;simp only[bT];have MQ:∀i,sV 4294967296 U (V*f) i<=1:=λi=>Ga (by decide) _ _ _;refine b9 (λi=>(1-sV 4294967296 U (V*f) i,(i:Int),sC 4294967296 V f 0 i,dR 4294967296 N (mix 4294967296 o i X U A))) (n+1) (1-sV 4294967296 U (V*f) (n+1),dR 4294967296 N (mix 4294967296 o (n+1) X U A)) ?_ (λi hi=>?_) ?_ ?_
 ·rw[Az,CH,<-GK,AG];rfl
 ·
  obtain⟨t,ht⟩:∃t,V*f/4294967296^i%4294967296=t:=⟨_,Y⟩;obtain⟨c,hc⟩:∃c,sC 4294967296 V f 0 i=c:=⟨_,Y⟩;obtain⟨p,hp⟩:∃p,V/4294967296^i%4294967296*f=p:=⟨_,Y⟩;have aci:c<4294967296:=by
   rw[<-hc,sC,sT,Nat.add_zero,Nat.div_lt_iff_lt_mul (Nat.pow_pos (by decide))]
   calc V%4294967296^i*f<=V%4294967296^i*4294967296:=Nat.mul_le_mul_left _ hf
    _<4294967296*4294967296^i:=by rw[Nat.mul_comm];exact Nat.mul_lt_mul_of_pos_left (Nat.mod_lt _ (Nat.pow_pos (by decide))) (by decide)
  have acj:p<=4294967295*4294967296:=by
   rw[<-hp];exact Nat.mul_le_mul (by have:=Nat.mod_lt (V/4294967296^i) (show 0<4294967296 by decide);omega) hf
  have MF:(p+c)%4294967296=t:=by rw[<-hp,<-hc,Gb (B:=4294967296) (by decide),Nat.add_zero,ht]
  have hstep:(p+c)/4294967296=sC 4294967296 V f 0 (i+1):=by rw[<-hp,<-hc,CJ (B:=4294967296) (by decide)]
  have ack:t<4294967296:=by rw[<-ht];exact Nat.mod_lt _ (by decide)
  obtain⟨u,hu⟩:∃u,U/4294967296^i%4294967296=u:=⟨_,Y⟩;have SK:u<4294967296:=by rw[<-hu];exact Nat.mod_lt _ (by decide)
  have hg:(dR 4294967296 N (mix 4294967296 o i X U A))[o+i]? =some u:=by rw[iZ (by omega),qk (by decide),hu]
  have hl:=MQ i;obtain⟨l,hle⟩:∃l,sV 4294967296 U (V*f) i=l:=⟨_,Y⟩;have hxd:(u+(4294967296-1-t)+l)%4294967296=X/4294967296^i%4294967296:=by rw[<-hu,<-ht,<-hle,Gh (B:=4294967296) (by decide) hi (by omega),hX]
  have hls:(u+(4294967296-1-t)+l)/4294967296=sV 4294967296 U (V*f) (i+1):=by rw[<-hu,<-ht,<-hle,AA (B:=4294967296) (by decide)]
  rw[hle]at hl;have hput:=yJ (B:=4294967296) (by decide) o i X U A (N:=N) (by omega);rw[hle,hc,<-hls];simp only[show decide ((i:Int)<((n+1:Nat):Int))=true by simp;omega,gQ,bT,cW];rw[tX (by omega)];simp only[bT,hg];have way:∀k:Nat->Option ((Nat×Int×Nat×List Nat)⊕(Nat×List Nat)),(bif decide ((i:Int)<(v.length:Int))then(c7 v (i:Int)).bind λeK=>k (eK%18446744073709551616*f%18446744073709551616)else k 0)=k p:=by
   intro k;by_cases hin:i<v.length
   ·rw[show decide ((i:Int)<(v.length:Int))=true by simp;omega,gQ];have yR:v[i]? =some (V/4294967296^i%4294967296):=by rw[<-GL];exact kA hV hin
    rw[bF yR,bT,Nat.mod_eq_of_lt (a:=V/4294967296^i%4294967296) (b:=18446744073709551616) (by have:=Nat.mod_lt (V/4294967296^i) (show 0<4294967296 by decide);omega),hp,Nat.mod_eq_of_lt (a:=p) (by omega)]
   rw[show decide ((i:Int)<(v.length:Int))=false by simp;omega,iw];have:V/4294967296^i=0:=Nat.div_eq_of_lt (Nat.lt_of_lt_of_le sW (Nat.pow_le_pow_right (by decide) (by omega)));rw[<-hp,this];simp
  refine(way (λy=>(bu y c).bind _)).trans ?_;rw[eI _ _ (by omega)];simp only[bT];rw[MF,hstep,Nat.mod_eq_of_lt (a:=u) (by omega),Nat.mod_eq_of_lt (a:=t) (by omega)];rw[ji (by rw[bw];omega),bT,cC (by omega),SI];by_cases La:u<t+(1-l)
  ·have e1:jW 18446744073709551616 (jW 18446744073709551616 u t) (1-l)=18446744073709551616+u-t-(1-l):=by
    by_cases h1:u<t
    ·rw[tW h1 (by omega),lU (by omega) (by omega)]
    rw[lU (a:=u) (b:=t) (by omega) (by omega),tW (by omega) (by omega)];omega
   rw[e1];have e2:(18446744073709551616+u-t-(1-l))%4294967296=X/4294967296^i%4294967296:=by rw[<-hxd];omega
   have e3:(18446744073709551616+u-t-(1-l))/9223372036854775808=1-(u+(4294967296-1-t)+l)/4294967296:=by omega
   rw[e2,e3,hput]
  have e1:jW 18446744073709551616 (jW 18446744073709551616 u t) (1-l)=u-t-(1-l):=by
   rw[lU (a:=u) (b:=t) (by omega) (by omega),lU (by omega) (by omega)]
  rw[e1];have e2:(u-t-(1-l))%4294967296=X/4294967296^i%4294967296:=by rw[<-hxd];omega
  have e3:(u-t-(1-l))/9223372036854775808=1-(u+(4294967296-1-t)+l)/4294967296:=by omega
  rw[e2,e3,hput]
 ·simp
 simp only[bT];rw[lf (by rw[bw,bw]),bT,AF hU,Iy (by decide) hU hT];congr 2;by_cases h:U<V*f<;>simp[h]
end
section
open Go.Fw
theorem SP{B V:Nat}(hB:0<B)(hV:0<V)(A k:Nat):A%(V*B^(k+1))/B^k<B*V:=by
 rw[Nat.div_lt_iff_lt_mul (Nat.pow_pos hB)];have:V*B^(k+1)=B*V*B^k:=by rw[Nat.pow_succ,Nat.mul_comm (B^k),<-Nat.mul_assoc,Nat.mul_comm V]
 rw[<-this];exact Nat.mod_lt _ (Nat.mul_pos hV (Nat.pow_pos hB))
theorem MR{B V:Nat}(A k:Nat):A%(V*B^(k+1))%B^k+B^k*(A%(V*B^(k+1))/B^k%V)=A%(V*B^k):=by
 rw[<-Nat.mod_mul,Nat.mul_comm (B^k),Nat.mod_mod_of_dvd];rw[Nat.pow_succ,<-Nat.mul_assoc];exact Nat.dvd_mul_right _ _
theorem MS{B V:Nat}(A k:Nat):A%(V*B^(k+1))/B^k/V=A/V/B^k%B:=by
 rw[Nat.div_div_eq_div_mul,Nat.mul_comm (B^k),Nat.pow_succ,<-Nat.mul_assoc,Nat.mod_mul_right_div_self,Nat.div_div_eq_div_mul]
theorem Gj{B:Nat}(hB:0<B){N k:Nat}(h:k<N)(Q:Nat):(dR B N (Q/B^(k+1)*B^(k+1))).set k (Q/B^k%B)=dR B N (Q/B^k*B^k):=by
 have hP:0<B^k:=Nat.pow_pos hB;refine nK hB h (Nat.mod_lt _ hB) ?_ ?_ ?_
 ·rw[Nat.mul_mod_left,Nat.pow_succ,Nat.mul_comm (B^k),<-Nat.mul_assoc,Nat.mul_mod_left]
 ·rw[Nat.mul_div_cancel _ hP]
 rw[Nat.mul_div_cancel _ (Nat.pow_pos hB),Nat.pow_succ,<-Nat.div_div_eq_div_mul,Nat.mul_div_cancel _ hP,Nat.div_div_eq_div_mul]
theorem CN{α:Type}{l:List α}{o n:Nat}(h:o<l.length)(h':o+n<=l.length):Lo l (o:Int) ((o+n:Nat):Int)=some (o,n):=by
 unfold Lo;rw[if_pos (by omega)];congr 2;omega
theorem Iz{U V g M:Nat}(hV:0<V)(h1:U/V<=g)(h2:g<=U/V+1)(hM:U<M)(hVM:V<=M):
  (V*g<=U/\g=U/V/\(U+M-V*g)%M=U%V)\/(U<V*g/\g=U/V+1/\U+M-V*g<M/\(U+M-V*g+V)%M=U%V):=by
 have hd:=Nat.div_add_mod U V;have hm:=Nat.mod_lt U hV
 revert h1 h2 hd hm
 generalize U/V=q;generalize U%V=r;intro h1 h2 hd hm;rcases Nat.lt_or_ge q g with h|h
 ·obtain rfl:g=q+1:=by omega
  have e:V*(q+1)=V*q+V:=Nat.mul_succ ..;right;refine⟨by omega,Y,by omega,?_⟩;rw[show U+M-V*(q+1)+V=r+M by omega,Nat.add_mod_right,Nat.mod_eq_of_lt (by omega)]
 obtain rfl:g=q:=by omega
 left;refine⟨by omega,Y,?_⟩;rw[show U+M-V*g=r+M by omega,Nat.add_mod_right,Nat.mod_eq_of_lt (by omega)]
theorem IA{R D e i:Nat}(hD:0<D)(he:4294967296=D*e):(R*D/4294967296^(i+1)%4294967296*4294967296+R*D/4294967296^i%4294967296)/D%4294967296=R/4294967296^i%4294967296:=by
 have h1:R*D/4294967296^(i+1)%4294967296*4294967296+R*D/4294967296^i%4294967296=R*D/4294967296^i%(4294967296*4294967296):=by
  rw[Nat.mod_mul,Nat.div_div_eq_div_mul,show 4294967296^i*4294967296=4294967296^(i+1)from(Nat.pow_succ ..).symm,Nat.add_comm,Nat.mul_comm 4294967296]
 have h2:(4294967296*4294967296:Nat)=D*(e*4294967296):=by
  rw[<-Nat.mul_assoc,<-he]
 rw[h1,h2,Nat.mod_mul_right_div_self,Nat.mod_mul_left_mod,Nat.div_div_eq_div_mul,Nat.mul_comm (4294967296^i) D,<-Nat.div_div_eq_div_mul,Nat.mul_div_cancel _ hD]
theorem MT{B:Nat}(hB:0<B){N i R:Nat}(h:i<N):(dR B N (R%B^i)).set i (R/B^i%B)=dR B N (R%B^(i+1)):=by
 refine nK hB h (Nat.mod_lt _ hB) ?_ ?_ ?_
 ·rw[Nat.mod_mod,Nat.mod_mod_of_dvd _ (Nat.pow_dvd_pow _ (Nat.le_succ i))]
 ·rw[Nat.pow_succ,Nat.mod_mul_right_div_self,Nat.mod_mod]
 rw[Nat.div_eq_of_lt (Nat.mod_lt _ (Nat.pow_pos hB)),Nat.div_eq_of_lt];exact Nat.lt_of_lt_of_le (Nat.mod_lt _ (Nat.pow_pos hB)) (Nat.pow_le_pow_right hB (Nat.le_succ i))
theorem BO(a b:List Nat)(ha:yI a)(hb:yI b){n:Nat}(hn:b.length=n+2)(hl:b.length<=a.length)(BN:b[n+1]? ≠some 0):
  fD a b=some (dR 4294967296 (a.length-b.length+1) (vl a/vl b),dR 4294967296 b.length (vl a%vl b)):=by
 obtain⟨hA,hla⟩:=ha;obtain⟨hB,hlb⟩:=hb;have hP:∀k,0<4294967296^k:=λk=>Nat.pow_pos (by decide);obtain⟨Va,hVa⟩:∃V,vl a=V:=⟨_,Y⟩;obtain⟨Vb,Zm⟩:∃V,vl b=V:=⟨_,Y⟩;have MU:Vb<4294967296^(n+2):=by rw[<-Zm,<-hn];exact fB b hB
 have halt:Va<4294967296^a.length:=by rw[<-hVa];exact fB a hA
 have AI:4294967296^(n+2)=4294967296^(n+1)*4294967296:=Nat.pow_succ ..;obtain⟨x,hx⟩:∃x,Vb/4294967296^(n+1)=x:=⟨_,Y⟩;have SQ:x<4294967296:=by rw[<-hx,Nat.div_lt_iff_lt_mul (hP _)];rw[AI,Nat.mul_comm]at MU;exact MU
 have UP:b[n+1]? =some x:=by rw[kA hB (by omega),show val 4294967296 b=Vb from Zm,hx,Nat.mod_eq_of_lt SQ]
 have hx0:x≠0:=λe=>BN (by rw[UP,e]);obtain⟨s,Nj,AY,hs3,hs4⟩:=SG x SQ hx0;have SR:0<2^s:=Nat.two_pow_pos s;have SS:2^s<4294967296:=by
  have:2^s<2^32:=Nat.pow_lt_pow_right (by decide) AY;rw[two32]at this;exact this
 obtain⟨D,hD⟩:∃D,2^s=D:=⟨_,Y⟩;rw[hD]at hs3 hs4 SR SS;obtain⟨V,hV⟩:∃V,Vb*D=V:=⟨_,Y⟩;obtain⟨A,UR⟩:∃A,Va*D=A:=⟨_,Y⟩;have sW:V<4294967296^(n+2):=by
  have h1:Vb<(x+1)*4294967296^(n+1):=by rw[<-hx,Nat.add_mul,Nat.one_mul];exact Nat.lt_div_mul_add (hP _)
  have h2:(x+1)*D<=4294967296:=by
   obtain⟨e,he⟩:∃e,4294967296=D*e:=⟨2^(32-s),by rw[<-hD,<-Nat.pow_add,show s+(32-s)=32 by omega,two32]⟩;have h3:x<e:=by
    apply Nat.lt_of_mul_lt_mul_left (a:=D);rw[<-he,Nat.mul_comm];exact hs4
   calc (x+1)*D<=e*D:=Nat.mul_le_mul_right _ h3
    _=4294967296:=by rw[Nat.mul_comm,<-he]
  rw[<-hV,AI]
  calc Vb*D<(x+1)*4294967296^(n+1)*D:=Nat.mul_lt_mul_of_pos_right h1 SR
   _=4294967296^(n+1)*((x+1)*D):=by rw[Nat.mul_comm (x+1),Nat.mul_assoc]
   _<=4294967296^(n+1)*4294967296:=Nat.mul_le_mul_left _ h2
 have Gk:2147483648*4294967296^(n+1)<=V:=by
  have h1:x*4294967296^(n+1)<=Vb:=by rw[<-hx];exact Nat.div_mul_le_self _ _
  rw[<-hV]
  calc 2147483648*4294967296^(n+1)<=x*D*4294967296^(n+1):=Nat.mul_le_mul_right _ hs3
   _=x*4294967296^(n+1)*D:=by rw[Nat.mul_assoc,Nat.mul_comm D,<-Nat.mul_assoc]
   _<=Vb*D:=Nat.mul_le_mul_right _ h1
 have MN:0<V:=Nat.lt_of_lt_of_le (Nat.mul_pos (by decide) (hP _)) Gk;have hb0:0<Vb:=by
  rcases Nat.eq_zero_or_pos Vb with h|h
  ·rw[<-hV,h,Nat.zero_mul]at MN;omega
  exact h
 have hAV:A/V=Va/Vb:=by rw[<-UR,<-hV,Nat.mul_div_mul_right _ _ SR]
 have Zn:A%V=Va%Vb*D:=by rw[<-UR,<-hV,Nat.mul_mod_mul_right]
 obtain⟨K,hK⟩:∃K,a.length=K+(n+2):=⟨a.length-(n+2),by omega⟩;have SU:A<V*4294967296^(K+1):=by
  have h1:4294967296^(n+1)<=Vb:=by
   have:1*4294967296^(n+1)<=x*4294967296^(n+1):=Nat.mul_le_mul_right _ (by omega);have h2:x*4294967296^(n+1)<=Vb:=by rw[<-hx];exact Nat.div_mul_le_self _ _
   omega
  rw[<-UR,<-hV]
  calc Va*D<4294967296^a.length*D:=Nat.mul_lt_mul_of_pos_right halt SR
   _=4294967296^(n+1)*4294967296^(K+1)*D:=by rw[hK,<-Nat.pow_add];congr 2;omega
   _<=Vb*4294967296^(K+1)*D:=Nat.mul_le_mul_right _ (Nat.mul_le_mul_right _ h1)
   _=Vb*D*4294967296^(K+1):=by rw[Nat.mul_assoc,Nat.mul_comm _ D,<-Nat.mul_assoc]
 obtain⟨v,US⟩:∃v,dR 4294967296 (n+2) V=v:=⟨_,Y⟩;have hvl:v.length=n+2:=by rw[<-US,bw]
 have Zo:yI v:=⟨λy hy=>by rw[<-US]at hy;exact jk (by decide) _ _ _ hy,by omega⟩;have SW:vl v=V:=by rw[<-US];show val _ _=_;rw[ik,Nat.mod_eq_of_lt sW]
 have SX:List.take b.length (dR 4294967296 (b.length+1) (Vb*2^s))=v:=by
  rw[hD,hV,hn,jN,List.take_append_of_le_length (by rw[bw];omega),List.take_of_length_le (by rw[bw];omega),US]
 unfold fD;simp only[bT];rw[show((b.length:Nat):Int)-1=((n+1:Nat):Int) by omega,kz (by omega),bF UP,bT,Nj,bT];rw[show((s:Int)%18446744073709551616).toNat=s by rw[Int.emod_eq_of_lt (by omega) (by omega)];simp];rw[wF,shiftLeft_eq a s ⟨hA,hla⟩ AY,bT,shiftLeft_eq b s ⟨hB,hlb⟩ AY,bT,xu (by rw[bw];omega),bT];obtain⟨Q,hQ⟩:∃Q,A/V=Q:=⟨_,Y⟩;have Zp:Q<4294967296^(K+1):=by rw[<-hQ,Nat.div_lt_iff_lt_mul MN,Nat.mul_comm];exact SU
 rw[hVa,Zm,<-hAV,hQ,SX,hD,UR,hn];rw[show a.length-(n+2)+1=K+1 by omega];rw[ep (x:=(a.length:Int)-((n+2:Nat):Int)) (by omega) (by omega),ep (x:=(a.length:Int)-((n+2:Nat):Int)+1) (by omega) (by omega),show(a.length:Int)-((n+2:Nat):Int)+1=((K+1:Nat):Int) by omega,vw (by decide) (by omega),bT,show(a.length:Int)-((n+2:Nat):Int)=(K:Int) by omega];refine b9 (λj=>((K:Int)-(j:Int),dR 4294967296 (K+1) (Q/4294967296^(K+1-j)*4294967296^(K+1-j)),dR 4294967296 (a.length+1) (A%(V*4294967296^(K+1-j))))) (K+1) (dR 4294967296 (K+1) Q,dR 4294967296 (a.length+1) (A%V)) ?_ (λj hj=>?_) ?_ ?_
 ·rw[show K+1-0=K+1 by omega,Nat.mod_eq_of_lt SU,Nat.div_eq_of_lt Zp,Nat.zero_mul,nk];simp
 ·
  obtain⟨k,hk⟩:∃k,K=k+j:=⟨K-j,by omega⟩;rw[show K+1-j=k+1 by omega,show K+1-(j+1)=k by omega,show(K:Int)-(j:Int)=(k:Int) by omega,show(K:Int)-((j+1:Nat):Int)=(k:Int)-1 by omega];have hU:=SP (B:=4294967296) (by decide) MN A k;have IB:=MR (B:=4294967296) (V:=V) A k;have MV:=MS (B:=4294967296) (V:=V) A k;obtain⟨N,hN⟩:∃N,a.length+1=N:=⟨_,Y⟩;obtain⟨A1,hA1⟩:∃A1,A%(V*4294967296^(k+1))=A1:=⟨_,Y⟩;rw[hN];rw[hA1]at hU IB MV⊢;rw[hQ]at MV;obtain⟨⟨g,lg⟩,hge,hgl,UT,GI⟩:=AH (N:=N) (A:=A1) (o:=k) (n:=n) (v:=v) Zo hvl (by omega) (by omega) (by rw[SW];exact hU) (by rw[SW];exact Gk);simp only at hgl UT GI;rw[SW]at UT GI;subst hgl;have hsub:=nU (N:=N) (A:=A1) (o:=k) (n:=n+2) (v:=v) (f:=g) Zo hvl (by omega) (by omega) ?_ ?_
  ·rw[SW]at hsub;obtain⟨U,GK⟩:∃U,A1/4294967296^k=U:=⟨_,Y⟩;rw[GK]at hU IB MV UT GI hsub;have IC:4294967296^(n+2+1)=4294967296^(n+2)*4294967296:=Nat.pow_succ ..;have hUM:U<4294967296^(n+2+1):=by
    have:4294967296*V<4294967296*4294967296^(n+2):=Nat.mul_lt_mul_of_pos_left sW (by decide);rw[IC];omega
   have Gl:=Iz (M:=4294967296^(n+2+1)) MN UT GI hUM (by rw[IC];omega);have SY:U/V<4294967296:=by rw[MV];exact Nat.mod_lt _ (by decide)
   rw[show decide ((0:Int)<=(k:Int))=true by simp,gQ];rw[nJ (by omega),cC (by omega),show k+(n+2)+1=k+(n+3) by omega,CN (by rw[bw];omega) (by rw[bw];omega),bT,hge,bT,lf Y,bT,CN (by rw[bw];omega) (by rw[bw];omega),bT];show(Option.bind (cj _ k (n+2+1) v g) _)=_;rw[hsub,bT,lf (by rw[bw,bw]),bT];simp only[cW];rcases Gl with⟨hc1,za,SZ⟩|⟨hc1,za,SZ,hc4⟩
   ·rw[show decide (U<V*g)=false by simp;omega,iw,SZ,IB,za,Nat.mod_eq_of_lt SY,MV,ek (by rw[bw];omega),bT,ji (by rw[bw];omega),bT,Gj (by decide) (by omega),ep (by omega) (by omega)]
   rw[show decide (U<V*g)=true by simp;omega,gQ,lU (by omega) (by omega),show g-1=U/V by omega,Nat.mod_eq_of_lt SY,MV];rw[Nat.mod_eq_of_lt SZ];obtain⟨aa,hY⟩:∃aa,U+4294967296^(n+2+1)-V*g=aa:=⟨_,Y⟩;rw[hY]at SZ hc4⊢;obtain⟨A2,Zq⟩:∃A2,A1%4294967296^k+4294967296^k*aa=A2:=⟨_,Y⟩;rw[Zq];have VT:A2/4294967296^k=aa:=by rw[<-Zq,Nat.add_mul_div_left _ _ (hP k),Nat.div_eq_of_lt (Nat.mod_lt _ (hP k)),Nat.zero_add]
   have D3:A2%4294967296^k=A1%4294967296^k:=by rw[<-Zq,Nat.add_mul_mod_self_left,Nat.mod_mod]
   have hcr:∀i,yW 4294967296 aa V i<=1:=λi=>BL (by decide) _ _ _;refine b9 (λi=>((i:Int),yW 4294967296 aa V i,dR 4294967296 N (mix 4294967296 k i (aa+V) aa A2))) (n+2) (yW 4294967296 aa V (n+2),dR 4294967296 N (mix 4294967296 k (n+2) (aa+V) aa A2)) ?_ (λi hi=>?_) ?_ ?_
   ·rw[Ay,<-VT,AG];rfl
   ·have yR:v[i]? =some (V/4294967296^i%4294967296):=by rw[<-SW];exact kA Zo.1 (by omega)
    have Zs:(dR 4294967296 N (mix 4294967296 k i (aa+V) aa A2))[k+i]? =some (aa/4294967296^i%4294967296):=by rw[iZ (by omega),qk (by decide)]
    have Nj:=Ax (B:=4294967296) (by decide) aa V i;have AY:=yF (B:=4294967296) (by decide) aa V i;have hput:=yJ (B:=4294967296) (by decide) k i (aa+V) aa A2 (N:=N) (by omega);have hci:=hcr i;have hv1:=Nat.mod_lt (V/4294967296^i) (show 0<4294967296 by decide);have NK:=Nat.mod_lt (aa/4294967296^i) (show 0<4294967296 by decide);simp only[show decide ((i:Int)<(v.length:Int))=true by simp;omega,gQ];rw[bF yR,bT,nJ (by omega),ek (by rw[bw];omega),bT,Zs,bT,Nat.mod_eq_of_lt (a:=aa/4294967296^i%4294967296) (b:=18446744073709551616) (by omega),Nat.mod_eq_of_lt (a:=V/4294967296^i%4294967296) (b:=18446744073709551616) (by omega),Nat.mod_eq_of_lt (b:=18446744073709551616) (by omega),eI _ _ (by omega),bT,bT,ji (by rw[bw];omega),bT,cC (by omega)];rw[Nj,AY,hput]
   ·simp[hvl]
   have Zs:(dR 4294967296 N (mix 4294967296 k (n+2) (aa+V) aa A2))[k+(n+2)]? =some (aa/4294967296^(n+2)%4294967296):=by rw[iZ (by omega),qk (by decide)]
   have AY:=yF (B:=4294967296) (by decide) aa V (n+2);have hput:=yJ (B:=4294967296) (by decide) k (n+2) (aa+V) aa A2 (N:=N) (by omega);have hci:=hcr (n+2);have NK:=Nat.mod_lt (aa/4294967296^(n+2)) (show 0<4294967296 by decide);rw[Nat.div_eq_of_lt sW,Nat.zero_mod,Nat.add_zero]at AY;simp only[];rw[ek (by rw[bw];omega),bT,Zs,bT,Nat.mod_eq_of_lt (a:=aa/4294967296^(n+2)%4294967296) (b:=18446744073709551616) (by omega),eI _ _ (by omega),bT,bT,ji (by rw[bw];omega),bT,AY,hput,AF SZ,D3,hc4,IB,ek (by rw[bw];omega),bT,ji (by rw[bw];omega),bT,Gj (by decide) (by omega),ep (by omega) (by omega)]
  ·
   have SY:A1/4294967296^k/V<4294967296:=by rw[MV];exact Nat.mod_lt _ (by decide)
   omega
  have IC:4294967296^(n+2+1)=4294967296^(n+2)*4294967296:=Nat.pow_succ ..;have:4294967296*V<4294967296*4294967296^(n+2):=Nat.mul_lt_mul_of_pos_left sW (by decide);rw[IC];omega
 ·rw[show K+1-(K+1)=0 by omega,Nat.pow_zero,Nat.mul_one,Nat.mul_one,Nat.div_one,show decide (0<=(K:Int)-((K+1:Nat):Int))=false by simp;omega,iw]
 obtain⟨R,hR⟩:∃R,Va%Vb=R:=⟨_,Y⟩;rw[Zn,hR];have Zt:R<4294967296^(n+2):=by rw[<-hR];exact Nat.lt_trans (Nat.mod_lt _ hb0) MU
 rw[vw (by decide) (by omega),bT];refine b9 (λi=>((i:Int),dR 4294967296 (n+2) (R%4294967296^i))) (n+2) (dR 4294967296 (n+2) R) ?_ (λi hi=>?_) ?_ Y
 ·rw[Nat.pow_zero,Nat.mod_one,nk];rfl
 ·obtain⟨e,he⟩:∃e,4294967296=D*e:=⟨2^(32-s),by rw[<-hD,<-Nat.pow_add,show s+(32-s)=32 by omega,two32]⟩;have S0:=IA (R:=R) (i:=i) SR he;obtain⟨u,hu⟩:∃u,R*D/4294967296^i%4294967296=u:=⟨_,Y⟩;obtain⟨w,hw⟩:∃w,R*D/4294967296^(i+1)%4294967296=w:=⟨_,Y⟩;have U6:u<4294967296:=by rw[<-hu];exact Nat.mod_lt _ (by decide)
  have Z3:w<4294967296:=by rw[<-hw];exact Nat.mod_lt _ (by decide)
  rw[hu,hw]at S0;simp only[show decide ((i:Int)<((n+2:Nat):Int))=true by simp;omega,gQ];rw[ek (by rw[bw];omega),bT,iZ (by omega),bT,hu,cC (by omega),ek (by rw[bw];omega),bT,iZ (by omega),bT,hw,Nat.mod_eq_of_lt (a:=u) (by omega),Nat.mod_eq_of_lt (a:=w) (by omega),two32,Nat.mod_eq_of_lt (a:=w*4294967296) (by omega),Nat.or_comm,CL U6,Nat.mod_eq_of_lt (a:=w*4294967296+u) (by omega),show min s 64=s by omega,hD,S0,ek (by rw[bw];omega),bT,ji (by rw[bw];omega),bT];rw[MT (by decide) hi]
 rw[Nat.mod_eq_of_lt Zt];simp
end
section
open Go.Fw
def sv(n:Bool)(v:Nat):Int:=bif n then-(v:Int)else v
def zi(z:Zr):Int:=sv z.neg (vl z.w)
def zn(i:Int):Zr:=⟨decide (i<0),can 4294967296 i.natAbs⟩
def Wl(z:Zr):Prop:=(∀x∈z.w,x<4294967296)/\z.w.length<=35184372088788
def Fit(L:Nat)(i:Int):Prop:=i.natAbs<4294967296^L
theorem Gm(n:Bool)(v:Nat):(sv n v).natAbs=v:=by cases n<;>simp[sv]
theorem yL(z:Zr):(zi z).natAbs=vl z.w:=Gm _ _
theorem MW(n:Bool)(v:Nat):decide (sv n v<0)=(n&&v != 0):=by
 cases n
 ·have:¬((v:Int)<0):=by omega
  simp[sv,this]
 rcases v with _|v
 ·simp[sv]
 simp[sv]
theorem kC(n:Bool)(v:Nat):zc n v=zn (sv n v):=by rw[zc,zn,MW,Gm]
theorem ID(i:Int):sv (decide (i<0)) i.natAbs=i:=by
 by_cases h:i<0
 ·rw[show decide (i<0)=true by simp[h]];simp[sv];omega
 rw[show decide (i<0)=false by simp[h]];simp[sv];omega
theorem bZ(i:Int):zi (zn i)=i:=by
 show sv (decide (i<0)) (vl (can 4294967296 i.natAbs))=i;rw[show vl (can 4294967296 i.natAbs)=i.natAbs from lY (by decide) _,ID]
theorem yM(n:Bool)(v:Nat):sv (!n) v=-sv n v:=by cases n<;>simp[sv]
theorem jP(v:Nat):sv false v=v:=rfl
theorem Fit.mono{L M:Nat}{i:Int}(h:Fit L i)(hl:L<=M):Fit M i:=Nat.lt_of_lt_of_le h (Nat.pow_le_pow_right (by decide) hl)
theorem Fit.neg{L:Nat}{i:Int}(h:Fit L i):Fit L (-i):=by unfold Fit at*;rw[Int.natAbs_neg];exact h
theorem Fit.add{L:Nat}{i j:Int}(h:Fit L i)(h':Fit L j):Fit (L+1) (i+j):=by
 unfold Fit at*;have:=Int.natAbs_add_le i j;rw[Nat.pow_succ];omega
theorem Fit.sub{L:Nat}{i j:Int}(h:Fit L i)(h':Fit L j):Fit (L+1) (i-j):=by
 rw[Int.sub_eq_add_neg];exact h.add h'.neg
theorem Fit.mul{L M:Nat}{i j:Int}(h:Fit L i)(h':Fit M j):Fit (L+M) (i*j):=by
 unfold Fit at*;rw[Int.natAbs_mul,Nat.pow_add];exact Nat.mul_lt_mul'' h h'
theorem Fit.i64{i:Int}(h: -9223372036854775808<=i)(h':i<=9223372036854775807):Fit 2 i:=by
 unfold Fit;rw[show(4294967296:Nat)^2=18446744073709551616 by decide];omega
theorem Fit.le{L:Nat}{i j:Int}(h:Fit L i)(h':j.natAbs<=i.natAbs):Fit L j:=Nat.lt_of_le_of_lt h' h
theorem dy{L:Nat}{i:Int}(h:Fit L i)(hL:L<=35184372088788):Wl (zn i):=
 ⟨λ_ hx=>gb (by decide) hx,Nat.le_trans ((cL (by decide)).2 h) hL⟩
theorem Wl.fit{z:Zr}(h:Wl z):Fit z.w.length (zi z):=by
 unfold Fit;rw[yL];exact fB z.w h.1
theorem Wl.lt{z:Zr}(h:Wl z):vl z.w<4294967296^z.w.length:=fB z.w h.1
theorem Wl.cl{z:Zr}(h:Wl z):(can 4294967296 (vl z.w)).length<=35184372088788:=
 Nat.le_trans ((cL (by decide)).2 (Wl.lt h)) h.2
def Wx(z:Zr):Prop:=(∀x∈z.w,x<4294967296)/\z.w.length<=9000000000000000000
theorem Wl.x{z:Zr}(h:Wl z):Wx z:=⟨h.1,Nat.le_trans h.2 (by decide)⟩
theorem KG{L:Nat}{i:Int}(h:Fit L i)(hL:L<=9000000000000000000):Wx (zn i):=
 ⟨λ_ hx=>gb (by decide) hx,Nat.le_trans ((cL (by decide)).2 h) hL⟩
theorem Wx.cl{z:Zr}(h:Wx z):(can 4294967296 (vl z.w)).length<=9000000000000000000:=
 Nat.le_trans ((cL (by decide)).2 (fB z.w h.1)) h.2
theorem Wx.trim{z:Zr}(h:Wx z):bh z.w=some (can 4294967296 (vl z.w)):=by
 rw[qi _ (by have:=h.2;omega),jO (by decide) h.1]
theorem Wl.trim{z:Zr}(h:Wl z):bh z.w=some (can 4294967296 (vl z.w)):=by
 rw[qi _ (by have:=h.2;omega),jO (by decide) h.1]
theorem eF{v:Nat}(h:(can 4294967296 v).length<=35184372088789):yI (can 4294967296 v):=⟨λ_ hx=>gb (by decide) hx,by omega⟩
theorem dx(v:Nat):vl (can 4294967296 v)=v:=lY (by decide) v
theorem ee{v:Nat}:((can 4294967296 v).length:Int)<=2↔v<18446744073709551616:=by
 have:=cL (B:=4294967296) (by decide) (v:=v) (n:=2);rw[show(4294967296:Nat)^2=18446744073709551616 by decide]at this;omega
theorem iq{v:Nat}:((can 4294967296 v).length:Int)<=1↔v<4294967296:=by
 have:=cL (B:=4294967296) (by decide) (v:=v) (n:=1);rw[show(4294967296:Nat)^1=4294967296 by decide]at this;omega
theorem lu{v:Nat}:(can 4294967296 v).length=0↔v=0:=by
 constructor
 ·intro h;exact yD (by decide) (List.length_eq_zero_iff.1 h)
 intro h;rw[h,nn];rfl
theorem ql(l:List Nat)(h:l.length<=35184372088832):c8 l=some l:=by
 unfold c8;rw[Y8 (by decide) (by simp;omega)];simp
end
section
open Go.Fw
theorem AJ(a b:Nat):decide (wE a b<0)=decide (a<b):=by
 rcases Nat.lt_trichotomy a b with h|h|h
 ·rw[qh h];simp[h]
 ·rw[h,yH];simp
 rw[ua h];simp;omega
theorem sE(a b:Nat)(ha:(can 4294967296 a).length<=35184372088788)(hb:(can 4294967296 b).length<=35184372088788)(h0:b≠0):
  ∃q r,dX (can 4294967296 a) (can 4294967296 b)=some (q,r)/\yI q/\vl q=a/b/\yI r/\vl r=a%b/\q.length<=35184372088789/\r.length<=35184372088789:=by
 unfold dX;rw[gB a b (by omega) (by omega)];simp only[bT];by_cases hlt:a<b
 ·rw[qh hlt];simp only[show decide ((-1:Int)<0)=true by decide,gQ];rw[ql _ (by omega)];refine⟨_,_,Y,⟨by simp,by simp⟩,?_,eF (by omega),?_,by simp,by omega⟩
  ·rw[Nat.div_eq_of_lt hlt];rfl
  rw[dx,Nat.mod_eq_of_lt hlt]
 rw[AJ,show decide (a<b)=false by simp[hlt]];simp only[iw];by_cases h2:a<18446744073709551616
 ·rw[show decide (((can 4294967296 a).length:Int)<=2)=true by rw[decide_eq_true_eq];exact ee.2 h2];have Eh:b<18446744073709551616:=by omega
  simp only[gQ];have l1:=low_eq (can 4294967296 a) (λ_ hx=>gb (by decide) hx) (by have:=ee.2 h2;omega);have l2:=low_eq (can 4294967296 b) (λ_ hx=>gb (by decide) hx) (by have:=ee.2 Eh;omega);rw[dx]at l1 l2;rw[l1,bT,l2,bT,yB h0 h2,bT,lq _ _ (Nat.lt_of_le_of_lt (Nat.div_le_self _ _) h2),bT,tY h0,bT,lq _ _ (Nat.lt_of_le_of_lt (Nat.mod_le _ _) h2),bT];have hq:a/b<18446744073709551616:=Nat.lt_of_le_of_lt (Nat.div_le_self _ _) h2;have hr:a%b<18446744073709551616:=Nat.lt_of_le_of_lt (Nat.mod_le _ _) h2;have c1:=ee.2 hq;have c2:=ee.2 hr;exact⟨_,_,Y,eF (by omega),dx _,eF (by omega),dx _,by show(can _ _).length<=_;omega,by show(can _ _).length<=_;omega⟩
 rw[show decide (((can 4294967296 a).length:Int)<=2)=false by rw[decide_eq_false_iff_not];exact λh=>h2 (ee.1 h)];simp only[iw];have rW:(can 4294967296 b).length≠0:=λh=>h0 (lu.1 h);by_cases h1:b<4294967296
 ·have h1':=iq.2 h1;rw[show decide (((can 4294967296 b).length:Int)=1)=true by simp;omega,gQ];have hg:(can 4294967296 b)[0]? =some b:=by rw[yE (by decide) (by omega)];simp;exact h1
  rw[ql _ (by omega),bT,k8 hg,bT,Nat.mod_eq_of_lt (b:=18446744073709551616) (by omega),AE _ _ (eF (by omega)) (by omega) (by omega),bT,dx];simp only[];rw[lf (by rw[bw]),bT];have hm:a%b<b:=Nat.mod_lt _ (by omega);rw[Nat.mod_eq_of_lt (a:=a%b) (by omega)];refine⟨_,_,Y,⟨λx hx=>jk (by decide) _ _ _ hx,by rw[bw];omega⟩,?_,⟨?_,by simp⟩,?_,by rw[bw];omega,by simp⟩
  ·show val _ _=_;rw[ik,Nat.mod_eq_of_lt (Nat.lt_of_le_of_lt (Nat.div_le_self _ _) (cP (by decide) a))]
  ·intro x hx;simp at hx;omega
  simp[vl,val]
 have h1':¬(((can 4294967296 b).length:Int)<=1):=λh=>h1 (iq.1 h);rw[show decide (((can 4294967296 b).length:Int)=1)=false by simp;omega,iw];obtain⟨n,hn⟩:∃n,(can 4294967296 b).length=n+2:=⟨(can 4294967296 b).length-2,by omega⟩;have hl:(can 4294967296 b).length<=(can 4294967296 a).length:=(cL (by decide)).2 (Nat.lt_of_le_of_lt (by omega) (cP (by decide) a));obtain⟨l,x,hx,he⟩:=Aw (B:=4294967296) (by decide) h0;have BN:(can 4294967296 b)[n+1]? ≠some 0:=by
  have:l.length=n+1:=by rw[he]at hn;simp at hn;omega
  rw[he,<-this];simp;exact hx
 rw[BO _ _ (eF (by omega)) (eF (by omega)) hn hl BN,bT,dx,dx];have hbp:0<b:=by omega
 have e1:a<4294967296^(can 4294967296 a).length:=cP (by decide) a;have e2:b<4294967296^(can 4294967296 b).length:=cP (by decide) b;have e3:4294967296^(n+1)<=b:=og (by decide) (by omega);refine⟨_,_,Y,⟨λx hx=>jk (by decide) _ _ _ hx,by rw[bw];omega⟩,?_,⟨λx hx=>jk (by decide) _ _ _ hx,by rw[bw];omega⟩,?_,by rw[bw];omega,by rw[bw];omega⟩
 ·show val _ _=_;rw[ik,Nat.mod_eq_of_lt];rw[Nat.div_lt_iff_lt_mul hbp];have:4294967296^((can 4294967296 a).length-(can 4294967296 b).length+1)*4294967296^(n+1)=4294967296^(can 4294967296 a).length:=by rw[<-Nat.pow_add];congr 1;omega
  calc a<4294967296^((can 4294967296 a).length-(can 4294967296 b).length+1)*4294967296^(n+1):=by rw[this];exact e1
   _<=_:=Nat.mul_le_mul_left _ e3
 show val _ _=_;rw[ik,Nat.mod_eq_of_lt (Nat.lt_trans (Nat.mod_lt _ hbp) e2)]
end
section
open Go.Fw
theorem ef{x:Int}(h1: -9223372036854775808<=x)(h2:x<=9223372036854775807):bp x=some (zn x):=by
 unfold bp;simp only[bT,cW];by_cases hx:x<0
 ·have e:(x%18446744073709551616).toNat=18446744073709551616-x.natAbs:=by omega
  rw[show decide (x<0)=true by simp[hx],gQ,e,tW (by omega) (by omega),show 18446744073709551616+0-(18446744073709551616-x.natAbs)=x.natAbs by omega,lq _ _ (by omega),bT,kC,show sv true x.natAbs=x by simp[sv];omega]
 have e:(x%18446744073709551616).toNat=x.natAbs:=by omega
 rw[show decide (x<0)=false by simp[hx],iw,e,lq _ _ (by omega),bT,kC,show sv false x.natAbs=x by simp[sv];omega]
def dH(i:Int):Prop:=-9223372036854775808<=i/\i<=9223372036854775807
instance(i:Int):Decidable (dH i):=by unfold dH;infer_instance
def nq(i:Int):Int×Bool:=if dH i then(i,true)else(0,false)
theorem jQ{z:Zr}(h:Wl z):cD z=some (nq (zi z)):=by
 obtain⟨n,w⟩:=z;unfold cD;have ht:=h.trim;have Zu:vl w<18446744073709551616->cJ (can 4294967296 (vl w))=some (vl w):=λh2=>by
  rw[low_eq _ (λ_ hx=>gb (by decide) hx) (by have:=ee.2 h2;omega),dx]
 show(bh w).bind _=some (nq (sv n (vl w)));rw[show bh w=some (can 4294967296 (vl w))from ht];simp only[bT];generalize vl w=v at*;by_cases h2:v<18446744073709551616
 ·have:=ee.2 h2;rw[show decide ((2:Int)<((can 4294967296 v).length:Int))=false by simp;omega,iw,Zu h2,bT];cases n
  ·rw[iw,jP];by_cases h3:v<9223372036854775808
   ·rw[show decide (9223372036854775808<=v)=false by simp;omega,iw,kz (by omega),nq,if_pos (by unfold dH;omega)]
   rw[show decide (9223372036854775808<=v)=true by simp;omega,gQ,nq,if_neg (by unfold dH;omega)]
  rw[gQ,show sv true v=-(v:Int)from rfl];by_cases h3:9223372036854775808<v
  ·rw[show decide (9223372036854775808<v)=true by simp;omega,gQ,nq,if_neg (by unfold dH;omega)]
  rw[show decide (9223372036854775808<v)=false by simp;omega,iw,nq,if_pos (by unfold dH;omega)];by_cases h0:v=0
  ·subst h0;rfl
  rw[tW (by omega) (by omega)];rw[show IntKind.i64.wrap ((18446744073709551616+0-v:Nat):Int)=-(v:Int) by
   rw[IntKind.wrap];simp[IntKind.signed,IntKind.bits];omega]
 have:¬(((can 4294967296 v).length:Int)<=2):=λh=>h2 (ee.1 h);rw[show decide ((2:Int)<((can 4294967296 v).length:Int))=true by simp;omega,gQ,nq,if_neg (by unfold dH;cases n<;>simp[sv]<;>omega)]
theorem Gn{z:Zr}(h:Wx z):ct z=some (zi z).sign:=by
 obtain⟨n,w⟩:=z;unfold ct;show(bh w).bind _=some (sv n (vl w)).sign;rw[show bh w=some (can 4294967296 (vl w))from h.trim];simp only[bT];generalize vl w=v;by_cases h0:v=0
 ·subst h0;cases n<;>rfl
 have:(can 4294967296 v).length≠0:=λh=>h0 (lu.1 h);rw[show decide (((can 4294967296 v).length:Int)=0)=false by simp;intro e;rw[e]at this;exact this Y,iw];cases n
 ·rw[iw,jP,Int.sign_eq_one_of_pos (by omega)]
 rw[gQ,show sv true v=-(v:Int)from Y,Int.sign_eq_neg_one_of_neg (by omega)]
def lZ(i j:Int):Int:=if i<j then-1 else if i=j then 0 else 1
theorem jw{i j:Int}(h:i<j):lZ i j=-1:=by simp[lZ,h]
theorem jx{i j:Int}(h:j<i):lZ i j=1:=by
 have h1:¬i<j:=by omega
 have h2:¬i=j:=by omega
 simp[lZ,h1,h2]
theorem rG(i:Int):lZ i i=0:=by simp[lZ]
theorem AK(v w:Nat):wE v w=lZ (v:Int) (w:Int):=by
 rcases Nat.lt_trichotomy v w with h|h|h
 ·rw[qh h,jw (by omega)]
 ·rw[h,yH,rG]
 rw[ua h,jx (by omega)]
theorem Gp(i j:Int):lZ (-i) (-j)=lZ j i:=by
 rcases Int.lt_trichotomy i j with h|h|h
 ·rw[jx h,jx (by omega)]
 ·rw[h,rG,rG]
 rw[jw h,jw (by omega)]
theorem sign_eq{z:Zr}(h:Wl z):ct z=some (zi z).sign:=Gn h.x
theorem S3{x y:Zr}(hx:Wx x)(hy:Wx y):iW x y=some (lZ (zi x) (zi y)):=by
 obtain⟨n,w⟩:=x;obtain⟨m,u⟩:=y;unfold iW;show(ct ⟨n,w⟩).bind _=_;rw[Gn hx,bT];show(ct ⟨m,u⟩).bind _=_;rw[Gn hy,bT,show bh w=some (can 4294967296 (vl w))from hx.trim,show bh u=some (can 4294967296 (vl u))from hy.trim];simp only[bT];rw[gB _ _ hx.cl hy.cl,gB _ _ hy.cl hx.cl];simp only[bT];rw[show zi ⟨n,w⟩=sv n (vl w)from Y,show zi ⟨m,u⟩=sv m (vl u)from rfl];generalize vl w=a;generalize vl u=b;rw[AK,AK];obtain⟨i,hi⟩:∃i,sv n a=i:=⟨_,Y⟩;obtain⟨j,hj⟩:∃j,sv m b=j:=⟨_,Y⟩;have Nb:(i<0->i=-(a:Int))/\(0<=i->i=a):=by rw[<-hi];cases n<;>simp[sv]<;>omega
 have Zv:(j<0->j=-(b:Int))/\(0<=j->j=b):=by rw[<-hj];cases m<;>simp[sv]<;>omega
 rw[hi,hj];rcases Int.lt_trichotomy i 0 with h1|h1|h1<;>rcases Int.lt_trichotomy j 0 with h2|h2|h2
 ·rw[Int.sign_eq_neg_one_of_neg h1,Int.sign_eq_neg_one_of_neg h2,Nb.1 h1,Zv.1 h2,Gp];rfl
 ·rw[Int.sign_eq_neg_one_of_neg h1,show Int.sign j=0 by rw[h2];rfl,show lZ i j=-1 from jw (by omega)];rfl
 ·rw[Int.sign_eq_neg_one_of_neg h1,Int.sign_eq_one_of_pos h2,show lZ i j=-1 from jw (by omega)];rfl
 ·rw[show Int.sign i=0 by rw[h1];rfl,Int.sign_eq_neg_one_of_neg h2,show lZ i j=1 from jx (by omega)];rfl
 ·rw[show Int.sign i=0 by rw[h1];rfl,show Int.sign j=0 by rw[h2];rfl,<-Nb.2 (by omega),<-Zv.2 (by omega)];rfl
 ·rw[show Int.sign i=0 by rw[h1];rfl,Int.sign_eq_one_of_pos h2,show lZ i j=-1 from jw (by omega)];rfl
 ·rw[Int.sign_eq_one_of_pos h1,Int.sign_eq_neg_one_of_neg h2,show lZ i j=1 from jx (by omega)];rfl
 ·rw[Int.sign_eq_one_of_pos h1,show Int.sign j=0 by rw[h2];rfl,show lZ i j=1 from jx (by omega)];rfl
 rw[Int.sign_eq_one_of_pos h1,Int.sign_eq_one_of_pos h2,<-Nb.2 (by omega),<-Zv.2 (by omega)];rfl
theorem neg_eq{x:Zr}(hx:Wl x):dD x=some (zn (-zi x)):=by
 obtain⟨n,w⟩:=x;unfold dD;have hc:(can 4294967296 (vl w)).length<=35184372088788:=hx.cl;simp only[bT];rw[show bh w=some (can 4294967296 (vl w))from hx.trim,bT,ql _ (by omega),bT,gu _ _ (eF (by omega)).x,bT,dx,kC,yM];rfl
end
section
open Go.Fw
theorem qm(n m:Bool)(a b:Nat)(ha:(can 4294967296 a).length<=35184372088788)(hb:(can 4294967296 b).length<=35184372088788):
  cr n (can 4294967296 a) m (can 4294967296 b)=some (zn (sv n a+sv m b)):=by
 have la:=cP (B:=4294967296) (by decide) a;have lb:=cP (B:=4294967296) (by decide) b;unfold cr;simp only[bT];by_cases hnm:n=m
 ·subst hnm;rw[show(n==n)=true by simp,gQ,sB _ _ (eF (by omega)) (eF (by omega)),bT,dx,dx,gu _ _ ⟨λx hx=>jk (by decide) _ _ _ hx,by rw[bw];omega⟩,bT];have hv:vl (dR 4294967296 (max (can 4294967296 a).length (can 4294967296 b).length+1) (a+b))=a+b:=by
   show val _ _=_;rw[ik,Nat.mod_eq_of_lt];have h1:a<4294967296^(max (can 4294967296 a).length (can 4294967296 b).length):=Nat.lt_of_lt_of_le la (Nat.pow_le_pow_right (by decide) (by omega));have h2:b<4294967296^(max (can 4294967296 a).length (can 4294967296 b).length):=Nat.lt_of_lt_of_le lb (Nat.pow_le_pow_right (by decide) (by omega));rw[Nat.pow_succ];omega
  rw[hv,kC,show sv n (a+b)=sv n a+sv n b by cases n<;>simp[sv];omega]
 rw[show(n==m)=false by simp[hnm],iw,gB _ _ (by omega) (by omega),bT,AJ];have hm:m= !n:=by cases n<;>cases m<;>simp_all
 subst hm;have hv:∀c d,d<=c->(can 4294967296 c).length<=35184372088788->cg (can 4294967296 c) (can 4294967296 d)=some (dR 4294967296 (can 4294967296 c).length (c-d))/\vl (dR 4294967296 (can 4294967296 c).length (c-d))=c-d:=by
  intro c d hdc qH;have lc:=cP (B:=4294967296) (by decide) c;have Zw:(can 4294967296 d).length<=(can 4294967296 c).length:=(cL (by decide)).2 (by omega);constructor
  ·rw[sD _ _ (eF (by omega)) (eF (by omega)) Zw (by rw[dx,dx];exact hdc),dx,dx]
  show val _ _=_;rw[ik,Nat.mod_eq_of_lt (by omega)]
 by_cases hlt:a<b
 ·obtain⟨h1,h2⟩:=hv b a (by omega) hb;rw[show decide (a<b)=true by simp[hlt],gQ,h1,bT,gu _ _ ⟨λx hx=>jk (by decide) _ _ _ hx,by rw[bw];omega⟩,bT,h2,kC,show sv (!n) (b-a)=sv n a+sv (!n) b by cases n<;>simp[sv]<;>omega]
 obtain⟨h1,h2⟩:=hv a b (by omega) ha;rw[show decide (a<b)=false by simp[hlt],iw,h1,bT,gu _ _ ⟨λx hx=>jk (by decide) _ _ _ hx,by rw[bw];omega⟩,bT,h2,kC,show sv n (a-b)=sv n a+sv (!n) b by cases n<;>simp[sv]<;>omega]
theorem CO(v:BitVec 64):IntKind.i64.wrap (v.toNat:Int)=v.toInt:=by
 rw[BitVec.toInt_eq_toNat_cond];have:=v.isLt;rw[show(2:Nat)^64=18446744073709551616 by decide]at this⊢;split
 ·rw[kz (by omega)]
 rw[IntKind.wrap];simp[IntKind.signed,IntKind.bits];omega
theorem CP(v:BitVec 64):BitVec.ofInt 64 (IntKind.i64.wrap (v.toNat:Int))=v:=by rw[CO,BitVec.ofInt_toInt]
theorem rH{x:Int}(h:dH x):(BitVec.ofInt 64 x).msb=decide (x<0):=by
 rw[BitVec.msb_eq_toInt,BitVec.toInt_ofInt];unfold dH at h;have:x.bmod (2^64)=x:=by
  rw[Int.bmod_def];simp only[show((2^64:Nat):Int)=18446744073709551616 by decide];split<;>omega
 rw[this]
theorem xz(v:BitVec 64):decide ((0:Int)<=IntKind.i64.wrap (v.toNat:Int))= !v.msb:=by
 rw[CO,BitVec.msb_eq_toInt];by_cases h:v.toInt<0
 ·simp[h]
 simp[h];omega
theorem lz(x:Int):dH (IntKind.i64.wrap x):=by
 unfold dH;rw[IntKind.wrap];simp[IntKind.signed,IntKind.bits];split<;>omega
theorem vD{α:Type}(b:Bool)(x:α):(bif b then x else x)=x:=by cases b<;>rfl
theorem fF{i:Int}(h:dH i):nq i=(i,true):=if_pos h
theorem jR{i:Int}(h:¬dH i):nq i=(0,false):=if_neg h
theorem add_eq{x y:Zr}(hx:Wl x)(hy:Wl y):cK x y=some (zn (zi x+zi y)):=by
 obtain⟨n,w⟩:=x;obtain⟨m,u⟩:=y;unfold cK;simp only[jQ hx,jQ hy,bT,cW];have hK:((bh w).bind λv8=>(bh u).bind λqV=>(cr n v8 m qV).bind λx=>some x)=some (zn (zi ⟨n,w⟩+zi ⟨m,u⟩)):=by
  rw[show bh w=some (can 4294967296 (vl w))from hx.trim,show bh u=some (can 4294967296 (vl u))from hy.trim,bT,bT,qm _ _ _ _ hx.cl hy.cl,bT];rfl
 have Zx:((bh w).bind λv8=>(bh u).bind λqV=>(cr n v8 m qV).bind λx=>some ⟨x.neg,x.w⟩)=some (zn (zi ⟨n,w⟩+zi ⟨m,u⟩)):=hK;rw[Zx];generalize zi ⟨n,w⟩=i;generalize zi ⟨m,u⟩=j;by_cases h1:dH i
 ·by_cases h2:dH j
  ·rw[fF h1,fF h2,gQ,bT,gQ,CP,CP,xz,BitVec.msb_and,BitVec.msb_xor,BitVec.msb_xor,rH h1,rH h2,rH (lz _),ef (lz _).1 (lz _).2,bT];by_cases hr:dH (i+j)
   ·rw[ep hr.1 hr.2];exact vD _ _
   have:(!((decide (i<0)^^decide (IntKind.i64.wrap (i+j)<0))&&(decide (j<0)^^decide (IntKind.i64.wrap (i+j)<0))))=false:=by
    unfold dH at*;by_cases hs:i<0
    ·have e:IntKind.i64.wrap (i+j)=i+j+18446744073709551616:=by rw[IntKind.wrap];simp[IntKind.signed,IntKind.bits];omega
     rw[e,show decide (i<0)=true by simp[hs],show decide (j<0)=true by simp;omega,show decide (i+j+18446744073709551616<0)=false by simp;omega];rfl
    have e:IntKind.i64.wrap (i+j)=i+j-18446744073709551616:=by rw[IntKind.wrap];simp[IntKind.signed,IntKind.bits];omega
    rw[e,show decide (i<0)=false by simp[hs],show decide (j<0)=false by simp;omega,show decide (i+j-18446744073709551616<0)=true by simp;omega];rfl
   rw[this,iw]
  rw[fF h1,jR h2,gQ,bT,iw]
 rw[jR h1,iw,bT,iw]
theorem sub_eq{x y:Zr}(hx:Wl x)(hy:Wl y):fV x y=some (zn (zi x-zi y)):=by
 obtain⟨n,w⟩:=x;obtain⟨m,u⟩:=y;unfold fV;simp only[jQ hx,jQ hy,bT,cW];have Zx:((bh w).bind λv8=>(bh u).bind λqV=>(cr n v8 (!m) qV).bind λx=>some ⟨x.neg,x.w⟩)=some (zn (zi ⟨n,w⟩-zi ⟨m,u⟩)):=by
  rw[show bh w=some (can 4294967296 (vl w))from hx.trim,show bh u=some (can 4294967296 (vl u))from hy.trim,bT,bT,qm _ _ _ _ hx.cl hy.cl,bT,yM,<-Int.sub_eq_add_neg];rfl
 rw[Zx];generalize zi ⟨n,w⟩=i;generalize zi ⟨m,u⟩=j;by_cases h1:dH i
 ·by_cases h2:dH j
  ·rw[fF h1,fF h2,gQ,bT,gQ,CP,CP,xz,BitVec.msb_and,BitVec.msb_xor,BitVec.msb_xor,rH h1,rH h2,rH (lz _),ef (lz _).1 (lz _).2,bT];by_cases hr:dH (i-j)
   ·rw[ep hr.1 hr.2];exact vD _ _
   have:(!((decide (i<0)^^decide (j<0))&&(decide (i<0)^^decide (IntKind.i64.wrap (i-j)<0))))=false:=by
    unfold dH at*;by_cases hs:i<0
    ·have e:IntKind.i64.wrap (i-j)=i-j+18446744073709551616:=by rw[IntKind.wrap];simp[IntKind.signed,IntKind.bits];omega
     rw[e,show decide (i<0)=true by simp[hs],show decide (j<0)=false by simp;omega,show decide (i-j+18446744073709551616<0)=false by simp;omega];rfl
    have e:IntKind.i64.wrap (i-j)=i-j-18446744073709551616:=by rw[IntKind.wrap];simp[IntKind.signed,IntKind.bits];omega
    rw[e,show decide (i<0)=false by simp[hs],show decide (j<0)=true by simp;omega,show decide (i-j-18446744073709551616<0)=true by simp;omega];rfl
   rw[this,iw]
  rw[fF h1,jR h2,gQ,bT,iw]
 rw[jR h1,iw,bT,iw]
theorem Gq(n m:Bool)(a b:Nat):sv (!(n==m)) (a*b)=sv n a*sv m b:=by
 cases n<;>cases m<;>simp[sv,Int.neg_mul,Int.mul_neg]
theorem mul_eq{x y:Zr}(hx:Wl x)(hy:Wl y):cQ x y=some (zn (zi x*zi y)):=by
 obtain⟨n,w⟩:=x;obtain⟨m,u⟩:=y;unfold cQ;have UU:(can 4294967296 (vl w)).length<=35184372088788:=hx.cl;have S4:(can 4294967296 (vl u)).length<=35184372088788:=hy.cl;simp only[];rw[show bh w=some (can 4294967296 (vl w))from hx.trim,show bh u=some (can 4294967296 (vl u))from hy.trim,bT,bT,show zi ⟨n,w⟩=sv n (vl w)from Y,show zi ⟨m,u⟩=sv m (vl u)from rfl];simp only[bT,cW];generalize vl w=a at*;generalize vl u=b at*;have la:=cP (B:=4294967296) (by decide) a;have lb:=cP (B:=4294967296) (by decide) b;have hK:((dW (can 4294967296 a) (can 4294967296 b)).bind λqz=>(bM (!(n==m)) qz).bind λx=>some ⟨x.neg,x.w⟩)=some (zn (sv n a*sv m b)):=by
  rw[AD _ _ (eF (by omega)) (eF (by omega)),bT,dx,dx,gu _ _ ⟨λx hx=>jk (by decide) _ _ _ hx,by rw[bw];omega⟩,bT,kC];have hv:vl (dR 4294967296 ((can 4294967296 a).length+(can 4294967296 b).length) (a*b))=a*b:=by
   show val _ _=_;rw[ik,Nat.mod_eq_of_lt];rw[Nat.pow_add];exact Nat.mul_lt_mul'' la lb
  rw[hv,Gq]
 rw[hK];by_cases h1:a<4294967296
 ·by_cases h2:b<4294967296
  ·have l1:=low_eq (can 4294967296 a) (λ_ hx=>gb (by decide) hx) (by have:=iq.2 h1;omega);have l2:=low_eq (can 4294967296 b) (λ_ hx=>gb (by decide) hx) (by have:=iq.2 h2;omega);rw[dx]at l1 l2;have hlt:a*b<18446744073709551616:=Nat.mul_lt_mul'' h1 h2;rw[show decide (((can 4294967296 a).length:Int)<=1)=true by rw[decide_eq_true_eq];exact iq.2 h1,gQ,bT,show decide (((can 4294967296 b).length:Int)<=1)=true by rw[decide_eq_true_eq];exact iq.2 h2,gQ,l1,l2,bT,bT,Nat.mod_eq_of_lt hlt,lq _ _ hlt,bT,kC,Gq]
  rw[show decide (((can 4294967296 a).length:Int)<=1)=true by rw[decide_eq_true_eq];exact iq.2 h1,gQ,bT,show decide (((can 4294967296 b).length:Int)<=1)=false by rw[decide_eq_false_iff_not];exact λh=>h2 (iq.1 h),iw]
 rw[show decide (((can 4294967296 a).length:Int)<=1)=false by rw[decide_eq_false_iff_not];exact λh=>h1 (iq.1 h),iw,bT,iw]
end
section
open Go.Fw
theorem MX(n m:Bool){a b:Nat}(hb:0<b):
  sv n a/sv m b=(if n=true/\0<a%b then sv (!(n==m)) (a/b+1)else sv (!(n==m)) (a/b))/\
  sv n a%sv m b=(if n=true/\0<a%b then((b-a%b:Nat):Int)else((a%b:Nat):Int)):=by
 have hd:=Nat.div_add_mod a b;have hm:=Nat.mod_lt a hb
 revert hd hm
 generalize a/b=q;generalize a%b=r;intro hd hm;have hd':(b:Int)*q+r=a:=by exact_mod_cast hd
 have pos:∀n,sv n a/(b:Int)=(if n=true/\0<r then sv n (q+1)else sv n q)/\sv n a%(b:Int)=(if n=true/\0<r then((b-r:Nat):Int)else(r:Int)):=by
  intro n;apply(Int.ediv_emod_unique (by omega)).2;cases n
  ·simp[sv];omega
  by_cases hr:0<r
  ·simp only[hr,and_self,if_true,sv,cond_true];have:(b:Int)* -((q+1:Nat):Int)=-((b:Int)*q)-b:=by
    rw[Int.mul_neg,Int.natCast_add,Int.mul_add];simp;omega
   rw[this];omega
  have:r=0:=by omega
  subst this;simp[sv,Int.mul_neg];omega
 cases m
 ·have:=pos n;rw[jP,show(!(n==false))=n by cases n<;>rfl];exact this
 have:=pos n;rw[show sv true b=-(b:Int)from rfl,Int.ediv_neg,Int.emod_neg,this.1,this.2,show(!(n==true))= !n by cases n<;>rfl,yM,yM];refine⟨?_,Y⟩;split<;>rfl
theorem MY{a b:Nat}(hba:b<=a)(qH:(can 4294967296 a).length<=35184372088788):cg (can 4294967296 a) (can 4294967296 b)=some (dR 4294967296 (can 4294967296 a).length (a-b))/\vl (dR 4294967296 (can 4294967296 a).length (a-b))=a-b:=by
 have lc:=cP (B:=4294967296) (by decide) a;have Zw:(can 4294967296 b).length<=(can 4294967296 a).length:=(cL (by decide)).2 (by omega);constructor
 ·rw[sD _ _ (eF (by omega)) (eF (by omega)) Zw (by rw[dx,dx];exact hba),dx,dx]
 show val _ _=_;rw[ik,Nat.mod_eq_of_lt (by omega)]
def Gr(i j:Int):Zr×Zr×Int:=if j=0 then(⟨false,[]⟩,⟨false,[]⟩,7)else(zn (i/j),zn (i%j),0)
theorem divMod_eq{x y:Zr}(hx:Wl x)(hy:Wl y):cc x y=some (Gr (zi x) (zi y)):=by
 obtain⟨n,w⟩:=x;obtain⟨m,u⟩:=y;unfold cc;have UU:(can 4294967296 (vl w)).length<=35184372088788:=hx.cl;have S4:(can 4294967296 (vl u)).length<=35184372088788:=hy.cl;simp only[];rw[show bh w=some (can 4294967296 (vl w))from hx.trim,show bh u=some (can 4294967296 (vl u))from hy.trim,bT,bT,show zi ⟨n,w⟩=sv n (vl w)from Y,show zi ⟨m,u⟩=sv m (vl u)from rfl];simp only[bT,cW];generalize vl w=a at*;generalize vl u=b at*;by_cases h0:b=0
 ·subst h0;rw[show sv m 0=0 by cases m<;>rfl];rfl
 have rW:(can 4294967296 b).length≠0:=λh=>h0 (lu.1 h);rw[show decide (((can 4294967296 b).length:Int)=0)=false by simp;intro e;rw[e]at rW;exact rW Y,iw];obtain⟨q,r,Zy,UW,UX,Mn,Pk,hq3,hr3⟩:=sE a b UU S4 h0;have hm:a%b<b:=Nat.mod_lt _ (by omega);obtain⟨e1,e2⟩:=MX n m (a:=a) (show 0<b by omega);have hj:sv m b≠0:=by cases m<;>simp[sv]<;>omega
 rw[Zy,bT];simp only[];rw[qi r (by have:=Mn.2;omega),jO (by decide) Mn.1,show val 4294967296 r=a%b from Pk,bT,Gr,if_neg hj,e1,e2];have hrl:(can 4294967296 (a%b)).length<=(can 4294967296 b).length:=(cL (by decide)).2 (Nat.lt_trans hm (cP (by decide) b));have hK:∀c:Bool,(decide (n=true/\0<a%b)=c)->(bif c then(dr q [1]).bind λqz=>(cg (can 4294967296 b) (can 4294967296 (a%b))).bind λqy=>(bM (!(n==m)) qz).bind λx=>(bM false qy).bind λx_1=>some ((⟨x.neg,x.w⟩:Zr),(⟨x_1.neg,x_1.w⟩:Zr),(0:Int))
   else(bM (!(n==m)) q).bind λx=>(bM false (can 4294967296 (a%b))).bind λx_1=>some ((⟨x.neg,x.w⟩:Zr),(⟨x_1.neg,x_1.w⟩:Zr),(0:Int)))=
   some (zn (if n=true/\0<a%b then sv (!(n==m)) (a/b+1)else sv (!(n==m)) (a/b)),zn (if n=true/\0<a%b then((b-a%b:Nat):Int)else((a%b:Nat):Int)),0):=by
  intro c hc;cases c
  ·have S5:=of_decide_eq_false hc;rw[iw,if_neg S5,if_neg S5,gu _ _ UW.x,bT,gu _ _ (eF (by omega)).x,bT,dx,UX,kC,kC,jP]
  have S5:=of_decide_eq_true hc;obtain⟨s1,s2⟩:=MY (a:=b) (b:=a%b) (by omega) S4;have w1:yI [1]:=⟨by simp,by simp⟩;rw[gQ,if_pos S5,if_pos S5,sB _ _ UW w1,bT,s1,bT,gu _ _ ⟨λx hx=>jk (by decide) _ _ _ hx,by rw[bw];simp;omega⟩,bT,gu _ _ ⟨λx hx=>jk (by decide) _ _ _ hx,by rw[bw];omega⟩,bT,s2,kC,kC,jP];have:vl (dR 4294967296 (max q.length [1].length+1) (vl q+vl [1]))=a/b+1:=by
   show val _ _=_;rw[ik,show vl [1]=1 by decide,UX,Nat.mod_eq_of_lt];have h1:vl q<4294967296^q.length:=fB q UW.1;rw[UX]at h1;have h2:4294967296^q.length<=4294967296^(max q.length [1].length):=Nat.pow_le_pow_right (by decide) (by omega);have h3:0<4294967296^(max q.length [1].length):=Nat.pow_pos (by decide);rw[Nat.pow_succ];omega
  rw[this]
 have hz:(0<(can 4294967296 (a%b)).length)↔0<a%b:=by
  have:=lu (v:=a%b);omega
 cases n
 ·rw[iw,bT];exact hK false (by simp)
 rw[gQ,bT];refine hK _ ?_;simp only[true_and];by_cases h:0<a%b
 ·simp[h,hz.2 h]
 have h':¬0<(can 4294967296 (a%b)).length:=λe=>h (hz.1 e);have h'':¬((0:Int)<((can 4294967296 (a%b)).length:Int)):=by omega
 simp only[h,h'',decide_false]
theorem MZ{x y:Zr}(hx:Wl x)(hy:Wl y):gP x y=some (zn (Int.gcd (zi x) (zi y):Int)):=by
 obtain⟨n,w⟩:=x;obtain⟨m,u⟩:=y;unfold gP;have UU:(can 4294967296 (vl w)).length<=35184372088788:=hx.cl;have S4:(can 4294967296 (vl u)).length<=35184372088788:=hy.cl;simp only[];rw[show bh w=some (can 4294967296 (vl w))from hx.trim,show bh u=some (can 4294967296 (vl u))from hy.trim,bT,bT,Int.gcd,yL,yL];show _=some (zn ((Nat.gcd (vl w) (vl u):Nat):Int));generalize vl w=a at*;generalize vl u=b at*;refine lj (λs=>∃c d,s=(can 4294967296 c,can 4294967296 d)/\Nat.gcd c d=Nat.gcd a b/\(can 4294967296 c).length<=35184372088788/\(can 4294967296 d).length<=35184372088788)
  (λs=>∃c d,s=(can 4294967296 c,can 4294967296 d)/\Nat.gcd c d=Nat.gcd a b/\(can 4294967296 c).length<=35184372088788/\(d=0\/(c<18446744073709551616/\d<18446744073709551616))) (λs=>vl s.2) ?_ ⟨a,b,Y,Y,UU,S4⟩ ?_
 ·rintro _ ⟨c,d,rfl,hg,hc,hd⟩;simp only[bT,cW];by_cases h0:d=0
  ·right;subst h0;exact⟨_,Y,c,0,Y,hg,hc,.inl Y⟩
  have rW:(can 4294967296 d).length≠0:=λh=>h0 (lu.1 h);rw[show decide ((0:Int)<((can 4294967296 d).length:Int))=true by simp;omega,gQ];by_cases h2:c<18446744073709551616/\d<18446744073709551616
  ·right;have c1:=ee.2 h2.1;have c2:=ee.2 h2.2;rw[show decide ((2:Int)<((can 4294967296 c).length:Int))=false by simp;omega,iw,show decide ((2:Int)<((can 4294967296 d).length:Int))=false by simp;omega];exact⟨_,Y,c,d,Y,hg,hc,.inr h2⟩
  left;have hm:c%d<d:=Nat.mod_lt _ (by omega);obtain⟨q,r,Zy,UW,UX,Mn,Pk,-,-⟩:=sE c d hc hd h0;have Ei:((bif decide ((2:Int)<((can 4294967296 c).length:Int))then some true else some (decide ((2:Int)<((can 4294967296 d).length:Int)))):Option Bool)=some true:=by
   by_cases za:c<18446744073709551616
   ·have hd2:¬d<18446744073709551616:=λh=>h2 ⟨za,h⟩;have:¬(((can 4294967296 d).length:Int)<=2):=λh=>hd2 (ee.1 h);rw[show decide ((2:Int)<((can 4294967296 d).length:Int))=true by simp;omega];exact vD _ _
   have:¬(((can 4294967296 c).length:Int)<=2):=λh=>za (ee.1 h);rw[show decide ((2:Int)<((can 4294967296 c).length:Int))=true by simp;omega,gQ]
  rw[Ei,bT,bT,gQ,Zy,bT];simp only[];rw[qi r (by have:=Mn.2;omega),jO (by decide) Mn.1,show val 4294967296 r=c%d from Pk,bT];refine⟨_,Y,⟨d,c%d,Y,?_,hd,?_⟩,?_⟩
  ·rw[<-hg,Nat.gcd_comm d,<-Nat.gcd_rec,Nat.gcd_comm]
  ·exact Nat.le_trans ((cL (by decide)).2 (Nat.lt_trans hm (cP (by decide) d))) hd
  simp only[dx];exact hm
 rintro _ ⟨c,d,rfl,hg,hc,Gl⟩;simp only[bT];by_cases h0:d=0
 ·subst h0;rw[show decide (((can 4294967296 0).length:Int)=0)=true by simp[nn],gQ,ql _ (by omega),bT,gu _ _ (eF (by omega)).x,bT,dx,kC,jP,<-hg,Nat.gcd_zero_right]
 have h2:=Gl.resolve_left h0;have rW:(can 4294967296 d).length≠0:=λh=>h0 (lu.1 h);have c1:=ee.2 h2.1;have c2:=ee.2 h2.2;rw[show decide (((can 4294967296 d).length:Int)=0)=false by simp;intro e;rw[e]at rW;exact rW Y,iw,low_eq _ (λ_ hx=>gb (by decide) hx) (by omega),bT,low_eq _ (λ_ hx=>gb (by decide) hx) (by omega),bT,dx,dx];refine lj (λs=>Nat.gcd s.1 s.2=Nat.gcd a b/\s.1<18446744073709551616/\s.2<18446744073709551616) (λe=>e=Nat.gcd a b/\e<18446744073709551616) (λs=>s.2) ?_ ⟨hg,h2.1,h2.2⟩ ?_
 ·rintro⟨s,t⟩ ⟨i1,i2,i3⟩;simp only at i1 i2 i3⊢;by_cases ht:0<t
  ·left;rw[show decide (0<t)=true by simp[ht],gQ,tY (by omega),bT];refine⟨_,Y,⟨?_,i3,?_⟩,Nat.mod_lt _ ht⟩
   ·rw[<-i1,Nat.gcd_comm t,<-Nat.gcd_rec,Nat.gcd_comm]
   exact Nat.lt_trans (Nat.mod_lt _ ht) i3
  right;rw[show decide (0<t)=false by simp[ht],iw];refine⟨_,Y,?_,i2⟩;rw[<-i1,show t=0 by omega,Nat.gcd_zero_right]
 rintro e ⟨rfl,he⟩;rw[lq _ _ he,bT,kC,jP]
end
section
open Go.Fw
def zl(l:List Nat):List Int:=l.map (λ(n:Nat)=>(n:Int))
abbrev v16(l:List Nat):Nat:=val 65536 l
theorem IE{x y:Zr}(h:x.w.length<=9000000000000000000):∃b,dB x y=some b/\(b=true↔x=y):=by
 obtain⟨n,w⟩:=x;obtain⟨m,u⟩:=y;unfold dB;simp only[bT,cW];by_cases hnm:n=m
 ·subst hnm;rw[show(!(n==n))=false by simp,iw,bT];by_cases hl:w.length=u.length
  ·rw[show decide ((w.length:Int)≠(u.length:Int))=false by simp[hl],iw];refine jv (λy=>∃i:Nat,y=(i:Int)/\i<=w.length/\w.take i=u.take i) (λe=>(∃c,e=.inl c/\w=u)\/(e=.inr false/\w≠u)) (λy=>w.length-y.toNat) ?_ ⟨0,Y,by omega,Y⟩ ?_
   ·rintro _ ⟨i,rfl,hi,ht⟩;by_cases hlt:i<w.length
    ·have g1:w[i]? =some w[i]:=by simp
     have g2:u[i]? =some (u[i]'(by omega)):=by simp
     rw[show decide ((i:Int)<(w.length:Int))=true by simp[hlt],gQ,bF g1,bT,bF g2,bT];by_cases he:w[i]=u[i]'(by omega)
     ·left;rw[show decide (w[i]≠u[i]'(by omega))=false by simp[he],iw,cC (by simp at h;omega)];refine⟨_,Y,⟨i+1,Y,hlt,?_⟩,by omega⟩;rw[List.take_add_one,List.take_add_one,ht,g1,g2,he]
     right;rw[show decide (w[i]≠u[i]'(by omega))=true by simp[he],gQ];refine⟨_,Y,.inr ⟨Y,?_⟩⟩;rintro rfl;exact he rfl
    right;rw[show decide ((i:Int)<(w.length:Int))=false by simp;omega,iw];refine⟨_,Y,.inl ⟨_,Y,?_⟩⟩;rw[List.take_of_length_le (by omega),List.take_of_length_le (by omega)]at ht;exact ht
   rintro e (⟨c,rfl,he⟩|⟨rfl,he⟩)
   ·exact⟨true,Y,by simp[he]⟩
   exact⟨false,Y,by simp[he]⟩
  rw[show decide ((w.length:Int)≠(u.length:Int))=true by simp;omega,gQ];refine⟨_,Y,?_⟩;simp only[Bool.false_eq_true,false_iff];intro e;have:w=u:=congrArg Zr.w e;exact hl (by rw[this])
 rw[show(!(n==m))=true by simp[hnm],gQ,bT,gQ];refine⟨_,Y,?_⟩;simp only[Bool.false_eq_true,false_iff];intro e;exact hnm (congrArg Zr.neg e)
theorem xA{x:Zr}(h:x.w.length<=9000000000000000000):dB x x=some true:=by
 obtain⟨b,h1,h2⟩:=IE (y:=x) h;rw[h1,h2.2 rfl]
end
section
open Go.Fw
theorem zeta'(z:Zr):(⟨z.neg,z.w⟩:Zr)=z:=by cases z;rfl
theorem rI{i:Int}(h:dH i):Fit 2 i:=Fit.i64 h.1 h.2
theorem AL{i:Int}(h:dH i):Wl (zn i):=dy (rI h) (by decide)
end
section
open Go.Fw
abbrev OkZ(z:Zr):Prop:=True/\(z.w.length*4<=140737488351232/\∀x∈z.w,x<4294967296)
end
section
open Go.Fw
def qd(q:Qr):Int:=if zi q.den=0 then 1 else zi q.den
def qv(q:Qr):Rat:=Rat.divInt (zi q.num) (qd q)
def qn(r:Rat):Qr:=⟨zn r.num,if r.den=1 then⟨false,[]⟩else zn (r.den:Int)⟩
def FQ(L:Nat)(r:Rat):Prop:=Fit L r.num/\Fit L (r.den:Int)
structure jU (L:Nat) (q:Qr) (r:Rat):Prop where
 n:∀x∈q.num.w,x<4294967296
 d:∀x∈q.den.w,x<4294967296
 ln:q.num.w.length<=L
 ld:q.den.w.length<=L
 l1:1<=L
 v:qv q=r
theorem S6(q:Qr):qd q≠0:=by
 unfold qd;by_cases h:zi q.den=0
 ·rw[if_pos h];decide
 rw[if_neg h];exact h
theorem S7(r:Rat):qv (qn r)=r:=by
 unfold qv qd qn;by_cases h:r.den=1
 ·rw[if_pos h];show Rat.divInt (zi (zn r.num)) (if zi ⟨false,[]⟩=0 then 1 else zi ⟨false,[]⟩)=r;rw[if_pos (show zi ⟨false,[]⟩=0 from rfl),bZ];have:=Rat.num_divInt_den r;rw[h]at this;exact this
 rw[if_neg h];show Rat.divInt (zi (zn r.num)) (if zi (zn (r.den:Int))=0 then 1 else zi (zn (r.den:Int)))=r;have:=r.den_nz;rw[bZ,bZ,if_neg (by omega),Rat.num_divInt_den]
theorem CQ{w:List Nat}{n:Bool}{L:Nat}(h:∀x∈w,x<4294967296)(hl:w.length<=L):Fit L (zi ⟨n,w⟩):=by
 unfold Fit;rw[yL];exact Nat.lt_of_lt_of_le (fB w h) (Nat.pow_le_pow_right (by decide) hl)
theorem qo{L:Nat}(h:1<=L):Fit L 1:=by
 unfold Fit;exact Nat.lt_of_lt_of_le (show(1:Int).natAbs<4294967296^1 by decide) (Nat.pow_le_pow_right (by decide) h)
theorem FQ.rep{L:Nat}{r:Rat}(h:FQ L r)(h1:1<=L):jU L (qn r) r:=by
 refine⟨λx hx=>gb (by decide) hx,?_,(cL (by decide)).2 h.1,?_,h1,S7 r⟩
 ·unfold qn;by_cases e:r.den=1
  ·rw[if_pos e];simp
  rw[if_neg e];exact λx hx=>gb (by decide) hx
 unfold qn;by_cases e:r.den=1
 ·rw[if_pos e];simp
 rw[if_neg e];exact(cL (by decide)).2 h.2
theorem jU.wn{L:Nat}{q:Qr}{r:Rat}(h:jU L q r)(hL:L<=35184372088788):Wl q.num:=⟨h.n,Nat.le_trans h.ln hL⟩
theorem jU.wd{L:Nat}{q:Qr}{r:Rat}(h:jU L q r)(hL:L<=35184372088788):Wl q.den:=⟨h.d,Nat.le_trans h.ld hL⟩
theorem jU.fn{L:Nat}{q:Qr}{r:Rat}(h:jU L q r):Fit L (zi q.num):=CQ (n:=q.num.neg) h.n h.ln
theorem jU.fd{L:Nat}{q:Qr}{r:Rat}(h:jU L q r):Fit L (zi q.den):=CQ (n:=q.den.neg) h.d h.ld
theorem jU.fqd{L:Nat}{q:Qr}{r:Rat}(h:jU L q r):Fit L (qd q):=by
 unfold qd;by_cases e:zi q.den=0
 ·rw[if_pos e];exact qo h.l1
 rw[if_neg e];exact h.fd
theorem jU.mono{L M:Nat}{q:Qr}{r:Rat}(h:jU L q r)(hl:L<=M):jU M q r:=⟨h.n,h.d,Nat.le_trans h.ln hl,Nat.le_trans h.ld hl,Nat.le_trans h.l1 hl,h.v⟩
theorem FQ.mono{L M:Nat}{r:Rat}(h:FQ L r)(hl:L<=M):FQ M r:=⟨h.1.mono hl,h.2.mono hl⟩
theorem rJ{L:Nat}{a d:Int}(h0:d≠0)(ha:Fit L a)(hd:Fit L d):FQ L (Rat.divInt a d):=by
 generalize hr:Rat.divInt a d=r;obtain⟨n',d',z',c⟩:=r;obtain⟨m,hm,h1,h2⟩:=Rat.divInt_num_den h0 hr;have hm':0<m.natAbs:=Int.natAbs_pos.2 hm;refine⟨ha.le ?_,hd.le ?_⟩
 ·rw[h1,Int.natAbs_mul];exact Nat.le_mul_of_pos_right _ hm'
 rw[h2,Int.natAbs_mul];exact Nat.le_mul_of_pos_right _ hm'
theorem jU.fq{L:Nat}{q:Qr}{r:Rat}(h:jU L q r):FQ L r:=by rw[<-h.v];exact rJ (S6 q) h.fn h.fqd
theorem FQ.neg{L:Nat}{x:Rat}(hx:FQ L x):FQ L (-x):=⟨hx.1.neg,hx.2⟩
theorem FQ.int{L:Nat}{i:Int}(h:Fit L i)(h1:1<=L):FQ L (i:Rat):=⟨h,qo h1⟩
theorem FQ.floor{L:Nat}{x:Rat}(hx:FQ L x):Fit L x.floor:=by
 rw[Rat.floor_def];exact hx.1.le (Int.natAbs_ediv_le_natAbs _ _)
def yN(x y:Rat):Int:=if x<y then-1 else if x=y then 0 else 1
theorem DM(x:Rat):yN x x=0:=by unfold yN;rw[if_neg Rat.lt_irrefl,if_pos rfl]
theorem IF{x y:Rat}(h:x<y):yN x y=-1:=if_pos h
theorem IG{x y:Rat}(h:y<x):yN x y=1:=by
 unfold yN;rw[if_neg (λh'=>by grind),if_neg (λh'=>by grind)]
theorem nL{a b c d:Int}(hb:0<b)(hd:0<d):Rat.divInt a b<Rat.divInt c d↔a*d<c*b:=by
 have hb':(0:Rat)<(b:Rat):=Rat.intCast_pos.2 hb;have hd':(0:Rat)<(d:Rat):=Rat.intCast_pos.2 hd;rw[Rat.divInt_eq_div,Rat.divInt_eq_div,Rat.div_lt_iff hb',Rat.div_def,Rat.mul_assoc,Rat.mul_comm (d:Rat)⁻¹,<-Rat.mul_assoc,<-Rat.div_def,Rat.lt_div_iff hd',<-Rat.intCast_mul,<-Rat.intCast_mul,Rat.intCast_lt_intCast]
theorem Gs{a b c d:Int}(hb:0<b)(hd:0<d):yN (Rat.divInt a b) (Rat.divInt c d)=lZ (a*d) (c*b):=by
 unfold yN lZ;have e1:=nL (a:=a) (c:=c) hb hd;have e2:=Rat.divInt_eq_divInt_iff (n₁:=a) (d₁:=b) (n₂:=c) (d₂:=d) (by omega) (by omega);by_cases h1:a*d<c*b
 ·rw[if_pos (e1.2 h1),if_pos h1]
 rw[if_neg (λh=>h1 (e1.1 h)),if_neg h1];by_cases h2:a*d=c*b
 ·rw[if_pos (e2.2 h2),if_pos h2]
 rw[if_neg (λh=>h2 (e2.1 h)),if_neg h2]
theorem xB{a d:Int}(hd:0<d):qn (Rat.divInt a d)=⟨zn (a/(Int.gcd a d:Int)),if d/(Int.gcd a d:Int)=1 then⟨false,[]⟩else zn (d/(Int.gcd a d:Int))⟩:=by
 have h1:(Rat.divInt a d).num=a/(Int.gcd a d:Int):=by rw[Rat.num_divInt,Int.sign_eq_one_of_pos hd,Int.one_mul,Int.gcd_comm]
 have h2:((Rat.divInt a d).den:Int)=d/(Int.gcd a d:Int):=by
  rw[Rat.den_divInt,if_neg (by omega),Int.gcd_comm];have:(d.natAbs:Int)=d:=by omega
  rw[Int.natCast_ediv,this]
 unfold qn;rw[h1,h2];by_cases e:(Rat.divInt a d).den=1
 ·rw[if_pos e,if_pos (by omega)]
 rw[if_neg e,if_neg (by omega)]
theorem II(k:Int):((bif(nq k).2 then some (decide ((nq k).1=1))else some false):Option Bool)=some (decide (k=1)):=by
 by_cases h:dH k
 ·rw[fF h];rfl
 rw[jR h];have:¬k=1:=by rintro rfl;exact h (by decide)
 rw[decide_eq_false this];rfl
theorem vE{n d:Zr}(hn:Wl n)(hd:Wl d)(h:0<zi d):((gP n d).bind λg=>(cc n g).bind λa=>(cc d g).bind λb=>(cD b.1).bind λc=>
  (bif c.2 then some (decide (c.1=1))else some false).bind λe=>bif e then some (⟨a.1,⟨false,[]⟩⟩:Qr)else some ⟨a.1,b.1⟩)=some (qn (Rat.divInt (zi n) (zi d))):=by
 have g0:(Int.gcd (zi n) (zi d):Int)≠0:=by
  have:0<Int.gcd (zi n) (zi d):=Int.gcd_pos_of_ne_zero_right _ (by omega);omega
 have wg:Wl (zn (Int.gcd (zi n) (zi d):Int)):=dy ((Wl.fit hd).le (by
  have:=Nat.le_of_dvd (Int.natAbs_pos.2 (show zi d≠0 by omega)) (Int.gcd_dvd_natAbs_right (zi n) (zi d));simpa using this)) hd.2
 have wq:Wl (zn (zi d/(Int.gcd (zi n) (zi d):Int))):=dy ((Wl.fit hd).le (Int.natAbs_ediv_le_natAbs _ _)) hd.2;rw[MZ hn hd,bT,divMod_eq hn wg,bT,divMod_eq hd wg,bT,bZ,Gr,if_neg g0,Gr,if_neg g0];simp only[];rw[jQ wq,bT,bZ,II,bT,xB h];by_cases e:zi d/(Int.gcd (zi n) (zi d):Int)=1
 ·rw[decide_eq_true e,gQ,if_pos e]
 rw[decide_eq_false e,iw,if_neg e]
theorem reduce_eq{x y:Zr}(hx:Wl x)(hy:Wl y)(h0:zi y≠0):dV x y=some (qn (Rat.divInt (zi x) (zi y))):=by
 unfold dV;simp only[cW,bT,zeta',sign_eq hy];by_cases h:zi y<0
 ·rw[show decide ((zi y).sign<0)=true by rw[Int.sign_eq_neg_one_of_neg h];rfl,gQ,neg_eq hx,bT,neg_eq hy,bT];have hp:=vE (dy (Wl.fit hx).neg hx.2) (dy (Wl.fit hy).neg hy.2) (by rw[bZ];omega);rw[bZ,bZ,Rat.neg_divInt_neg]at hp;exact hp
 rw[show decide ((zi y).sign<0)=false by rw[Int.sign_eq_one_of_pos (by omega)];rfl,iw];exact vE hx hy (by omega)
end
section
open Go.Fw
theorem vF(q:Qr):(⟨⟨q.num.neg,q.num.w⟩,⟨q.den.neg,q.den.w⟩⟩:Qr)=q:=by cases q;rfl
theorem vG(q:Qr):(⟨q.num,q.den⟩:Qr)=q:=by cases q;rfl
theorem parts_eq{L:Nat}{q:Qr}{r:Rat}(h:jU L q r)(hL:L<=35184372088788):∃n d:Zr,cu q=some (n,d)/\Wl n/\Wl d/\0<zi d/\Rat.divInt (zi n) (zi d)=r/\Fit L (zi n)/\Fit L (zi d):=by
 have wn:=h.wn hL;have wd:=h.wd hL;have hv:=h.v;unfold cu;simp only[zeta',bT,sign_eq wd,ef (x:=1) (by decide) (by decide),neg_eq wn,neg_eq wd];unfold qv qd at hv;rcases Int.lt_trichotomy (zi q.den) 0 with h1|h1|h1
 ·refine⟨_,_,?_,dy h.fn.neg hL,dy h.fd.neg hL,by rw[bZ];omega,?_,by rw[bZ];exact h.fn.neg,by rw[bZ];exact h.fd.neg⟩
  ·rw[Int.sign_eq_neg_one_of_neg h1];rfl
  rw[bZ,bZ,Rat.neg_divInt_neg,<-hv,if_neg (by omega)]
 ·refine⟨_,_,?_,wn,dy (qo h.l1) hL,by rw[bZ];decide,?_,h.fn,by rw[bZ];exact qo h.l1⟩
  ·rw[h1];rfl
  rw[bZ,<-hv,if_pos h1]
 refine⟨_,_,?_,wn,wd,h1,?_,h.fn,h.fd⟩
 ·rw[Int.sign_eq_one_of_pos h1];rfl
 rw[<-hv,if_neg (by omega)]
def Sm(a:Int):Prop:=-2147483648<a/\a<2147483648
theorem Sm.ok{a:Int}(h:Sm a):dH a:=by unfold Sm at h;unfold dH;omega
theorem vH{L:Nat}{q:Qr}{r:Rat}(h:jU L q r)(hL:L<=35184372088788):∃a b c,eA q=some (a,b,c)/\(c=true->Sm a/\0<b/\Sm b/\Rat.divInt a b=r):=by
 have wn:=h.wn hL;have wd:=h.wd hL;have hv:=h.v;unfold eA;simp only[zeta',bT,cW,jQ wn,jQ wd];unfold qv qd at hv;generalize zi q.num=n at*;generalize zi q.den=d at*;by_cases hs:Sm n/\Sm d
 ·obtain⟨h1,h2⟩:=hs;rw[fF h1.ok,fF h2.ok];unfold Sm at h1 h2;simp only[];rw[decide_eq_false (show ¬n<=-2147483648 by omega),decide_eq_false (show ¬2147483648<=n by omega),decide_eq_false (show ¬d<=-2147483648 by omega),decide_eq_false (show ¬2147483648<=d by omega)];simp only[Bool.not_true,iw,bT];by_cases h0:d=0
  ·rw[decide_eq_true h0,gQ];refine⟨_,_,_,Y,λ_=>⟨h1,by decide,⟨by decide,by decide⟩,?_⟩⟩;rw[<-hv,if_pos h0]
  rw[decide_eq_false h0,iw];rw[if_neg h0]at hv;by_cases hneg:d<0
  ·rw[decide_eq_true hneg,gQ,ep (by omega) (by omega),ep (by omega) (by omega)];refine⟨_,_,_,Y,λ_=>⟨⟨by omega,by omega⟩,by omega,⟨by omega,by omega⟩,?_⟩⟩;rw[Int.zero_sub,Int.zero_sub,Rat.neg_divInt_neg,hv]
  rw[decide_eq_false hneg,iw];exact⟨_,_,_,Y,λ_=>⟨h1,by omega,h2,hv⟩⟩
 refine⟨0,0,false,?_,λe=>by cases e⟩;by_cases o1:dH n
 ·by_cases o2:dH d
  ·rw[fF o1,fF o2];simp only[Bool.not_true,iw,bT];unfold Sm at hs;by_cases c1:n<=-2147483648
   ·rw[decide_eq_true c1];simp only[bT,gQ]
   rw[decide_eq_false c1];simp only[bT,iw];by_cases c2:2147483648<=n
   ·rw[decide_eq_true c2];simp only[bT,gQ]
   rw[decide_eq_false c2];simp only[bT,iw];by_cases c3:d<=-2147483648
   ·rw[decide_eq_true c3];simp only[bT,gQ]
   rw[decide_eq_false c3];simp only[bT,iw];rw[decide_eq_true (show 2147483648<=d by omega)];simp only[gQ]
  rw[fF o1,jR o2];simp only[Bool.not_true,Bool.not_false,iw,bT,gQ]
 rw[jR o1];simp only[Bool.not_false,bT,gQ]
theorem AM{a g:Int}(hg:0<g)(h:g∣a):Int.tdiv a g=a/g:=by
 obtain⟨k,rfl⟩:=h;rw[Int.mul_tdiv_cancel_left _ (by omega),Int.mul_ediv_cancel_left _ (by omega)]
theorem AN{n d:Int}(hd:0<d)(hd':d<=9223372036854775807)(hn: -9223372036854775807<=n)(hn':n<=9223372036854775807):ga n d=some (qn (Rat.divInt n d)):=by
 unfold ga;simp only[bT,cW];refine lj (λs=>Int.gcd s.1 s.2=Int.gcd n d/\s.1.natAbs<=9223372036854775807/\s.2.natAbs<=9223372036854775807) (λe=>e.natAbs=Int.gcd n d/\e.natAbs<=9223372036854775807) (λs=>s.2.natAbs) ?_ ⟨Y,by simp only[];omega,by simp only[];omega⟩ ?_
 ·rintro⟨a,b⟩ ⟨i1,i2,i3⟩;simp only at i1 i2 i3⊢;by_cases hb:b=0
  ·right;subst hb;refine⟨a,by simp,?_,i2⟩;rw[<-i1];simp[Int.gcd]
  left;rw[decide_eq_true hb,gQ,C8,if_neg hb,bT];have hm:(Int.tmod a b).natAbs=a.natAbs%b.natAbs:=Int.natAbs_tmod a b;have hlt:=Nat.mod_lt a.natAbs (Int.natAbs_pos.2 hb);refine⟨_,Y,⟨?_,i3,by simp only[];omega⟩,by simp only[];omega⟩;simp only[];rw[<-i1,Int.gcd,Int.gcd,hm,Nat.gcd_comm b.natAbs,<-Nat.gcd_rec,Nat.gcd_comm]
 rintro e ⟨he,hle⟩;obtain⟨g,hg⟩:∃g:Int,(Int.gcd n d:Int)=g:=⟨_,Y⟩;have UQ:0<g:=by have:=Int.gcd_pos_of_ne_zero_right n (show d≠0 by omega);omega
 have hgn:g∣n:=hg▸Int.gcd_dvd_left ..;have hgd:g∣d:=hg▸Int.gcd_dvd_right ..;have hK:∀m:Int,m=g->(bif decide (m=d)then(pB n m).bind λeK=>(bp eK).bind λx=>some (⟨⟨x.neg,x.w⟩,⟨false,[]⟩⟩:Qr)else(pB n m).bind λgz=>(bp gz).bind λx=>(pB d m).bind λn6=>(bp n6).bind λy=>some ⟨⟨x.neg,x.w⟩,⟨y.neg,y.w⟩⟩)=some (qn (Rat.divInt n d)):=by
  rintro m rfl;have b1:(n/m).natAbs<=n.natAbs:=Int.natAbs_ediv_le_natAbs _ _;have b2:(d/m).natAbs<=d.natAbs:=Int.natAbs_ediv_le_natAbs _ _;have q1:pB n m=some (n/m):=by
   rw[pB,if_neg (by omega),AM UQ hgn,ep (by omega) (by omega)]
  have q2:pB d m=some (d/m):=by
   rw[pB,if_neg (by omega),AM UQ hgd,ep (by omega) (by omega)]
  rw[xB hd,hg,q1,q2];simp only[bT,ef (x:=n/m) (by omega) (by omega),ef (x:=d/m) (by omega) (by omega),zeta'];by_cases e1:m=d
  ·rw[decide_eq_true e1,gQ,if_pos (by rw[e1];exact Int.ediv_self (by omega))]
  rw[decide_eq_false e1,iw,if_neg];intro e2;have:=Int.ediv_mul_cancel hgd;rw[e2]at this;omega
 by_cases hneg:e<0
 ·rw[decide_eq_true hneg,gQ,ep (by omega) (by omega)];exact hK _ (by omega)
 rw[decide_eq_false hneg,iw];exact hK _ (by omega)
theorem rK{a b:Int}(ha:Sm a)(hb:Sm b): -4611686018427387904<a*b/\a*b<4611686018427387904:=by
 unfold Sm at ha hb;have h1:(a*b).natAbs=a.natAbs*b.natAbs:=Int.natAbs_mul a b;have h2:a.natAbs*b.natAbs<=2147483647*2147483647:=Nat.mul_le_mul (by omega) (by omega);omega
theorem IJ{a b:Int}(ha:0<a)(hb:0<b):0<a*b:=Int.mul_pos ha hb
section ops
variable {L M:Nat}{a b:Qr}{x y:Rat}
theorem DN(i:Int):cu ⟨zn i,⟨false,[]⟩⟩=some (zn i,zn 1):=by
 unfold cu;simp only[zeta',bT,sign_eq (z:=⟨false,[]⟩) ⟨by simp,by simp⟩,ef (x:=1) (by decide) (by decide)];rfl
theorem DO{i:Int}{L:Nat}(h:Fit L i)(h1:1<=L)(hL:L<=35184372088788):∃a b c,eA ⟨zn i,⟨false,[]⟩⟩=some (a,b,c)/\(c=true->Sm a/\0<b/\Sm b/\Rat.divInt a b=Rat.divInt i 1):=
 vH (L:=L) ⟨λ_ hx=>gb (by decide) hx,by simp,(cL (by decide)).2 h,by simp,h1,by
  unfold qv qd;rw[if_pos (show zi ⟨false,[]⟩=0 from rfl)];show Rat.divInt (zi (zn i)) 1=_;rw[bZ]⟩ hL
theorem jU.Zz{i:Int}(ha:jU L a x)(hi:Fit (L+1) i)(h:L+1<=35184372088788)(h1:x-Rat.divInt i 1<=1)(h2: -1<=x-Rat.divInt i 1):iF a ⟨zn i,⟨false,[]⟩⟩=some (qn (x-Rat.divInt i 1))/\jU L (qn (x-Rat.divInt i 1)) (x-Rat.divInt i 1):=by
 have l1:=ha.l1;obtain⟨n1,d1,c1,e1,k1⟩:=vH ha (by omega);obtain⟨n2,d2,c2,e2,k2⟩:=DO hi (by omega) (by omega);obtain⟨p1,q1,f1,w1,w2,g1,v1,t1,t2⟩:=parts_eq ha (by omega);have f2:=DN i;have e:x-Rat.divInt i 1=Rat.divInt (zi p1-i*zi q1) (zi q1):=by
  rw[<-v1,Rat.divInt_sub_divInt _ _ (by omega) (by decide),Int.mul_one,Int.mul_one]
 have b1:zi p1-i*zi q1<=zi q1:=by
  rw[e,show(1:Rat)=Rat.divInt 1 1 from rfl]at h1;rcases Int.lt_or_le (zi q1) (zi p1-i*zi q1)with k|k
  ·exact absurd ((nL (a:=1) (b:=1) (by decide) g1).2 (by omega)) (Rat.not_lt.2 h1)
  exact k
 have b2: -zi q1<=zi p1-i*zi q1:=by
  rw[e,show(-1:Rat)=Rat.divInt (-1) 1 from rfl]at h2;rcases Int.lt_or_le (zi p1-i*zi q1) (-zi q1)with k|k
  ·exact absurd ((nL (c:=-1) (d:=1) g1 (by decide)).2 (by omega)) (Rat.not_lt.2 h2)
  exact k
 have t5:Fit L (zi p1-i*zi q1):=t2.le (by omega);have t6:Fit (L+1) (i*zi q1):=by
  have:i*zi q1=zi p1-(zi p1-i*zi q1):=by omega
  rw[this];exact t1.sub t5
 refine⟨?_,by rw[e];exact(rJ (by omega) t5 t2).rep l1⟩;have S8:fX a ⟨zn i,⟨false,[]⟩⟩=some (qn (x-Rat.divInt i 1)):=by
  unfold fX eL;have w3:=dy hi (by omega);have w4:=dy (qo (L:=1) (by decide)) (by omega);have u1:=dy t1 (by omega);have u2:=dy t6 (by omega);have u3:=dy t2 (by omega);have u4:=dy t5 (by omega);simp only[zeta',vF,vG,f1,f2,bT,mul_eq w1 w4,mul_eq w3 w2,mul_eq w2 w4,bZ,Int.mul_one,sub_eq u1 u2];rw[reduce_eq u4 u3 (by rw[bZ];omega),bT,bZ,bZ,e]
 unfold iF;simp only[zeta',vF,vG,e1,e2,bT,cW,S8];cases c1
 ·rw[iw,bT,iw]
 cases c2
 ·rw[gQ,bT,iw]
 obtain⟨s1,s2,s3,s4⟩:=k1 Y;obtain⟨s5,s6,s7,s8⟩:=k2 Y;have m1:=rK s1 s7;have m2:=rK s5 s3;have m3:=rK s3 s7;have m4:=IJ s2 s6;rw[gQ,bT,gQ,ep (x:=n1*d2) (by omega) (by omega),ep (x:=n2*d1) (by omega) (by omega),ep (x:=d1*d2) (by omega) (by omega),ep (by omega) (by omega),AN m4 (by omega) (by omega) (by omega),bT,<-s4,<-s8,Rat.divInt_sub_divInt _ _ (by omega) (by omega)]
theorem jU.canon(ha:jU L a x)(h:L<=35184372088788):iE a=some (qn x)/\jU L (qn x) x:=by
 refine⟨?_,ha.fq.rep ha.l1⟩;obtain⟨n1,d1,c1,e1,k1⟩:=vH ha (by omega);obtain⟨p1,q1,f1,w1,w2,g1,v1,t1,t2⟩:=parts_eq ha (by omega);unfold iE;simp only[zeta',vF,vG,e1,bT,f1];cases c1
 ·rw[iw,reduce_eq w1 w2 (by omega),bT,v1]
 obtain⟨s1,s2,s3,s4⟩:=k1 Y;unfold Sm at s1 s3;rw[gQ,AN s2 (by omega) (by omega) (by omega),bT,s4]
end ops
end
section
open Go.Fw
theorem yO{p q:Int}(hq:0<q):(Rat.divInt p q).floor=p/q:=by
 have key:∀k:Int,k<=(Rat.divInt p q).floor↔k<=p/q:=by
  intro k;rw[Rat.le_floor_iff,<-Rat.not_lt,show(k:Rat)=Rat.divInt k 1 by rw[Rat.divInt_eq_div];show _=(k:Rat)/1;grind,nL hq (by decide),Int.mul_one,Int.not_lt,Int.le_ediv_iff_mul_le hq]
 exact Int.le_antisymm ((key _).1 (Int.le_refl _)) ((key _).2 (Int.le_refl _))
theorem xC{p q u v:Int}(hq:0<q)(hv:0<v)(h:p.sign≠u.sign\/p.sign=0):kx (IntKind.i64.wrap (p.sign-u.sign))=some (lZ (p*v) (u*q)):=by
 have pv:0<p->0<p*v:=λh=>Int.mul_pos h hv;have pv':p<0->p*v<0:=λh=>Int.mul_neg_of_neg_of_pos h hv;have uq:0<u->0<u*q:=λh=>Int.mul_pos h hq;have uq':u<0->u*q<0:=λh=>Int.mul_neg_of_neg_of_pos h hq;rcases Int.lt_trichotomy p 0 with e1|e1|e1<;>rcases Int.lt_trichotomy u 0 with e2|e2|e2
 ·rw[Int.sign_eq_neg_one_of_neg e1,Int.sign_eq_neg_one_of_neg e2]at h;simp at h
 ·have:=pv' e1;rw[Int.sign_eq_neg_one_of_neg e1,e2,Int.zero_mul,jw this];rfl
 ·have:=pv' e1;have:=uq e2;rw[Int.sign_eq_neg_one_of_neg e1,Int.sign_eq_one_of_pos e2,jw (by omega)];rfl
 ·have:=uq' e2;rw[Int.sign_eq_neg_one_of_neg e2,e1,Int.zero_mul,jx this];rfl
 ·rw[e1,e2,Int.zero_mul,Int.zero_mul];rfl
 ·have:=uq e2;rw[Int.sign_eq_one_of_pos e2,e1,Int.zero_mul,jw this];rfl
 ·have:=pv e1;have:=uq' e2;rw[Int.sign_eq_one_of_pos e1,Int.sign_eq_neg_one_of_neg e2,jx (by omega)];rfl
 ·have:=pv e1;rw[Int.sign_eq_one_of_pos e1,e2,Int.zero_mul,jx this];rfl
 rw[Int.sign_eq_one_of_pos e1,Int.sign_eq_one_of_pos e2]at h;simp at h
theorem Gt(i:Int):qn (i:Rat)=⟨zn i,⟨false,[]⟩⟩:=by
 unfold qn;rw[Rat.den_intCast,if_pos Y,Rat.num_intCast]
section ops
variable {L M:Nat}{a b:Qr}{x y:Rat}
theorem jU.neg(ha:jU L a x)(h:L<=35184372088788):va a=some (qn (-x))/\jU L (qn (-x)) (-x):=by
 refine⟨?_,ha.fq.neg.rep ha.l1⟩;unfold va;have r:=(ha.canon h).2;simp only[zeta',vF,vG,(ha.canon h).1,bT,neg_eq (r.wn h)];show some (⟨zn (-zi (zn x.num)),_⟩:Qr)=some (qn (-x));rw[bZ];rfl
theorem jU.ZA(ha:jU L a x)(hb:jU M b y)(hL:L<=35184372088788)(hM:M<=35184372088788):iG a b=some (yN x y):=by
 obtain⟨p1,q1,f1,w1,w2,g1,v1,t1,t2⟩:=parts_eq ha (by omega);obtain⟨p2,q2,f2,w3,w4,g2,v2,t3,t4⟩:=parts_eq hb (by omega);unfold iG;have u1:=KG (t1.mul t4) (by omega);have u2:=KG (t3.mul t2) (by omega);simp only[zeta',vF,vG,f1,f2,bT,cW,sign_eq w1,sign_eq w3,mul_eq w1 w4,mul_eq w3 w2,S3 u1 u2,bZ];rw[<-v1,<-v2,Gs g1 g2];by_cases e1:(zi p1).sign=(zi p2).sign
 ·rw[show decide ((zi p1).sign≠(zi p2).sign)=false by simp[e1],iw,bT];by_cases e2:(zi p1).sign=0
  ·rw[decide_eq_true e2,gQ,xC g1 g2 (.inr e2),bT]
  rw[decide_eq_false e2,iw]
 rw[show decide ((zi p1).sign≠(zi p2).sign)=true by simp[e1],gQ,bT,gQ,xC g1 g2 (.inl e1),bT]
theorem jU.cmp(ha:jU L a x)(hb:jU M b y)(h:L+M<=35184372088768):iG a b=some (yN x y):=ha.ZA hb (by omega) (by omega)
theorem jU.floor(ha:jU L a x)(h:L<=35184372088788):hH a=some (zn x.floor):=by
 obtain⟨p1,q1,f1,w1,w2,g1,v1,t1,t2⟩:=parts_eq ha h;unfold hH;simp only[zeta',vF,vG,f1,bT,divMod_eq w1 w2];rw[Gr,if_neg (by omega),<-v1,yO g1]
theorem new_eq{n d:Int}(hn:dH n)(hd:dH d)(h0:d≠0):gI n d=some (qn (Rat.divInt n d),0)/\jU 2 (qn (Rat.divInt n d)) (Rat.divInt n d):=by
 refine⟨?_,(rJ h0 (rI hn) (rI hd)).rep (by decide)⟩;unfold gI;simp only[zeta',vF,vG,bT,ef hn.1 hn.2,ef hd.1 hd.2];rw[decide_eq_false h0,iw,reduce_eq (AL hn) (AL hd) (by rw[bZ];exact h0),bT,bZ,bZ]
theorem CR:zi ⟨false,[]⟩=0:=rfl
theorem CS:Wl ⟨false,[]⟩:=⟨by simp,by simp⟩
theorem vI{z:Zr}(hz:Wl z):cO z=some (qn (zi z:Rat)):=by
 unfold cO iN;simp only[zeta',bT,add_eq hz CS,CR,Int.add_zero];rw[Gt]
end ops
end
section
open Go.Fw
theorem tm{a:Nat}:Int.tmod (a:Int) 65536=((a%65536:Nat):Int):=by
 rw[Int.tmod_eq_emod_of_nonneg (by omega)];omega
end
section
open Go.Fw
abbrev ZB(q:Qr):Prop:=OkZ q.num/\OkZ q.den
theorem M1{q:Qr}{L:Nat}(h:ZB q)(h1:q.num.w.length<=L)(h2:q.den.w.length<=L)(hL:1<=L):jU L q (qv q):=⟨h.1.2.2,h.2.2.2,h1,h2,hL,Y⟩
end
section
open Go.Fw
theorem ZC(x y:Rat):x<y\/x=y\/y<x:=by grind
theorem sX{i:Int}{L:Nat}(h:Fit L i)(h1:1<=L)(hL:L<=35184372088788):cO (zn i)=some (qn (i:Rat))/\jU L (qn (i:Rat)) (i:Rat):=by
 refine⟨?_,(FQ.int h h1).rep h1⟩;rw[vI (dy h hL),bZ]
end
section
open Go.Fw
theorem eN{J R:Type}{f:J->Option R}{g:(J->Option R)->Option R}{r:Option R}(h:g f=r):cW f g=r:=h
theorem dT{p:Prop}[Decidable p](h:p):(some (decide p):Option Bool)=some true:=congrArg some (decide_eq_true h)
theorem dF{p:Prop}[Decidable p](h:¬p):(some (decide p):Option Bool)=some false:=congrArg some (decide_eq_false h)
theorem nu{β:Type}{x:Option Bool}{f:Bool->Option β}{r:Option β}{y:Option Bool}(h:x=some true)(hf:f true=r):(bif true then x else y).bind f=r:=by rw[gQ,h];exact hf
theorem orC{β:Type}{b c:Bool}{x:Option Bool}{f:Bool->Option β}{r:Option β}(h:b=false->x=some c)(hf:f (b||c)=r):(bif b then some true else x).bind f=r:=by
 cases b
 ·rw[iw,h rfl];exact hf
 rw[gQ];exact hf
section ops
variable {K L M:Nat}{a b c:Qr}{x y z:Rat}
end ops
theorem ZD{q:Qr}(h:ZB q):jU 35184372087808 q (qv q):=M1 h (by have:=h.1.2.1;omega) (by have:=h.2.2.1;omega) (by decide)
theorem M3(l:List (List Qr))(hl:l.length<=9223372036854775807):∃b,eC l=some b/\(b=false->∀v∈l,v.length<=40):=by
 unfold eC;refine jv (λs=>∃(i:Nat) (n:Int),s=(n,(i:Int))/\i<=l.length/\∀v∈l.take i,v.length<=40) (λe=>(e=.inl ()/\∀v∈l,v.length<=40)\/e=.inr true) (λs=>l.length-s.2.toNat) ?_ ⟨0,0,Y,by omega,by simp⟩ ?_
 ·rintro _ ⟨i,n,rfl,hi,ht⟩;by_cases hlt:i<l.length
  ·have g:=List.getElem?_eq_getElem hlt;by_cases h1:40<l[i].length
   ·exact .inr ⟨.inr true,aA Y<|aA (dT (by omega))<|dO Y<|aA (bF g)<|aA Y<|aA (dT (by omega))<|dO Y Y,.inr Y⟩
   obtain⟨e,he,-⟩:=qP (body:=λ(s:Int×Int)=>match s with|⟨y3,y5⟩=>(show Option ((Int×Int)⊕Int)from(c7 l (i:Int)).bind λiU=>(some (iU.length:Int)).bind λjd=>(some (decide ((y5:Int)<jd))).bind λeK=>(bif eK then(some (IntKind.i64.wrap (y3+1))).bind λlB=>(c7 l (i:Int)).bind λnN=>(c7 nN y5).bind λ⟨⟨w9,sg⟩,⟨JO,JP⟩⟩=>(some (sg.length:Int)).bind λtw=>(some (min (100:Int) tw)).bind λqz=>(some (IntKind.i64.wrap (lB+qz))).bind λnF=>(c7 l (i:Int)).bind λyS=>(c7 yS y5).bind λ⟨⟨Am,An⟩,⟨JQ,Ct⟩⟩=>(some (Ct.length:Int)).bind λtC=>(some (min (100:Int) tC)).bind λGF=>(some (IntKind.i64.wrap (nF+GF))).bind λwc=>(some (IntKind.i64.wrap (y5+1))).bind λja=>some (.inl (wc,ja))else some (.inr y3))))
    (s:=(n,0)) (λs=>∃(k:Nat) (m:Int),s=(m,(k:Int))/\k<=l[i].length) (λ_=>True) (λs=>l[i].length-s.2.toNat) (by
     rintro _ ⟨k,m,rfl,hk⟩;by_cases hk2:k<l[i].length
     ·have gk:=List.getElem?_eq_getElem hk2;generalize l[i][k]=q at gk;refine .inl ⟨(_,((k+1:Nat):Int)),aA (bF g)<|aA Y<|aA (dT (by omega))<|dO Y<|aA Y<|aA (bF g)<|aA (bF gk)<|aA Y<|aA Y<|aA Y<|aA (bF g)<|aA (bF gk)<|aA Y<|aA Y<|aA Y<|aA (congrArg some (cC (by omega))) Y,⟨k+1,_,Y,hk2⟩,by simp only[Int.toNat_natCast];omega⟩
     exact .inr ⟨m,aA (bF g)<|aA Y<|aA (dF (by omega))<|cE Y Y,aq⟩) ⟨0,n,Y,by omega⟩
   by_cases h2:400<e
   ·exact .inr ⟨.inr true,aA Y<|aA (dT (by omega))<|dO Y<|aA (bF g)<|aA Y<|aA (dF (by omega))<|cE Y<|aA he<|aA (dT h2)<|dO Y Y,.inr Y⟩
   refine .inl ⟨(e,((i+1:Nat):Int)),aA Y<|aA (dT (by omega))<|dO Y<|aA (bF g)<|aA Y<|aA (dF (by omega))<|cE Y<|aA he<|aA (dF h2)<|cE Y<|aA (congrArg some (cC (by omega))) Y,⟨i+1,e,Y,hlt,?_⟩,by simp only[Int.toNat_natCast];omega⟩;rw[List.take_add_one,g];intro u hu;rcases List.mem_append.1 hu with h|h
   ·exact ht u h
   simp at h;rw[h];omega
  refine .inr ⟨.inl (),aA Y<|aA (dF (by omega))<|cE Y Y,.inl ⟨Y,?_⟩⟩;rw[List.take_of_length_le (by omega)]at ht;exact ht
 rintro e (⟨rfl,he⟩|rfl)
 ·exact⟨false,Y,λ_=>he⟩
 exact⟨true,rfl,λh=>by cases h⟩
end
end Go.Proofs.Ytmiflmkdaeianaa
