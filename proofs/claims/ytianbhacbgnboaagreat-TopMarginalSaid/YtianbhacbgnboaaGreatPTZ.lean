/- The law TopMarginal answers true for every input. -/
import Derived.Test.YtianbhacbgnboaaGreatPTZ5
set_option linter.unusedVariables false
set_option linter.unusedSimpArgs false
set_option linter.unusedSectionVars false
namespace Go.Proofs.YtianbhacbgnboaaGreat
section
open Go.Fw
section walk
variable {α S E β γ:Type}
theorem bg.emit{x:α}{m:Option (List α×β)}{Q:List α×β->Prop}(h:bg m λq=>Q (x::q.1,q.2)):bg (Dt x m) Q:=by
 obtain⟨q,b,a⟩:=h;exact⟨_,by rw[b];rfl,a⟩
theorem bg.pN{m:Option (List α×β)}{f:β->Option (List α×γ)}{Q:List α×γ->Prop}{P:List α×β->Prop}(h:bg m P)(k:∀p,P p->bg (f p.2) λq=>Q (p.1++q.1,q.2)):bg (pN m f) Q:=by
 obtain⟨p,d,b⟩:=h;obtain⟨q,c,a⟩:=k p b;exact⟨_,by rw[d];show Option.map _ (f p.2)=_;rw[c];rfl,a⟩
abbrev NxW(c:S->Int)(n:Nat)(I:Nat->List α->S->Prop)(Q:List α×E->Prop)(i:Nat)(o:List α):List α×(S⊕E)->Prop
 |(o',.inl s')=>i<n/\c s'=((i+1:Nat):Int)/\I (i+1) (o++o') s'
 |(o',.inr e)=>Q (o++o',e)
theorem bg.V1{body:S->Option (List α×(S⊕E))}{s:S}{Q:List α×E->Prop}(c:S->Int)(n:Nat)(I:Nat->List α->S->Prop)(D:c s=0)(h:I 0 [] s)(k:∀i o s,i<=n->c s=(i:Nat)->I i o s->bg (body s) (NxW c n I Q i o)):bg (AU body s) Q:=by
 refine bg.cnt (λp:List α×S=>c p.2) n (λi p=>I i p.1 p.2) D h ?_;rintro i ⟨o,s⟩ j f g;obtain⟨⟨d,y⟩,a,b⟩:=k i o s j f g;cases y with
 |inl s'=>exact⟨.inl (o++d,s'),by show Option.map _ (body s)=_;rw[a];rfl,b⟩
 |inr e=>exact⟨.inr (o++d,e),by show Option.map _ (body s)=_;rw[a];rfl,b⟩
theorem MC{m:Option (List α×Unit)}{l:List α}(h:bg m λq=>q.1=l):M8 m=some l:=by
 obtain⟨q,a,rfl⟩:=h;rw[a];rfl
end walk
def lnC(B:Int)(l:Ln):Nat->Bool
 |0=>decide (0<=l.a)&&decide (l.a<B)
 |1=>decide (0<=l.b)&&decide (l.b<B)
 |2=>decide (l.a≠l.b)
 |3=>decide (1<=l.x)&&decide (l.x<=1000)
 |_=>decide (0<=l.cap)&&decide (l.cap<=1000000)
theorem agV{a b:Prop}[Decidable a][Decidable b]:(Option.bind (bif decide a then Option.bind (some (decide b)) λx=>some x else some false) λc=>some c)=some (decide a&&decide b):=by
 by_cases h:a<;>by_cases d:b<;>simp[h,d]
theorem agW{B:Int}{ls:List Ln}{l:Ln}{k:Nat}(D:k<5):∃f,[(⟨243⟩:Ck),⟨245⟩,⟨246⟩,⟨247⟩,⟨248⟩][k]? =some ⟨f⟩/\tu f ⟨B,ls⟩ l=some (lnC B l k):=by
 obtain⟨a,b,x,c⟩:=l
 match k,D with
 |0,_=>exact⟨_,Y,(X0 _).trans agV⟩
 |1,_=>exact⟨_,Y,(X0 _).trans agV⟩
 |2,_=>exact⟨_,Y,Y⟩
 |3,_=>exact⟨_,Y,agV⟩
 |4,_=>exact⟨_,Y,agV⟩
structure GA (n:Nt) (B:Nat):Prop where
 b:n.dA=B
 b1:1<=B/\B<=6
 l:n.lines.length<=10
 ln:∀l∈n.lines,∀k,k<5->lnC n.dA l k=true
theorem YW(n:Nt)(hl:n.lines.length<=1000):bg (oQ n) λe=>e=0->∃B,GA n B:=by
 obtain⟨B,ls⟩:=n;dsimp only at hl;unfold oQ;refine bg.bU (λb=>b=false->1<=B/\B<=6) (λK d=>?_) λb c=>?_
 ·refine bg.eq rfl<|bg.bind (P:=λb=>b=false->1<=B/\B<=6) (bg.bif (λ_=>.ret λh=>by cases h) (λw=>bg.eq rfl<|.ret λa=>?_)) d;have:=of_decide_eq_false w;have:=of_decide_eq_false a;omega
 refine bg.bif (λ_=>.ret (λh=>by cases h)) (λw=>bg.eq rfl<|bg.eq rfl<|bg.bif (λ_=>.ret (λh=>by cases h)) (λa=>bg.eq rfl<|bg.eq rfl ?_));have a:=of_decide_eq_false a;refine bg.bind (P:=λe=>e=0->∃a,GA ⟨B,ls⟩ a) ?_ λe a=>.ret a;refine bg.cnt id ls.length (λi _=>∀l∈ls.take i,∀k,k<5->lnC B l k=true) Y η ?_;rintro i _ a rfl a;refine bg.eq Y<|bg.bif (λq=>?_) (λq=>.inr λ_=>⟨B.toNat,by have:=c w;dsimp only;omega,by have:=c w;omega,by dsimp only;omega,?_⟩)
 ·have q:i<ls.length:=by simpa using q
  refine bg.eq (bu (List.getElem?_eq_getElem q))<|bg.eq Y<|bg.bind (P:=λy=>y=.inr (.inr 1)\/(∃u,y=.inl u)/\∀k,k<5->lnC B ls[i] k=true) ?_ ?_
  ·refine bg.cnt id 5 (λj _=>∀k,k<j->lnC B ls[i] k=true) Y (λk c=>by omega) ?_;rintro j _ hj rfl d;refine bg.eq Y<|bg.bif (λz=>?_) (λz=>.inr (.inr ⟨⟨_,Y⟩,λk c=>d k (by have:=of_decide_eq_false z;simp at this;omega)⟩));have z:j<5:=by have:=of_decide_eq_true z;simp at this;omega
   obtain⟨f,m,g⟩:=agW (B:=B) (ls:=ls) (l:=ls[i]) z;refine bg.eq (bu m)<|bg.eq g<|bg.eq Y<|bg.bif (λ_=>.inr (.inl Y)) (λu=>bg.eq Y<|.inl z (bC ω) λk c=>?_);by_cases e:k=j
   ·rw[e];simpa using u
   exact d k ω
  rintro y (rfl|⟨⟨u,rfl⟩,c⟩)
  ·exact .inr λh=>by cases h
  refine bg.eq Y<|.inl q (bC ω) λl hl=>?_;rw[List.take_succ_eq_append_getElem q,List.mem_append,List.mem_singleton]at hl;rcases hl with h|rfl
  ·exact a l h
  exact c
 have:i=ls.length:=by have:=of_decide_eq_false q;omega
 rw[this,List.take_length]at a;exact a
structure NQ (ls:List Ln) (out:List Int):Prop where
 r:∀k∈out,0<=k/\k<ls.length
 s:∀i a b,out[i]? =some a->out[i+1]? =some b->a<b
theorem MD(n:Nt)(out:List Int)(hl:n.lines.length<=1000)(D:out.length<=1000):bg (mM n out) λe=>e=0->(∃B,GA n B)/\NQ n.lines out:=by
 have d:=YW n hl;obtain⟨B,ls⟩:=n;dsimp only at hl d⊢;unfold mM;refine bg.bind d λe r=>bg.eq Y<|bg.bif (λq=>.ret λz=>absurd z (of_decide_eq_true q)) (λq=>bg.eq Y<|bg.bind (P:=λy=>y=.inr 1\/(∃u,y=.inl u)/\NQ ls out) ?_ ?_)
 ·refine bg.cnt id out.length (λi _=>(∀k∈out.take i,0<=k/\k<ls.length)/\∀j a b,j+1<i->out[j]? =some a->out[j+1]? =some b->a<b) Y ⟨by simp,λj a b h=>by omega⟩ ?_;rintro i _ f rfl ⟨m,p⟩;refine bg.eq Y<|bg.bif (λq=>?_) (λq=>.inr (.inr ⟨⟨_,Y⟩,?_⟩))
  ·have q:i<out.length:=by simpa using q
   have g:=List.getElem?_eq_getElem q;generalize out[i]=k at g;refine bg.eq (bu g)<|bg.bU (λb=>b=false->(0<=k/\k<ls.length)/\∀j a,j+1=i->out[j]? =some a->a<k) (λK s=>?_) λb f=>?_
   ·refine bg.eq rfl<|bg.bind (P:=λb=>b=false->0<=k/\k<ls.length) (bg.bif (λ_=>.ret λh=>by cases h) λw=>bg.eq rfl<|bg.eq rfl<|.ret λl=>?_) λb f=>?_
    ·have:=of_decide_eq_false w;have:=of_decide_eq_false l;omega
    refine bg.bind (P:=λb=>b=false->(0<=k/\k<ls.length)/\∀j a,j+1=i->out[j]? =some a->a<k) (bg.bif (λ_=>.ret λh=>by cases h) λw=>bg.eq rfl<|bg.bind (P:=λb=>b=false->∀j a,j+1=i->out[j]? =some a->a<k) (bg.bif (λl=>?_) λl=>.ret λ_ j a hj=>by have:=of_decide_eq_false l;omega) λc d=>.ret λo=>⟨f w,d o⟩) s;have l:0<i:=by have:=of_decide_eq_true l;omega
    refine bg.eq (congrArg some (show IntKind.i64.wrap ((i:Int)-1)=((i-1:Nat):Int) by rw[cV ω ω];omega))<|bg.eq (bu (List.getElem?_eq_getElem ω))<|bg.eq Y<|.ret λo j a hj d=>?_;obtain rfl:j=i-1:=by omega
    rw[List.getElem?_eq_getElem ω]at d;have:=of_decide_eq_false o;rw[aob d]at this;omega
   refine bg.bif (λ_=>.inr (.inl Y)) λw=>bg.eq Y<|.inl q (bC ω) ⟨λx o=>?_,λj a b hj d l=>?_⟩
   ·rw[List.take_add_one,g,List.mem_append]at o;rcases o with h|h
    ·exact m x h
    obtain rfl:x=k:=by simpa using h
    exact(f w).1
   by_cases e:j+1=i
   ·rw[e,g]at l;rw[<-aob l];exact(f w).2 j a e d
   exact p j a b ω d l
  have e:i=out.length:=by have:=of_decide_eq_false q;omega
  rw[e,List.take_length]at m;exact⟨m,λj a b d f=>p j a b (by rw[e];exact(List.getElem?_eq_some_iff.1 f).1) d f⟩
 rintro y (rfl|⟨⟨u,rfl⟩,d⟩)
 ·exact .ret λh=>by cases h
 exact .ret λ_=>⟨r (by simpa using q),d⟩
def rG(out:List Int)(k:Nat):List Nat:=(List.range k).filter λj=>decide ((j:Int)∉out)
theorem zG(out:List Int)(k:Nat):rG out (k+1)=rG out k++if(k:Int)∈out then[]else[k]:=by
 unfold rG;rw[List.range_succ,List.filter_append];by_cases h:(k:Int)∈out<;>simp[h]
theorem Io{ls:List Ln}{out:List Int}(h:NQ ls out){i:Nat}{a:Int}(D:out[i]? =some a):∀(d:Nat) (b:Int),out[i+d+1]? =some b->a<b
 |0,b,c=>h.s i a b D c
 |d+1,b,c=>by
  have hl:=(List.getElem?_eq_some_iff.1 c).1;have e:=List.getElem?_eq_getElem (l:=out) (i:=i+d+1) ω;have:=Io h D d _ e;have:=h.s _ _ _ e c;omega
theorem ins_eq{B:Int}{ls:List Ln}{out:List Int}(h:NQ ls out)(hl:ls.length<=1000)(D:out.length<=1000):zf ⟨B,ls⟩ out=some ((rG out ls.length).map λk:Nat=>(k:Int)):=by
 unfold zf;refine MC<|bg.eq Y<|bg.pN (P:=λq=>q.1=((rG out ls.length).map λk:Nat=>(k:Int))) ?_ λp hp=>.ret (by simpa using hp);refine bg.V1 Prod.snd ls.length (λk o s=>o=((rG out k).map λk:Nat=>(k:Int))/\∃p:Nat,s.1=p/\p<=out.length/\(∀j a,j<p->out[j]? =some a->a<k)/\∀j a,p<=j->out[j]? =some a->(k:Int)<=a) Y ⟨Y,0,Y,Nat.zero_le _,λj a hj=>by omega,λj a _ c=>(h.r a (List.mem_of_getElem? c)).1⟩ ?_;rintro k o ⟨_,_⟩ d rfl ⟨rfl,p,rfl,hp,f,l⟩;dsimp only;refine bg.eq Y<|bg.bif (λq=>?_) (λq=>.ret ?_)
 ·have q:k<ls.length:=by simpa using q
  refine bg.bU (λb=>b=decide ((k:Int)∈out)/\(b=true->out[p]? =some (k:Int))) (λK d=>?_) λb i=>?_
  ·refine bg.eq rfl<|bg.eq rfl<|bg.bind (P:=λb=>b=decide ((k:Int)∈out)/\(b=true->out[p]? =some (k:Int))) (bg.bif (λw=>?_) (λw=>.ret ⟨?_,λw=>by cases w⟩)) d
   ·have w:p<out.length:=by simpa using w
    have d:=List.getElem?_eq_getElem w;generalize out[p]=x at d;refine bg.eq (bu d)<|bg.eq Y<|.ret ⟨?_,λz=>by rw[d,of_decide_eq_true z]⟩;by_cases e:x=k
    ·rw[decide_eq_true e,decide_eq_true (by rw[<-e];exact List.mem_of_getElem? d)]
    rw[decide_eq_false e,decide_eq_false];intro g;obtain⟨j,hj⟩:=List.mem_iff_getElem?.1 g;have m:p<=j:=Nat.le_of_not_lt λz=>by have:=f j _ z hj;omega
    have:=l p x (Nat.le_refl _) d;rcases Nat.lt_or_ge p j with z|z
    ·have:=Io h d (j-p-1) k (by rw[show p+(j-p-1)+1=j by omega];exact hj);omega
    obtain rfl:p=j:=by omega
    rw[d]at hj;exact e (aob hj)
   have w:p=out.length:=by have:=of_decide_eq_false w;omega
   refine(decide_eq_false λg=>?_).symm;obtain⟨j,hj⟩:=List.mem_iff_getElem?.1 g;have:=f j _ (by rw[w];exact(List.getElem?_eq_some_iff.1 hj).1) hj;omega
  obtain⟨rfl,i⟩:=i;refine bg.bif (λw=>?_) (λw=>?_)
  ·have d:=of_decide_eq_true w;have g:=i w;refine bg.eq Y<|bg.eq Y<|.ret ⟨q,bC ω,by rw[zG,if_pos d];simp,p+1,bC ω,(List.getElem?_eq_some_iff.1 g).1,λj a hj c=>?_,λj a hj c=>?_⟩
   ·by_cases e:j=p
    ·rw[e,g]at c;rw[<-aob c];omega
    have:=f j a ω c;omega
   have:=Io h g (j-p-1) a (by rw[show p+(j-p-1)+1=j by omega];exact c);omega
  have d:=of_decide_eq_false w;refine bg.emit<|bg.eq Y<|.ret ⟨q,bC ω,by rw[zG,if_neg d];simp,p,Y,hp,λj a hj c=>by have:=f j a hj c;omega,λj a hj c=>?_⟩;have:=l j a hj c;have:a≠k:=λe=>d (by rw[<-e];exact List.mem_of_getElem? c);omega
 obtain rfl:k=ls.length:=by have:=of_decide_eq_false q;omega
 exact List.append_nil _
theorem O4{α β:Type}{by_:Nat}(f:α->β)(d:α)(l:List α)(D:by_<=100)(hl:l.length<=1000000){body:Nat->List β->Option (List β)}(h:∀k r,k<l.length->r.length=k->body k r=uE by_ r [f (l.getD k d)]):nH body l.length []=some (l.map f):=by
 have:=G0 (body:=body) (λk=>(l.take k).map f) l.length (λk a=>?_)
 ·rw[List.take_length]at this;exact this
 rw[h k _ a θ,ru D θ,List.take_succ_eq_append_getElem a,List.map_append,List.getD_eq_getElem?_getD,List.getElem?_eq_getElem a];rfl
theorem V3(n:Nt)(out:List Int)(hl:n.lines.length<=1000)(D:out.length<=1000):bg (oR n out) λy=>y.2=0->(∃B,GA n B)/\NQ n.lines out/\y.1=(rG out n.lines.length).map λk:Nat=>(k:Int):=by
 have a:=MD n out hl D;obtain⟨B,ls⟩:=n;dsimp only at hl a⊢;unfold oR;refine bg.bind a λe a=>bg.eq Y<|bg.bif (λq=>.ret λz=>absurd z (of_decide_eq_true q)) (λq=>?_);have a:=a (by simpa using q);refine bg.eq (ins_eq a.2 hl D)<|bg.eq (O4 (by_:=8) id 0 _ ξ (by simp[rG];exact Nat.le_trans (List.length_filter_le _ _) θ) λk r _ _=>?_)<|.ret λ_=>⟨a.1,a.2,by simp⟩;exact X0 _
def Par(n:Nat)(p:List Int):Prop:=p.length=n/\∀(i:Nat) (x:Int),p[i]? =some x->0<=x/\x<=i
theorem find_eq{n:Nat}{p:List Int}(h:Par n p){i:Nat}(D:i<n):bg (jZ i p) λr=>∃j:Nat,r=j/\j<=i:=by
 unfold jZ;refine bg.bind (P:=λr=>∃j:Nat,r=j/\j<=i) ?_ λr hr=>.ret hr;refine bg.loop (λs=>∃j:Nat,s=j/\j<=i) (λs=>s.toNat) ⟨i,Y,Nat.le_refl i⟩ ?_;rintro _ ⟨j,rfl,hj⟩;have hl:j<p.length:=by rw[h.1];omega
 have a:=List.getElem?_eq_getElem hl;generalize p[j]=x at a;have:=h.2 j x a;refine bg.eq (bY hl)<|bg.eq a<|bg.eq Y<|bg.bif (λ_=>.ret ⟨j,Y,hj⟩) (λw=>.ret ?_);have:=of_decide_eq_false w;exact⟨⟨x.toNat,by omega,by omega⟩,by omega⟩
theorem amT{B:Int}{n:Nat}{l:Ln}(D:B=n)(h:∀k,k<5->lnC B l k=true):∃a b x c:Nat,l=⟨a,b,x,c⟩/\a<n/\b<n/\a≠b/\1<=x/\x<=1000/\c<=1000000:=by
 obtain⟨a,b,x,c⟩:=l;have i:=h 0 ω;have g:=h 1 ω;have e:=h 2 ω;have f:=h 3 ω;have d:=h 4 ω;simp only[lnC,Bool.and_eq_true,decide_eq_true_eq]at i g e f d;refine⟨a.toNat,b.toNat,x.toNat,c.toNat,?_,by omega,by omega,by omega,by omega,by omega,by omega⟩;rw[show(a.toNat:Int)=a by omega,show(b.toNat:Int)=b by omega,show(x.toNat:Int)=x by omega,show(c.toNat:Int)=c by omega]
theorem C8{n:Nt}{B:Nat}(h:GA n B){out:List Int}{p:Nat}(hp:p<(rG out n.lines.length).length):∃j:Nat,(rG out n.lines.length)[p]? =some j/\j<n.lines.length/\∃a b x c:Nat,n.lines[j]? =some ⟨a,b,x,c⟩/\a<B/\b<B/\a≠b/\1<=x/\x<=1000/\c<=1000000:=by
 have e:=List.getElem?_eq_getElem hp;have d:=List.getElem_mem hp;generalize (rG out n.lines.length)[p]=j at e d;have hj:j<n.lines.length:=List.mem_range.1 (List.mem_filter.1 d).1;obtain⟨a,b,x,c,f,d⟩:=amT h.b (h.ln _ (List.getElem_mem hj));exact⟨j,e,hj,a,b,x,c,by rw[<-f];simp,d⟩
theorem C9(out:List Int)(k:Nat):(rG out k).length<=k:=Nat.le_trans (List.length_filter_le _ _) η
theorem GB{l:List Nat}{i j:Nat}(h:l[i]? =some j):bV (l.map λk:Nat=>(k:Int)) (i:Int)=some (j:Int):=bu (by rw[List.getElem?_map,h];rfl)
theorem O5(n:Nt)(out:List Int)(hl:n.lines.length<=1000)(D:out.length<=1000):bg (jr n out) λy=>y.2=0->∃B,GA n B/\NQ n.lines out/\y.1.length=B:=by
 unfold jr;refine bg.bind (V3 n out hl D) ?_;rintro⟨l,e⟩ d;dsimp only at d⊢;refine bg.eq Y<|bg.bif (λq=>.ret λz=>absurd z (of_decide_eq_true q)) (λq=>?_);obtain⟨⟨B,f⟩,o,rfl⟩:=d (by simpa using q);have d:=f.b1;rw[f.b];refine bg.eq (fE ω ω)<|bg.eq Y ?_;rw[List.length_replicate];refine bg.eq (zF (λi=>(i:Int)) (λi l g hl _=>az Y<|cm (decide_eq_true ω)<|az (bY (show i<l.length by omega))<|az (cL (show i<l.length by omega))<|az Y (lF (bC ω) Y)) (λl hl=>by simp))<|bg.eq Y ?_;rw[List.length_map];refine bg.bind (P:=Par B) (bg.cnt Prod.fst (rG out n.lines.length).length (λi s=>Par B s.2) Y ⟨by simp,λi x h=>?_⟩ ?_) ?_
 ·obtain⟨d,m⟩:=List.getElem?_eq_some_iff.1 h;simp at m;omega
 ·rintro i ⟨_,p⟩ g rfl hp;refine bg.eq Y<|bg.bif (λq=>?_) (λq=>.inr hp);have q:i<(rG out n.lines.length).length:=by simpa using q
  obtain⟨j,d,m,a,b,x,c,h,r,t,_⟩:=C8 f q;refine bg.eq (GB d)<|bg.eq (bu h)<|bg.bind (find_eq hp r) ?_;rintro _ ⟨u,rfl,d⟩;refine bg.eq (bu h)<|bg.bind (find_eq hp t) ?_;rintro _ ⟨v,rfl,d⟩;have hl:=hp.1;refine bg.eq (congrArg some (show max (u:Int) v=((max u v:Nat):Int) by omega))<|bg.eq (congrArg some (show min (u:Int) v=((min u v:Nat):Int) by omega))<|bg.eq (bY ω)<|bg.eq (cL ω)<|bg.eq Y<|.inl q (bC (by have:=C9 out n.lines.length;omega)) ⟨by simp[hl],λk y d=>?_⟩;by_cases z:max u v=k
  ·rw[<-z,nR ω]at d;rw[<-aob d];omega
  rw[List.getElem?_set_ne z]at d;exact hp.2 k y d
 intro p hp;refine bg.eq (fE ω ω)<|bg.eq Y ?_;rw[List.length_replicate];refine bg.bind (P:=λl=>l.length=B) (bg.cnt (λs=>s.2.1) B (λi s=>s.2.2.length=B) Y η ?_) λl hl=>.ret λ_=>⟨B,f,o,hl⟩;rintro i ⟨c,_,l⟩ g rfl hl;dsimp only at hl⊢;refine bg.eq Y<|bg.bif (λq=>?_) (λq=>.inr hl);have q:i<B:=by simpa using q
 refine bg.bind (find_eq hp q) ?_;rintro _ ⟨j,rfl,hj⟩;refine bg.eq Y<|bg.bif (λ_=>?_) (λ_=>?_)
 ·refine bg.eq (bY ω)<|bg.eq (List.getElem?_eq_getElem ω)<|bg.eq (bY ω)<|bg.eq (cL ω)<|bg.eq Y<|.inl q (bC ω) (by simp[hl])
 refine bg.eq (bY ω)<|bg.eq (cL ω)<|bg.eq Y<|bg.eq Y<|.inl q (bC ω) (by simp[hl])
theorem I4(n:Nt)(out:List Int)(hl:n.lines.length<=1000)(D:out.length<=1000):bg (j0 n out) λy=>y.2=0->∃B,GA n B/\NQ n.lines out/\y.1.length<=B/\∀b∈y.1,∃j:Nat,b=j/\j<B:=by
 unfold j0;refine bg.bind (O5 n out hl D) ?_;rintro⟨l,e⟩ a;dsimp only at a⊢;refine bg.eq Y<|bg.bif (λq=>.ret λz=>absurd z (of_decide_eq_true q)) (λq=>?_);obtain⟨B,c,d,hl⟩:=a (by simpa using q);have a:=c.b1;refine bg.eq Y<|bg.bind (P:=λr:List Int=>r.length<=B/\∀b∈r,∃j:Nat,b=j/\j<B) (bg.cnt Prod.fst l.length (λi s=>s.2.length<=i/\∀b∈s.2,∃j:Nat,b=j/\j<B) Y η ?_) λr hr=>.ret λ_=>⟨B,c,d,hr⟩;rintro i ⟨_,r⟩ a rfl ⟨c,a⟩;dsimp only at c a⊢;refine bg.eq Y<|bg.bif (λq=>?_) (λq=>.inr ⟨by omega,a⟩);have q:i<l.length:=by simpa using q
 refine bg.eq (bu (List.getElem?_eq_getElem q))<|bg.eq Y<|bg.eq Y<|bg.bU (λc=>c.length<=i+1/\∀b∈c,∃j:Nat,b=j/\j<B) (λK d=>bg.bif (λ_=>bg.eq (ru ξ ω)<|d _ ⟨by simp;omega,λb f=>?_⟩) λ_=>d _ ⟨by omega,a⟩) λc hr=>bg.eq Y<|.inl q (bC ω) hr;rw[List.mem_append,List.mem_singleton]at f;rcases f with h|h
 ·exact a b h
 exact⟨i,h,by omega⟩
theorem QY(n:Nt)(out:List Int)(hl:n.lines.length<=1000)(D:out.length<=1000):bg (iB n out) λy=>y.2=0->∃c:Nat,y.1=c/\c<=6:=by
 unfold iB;refine bg.bind (I4 n out hl D) ?_;rintro⟨l,e⟩ a;dsimp only at a⊢;refine bg.eq Y<|bg.bif (λq=>.ret λz=>absurd z (of_decide_eq_true q)) (λq=>?_);obtain⟨B,b,d,hl,_⟩:=a (by simpa using q);have a:=b.b1;exact bg.eq Y<|.ret λ_=>⟨l.length,Y,by omega⟩
end
section
open Go.Fw
theorem pg{n k:Nat}{f:Nat->Rat}{v:Rat}:(vq n f).set k (qn v)=vq n (λj=>if j=k then v else f j):=by
 apply List.ext_getElem?;intro j;rcases Nat.lt_or_ge j n with q|q
 ·rw[fU q];by_cases e:k=j
  ·rw[e,nR (by rw[b9];exact q),if_pos rfl]
  rw[List.getElem?_set_ne e,fU q,if_neg (λw=>e w.symm)]
 rw[List.getElem?_eq_none (by rw[List.length_set,b9];exact q),List.getElem?_eq_none (by rw[b9];exact q)]
theorem E8{n:Nat}:List.replicate n qz=vq n (λ_=>0):=by
 apply List.ext_getElem (by simp[vq]);intro j a a;rw[Kf a,List.getElem_replicate];rfl
def Mq(n D c:Nat)(m:List (List Qr)):Prop:=m.length=n/\∀r∈m,∃f:Nat->Rat,r=vq n f/\(∀k,n<=k->f k=0)/\∀k,∃z:Int,f k*((D:Int):Rat)=z/\z.natAbs<=c*D
section
variable {n D c X:Nat}{m:List (List Qr)}
theorem Mq.mul(h:Mq n D c m):Mq n (D*X) c m:=⟨h.1,λr hr=>by
 obtain⟨f,d,b,e⟩:=h.2 r hr;refine⟨f,d,b,λk=>?_⟩;obtain⟨z,a,g⟩:=e k;exact⟨z*X,by rw[Int.natCast_mul,Rat.intCast_mul,Rat.intCast_mul,<-Rat.mul_assoc,a],by rw[Int.natAbs_mul,<-Nat.mul_assoc];exact Nat.mul_le_mul_right _ g⟩⟩
theorem Mq.rws(h:Mq n D c m)(I:0<D)(H:D<=1000^10)(K:c<=41):MX 4 n n m:=⟨h.1,λr hr=>by
 obtain⟨f,d,b,g⟩:=h.2 r hr;refine⟨f,d,b,D,I,Nat.lt_of_le_of_lt H ξ,λk _=>?_⟩;obtain⟨z,e,a⟩:=g k;exact⟨z,e,Nat.lt_of_le_of_lt a (Nat.lt_of_le_of_lt (Nat.mul_le_mul K H) ξ)⟩⟩
theorem Mq.op(h:Mq n D c m)(hD:0<D)(h1:D<=1000^10)(h2:c<=41){e:Nat}(I:e*X=D){s:Int}(hs:s.natAbs=1){op:Qr->Option Qr}(K:∀q f,mq 4 q f->op q=some (qn (f+(s:Rat)/(X:Int)))){i k:Nat}(hi:i<n)(H:k<n):∃r q q' m',fG m i=some i/\m[i]? =some r/\Ds m i k=some k/\M6 m i k=some q/\op q=some q'/\Rk m i k q'=some m'/\Mq n D (c+1) m':=by
 have hl:=h.1;have hr:=List.getElem?_eq_getElem (l:=m) (i:=i) ω;have a:=List.getElem_mem (l:=m) (n:=i) ω;generalize m[i]=r at hr a;obtain⟨f,b,o,t⟩:=h.2 r a;obtain⟨x,p,d⟩:=(((h.rws hD h1 h2).2 r a).at ω H);rw[b,og H]at d;refine⟨r,x,_,m.set i (vq n λj=>if j=k then f k+(s:Rat)/(X:Int)else f j),bY ω,hr,by simp[Ds,hr,fG,b,b9,H],by simp[M6,hr,p],K x _ d,?_,by rw[List.length_set];exact hl,λr' a=>?_⟩
 ·simp only[Rk,hr,Option.bind_some];rw[b,cL (by rw[b9];exact H),pg];rfl
 rcases List.mem_or_eq_of_mem_set a with w|rfl
 ·obtain⟨g,a,d,b⟩:=h.2 r' w;exact⟨g,a,d,λk=>by obtain⟨z,z1,z2⟩:=b k;exact⟨z,z1,Nat.le_trans z2 (Nat.mul_le_mul_right _ (Nat.le_succ c))⟩⟩
 refine⟨_,Y,λj hj=>by rw[if_neg ω];exact o j hj,λj=>?_⟩;obtain⟨z,z1,z2⟩:=t j;have hz:z.natAbs<=(c+1)*D:=Nat.le_trans z2 (Nat.mul_le_mul_right _ (Nat.le_succ c));by_cases w:j=k
 ·subst w;have a:(X:Int)≠0:=λw=>by rw[<-I,show X=0 by omega]at hD;omega
  refine⟨z+s*e,?_,?_⟩
  ·rw[if_pos Y,Rat.add_mul,z1,<-I,Rat.intCast_add,Rat.intCast_mul,Int.natCast_mul,Rat.intCast_mul,Rat.div_def];have:=Rat.mul_inv_cancel _ (Gw a);grind
  have a:1<=X:=by omega
  have:(s*(e:Int)).natAbs<=D:=by
   rw[Int.natAbs_mul,hs,<-I,Nat.one_mul,Int.natAbs_natCast];exact Nat.le_mul_of_pos_right _ a
  rw[Nat.add_mul];omega
 rw[if_neg w];exact⟨z,z1,hz⟩
end
theorem aqB{n j:Nat}(hj:j<n):Rw 4 n (vq n (dl j)):=⟨_,Y,λk a=>if_neg ω,1,by omega,by decide,λk _=>by
 unfold dl;split
 ·exact⟨1,by rw[Rat.one_mul];rfl,by decide⟩
 exact⟨0,by rw[Rat.zero_mul];rfl,by decide⟩⟩
theorem equations_eq{n:Nt}{B:Nat}(h:GA n B){out H:List Int}(hr:H.length<=B)(hb:∀b∈H,∃j:Nat,b=j/\j<B):bg (iC n ((rG out n.lines.length).map λk:Nat=>(k:Int)) H) (MX 4 B B):=by
 have c:=h.b1;have hl:=h.l;have c:=C9 out n.lines.length;unfold iC;rw[h.b];refine bg.eq (MB ω)<|bg.eq Y ?_;rw[List.length_map];refine bg.bind (P:=MX 4 B B) (bg.cnt Prod.fst (rG out n.lines.length).length (λp s=>∃D,0<D/\D<=1000^p/\Mq B D (4*p) s.2) Y ⟨1,by omega,by decide,by simp,λr hr=>⟨λ_=>0,?_,λ_ _=>Y,λ_=>⟨0,Rat.zero_mul _,by decide⟩⟩⟩ ?_) λm o=>?_
 ·obtain⟨i,_,rfl⟩:=List.mem_map.1 hr;rfl
 ·rintro p ⟨_,m⟩ hp rfl ⟨D,E,C,A⟩;have c:∀t,t<=10->1000^t<=1000^10:=λt ht=>Nat.pow_le_pow_right ξ ht;dsimp only at A⊢;refine bg.eq Y<|bg.bif (λq=>?_) (λq=>.inr (A.rws E (Nat.le_trans C (c p ω)) ω));have q:p<(rG out n.lines.length).length:=by simpa using q
  obtain⟨j,e1,F,a,b,x,G,Q,z,y,u,v,g,_⟩:=C8 h q;have v:=new_eq (n:=1) (d:=x) ξ (by unfold fQ;omega) ω;rw[Rat.divInt_eq_div]at v;have u:D*x<=1000^(p+1):=by rw[Nat.pow_succ];exact Nat.mul_le_mul C g
  have g:=Nat.le_trans u (c (p+1) ω);have c:0<D*x:=Nat.mul_pos E ω;have E:∀q f,mq 4 q f->ff q (qn (((1:Int):Rat)/(x:Int)))=some (qn (f+((1:Int):Rat)/(x:Int))):=λq f w=>(w.add v.2 ω).1;have os:∀q f,mq 4 q f->fj q (qn (((1:Int):Rat)/(x:Int)))=some (qn (f+((-1:Int):Rat)/(x:Int))):=λq f w=>by
   rw[(w.sub v.2 ω).1,Rat.intCast_neg,Rat.div_def,Rat.div_def];congr 2;grind
  obtain⟨L,J,F,K,I,C,a3,a4,a5,a6,G⟩:=(A.mul (X:=x)).op c g ω Y (s:=1) Y E z z;obtain⟨L,O,K,J,b1,F,M,V,Z,N,A⟩:=G.op c g ω Y (s:=-1) Y os z y;obtain⟨U,K,R,O,L,J,G,W,c5,T,S⟩:=A.op c g ω Y (s:=1) Y E y y;obtain⟨r4,q4,p4,m4,K,E,A,U,R,O,d7⟩:=S.op c g ω Y (s:=-1) Y os y z;refine bg.eq (GB e1)<|bg.eq (bu Q)<|bg.eq v.1<|bg.eq I<|bg.eq C<|bg.eq I<|bg.eq C<|bg.eq a3<|bg.eq a4<|bg.eq a5<|bg.eq a3<|bg.eq a6<|bg.eq b1<|bg.eq F<|bg.eq b1<|bg.eq F<|bg.eq M<|bg.eq V<|bg.eq Z<|bg.eq M<|bg.eq N<|bg.eq L<|bg.eq J<|bg.eq L<|bg.eq J<|bg.eq G<|bg.eq W<|bg.eq c5<|bg.eq G<|bg.eq T<|bg.eq K<|bg.eq E<|bg.eq K<|bg.eq E<|bg.eq A<|bg.eq U<|bg.eq R<|bg.eq A<|bg.eq O<|bg.eq Y<|.inl q (bC ω) ⟨D*x,c,u,?_⟩;rw[show 4*(p+1)=4*p+1+1+1+1 by omega];exact d7
 refine bg.eq (ident_eq ω)<|bg.eq Y<|bg.bind (P:=MX 4 B B) (bg.cnt Prod.fst H.length (λ_ s=>MX 4 B B s.2) Y o ?_) λm o=>.ret o;rintro i ⟨_,m⟩ c rfl o;have hl:=o.1;dsimp only at hl⊢;refine bg.eq Y<|bg.bif (λq=>?_) (λq=>.inr o);have q:i<H.length:=by simpa using q
 obtain⟨j,e,hj⟩:=hb _ (List.getElem_mem q);refine bg.eq (bu (List.getElem?_eq_getElem q)) ?_;rw[e];exact bg.eq (bu (a:=vq B (dl j)) (by simp[hj]))<|bg.eq (bY ω)<|bg.eq (cL ω)<|bg.eq Y<|.inl q (bC ω) (o.set (aqB hj))
theorem Gd.sub{h k N:Nat}{f g:Nat->Rat}(a:Gd h N f)(b:Gd k N g):Gd (h+k+1) N (λi=>f i-g i):=by
 obtain⟨d,m,l,p⟩:=a;obtain⟨e,n,c,o⟩:=b;have j:(4294967296:Nat)^(h+k+1)=4294967296^h*4294967296^k*4294967296:=by rw[Nat.pow_succ,Nat.pow_add]
 unfold Gd;rw[j];generalize (4294967296:Nat)^h=P at*;generalize (4294967296:Nat)^k=R at*;have j:d*e<P*R:=Nat.mul_lt_mul'' l c;refine⟨d*e,Nat.mul_pos m n,by omega,λi j=>?_⟩;obtain⟨z,m,n⟩:=p i j;obtain⟨y,p,q⟩:=o i j;refine⟨z*e-y*d,?_,?_⟩
 ·dsimp only;rw[Int.natCast_mul,Rat.intCast_mul,Rat.intCast_sub,Rat.intCast_mul,Rat.intCast_mul,<-m,<-p];grind
 have j:(z*e).natAbs<P*R:=by rw[Int.natAbs_mul,Int.natAbs_natCast];exact Nat.mul_lt_mul'' n c
 have c:(y*d).natAbs<P*R:=by rw[Int.natAbs_mul,Int.natAbs_natCast,Nat.mul_comm P R];exact Nat.mul_lt_mul'' q l
 omega
theorem Gd.ax2{h N x:Nat}{f:Nat->Rat}(a:Gd h N f)(H:1<=x)(D:x<=1000):Gd (h+1) N (λi=>f i/(x:Int)):=by
 obtain⟨d,c,b,e⟩:=a;unfold Gd;rw[Nat.pow_succ];have:d*x<=d*1000:=Nat.mul_le_mul_left _ D;refine⟨d*x,Nat.mul_pos c H,by omega,λi b=>?_⟩;obtain⟨z,c,g⟩:=e i b;refine⟨z,?_,by omega⟩;have:=Rat.mul_inv_cancel _ (Gw (d:=(x:Int)) ω);dsimp only;rw[<-c,Int.natCast_mul,Rat.intCast_mul,Rat.div_def];grind
def YX(n:Nt)(out:List Int)(D:List (List Qr))(k b:Nat):Rat:=
 if k∈rG out n.lines.length then
  match n.lines[k]? with
  |some l=>(sF D l.a.toNat b-sF D l.b.toNat b)/(l.x.toNat:Int)
  |none=>0
 else 0
theorem ad0{n:Nt}{B d:Nat}(h:GA n B){out:List Int}{D:List (List Qr)}(H:∀r∈D,Rw 319 d r)(b:Nat):jD b n ((rG out n.lines.length).map λk:Nat=>(k:Int)) D=some (vq n.lines.length λk=>YX n out D k b):=by
 have hl:=h.l;have a:Gm 319 D:=λr hr=>(H r hr).gv ω;unfold jD;refine az Y<|az (fE ω ω)<|az Y ?_;rw[List.length_map];refine az (qg (e:=vq n.lines.length λk=>YX n out D k b) (λp=>vq n.lines.length λk=>if k∈(rG out n.lines.length).take p then YX n out D k b else 0) (rG out n.lines.length).length (by rw[eH (k:=λ_=>0) (λi _=>by simp),<-E8];rfl) (λp hp=>?_) ?_) Y
 ·obtain⟨j,f,m,x,y,c,v,o,u,t,g,q,s,_⟩:=C8 h hp;have s:=(a.row x).at ω b;have g:=(a.row y).at ω b;have q:=(s.sub g ω);have g:=cz (n:=c) (by unfold fQ;omega);have s:=q.2.div g.2 ω (Gw ω);refine az Y<|cm (decide_eq_true ω)<|az (GB f)<|az (bu o)<|az (E7 a ω ω x b)<|az (E7 a ω ω y b)<|az (((a.row x).at ω b).fq.rep ω|>.sub (((a.row y).at ω b).fq.rep ω) ω).1<|az g.1<|az s.1<|az (bY (by rw[b9];exact m))<|az (cL (by rw[b9];exact m))<|az Y (lF (bC (by have:=C9 out n.lines.length;omega)) ?_);rw[pg];refine eH λi _=>?_;rw[List.take_add_one,f];by_cases w:i=j
  ·subst w;rw[if_pos Y,if_pos η,YX,if_pos (List.mem_of_getElem? f),o];rfl
  rw[if_neg w];simp[w]
 refine az Y<|cq (decide_eq_false ω) ?_;rw[List.take_length];rw[eH (k:=λk=>YX n out D k b) λi _=>?_];by_cases w:i∈rG out n.lines.length
 ·rw[if_pos w]
 rw[if_neg w,YX,if_neg w]
theorem amU{n:Nt}{B d:Nat}(h:GA n B){out:List Int}{D:List (List Qr)}(H:∀r∈D,Rw 319 d r)(k N:Nat):Gd 640 N (YX n out D k):=by
 by_cases w:k∈rG out n.lines.length
 ·obtain⟨p,hp,e⟩:=List.getElem_of_mem w;obtain⟨j,a,o,x,y,c,t,l,s,q,m,f,g,_⟩:=C8 h hp;rw[List.getElem?_eq_getElem hp,e]at a;obtain rfl:=aob a;have:=(((QX (i:=x) H ω N).2.sub (QX (i:=y) H ω N).2).ax2 f g);rw[show YX n out D k=λi=>(sF D x i-sF D y i)/(c:Int)from funext λb=>by rw[YX,if_pos w,l];rfl];exact this
 rw[show YX n out D k=λ_=>0 from funext λb=>by rw[YX,if_neg w]];exact Gd.zero _ _ ω
theorem QZ{N B:Nat}(D:N<=1000)(H:B<=1000)(ψ:Nat->Nat->Rat):kY ((List.range B).map λb=>vq N (ψ b)) N=some ((List.range N).map λk=>vq B λb=>ψ b k):=by
 unfold kY;refine az (fE ω ω)<|az Y ?_;rw[List.length_replicate];refine az (zF (λk=>vq B λb=>ψ b k) (λi l c hl d=>?_) (λl hl=>by simp)) Y;refine az Y<|cm (decide_eq_true ω)<|az Y ?_;rw[List.length_map,List.length_range];refine az (qg (e:=l.set i (vq B λb=>ψ b i)) (λj=>l.set i (vq j λb=>ψ b i)) B ?_ (λj hj=>?_) η)<|az Y (lF (bC ω) Y)
 ·apply List.ext_getElem?;intro j;by_cases e:i=j
  ·rw[<-e,nR ω,d];rfl
  rw[List.getElem?_set_ne e]
 refine az Y<|cm (decide_eq_true ω)<|az (bu (a:=vq N (ψ j)) (by simp[hj]))<|az (AK (nR ω))<|az (bu (fU c))<|az (ru ω (by rw[b9];omega))<|az Y (lF (bC ω) ?_);rw[List.set_set,AH]
theorem ME(n:Nt)(out:List Int)(hl:n.lines.length<=1000)(D:out.length<=1000):bg (fN n out) λy=>y.2=0->∃(B:Nat) (φ:Nat->Nat->Rat),GA n B/\NQ n.lines out/\y.1=((List.range n.lines.length).map λk=>vq B (φ k))/\∀k N,Gd 640 N (φ k):=by
 unfold fN;refine bg.bind (V3 n out hl D) ?_;rintro⟨l,e⟩ c;dsimp only at c⊢;refine bg.eq Y<|bg.bif (λq=>.ret λz=>absurd z (of_decide_eq_true q)) (λq=>?_);obtain⟨⟨B,a⟩,g,rfl⟩:=c (by simpa using q);refine bg.bind (I4 n out hl D) ?_;rintro⟨c,f⟩ hr;dsimp only at hr⊢;refine bg.eq Y<|bg.bif (λq=>.ret λz=>absurd z (of_decide_eq_true q)) (λq=>?_);obtain⟨h,c,_,i,f⟩:=hr (by simpa using q);obtain rfl:B=h:=by have:=a.b;have:=c.b;omega
 have c:=a.b1;have h:hsz 4 B<=319:=Nat.le_trans (CL 4 c.2) ξ;refine bg.bind (equations_eq a i f) λm c=>bg.bind (inv_eq c ω ω ω) ?_;rintro⟨c,f⟩ f;dsimp only at f⊢;refine bg.eq Y<|bg.bif (λq=>.ret λz=>absurd z (of_decide_eq_true q)) (λq=>?_);obtain⟨d,i,f⟩:=f (by simpa using q);have f:∀r∈c,Rw 319 d r:=λr hr=>(f r hr).mono h;rw[a.b];have h:=a.l;refine bg.eq (aqA (n:=B) (λb=>vq n.lines.length λk=>YX n out c k b) (λj l hj hl=>az Y<|cm (decide_eq_true ω)<|az (ad0 a f j)<|az (ru ω (show l.length<=_ by omega))<|az Y (lF (bC ω) Y)) (λl hl=>by simp))<|bg.eq Y<|bg.eq (QZ ω ω _)<|.ret λ_=>⟨B,YX n out c,a,g,Y,λk N=>amU a f k N⟩
end
section
open Go.Fw
section rules
variable {β:Type}{Q:β->Prop}{b:Bool}{x:Option Bool}{K:Bool->Option β}{c:Prop}
theorem bg.orB(h:b=false->bg x λy=>y=true↔c)(k:∀y,(y=true↔b=true\/c)->bg (K y) Q):bg ((bif b then some true else x).bind K) Q:=by
 cases b with
 |true=>exact k true η
 |false=>
  obtain⟨y,d,a⟩:=h Y;show bg (x.bind K) Q;rw[d];exact k y (by simpa using a)
theorem bg.dec{a:Prop}[Decidable a]:bg ((some (decide a)).bind λx=>some x) λy=>y=true↔a:=⟨_,Y,by simp⟩
theorem bg.any{a:Option Bool}(h:bg a λ_=>True)(k:∀y,bg (K y) Q):bg ((bif b then some true else a).bind K) Q:=by
 cases b with
 |true=>exact k true
 |false=>obtain⟨y,c,_⟩:=h;show bg (a.bind K) Q;rw[c];exact k y
end rules
def Zi(l:List Sp):Prop:=1<=l.length/\l.length<=3/\∀s∈l,1<=s.kS/\s.kS<=1000000/\-1000000<=s.dm/\s.dm<=1000000
theorem MF{l:List Sp}{f:Int->Int->Option Bool}(H:∀a b,bg (f a b) λ_=>True){i:Nat}(D:i<l.length)(hl:l.length<=3):bg ((bV l i).bind λ⟨g,c⟩=>bU (λ(d:Bool)=>(bif d then some (.inr (.inr 1))else bU (λ(d:Bool)=>(bif d then some (.inr (.inr 3))else(some (IntKind.i64.wrap ((i:Int)+1))).bind λd=>some (.inl d))) λd=>(some (decide ((0:Int)<i))).bind λh=>(bif h then(some (IntKind.i64.wrap ((i:Int)-1))).bind λh=>(bV l h).bind λ⟨_,h⟩=>(f h c).bind λh=>(some (!h)).bind λh=>some h else some false).bind λh=>d h)) λd=>(some (decide ((g:Int)<1))).bind λh=>(bif h then some true else(some (decide ((1000000:Int)<g))).bind λg=>some g).bind λg=>(bif g then some true else(some (decide ((c:Int)<(-1000000)))).bind λg=>some g).bind λg=>(bif g then some true else(some (decide ((1000000:Int)<c))).bind λc=>some c).bind λc=>d c) λy:Int⊕(Unit⊕Int)=>(y=.inl ((i+1:Nat):Int)/\1<=l[i].kS/\l[i].kS<=1000000/\-1000000<=l[i].dm/\l[i].dm<=1000000)\/y=.inr (.inr 1)\/y=.inr (.inr 3):=by
 refine bg.eq (bu (List.getElem?_eq_getElem D)) ?_;generalize l[i]=s;obtain⟨q,p⟩:=s;refine bg.bU (λb=>b=false->1<=q/\q<=1000000/\-1000000<=p/\p<=1000000) (λK c=>?_) λb k=>?_
 ·refine bg.eq Y<|bg.orB (λ_=>bg.dec) λy g=>bg.orB (λ_=>bg.dec) λz h=>bg.orB (λ_=>bg.dec) λw d=>c w λe=>?_;rw[e]at d;simp only[Bool.false_eq_true,false_iff,decide_eq_true_eq]at d h g;have j:=not_or.1 d;have d:=not_or.1 (λt=>j.1 (h.2 t));have h:=not_or.1 (λt=>d.1 (g.2 t));omega
 refine bg.bif (λ_=>.ret (.inr (.inl Y))) λw=>bg.bU (λ_=>True) (λK c=>?_) λb _=>bg.bif (λ_=>.ret (.inr (.inr Y))) λ_=>bg.eq Y<|.ret (.inl ⟨by rw[bC ω],k w⟩);refine bg.eq Y<|bg.bind (P:=λ_=>True) (bg.bif (λz=>?_) λ_=>.ret trivial) λb _=>c b trivial;have z:0<i:=by simpa using z
 refine bg.eq (congrArg some (show IntKind.i64.wrap ((i:Int)-1)=((i-1:Nat):Int) by rw[cV ω ω];omega))<|bg.eq (bu (List.getElem?_eq_getElem ω)) ?_;exact bg.bind (H _ _) λb _=>⟨_,Y,an⟩
theorem MG{l:List Sp}(hl:¬3<(l.length:Int))(I:¬(l.length:Int)=0){body:Int->Option (Int⊕(Unit⊕Int))}(h:∀i:Nat,i<l.length->bg (body i) λy=>(∃H:i<l.length,y=.inl ((i+1:Nat):Int)/\1<=l[i].kS/\l[i].kS<=1000000/\-1000000<=l[i].dm/\l[i].dm<=1000000)\/y=.inr (.inr 1)\/y=.inr (.inr 3))(D:body l.length=some (.inr (.inl ()))):bg ((bH body 0).bind λa=>match a with|.inr v27=>some v27|.inl _=>some 0) λe=>e=0->Zi l:=by
 refine bg.bind (P:=λy=>y=.inr 1\/y=.inr 3\/(y=.inl ()/\Zi l)) (bg.cnt id l.length (λi _=>∀s∈l.take i,1<=s.kS/\s.kS<=1000000/\-1000000<=s.dm/\s.dm<=1000000) Y η ?_) ?_
 ·rintro i _ H rfl a;rcases Nat.lt_or_ge i l.length with q|q
  ·obtain⟨y,c,b⟩:=h i q;refine⟨y,c,?_⟩;rcases b with⟨_,rfl,b⟩|rfl|rfl
   ·refine⟨q,Y,λs c=>?_⟩;rw[List.take_succ_eq_append_getElem q,List.mem_append,List.mem_singleton]at c;rcases c with w|rfl
    ·exact a s w
    exact b
   ·exact .inl Y
   exact .inr (.inl Y)
  obtain rfl:i=l.length:=by omega
  rw[List.take_length]at a;exact⟨_,D,.inr (.inr ⟨Y,by omega,by omega,a⟩)⟩
 rintro y (rfl|rfl|⟨rfl,h⟩)
 ·exact .ret λe=>by cases e
 ·exact .ret λe=>by cases e
 exact .ret λ_=>h
theorem ad2(l:List Sp):bg (ey l) λe=>e=0->Zi l:=by
 refine bg.bind (P:=λe=>e=0->Zi l) ?_ λe c=>.ret c;unfold nB;refine bg.eq rfl<|bg.bif (λ_=>.ret λe=>by cases e) λw=>bg.eq rfl<|bg.bif (λ_=>.ret λe=>by cases e) λd=>bg.eq rfl<|MG (of_decide_eq_false d) (of_decide_eq_false w) (λi c=>?_) η;refine bg.eq Y<|bg.bif (λ_=>?_) λz=>absurd (of_decide_eq_false z) ω;exact(MF (f:=qk) (λa b=>⟨_,Y,an⟩) c (by have:=of_decide_eq_false d;omega)).mono λy d=>d.imp (λh=>⟨c,h⟩) id
theorem Q0(l:List Sp):bg (dM l) λe=>e=0->Zi l:=by
 refine bg.bind (P:=λe=>e=0->Zi l) ?_ λe c=>.ret c;unfold jY;refine bg.eq rfl<|bg.bif (λ_=>.ret λe=>by cases e) λw=>bg.eq rfl<|bg.bif (λ_=>.ret λe=>by cases e) λd=>bg.eq rfl<|MG (of_decide_eq_false d) (of_decide_eq_false w) (λi c=>?_) η;refine bg.eq Y<|bg.bif (λ_=>?_) λz=>absurd (of_decide_eq_false z) ω;exact(MF (f:=oZ) (λa b=>⟨_,Y,an⟩) c (by have:=of_decide_eq_false d;omega)).mono λy d=>d.imp (λh=>⟨c,h⟩) id
theorem Q1{q p:Int}(h:1<=q/\q<=1000000/\-1000000<=p/\p<=1000000):nB [⟨q,p⟩]=some 0/\jY [⟨q,p⟩]=some 0:=by
 have b:decide (q<1)=false:=decide_eq_false ω;have c:decide (1000000<q)=false:=decide_eq_false ω;have a:decide (p< -1000000)=false:=decide_eq_false ω;have d:decide (1000000<p)=false:=decide_eq_false ω;constructor
 ·unfold nB;refine(congrArg (λx=>Option.bind x _) (yH (e:=.inl ()) (λk=>(k:Int)) 1 (λk f=>?_) Y)).trans Y;obtain rfl:k=0:=by omega
  simp[bV,bU,b,c,a,d];rfl
 unfold jY;refine(congrArg (λx=>Option.bind x _) (yH (e:=.inl ()) (λk=>(k:Int)) 1 (λk f=>?_) Y)).trans Y;obtain rfl:k=0:=by omega
 simp[bV,bU,b,c,a,d];rfl
def Ip:List Sp->Int
 |[]=>0
 |s::l=>s.kS+Ip l
theorem ad3(l:List Sp)(s:Sp):Ip (l++[s])=Ip l+s.kS:=by
 induction l with
 |nil=>simp[Ip]
 |cons a l b=>simp only[List.cons_append,Ip,b];omega
theorem XI{l:List Sp}(h:∀s∈l,1<=s.kS/\s.kS<=1000000/\-1000000<=s.dm/\s.dm<=1000000):0<=Ip l/\Ip l<=1000000*l.length:=by
 induction l with
 |nil=>simp[Ip]
 |cons a l b=>
  have:=b λs b=>h s (List.mem_cons_of_mem _ b);have:=h a List.mem_cons_self;simp only[Ip,List.length_cons];omega
theorem MH(l:List Sp):bg (v8 l) λs=>0<=s/\s<=3000000/\(jY l=some 0->s=Ip l):=by
 have a:∀c:Int,bg (nX l) λe=>(e=0->Zi l)/\(jY l=some 0->e=0):=λc=>by
  obtain⟨e,b,g⟩:=Q0 l;refine bg.eq b<|bg.eq Y<|bg.bif (λq=>.ret ⟨λ_=>g (of_decide_eq_true q),λ_=>Y⟩) λq=>?_;obtain⟨d,h,f⟩:=ad2 l;refine bg.eq h<|.ret ⟨f,λw=>absurd ?_ (of_decide_eq_false q)⟩;have:dM l=some 0:=az w Y;rw[this]at b;exact(aob b).symm
 unfold v8;refine bg.bind (a 0) λe d=>bg.eq Y<|bg.bif (λq=>.ret ⟨by omega,by omega,λw=>absurd (d.2 w) (of_decide_eq_true q)⟩) λq=>?_;have a:=d.1 (by simpa using q);have d:=XI a.2.2;have hl:=a.2.1;refine bg.eq Y<|bg.bind (P:=λs=>s=Ip l) (bg.cnt Prod.snd l.length (λi s=>s.1=Ip (l.take i)) Y Y ?_) λs d=>.ret (by subst d;exact⟨by omega,by omega,λ_=>Y⟩);rintro i ⟨_,_⟩ j rfl rfl;refine bg.eq Y<|bg.bif (λq=>?_) λq=>.inr ?_
 ·have q:i<l.length:=by simpa using q
  have b:=XI (l:=l.take i) λs d=>a.2.2 s (List.mem_of_mem_take d);have g:=a.2.2 _ (List.getElem_mem q);have h:(l.take i).length<=3:=by simp;omega
  have f:=List.take_succ_eq_append_getElem q;have a:=List.getElem?_eq_getElem q;generalize l[i]=s at g f a;refine bg.eq (bu a)<|bg.eq Y<|bg.eq Y<|.inl q (bC ω) ?_;show IntKind.i64.wrap _=_;rw[f,ad3,cV ω ω]
 obtain rfl:i=l.length:=by have:=of_decide_eq_false q;omega
 rw[List.take_length]
theorem AM(u:sI)(B:Int):bg (gG u B) λe=>e=0->(0<=u.uH/\u.uH<B)/\Zi u.steps/\0<=u.low/\u.low<=3000000:=by
 obtain⟨a0,a1,a2,a3,a4,a5,a6,a7,a8⟩:=u;have Q2:∀{c:Prop} [Decidable c],bg ((some (decide c)).bind λx=>some x) λ_=>True:=⟨_,Y,an⟩;unfold gG;refine bg.bU (λb=>b=false->0<=a0/\a0<B) (λK hK=>bg.eq rfl<|bg.orB (λ_=>bg.dec) λy hy=>hK y λe=>?_) λb hb=>bg.bif (λ_=>.ret λe=>by cases e) λw=>bg.bind (ad2 a2) λe he=>bg.eq rfl<|bg.bif (λq=>.ret λe=>absurd e (of_decide_eq_true q)) λq=>?_
 ·rw[e]at hy;simp at hy;omega
 have fin:∀{x:Option Int},bg x (λ_=>True)->(0<=a1/\a1<=3000000)->bg x λe=>e=0->(0<=a0/\a0<B)/\Zi a2/\0<=a1/\a1<=3000000:=λh h2=>h.mono λ_ _ _=>⟨hb w,he (by simpa using q),h2⟩;refine bg.bU (λb=>b=false->0<=a1/\a1<=3000000) (λK hK=>?_) λb Rj=>bg.bif (λ_=>.ret λe=>by cases e) λw2=>fin ?_ (Rj w2)
 ·refine bg.eq rfl<|bg.bind (P:=λb=>b=false->0<=a1/\a1<=3000000) (bg.bif (λ_=>.ret λe=>by cases e) λz=>bg.bind (MH a2) λs hs=>bg.eq rfl<|.ret λe=>?_) hK;have:=of_decide_eq_false z;have:=of_decide_eq_false e;omega
 refine bg.bU (λ_=>True) (λK hK=>bg.eq Y<|bg.any Q2 λ_=>bg.any Q2 λ_=>bg.any Q2 λ_=>hK _ trivial) λb _=>bg.bif (λ_=>.ret trivial) λ_=>?_;refine bg.bU (λ_=>True) (λK hK=>bg.eq Y<|bg.any Q2 λ_=>bg.any Q2 λ_=>bg.any Q2 λ_=>hK _ trivial) λb _=>bg.bif (λ_=>.ret trivial) λ_=>?_;refine bg.bU (λ_=>True) (λK hK=>bg.eq Y<|bg.any Q2 λ_=>hK _ trivial) λb _=>bg.bif (λ_=>.ret trivial) λ_=>?_;exact bg.bU (λ_=>True) (λK hK=>bg.eq Y<|bg.any Q2 λ_=>bg.any Q2 λ_=>hK _ trivial) λb _=>bg.bif (λ_=>.ret trivial) λ_=>.ret trivial
def nu(b q c:Int):sI:=⟨b,q,[⟨q,c⟩],1,1,0,0,0,1⟩
theorem ad4{b q c B:Int}(D:0<=b/\b<B)(h:1<=q/\q<=1000000/\-1000000<=c/\c<=1000000):gG (nu b q c) B=some 0:=by
 obtain⟨s,d,f,g,a⟩:=MH [⟨q,c⟩];have a:s=q:=by rw[a (Q1 h).2];simp[Ip]
 subst a;have e:ey [⟨s,c⟩]=some 0:=az (Q1 h).1 Y;simp[nu,gG,bU,e,d,show ¬b<0 by omega,show ¬B<=b by omega,show ¬s<0 by omega]
end
section
open Go.Fw
structure Q3 (n:Nt) (out:List Int) (us:List sI) (on:List Bool) (bs:List Bd):Prop where
 o:mM n out=some 0
 ul:us.length<=5
 bl:bs.length<=6
 u:∀u∈us,gG u n.dA=some 0
 on:on.length=us.length
 b:∀b∈bs,0<=b.uH/\b.uH<n.dA/\dM b.steps=some 0
theorem O6(n:Nt)(out:List Int)(us:List sI)(on:List Bool)(bs:List Bd)(hl:n.lines.length<=1000)(D:out.length<=1000):bg (nE n out us on bs) λe=>e=0↔Q3 n out us on bs:=by
 obtain⟨e,p,_⟩:=MD n out hl D;obtain⟨B,ls⟩:=n;unfold nE;refine bg.eq p<|bg.eq Y<|bg.bif (λq=>.ret ⟨λz=>absurd z (of_decide_eq_true q),λc=>absurd (aob (p.symm.trans c.o)) (of_decide_eq_true q)⟩) λq=>?_;obtain rfl:e=0:=by simpa using q
 refine bg.bU (λb=>b=true↔5<us.length\/6<bs.length) (λK A=>bg.eq rfl<|bg.eq rfl<|bg.orB (λ_=>bg.eq rfl bg.dec) λy r=>A y ?_) λb l=>bg.bif (λw=>.ret ⟨λe=>(by cases e),λc=>by have:=c.ul;have:=c.bl;have:=l.1 w;omega⟩) λw=>bg.eq rfl ?_
 ·rw[r,decide_eq_true_eq];omega
 have a:us.length<=5/\bs.length<=6:=by
  have:¬(5<us.length\/6<bs.length):=λh=>by rw[l.2 h]at w;cases w
  omega
 refine bg.bind (P:=λy=>(∃e,y=.inr e/\e≠0/\¬Q3 ⟨B,ls⟩ out us on bs)\/(y=.inl ()/\∀u∈us,gG u B=some 0)) (bg.cnt id us.length (λi _=>∀u∈us.take i,gG u B=some 0) Y η ?_) ?_
 ·rintro i _ F rfl d;refine bg.eq Y<|bg.bif (λz=>?_) λz=>.inr (.inr ⟨Y,?_⟩)
  ·have z:i<us.length:=by simpa using z
   have k:=List.take_succ_eq_append_getElem z;have m:=List.getElem?_eq_getElem z;have g:=List.getElem_mem z;generalize us[i]=u at k m g;obtain⟨e,f,_⟩:=AM u B;refine bg.eq (bu m)<|bg.eq f<|bg.eq Y<|bg.bif (λv=>.inr (.inl ⟨e,Y,of_decide_eq_true v,λc=>of_decide_eq_true v (aob (f.symm.trans (c.u u g)))⟩)) λv=>bg.eq Y<|.inl z (bC ω) λx j=>?_;rw[k,List.mem_append,List.mem_singleton]at j;rcases j with t|rfl
   ·exact d x t
   rw[f];simpa using v
  obtain rfl:i=us.length:=by have:=of_decide_eq_false z;omega
  rw[List.take_length]at d;exact d
 rintro _ (⟨e,rfl,C,s⟩|⟨rfl,E⟩)
 ·exact .ret ⟨λe=>absurd e C,λc=>absurd c s⟩
 refine bg.eq rfl<|bg.eq rfl<|bg.eq rfl<|bg.bif (λz=>.ret ⟨λe=>(by cases e),λc=>absurd c.on (by have:=of_decide_eq_true z;omega)⟩) λz=>bg.eq rfl ?_;have D:on.length=us.length:=by have:=of_decide_eq_false z;omega
 refine bg.bind (P:=λy=>(∃e,y=.inr e/\e≠0/\¬Q3 ⟨B,ls⟩ out us on bs)\/(y=.inl ()/\∀b∈bs,0<=b.uH/\b.uH<B/\dM b.steps=some 0)) (bg.cnt id bs.length (λi _=>∀b∈bs.take i,0<=b.uH/\b.uH<B/\dM b.steps=some 0) Y η ?_) ?_
 ·rintro i _ F rfl d;refine bg.eq Y<|bg.bif (λz=>?_) λz=>.inr (.inr ⟨Y,?_⟩)
  ·have z:i<bs.length:=by simpa using z
   have k:=List.take_succ_eq_append_getElem z;have m:=List.getElem?_eq_getElem z;have g:=List.getElem_mem z;generalize bs[i]=u at k m g;obtain⟨e,f,_⟩:=Q0 u.steps;refine bg.eq (bu m)<|bg.bU (λb=>b=true↔u.uH<0\/B<=u.uH) (λK A=>bg.eq Y<|bg.orB (λ_=>bg.dec) λy r=>A y (by rw[r,decide_eq_true_eq])) λb l=>bg.bif (λv=>.inr (.inl ⟨1,Y,by decide,λc=>by have:=c.b u g;have:=l.1 v;dsimp only at*;omega⟩)) λv=>?_;have m:¬(u.uH<0\/B<=u.uH):=λh=>by rw[l.2 h]at v;cases v
   refine bg.eq f<|bg.eq Y<|bg.bif (λv=>.inr (.inl ⟨e,Y,of_decide_eq_true v,λc=>of_decide_eq_true v (aob (f.symm.trans (c.b u g).2.2))⟩)) λv=>bg.eq Y<|.inl z (bC ω) λx j=>?_;rw[k,List.mem_append,List.mem_singleton]at j;rcases j with t|rfl
   ·exact d x t
   exact⟨by omega,by omega,by rw[f];simpa using v⟩
  obtain rfl:i=bs.length:=by have:=of_decide_eq_false z;omega
  rw[List.take_length]at d;exact d
 rintro _ (⟨e,rfl,C,s⟩|⟨rfl,d⟩)
 ·exact .ret ⟨λe=>absurd e C,λc=>absurd c s⟩
 exact .ret ⟨λ_=>⟨p,a.1,a.2,E,D,d⟩,λ_=>Y⟩
def uv(us:List sI)(on:List Bool)(i:Nat):List Va:=match us[i]?,on[i]? with
 |some u,some true=>(List.range u.steps.length).map λk:Nat=>⟨⟨false,i,k⟩,u.uH,u.steps.getD k ⟨0,0⟩,1⟩
 |_,_=>[]
def bv(bs:List Bd)(i:Nat):List Va:=match bs[i]? with
 |some b=>(List.range b.steps.length).map λk:Nat=>⟨⟨true,i,k⟩,b.uH,b.steps.getD k ⟨0,0⟩,-1⟩
 |none=>[]
def GC(us:List sI)(on:List Bool)(n:Nat):List Va:=(List.range n).flatMap (uv us on)
def O7(bs:List Bd)(n:Nat):List Va:=(List.range n).flatMap (bv bs)
def pI(us:List sI)(on:List Bool)(bs:List Bd):List Va:=GC us on us.length++O7 bs bs.length
def Q4(a:Nat)(l:List Va):List (Int×Co):=(l.zipIdx a).map λp=>((p.2:Int),p.1.col)
theorem Q5(a:Nat)(l k:List Va):Q4 a (l++k)=Q4 a l++Q4 (a+l.length) k:=by
 unfold Q4;rw[List.zipIdx_append,List.map_append]
theorem tQ{α:Type}(f:Nat->List α)(n:Nat):(List.range (n+1)).flatMap f=(List.range n).flatMap f++f n:=by
 rw[List.range_succ,List.flatMap_append];simp
theorem tG{α:Type}(f:Nat->List α){c:Nat}:∀n,(∀i,i<n->(f i).length<=c)->((List.range n).flatMap f).length<=n*c
 |0,_=>by simp
 |n+1,h=>by
  rw[tQ,List.length_append,Nat.add_mul];have:=tG f n λi a=>h i ω;have:=h n ω;omega
theorem XJ{n a:Nat}{g:Nat->Va}:Q4 a ((List.range n).map g)=(List.range n).map λk=>(((a+k:Nat):Int),(g k).col):=by
 apply List.ext_getElem (by simp[Q4]);intro j b b;simp[Q4]
structure Sh (us:List sI) (on:List Bool) (bs:List Bd):Prop where
 u:us.length<=12
 b:bs.length<=12
 us:∀u∈us,u.steps.length<=6
 bs:∀b∈bs,b.steps.length<=6
theorem amV{us:List sI}{on:List Bool}(h:∀u∈us,u.steps.length<=6)(i:Nat):(uv us on i).length<=6:=by
 unfold uv;split
 ·rename_i u a _;simp;exact h u (List.mem_of_getElem? a)
 simp
theorem amW{bs:List Bd}(h:∀b∈bs,b.steps.length<=6)(i:Nat):(bv bs i).length<=6:=by
 unfold bv;split
 ·rename_i u a;simp;exact h u (List.mem_of_getElem? a)
 simp
theorem Iq{us:List sI}{on:List Bool}{bs:List Bd}(h:Sh us on bs)(i j:Nat)(D:i<=12)(hj:j<=12):(GC us on i).length<=72/\(O7 bs j).length<=72:=by
 have a:=tG (uv us on) i λk _=>amV h.us k;have a:=tG (bv bs) j λk _=>amW h.bs k;unfold GC O7;omega
theorem Q6{us:List sI}{on:List Bool}{bs:List Bd}(h:Sh us on bs):mN us on bs=some (Q4 0 (pI us on bs)):=by
 unfold mN;have hu:=h.u;have hb:=h.b;refine MC<|bg.eq Y<|bg.pN (P:=λp=>p.1=Q4 0 (GC us on us.length)/\p.2=((GC us on us.length).length:Nat)) (bg.V1 Prod.snd us.length (λi o s=>o=Q4 0 (GC us on i)/\s.1=((GC us on i).length:Nat)) Y ⟨Y,Y⟩ ?_) ?_
 ·rintro i o ⟨_,_⟩ hi rfl ⟨rfl,rfl⟩;dsimp only;have hv:=(Iq h i 0 ω ω).1;refine bg.eq Y<|bg.bif (λq=>?_) λq=>.ret ?_
  ·have q:i<us.length:=by simpa using q
   have h5:=List.getElem?_eq_getElem q;have h6:=h.us _ (List.getElem_mem q);generalize us[i]=u at h5 h6;have hs:GC us on (i+1)=GC us on i++uv us on i:=tQ _ _;refine bg.eq (bu h5)<|bg.bU (λb=>b=true↔on[i]? ≠some true) (λK hK=>bg.eq Y<|bg.eq Y ?_) λb hb=>bg.bif (λw=>bg.eq Y<|.ret ⟨q,bC ω,?_⟩) λw=>?_
   ·refine bg.bind (P:=λb=>b=true↔on[i]? ≠some true) (bg.bif (λw=>.ret ?_) λw=>?_) hK
    ·have:=of_decide_eq_true w;simp[show on.length<=i by omega]
    have w:i<on.length:=by have:=of_decide_eq_false w;omega
    refine bg.eq (bu (List.getElem?_eq_getElem w)) ⟨_,Y,?_⟩;simp[w]
   ·have:uv us on i=[]:=by
     have:=hb.1 w;unfold uv;split
     ·rename_i h7;exact absurd h7 this
     rfl
    dsimp only;rw[hs,this];simp
   have ho:on[i]? =some true:=Classical.not_not.1 λz=>by rw[hb.2 z]at w;cases w
   have hu:uv us on i=(List.range u.steps.length).map λk:Nat=>(⟨⟨false,i,k⟩,u.uH,u.steps.getD k ⟨0,0⟩,1⟩:Va):=by unfold uv;rw[h5,ho]
   refine bg.eq Y<|bg.pN (P:=λp=>p.1=Q4 (GC us on i).length (uv us on i)/\p.2=((GC us on i).length+(uv us on i).length:Nat)) (bg.V1 Prod.snd u.steps.length (λk o s=>o=((List.range k).map λj=>((((GC us on i).length+j:Nat):Int),(⟨false,i,j⟩:Co)))/\s.1=((GC us on i).length+k:Nat)) Y ⟨Y,Y⟩ ?_) ?_
   ·rintro k o ⟨_,_⟩ hk rfl ⟨rfl,rfl⟩;dsimp only;refine bg.eq Y<|bg.bif (λz=>?_) λz=>.ret ?_
    ·have z:k<u.steps.length:=by simpa using z
     exact bg.emit<|bg.eq Y<|bg.eq Y<|.ret ⟨z,bC ω,by rw[List.range_succ,List.map_append];rfl,bC ω⟩
    obtain rfl:k=u.steps.length:=by have:=of_decide_eq_false z;omega
    exact⟨by rw[hu,XJ];exact List.append_nil _,by rw[hu,List.length_map,List.length_range]⟩
   rintro⟨o,e⟩ ⟨rfl,rfl⟩;exact bg.eq Y<|.ret ⟨q,bC ω,by rw[hs,Q5,Nat.zero_add];simp,by rw[hs,List.length_append]⟩
  obtain rfl:i=us.length:=by have:=of_decide_eq_false q;omega
  exact⟨List.append_nil _,Y⟩
 rintro⟨o,e⟩ ⟨rfl,rfl⟩;have hl:=(Iq h us.length 0 hu ω).1;refine bg.eq Y<|bg.pN (P:=λp=>p.1=Q4 (GC us on us.length).length (O7 bs bs.length)) (bg.V1 Prod.snd bs.length (λi o s=>o=Q4 (GC us on us.length).length (O7 bs i)/\s.1=((GC us on us.length).length+(O7 bs i).length:Nat)) Y ⟨Y,Y⟩ ?_) λp hp=>.ret ?_
 ·rintro i o ⟨_,_⟩ hi rfl ⟨rfl,rfl⟩;dsimp only;have hv:=(Iq h us.length i hu ω).2;refine bg.eq Y<|bg.bif (λq=>?_) λq=>.ret ?_
  ·have q:i<bs.length:=by simpa using q
   have h5:=List.getElem?_eq_getElem q;have h6:=h.bs _ (List.getElem_mem q);generalize bs[i]=u at h5 h6;have hs:O7 bs (i+1)=O7 bs i++bv bs i:=tQ _ _;have hu:bv bs i=(List.range u.steps.length).map λk:Nat=>(⟨⟨true,i,k⟩,u.uH,u.steps.getD k ⟨0,0⟩,-1⟩:Va):=by unfold bv;rw[h5]
   refine bg.eq (bu h5)<|bg.eq Y<|bg.pN (P:=λp=>p.1=Q4 ((GC us on us.length).length+(O7 bs i).length) (bv bs i)/\p.2=((GC us on us.length).length+(O7 bs i).length+(bv bs i).length:Nat)) (bg.V1 Prod.snd u.steps.length (λk o s=>o=((List.range k).map λj=>((((GC us on us.length).length+(O7 bs i).length+j:Nat):Int),(⟨true,i,j⟩:Co)))/\s.1=((GC us on us.length).length+(O7 bs i).length+k:Nat)) Y ⟨Y,Y⟩ ?_) ?_
   ·rintro k o ⟨_,_⟩ hk rfl ⟨rfl,rfl⟩;dsimp only;refine bg.eq Y<|bg.bif (λz=>?_) λz=>.ret ?_
    ·have z:k<u.steps.length:=by simpa using z
     exact bg.emit<|bg.eq Y<|bg.eq Y<|.ret ⟨z,bC ω,by rw[List.range_succ,List.map_append];rfl,bC ω⟩
    obtain rfl:k=u.steps.length:=by have:=of_decide_eq_false z;omega
    exact⟨by rw[hu,XJ];exact List.append_nil _,by rw[hu,List.length_map,List.length_range]⟩
   rintro⟨o,e⟩ ⟨rfl,rfl⟩;exact bg.eq Y<|.ret ⟨q,bC ω,by rw[hs,Q5];simp,by rw[hs,List.length_append,Nat.add_assoc]⟩
  obtain rfl:i=bs.length:=by have:=of_decide_eq_false q;omega
  exact List.append_nil _
 show _++(p.1++[])=_;rw[hp,List.append_nil,pI,Q5,Nat.zero_add]
theorem GD(a:Nat)(l:List Va):(Q4 a l).length=l.length:=by simp[Q4]
theorem agX{us:List sI}{on:List Bool}{bs:List Bd}(h:Sh us on bs):vw us on bs=some ((pI us on bs).map (·.col)):=by
 have hl:=Iq h us.length bs.length h.u h.b;refine az (Q6 h)<|az (O4 (by_:=24) Prod.snd (0,⟨false,0,0⟩) _ ξ (by rw[GD,pI,List.length_append];omega) λk r _ _=>X0 _) ?_;rw[Q4,List.map_map];refine congrArg some (List.ext_getElem η λj c a=>by simp)
end
section
open Go.Fw
section ax4
variable {us:List sI}{on:List Bool}{bs:List Bd}
theorem Q7{v:Va}(h:v∈pI us on bs):(∃(i k:Nat) (u:sI) (s:Sp),v=⟨⟨false,i,k⟩,u.uH,s,1⟩/\us[i]? =some u/\on[i]? =some true/\u.steps[k]? =some s)\/∃(i k:Nat) (b:Bd) (s:Sp),v=⟨⟨true,i,k⟩,b.uH,s,-1⟩/\bs[i]? =some b/\b.steps[k]? =some s:=by
 unfold pI GC O7 at h;simp only[List.mem_append,List.mem_flatMap,List.mem_range]at h;rcases h with⟨i,_,h⟩|⟨i,_,h⟩
 ·left;unfold uv at h;split at h
  ·rename_i u a d;obtain⟨k,c,rfl⟩:=List.mem_map.1 h;exact⟨i,k,u,_,Y,a,d,by simp[List.mem_range.1 c]⟩
  cases h
 right;unfold bv at h;split at h
 ·rename_i b a;obtain⟨k,c,rfl⟩:=List.mem_map.1 h;exact⟨i,k,b,_,Y,a,by simp[List.mem_range.1 c]⟩
 cases h
def VOk(B:Nat)(vs:List Va):Prop:=vs.length<=1000/\∀v∈vs,(v.sign=1\/v.sign=-1)/\(∃b:Nat,v.uH=b/\b<B)/\1<=v.step.kS/\v.step.kS<=1000000/\-1000000<=v.step.dm/\v.step.dm<=1000000
theorem Tu{l:List Sp}(h:Zi l){k:Nat}{s:Sp}(e:l[k]? =some s):1<=s.kS/\s.kS<=1000000/\-1000000<=s.dm/\s.dm<=1000000:=h.2.2 s (List.mem_of_getElem? e)
theorem Q3.vok{n:Nt}{out:List Int}{B:Nat}(h:Q3 n out us on bs)(H:n.dA=B)(D:Sh us on bs):VOk B (pI us on bs):=by
 have hl:=Iq D us.length bs.length D.u D.b;refine⟨by rw[pI,List.length_append];omega,λv a=>?_⟩;rcases Q7 a with⟨i,k,u,s,rfl,c,_,f⟩|⟨i,k,b,s,rfl,c,f⟩
 ·obtain⟨e,a,d⟩:=AM u n.dA;have:=h.u u (List.mem_of_getElem? c);rw[this]at a;have:=d (aob a).symm;exact⟨.inl Y,⟨u.uH.toNat,by dsimp only;omega,by omega⟩,Tu this.2.1 f⟩
 obtain⟨e,a,d⟩:=Q0 b.steps;have:=h.b b (List.mem_of_getElem? c);rw[this.2.2]at a;exact⟨.inr Y,⟨b.uH.toNat,by dsimp only;omega,by omega⟩,Tu (d (aob a).symm) f⟩
end ax4
def w6(vs:List Va)(n:Int)(ob:List (List Qr))(R:List ((Nat->Rat)×Int)):xb:=⟨vs,⟨n,ob,R.map λr=>vq vs.length r.1,R.map λr=>qn (r.2:Rat)⟩⟩
section asm
variable {vs:List Va}{n:Int}{ob:List (List Qr)}{R:List ((Nat->Rat)×Int)}{f:Nat->Rat}{b:Int}
theorem Kg{x:xb}{e:Va->Option Qr}(D:x.vs=vs)(hl:vs.length<=1000)(H:∀(j:Nat) v,vs[j]? =some v->e v=some (qn (f j))):eF x e=some (vq vs.length f):=by
 unfold eF;rw[D];refine az Y<|az (fE ω ω)<|az Y<|az (zF (λj=>qn (f j)) (λj l hj hl _=>?_) (λl hl=>by simp)) Y;have a:=List.getElem?_eq_getElem hj;exact az Y<|cm (decide_eq_true ω)<|az (bY hj)<|az a<|az (H j _ a)<|az (bY (show j<l.length by omega))<|az (cL (show j<l.length by omega))<|az Y (lF (bC ω) Y)
theorem Kh(H:R.length<=1000000)(D:fQ b):eG (w6 vs n ob R) (vq vs.length f) b=some (w6 vs n ob (R++[(f,b)])):=by
 refine az (ru ω (by simp[w6];omega))<|az (cz D).1<|az (ru ω (by simp[w6];omega)) ?_;simp[w6]
theorem Tv{L:Nat}(K:R.length<=100000)(D:fQ b)(H:∀j,j<vs.length->FQ L (f j))(I:1<=L)(hL:L<=1000000)(hl:vs.length<=1000):gy (w6 vs n ob R) (vq vs.length f) b=some (w6 vs n ob (R++[(f,b),(λj=>-f j,b)])):=by
 unfold gy;rw[b9];refine az Y<|az (fE ω ω)<|az Y<|az (zF (λj=>qn (-f j)) (λj l hj hl _=>?_) (λl hl=>by simp))<|az (Kh ω D)<|az (Kh θ D) η;exact az Y<|cm (decide_eq_true ω)<|az (bu (fU hj))<|az (((H j hj).rep I).neg ω).1<|az (bY (show j<l.length by omega))<|az (cL (show j<l.length by omega))<|az Y (lF (bC ω) Y)
def TW(vs:List Va)(r:(Va->Rat)×Int):(Nat->Rat)×Int:=(λj=>r.1 (vs.getD j ⟨⟨false,0,0⟩,0,⟨0,0⟩,0⟩),r.2)
theorem Ir{g:Va->Rat}{j:Nat}{v:Va}(h:vs[j]? =some v):(TW vs (g,b)).1 j=g v:=by simp[TW,List.getD,h]
def sW(g:Va->Rat)(b:Int):List ((Va->Rat)×Int):=[(g,b),(λv=>-g v,b)]
theorem Is{m:Nat}{z:xb}{body:Int×xb->Option ((Int×xb)⊕xb)}(g:Nat->List ((Va->Rat)×Int))(hg:∀i,i<m->(g i).length<=2)(hm:m<=1000)(hR:R.length<=1000)(K:z=w6 vs n ob R)(H:∀i D,i<m->D.length<=10000->body ((i:Int),w6 vs n ob D)=some (.inl (((i+1:Nat):Int),w6 vs n ob (D++(g i).map (TW vs)))))(I:∀x,body ((m:Int),x)=some (.inr x)):bH body (0,z)=some (w6 vs n ob (R++((List.range m).flatMap g).map (TW vs))):=by
 refine qg (λi=>w6 vs n ob (R++((List.range i).flatMap g).map (TW vs))) m (by rw[K];simp) (λi a=>?_) (I _);rw[H i _ a (by
  have:=tG g i λk a=>hg k ω;simp only[List.length_append,List.length_map];omega),tQ,List.map_append,List.append_assoc]
end asm
theorem XK{l:List Va}{k:Nat}{v:Va}(h:l[k]? =some v):(Q4 0 l).getD k ((0,⟨false,0,0⟩):Int×Co)=((k:Int),v.col):=by
 obtain⟨b,a⟩:=List.getElem?_eq_some_iff.1 h;rw[List.getD_eq_getElem?_getD,List.getElem?_eq_getElem (by rw[GD];exact b)];simp[Q4,a]
theorem Tw(i:Int):((-i:Int):Rat)=-(i:Rat):=Rat.intCast_neg i
def NR(v:Va):Rat:=-(v.sign:Rat)*(v.step.dm:Rat)
theorem Tx{us:List sI}{on:List Bool}{bs:List Bd}{B:Nat}(h:Sh us on bs)(D:VOk B (pI us on bs)):mh us on bs=some (w6 (pI us on bs) (pI us on bs).length [vq (pI us on bs).length λj=>NR ((pI us on bs).getD j ⟨⟨false,0,0⟩,0,⟨0,0⟩,0⟩)] []):=by
 unfold mh;have hl:=D.1;refine az (Q6 h)<|wV (λk=>(⟨(pI us on bs).take k,⟨0,[],[],[]⟩⟩:xb)) Y (λk a=>?_) ?_
 ·rw[GD]at a;have d:=List.getElem?_eq_getElem a;have l:=List.getElem_mem a;have g:=List.take_succ_eq_append_getElem a;generalize (pI us on bs)[k]=v at d l g;rw[XK d];have e:uE 56 ((pI us on bs).take k) [v]=some ((pI us on bs).take (k+1)):=by rw[ru ξ θ,g]
  rcases Q7 l with⟨i,j,u,s,rfl,a,_,d⟩|⟨i,j,b,s,rfl,a,d⟩
  ·exact az Y<|az Y<|az (bu a)<|az (bu a)<|az (bu d)<|az e Y
  exact az Y<|az Y<|az (bu a)<|az (bu a)<|az (bu d)<|az e Y
 rw[GD];refine az Y<|az (Kg (vs:=pI us on bs) (f:=λj=>NR ((pI us on bs).getD j ⟨⟨false,0,0⟩,0,⟨0,0⟩,0⟩)) η ω λj v hj=>?_) (by simp[w6]);have d:=D.2 v (List.mem_of_getElem? hj);rw[List.getD_eq_getElem?_getD,hj];obtain⟨c,e,⟨q,p⟩,s⟩:=v;dsimp only at d;have a:IntKind.i64.wrap (0-s)=-s:=by rw[cV ω ω];omega
 have e:IntKind.i64.wrap (-s*p)=-s*p:=by rcases d.1 with rfl|rfl<;>exact cV ω ω
 unfold mO;refine az (congrArg some a)<|az (congrArg some e)<|az (cz (by rcases d.1 with rfl|rfl<;>unfold fQ<;>omega)).1 ?_;simp[NR,Rat.intCast_mul,Rat.intCast_neg]
def Bn(isl:List Int)(i:Nat)(v:Va):Rat:=if isl.getD v.uH.toNat 0=(i:Int)then-(v.sign:Rat)else 0
def MI(φ:Nat->Nat->Rat)(l:Nat)(v:Va):Rat:=(v.sign:Rat)*φ l v.uH.toNat
def E9(i:Nat)(v:Va):Rat:=if v.col.X0=true\/v.col.which≠i then 0 else-1
def AN(us:List sI)(on:List Bool)(i:Nat):List ((Va->Rat)×Int):=match us[i]?,on[i]? with
 |some u,some true=>[(E9 i,-u.low)]
 |_,_=>[]
theorem YY{us:List sI}{on:List Bool}{vs:List Va}{n:Int}{ob:List (List Qr)}{R:List ((Nat->Rat)×Int)}(D:us.length<=1000)(K:on.length=us.length)(hl:vs.length<=1000)(I:∀u∈us,0<=u.low/\u.low<=3000000)(H:R.length<=1000):gW (w6 vs n ob R) us on=some (w6 vs n ob (R++((List.range us.length).flatMap (AN us on)).map (TW vs))):=by
 unfold gW;refine az Y<|az (Is (R:=R) (AN us on) (λi _=>by unfold AN;split<;>simp) D H Y (λi c b a=>?_) (λx=>by simp)) Y;have a:=List.getElem?_eq_getElem b;have c:=I _ (List.getElem_mem b);generalize us[i]=u at a c;have b:=List.getElem?_eq_getElem (show i<on.length by omega);generalize on[i]=o at b;have c:AN us on i=if o=true then[(E9 i,-u.low)]else[]:=by
  unfold AN;rw[a,b];cases o<;>rfl
 refine az Y<|cm (decide_eq_true ω)<|az (bu a)<|az (bu b)<|az Y ?_;rw[c];cases o with
 |false=>exact cm Y<|az Y (lF (bC ω) η)
 |true=>
  refine cq Y<|az (Kg (vs:=vs) (f:=(TW vs (E9 i,-u.low)).1) Y hl λj v hj=>?_)<|az (congrArg some (show IntKind.i64.wrap (0-u.low)=-u.low by rw[cV ω ω];omega))<|az (Kh ω (by unfold fQ;omega))<|az Y (lF (bC ω) Y);rw[Ir hj];unfold iM E9 bU;by_cases a:v.col.X0=true
  ·simp[a];rfl
  by_cases b:v.col.which=i
  ·simp[a,b,(cz (n:=-1) ξ).1]
  simp[a,b];rfl
def V4(vs:List Va):List ((Nat->Rat)×Int):=(List.range vs.length).map λk=>(dl k,(vs.getD k ⟨⟨false,0,0⟩,0,⟨0,0⟩,0⟩).step.kS)
theorem NS{B:Nat}{vs:List Va}{n:Int}{ob:List (List Qr)}{R:List ((Nat->Rat)×Int)}(D:VOk B vs)(H:R.length<=1000):fD (w6 vs n ob R)=some (w6 vs n ob (R++V4 vs)):=by
 unfold fD;have hl:=D.1;refine az Y<|az (qg (e:=w6 vs n ob (R++V4 vs)) (λi=>w6 vs n ob (R++(List.range i).map λk=>(dl k,(vs.getD k ⟨⟨false,0,0⟩,0,⟨0,0⟩,0⟩).step.kS))) vs.length η (λi a=>?_) (by simp[w6,V4])) Y;have b:=List.getElem?_eq_getElem a;have c:=D.2 _ (List.getElem_mem a);generalize vs[i]=v at b c;refine az Y<|cm (decide_eq_true (Int.ofNat_lt.2 a))<|az (bY a)<|az b<|az Y<|az (fE ω (by show vs.length<=_;omega))<|az (cz (n:=1) ξ).1<|az (bY (by rw[List.length_replicate];exact a))<|az (cL (by rw[List.length_replicate];exact a))<|az ((congrArg (λr=>eG _ r _) (V0 a)).trans (Kh θ (by unfold fQ;omega)))<|az Y (lF (bC ω) ?_);rw[List.range_succ,List.map_append,List.append_assoc];simp[b]
def It(φ:Nat->Nat->Rat)(ls:List Ln)(S:List Nat)(p:Nat):List ((Va->Rat)×Int):=match S[p]?,(S[p]?.bind λl=>ls[l]?)with
 |some l,some x=>sW (MI φ l) x.cap
 |_,_=>[]
theorem GF{φ:Nat->Nat->Rat}{ls:List Ln}{S:List Nat}(p:Nat):(It φ ls S p).length<=2:=by unfold It;split<;>simp[sW]
def Q8(isl:List Int)(cnt:Nat)(φ:Nat->Nat->Rat)(ls:List Ln)(S:List Nat)(us:List sI)(on:List Bool):List ((Va->Rat)×Int):=
 (List.range cnt).flatMap (λi=>sW (Bn isl i) 0)++(List.range S.length).flatMap (It φ ls S)++(List.range us.length).flatMap (AN us on)
def prog(vs:List Va)(C:List ((Va->Rat)×Int)):Lr:=(w6 vs vs.length [vq vs.length λj=>NR (vs.getD j ⟨⟨false,0,0⟩,0,⟨0,0⟩,0⟩)] (C.map (TW vs)++V4 vs)).lp
theorem ad5{n:Nt}{out:List Int}{us:List sI}{on:List Bool}{bs:List Bd}{B cnt:Nat}{isl:List Int}{φ:Nat->Nat->Rat}(hB:GA n B)(hc:Q3 n out us on bs)(H:Sh us on bs)(D:VOk B (pI us on bs))(h1:jr n out=some (isl,0))(h1l:isl.length=B)(h2:iB n out=some ((cnt:Int),0))(aCQ:cnt<=6)(h3:oR n out=some ((rG out n.lines.length).map λk:Nat=>(k:Int),0))(h4:fN n out=some ((List.range n.lines.length).map λk=>vq B (φ k),0))(I:∀k N,Gd 640 N (φ k))(K:nE n out us on bs=some 0):j1 n out us on bs=some (prog (pI us on bs) (Q8 isl cnt φ n.lines (rG out n.lines.length) us on),0):=by
 have hl:=D.1;have C:∀u∈us,0<=u.low/\u.low<=3000000:=λu g=>by
  obtain⟨e,t,d⟩:=AM u n.dA;rw[hc.u u g]at t;exact(d (aob t).symm).2.2
 have g:∀{i:Int},fQ i->i.natAbs<4294967296->FQ 641 (i:Rat):=λh _=>(cz h).2.fq.mono ω;unfold j1;refine az K<|az Y<|cq Y<|az h1<|az Y<|cq Y<|az h2<|az Y<|cq Y<|az h3<|az Y<|cq Y<|az h4<|az Y<|cq Y<|az (Tx H D)<|az (Is (λi=>sW (Bn isl i) 0) (λ_ _=>Nat.le_refl 2) (m:=cnt) ω η Y (λi A o y=>?_) (λx=>by simp))<|az Y ?_
 ·have fq:∀v∈pI us on bs,FQ 641 (Bn isl i v):=λv o=>by
   unfold Bn;split
   ·rw[<-Tw];exact g (by rcases(D.2 v o).1 with e|e<;>rw[e]<;>decide) (by rcases(D.2 v o).1 with e|e<;>rw[e]<;>decide)
   exact qq ω
  refine az Y<|cm (decide_eq_true ω)<|az (Kg (vs:=pI us on bs) (f:=(TW (pI us on bs) (Bn isl i,0)).1) Y hl λj v hj=>?_)<|az (Tv (L:=641) ω ξ (λj hj=>?_) ω ω hl)<|az Y (lF (bC ω) (by simp[sW,TW]))
  ·have g:=D.2 v (List.mem_of_getElem? hj);rw[Ir hj];obtain⟨c,uH,E,s⟩:=v;obtain⟨r,⟨b,rfl,z⟩,_⟩:=g;dsimp only at r;unfold qm Bn;have t:IntKind.i64.wrap (0-s)=-s:=by rw[cV ω ω];omega
   refine az (bu (List.getElem?_eq_getElem ω))<|az Y ?_;have d:isl.getD ((b:Int).toNat) 0=isl[b]:=by simp[show b<isl.length by omega]
   dsimp only;rw[d];by_cases d:isl[b]=(i:Int)
   ·rw[if_pos d];refine cq (decide_eq_false (λw=>w d))<|az (congrArg some t)<|az (cz (by rcases r with rfl|rfl<;>decide)).1 (by rw[Tw])
   rw[if_neg d];exact cm (decide_eq_true d) Y
  rw[Ir (List.getElem?_eq_getElem hj)];exact fq _ (List.getElem_mem hj)
 rw[List.length_map];have d:=C9 out n.lines.length;have d:=hB.l;refine az (Is (It φ n.lines (rG out n.lines.length)) (λi _=>GF i) (m:=(rG out n.lines.length).length) ω (by have:=tG (λi=>sW (Bn isl i) 0) (c:=2) cnt λ_ _=>Nat.le_refl 2;simp only[List.length_append,List.length_map,List.length_nil];omega) Y (λp A hp y=>?_) (λx=>by simp))<|az (YY (by have:=H.u;omega) hc.on hl C ?_)<|az (NS D ?_) ?_
 ·obtain⟨l,t,A,a,b,x,c,y,J,G,F,C,d,K⟩:=C8 hB hp;have fq:∀v∈pI us on bs,∀q:Qr,mq 640 q (φ l v.uH.toNat)->ei (qn (v.sign:Rat)) q=some (qn (MI φ l v))/\FQ 642 (MI φ l v):=λv o q d=>by
   have:=(cz (n:=v.sign) (by rcases(D.2 v o).1 with e|e<;>rw[e]<;>decide)).2.mul d ω;exact⟨this.1,this.2.fq⟩
  have o:∀k,mq 640 (qn (φ l k)) (φ l k):=λk=>((I l k).fq (Nat.le_refl k)).rep ω;refine az Y<|cm (decide_eq_true ω)<|az (GB t)<|az (Kg (vs:=pI us on bs) (f:=(TW (pI us on bs) (MI φ l,c)).1) Y hl λj v hj=>?_)<|az (bu y)<|az (Tv (L:=642) (b:=(c:Int)) ω (by unfold fQ;omega) (λj hj=>?_) ω ω hl)<|az Y (lF (bC ω) ?_)
  ·have g:=List.mem_of_getElem? hj;have r:=fq v g _ (o _);obtain⟨d,⟨b,z,C⟩,_⟩:=D.2 v g;rw[Ir hj];obtain⟨g,uH,E,s⟩:=v;subst z;exact az (cz (by dsimp only at d;rcases d with rfl|rfl<;>decide)).1<|az (bu (a:=vq B (φ l)) (by simp[A]))<|az (bu (fU C))<|az r.1 rfl
  ·rw[Ir (List.getElem?_eq_getElem hj)];exact(fq _ (List.getElem_mem hj) _ (o _)).2
  unfold It;rw[t];simp[y,sW,TW]
 ·have g:=tG (λi=>sW (Bn isl i) 0) (c:=2) cnt λ_ _=>Nat.le_refl 2;have d:=tG (It φ n.lines (rG out n.lines.length)) (c:=2) (rG out n.lines.length).length λi _=>GF i;simp only[List.length_append,List.length_map,List.length_nil];omega
 ·have g:=tG (λi=>sW (Bn isl i) 0) (c:=2) cnt λ_ _=>Nat.le_refl 2;have d:=tG (It φ n.lines (rG out n.lines.length)) (c:=2) (rG out n.lines.length).length λi _=>GF i;have a3:=tG (AN us on) (c:=1) us.length λi _=>by unfold AN;split<;>simp
  have:=H.u;simp only[List.length_append,List.length_map,List.length_nil];omega
 simp[prog,Q8,w6]
end
section
open Go.Fw
structure Fa (n m:Nat) (G:Nat->Nat->Rat) (z0:Nat->Rat):Prop where
 hn:n<=13
 hm:m<=60
 hg:Uc m G (λj=>n+j)
 hG:∀i,i<m->Gd 650 (n+m) (G i)
 hc:ry n m G z0 z0 (λj=>n+j)
 hz:Gd 650 (n+m) z0
 h0:z0 (n+m)=0
 cap:∀k,k<n->∃i,i<m/\∀j,j<n->G i j=if j=k then 1 else 0
structure Ab where
 F:Nat->Nat->Rat
 b:Nat->Nat
 fr:Nat->Nat
 Z:Nat->Rat
def fv(n N:Nat)(D:Nat->Nat)(k:Nat):Nat:=if k<n then D k else N
structure qt (n m:Nat) (G:Nat->Nat->Rat) (z0:Nat->Rat) (a:Ab):Prop where
 t:Bm n m G a.F a.b
 z:ry n m G z0 a.Z a.b
 f:∀k,k<n->a.fr k<n+m/\¬rF m a.b (a.fr k)
 inj:∀k l,k<n->l<n->a.fr k=a.fr l->k=l
 all:∀v,v<n+m->rF m a.b v\/∃k,k<n/\a.fr k=v
def pv(a:Ab)(r c:Nat):Ab:=⟨Il a.F r (a.fr c),rC a.b r (a.fr c),λk=>if k=c then a.b r else a.fr k,λk=>a.Z k-a.Z (a.fr c)*(a.F r k/a.F r (a.fr c))⟩
section
variable {n m r c:Nat}{G:Nat->Nat->Rat}{z0:Nat->Rat}{a:Ab}
theorem qt.sz(l:Fa n m G z0)(h:qt n m G z0 a):(∀i,i<m->∀k,k<=n+m->FQ 5400000 (a.F i k))/\∀k,k<=n+m->FQ 5400000 (a.Z k):=by
 have c:hsz 650 n<=5400000:=Nat.le_trans (CL 650 l.hn) ξ;have:=h.t.size l.hG l.hc l.hz h.z;exact⟨λi d k b=>((this.1 i d).mono c).fq b,λk b=>(this.2.mono c).fq b⟩
theorem qt.pv(h:qt n m G z0 a)(hr:r<m)(D:c<n)(H:a.F r (a.fr c)≠0):qt n m G z0 (pv a r c):=by
 have o:=h.f c D;have g:¬rF m (rC a.b r (a.fr c)) (a.b r):=λ⟨j,hj,e⟩=>by
  unfold rC at e;split at e
  ·exact o.2 ⟨r,hr,e.symm⟩
  exact absurd (AJ h.t.hu hj hr e) (by assumption)
 refine⟨h.t.pivot hr o.1 H,h.z.pivot h.t hr H,λk d=>?_,λk l d hl e=>?_,λv p=>?_⟩
 ·show(if k=c then a.b r else a.fr k)<n+m/\¬rF m (rC a.b r (a.fr c)) (if k=c then a.b r else a.fr k);split
  ·exact⟨h.t.hb r hr,g⟩
  rename_i w;refine⟨(h.f k d).1,λ⟨j,hj,e⟩=>?_⟩;unfold rC at e;split at e
  ·exact w (h.inj k c d D e.symm)
  exact(h.f k d).2 ⟨j,hj,e⟩
 ·have e:(if k=c then a.b r else a.fr k)=(if l=c then a.b r else a.fr l):=e;split at e<;>split at e
  ·omega
  ·exact absurd ⟨r,hr,e⟩ (h.f l hl).2
  ·exact absurd ⟨r,hr,e.symm⟩ (h.f k d).2
  exact h.inj k l d hl e
 rcases h.all v p with⟨i,g,rfl⟩|⟨k,d,rfl⟩
 ·by_cases w:i=r
  ·exact .inr ⟨c,D,by show(if c=c then _ else _)=_;rw[if_pos Y,w]⟩
  exact .inl ⟨i,g,by show rC a.b r (a.fr c) i=_;unfold rC;rw[if_neg w]⟩
 by_cases w:k=c
 ·exact .inl ⟨r,hr,by show rC a.b r (a.fr c) r=_;unfold rC;rw[if_pos Y,w]⟩
 exact .inr ⟨k,d,by show(if k=c then _ else _)=_;rw[if_neg w]⟩
end
theorem ajh{S:Type}{w:Nat}(E:List Qr->S)(f h:Nat->Rat){body:Int×S->Option ((Int×S)⊕S)}(I:w<=1000)(H:∀(k:Nat) F,k<w->F k=f k->body ((k:Int),E (vq w F))=some (.inl (IntKind.i64.wrap ((k:Int)+1),E (vq w λj=>if j=k then h k else F j))))(D:∀l,body ((w:Int),l)=some (.inr l)):bH body (0,E (vq w f))=some (E (vq w h)):=by
 refine qg (λk=>E (vq w λj=>if j<k then h j else f j)) w η (λk a=>?_) (by rw[D];exact congrArg (λl=>some (Sum.inr (E l))) (eH λi b=>if_pos b));rw[H k _ a (if_neg (Nat.lt_irrefl k)),bC ω];refine lF Y (congrArg E (eH λj _=>?_));by_cases e:j=k
 ·rw[if_pos e,if_pos ω,e]
 rw[if_neg e];by_cases a:j<k
 ·rw[if_pos a,if_pos ω]
 rw[if_neg a,if_neg ω]
def el(f g:Nat->Rat)(c j:Nat):Rat:=(if j=c then 0 else f j)-f c*g j
theorem XL{w k:Nat}{F:Nat->Rat}{v:Rat}(h:F k=v):vq w F=vq w λj=>if j=k then v else F j:=eH λj _=>by
 by_cases e:j=k
 ·rw[if_pos e,e,h]
 rw[if_neg e]
section
variable {w c L:Nat}{f g:Nat->Rat}
theorem Ty(hw:w<=1000)(H:c<w)(D:1<=L)(hL:L<=100000000)(I:∀j,j<w->FQ L (f j))(K:∀j,j<w->FQ L (g j)):eW (vq w f) (vq w g) c=some (vq w (el f g c)):=by
 unfold eW;have b:c<(vq w f).length:=by rw[b9];exact H
 have i:=(I c H).rep D;refine az (bY b)<|az (fU H)<|az (i.sign ω)<|az Y ?_;by_cases a:f c=0
 ·refine cm (decide_eq_true (jE.2 a)) (congrArg some (eH λj _=>?_));unfold el;by_cases e:j=c
  ·rw[if_pos e,e,a];grind
  rw[if_neg e,a];grind
 refine cq (decide_eq_false λe=>a (jE.1 e))<|az (bY b)<|az (cL b) ?_;rw[b9,show(⟨⟨false,[]⟩,⟨false,[]⟩⟩:Qr)=qn 0 from rfl,pg];refine az Y<|az (ajh id _ (el f g c) hw (λk F a d=>?_) (λl=>by simp)) Y;have m:=(K k a).rep D;have n:mq L (qn (F k)) (F k):=by
  rw[d];split
  ·exact(CJ D)
  exact(I k a).rep D
 refine az Y<|cm (decide_eq_true ω)<|az (bY (by rw[b9];exact a))<|az (fU a)<|az (m.sign ω)<|az Y ?_;by_cases b:g k=0
 ·refine cq (decide_eq_false (λe=>e (jE.2 b))) (az Y (lF Y (XL (by rw[d,el,b];grind))))
 have h:=i.mul m ω;have i:=n.sub h.2 ω;refine cm (decide_eq_true (λe=>b (jE.1 e)))<|az (bY (by rw[id,b9];exact a))<|az (fU a)<|az h.1<|az i.1<|az (bY (by rw[id,b9];exact a))<|az (cL (by rw[id,b9];exact a)) ?_;rw[id,pg];exact az Y (lF Y (eH λj _=>by rw[d];rfl))
end
theorem jw{α:Type}{m k:Nat}{f:Nat->α}(h:k<m):((List.range m).map f)[k]? =some (f k):=by simp[h]
theorem MJ{α:Type}{m k:Nat}{f:Nat->α}{v:α}:((List.range m).map f).set k v=(List.range m).map λj=>if j=k then v else f j:=by
 apply List.ext_getElem η;intro j a a;simp only[List.length_map,List.length_range]at a;rw[List.getElem_set];by_cases e:k=j
 ·simp[e]
 simp[e,show ¬j=k by omega]
theorem iK{α:Type}{m:Nat}{f:Nat->α}:((List.range m).map f).length=m:=by simp
theorem zH{α:Type}{m:Nat}{f g:Nat->α}(h:∀i,i<m->f i=g i):(List.range m).map f=(List.range m).map g:=List.map_congr_left λi a=>h i (List.mem_range.1 a)
def qu(n m:Nat)(a:Ab)(i:Nat):List Qr:=vq (n+1) λk=>a.F i (fv n (n+m) a.fr k)
def Fb(n m:Nat)(a:Ab):List Qr:=vq (n+1) λk=>a.Z (fv n (n+m) a.fr k)
def uD(m:Nat)(b:Nat->Nat):List Int:=(List.range m).map λi=>(b i:Int)
def dX(n m:Nat)(a:Ab)(p u v:Int):Dx:=⟨n,uD m a.b,uD n a.fr,(List.range m).map (qu n m a),[Fb n m a],p,u,v⟩
def dP(n m:Nat)(a:Ab):Dp:=⟨n,uD m a.b,uD n a.fr,(List.range m).map (qu n m a),Fb n m a⟩
section
variable {n m r c:Nat}{G:Nat->Nat->Rat}{z0:Nat->Rat}{a:Ab}
theorem XM(h:qt n m G z0 a)(k:Nat):fv n (n+m) a.fr k<=n+m:=by
 unfold fv;split
 ·rename_i w;exact Nat.le_of_lt (h.f k w).1
 exact Nat.le_refl _
def gR(n m:Nat)(a:Ab)(r c k:Nat):Rat:=((1:Int):Rat)/a.F r (a.fr c)*(if k=c then 1 else a.F r (fv n (n+m) a.fr k))
theorem ad6(D:c<n)(k:Nat):fv n (n+m) (pv a r c).fr k=if k=c then a.b r else fv n (n+m) a.fr k:=by
 unfold fv pv;by_cases e:k=c
 ·simp[e,D]
 by_cases d:k<n<;>simp[e,d]
theorem agY(h:qt n m G z0 a)(hr:r<m)(D:c<n)(H:a.F r (a.fr c)≠0):qu n m (pv a r c) r=vq (n+1) (gR n m a r c):=eH λk _=>by
 rw[ad6 D];show(if r=r then _ else _)=_;rw[if_pos rfl];unfold gR;by_cases e:k=c
 ·rw[if_pos e,if_pos e,h.t.hu r r hr hr,if_pos rfl];grind
 rw[if_neg e,if_neg e,Rat.div_def,Rat.div_def];grind
theorem ax6(h:qt n m G z0 a)(hr:r<m)(H:c<n)(K:a.F r (a.fr c)≠0){i:Nat}(I:i<m)(D:i≠r):qu n m (pv a r c) i=vq (n+1) (el (λk=>a.F i (fv n (n+m) a.fr k)) (gR n m a r c) c):=eH λk _=>by
 rw[ad6 H];show(if i=r then _ else _)=_;have b:fv n (n+m) a.fr c=a.fr c:=if_pos H;rw[if_neg D,el,gR,b];by_cases e:k=c
 ·rw[if_pos e,if_pos e,if_pos e,h.t.hu r r hr hr,if_pos Y,h.t.hu i r I hr,if_neg D];grind
 rw[if_neg e,if_neg e,if_neg e,Rat.div_def,Rat.div_def];grind
theorem ax7(h:qt n m G z0 a)(hr:r<m)(D:c<n)(H:a.F r (a.fr c)≠0):Fb n m (pv a r c)=vq (n+1) (el (λk=>a.Z (fv n (n+m) a.fr k)) (gR n m a r c) c):=eH λk _=>by
 rw[ad6 D];show a.Z _-_=_;have b:fv n (n+m) a.fr c=a.fr c:=if_pos D;rw[el,gR,b];by_cases e:k=c
 ·rw[if_pos e,if_pos e,if_pos e,h.t.hu r r hr hr,if_pos Y,h.z.z r hr];grind
 rw[if_neg e,if_neg e,if_neg e,Rat.div_def,Rat.div_def];grind
theorem aji(l:Fa n m G z0)(h:qt n m G z0 a)(hr:r<m)(D:c<n)(H:a.F r (a.fr c)≠0)(k:Nat):FQ 20000000 (gR n m a r c k):=by
 have b:=(h.sz l).1 r hr;have d:=FQ.mul (((cz (n:=1) ξ).2.fq).div (b _ (Nat.le_of_lt (h.f c D).1)) H) (M:=5400000) (y:=if k=c then 1 else a.F r (fv n (n+m) a.fr k)) (by
  split
  ·exact FQ.int (i:=1) (vz ω) ω
  exact b _ (XM h k))
 exact d.mono ω
theorem MK{S:Type}(l:Fa n m G z0)(h:qt n m G z0 a)(hr:r<m)(K:c<n)(h0:a.F r (a.fr c)≠0)(E:List (List Qr)->S){body:Int×S->Option ((Int×S)⊕S)}(hb:∀(k:Nat) M,body ((k:Int),E M)=bif decide ((k:Int)<(n+1:Nat))then(Ds M r k).bind λpP=>(M6 M r pP).bind λD=>(cv D).bind λI=>bif decide ((I:Int)≠0)then(ei (qn (((1:Int):Rat)/a.F r (a.fr c))) D).bind λsL=>(Ds M r k).bind λmu=>(Rk M r mu sL).bind λH=>some (.inl (IntKind.i64.wrap ((k:Int)+1),E H))else some (.inl (IntKind.i64.wrap ((k:Int)+1),E M))else some (.inr (E M)))(he:∀s,body (((n+1:Nat):Int),s)=some (.inr s)):bH body (0,E (((List.range m).map (qu n m a)).set r (vq (n+1) λj=>if j=c then 1 else a.F r (fv n (n+m) a.fr j))))=some (E (((List.range m).map (qu n m a)).set r (vq (n+1) (gR n m a r c)))):=by
 have hn:=l.hn;have g:=(h.sz l).1 r hr;have o:r<((List.range m).map (qu n m a)).length:=by rw[iK];exact hr
 refine ajh (λv=>E (((List.range m).map (qu n m a)).set r v)) _ (gR n m a r c) ω (λk F b d=>?_) he;have p:mq 5400000 (qn (F k)) (F k):=by
  rw[d];split
  ·exact(FQ.int (i:=1) (vz ω) ω).rep ω
  exact(g _ (XM h k)).rep ω
 have u:=((cz (n:=1) ξ).2.div ((g _ (Nat.le_of_lt (h.f c K).1)).rep ω) ω h0).2;have g:(((List.range m).map (qu n m a)).set r (vq (n+1) F))[r]? =some (vq (n+1) F):=nR o;have o:Ds (((List.range m).map (qu n m a)).set r (vq (n+1) F)) r (k:Int)=some k:=by
  simp only[Ds,g,Option.bind_some];exact bY (by rw[b9];exact b)
 have q:M6 (((List.range m).map (qu n m a)).set r (vq (n+1) F)) r k=some (qn (F k)):=by
  simp only[M6,g,Option.bind_some];exact fU b
 have t:=u.mul p ω;have u:Rk (((List.range m).map (qu n m a)).set r (vq (n+1) F)) r k (qn (((1:Int):Rat)/a.F r (a.fr c)*F k))=some (((List.range m).map (qu n m a)).set r (vq (n+1) λj=>if j=k then gR n m a r c k else F j)):=by
  simp only[Rk,g,Option.bind_some];rw[cL (by rw[b9];exact b),pg,Option.bind_some,List.set_set,d];rfl
 rw[hb k];refine cm (decide_eq_true ω)<|az o<|az q<|az (p.sign ω) ?_;by_cases b:F k=0
 ·refine cq (decide_eq_false λe=>e (jE.2 b)) (lF Y (congrArg _ (congrArg _ (XL ?_))));rw[gR,<-d,b];grind
 exact cm (decide_eq_true λe=>b (jE.1 e))<|az t.1<|az o<|az u Y
theorem O8{S:Type}(l:Fa n m G z0)(h:qt n m G z0 a)(hr:r<m)(D:c<n)(H:a.F r (a.fr c)≠0)(E:List (List Qr)->S){body:Int×S->Option ((Int×S)⊕S)}(K:∀(i:Nat) M,body ((i:Int),E M)=bif decide ((i:Int)<m)then(fG M i).bind λI=>(M[I]?).bind λ_=>bif decide ((i:Int)≠r)then(ll2 M I r).bind λp=>(eW p.1 p.2 c).bind λl=>some (.inl (IntKind.i64.wrap ((i:Int)+1),E (List.set (List.set M r p.2) I l)))else some (.inl (IntKind.i64.wrap ((i:Int)+1),E M))else some (.inr (E M))):bH body (0,E (((List.range m).map (qu n m a)).set r (vq (n+1) (gR n m a r c))))=some (E ((List.range m).map (qu n m (pv a r c)))):=by
 have hm:=l.hm;have hn:=l.hn;refine qg (λi=>E ((List.range m).map λj=>if j=r\/j<i then qu n m (pv a r c) j else qu n m a j)) m ?_ (λi b=>?_) ?_
 ·rw[MJ];refine congrArg E (zH λj _=>?_);by_cases e:j=r
  ·simp only[e, ↓reduceIte,true_or];exact(agY h hr D H).symm
  simp[e]
 ·rw[K];refine cm (decide_eq_true ω)<|az (bY (by rw[iK];exact b))<|az (jw b) ?_;by_cases e:i=r
  ·refine cq (decide_eq_false ω) (lF (bC ω) (congrArg E (zH λj _=>?_)));by_cases d:j=r
   ·simp[d]
   simp[d,show(j<i+1)=(j<i) by simp;omega]
  have o:ll2 ((List.range m).map λj=>if j=r\/j<i then qu n m (pv a r c) j else qu n m a j) i r=some (qu n m a i,vq (n+1) (gR n m a r c)):=by
   simp[ll2,e,b,hr,agY h hr D H]
  have d:=Ty (c:=c) (L:=20000000) (f:=λk=>a.F i (fv n (n+m) a.fr k)) (g:=gR n m a r c) (w:=n+1) ω ω ω ω (λj _=>((h.sz l).1 i b _ (XM h j)).mono ω) (λj _=>aji l h hr D H j);refine cm (decide_eq_true ω)<|az o<|az d (lF (bC ω) (congrArg E ?_));rw[<-ax6 h hr D H b e,MJ,MJ];refine zH λj _=>?_;by_cases d:j=i
  ·simp[d]
  by_cases b:j=r
  ·rw[if_neg d,if_pos b,if_pos (.inl b),b,agY h hr D H]
  simp[d,b,show(j<i+1)=(j<i) by simp;omega]
 rw[K];refine cq (decide_eq_false ω) (congrArg (λl=>some (Sum.inr (E l))) (zH λj hj=>by simp[hj]))
theorem Q9{m r v:Nat}{b:Nat->Nat}:(uD m b).set r (v:Int)=uD m λj=>if j=r then v else b j:=by
 rw[uD,MJ];exact zH λj _=>by by_cases e:j=r<;>simp[e]
theorem ir{m k:Nat}{b:Nat->Nat}(h:k<m):(uD m b)[k]? =some (b k:Int):=jw h
theorem jb{m:Nat}{b:Nat->Nat}:(uD m b).length=m:=iK
theorem V5{M:List (List Qr)}{i k w:Nat}{f:Nat->Rat}(h:M[i]? =some (vq w f))(D:k<w):Ds M i (k:Int)=some k/\M6 M i k=some (qn (f k)):=by
 simp only[Ds,M6,h,Option.bind_some];exact⟨bY (by rw[b9];exact D),fU D⟩
theorem O9(l:Fa n m G z0)(h:qt n m G z0 a)(hr:r<m)(D:c<n)(H:a.F r (a.fr c)≠0):(Ds ((List.range m).map (qu n m a)) r c=some c/\M6 ((List.range m).map (qu n m a)) r c=some (qn (a.F r (a.fr c))))/\bK 1=some (qn ((1:Int):Rat))/\kz (qn ((1:Int):Rat)) (qn (a.F r (a.fr c)))=some (qn (((1:Int):Rat)/a.F r (a.fr c)),0)/\Rk ((List.range m).map (qu n m a)) r c (qn ((1:Int):Rat))=some (((List.range m).map (qu n m a)).set r (vq (n+1) λj=>if j=c then 1 else a.F r (fv n (n+m) a.fr j)))/\lnn (((List.range m).map (qu n m a)).set r (vq (n+1) λj=>if j=c then 1 else a.F r (fv n (n+m) a.fr j))) r=some ((n+1:Nat):Int)/\eW (Fb n m a) (qu n m (pv a r c) r) c=some (Fb n m (pv a r c))/\(((List.range m).map (qu n m (pv a r c))).set r (qu n m (pv a r c) r))=(List.range m).map (qu n m (pv a r c)):=by
 have hn:=l.hn;have b:((List.range m).map (qu n m a))[r]? =some (vq (n+1) λk=>a.F r (fv n (n+m) a.fr k)):=jw hr;have d:=V5 b (show c<n+1 by omega);have i:fv n (n+m) a.fr c=a.fr c:=if_pos D;rw[i]at d;have i:=cz (n:=1) ξ;have o:=Ty (c:=c) (L:=20000000) (f:=λk=>a.Z (fv n (n+m) a.fr k)) (g:=gR n m a r c) (w:=n+1) ω ω ω ω (λj _=>((h.sz l).2 _ (XM h j)).mono ω) (λj _=>aji l h hr D H j);rw[<-ax7 h hr D H,<-agY h hr D H]at o;refine⟨d,i.1,(i.2.div (((h.sz l).1 r hr _ (Nat.le_of_lt (h.f c D).1)).rep ω) ω H).1,?_,?_,o,?_⟩
 ·simp only[Rk,b,Option.bind_some];rw[cL (by rw[b9];omega),pg];rfl
 ·simp only[lnn,nR (show r<((List.range m).map (qu n m a)).length by rw[iK];exact hr),Option.bind_some,b9]
 rw[MJ];exact zH λj _=>by by_cases e:j=r<;>simp[e]
theorem XN(l:Fa n m G z0)(h:qt n m G z0 a)(hr:r<m)(D:c<n)(H:a.F r (a.fr c)≠0)(p u v:Int):∃q,fJ (dX n m a p u v) r c=some (dX n m (pv a r c) q u v):=by
 obtain⟨d,f,t,w,o,j,g⟩:=O9 l h hr D H;refine⟨IntKind.i64.wrap (p+1),az (bY (by show r<((List.range m).map _).length;rw[iK];exact hr))<|az (jw hr)<|az f<|az d.1<|az d.2<|az t<|az f<|az d.1<|az w<|az o<|az (MK l h hr D H (λM=>(⟨n,uD m a.b,uD n a.fr,M,[Fb n m a],p,u,v⟩:Dx)) (λk M=>rfl) (λs=>by simp))<|az (congrArg (λk:Nat=>some (k:Int)) (show(((List.range m).map (qu n m a)).set r _).length=m by rw[List.length_set,iK]))<|az (O8 l h hr D H (λM=>(⟨n,uD m a.b,uD n a.fr,M,[Fb n m a],p,u,v⟩:Dx)) (λk M=>rfl))<|az rfl<|az (qg (e:=(⟨n,uD m a.b,uD n a.fr,(List.range m).map (qu n m (pv a r c)),[Fb n m (pv a r c)],p,u,v⟩:Dx)) (λi=>⟨n,uD m a.b,uD n a.fr,(List.range m).map (qu n m (pv a r c)),[if i=0 then Fb n m a else Fb n m (pv a r c)],p,u,v⟩) 1 rfl (λi x=>?_) η)<|az (bY (by rw[jb];exact D))<|az (ir D)<|az (bY (by rw[jb];exact hr))<|az (ir hr)<|az (bY (by rw[jb];exact hr))<|az (cL (by rw[jb];exact hr))<|az (bY (by rw[jb];exact D))<|az (cL (by rw[jb];exact D))<|az rfl ?_⟩
 ·obtain rfl:i=0:=by omega
  refine az Y<|cm Y<|az Y<|az Y<|az Y<|az (jw hr)<|az j<|az Y (lF Y ?_);rw[g];rfl
 rw[Q9,Q9];rfl
theorem XO(l:Fa n m G z0)(h:qt n m G z0 a)(hr:r<m)(D:c<n)(H:a.F r (a.fr c)≠0):gA (dP n m a) r c=some (dP n m (pv a r c)):=by
 obtain⟨d,e,f,i,g,o,j⟩:=O9 l h hr D H;refine az (bY (by show r<((List.range m).map _).length;rw[iK];exact hr))<|az (jw hr)<|az e<|az d.1<|az d.2<|az f<|az e<|az d.1<|az i<|az g<|az (MK l h hr D H (λM=>(⟨n,uD m a.b,uD n a.fr,M,Fb n m a⟩:Dp)) (λk M=>rfl) (λs=>by simp))<|az (congrArg (λk:Nat=>some (k:Int)) (show(((List.range m).map (qu n m a)).set r _).length=m by rw[List.length_set,iK]))<|az (O8 l h hr D H (λM=>(⟨n,uD m a.b,uD n a.fr,M,Fb n m a⟩:Dp)) (λk M=>rfl))<|az (jw hr)<|az o<|az (bY (by rw[jb];exact D))<|az (ir D)<|az (bY (by rw[jb];exact hr))<|az (ir hr)<|az (bY (by rw[jb];exact hr))<|az (cL (by rw[jb];exact hr))<|az (bY (by rw[jb];exact D))<|az (cL (by rw[jb];exact D)) ?_;rw[j,Q9,Q9];rfl
end
end
section
open Go.Fw
def GG(P:Nat->Prop)(D:Nat->Nat->Prop)(n:Nat)(y:Int):Prop:=(y=-1/\∀j,j<n->¬P j)\/∃r:Nat,y=r/\r<n/\P r/\∀j,j<n->P j->D r j
section best
variable {P:Nat->Prop}{le:Nat->Nat->Prop}{i:Nat}{y:Int}
theorem GG.z:GG P le 0 (-1):=.inl ⟨Y,λj hj=>by omega⟩
theorem GG.hit(h:GG P le i y)(hr:∀j,le j j)(ht:∀a b c,le a b->le b c->le a c)(hp:P i)(D:∀r:Nat,y=r->le i r):GG P le (i+1) i:=by
 refine .inr ⟨i,Y,by omega,hp,λj hj d=>?_⟩;by_cases e:j=i
 ·rw[e];exact hr i
 rcases h with⟨_,h⟩|⟨r,g,k,l,f⟩
 ·exact absurd d (h j ω)
 exact ht _ _ _ (D r g) (f j ω d)
theorem GG.Tz(h:GG P le i y)(D:¬P i\/∃r:Nat,y=r/\le r i):GG P le (i+1) y:=by
 rcases h with⟨b,h⟩|⟨r,b,a,d,c⟩
 ·refine .inl ⟨b,λj hj=>?_⟩;by_cases e:j=i
  ·rw[e];rcases D with q|⟨r,q,_⟩
   ·exact q
   omega
  exact h j ω
 refine .inr ⟨r,b,by omega,d,λj hj a=>?_⟩;by_cases e:j=i
 ·rw[e]at a⊢;rcases D with q|⟨d,q,b⟩
  ·exact absurd a q
  obtain rfl:r=d:=by omega
  exact b
 exact c j ω a
end best
def ky(b:Nat->Nat)(r j:Nat):Prop:=b r<=b j
section
variable {n m:Nat}{G:Nat->Nat->Rat}{z0:Nat->Rat}{a:Ab}
def Rr(n m P:Nat)(cp:Nat->Nat)(a D:Ab):Prop:=∃r c,r<m/\c<n/\D=pv a r c/\cG P (λp=>a.F r (cp p))/\(∀i,i<m->cG P (λp=>a.F i (cp p))->a.b r<=a.b i)/\a.F r (a.fr c)<0/\∀k,k<n->a.F r (a.fr k)<0->a.fr c<=a.fr k
theorem ML{P:Nat}{cp:Nat->Nat}(H:∀p,p<P->cp p<=n+m)(D:Nat->Ab)(h:∀t,qt n m G z0 (D t)/\Rr n m P cp (D t) (D (t+1))):False:=by
 obtain⟨r,hr⟩:=Classical.skolem.1 λt=>(h t).2;obtain⟨c,a⟩:=Classical.skolem.1 hr;refine adT (n:=n) (m:=m) (G:=G) (F:=λt=>(D t).F) (b:=λt=>(D t).b) (r:=r) (s:=λt=>(D t).fr (c t)) (P:=P) (cp:=cp) ⟨λt=>(h t).1.t,λt j hj=>?_,λt=>((h t).1.f _ (a t).2.1).2,λt=>(a t).1,λt=>((h t).1.f _ (a t).2.1).1⟩ H (λt=>(a t).2.2.2.1) (λt i g d w=>?_) (λt=>(a t).2.2.2.2.2.1) (λt k e d l=>?_)
 ·rw[(a t).2.2.1];rfl
 ·have:=(a t).2.2.2.2.1 i g w;omega
 rcases(h t).1.all k e with w|⟨j,hj,rfl⟩
 ·exact absurd w d
 refine Classical.not_not.1 λq=>?_;have:=(a t).2.2.2.2.2.2 j hj (Rat.not_le.1 q);omega
theorem ad7{f:Nat->Rat}:cG 1 f↔f 0<0:=by
 refine⟨λ⟨p,b,a,_⟩=>?_,λh=>⟨0,by omega,h,λq c=>by omega⟩⟩;obtain rfl:p=0:=by omega
 exact a
theorem Iu{m k:Nat}{b:Nat->Nat}(h:k<m):fG (uD m b) (k:Int)=some k:=bY (by rw[jb];exact h)
theorem Fc{x:Rat}{L:Nat}(h:FQ L x)(D:1<=L)(H:L<=1000000000):cv (qn x)=some (o9 x 0):=(h.rep D).sign ω
theorem TA(l:Fa n m G z0)(h:qt n m G z0 a){r:Nat}(hr:r<m){body:Int×Int->Option ((Int×Int)⊕Int)}(D:∀y i:Int,body (y,i)=bif decide (i<(n:Int))then(fG (uD n a.fr) i).bind λpz=>((uD n a.fr)[pz]?).bind λtc=>(fG ((List.range m).map (qu n m a)) (r:Int)).bind λI=>(((List.range m).map (qu n m a))[I]?).bind λ_=>(Ds ((List.range m).map (qu n m a)) I i).bind λw9=>(M6 ((List.range m).map (qu n m a)) I w9).bind λUm=>(cv Um).bind λOa=>(bif decide ((Oa:Int)<0)then(bif decide ((y:Int)<0)then some true else(fG (uD n a.fr) y).bind λLd=>((uD n a.fr)[Ld]?).bind λKD=>some (decide ((tc:Int)<KD))).bind λH=>some H else some false).bind λK=>bif K then some (.inl (i,IntKind.i64.wrap (i+1)))else some (.inl (y,IntKind.i64.wrap (i+1)))else some (.inr y)):bg (bH body (-1,0)) (GG (λk=>a.F r (a.fr k)<0) (ky a.fr) n):=by
 have hn:=l.hn;refine bg.cnt Prod.snd n (λi s=>GG (λk=>a.F r (a.fr k)<0) (ky a.fr) i s.1) Y GG.z ?_;rintro i ⟨y,_⟩ c rfl d;dsimp only at d;rw[D];refine bg.bif (λq=>?_) λq=>.inr ?_
 ·have q:i<n:=by simpa using q
  have c:=V5 (M:=(List.range m).map (qu n m a)) (jw hr) (show i<n+1 by omega);rw[show fv n (n+m) a.fr i=a.fr i from if_pos q]at c;have g:=Fc ((h.sz l).1 r hr _ (Nat.le_of_lt (h.f i q).1)) ω ω;refine bg.eq (Iu q)<|bg.eq (ir q)<|bg.eq (bY (by rw[iK];exact hr))<|bg.eq (jw hr)<|bg.eq c.1<|bg.eq c.2<|bg.eq g ?_;refine bg.bind (P:=λb=>(b=true->a.F r (a.fr i)<0/\∀c:Nat,y=c->ky a.fr i c)/\(b=false->¬a.F r (a.fr i)<0\/∃c:Nat,y=c/\ky a.fr c i)) (bg.bif (λw=>?_) λw=>.ret ⟨λe=>(by cases e),λ_=>.inl λg=>absurd (nh.2 g) (of_decide_eq_false w)⟩) λb D=>bg.bif (λw=>.inl q (bC ω) (d.hit (λ_=>Nat.le_refl _) (λ_ _ _ g j=>Nat.le_trans g j) (D.1 w).1 (D.1 w).2)) λw=>.inl q (bC ω) (d.Tz (D.2 w));have w:=nh.1 (of_decide_eq_true w);rcases d with⟨rfl,_⟩|⟨c,rfl,g,_⟩
  ·exact⟨true,rfl,λ_=>⟨w,λc e=>by omega⟩,λe=>by cases e⟩
  refine bg.eq (cq (decide_eq_false ω)<|az (Iu (show c<n by omega))<|az (ir (show c<n by omega)) Y)<|.ret ⟨λe=>⟨w,λg j=>?_⟩,λe=>.inr ⟨c,Y,?_⟩⟩
  ·have:=of_decide_eq_true e;obtain rfl:c=g:=by omega
   unfold ky;omega
  have:=of_decide_eq_false e;unfold ky;omega
 obtain rfl:i=n:=by have:=of_decide_eq_false q;omega
 exact d
theorem last_eq(h:qt n m G z0 a){i:Nat}(D:i<m)(p u v:Int):mY (dX n m a p u v) i=some (qn (a.F i (n+m)))/\fZ (dX n m a p u v) i=some (qn (a.F i (n+m))):=by
 have b:=V5 (M:=(List.range m).map (qu n m a)) (jw D) (show n<n+1 by omega);rw[show fv n (n+m) a.fr n=n+m from if_neg (Nat.lt_irrefl n)]at b;refine⟨az (bY (by show i<((List.range m).map _).length;rw[iK];exact D))<|az (jw D)<|az b.1<|az b.2 Y,az (bu (jw D))<|az (bu (a:=qn (a.F i (n+m))) ?_) Y⟩;show(vq (n+1) _)[n]? =_;rw[fU (Nat.lt_succ_self n),show fv n (n+m) a.fr n=n+m from if_neg (Nat.lt_irrefl n)]
theorem ad8(l:Fa n m G z0)(h:qt n m G z0 a)(p u v:Int):bg (eM (dX n m a p u v)) λy=>∃f o,qt n m G z0 f/\((y=(true,dX n m f o u v)/\∀i,i<m->0<=f.F i (n+m))\/∃r:Nat,y=(false,dX n m f o r v)/\r<m/\f.F r (n+m)<0/\∀k,k<n->0<=f.F r (f.fr k)):=by
 have hm:=l.hm;unfold eM;refine bg.bind (P:=λy=>∃f o z,y=.inr z/\qt n m G z0 f/\((z=(true,dX n m f o u v)/\∀i,i<m->0<=f.F i (n+m))\/∃r:Nat,z=(false,dX n m f o r v)/\r<m/\f.F r (n+m)<0/\∀k,k<n->0<=f.F r (f.fr k))) (Gx (A:=Ab×Int) (a:=(a,p)) (λs=>dX n m s.1 s.2 u v) (λs=>qt n m G z0 s.1) (λs s'=>Rr n m 1 (λ_=>n+m) s.1 s'.1) h ?_ λg d=>ML (P:=1) (cp:=λ_=>n+m) (λ_ _=>Nat.le_refl _) (λt=>(g t).1) d) ?_
 ·rintro⟨a,p⟩ h;dsimp only at h⊢;refine bg.eq (congrArg (λk:Nat=>some (k:Int)) (show((List.range m).map (qu n m a)).length=m from iK))<|bg.bind (P:=GG (λi=>a.F i (n+m)<0) (ky a.b) m) (bg.cnt Prod.snd m (λi s=>GG (λi=>a.F i (n+m)<0) (ky a.b) i s.1) Y GG.z ?_) λy g=>bg.eq Y<|bg.bif (λq=>.ret (.inr ⟨_,Y,a,p,_,Y,h,.inl ⟨Y,λi B=>?_⟩⟩)) λq=>?_
  ·rintro i ⟨y,_⟩ B rfl g;dsimp only at g⊢;refine bg.eq Y<|bg.bif (λd=>?_) λq=>.inr ?_
   ·have q:i<m:=by simpa using d
    clear d;refine bg.bU (λb=>(b=true->a.F i (n+m)<0/\∀d:Nat,y=d->ky a.b i d)/\(b=false->¬a.F i (n+m)<0\/∃d:Nat,y=d/\ky a.b d i)) (λK C=>bg.eq (last_eq h q p u v).1<|bg.eq (Fc ((h.sz l).1 i q _ (Nat.le_refl _)) ω ω)<|bg.eq rfl<|bg.bind (P:=λb=>(b=true->a.F i (n+m)<0/\∀d:Nat,y=d->ky a.b i d)/\(b=false->¬a.F i (n+m)<0\/∃d:Nat,y=d/\ky a.b d i)) (bg.bif (λw=>?_) λw=>.ret ⟨λe=>(by cases e),λ_=>.inl λx=>absurd (nh.2 x) (of_decide_eq_false w)⟩) C) λb x=>bg.bU (λj=>j=bif b then(i:Int)else y) (λK C=>bg.bif (λw=>C _ (by rw[w];rfl)) λw=>C _ (by rw[w];rfl)) ?_
    ·have w:=nh.1 (of_decide_eq_true w);rcases g with⟨rfl,_⟩|⟨d,rfl,C,_⟩
     ·exact⟨true,rfl,λ_=>⟨w,λd e=>by omega⟩,λe=>by cases e⟩
     refine bg.eq Y<|bg.bind (P:=λb=>b=decide ((a.b i:Int)<a.b d)) (bg.bif (λw=>absurd (of_decide_eq_true w) ω) λ_=>bg.eq (Iu q)<|bg.eq (ir q)<|bg.eq (Iu (show d<m by omega))<|bg.eq (ir (show d<m by omega)) ⟨_,Y,Y⟩) λb x=>.ret ⟨λe=>⟨w,λC D=>?_⟩,λe=>.inr ⟨d,Y,?_⟩⟩
     ·have:=of_decide_eq_true (x.symm.trans e);obtain rfl:d=C:=by omega
      unfold ky;omega
     have:=of_decide_eq_false (x.symm.trans e);unfold ky;omega
    rintro _ rfl;refine bg.eq Y<|.inl q (bC ω) ?_;cases b with
    |true=>exact g.hit (λ_=>Nat.le_refl _) (λ_ _ _ C H=>Nat.le_trans C H) (x.1 Y).1 (x.1 Y).2
    |false=>exact g.Tz (x.2 Y)
   obtain rfl:i=m:=by have:=of_decide_eq_false q;omega
   exact g
  ·have q:=of_decide_eq_true q;rcases g with⟨_,g⟩|⟨r,rfl,_⟩
   ·exact Rat.not_lt.1 (g i B)
   omega
  have q:=of_decide_eq_false q;obtain⟨r,rfl,hr,x,I⟩:=g.resolve_left λw=>by omega
  refine bg.eq (congrArg (λk:Nat=>some (k:Int)) (show(uD n a.fr).length=n from jb))<|bg.bind (TA l h hr λy i=>rfl) λy g=>bg.eq rfl<|bg.bif (λq=>.ret (.inr ⟨_,rfl,a,p,_,rfl,h,.inr ⟨r,rfl,hr,x,λk d=>?_⟩⟩)) λq=>?_
  ·have q:=of_decide_eq_true q;rcases g with⟨_,g⟩|⟨r,rfl,_⟩
   ·exact Rat.not_lt.1 (g k d)
   omega
  have q:=of_decide_eq_false q;obtain⟨c,rfl,E,d,D⟩:=g.resolve_left λw=>by omega
  obtain⟨o,e⟩:=XN l h hr E (λw=>by rw[w]at d;exact absurd d Rat.lt_irrefl) p u v;exact bg.eq e<|.ret (.inl ⟨(pv a r c,o),Y,h.pv hr E (λw=>by rw[w]at d;exact absurd d Rat.lt_irrefl),r,c,hr,E,Y,ad7.2 x,λi B w=>I i B (ad7.1 w),d,D⟩)
 rintro y ⟨f,o,z,rfl,C,H⟩;exact .ret ⟨f,o,C,H⟩
end
end
section
open Go.Fw
def Zp(m:Nat)(a:Ab)(p v:Nat):Rat:=if p=0 then a.Z v else(if v=p-1 then 1 else 0)-pH m v a.F a.b (p-1)
theorem YZ{n m k:Nat}{G F:Nat->Nat->Rat}{b:Nat->Nat}(h:Bm n m G F b)(D:k<n):ry n m G (λv=>if v=k then 1 else 0) (λv=>(if v=k then 1 else 0)-pH m v F b k) b:=by
 refine⟨λv c=>?_,λi a=>?_⟩
 ·have e:pH m v F b k=bX (λj=>pH m (n+j) F b k*G j v) m:=by
   by_cases q:rF m b k
   ·obtain⟨r,hr,rfl⟩:=q;rw[C7 h.hu hr,Bm.trans (Bm.first h.hg) h hr c];exact bZ λj _=>by rw[C7 h.hu hr]
   rw[xS q,bZ (k:=λ_=>0) (λj _=>by rw[xS q];grind),gX]
  have c:bX (λj=>((if n+j=k then(1:Rat)else 0)-pH m (n+j) F b k)*G j v) m=bX (λj=>(-1:Rat)*(pH m (n+j) F b k*G j v)) m:=bZ λj _=>by rw[if_neg ω];grind
  show _=_+bX (λj=>((if n+j=k then(1:Rat)else 0)-pH m (n+j) F b k)*G j v) m;rw[c,jv,<-e];grind
 show(if b i=k then(1:Rat)else 0)-_=0;by_cases q:b i=k
 ·rw[if_pos q,<-q,C7 h.hu a,h.hu i i a a,if_pos rfl];grind
 rw[if_neg q];by_cases c:rF m b k
 ·obtain⟨r,hr,rfl⟩:=c;rw[C7 h.hu hr,h.hu r i hr a,if_neg (λe=>q (by rw[e]))];grind
 rw[xS c];grind
theorem bg.range{S:Type}{body:Nat->S->Option S}{s:S}(I:Nat->S->Prop)(h:I 0 s):∀n,(∀k s,k<n->I k s->bg (body k s) (I (k+1)))->bg (nH body n s) (I n)
 |0,_=>⟨s,Y,h⟩
 |n+1,k=>by
  obtain⟨t,c,b⟩:=bg.range I h n λj s hj=>k j s ω;obtain⟨u,d,a⟩:=k n t (Nat.lt_succ_self n) b;exact⟨u,by rw[nH,c];exact d,a⟩
section
variable {n m:Nat}{G:Nat->Nat->Rat}{z0:Nat->Rat}{a:Ab}
def GL(n:Nat)(d:Dx)(z:List Qr)(W:List Int):List Cv:=.a z::(List.range n).map λk:Nat=>Cv.b d k W
theorem TB(l:Fa n m G z0)(h:qt n m G z0 a)(p u v:Int):∃W:List Int,dV (dX n m a p u v)=some (GL n (dX n m a p u v) (Fb n m a) W)/\(∀i,i<m->W[a.b i]? =some ((i+1:Nat):Int))/\∀k,k<n+m->¬rF m a.b k->W[k]? =some 0:=by
 have hn:=l.hn;have hm:=l.hm;obtain⟨W,d,o,f,x⟩:bg (bH (λ(c:Int×(List Int))=>match c with|⟨c,g⟩=>(show Option ((Int×(List Int))⊕((List Int)))from(some (decide ((c:Int)<(m:Int)))).bind λr=>(bif r then(bV (uD m a.b) c).bind λr=>(some (IntKind.i64.wrap (c+1))).bind λw=>(fG g r).bind λr=>(stM g r w).bind λr=>(some (IntKind.i64.wrap (c+1))).bind λc=>some (.inl (c,r))else some (.inr g)))) (0,List.replicate (n+m) (0:Int))) λW=>W.length=n+m/\(∀i,i<m->W[a.b i]? =some ((i+1:Nat):Int))/\∀k,k<n+m->¬rF m a.b k->W[k]? =some 0:=by
  refine bg.cnt Prod.fst m (λi s=>s.2.length=n+m/\(∀j,j<i->s.2[a.b j]? =some ((j+1:Nat):Int))/\∀k,k<n+m->¬rF m a.b k->s.2[k]? =some 0) Y ⟨by simp,λj hj=>by omega,λk r _=>by simp[r]⟩ ?_;rintro i ⟨_,W⟩ w rfl ⟨d,o,f⟩;dsimp only at d o f;refine bg.eq Y<|bg.bif (λq=>?_) λq=>.inr ⟨d,λj hj=>o j (by have:=of_decide_eq_false q;omega),f⟩;have q:i<m:=by have:=of_decide_eq_true q;omega
  have hb:=h.t.hb i q;refine bg.eq (bu (ir q))<|bg.eq (congrArg some (bC ω))<|bg.eq (bY (show a.b i<W.length by omega))<|bg.eq (cL (show a.b i<W.length by omega))<|bg.eq Y<|.inl q (bC ω) ⟨by simp[d],λj hj=>?_,λk r c=>?_⟩
  ·by_cases e:a.b i=a.b j
   ·have g:=AJ h.t.hu q (by omega:j<m) e;rw[g,nR (by rw[<-g];omega)]
   rw[List.getElem?_set_ne e];exact o j (by
    have:j≠i:=λg=>e (by rw[g]);omega)
  rw[List.getElem?_set_ne (λe=>c ⟨i,q,e⟩)];exact f k r c
 refine⟨W,?_,f,x⟩;refine az Y<|az (qg (e:=[Cv.a (Fb n m a)]) (λi=>if i=0 then[]else[Cv.a (Fb n m a)]) 1 Y (λi w=>by rw[Nat.lt_one_iff.1 w];rfl) (by simp[dX]))<|az (congrArg (λk:Nat=>some (k:Int)) (show((List.range m).map (qu n m a)).length=m from iK))<|az (congrArg some (oe ω))<|az (fE ω ω)<|az (congrArg (λk:Nat=>some (k:Int)) (show(uD m a.b).length=m from jb))<|az d<|az (qg (e:=GL n (dX n m a p u v) (Fb n m a) W) (λi=>GL i (dX n m a p u v) (Fb n m a) W) n Y (λi w=>?_) (by simp[dX])) Y;refine az Y<|cm (decide_eq_true (show(i:Int)<(n:Int) by omega))<|az (ru ω (by simp[GL];omega))<|az Y (lF (bC ω) ?_);simp[GL,List.range_succ]
theorem ajj(l:Fa n m G z0)(h:qt n m G z0 a){p u v:Int}{W:List Int}(H:(∀i,i<m->W[a.b i]? =some ((i+1:Nat):Int))/\∀k,k<n+m->¬rF m a.b k->W[k]? =some 0){j c:Nat}(hj:j<n+1)(D:c<n):∃x,(GL n (dX n m a p u v) (Fb n m a) W)[j]? =some x/\afW x c=some (qn (Zp m a j (a.fr c)))/\FQ 5400000 (Zp m a j (a.fr c)):=by
 have hn:=l.hn;have hm:=l.hm;have o:=h.sz l;have d:=h.f c D;have g:fv n (n+m) a.fr c=a.fr c:=if_pos D;cases j with
 |zero=>
  refine⟨_,Y,az (bu (a:=qn (a.Z (a.fr c))) ?_) Y,o.2 _ (Nat.le_of_lt d.1)⟩;show(vq (n+1) _)[c]? =_;rw[fU ω,g]
 |succ k=>
  have s:k<n:=by omega
  refine⟨_,by simp[GL,s];rfl,?_⟩;show dI _ _ _ _=_/\FQ 5400000 ((if a.fr c=k then 1 else 0)-pH m (a.fr c) a.F a.b k);unfold dI Zp;rw[if_neg (Nat.succ_ne_zero k),Nat.add_sub_cancel];by_cases e:a.fr c=k
  ·rw[if_pos e,xS (by rw[<-e];exact d.2),show(1:Rat)-0=1 by grind];refine⟨az (bu (ir D))<|az Y<|cm (decide_eq_true (by rw[e]))<|az (cz (n:=1) ξ).1 Y,FQ.int (i:=1) (vz ω) ω⟩
  rw[if_neg e];by_cases q:rF m a.b k
  ·obtain⟨r,hr,rfl⟩:=q;rw[C7 h.t.hu hr,show(0:Rat)-a.F r (a.fr c)=-a.F r (a.fr c) by grind];have s:=(o.1 r hr (a.fr c) (Nat.le_of_lt d.1)).rep ω;have d:(qu n m a r)[c]? =some (qn (a.F r (a.fr c))):=by
    show(vq (n+1) _)[c]? =_;rw[fU ω,g]
   exact⟨az (bu (ir D))<|az Y<|cq (decide_eq_false ω)<|az (bu (H.1 r hr))<|az Y<|cm (decide_eq_true ω)<|az (bu (H.1 r hr))<|az (congrArg some (Mm ω))<|az (bu (jw hr))<|az (bu d)<|az (s.neg ω).1 Y,(s.neg ω).2.fq⟩
  rw[xS q,show(0:Rat)-0=0 by grind];have d:=H.2 k ω q;exact⟨az (bu (ir D))<|az Y<|cq (decide_eq_false ω)<|az (bu d)<|az Y<|cq (decide_eq_false ω) Y,(CJ (L:=5400000) ω).fq⟩
def Cd(n m:Nat)(a:Ab)(c:Nat):Prop:=cG (n+1) λp=>Zp m a p (a.fr c)
open Classical in
noncomputable def Ra(n m:Nat)(a:Ab)(k:Nat):List Nat:=(List.range k).filter λc=>decide (Cd n m a c)
theorem TC{k:Nat}:(Cd n m a k->Ra n m a (k+1)=Ra n m a k++[k])/\(¬Cd n m a k->Ra n m a (k+1)=Ra n m a k):=by
 unfold Ra;rw[List.range_succ,List.filter_append];exact⟨λh=>by simp[h],λh=>by simp[h]⟩
theorem ad9(l:Fa n m G z0)(h:qt n m G z0 a)(p u v:Int):nc (dX n m a p u v)=some ((Ra n m a n).map λk:Nat=>(k:Int)):=by
 have hn:=l.hn;obtain⟨W,h1,hW⟩:=TB l h p u v;unfold nc;refine MC<|bg.eq h1<|bg.eq (congrArg (λk:Nat=>some (k:Int)) (show(uD n a.fr).length=n from jb))<|bg.pN (P:=λq=>q.1=((Ra n m a n).map λk:Nat=>(k:Int))) (bg.V1 id n (λk o _=>o=((Ra n m a k).map λk:Nat=>(k:Int))) Y Y ?_) λq hq=>.ret (by simpa using hq);rintro c o _ hc rfl rfl;refine bg.eq Y<|bg.bif (λq=>?_) λq=>.ret ?_
 ·have q:c<n:=by have:=of_decide_eq_true q;omega
  refine bg.pN (P:=λy=>y.1=[]/\(y.2<0↔Cd n m a c)) (bg.V1 Prod.snd (n+2) (λi o s=>o=[]/\((s.1=0/\i<=n+1/\∀p,p<i->Zp m a p (a.fr c)=0)\/∃p,i=p+1/\p<n+1/\s.1=o9 (Zp m a p (a.fr c)) 0/\s.1≠0/\∀q,q<p->Zp m a q (a.fr c)=0)) Y ⟨Y,.inl ⟨Y,by omega,λp hp=>by omega⟩⟩ ?_) ?_
  ·rintro i o ⟨s,_⟩ hi rfl ⟨rfl,hI⟩;dsimp only at hI⊢;have hlen:(GL n (dX n m a p u v) (Fb n m a) W).length=n+1:=by simp[GL]
   rcases hI with⟨rfl,hi1,hz⟩|⟨p1,rfl,hp1,h2,h3,hz⟩
   ·rcases Nat.lt_or_ge i (n+1)with w|w
    ·obtain⟨x,g1,g2,g3⟩:=ajj l h (p:=p) (u:=u) (v:=v) hW w q;refine bg.bU (λb=>b=true) (λK hK=>bg.eq Y<|bg.eq Y<|bg.eq (cm (decide_eq_true (by rw[hlen];omega)) Y)<|hK _ Y) λb hb=>?_;subst hb;refine bg.eq (bu g1)<|bg.eq g2<|bg.eq (Fc g3 ω ω)<|bg.eq Y<|.ret ⟨by omega,bC ω,Y,?_⟩;by_cases e:Zp m a i (a.fr c)=0
     ·exact .inl ⟨by rw[e,tD],w,λp hp=>if e2:p=i then by rw[e2,e]
      else hz p ω⟩
     exact .inr ⟨i,Y,w,Y,λe2=>e (jE.1 e2),hz⟩
    refine bg.bU (λb=>b=false) (λK hK=>bg.eq Y<|bg.eq Y<|bg.eq (cq (decide_eq_false (by rw[hlen];omega)) Y)<|hK _ Y) λb hb=>?_;subst hb;exact .ret ⟨Y,⟨λe=>absurd e ω,λe=>absurd e (ni λp hp=>hz p ω)⟩⟩
   refine bg.bU (λb=>b=false) (λK hK=>bg.eq Y<|bg.eq Y<|bg.bind (P:=λb=>b=false) (bg.bif (λ_=>bg.eq Y<|.ret (decide_eq_false h3)) λ_=>.ret Y) hK) λb hb=>?_;subst hb;refine .ret ⟨Y,?_⟩;show s<0↔_;rw[h2,nh];refine⟨λe=>⟨p1,hp1,e,hz⟩,λ⟨p2,w1,w2,w3⟩=>?_⟩;have hne:Zp m a p1 (a.fr c)≠0:=λe=>h3 (by rw[h2,e,tD]);rcases Nat.lt_trichotomy p1 p2 with g|rfl|g
   ·exact absurd (w3 p1 g) hne
   ·exact w2
   have w2:Zp m a p2 (a.fr c)<0:=w2;rw[hz p2 g]at w2;exact absurd w2 Rat.lt_irrefl
  rintro⟨o,s⟩ ⟨rfl,hs⟩;refine bg.eq Y<|bg.bif (λw=>bg.emit<|bg.eq Y<|.ret ⟨q,bC ω,?_⟩) λw=>bg.eq Y<|.ret ⟨q,bC ω,?_⟩
  ·dsimp only;rw[TC.1 (hs.1 (of_decide_eq_true w))];simp
  dsimp only;rw[TC.2 (λe=>of_decide_eq_false w (hs.2 e))];simp
 obtain rfl:c=n:=by have:=of_decide_eq_false q;omega
 exact List.append_nil _
def BL(D:Nat->Nat->Prop)(l:List Nat)(y:Int):Prop:=(y=-1/\l=[])\/∃r:Nat,r∈l/\y=r/\∀j∈l,D r j
theorem BL.next{D:Nat->Nat->Prop}{l:List Nat}{y:Int}{i:Nat}{b:Bool}(h:BL D l y)(hr:∀j,D j j)(ht:∀a b c,D a b->D b c->D a c)(H:∀r:Nat,y=r->(b=true->D i r)/\(b=false->D r i))(I:y=-1->b=true):BL D (l++[i]) (bif b then(i:Int)else y):=by
 rcases h with⟨rfl,rfl⟩|⟨r,e,rfl,d⟩
 ·rw[I rfl];exact .inr ⟨i,by simp,Y,λj hj=>by simp at hj;rw[hj];exact hr i⟩
 cases b with
 |true=>
  refine .inr ⟨i,by simp,Y,λj hj=>?_⟩;rcases List.mem_append.1 hj with w|w
  ·exact ht _ _ _ ((H r Y).1 Y) (d j w)
  simp at w;rw[w];exact hr i
 |false=>
  refine .inr ⟨r,by simp[e],Y,λj hj=>?_⟩;rcases List.mem_append.1 hj with w|w
  ·exact d j w
  simp at w;rw[w];exact(H r Y).2 Y
def V6(f:Nat->Rat)(k:Nat->Nat)(r j:Nat):Prop:=f r<f j\/f r=f j/\k r<=k j
theorem MM{f:Nat->Rat}{k:Nat->Nat}(j:Nat):V6 f k j j:=.inr ⟨Y,Nat.le_refl _⟩
theorem Iv{f:Nat->Rat}{k:Nat->Nat}(a b c:Nat)(h:V6 f k a b)(D:V6 f k b c):V6 f k a c:=by
 rcases h with h|⟨h,d⟩<;>rcases D with D|⟨D,d⟩
 ·exact .inl (by grind)
 ·exact .inl (by rw[<-D];exact h)
 ·exact .inl (by rw[h];exact D)
 exact .inr ⟨h.trans D,by omega⟩
theorem GH{f:Nat->Rat}{k:Nat->Nat}{i r:Nat}:((o9 (f i) (f r)<0\/o9 (f i) (f r)=0/\k i<k r)->V6 f k i r)/\(¬(o9 (f i) (f r)<0\/o9 (f i) (f r)=0/\k i<k r)->V6 f k r i):=by
 rw[nh,Gs];refine⟨λh=>h.imp id λh=>⟨h.1,Nat.le_of_lt h.2⟩,λh=>?_⟩;have a:¬f i<f r:=λw=>h (.inl w);by_cases e:f i=f r
 ·exact .inr ⟨e.symm,Nat.le_of_not_lt λw=>h (.inr ⟨e,w⟩)⟩
 exact .inl (by grind)
def leE(a:Ab)(y:Bool):Nat->Nat->Prop:=V6 (λc=>if y=true then 0 else a.Z (a.fr c)) a.fr
theorem amX(l:Fa n m G z0)(h:qt n m G z0 a)(p u v:Int)(y:Bool):bg (eE (dX n m a p u v) y) (BL (leE a y) (Ra n m a n)):=by
 have hn:=l.hn;have I:=(h.sz l).2;have s:∀c∈Ra n m a n,c<n:=λc B=>List.mem_range.1 (List.mem_filter.1 B).1;have J:∀c,c<n->(Fb n m a)[c]? =some (qn (a.Z (a.fr c))):=λc B=>by
  show(vq (n+1) _)[c]? =_;rw[fU ω,show fv n (n+m) a.fr c=a.fr c from if_pos B]
 unfold eE;refine bg.eq (ad9 l h p u v)<|bg.bind (P:=BL (leE a y) (Ra n m a n)) ?_ λb q=>.ret q;rw[List.length_map];refine bg.mono (bg.range (λk b=>BL (leE a y) ((Ra n m a n).take k) b) (.inl ⟨Y,Y⟩) (Ra n m a n).length λk b d q=>?_) λb q=>by rw[List.take_length]at q;exact q
 have x:=List.getElem?_eq_getElem d;have C:=s _ (List.getElem_mem d);have E:=List.take_succ_eq_append_getElem d;generalize (Ra n m a n)[k]=c at x C E;have B:((Ra n m a n).map λk:Nat=>(k:Int)).getD k 0=c:=by rw[List.getD_eq_getElem?_getD,List.getElem?_map,x];rfl
 have A:∀r:Nat,b=r->r<n:=λr e=>by
  rcases q with⟨w,_⟩|⟨x,D,d,_⟩
  ·omega
  obtain rfl:r=x:=by omega
  exact s r (List.mem_of_mem_take D)
 have H:b=-1\/∃r:Nat,b=r/\r<n:=by
  rcases q with⟨w,_⟩|⟨x,D,d,_⟩
  ·exact .inl w
  exact .inr ⟨x,d,A x d⟩
 have F:∀o:Int,(∀r:Nat,b=r->o=o9 (if y=true then 0 else a.Z (a.fr c)) (if y=true then 0 else a.Z (a.fr r)))->∀z:Bool,(z=true↔b<0\/o<0\/o=0/\∃r:Nat,b=r/\a.fr c<a.fr r)->BL (leE a y) ((Ra n m a n).take (k+1)) (bif z then(c:Int)else b):=λo D z s=>by
  rw[E];refine q.next MM Iv (λr hr=>?_) λw=>s.2 (.inl ω);have:=GH (f:=λc=>if y=true then 0 else a.Z (a.fr c)) (k:=a.fr) (i:=c) (r:=r);rw[<-D r hr]at this;refine⟨λw=>this.1 ?_,λw=>this.2 λd=>?_⟩
  ·rcases s.1 w with g|g|⟨g,A,E,L⟩
   ·omega
   ·exact .inl g
   obtain rfl:r=A:=by omega
   exact .inr ⟨g,L⟩
  have:z=true:=s.2 (.inr (d.imp id λd=>⟨d.1,r,hr,d.2⟩));rw[w]at this;cases this
 refine bg.eq Y ?_;rw[B];refine bg.bind (P:=λo=>∀r:Nat,b=r->o=o9 (if y=true then 0 else a.Z (a.fr c)) (if y=true then 0 else a.Z (a.fr r))) ?_ λo D=>?_
 ·rcases H with rfl|⟨r,rfl,hr⟩
  ·exact⟨0,my Y,λr e=>by omega⟩
  have B:decide ((0:Int)<=r)=true:=decide_eq_true ω;cases y with
  |true=>exact⟨0,my (by simp[bU]),λx e=>by simp[tD]⟩
  |false=>
   have L:=(((I _ (Nat.le_of_lt (h.f c C).1)).rep ω).cmp ((I _ (Nat.le_of_lt (h.f r hr).1)).rep ω) ω);have B:bV (Fb n m a) (c:Int)=some (qn (a.Z (a.fr c))):=bu (J c C);have E:bV (Fb n m a) (r:Int)=some (qn (a.Z (a.fr r))):=bu (J r hr);have I:bV (dX n m a p u v).bS 0=some (Fb n m a):=rfl;refine⟨_,(sZ (s':=(o9 (a.Z (a.fr c)) (a.Z (a.fr r)),1)) ?_).trans (my (e:=o9 (a.Z (a.fr c)) (a.Z (a.fr r))) ?_),λx e=>by rw[show x=r by omega];simp⟩
   ·have x:(dX n m a p u v).bS.length=1:=rfl;simp[bU,I,B,E,L,x];rfl
   have x:(dX n m a p u v).bS.length=1:=rfl;simp[bU,x]
 refine bg.bU (λz=>z=true↔b<0\/o<0\/o=0/\∃r:Nat,b=r/\a.fr c<a.fr r) (λK x=>bg.eq Y<|bg.orB (λ_=>bg.dec) λz s=>?_) λz s=>bg.bU (λj=>j=bif z then(c:Int)else b) (λK x=>bg.bif (λw=>x _ (by rw[w];rfl)) λw=>x _ (by rw[w];rfl)) ?_
 ·rw[decide_eq_true_eq]at s;refine bg.bind (P:=λt=>t=true↔b<0\/o<0\/o=0/\∃r:Nat,b=r/\a.fr c<a.fr r) (bg.bif (λw=>.ret ⟨λ_=>(s.1 w).imp id .inl,λ_=>Y⟩) λw=>bg.eq Y ?_) x;have x:¬(b<0\/o<0):=λe=>by rw[s.2 e]at w;cases w
  obtain⟨r,rfl,hr⟩:=H.resolve_left λe=>x (.inl ω);refine bg.bind (P:=λt=>t=true↔(r:Int)<0\/o<0\/o=0/\∃A:Nat,(r:Int)=A/\a.fr c<a.fr A) (bg.bif (λd=>bg.eq (bu (ir C))<|bg.eq (bu (ir hr)) ⟨_,rfl,?_⟩) λd=>.ret ⟨λe=>(by cases e),λe=>?_⟩) λb q=>.ret q
  ·have d:=of_decide_eq_true d;dsimp only;rw[decide_eq_true_eq];exact⟨λg=>.inr (.inr ⟨d,r,Y,by omega⟩),λg=>by
    rcases g with g|g|⟨_,A,B,E⟩
    ·omega
    ·omega
    obtain rfl:r=A:=by omega
    omega⟩
  have d:=of_decide_eq_false d;rcases e with g|g|⟨g,_⟩
  ·exact absurd (.inl g) x
  ·exact absurd (.inr g) x
  exact absurd g d
 rintro _ rfl;exact .ret (F o D z s)
end
end
section
open Go.Fw
section
variable {n m:Nat}{G:Nat->Nat->Rat}{z0:Nat->Rat}{a:Ab}
def rat(n m:Nat)(a:Ab)(c i:Nat):Rat:=a.F i (n+m)/a.F i (a.fr c)
theorem amY(l:Fa n m G z0)(h:qt n m G z0 a){c:Nat}(D:c<n)(p u v:Int):bg (eL (dX n m a p u v) c) (GG (λi=>0<a.F i (a.fr c)) (V6 (rat n m a c) a.b) m):=by
 have hn:=l.hn;have hm:=l.hm;have A:=(h.sz l).1;have C:=Nat.le_of_lt (h.f c D).1;unfold eL;refine bg.eq (congrArg (λk:Nat=>some (k:Int)) (show((List.range m).map (qu n m a)).length=m from iK))<|bg.bind (P:=GG (λi=>0<a.F i (a.fr c)) (V6 (rat n m a c) a.b) m) (bg.cnt (λs=>s.2.1) m (λi s=>GG (λi=>0<a.F i (a.fr c)) (V6 (rat n m a c) a.b) i s.1/\∀r:Nat,s.1=r->s.2.2=qn (rat n m a c r)) Y ⟨GG.z,λr e=>by dsimp only at e;omega⟩ ?_) λy d=>.ret d;rintro i ⟨y,_,I⟩ t rfl ⟨d,B⟩;dsimp only at d B⊢;refine bg.eq Y<|bg.bif (λt=>?_) λq=>.inr (by
  have e:i=m:=(by have:=of_decide_eq_false q;omega);subst e;exact d)
 have q:i<m:=by simpa using t
 clear t;have x:(qu n m a i)[c]? =some (qn (a.F i (a.fr c))):=by
  show(vq (n+1) _)[c]? =_;rw[fU ω,show fv n (n+m) a.fr c=a.fr c from if_pos D]
 have t:=Fc (A i q _ C) ω ω;refine bg.eq (bu (jw q))<|bg.eq (bu x)<|bg.eq t<|bg.eq Y<|bg.bif (λw=>bg.eq Y<|.inl q (bC ω) ⟨d.Tz (.inl λt=>?_),B⟩) λw=>?_
 ·have:=CI.2 t;have:=of_decide_eq_true w;omega
 have w:0<a.F i (a.fr c):=CI.1 (by have:=of_decide_eq_false w;omega);have D:a.F i (a.fr c)≠0:=λe=>by rw[e]at w;exact absurd w Rat.lt_irrefl
 have J:=((A i q _ (Nat.le_refl _)).rep ω).div ((A i q _ C).rep ω) ω D;have E:∀r,0<a.F r (a.fr c)->r<m->mq 10800000 (qn (rat n m a c r)) (rat n m a c r):=λr D H=>(((A r H _ (Nat.le_refl _)).rep ω).div ((A r H _ C).rep ω) ω (λe=>by rw[e]at D;exact absurd D Rat.lt_irrefl)).2;refine bg.eq (last_eq h q p u v).2<|bg.eq (bu x)<|bg.eq J.1<|bg.eq Y<|bg.bU (λo=>(y<0/\o=-1)\/∃r:Nat,y=r/\r<m/\o=o9 (rat n m a c i) (rat n m a c r)) (λK A=>?_) λo C=>?_
 ·rcases d with⟨rfl,_⟩|⟨r,rfl,hr,hp,_⟩
  ·exact bg.bif (λw=>absurd (of_decide_eq_true w) ω) λ_=>A _ (.inl ⟨by omega,Y⟩)
  refine bg.bif (λ_=>bg.eq ?_<|A _ (.inr ⟨r,Y,by omega,Y⟩)) λw=>absurd (of_decide_eq_false w) ω;rw[B r rfl];exact(E i w q).cmp (E r hp ω) ω
 refine bg.bU (λz=>z=true↔o<0\/o=0/\∃r:Nat,y=r/\a.b i<a.b r) (λK A=>bg.eq rfl<|bg.bind (P:=λz=>z=true↔o<0\/o=0/\∃r:Nat,y=r/\a.b i<a.b r) (bg.bif (λw=>.ret ⟨λ_=>.inl (of_decide_eq_true w),λ_=>rfl⟩) λw=>bg.eq rfl<|bg.bind (P:=λz=>z=true↔o<0\/o=0/\∃r:Nat,y=r/\a.b i<a.b r) (bg.bif (λt=>?_) λt=>.ret ⟨λe=>(by cases e),λe=>?_⟩) λb D=>.ret D) A) λz D=>bg.bU (λj=>j=bif z then((i:Int),qn (rat n m a c i))else(y,I)) (λK A=>bg.bif (λw=>A _ (by rw[w];rfl)) λw=>A _ (by rw[w];rfl)) ?_
 ·have w:=of_decide_eq_false w;have t:=of_decide_eq_true t;obtain⟨r,rfl,hr,_⟩:=C.resolve_left λe=>by omega
  refine bg.eq (bu (ir q))<|bg.eq (bu (ir hr)) ⟨_,Y,?_⟩;dsimp only;rw[decide_eq_true_eq];refine⟨λg=>.inr ⟨t,r,Y,by omega⟩,λg=>?_⟩;rcases g with g|⟨_,E,x,A⟩
  ·exact absurd g w
  obtain rfl:r=E:=by omega
  omega
 ·rcases e with g|⟨g,_⟩
  ·exact absurd g (of_decide_eq_false w)
  exact absurd g (of_decide_eq_false t)
 rintro _ rfl;cases z with
 |true=>
  refine bg.eq Y<|.inl q (bC ω) ⟨d.hit MM Iv w λr e=>?_,λr e=>by have t:i=r:=(by dsimp only[cond]at e;omega);subst t;rfl⟩;rcases C with⟨g,_⟩|⟨E,x,_,A⟩
  ·omega
  obtain rfl:r=E:=by omega
  refine GH.1 ?_;rw[<-A];rcases D.1 rfl with g|⟨g,t,H,E⟩
  ·exact .inl g
  obtain rfl:r=t:=by omega
  exact .inr ⟨g,E⟩
 |false=>
  refine bg.eq Y<|.inl q (bC ω) ⟨d.Tz (.inr ?_),B⟩;rcases C with⟨_,rfl⟩|⟨r,x,_,A⟩
  ·exact absurd (D.2 (.inl ω)) ξ
  refine⟨r,x,GH.2 λe=>?_⟩;rw[<-A]at e;exact absurd (D.2 (e.imp id λe=>⟨e.1,r,x,e.2⟩)) ξ
theorem Rb(h:qt n m G z0 a){p:Nat}(hp:p<n+1):ry n m G (if p=0 then z0 else λv=>if v=p-1 then 1 else 0) (Zp m a p) a.b:=by
 cases p with
 |zero=>exact h.z
 |succ k=>exact YZ h.t (k:=k) ω
def Ri(n m:Nat)(s s':Bool×Ab×Int):Prop:=∃r c,r<m/\c<n/\s'.2.1=pv s.2.1 r c/\(s'.1=true↔s.2.1.F r (n+m)=0)/\Cd n m s.2.1 c/\(s.1=true->∀k,k<n->Cd n m s.2.1 k->s.2.1.fr c<=s.2.1.fr k)/\0<s.2.1.F r (s.2.1.fr c)/\∀i,i<m->0<s.2.1.F i (s.2.1.fr c)->V6 (rat n m s.2.1 c) s.2.1.b r i
def Fe(n m:Nat)(a:Ab):Prop:=∀i,i<m->0<=a.F i (n+m)
theorem V7(l:Fa n m G z0)(D:Nat->Bool×Ab×Int)(h:∀t,(qt n m G z0 (D t).2.1/\Fe n m (D t).2.1)/\Ri n m (D t) (D (t+1))):False:=by
 obtain⟨r,hr⟩:=Classical.skolem.1 λt=>(h t).2;obtain⟨c,a⟩:=Classical.skolem.1 hr;have u:∀t,(D t).2.1.F (r t) ((D t).2.1.fr (c t))≠0:=λt e=>by
  have:=(a t).2.2.2.2.2.2.1;rw[e]at this;exact absurd this Rat.lt_irrefl
 refine Tp (n:=n) (m:=m) (G:=G) (P:=n+1) (z0:=λp=>if p=0 then z0 else λv=>if v=p-1 then 1 else 0) (Z:=λt p=>Zp m (D t).2.1 p) (F:=λt=>(D t).2.1.F) (b:=λt=>(D t).2.1.b) (r:=r) (s:=λt=>(D t).2.1.fr (c t)) ⟨λt=>(h t).1.1.t,λt j hj=>?_,λt=>((h t).1.1.f _ (a t).2.1).2,λt=>(a t).1,λt=>((h t).1.1.f _ (a t).2.1).1⟩ (λt p hp=>Rb (h t).1.1 hp) (λt i d=>?_) (λt p hp=>?_) (λt=>(a t).2.2.2.2.2.2.1) (λt=>(a t).2.2.2.2.1) (λt=>(h t).1.2 _ (a t).1) (λt k x q o g=>?_) (λt i d g A y=>?_)
 ·rw[(a t).2.2.1];rfl
 ·rw[(a t).2.2.1];rfl
 ·have z:=ry.pivot (h t).1.1.t (Rb (h t).1.1 hp) (a t).1 (u t);have u:=Rb (h (t+1)).1.1 hp;have:=ry.same (h (t+1)).1.1.t u (b':=rC (D t).2.1.b (r t) ((D t).2.1.fr (c t))) z (λv _=>by rw[(a t).2.2.1];exact Iff.rfl) (Nat.le_refl _);exact this
 ·rcases(h (t+1)).1.1.all k q with w|⟨j,hj,rfl⟩
  ·exact absurd w o
  intro w;have:=(a (t+1)).2.2.2.2.2.1 ((a t).2.2.2.1.2 x) j hj w;omega
 rcases(a t).2.2.2.2.2.2.2 i d g with w|⟨_,w⟩
 ·unfold rat at w;rw[A,y,Rat.div_def,Rat.div_def,Rat.zero_mul,Rat.zero_mul]at w;exact absurd w Rat.lt_irrefl
 exact w
theorem aea{x y p q:Rat}(hp:0<p)(D:0<q)(h:x/p<=y/q):x*q<=y*p:=by
 have a:=Rat.mul_inv_cancel p λe=>by rw[e]at hp;exact absurd hp Rat.lt_irrefl
 have a:=Rat.mul_inv_cancel q λe=>by rw[e]at D;exact absurd D Rat.lt_irrefl
 rw[Rat.div_def,Rat.div_def]at h;have a:=Rat.mul_le_mul_of_nonneg_right h (Rat.le_of_lt (Rat.mul_pos hp D));have c:x*p⁻¹*(p*q)=x*q:=by grind
 have b:y*q⁻¹*(p*q)=y*p:=by grind
 rw[c,b]at a;exact a
theorem Fe.pv(h:qt n m G z0 a)(H:Fe n m a){r c:Nat}(hr:r<m)(D:0<a.F r (a.fr c))(I:∀i,i<m->0<a.F i (a.fr c)->rat n m a c r<=rat n m a c i):Fe n m (pv a r c):=λi b=>by
 have:=Mz (F:=a.F) (m:=m) (P:=1) (cp:=λ_=>n+m) (r:=r) (c:=a.fr c) D hr (λi b w=>by have:=H i b;have:=ad7.1 w;grind) (λi b hp w=>?_) b
 ·exact Rat.not_lt.1 λw=>this (ad7.2 w)
 have w:=ad7.1 w;have d:=I i b hp;have:=aea D hp d;grind
theorem aeb(l:Fa n m G z0)(h:qt n m G z0 a)(D:Fe n m a)(p u v:Int):bg (eO (dX n m a p u v)) λy=>∃b j,y=(true,dX n m b j u v)/\qt n m G z0 b/\Fe n m b/\∀k,k<n->0<=b.Z (b.fr k):=by
 unfold eO;refine bg.bind (P:=λy=>∃b j,y=(true,dX n m b j u v)/\qt n m G z0 b/\Fe n m b/\∀k,k<n->0<=b.Z (b.fr k)) (Gx (A:=Bool×Ab×Int) (a:=(false,a,p)) (λs=>(s.1,dX n m s.2.1 s.2.2 u v)) (λs=>qt n m G z0 s.2.1/\Fe n m s.2.1) (Ri n m) ⟨h,D⟩ ?_ (V7 l)) λy b=>.ret b;rintro⟨y,a,p⟩ ⟨h,D⟩;dsimp only at h D⊢;refine bg.bind (amX l h p u v y) λx b=>bg.eq Y<|bg.bif (λw=>.ret (.inr ⟨_,Y,a,p,Y,h,D,λk q=>?_⟩)) λw=>?_
 ·have w:=of_decide_eq_true w;rcases b with⟨_,b⟩|⟨r,_,rfl,_⟩
  ·have:¬Cd n m a k:=λe=>by
    have:k∈Ra n m a n:=by simp[Ra,q,e]
    rw[b]at this;cases this
   have:=iE.first this ω;exact this
  omega
 have w:=of_decide_eq_false w;obtain⟨c,o,rfl,H⟩:=b.resolve_left λe=>by omega
 have d:c<n:=List.mem_range.1 (List.mem_filter.1 o).1;have B:Cd n m a c:=by have:=(List.mem_filter.1 o).2;simpa using this
 refine bg.bind (amY l h d p u v) λx b=>bg.eq Y<|bg.bif (λw=>?_) λw=>?_
 ·have w:=of_decide_eq_true w;rcases b with⟨_,b⟩|⟨r,rfl,_⟩
  ·exact(adY h.t l.cap (h.f c d).1 (h.f c d).2 λi z=>Rat.not_lt.1 (b i z)).elim
  omega
 have w:=of_decide_eq_false w;obtain⟨r,rfl,hr,o,C⟩:=b.resolve_left λe=>by omega
 have b:a.F r (a.fr c)≠0:=λe=>by rw[e]at o;exact absurd o Rat.lt_irrefl
 obtain⟨j,e⟩:=XN l h hr d b p u v;refine bg.eq (last_eq h hr p u v).1<|bg.eq (Fc ((h.sz l).1 r hr _ (Nat.le_refl _)) ω ω)<|bg.eq Y<|bg.eq e<|.ret (.inl ⟨(decide (o9 (a.F r (n+m)) 0=0),pv a r c,j),Y,⟨h.pv hr d b,D.pv h hr o λi z E=>?_⟩,r,c,hr,d,Y,?_,B,λe k q I=>?_,o,C⟩)
 ·rcases C i z E with g|⟨g,_⟩
  ·exact Rat.le_of_lt g
  rw[g];exact Rat.le_refl
 ·exact decide_eq_true_iff.trans jE
 dsimp only at e;have:=H k (by simp[Ra,q,I]);unfold leE V6 at this;rw[e]at this;rcases this with g|⟨_,g⟩
 ·exact absurd g Rat.lt_irrefl
 exact g
end
end
section
open Go.Fw
def MY(n m:Nat)(c:Nat->Rat)(A:Nat->Nat->Rat)(b:Nat->Rat):Lr:=⟨n,[vq n c],(List.range m).map λi=>vq n (A i),(List.range m).map λi=>qn (b i)⟩
def gT(n m:Nat)(A:Nat->Nat->Rat)(b:Nat->Rat)(i k:Nat):Rat:=if k<n then A i k else if k<n+m then dl (n+i) k else b i
def zT(n:Nat)(c:Nat->Rat)(k:Nat):Rat:=if k<n then-c k else 0
structure w7 (n m:Nat) (c:Nat->Rat) (A:Nat->Nat->Rat) (b:Nat->Rat):Prop where
 hn:n<=13
 hm:m<=60
 g:∀i,i<m->Gd 650 (n+m) (gT n m A b i)
 z:Gd 650 (n+m) (zT n c)
 cap:∀k,k<n->∃i,i<m/\∀j,j<n->A i j=if j=k then 1 else 0
def a0(n m:Nat)(c:Nat->Rat)(A:Nat->Nat->Rat)(b:Nat->Rat):Ab:=⟨gT n m A b,λj=>n+j,id,zT n c⟩
section
variable {n m:Nat}{c:Nat->Rat}{A:Nat->Nat->Rat}{b:Nat->Rat}
theorem w7.lp(h:w7 n m c A b):Fa n m (gT n m A b) (zT n c):=by
 have l:Uc m (gT n m A b) (λj=>n+j):=λi j d hj=>by
  unfold gT dl;dsimp only;rw[if_neg ω,if_pos ω];by_cases e:i=j
  ·rw[if_pos ω,if_pos e]
  rw[if_neg ω,if_neg e]
 have a:∀j,zT n c (n+j)=0:=λj=>if_neg ω;refine⟨h.hn,h.hm,l,h.g,⟨λk f=>?_,λi _=>a i⟩,h.z,a m,λk f=>?_⟩
 ·rw[bZ (k:=λ_=>0) (λj _=>by rw[a];grind),gX];grind
 obtain⟨i,d,a⟩:=h.cap k f;exact⟨i,d,λj hj=>by unfold gT;rw[if_pos hj];exact a j hj⟩
theorem w7.a0(h:w7 n m c A b):qt n m (gT n m A b) (zT n c) (a0 n m c A b):=by
 refine⟨Bm.first h.lp.hg,h.lp.hc,λk d=>⟨by show k<n+m;omega,λ⟨i,_,e⟩=>?_⟩,λk l _ _ e=>e,λv a=>?_⟩
 ·have e:n+i=k:=e;omega
 rcases Nat.lt_or_ge v n with w|w
 ·exact .inr ⟨v,w,Y⟩
 exact .inl ⟨v-n,by omega,by show n+(v-n)=v;omega⟩
theorem w7.fA(h:w7 n m c A b){i k:Nat}(D:i<m)(H:k<n):FQ 650 (A i k):=by
 have:=(h.g i D).fq (k:=k) ω;unfold gT at this;rwa[if_pos H]at this
theorem w7.fb(h:w7 n m c A b){i:Nat}(D:i<m):FQ 650 (b i):=by
 have:=(h.g i D).fq (k:=n+m) ω;unfold gT at this;rwa[if_neg ω,if_neg ω]at this
theorem w7.fc(h:w7 n m c A b){k:Nat}(D:k<n):FQ 650 (c k):=by
 have:=(h.z.fq (k:=k) ω).neg;unfold zT at this;rwa[if_pos D,Rat.neg_neg]at this
theorem w7.at(h:w7 n m c A b){i k:Nat}(D:i<m)(H:k<n):kD (MY n m c A b).rows i k=some (qn (A i k)):=by
 have:=E7 (L:=650) (m:=(MY n m c A b).rows) (VZ (λi k D H=>h.fA D H) ω) ω ω i k;rwa[show sF (MY n m c A b).rows i k=A i k from Ts (g:=A) D H]at this
theorem w7.atc(h:w7 n m c A b){k:Nat}(D:k<n):kD (MY n m c A b).ik 0 k=some (qn (c k))/\iw (qn (c k))=some (qn (-c k)):=by
 have:=E7 (L:=650) (m:=(MY n m c A b).ik) (λr hr=>by
  obtain rfl:r=vq n c:=by simpa[MY]using hr
  exact CM (λi a=>h.fc a) ω) ω ω 0 k
 rw[show sF (MY n m c A b).ik 0 k=c k from og D]at this;exact⟨this,(((h.fc D).rep ω).neg ω).1⟩
theorem w7.cb(h:w7 n m c A b){i:Nat}(D:i<m):cA (qn (b i))=some (qn (b i)):=(((h.fb D).rep ω).canon ω).1
theorem aqE(i:Nat):qu n m (a0 n m c A b) i=vq (n+1) λk=>if k<n then A i k else b i:=eH λk _=>by
 show gT n m A b i (fv n (n+m) id k)=_;unfold gT fv;by_cases e:k<n
 ·simp[e]
 simp[e,show ¬n+m<n by omega]
theorem ajk:Fb n m (a0 n m c A b)=vq (n+1) λk=>if k<n then-c k else 0:=eH λk _=>by
 show zT n c (fv n (n+m) id k)=_;unfold zT fv;by_cases e:k<n
 ·simp[e]
 simp[e,show ¬n+m<n by omega]
theorem ajl{f:Nat->Rat}{body:Int×List Qr->Option ((Int×List Qr)⊕List Qr)}(D:∀(k:Nat) l,k<n->l.length=n+1->body ((k:Int),l)=some (.inl (((k+1:Nat):Int),l.set k (qn (f k)))))(H:∀l,body ((n:Int),l)=some (.inr l)):bH body (0,List.replicate (n+1) qz)=some (vq (n+1) λk=>if k<n then f k else 0):=by
 refine qg (λk=>vq (n+1) λj=>if j<k then f j else 0) n (by rw[E8];exact eH λj _=>by simp) (λk a=>?_) (H _);rw[D k _ a (b9 _ _),pg];refine lF Y (eH λj _=>?_);by_cases e:j=k
 ·simp[e]
 simp[e,show(j<k+1)=(j<k) by simp;omega]
theorem Rc{k:Nat}{b:Nat->Nat}:uD (k+1) b=uD k b++[(b k:Int)]:=by unfold uD;rw[List.range_succ,List.map_append];rfl
theorem aya(h:w7 n m c A b):gV (MY n m c A b)=some (dX n m (a0 n m c A b) 0 (-1) (-1)):=by
 have hn:=h.hn;have hm:=h.hm;unfold gV;refine az (qg (e:=(⟨n,[],uD n id,[],[],0,-1,-1⟩:Dx)) (λk=>⟨n,[],uD k id,[],[],0,-1,-1⟩) n Y (λk a=>az Y<|cm (decide_eq_true (show(k:Int)<n by omega))<|az (ru ω (by rw[jb];omega))<|az Y (lF (bC ω) (by rw[Rc];rfl))) (by simp[MY]))<|az (congrArg (λk:Nat=>some (k:Int)) (show(MY n m c A b).rows.length=m from iK))<|az (qg (e:=(⟨n,uD m λj=>n+j,uD n id,(List.range m).map (qu n m (a0 n m c A b)),[],0,-1,-1⟩:Dx)) (λi=>⟨n,uD i λj=>n+j,uD n id,(List.range i).map (qu n m (a0 n m c A b)),[],0,-1,-1⟩) m Y (λi d=>?_) η)<|az Y<|az (qg (e:=dX n m (a0 n m c A b) 0 (-1) (-1)) (λi=>⟨n,uD m λj=>n+j,uD n id,(List.range m).map (qu n m (a0 n m c A b)),if i=0 then[]else[Fb n m (a0 n m c A b)],0,-1,-1⟩) 1 Y (λi d=>?_) (by simp[MY];rfl)) Y
 ·refine az Y<|cm (decide_eq_true ω)<|az (congrArg some (bC (n:=n) ω))<|az (fE ω ω)<|az (ajl (f:=A i) (λk l a hl=>az Y<|cm (decide_eq_true (show(k:Int)<n by omega))<|az (h.at d a)<|az (bY (show k<l.length by omega))<|az (cL (show k<l.length by omega))<|az Y (lF (bC ω) Y)) (λl=>by simp[MY]))<|az (bu (jw d))<|az (h.cb d)<|az (bY (show n<(vq (n+1) _).length by rw[b9];omega))<|az (cL (by rw[b9];omega))<|az (ru ω (by rw[iK];omega))<|az (congrArg some (oe (n:=n) (m:=i) ω))<|az (ru ω (by rw[jb];omega))<|az Y (lF (bC ω) ?_);rw[Rc,List.range_succ,List.map_append,pg];have:(vq (n+1) λj=>if j=n then b i else if j<n then A i j else 0)=qu n m (a0 n m c A b) i:=by
   rw[aqE];refine eH λj hj=>?_;by_cases e:j=n
   ·simp[e]
   simp[e,show j<n by omega]
  rw[this];rfl
 obtain rfl:i=0:=by omega
 refine az Y<|cm Y<|az (congrArg some (bC (n:=n) ω))<|az (fE ω ω)<|az (ajl (f:=λk=>-c k) (λk l a hl=>az Y<|cm (decide_eq_true (show(k:Int)<n by omega))<|az (h.atc a).1<|az (h.atc a).2<|az (bY (show k<l.length by omega))<|az (cL (show k<l.length by omega))<|az Y (lF (bC ω) Y)) (λl=>by simp[MY]))<|az (ru ω η)<|az Y (lF Y ?_);rw[<-ajk (m:=m) (A:=A) (b:=b)];rfl
theorem ayb(h:w7 n m c A b):iR (MY n m c A b)=some (dP n m (a0 n m c A b)):=by
 have hn:=h.hn;have hm:=h.hm;unfold iR;refine az (qg (e:=(⟨n,[],uD n id,[],vq n λk=>-c k⟩:Dp)) (λk=>⟨n,[],uD k id,[],vq k λk=>-c k⟩) n Y (λk d=>az Y<|cm (decide_eq_true (show(k:Int)<n by omega))<|az (ru ω (by rw[jb];omega))<|az (h.atc d).1<|az (h.atc d).2<|az (ru ω (by rw[b9];omega))<|az Y (lF (bC ω) (by rw[Rc,AH];rfl))) (by simp[MY]))<|az (ru ω (by rw[b9];omega))<|az (congrArg (λk:Nat=>some (k:Int)) (show(MY n m c A b).rows.length=m from iK))<|az (qg (e:=dP n m (a0 n m c A b)) (λi=>⟨n,uD i λj=>n+j,uD n id,(List.range i).map (qu n m (a0 n m c A b)),Fb n m (a0 n m c A b)⟩) m ?_ (λi a=>?_) (by simp;rfl)) Y
 ·rw[ajk,AH,if_neg (Nat.lt_irrefl n),eH (k:=λk=>-c k) λi a=>if_pos a];rfl
 refine az Y<|cm (decide_eq_true ω)<|az (qg (e:=vq n (A i)) (λk=>vq k (A i)) n Y (λk d=>az Y<|cm (decide_eq_true (show(k:Int)<n by omega))<|az (h.at a d)<|az (ru ω (by rw[b9];omega))<|az Y (lF (bC ω) (by rw[AH]))) (by simp[MY]))<|az (bu (jw a))<|az (h.cb a)<|az (ru ω (by rw[b9];omega))<|az (ru ω (by rw[iK];omega))<|az (congrArg some (oe (n:=n) (m:=i) ω))<|az (ru ω (by rw[jb];omega))<|az Y (lF (bC ω) ?_);rw[Rc,List.range_succ,List.map_append];have:vq n (A i)++[qn (b i)]=qu n m (a0 n m c A b) i:=by
  rw[aqE,AH,if_neg (Nat.lt_irrefl n),eH (k:=A i) λi a=>if_pos a]
 rw[this];rfl
end
end
section
open Go.Fw
def Pt(n m:Nat)(A:Nat->Nat->Rat)(b:Nat->Rat)(x:Nat->Rat):Prop:=(∀k,k<n->0<=x k)/\∀i,i<m->bX (λk=>A i k*x k) n<=b i
def GO(n:Nat)(c x:Nat->Rat):Rat:=bX (λk=>c k*x k) n
section
variable {n m:Nat}{c:Nat->Rat}{A:Nat->Nat->Rat}{b:Nat->Rat}{a:Ab}
theorem XP{z:Nat->Rat}:TV n m (gT n m A b) z↔∀i,i<m->bX (λk=>A i k*z k) n+z (n+i)=b i:=by
 have e:∀i,i<m->bX (λk=>gT n m A b i k*z k) (n+m)=bX (λk=>A i k*z k) n+z (n+i)/\gT n m A b i (n+m)=b i:=λi a=>by
  refine⟨?_,by unfold gT;rw[if_neg ω,if_neg ω]⟩;rw[qR,bZ (k:=λk=>A i k*z k) (λk c=>by unfold gT;rw[if_pos c]),iI a (λj hj c=>by unfold gT dl;rw[if_neg ω,if_pos ω,if_neg ω];grind)];unfold gT dl;rw[if_neg ω,if_pos ω,if_pos rfl];grind
 exact⟨λh i a=>by rw[<-(e i a).1,<-(e i a).2];exact h i a,λh i a=>by rw[(e i a).1,(e i a).2];exact h i a⟩
theorem Rd(z:Nat->Rat):bX (λk=>zT n c k*z k) (n+m)=-GO n c z:=by
 rw[qR,bZ (k:=λk=>(-1:Rat)*(c k*z k)) (λk a=>by unfold zT;rw[if_pos a];grind),jv,bZ (k:=λ_=>0) (h:=λj=>zT n c (n+j)*z (n+j)) (λj _=>by unfold zT;rw[if_neg ω];grind),gX];unfold GO;grind
def slk(n:Nat)(A:Nat->Nat->Rat)(b x:Nat->Rat)(k:Nat):Rat:=if k<n then x k else b (k-n)-bX (λj=>A (k-n) j*x j) n
theorem Pt.sol{x:Nat->Rat}(h:Pt n m A b x):TV n m (gT n m A b) (slk n A b x)/\(∀k,k<n+m->0<=slk n A b x k)/\GO n c (slk n A b x)=GO n c x:=by
 have e:∀f:Nat->Rat,bX (λk=>f k*slk n A b x k) n=bX (λk=>f k*x k) n:=λf=>bZ λk a=>by unfold slk;rw[if_pos a]
 refine⟨XP.2 λi d=>?_,λk a=>?_,e c⟩
 ·rw[e,slk,if_neg ω,Nat.add_sub_cancel_left];grind
 unfold slk;split
 ·exact h.1 k (by assumption)
 have:=h.2 (k-n) ω;grind
theorem qt.pt(h:qt n m (gT n m A b) (zT n c) a)(D:Fe n m a):Pt n m A b (pH m (n+m) a.F a.b):=by
 have f:=XP.1 h.t.pH;have d:=agM (F:=a.F) (b:=a.b) D;exact⟨λk _=>d k,λi e=>by have:=f i e;have:=d (n+i);grind⟩
theorem qt.zn{G:Nat->Nat->Rat}{z0:Nat->Rat}(h:qt n m G z0 a)(H:∀k,k<n->0<=a.Z (a.fr k))(k:Nat)(D:k<n+m):0<=a.Z k:=by
 rcases h.all k D with⟨i,b,rfl⟩|⟨j,hj,rfl⟩
 ·rw[h.z.z i b];exact Rat.le_refl
 exact H j hj
theorem qt.best(h:qt n m (gT n m A b) (zT n c) a)(H:∀k,k<n->0<=a.Z (a.fr k)){x:Nat->Rat}(D:Pt n m A b x):GO n c x<=GO n c (pH m (n+m) a.F a.b):=by
 obtain⟨f,d,e⟩:=D.sol (c:=c);have:=adW h.t h.z (h.zn H) f d;rw[Rd,Rd,e]at this;grind
theorem qt.none(h:qt n m (gT n m A b) (zT n c) a){r:Nat}(hr:r<m)(D:a.F r (n+m)<0)(hp:∀k,k<n->0<=a.F r (a.fr k))(x:Nat->Rat):¬Pt n m A b x:=λf=>by
 obtain⟨e,d,_⟩:=f.sol (c:=c);refine adX h.t hr D (λk f=>?_) e d;rcases h.all k f with⟨i,d,rfl⟩|⟨j,hj,rfl⟩
 ·rw[h.t.hu r i hr d];split<;>decide
 exact hp j hj
theorem valid(h:w7 n m c A b):tf (MY n m c A b)=some true:=by
 have hn:=h.hn;have hm:=h.hm;obtain⟨_,a,k,rfl,d,_⟩:=Gy (m:=[vq n c]) (n:=n) (λr hr=>by simp at hr;rw[hr,b9];exact Nat.le_refl n) ω η;obtain⟨_,e,g,rfl,f,_⟩:=Gy (m:=(List.range m).map λi=>vq n (A i)) (n:=n) (λr hr=>by obtain⟨i,_,rfl⟩:=List.mem_map.1 hr;rw[b9];exact Nat.le_refl n) ω θ;simp[tf,vr,MY,bU,a,e,show ¬((n:Int)<0) by omega,show ¬64<(n:Int) by omega,show ¬128<(m:Int) by omega,d,f]
theorem am0{G:Nat->Nat->Rat}{z0:Nat->Rat}(l:Fa n m G z0)(h:qt n m G z0 a)(p u v:Int):eo (dX n m a p u v)=some (vq n (pH m (n+m) a.F a.b)):=by
 have hn:=l.hn;have hm:=l.hm;unfold eo;refine az (fE ω (show n<=_ by omega))<|az (congrArg (λk:Nat=>some (k:Int)) (show(uD m a.b).length=m from jb))<|az (qg (e:=vq n (pH m (n+m) a.F a.b)) (λi=>vq n λk=>bX (λi=>if a.b i=k then a.F i (n+m)else 0) i) m E8 (λi c=>?_) (by simp;rfl)) Y;have d:=((h.sz l).1 i c (n+m) (Nat.le_refl _)).rep ω;refine az Y<|cm (decide_eq_true ω)<|az (bu (ir c))<|az Y ?_;by_cases e:a.b i<n
 ·refine cm (decide_eq_true (show(a.b i:Int)<n by omega))<|az (last_eq h c p u v).2<|az (d.canon ω).1<|az (bY (by rw[b9];exact e))<|az (cL (by rw[b9];exact e))<|az Y (lF (bC ω) ?_);rw[pg];refine eH λk _=>?_;rw[bX];by_cases w:k=a.b i
  ·rw[if_pos w,if_pos w.symm,bZ (k:=λ_=>0) (λj hj=>if_neg λq=>by have:=AJ h.t.hu (by omega:j<m) c (q.trans w);omega),gX];grind
  rw[if_neg w,if_neg λq=>w q.symm];grind
 refine cq (decide_eq_false (show ¬(a.b i:Int)<n by omega))<|az Y (lF (bC ω) (eH λk c=>?_));rw[bX,if_neg ω];grind
theorem qt.fbs{G:Nat->Nat->Rat}{z0:Nat->Rat}(l:Fa n m G z0)(h:qt n m G z0 a)(k:Nat):FQ 5400000 (pH m (n+m) a.F a.b k):=by
 by_cases q:rF m a.b k
 ·obtain⟨i,c,rfl⟩:=q;rw[C7 h.t.hu c];exact(h.sz l).1 i c _ (Nat.le_refl _)
 rw[xS q];exact qq ω
theorem ag0{G:Nat->Nat->Rat}{z0:Nat->Rat}(l:Fa n m G z0)(h:qt n m G z0 a)(p v:Int){r:Nat}(hr:r<m):bg (dU (dX n m a p r v)) λy=>y.kind=2:=by
 have hn:=l.hn;have hm:=l.hm;have hl:∀w,w<n+m->¬(w:Int)<n->fG (List.replicate m (⟨⟨false,[]⟩,⟨false,[]⟩⟩:Qr)) (IntKind.i64.wrap ((w:Int)-n))=some (w-n):=λw d c=>by
  rw[cV ω ω,show(w:Int)-n=((w-n:Nat):Int) by omega];exact bY θ
 unfold dU;refine bg.eq (congrArg (λk:Nat=>some (k:Int)) (show((List.range m).map (qu n m a)).length=m from iK))<|bg.eq (fE ω ω)<|bg.eq (bu (ir hr))<|bg.eq Y<|bg.bU (λl=>l.length=m) (λK c=>bg.bif (λw=>?_) λ_=>c _ η) λg d=>bg.eq (congrArg (λk:Nat=>some (k:Int)) (show(uD n a.fr).length=n from jb))<|bg.bind (P:=λ_=>True) (bg.cnt Prod.fst n (λ_ s=>s.2.length=m) Y d ?_) λy _=>.ret Y
 ·have w:n<=a.b r:=by have:=of_decide_eq_true w;dsimp only[dX]at this;omega
  have hb:=h.t.hb r hr;refine bg.eq Y<|bg.eq (cz (n:=1) ξ).1<|bg.eq (hl _ hb ω)<|bg.eq (cL θ)<|c _ η
 rintro k ⟨_,i⟩ d rfl d;dsimp only at d⊢;refine bg.eq Y<|bg.bif (λq=>?_) λ_=>.inr trivial;have q:k<n:=by have:=of_decide_eq_true q;omega
 have j:=(h.f k q).1;refine bg.eq (bu (ir q))<|bg.eq Y<|bg.bU (λl=>l.length=m) (λK c=>bg.bif (λw=>?_) λ_=>c _ d) λo g=>bg.eq Y<|.inl q (bC ω) g;have w:n<=a.fr k:=by have:=of_decide_eq_true w;dsimp only[dX]at this;omega
 have g:(qu n m a r)[k]? =some (qn (a.F r (a.fr k))):=by
  show(vq (n+1) _)[k]? =_;rw[fU ω,show fv n (n+m) a.fr k=a.fr k from if_pos q]
 have o:=((h.sz l).1 r hr _ (Nat.le_of_lt j)).rep ω;have e:IntKind.i64.wrap ((a.fr k:Int)-n)=((a.fr k-n:Nat):Int):=by rw[cV ω ω];omega
 exact bg.eq (congrArg some e)<|bg.eq (bu (jw hr))<|bg.eq (bu g)<|bg.eq (o.canon ω).1<|bg.eq (bY (show a.fr k-n<i.length by omega))<|bg.eq (cL (show a.fr k-n<i.length by omega))<|c _ (by simp[d])
theorem ayc{G:Nat->Nat->Rat}{z0:Nat->Rat}(l:Fa n m G z0)(h:qt n m G z0 a)(p u v:Int):bg (eN (dX n m a p u v)) λy=>y.kind=1/\y.x=vq n (pH m (n+m) a.F a.b):=by
 have hn:=l.hn;have hm:=l.hm;obtain⟨W,c,o⟩:=TB l h p u v;have g:(GL n (dX n m a p u v) (Fb n m a) W).length=n+1:=by simp[GL]
 unfold eN;refine bg.eq c<|bg.eq (congrArg (λk:Nat=>some (k:Int)) (show((List.range m).map (qu n m a)).length=m from iK))<|bg.eq (fE ω ω)<|bg.eq Y ?_;rw[List.length_replicate];refine bg.eq (zF (λ_=>List.replicate (n+1) qz) (λi l c hl _=>az rfl<|cm (decide_eq_true ω)<|az (AK (List.getElem?_eq_getElem (show i<l.length by omega)))<|az (congrArg (λk:Nat=>some (k:Int)) g)<|az (fE ω ω)<|az rfl (lF (bC ω) rfl)) (λl hl=>az rfl<|cq (decide_eq_false ω) rfl))<|bg.eq (congrArg (λk:Nat=>some (k:Int)) (show(uD n a.fr).length=n from jb))<|bg.bind (P:=λ_=>True) (bg.cnt Prod.fst n (λ_ s=>s.2.length=m/\∀r∈s.2,r.length=n+1) rfl ⟨by simp,λr hr=>by obtain⟨_,_,rfl⟩:=List.mem_map.1 hr;simp⟩ ?_) λy _=>bg.eq (am0 l h p u v)<|.ret ⟨Y,Y⟩;rintro k ⟨_,M⟩ c rfl ⟨d,c⟩;dsimp only at d c⊢;refine bg.eq Y<|bg.bif (λq=>?_) λ_=>.inr trivial;have q:k<n:=by have:=of_decide_eq_true q;omega
 have t:=(h.f k q).1;refine bg.eq (bu (ir q))<|bg.eq Y<|bg.bif (λ_=>bg.eq Y<|.inl q (bC ω) ⟨d,c⟩) λw=>?_;have w:n<=a.fr k:=by have:=of_decide_eq_false w;dsimp only[dX]at this;omega
 have e:IntKind.i64.wrap ((a.fr k:Int)-n)=((a.fr k-n:Nat):Int):=by rw[cV ω ω];omega
 refine bg.eq (congrArg some e)<|bg.eq (bY ω)<|bg.eq (List.getElem?_eq_getElem (show a.fr k-n<M.length by omega))<|bg.eq (congrArg (λk:Nat=>some (k:Int)) g)<|bg.bind (P:=λs:List (List Qr)=>s.length=m/\∀r∈s,r.length=n+1) (bg.cnt Prod.fst (n+1) (λ_ s=>s.2.length=m/\∀r∈s.2,r.length=n+1) Y ⟨d,c⟩ ?_) λM' g=>bg.eq Y<|.inl q (bC ω) g;rintro j ⟨_,M⟩ hj rfl ⟨d,c⟩;dsimp only at d c⊢;refine bg.eq Y<|bg.bif (λz=>?_) λ_=>.inr ⟨d,c⟩;have z:j<n+1:=by have:=of_decide_eq_true z;omega
 obtain⟨x,g,A,t⟩:=ajj l h (p:=p) (u:=u) (v:=v) o z q;have hr:=List.getElem?_eq_getElem (show a.fr k-n<M.length by omega);have o:=c _ (List.getElem_mem (show a.fr k-n<M.length by omega));generalize M[a.fr k-n]=r at hr o;refine bg.eq (bu g)<|bg.eq A<|bg.eq ((t.rep ω).canon ω).1<|bg.eq (a:=j) (by simp only[Ds,hr,Option.bind_some];exact bY ω)<|bg.eq (a:=M.set (a.fr k-n) (r.set j (qn (Zp m a j (a.fr k))))) (by simp only[Rk,hr,Option.bind_some];rw[cL ω];rfl)<|bg.eq Y<|.inl z (bC ω) ⟨by simp[d],λt g=>?_⟩;rcases List.mem_or_eq_of_mem_set g with w|rfl
 ·exact c t w
 simp[o]
theorem aec(h:w7 n m c A b):bg (n9 (MY n m c A b)) λy=>(y.2.2=8/\∀x,¬Pt n m A b x)\/(y.2.2=0/\∃x,y.1=vq n x/\(∀k,FQ 5400000 (x k))/\Pt n m A b x/\∀e,Pt n m A b e->GO n c e<=GO n c x):=by
 have l:=h.lp;have hn:=h.hn;refine bg.bind (P:=λy:Rs×Int=>y.2=0/\((y.1.kind=2/\∀x,¬Pt n m A b x)\/(y.1.kind=1/\∃x,y.1.x=vq n x/\(∀k,FQ 5400000 (x k))/\Pt n m A b x/\∀e,Pt n m A b e->GO n c e<=GO n c x))) ?_ ?_
 ·unfold ql;refine bg.eq (valid h)<|bg.eq rfl<|bg.bif (λw=>by cases w) λ_=>bg.eq (aya h)<|bg.bind (ad8 l h.a0 0 (-1) (-1)) ?_;rintro _ ⟨a,p,d,⟨rfl,g⟩|⟨r,rfl,hr,t,q⟩⟩
  ·refine bg.eq rfl<|bg.bif (λw=>by cases w) λ_=>bg.bind (aeb l d g p _ _) ?_;rintro _ ⟨a,p,rfl,d,g,s⟩;refine bg.eq rfl<|bg.bif (λw=>by cases w) λ_=>bg.bind (ayc l d p _ _) ?_;rintro y ⟨o,j⟩;exact .ret ⟨Y,.inr ⟨o,_,j,d.fbs l,d.pt g,λe f=>d.best s f⟩⟩
  refine bg.eq rfl<|bg.bif (λ_=>bg.bind (ag0 l d p _ hr) λy e=>.ret ⟨rfl,.inl ⟨e,λx=>d.none hr t q x⟩⟩) λw=>by cases w
 rintro⟨y,_⟩ ⟨rfl,⟨e,d⟩|⟨e,x,d,f,j,g⟩⟩
 ·exact bg.eq rfl<|bg.bif (λw=>by cases w) λ_=>bg.eq rfl<|bg.bif (λ_=>.ret (.inl ⟨rfl,d⟩)) λw=>absurd e (of_decide_eq_false w)
 dsimp only at e d;refine bg.eq rfl<|bg.bif (λw=>by cases w) λ_=>bg.eq rfl<|bg.bif (λw=>by have:=of_decide_eq_true w;omega) λ_=>bg.eq rfl<|bg.bif (λw=>by have:=of_decide_eq_true w;omega) λ_=>bg.bind (P:=λ_=>True) ?_ λ_ _=>.ret (.inr ⟨rfl,x,d,f,j,g⟩);rw[d];exact⟨_,az (MA (L:=650) (M:=5400000) (m:=[vq n c]) (λr hr=>by simp at hr;rw[hr];exact CM (λi d=>h.fc d) ω) (CM (λi _=>f i) ω) ω ω (by rw[b9];exact Nat.le_trans (Nat.mul_le_mul_right _ (show n+2<=15 by omega)) ξ) η) Y,an⟩
end
end
section
open Go.Fw
theorem am1{α β:Type}{l:List α}{i:Int}{f:α->Option β}:((fG l i).bind λk=>(l[k]?).bind f)=(bV l i).bind f:=by
 unfold fG bV;by_cases h:0<=i
 ·by_cases a:i<l.length
  ·simp[h,a]
  simp[h,a,show l.length<=i.toNat by omega]
 simp[h]
theorem plO(x:Dp):mZ x=dK x:=by
 unfold mZ dK;simp only[am1]
section
variable {n m:Nat}{G:Nat->Nat->Rat}{z0:Nat->Rat}{a:Ab}
def aed(n m:Nat)(a:Ab)(D:List Int):Prop:=(∀k,k<n->n<=a.fr k->D[a.fr k-n]? =some (k:Int))/\∀j,j<m->rF m a.b (n+j)->D[j]? =some (-1)
theorem XQ(l:Fa n m G z0)(h:qt n m G z0 a):bg (dK (dP n m a)) (aed n m a):=by
 have hn:=l.hn;have hm:=l.hm;unfold dK;refine bg.eq (congrArg (λk:Nat=>some (k:Int)) (show((List.range m).map (qu n m a)).length=m from iK))<|bg.eq (fE ω ω)<|bg.eq Y ?_;rw[List.length_replicate];refine bg.eq (zF (λ_=>(-1:Int)) (λi l c hl _=>az Y<|cm (decide_eq_true ω)<|az (bY (show i<l.length by omega))<|az (cL (show i<l.length by omega))<|az Y (lF (bC ω) Y)) (λl hl=>az Y<|cq (decide_eq_false ω) Y))<|bg.eq (congrArg (λk:Nat=>some (k:Int)) (show(uD n a.fr).length=n from jb))<|bg.bind (P:=aed n m a) (bg.cnt Prod.fst n (λi s=>s.2.length=m/\(∀k,k<i->n<=a.fr k->s.2[a.fr k-n]? =some (k:Int))/\∀j,j<m->rF m a.b (n+j)->s.2[j]? =some (-1)) Y ⟨by simp,λk c=>by omega,λj hj _=>jw hj⟩ ?_) λy d=>.ret d;rintro k ⟨_,s⟩ c rfl ⟨o,g,d⟩;dsimp only at o g d⊢;refine bg.eq Y<|bg.bif (λq=>?_) λq=>.inr (by have e:k=n:=(by have:=of_decide_eq_false q;omega);subst e;exact⟨g,d⟩);have q:k<n:=by have:=of_decide_eq_true q;omega
 have t:=h.f k q;refine bg.eq (bu (ir q))<|bg.eq Y<|bg.bU (λs'=>s'.length=m/\(∀j,j<k+1->n<=a.fr j->s'[a.fr j-n]? =some (j:Int))/\∀j,j<m->rF m a.b (n+j)->s'[j]? =some (-1)) (λK p=>bg.bif (λw=>?_) λw=>p _ ⟨o,λj hj c=>?_,d⟩) λs' r=>bg.eq Y<|.inl q (bC ω) r
 ·have w:n<=a.fr k:=by have:=of_decide_eq_true w;dsimp only[dP]at this;omega
  have e:IntKind.i64.wrap ((a.fr k:Int)-n)=((a.fr k-n:Nat):Int):=by rw[cV ω ω];omega
  refine bg.eq (congrArg some e)<|bg.eq (bY (show a.fr k-n<s.length by omega))<|bg.eq (cL (show a.fr k-n<s.length by omega))<|p _ ⟨by simp[o],λj hj c=>?_,λj hj p=>?_⟩
  ·by_cases o:j=k
   ·rw[o,nR ω]
   rw[List.getElem?_set_ne (λr=>o (h.inj j k ω q ω))];exact g j ω c
  rw[List.getElem?_set_ne (λr=>t.2 (by rw[show a.fr k=n+j by omega];exact p))];exact d j hj p
 have w:¬n<=a.fr k:=by have:=of_decide_eq_false w;dsimp only[dP]at this;omega
 exact g j (Nat.lt_of_le_of_ne ω λe=>w (by rw[<-e];exact c)) c
theorem ajm(l:Fa n m G z0):gP (dP n m a)=some ((1+m:Nat):Int):=by
 have hn:=l.hn;have hm:=l.hm;have b:IntKind.i64.wrap (((n+1:Nat):Int)-n)=((1:Nat):Int):=by rw[cV ω ω];omega
 exact az (congrArg (λk:Nat=>some (k:Int)) (show(Fb n m a).length=n+1 from b9 _ _))<|az (congrArg some b)<|az (congrArg (λk:Nat=>some (k:Int)) (show((List.range m).map (qu n m a)).length=m from iK))<|az (congrArg some (oe ω)) Y
theorem V8(l:Fa n m G z0)(h:qt n m G z0 a){H:List Int}(hp:aed n m a H){i p:Nat}(D:i<m)(I:p<1+m):dQ (dP n m a) i p H=some (qn (a.F i (zL n m p))):=by
 have hn:=l.hn;have hm:=l.hm;have b:IntKind.i64.wrap (((n+1:Nat):Int)-n)=((1:Nat):Int):=by rw[cV ω ω];omega
 unfold dQ;refine az (congrArg (λk:Nat=>some (k:Int)) (show(Fb n m a).length=n+1 from b9 _ _))<|az (congrArg some b)<|az Y ?_;have d:∀k,k<n+1->(qu n m a i)[k]? =some (qn (a.F i (fv n (n+m) a.fr k))):=λk c=>fU c;cases p with
 |zero=>
  refine cm (decide_eq_true ω)<|az (bu (jw D))<|az (congrArg some (oe (n:=n) (m:=0) ω))<|az (bu (d n ω)) ?_;rw[show fv n (n+m) a.fr n=n+m from if_neg (Nat.lt_irrefl n)];rfl
 |succ j=>
  have hj:j<m:=by omega
  have f:IntKind.i64.wrap (((j+1:Nat):Int)-((1:Nat):Int))=(j:Int):=by rw[cV ω ω];omega
  have b:zL n m (j+1)=n+j:=by unfold zL;rw[if_neg ω];omega
  rw[b];refine cq (decide_eq_false ω)<|az (congrArg some f) ?_;rcases h.all (n+j) ω with o|⟨k,c,g⟩
  ·have b:=hp.2 j hj o;have q:IntKind.i64.wrap (IntKind.i64.wrap ((n:Int)+((j+1:Nat):Int))-((1:Nat):Int))=((n+j:Nat):Int):=by rw[oe ω,cV ω ω];omega
   refine az (bu b)<|az Y<|cq Y<|az (bu (ir D))<|az Y<|az (congrArg some q)<|az Y ?_;obtain⟨r,hr,q⟩:=o;rw[<-q,h.t.hu i r D hr];by_cases e:i=r
   ·rw[if_pos e];exact cm (decide_eq_true (by rw[e]))<|az (cz (n:=1) ξ).1 Y
   rw[if_neg e];exact cq (decide_eq_false (λw=>e (AJ h.t.hu D hr ω))) Y
  have b:=hp.1 k c ω;rw[g,Nat.add_sub_cancel_left]at b;refine az (bu b)<|az Y<|cm (decide_eq_true ω)<|az (bu (jw D))<|az (congrArg some f)<|az (bu b)<|az (bu (d k ω)) ?_;rw[show fv n (n+m) a.fr k=a.fr k from if_pos c,g]
theorem Pa{P p:Nat}{f:Nat->Rat}(hp:p<P)(D:∀q,q<p->f q=0)(H:f p≠0):cG P f↔f p<0:=by
 refine⟨λ⟨q,c,a,b⟩=>?_,λe=>⟨p,hp,e,D⟩⟩;rcases Nat.lt_trichotomy p q with g|rfl|g
 ·exact absurd (b p g) H
 ·exact a
 rw[D q g]at a;exact absurd a Rat.lt_irrefl
theorem aqF(l:Fa n m G z0)(h:qt n m G z0 a){D:List Int}(hp:aed n m a D){i:Nat}(H:i<m):bg (gQ (dP n m a) i D) λs=>s<0↔cG (1+m) λp=>a.F i (zL n m p):=by
 have hm:=l.hm;unfold gQ;refine bg.eq (ajm l)<|bg.bind (P:=λy:Unit⊕Int=>(∃u,y=.inl u/\∀p,p<1+m->a.F i (zL n m p)=0)\/∃s,y=.inr s/\(s<0↔cG (1+m) λp=>a.F i (zL n m p))) (bg.cnt id (1+m) (λk _=>∀p,p<k->a.F i (zL n m p)=0) Y (λp hp=>by omega) ?_) ?_
 ·rintro k _ b rfl b;refine bg.eq Y<|bg.bif (λq=>?_) λq=>.inr (.inl ⟨_,Y,λp hp=>b p (by have:=of_decide_eq_false q;omega)⟩);have q:k<1+m:=by have:=of_decide_eq_true q;omega
  refine bg.eq (V8 l h hp H q)<|bg.eq (Fc ((h.sz l).1 i H _ (My q)) ω ω)<|bg.eq Y<|bg.bif (λw=>.inr (.inr ⟨_,Y,?_⟩)) λw=>bg.eq Y<|.inl q (bC ω) λp c=>?_
  ·rw[nh];exact(Pa q b λe=>of_decide_eq_true w (jE.2 e)).symm
  by_cases e:p=k
  ·rw[e];exact jE.1 (Classical.not_not.1 (of_decide_eq_false w))
  exact b p ω
 rintro y (⟨u,rfl,b⟩|⟨s,rfl,c⟩)
 ·exact .ret ⟨λe=>absurd e ω,λe=>absurd e (ni b)⟩
 exact .ret c
theorem aee(l:Fa n m G z0)(h:qt n m G z0 a):bg (fL (dP n m a)) λy=>∃f,qt n m G z0 f/\((y=(true,dP n m f)/\∀i,i<m->¬cG (1+m) λp=>f.F i (zL n m p))\/(y=(false,dP n m f)/\∃r,r<m/\(cG (1+m) λp=>f.F r (zL n m p))/\∀k,k<n->0<=f.F r (f.fr k))):=by
 have hm:=l.hm;unfold fL;refine bg.bind (P:=λy=>∃f z,y=.inr z/\qt n m G z0 f/\((z=(true,dP n m f)/\∀i,i<m->¬cG (1+m) λp=>f.F i (zL n m p))\/(z=(false,dP n m f)/\∃r,r<m/\(cG (1+m) λp=>f.F r (zL n m p))/\∀k,k<n->0<=f.F r (f.fr k)))) (Gx (A:=Ab) (a:=a) (λa=>dP n m a) (λa=>qt n m G z0 a) (Rr n m (1+m) (zL n m)) h ?_ (ML λ_ h=>My h)) ?_
 ·intro a h;rw[plO];refine bg.bind (XQ l h) λd u=>bg.eq (congrArg (λk:Nat=>some (k:Int)) (show((List.range m).map (qu n m a)).length=m from iK))<|bg.bind (P:=GG (λi=>cG (1+m) λp=>a.F i (zL n m p)) (ky a.b) m) (bg.cnt Prod.snd m (λi s=>GG (λi=>cG (1+m) λp=>a.F i (zL n m p)) (ky a.b) i s.1) Y GG.z ?_) λy g=>bg.eq Y<|bg.bif (λq=>.ret (.inr ⟨_,Y,a,_,Y,h,.inl ⟨Y,λi v=>?_⟩⟩)) λq=>?_
  ·rintro i ⟨y,_⟩ v rfl g;dsimp only at g⊢;refine bg.eq Y<|bg.bif (λd=>?_) λq=>.inr ?_
   ·have q:i<m:=by simpa using d
    clear d;refine bg.bU (λb=>(b=true->(cG (1+m) λp=>a.F i (zL n m p))/\∀d:Nat,y=d->ky a.b i d)/\(b=false->(¬cG (1+m) λp=>a.F i (zL n m p))\/∃d:Nat,y=d/\ky a.b d i)) (λK t=>bg.eq rfl<|bg.bind (P:=λb=>(b=true->∀d:Nat,y=d->ky a.b i d)/\(b=false->∃d:Nat,y=d/\ky a.b d i)) ?_ λb o=>bg.bind (P:=λb=>(b=true->(cG (1+m) λp=>a.F i (zL n m p))/\∀d:Nat,y=d->ky a.b i d)/\(b=false->(¬cG (1+m) λp=>a.F i (zL n m p))\/∃d:Nat,y=d/\ky a.b d i)) (bg.bif (λw=>bg.bind (aqF l h u q) λs u=>bg.eq rfl<|.ret ⟨λe=>⟨u.1 (of_decide_eq_true e),o.1 w⟩,λe=>.inl λx=>of_decide_eq_false e (u.2 x)⟩) λw=>.ret ⟨λe=>(by cases e),λ_=>.inr (o.2 w)⟩) t) λb o=>bg.bU (λj=>j=bif b then(i:Int)else y) (λK t=>bg.bif (λw=>t _ (by rw[w];rfl)) λw=>t _ (by rw[w];rfl)) ?_
    ·rcases g with⟨rfl,_⟩|⟨d,rfl,t,_⟩
     ·exact⟨true,rfl,λ_ d e=>by omega,λe=>by cases e⟩
     refine bg.bif (λw=>absurd (of_decide_eq_true w) ω) λ_=>bg.eq (Iu q)<|bg.eq (ir q)<|bg.eq (Iu (show d<m by omega))<|bg.eq (ir (show d<m by omega)) ⟨_,Y,λe t u=>?_,λe=>⟨d,Y,?_⟩⟩
     ·have:=of_decide_eq_true e;obtain rfl:d=t:=by omega
      unfold ky;omega
     have:=of_decide_eq_false e;unfold ky;omega
    rintro _ rfl;refine bg.eq Y<|.inl q (bC ω) ?_;cases b with
    |true=>exact g.hit (λ_=>Nat.le_refl _) (λ_ _ _ t x=>Nat.le_trans t x) (o.1 Y).1 (o.1 Y).2
    |false=>exact g.Tz (o.2 Y)
   obtain rfl:i=m:=by have:=of_decide_eq_false q;omega
   exact g
  ·have q:=of_decide_eq_true q;rcases g with⟨_,g⟩|⟨r,rfl,_⟩
   ·exact g i v
   omega
  have q:=of_decide_eq_false q;obtain⟨r,rfl,hr,o,B⟩:=g.resolve_left λw=>by omega
  refine bg.eq (congrArg (λk:Nat=>some (k:Int)) (show(uD n a.fr).length=n from jb))<|bg.bind (TA l h hr λy i=>rfl) λy g=>bg.eq rfl<|bg.bif (λq=>.ret (.inr ⟨_,rfl,a,_,rfl,h,.inr ⟨rfl,r,hr,o,λk d=>?_⟩⟩)) λq=>?_
  ·have q:=of_decide_eq_true q;rcases g with⟨_,g⟩|⟨r,rfl,_⟩
   ·exact Rat.not_lt.1 (g k d)
   omega
  have q:=of_decide_eq_false q;obtain⟨c,rfl,v,d,u⟩:=g.resolve_left λw=>by omega
  have g:a.F r (a.fr c)≠0:=λw=>by rw[w]at d;exact absurd d Rat.lt_irrefl
  exact bg.eq (XO l h hr v g)<|.ret (.inl ⟨pv a r c,Y,h.pv hr v g,r,c,hr,v,Y,o,B,d,u⟩)
 rintro y ⟨f,z,rfl,t,x⟩;exact .ret ⟨f,t,x⟩
theorem am2(l:Fa n m G z0)(h:qt n m G z0 a):bg (fB (dP n m a)) (GG (λc=>a.Z (a.fr c)<0) (V6 (λc=>a.Z (a.fr c)) a.fr) n):=by
 have hn:=l.hn;have v:=(h.sz l).2;have u:∀c,c<n->(Fb n m a)[c]? =some (qn (a.Z (a.fr c))):=λc p=>by
  show(vq (n+1) _)[c]? =_;rw[fU ω,show fv n (n+m) a.fr c=a.fr c from if_pos p]
 unfold fB;refine bg.eq (congrArg (λk:Nat=>some (k:Int)) (show(uD n a.fr).length=n from jb))<|bg.bind (P:=GG (λc=>a.Z (a.fr c)<0) (V6 (λc=>a.Z (a.fr c)) a.fr) n) (bg.cnt Prod.snd n (λi s=>GG (λc=>a.Z (a.fr c)<0) (V6 (λc=>a.Z (a.fr c)) a.fr) i s.1) Y GG.z ?_) λy d=>.ret d;rintro i ⟨y,_⟩ t rfl d;dsimp only at d⊢;refine bg.eq Y<|bg.bif (λt=>?_) λq=>.inr (by have e:i=n:=(by have:=of_decide_eq_false q;omega);subst e;exact d);have q:i<n:=by simpa using t
 clear t;have x:=λc p=>(v (a.fr c) (Nat.le_of_lt (h.f c p).1)).rep ω;refine bg.eq (bu (ir q))<|bg.eq (bu (u i q))<|bg.eq ((x i q).sign ω)<|bg.eq Y<|bg.bif (λw=>bg.eq Y<|.inl q (bC ω) (d.Tz (.inl λp=>?_))) λw=>bg.eq Y<|?_
 ·have:=nh.2 p;have:=of_decide_eq_true w;omega
 have w:a.Z (a.fr i)<0:=nh.1 (by have:=of_decide_eq_false w;omega);refine bg.bU (λo=>(y<0/\o=-1)\/∃r:Nat,y=r/\r<n/\o=o9 (a.Z (a.fr i)) (a.Z (a.fr r))) (λK t=>?_) λo v=>?_
 ·rcases d with⟨rfl,_⟩|⟨r,rfl,hr,hp,_⟩
  ·exact bg.bif (λw=>absurd (of_decide_eq_true w) ω) λ_=>t _ (.inl ⟨by omega,Y⟩)
  exact bg.bif (λ_=>bg.eq (bu (u i q))<|bg.eq (bu (u r ω))<|bg.eq ((x i q).cmp (x r ω) ω)<|t _ (.inr ⟨r,Y,by omega,Y⟩)) λw=>absurd (of_decide_eq_false w) ω
 refine bg.bU (λz=>z=true↔o<0\/o=0/\∃r:Nat,y=r/\a.fr i<a.fr r) (λK t=>bg.eq rfl<|bg.bind (P:=λz=>z=true↔o<0\/o=0/\∃r:Nat,y=r/\a.fr i<a.fr r) (bg.bif (λw=>.ret ⟨λ_=>.inl (of_decide_eq_true w),λ_=>rfl⟩) λw=>bg.eq rfl<|bg.bind (P:=λz=>z=true↔o<0\/o=0/\∃r:Nat,y=r/\a.fr i<a.fr r) (bg.bif (λp=>?_) λp=>.ret ⟨λe=>(by cases e),λe=>?_⟩) λb u=>.ret u) t) λz x=>bg.bU (λj=>j=bif z then(i:Int)else y) (λK t=>bg.bif (λw=>t _ (by rw[w];rfl)) λw=>t _ (by rw[w];rfl)) ?_
 ·have w:=of_decide_eq_false w;have p:=of_decide_eq_true p;obtain⟨r,rfl,hr,_⟩:=v.resolve_left λe=>by omega
  refine bg.eq (bu (ir hr)) ⟨_,Y,?_⟩;dsimp only;rw[decide_eq_true_eq];refine⟨λg=>.inr ⟨p,r,Y,by omega⟩,λg=>?_⟩;rcases g with g|⟨_,A,t,u⟩
  ·exact absurd g w
  obtain rfl:r=A:=by omega
  omega
 ·rcases e with g|⟨g,_⟩
  ·exact absurd g (of_decide_eq_false w)
  exact absurd g (of_decide_eq_false p)
 rintro _ rfl;cases z with
 |true=>
  refine bg.eq Y<|.inl q (bC ω) (d.hit MM Iv w λr e=>?_);rcases v with⟨g,_⟩|⟨A,t,_,u⟩
  ·omega
  obtain rfl:r=A:=by omega
  refine GH.1 ?_;rw[<-u];rcases x.1 rfl with g|⟨g,p,B,A⟩
  ·exact .inl g
  obtain rfl:r=p:=by omega
  exact .inr ⟨g,A⟩
 |false=>
  refine bg.eq Y<|.inl q (bC ω) (d.Tz (.inr ?_));rcases v with⟨_,rfl⟩|⟨r,t,_,u⟩
  ·exact absurd (x.2 (.inl ω)) ξ
  refine⟨r,t,GH.2 λe=>?_⟩;rw[<-u]at e;exact absurd (x.2 (e.imp id λe=>⟨e.1,r,t,e.2⟩)) ξ
end
end
section
open Go.Fw
section
variable {n m:Nat}{G:Nat->Nat->Rat}{z0:Nat->Rat}{a:Ab}
theorem aqG(l:Fa n m G z0)(h:qt n m G z0 a){I:List Int}(hp:aed n m a I){i r c:Nat}(D:i<m)(hr:r<m)(H:c<n):bg (gU (dP n m a) i r c I) λb=>b=true↔cG (1+m) λp=>a.F i (zL n m p)*a.F r (a.fr c)-a.F r (zL n m p)*a.F i (a.fr c):=by
 have hm:=l.hm;have d:=(h.sz l).1;have v:∀i,(qu n m a i)[c]? =some (qn (a.F i (a.fr c))):=λi=>by
  show(vq (n+1) _)[c]? =_;rw[fU ω,show fv n (n+m) a.fr c=a.fr c from if_pos H]
 have j:=Nat.le_of_lt (h.f c H).1;unfold gU;refine bg.eq (ajm l)<|bg.bind (P:=λy:Unit⊕Bool=>(∃u,y=.inl u/\∀p,p<1+m->a.F i (zL n m p)*a.F r (a.fr c)-a.F r (zL n m p)*a.F i (a.fr c)=0)\/∃s,y=.inr s/\(s=true↔cG (1+m) λp=>a.F i (zL n m p)*a.F r (a.fr c)-a.F r (zL n m p)*a.F i (a.fr c))) (bg.cnt id (1+m) (λk _=>∀p,p<k->a.F i (zL n m p)*a.F r (a.fr c)-a.F r (zL n m p)*a.F i (a.fr c)=0) Y (λp hp=>by omega) ?_) ?_
 ·rintro k _ g rfl g;refine bg.eq Y<|bg.bif (λq=>?_) λq=>.inr (.inl ⟨_,Y,λp hp=>g p (by have:=of_decide_eq_false q;omega)⟩);have q:k<1+m:=by have:=of_decide_eq_true q;omega
  have t:=((d i D _ (My q)).rep ω).mul ((d r hr _ j).rep ω) ω;have o:=((d r hr _ (My q)).rep ω).mul ((d i D _ j).rep ω) ω;refine bg.eq (V8 l h hp D q)<|bg.eq (bu (jw hr))<|bg.eq (bu (v r))<|bg.eq t.1<|bg.eq (V8 l h hp hr q)<|bg.eq (bu (jw D))<|bg.eq (bu (v i))<|bg.eq o.1<|bg.eq (t.2.cmp o.2 ω)<|bg.eq Y<|bg.bif (λw=>bg.eq Y<|.inr (.inr ⟨_,Y,?_⟩)) λw=>bg.eq Y<|.inl q (bC ω) λp j=>?_
  ·rw[decide_eq_true_eq,nh,Pa q g λe=>of_decide_eq_true w (Gs.2 (by grind))];constructor<;>intro<;>grind
  by_cases e:p=k
  ·have:=Gs.1 (Classical.not_not.1 (of_decide_eq_false w));rw[e,this];grind
  exact g p ω
 rintro y (⟨u,rfl,g⟩|⟨s,rfl,d⟩)
 ·exact .ret ⟨λe=>(by cases e),λe=>absurd e (ni g)⟩
 exact .ret d
def Y0(n m:Nat)(a:Ab)(c r j:Nat):Prop:=¬cG (1+m) λp=>a.F j (zL n m p)/a.F j (a.fr c)-a.F r (zL n m p)/a.F r (a.fr c)
theorem Iw{P:Nat}{x y:Nat->Rat}{p q:Rat}(hp:0<p)(D:0<q):(cG P λk=>x k*q-y k*p)↔cG P λk=>x k/p-y k/q:=by
 have a:=Rat.mul_inv_cancel p λe=>by rw[e]at hp;exact absurd hp Rat.lt_irrefl
 have a:=Rat.mul_inv_cancel q λe=>by rw[e]at D;exact absurd D Rat.lt_irrefl
 exact⟨λw=>nG (λk _=>by rw[Rat.div_def,Rat.div_def];grind) (w.smul (Rat.mul_pos (Rat.inv_pos.2 hp) (Rat.inv_pos.2 D))),λw=>nG (λk _=>by rw[Rat.div_def,Rat.div_def];grind) (w.smul (Rat.mul_pos hp D))⟩
theorem am3(l:Fa n m G z0)(h:qt n m G z0 a){c:Nat}(D:c<n):bg (fI (dP n m a) c) (GG (λi=>0<a.F i (a.fr c)) (Y0 n m a c) m):=by
 have hn:=l.hn;have hm:=l.hm;have v:=(h.sz l).1;have d:=Nat.le_of_lt (h.f c D).1;have x:∀j,Y0 n m a c j j:=λj=>ni λp _=>by grind
 have A:∀i j k,Y0 n m a c i j->Y0 n m a c j k->Y0 n m a c i k:=λi j k g o w=>QV g o (nG (λp _=>by grind) w);unfold fI;refine bg.bind (XQ l h) λg u=>bg.eq (congrArg (λk:Nat=>some (k:Int)) (show((List.range m).map (qu n m a)).length=m from iK))<|bg.bind (P:=GG (λi=>0<a.F i (a.fr c)) (Y0 n m a c) m) (bg.cnt Prod.snd m (λi s=>GG (λi=>0<a.F i (a.fr c)) (Y0 n m a c) i s.1) Y GG.z ?_) λy g=>.ret g;rintro i ⟨y,_⟩ o rfl g;dsimp only at g⊢;refine bg.eq Y<|bg.bif (λo=>?_) λq=>.inr (by have e:i=m:=(by have:=of_decide_eq_false q;omega);subst e;exact g);have q:i<m:=by simpa using o
 clear o;have t:(qu n m a i)[c]? =some (qn (a.F i (a.fr c))):=by
  show(vq (n+1) _)[c]? =_;rw[fU ω,show fv n (n+m) a.fr c=a.fr c from if_pos D]
 refine bg.eq (bu (jw q))<|bg.bU (λb=>(b=true->0<a.F i (a.fr c)/\∀r:Nat,y=r->Y0 n m a c i r)/\(b=false->¬0<a.F i (a.fr c)\/∃r:Nat,y=r/\Y0 n m a c r i)) (λK o=>bg.eq (bu t)<|bg.eq (Fc (v i q _ d) ω ω)<|bg.eq rfl<|bg.bind (P:=λb=>(b=true->0<a.F i (a.fr c)/\∀r:Nat,y=r->Y0 n m a c i r)/\(b=false->¬0<a.F i (a.fr c)\/∃r:Nat,y=r/\Y0 n m a c r i)) (bg.bif (λw=>?_) λw=>.ret ⟨λe=>(by cases e),λ_=>.inl λt=>absurd (CI.2 t) (of_decide_eq_false w)⟩) o) λb d=>bg.bU (λj=>j=bif b then(i:Int)else y) (λK o=>bg.bif (λw=>o _ (by rw[w];rfl)) λw=>o _ (by rw[w];rfl)) ?_
 ·have w:=CI.1 (of_decide_eq_true w);refine bg.eq Y ?_;rcases g with⟨rfl,_⟩|⟨r,rfl,hr,hp,_⟩
  ·exact⟨true,rfl,λ_=>⟨w,λo e=>by omega⟩,λe=>by cases e⟩
  refine bg.bind (P:=λb=>(b=true->0<a.F i (a.fr c)/\∀o:Nat,(r:Int)=o->Y0 n m a c i o)/\(b=false->¬0<a.F i (a.fr c)\/∃o:Nat,(r:Int)=o/\Y0 n m a c o i)) (bg.bif (λw=>absurd (of_decide_eq_true w) ω) λ_=>bg.bind (aqG l h u q (by omega:r<m) D) λb d=>.ret ⟨λe=>⟨w,λo u t=>?_⟩,λe=>.inr ⟨r,Y,λt=>?_⟩⟩) λb d=>.ret d
  ·obtain rfl:r=o:=by omega
   exact(XD.2 ((Iw w hp).1 (d.1 e))).not (nG (λp _=>by grind) t)
  have:=d.2 ((Iw w hp).2 t);rw[e]at this;cases this
 rintro _ rfl;refine bg.eq Y<|.inl q (bC ω) ?_;cases b with
 |true=>exact g.hit x A (d.1 Y).1 (d.1 Y).2
 |false=>exact g.Tz (d.2 Y)
def Rp(n m:Nat)(a D:Ab):Prop:=∃r c,r<m/\c<n/\D=pv a r c/\a.Z (a.fr c)<0/\0<a.F r (a.fr c)
def Fl(n m:Nat)(a:Ab):Prop:=∀i,i<m->¬cG (1+m) λp=>a.F i (zL n m p)
theorem aef(D:Nat->Ab)(h:∀t,(qt n m G z0 (D t)/\Fl n m (D t))/\Rp n m (D t) (D (t+1))):False:=by
 obtain⟨r,hr⟩:=Classical.skolem.1 λt=>(h t).2;obtain⟨c,a⟩:=Classical.skolem.1 hr;refine adU (n:=n) (m:=m) (G:=G) (P:=1+m) (cp:=zL n m) (z0:=z0) (Z:=λt=>(D t).Z) (F:=λt=>(D t).F) (b:=λt=>(D t).b) (r:=r) (s:=λt=>(D t).fr (c t)) ⟨λt=>(h t).1.1.t,λt j hj=>?_,λt=>((h t).1.1.f _ (a t).2.1).2,λt=>(a t).1,λt=>((h t).1.1.f _ (a t).2.1).1⟩ (λ_ h=>My h) (λt=>(h t).1.1.z) (λt=>?_)
 ·rw[(a t).2.2.1];rfl
 have:=VY (cp:=zL n m) (a t).2.2.2.2 (a t).2.2.2.1 ((h t).1.1.t.amQ (a t).1 ((h t).1.2 _ (a t).1));rw[(a t).2.2.1];exact this
theorem am4(l:Fa n m G z0)(h:qt n m G z0 a):bg (gB (dP n m a)) λy=>∃b,qt n m G z0 b/\((y=(1,dP n m b)/\Fl n m b/\∀k,k<n->0<=b.Z (b.fr k))\/(y=(2,dP n m b)/\∃r,r<m/\(cG (1+m) λp=>b.F r (zL n m p))/\∀k,k<n->0<=b.F r (b.fr k))):=by
 unfold gB;refine bg.bind (aee l h) ?_;rintro _ ⟨a,h,⟨rfl,q⟩|⟨rfl,hr⟩⟩
 ·refine bg.eq rfl<|bg.bif (λw=>by cases w) λ_=>bg.bind (P:=λy=>∃b z,y=.inr z/\qt n m G z0 b/\z=(1,dP n m b)/\Fl n m b/\∀k,k<n->0<=b.Z (b.fr k)) (Gx (A:=Ab) (a:=a) (λa=>dP n m a) (λa=>qt n m G z0 a/\Fl n m a) (Rp n m) ⟨h,q⟩ ?_ aef) ?_
  ·rintro a ⟨h,q⟩;refine bg.bind (am2 l h) λx d=>bg.eq Y<|bg.bif (λw=>.ret (.inr ⟨_,Y,a,_,Y,h,Y,q,λk g=>?_⟩)) λw=>?_
   ·have w:=of_decide_eq_true w;rcases d with⟨_,d⟩|⟨r,rfl,_⟩
    ·exact Rat.not_lt.1 (d k g)
    omega
   have w:=of_decide_eq_false w;obtain⟨c,rfl,g,s,_⟩:=d.resolve_left λe=>by omega
   refine bg.bind (am3 l h g) λx d=>bg.eq Y<|bg.bif (λw=>?_) λw=>?_
   ·have w:=of_decide_eq_true w;rcases d with⟨_,d⟩|⟨r,rfl,_⟩
    ·exact(adY h.t l.cap (h.f c g).1 (h.f c g).2 λi j=>Rat.not_lt.1 (d i j)).elim
    omega
   have w:=of_decide_eq_false w;obtain⟨r,rfl,hr,o,u⟩:=d.resolve_left λe=>by omega
   have d:a.F r (a.fr c)≠0:=λe=>by rw[e]at o;exact absurd o Rat.lt_irrefl
   exact bg.eq (XO l h hr g d)<|.ret (.inl ⟨pv a r c,Y,⟨h.pv hr g d,λi j=>Mz (F:=a.F) (m:=m) (cp:=zL n m) o hr q (λi j hp w=>u i j hp ((Iw hp o).1 w)) j⟩,r,c,hr,g,Y,s,o⟩)
  rintro y ⟨b,z,rfl,d,rfl,g⟩;exact .ret ⟨b,d,.inl ⟨Y,g⟩⟩
 exact bg.eq rfl<|bg.bif (λ_=>.ret ⟨a,h,.inr ⟨rfl,hr⟩⟩) λw=>by cases w
theorem ag1(l:Fa n m G z0)(h:qt n m G z0 a):eI (dP n m a)=some (vq m λi=>a.Z (n+i)):=by
 have hn:=l.hn;have hm:=l.hm;obtain⟨_,t,f,rfl,v,x⟩:bg (eI (dP n m a)) λy=>∃f,y=vq m f/\(∀j,j<m->rF m a.b (n+j)->f j=0)/\∀k,k<n->n<=a.fr k->f (a.fr k-n)=a.Z (a.fr k):=by
  unfold eI;refine bg.eq (congrArg (λk:Nat=>some (k:Int)) (show((List.range m).map (qu n m a)).length=m from iK))<|bg.eq (fE ω ω)<|bg.eq (congrArg (λk:Nat=>some (k:Int)) (show(uD n a.fr).length=n from jb))<|bg.bind (bg.cnt Prod.fst n (λi s=>∃f,s.2=vq m f/\(∀j,j<m->rF m a.b (n+j)->f j=0)/\∀k,k<i->n<=a.fr k->f (a.fr k-n)=a.Z (a.fr k)) Y ⟨_,E8,λ_ _ _=>Y,λk o=>by omega⟩ ?_) λy c=>.ret c;rintro k ⟨_,s⟩ o rfl ⟨f,rfl,d,g⟩;dsimp only at d g⊢;refine bg.eq Y<|bg.bif (λq=>?_) λq=>.inr (by have e:k=n:=(by have:=of_decide_eq_false q;omega);subst e;exact⟨f,Y,d,g⟩);have q:k<n:=by have:=of_decide_eq_true q;omega
  have p:=h.f k q;refine bg.eq (bu (ir q))<|bg.eq Y<|bg.bU (λs'=>∃f,s'=vq m f/\(∀j,j<m->rF m a.b (n+j)->f j=0)/\∀j,j<k+1->n<=a.fr j->f (a.fr j-n)=a.Z (a.fr j)) (λK r=>bg.bif (λw=>?_) λw=>r _ ⟨f,Y,d,λj hj c=>?_⟩) λs' u=>bg.eq Y<|.inl q (bC ω) u
  ·have w:n<=a.fr k:=by have:=of_decide_eq_true w;dsimp only[dP]at this;omega
   have e:IntKind.i64.wrap ((a.fr k:Int)-n)=((a.fr k-n:Nat):Int):=by rw[cV ω ω];omega
   have u:(Fb n m a)[k]? =some (qn (a.Z (a.fr k))):=by
    show(vq (n+1) _)[k]? =_;rw[fU ω,show fv n (n+m) a.fr k=a.fr k from if_pos q]
   refine bg.eq (congrArg some e)<|bg.eq (bu u)<|bg.eq ((((h.sz l).2 _ (Nat.le_of_lt p.1)).rep ω).canon ω).1<|bg.eq (bY (by rw[b9];omega))<|bg.eq (cL (by rw[b9];omega))<|r _ ⟨_,pg,λj hj r=>?_,λj hj c=>?_⟩
   ·rw[if_neg λu=>p.2 (by rw[show a.fr k=n+j by omega];exact r)];exact d j hj r
   by_cases d:j=k
   ·rw[d,if_pos rfl]
   rw[if_neg λu=>d (h.inj j k ω q ω)];exact g j ω c
  have w:¬n<=a.fr k:=by have:=of_decide_eq_false w;dsimp only[dP]at this;omega
  exact g j (Nat.lt_of_le_of_ne ω λe=>w (by rw[<-e];exact c)) c
 rw[t];refine congrArg some (eH λj hj=>?_);rcases h.all (n+j) ω with⟨i,c,e⟩|⟨k,o,e⟩
 ·rw[v j hj ⟨i,c,e⟩,<-e,h.z.z i c]
 have:=x k o ω;rw[e,Nat.add_sub_cancel_left]at this;exact this
end
section
variable {n m:Nat}{c:Nat->Rat}{A:Nat->Nat->Rat}{b:Nat->Rat}
theorem ag2(h:w7 n m c A b):bg (oO (MY n m c A b)) λy=>(y.2=8/\∀x,¬Pt n m A b x)\/(y.2=0/\∃w,y.1=vq m w/\(∀i,i<m->FQ 5400000 (w i)/\0<=w i)/\(∀k,k<n->c k<=bX (λi=>w i*A i k) m)/\∃x,Pt n m A b x/\bX (λi=>w i*b i) m=GO n c x):=by
 have l:=h.lp;unfold oO;refine bg.eq (valid h)<|bg.eq rfl<|bg.bif (λw=>by cases w) λ_=>bg.eq (ayb h)<|bg.bind (am4 l h.a0) ?_;rintro _ ⟨a,d,⟨rfl,g,f⟩|⟨rfl,r,hr,u,s⟩⟩
 ·refine bg.eq rfl<|bg.eq rfl<|bg.bif (λw=>by cases w) λ_=>bg.eq (ag1 l d)<|.ret (.inr ⟨rfl,_,rfl,λi q=>⟨(d.sz l).2 _ ω,d.zn f _ ω⟩,λk o=>?_,_,d.pt (λi q=>iE.first (g i q) ω),?_⟩)
  ·have e:=d.z.e k ω;have:=d.zn f k ω;rw[bZ (k:=λj=>a.Z (n+j)*A j k) (λj _=>by unfold gT;rw[if_pos o])]at e;unfold zT at e;rw[if_pos o]at e;grind
  have e:=d.z.e (n+m) (Nat.le_refl _);rw[bZ (k:=λj=>a.Z (n+j)*b j) (λj _=>by unfold gT;rw[if_neg ω,if_neg ω])]at e;have g:=O2 d.t d.z;rw[Rd,l.h0]at g;rw[l.h0]at e;grind
 refine bg.eq rfl<|bg.eq rfl<|bg.bif (λ_=>.ret (.inl ⟨rfl,d.none hr ?_ s⟩)) λw=>by cases w
 obtain⟨p,v,f,B⟩:=u;by_cases e:p=0
 ·rw[e]at f;exact f
 exfalso;have u:zL n m p=n+(p-1):=if_neg e;dsimp only at f;rw[u]at f;rcases d.all (n+(p-1)) ω with⟨i,q,g⟩|⟨k,o,g⟩
 ·rw[<-g,d.t.hu r i hr q]at f;split at f<;>exact absurd f ξ
 rw[<-g]at f;exact Rat.not_lt.2 (s k o) f
end
end
section
open Go.Fw
theorem TD{n:Nat}{f:Nat->Rat}{body:Int×Bool×List Nat×Bool×List Nat->Option ((Int×Bool×List Nat×Bool×List Nat)⊕(Bool×List Nat×Bool×List Nat))}(I:n<=1000)(D:∀(k:Nat) (q:Qr),k<n->q=qn (bX f k)->body ((k:Int),q.num.neg,q.num.w,q.den.neg,q.den.w)=(some (IntKind.i64.wrap ((k:Int)+1))).bind λx=>some (.inl (x,(qn (bX f k+f k)).num.neg,(qn (bX f k+f k)).num.w,(qn (bX f k+f k)).den.neg,(qn (bX f k+f k)).den.w)))(H:∀(q:Qr),body ((n:Int),q.num.neg,q.num.w,q.den.neg,q.den.w)=some (.inr (q.num.neg,q.num.w,q.den.neg,q.den.w))):bH body (0,false,[],false,[])=some ((qn (bX f n)).num.neg,(qn (bX f n)).num.w,(qn (bX f n)).den.neg,(qn (bX f n)).den.w):=by
 refine yH (λk=>((k:Int),(qn (bX f k)).num.neg,(qn (bX f k)).num.w,(qn (bX f k)).den.neg,(qn (bX f k)).den.w)) n (λk a=>?_) (H _);rw[D k _ a rfl];exact az Y (lF (bC ω) Y)
def Y1(n:Nat)(f:Nat->Rat)(i:Int):Rat:=if 0<=i/\i<n then f i.toNat else 0
theorem element_eq{n:Nat}{f:Nat->Rat}(i:Int):mj (vq n f) i=some (qn (Y1 n f i)):=by
 unfold mj bU Y1;by_cases h:i<0
 ·simp[h,show ¬(0<=i/\i<n) by omega];rfl
 by_cases a:(n:Int)<=i
 ·simp[h,a,b9,show ¬(0<=i/\i<n) by omega];rfl
 obtain⟨k,rfl⟩:=Int.eq_ofNat_of_zero_le (by omega:0<=i);have b:k<n:=by omega
 simp[h,a,b9,bV,b];exact Kf (h:=f) (by rw[b9];exact b)
section
variable {N B cnt L M K:Nat}{lp:Nat->Rat}{φ:Nat->Nat->Rat}{df:Nat->Rat}{isl:List Int}
def Y2(N cnt:Nat)(D H:Nat->Rat)(φ:Nat->Nat->Rat)(isl:List Int)(b:Nat):Rat:=Y1 cnt H (isl.getD b 0)+ -bX (λl=>D l*φ l b) N
theorem ag3(K:N<=10)(hl:∀l,FQ L (lp l))(D:∀l b,FQ M (φ l b))(hL:20*(L+M+1)<=1000000000)(H:1<=L)(I:1<=M){b:Nat}(hb:b<B):ux N (vq N lp) ((List.range N).map λk=>vq B (φ k)) b=some (qn (bX (λl=>lp l*φ l b) N))/\FQ (10*(L+M+1)+1) (bX (λl=>lp l*φ l b) N):=by
 have d:∀k,k<=N->FQ (10*(L+M+1)+1) (bX (λl=>lp l*φ l b) k):=λk a=>(Gt (L:=L+M) λi _=>(hl i).mul (D i b)).mono (by have:=Nat.mul_le_mul_right (L+M+1) (show k<=10 by omega);omega);refine⟨?_,d N (Nat.le_refl N)⟩;unfold ux;refine az (TD (f:=λl=>lp l*φ l b) ω (λk q a e=>?_) λq=>by simp) Y;have c:=((hl k).rep H).mul ((D k b).rep I) ω;have g:=((d k (Nat.le_of_lt a)).rep ω).add c.2 ω;have d:sj k (vq N lp) ((List.range N).map λk=>vq B (φ k)) b=some (qn (lp k*φ k b)):=by
  refine az (bu (fU a))<|az (bu (jw a))<|az (element_eq _) ?_;rw[show Y1 B (φ k) (b:Int)=φ k b by unfold Y1;rw[if_pos ω];rfl];exact az c.1 Y
 have a:=g.1;rw[<-e]at a;generalize qn (bX (λl=>lp l*φ l b) k+lp k*φ k b)=x at a⊢;show(some (decide ((k:Int)<N))).bind _=_;rw[Option.bind_some,decide_eq_true ω,cond_true,d,Option.bind_some];show Option.bind (ff q (qn (lp k*φ k b))) _=_;rw[a];rfl
theorem aqH(I:N<=10)(hl:∀l,FQ L (lp l))(D:∀l b,FQ M (φ l b))(hd:∀k,FQ K (df k))(hL:20*(L+M+1)<=1000000000)(hK:K<=1000000000)(h1:1<=L)(h2:1<=M)(H:1<=K)(hi:isl.length=B)(hB:B<=100):qe isl (vq cnt df) ((List.range N).map λk=>vq B (φ k)) (vq N lp)=some (vq B (Y2 N cnt lp df φ isl))/\∀b,FQ (K+(10*(L+M+1)+1)+1) (Y2 N cnt lp df φ isl b):=by
 have d:∀i,FQ K (Y1 cnt df i):=λi=>by
  unfold Y1;split
  ·exact hd _
  exact qq H
 have c:∀b,FQ (10*(L+M+1)+1) (bX (λl=>lp l*φ l b) N):=λb=>(Gt (L:=L+M) λi _=>(hl i).mul (D i b)).mono (by have:=Nat.mul_le_mul_right (L+M+1) I;omega);refine⟨?_,λb=>(d _).add (c b).neg⟩;have o:so isl (vq cnt df) ((List.range N).map λk=>vq B (φ k)) (vq N lp)=some (vq B λb=>Y1 cnt df (isl.getD b 0),vq B λb=>-bX (λl=>lp l*φ l b) N):=by
  unfold so;rw[hi,iK,b9];refine az Y<|az (fE ω ω)<|az Y<|az (fE ω ω)<|az Y<|az Y<|az (congrArg some (Int.min_self _))<|az Y<|az (qg (e:=(vq B λb=>Y1 cnt df (isl.getD b 0),vq B λb=>-bX (λl=>lp l*φ l b) N)) (λk=>(vq k (λb=>Y1 cnt df (isl.getD b 0))++List.replicate (B-k) qz,vq k (λb=>-bX (λl=>lp l*φ l b) N)++List.replicate (B-k) qz)) B Y (λk a=>?_) ?_) Y
  ·have g:isl[k]? =some (isl.getD k 0):=by simp[show k<isl.length by omega]
   have m:=((d (isl.getD k 0)).rep H).canon ω;have f:=ag3 I hl D hL h1 h2 a;have p:=(f.2.rep ω).neg ω;have n:=QW (h:=λb=>Y1 cnt df (isl.getD b 0)) a;have j:=QW (h:=λb=>-bX (λl=>lp l*φ l b) N) a;refine az Y<|cm (decide_eq_true ω)<|az (bu g)<|az (element_eq _)<|az m.1<|az (bY (by rw[xT ω];exact a))<|az (cL (by rw[xT ω];exact a))<|az f.1<|az p.1<|az (bY (by rw[xT ω];exact a))<|az (cL (by rw[xT ω];exact a))<|az Y (lF (bC ω) ?_);exact Prod.ext n j
  refine az Y<|cq (decide_eq_false ω) ?_;rw[Nat.sub_self];simp
 unfold qe;refine az o<|az Y<|az (fE ω ω)<|az Y ?_;rw[List.length_replicate,hi];refine az (zF (λb=>qn (Y2 N cnt lp df φ isl b)) (λk l a f _=>?_) (λl hl=>by simp)) Y;have f:=((d (isl.getD k 0)).rep H).add ((c k).neg.rep ω) ω;exact az Y<|cm (decide_eq_true ω)<|az (bu (fU a))<|az (bu (fU a))<|az f.1<|az (bY (show k<l.length by omega))<|az (cL (show k<l.length by omega))<|az Y (lF (bC ω) Y)
end
end
section
open Go.Fw
theorem Iy{α:Type}{p:α->Bool}{f:Nat->List α}{i c:Nat}(D:∀j,j≠i->(f j).countP p=0)(H:(f i).countP p<=c):∀n,((List.range n).flatMap f).countP p<=if i<n then c else 0
 |0=>by simp
 |n+1=>by
  rw[tQ,List.countP_append];have:=Iy D H n;by_cases e:n=i
  ·subst e;rw[if_neg (Nat.lt_irrefl n)]at this;rw[if_pos (Nat.lt_succ_self n)];omega
  have a:=D n e;by_cases w:i<n
  ·rw[if_pos w]at this;rw[if_pos ω];omega
  rw[if_neg w]at this;rw[if_neg ω];omega
def TX(b:Bool)(i:Nat)(v:Va):Bool:=v.col.X0==b&&v.col.which==(i:Int)
theorem Pb{us:List sI}{on:List Bool}{bs:List Bd}(D:∀u∈us,u.steps.length<=3)(H:∀b∈bs,b.steps.length<=3)(b:Bool)(i:Nat):(pI us on bs).countP (TX b i)<=3:=by
 have d:∀j,∀v∈uv us on j,v.col.X0=false/\v.col.which=j:=λj v a=>by
  unfold uv at a;split at a
  ·obtain⟨k,_,rfl⟩:=List.mem_map.1 a;exact⟨Y,Y⟩
  cases a
 have f:∀j,∀v∈bv bs j,v.col.X0=true/\v.col.which=j:=λj v a=>by
  unfold bv at a;split at a
  ·obtain⟨k,_,rfl⟩:=List.mem_map.1 a;exact⟨Y,Y⟩
  cases a
 have o:(uv us on i).countP (TX b i)<=3:=Nat.le_trans List.countP_le_length (by
  unfold uv;split
  ·rename_i u g _;simp;exact D u (List.mem_of_getElem? g)
  simp)
 have h:(bv bs i).countP (TX b i)<=3:=Nat.le_trans List.countP_le_length (by
  unfold bv;split
  ·rename_i u g;simp;exact H u (List.mem_of_getElem? g)
  simp)
 rw[pI,List.countP_append];have c:∀(l:List Va),(∀v∈l,TX b i v=false)->l.countP (TX b i)=0:=λl hl=>List.countP_eq_zero.2 λv a=>by rw[hl v a];decide
 have m:∀j,j≠i->(uv us on j).countP (TX b i)=0:=λj hj=>c _ λv a=>by unfold TX;rw[(d j v a).2];simp;omega
 have n:∀j,j≠i->(bv bs j).countP (TX b i)=0:=λj hj=>c _ λv a=>by unfold TX;rw[(f j v a).2];simp;omega
 cases b with
 |true=>
  have e:(GC us on us.length).countP (TX true i)=0:=c _ λv a=>by
   obtain⟨j,_,a⟩:=List.mem_flatMap.1 a;unfold TX;rw[(d j v a).1];rfl
  have:=Iy n h bs.length;unfold O7;split at this<;>omega
 |false=>
  have e:(O7 bs bs.length).countP (TX false i)=0:=c _ λv a=>by
   obtain⟨j,_,a⟩:=List.mem_flatMap.1 a;unfold TX;rw[(f j v a).1];rfl
  have:=Iy m o us.length;unfold GC;split at this<;>omega
def Rl(L m:Nat)(M:List (List Qr)):Prop:=M.length=m/\∀r∈M,Gv L r/\r.length<=3
def BkI(L m k:Nat)(vs:List Va)(b:Bool)(M:List (List Qr)):Prop:=M.length=m/\(∀r∈M,Gv L r)/\∀(i:Nat) r,M[i]? =some r->r.length<=(vs.take k).countP (TX b i)
theorem back_eq{us:List sI}{on:List Bool}{bs:List Bd}{L n:Nat}{x:Nat->Rat}(h:Sh us on bs)(H:∀u∈us,u.steps.length<=3)(h2:∀b∈bs,b.steps.length<=3)(I:∀k,FQ L (x k))(D:1<=L)(hL:L<=1000000000):bg (r9 us on bs (vq n x)) λy=>Rl L us.length y.1/\Rl L bs.length y.2:=by
 have a:=h.u;have d:=h.b;have c:=Iq h us.length bs.length a d;unfold r9;refine bg.eq Y<|bg.eq (fE ω ω)<|bg.eq Y<|bg.eq (fE ω ω)<|bg.eq (Q6 h) ?_;rw[GD];have f:∀{b:Bool} {M:List (List Qr)} {m k:Nat},BkI L m k (pI us on bs) b M->∀{i:Nat} {q:Qr} {v:Va},i<m->(pI us on bs)[k]? =some v->v.col.X0=b->v.col.which=i->mq L q (qv q)->∃r,M[i]? =some r/\BkI L m (k+1) (pI us on bs) b (M.set i (r++[q]))/\r.length<=1000:=λ{b M m k} g {i q v} o a d t c=>by
  obtain⟨z,A,C⟩:=g;have hr:=List.getElem?_eq_getElem (show i<M.length by omega);have B:=List.getElem_mem (show i<M.length by omega);generalize M[i]=r at hr B;have p:=C i r hr;have l:((pI us on bs).take (k+1))=(pI us on bs).take k++[v]:=by rw[List.take_add_one,a];rfl
  have a:((pI us on bs).take k).countP (TX b i)<=144:=Nat.le_trans List.countP_le_length (by rw[pI];simp;omega);refine⟨r,hr,⟨by simp[z],λg a=>?_,λj g a=>?_⟩,by omega⟩
  ·rcases List.mem_or_eq_of_mem_set a with w|rfl
   ·exact A g w
   intro E z;rcases List.mem_append.1 z with w|w
   ·exact A r B E w
   simp at w;rw[w];exact c
  rw[l,List.countP_append];by_cases e:i=j
  ·subst e;rw[nR ω]at a;rw[<-aob a];simp[TX,d,t];exact p
  rw[List.getElem?_set_ne e]at a;have:=C j g a;omega
 refine bg.bind (bg.range (λk s=>BkI L bs.length k (pI us on bs) true s.1/\BkI L us.length k (pI us on bs) false s.2) ?_ (pI us on bs).length ?_) ?_
 ·refine⟨⟨by simp,λr hr=>?_,λi r hr=>?_⟩,⟨by simp,λr hr=>?_,λi r hr=>?_⟩⟩
  ·rw[List.eq_of_mem_replicate hr];intro q c;cases c
  ·rw[List.eq_of_mem_replicate (List.mem_of_getElem? hr)];simp
  ·rw[List.eq_of_mem_replicate hr];intro q c;cases c
  rw[List.eq_of_mem_replicate (List.mem_of_getElem? hr)];simp
 ·rintro k ⟨T,C⟩ l ⟨g,a⟩;dsimp only at g a;have d:=List.getElem?_eq_getElem l;have t:=List.getElem_mem l;generalize (pI us on bs)[k]=v at d t;rw[XK d];refine bg.eq Y<|bg.eq Y<|bg.eq Y<|bg.eq Y<|bg.bU (λq=>mq L q (qv q)) (λK l=>bg.bif (λw=>?_) λ_=>l _ (CJ D)) λq c=>bg.bU (λj=>(BkI L bs.length (k+1) (pI us on bs) true j.2.1/\BkI L us.length (k+1) (pI us on bs) false j.2.2)) (λK l=>?_) λj hj=>.ret hj
  ·have w:k<n:=by have:=of_decide_eq_true w;rw[b9]at this;omega
   have p:=((I k).rep D).canon ω;exact bg.eq (bu (fU w))<|bg.eq p.1<|l _ (by rw[XB];exact(I k).rep D)
  have A:((pI us on bs).take (k+1))=(pI us on bs).take k++[v]:=by rw[List.take_add_one,d];rfl
  rcases Q7 t with⟨i,j,u,s,rfl,t,_,p⟩|⟨i,j,b,s,rfl,t,p⟩
  ·obtain⟨r,z,p,B⟩:=f a (q:=q) (List.getElem?_eq_some_iff.1 t).1 d Y Y c;exact bg.bif (λw=>by cases w) λ_=>bg.eq (AK z)<|bg.eq (ru ξ ω)<|l _ ⟨⟨g.1,g.2.1,λi r hr=>by rw[A,List.countP_append];have:=g.2.2 i r hr;omega⟩,p⟩
  obtain⟨r,z,p,B⟩:=f g (q:=q) (List.getElem?_eq_some_iff.1 t).1 d Y Y c;exact bg.bif (λ_=>bg.eq (AK z)<|bg.eq (ru ξ ω)<|l _ ⟨p,⟨a.1,a.2.1,λi r hr=>by rw[A,List.countP_append];have:=a.2.2 i r hr;omega⟩⟩) λw=>by cases w
 rintro⟨T,C⟩ ⟨⟨c,g,t3⟩,⟨f,d,a⟩⟩;rw[List.take_length]at t3 a;dsimp only at c g t3 f d a;refine .ret ⟨⟨f,λr hr=>⟨d r hr,?_⟩⟩,⟨c,λr hr=>⟨g r hr,?_⟩⟩⟩
 ·obtain⟨i,o⟩:=List.mem_iff_getElem?.1 hr;exact Nat.le_trans (a i r o) (Pb H h2 false i)
 obtain⟨i,o⟩:=List.mem_iff_getElem?.1 hr;exact Nat.le_trans (t3 i r o) (Pb H h2 true i)
theorem Pd{L m:Nat}{M:List (List Qr)}(h:Rl L m M)(D:1<=L)(H:L<=10000000)(I:m<=100):bg (mg M) λt=>∃f,t=vq m f/\∀k,FQ (3*(L+1)+1) (f k):=by
 have hl:=h.1;unfold mg;rw[hl];refine bg.eq Y<|bg.eq (fE ω ω)<|bg.eq Y<|bg.bind (P:=λt=>∃f,t=vq m f/\∀k,FQ (3*(L+1)+1) (f k)) (bg.cnt Prod.fst m (λi s=>∃f,s.2=vq m f/\(∀k,FQ (3*(L+1)+1) (f k))/\∀k,i<=k->f k=0) Y ⟨_,E8,λ_=>qq ω,λ_ _=>Y⟩ ?_) λt ht=>.ret ht;rintro i ⟨_,s⟩ a rfl ⟨f,rfl,d,b⟩;dsimp only;refine bg.eq Y<|bg.bif (λq=>?_) λ_=>.inr ⟨f,Y,d⟩;have q:i<m:=by simpa using q
 have hr:=List.getElem?_eq_getElem (show i<M.length by omega);have a:=h.2 _ (List.getElem_mem (show i<M.length by omega));generalize M[i]=r at hr a;refine bg.eq (bu hr)<|bg.eq Y<|bg.bind (P:=λt=>∃f,t=vq m f/\(∀k,FQ (3*(L+1)+1) (f k))/\∀k,i+1<=k->f k=0) (bg.cnt Prod.fst r.length (λj s=>∃g,s.2=vq m g/\(∀k,FQ (3*(L+1)+1) (g k))/\FQ (j*(L+1)+1) (g i)/\∀k,i+1<=k->g k=0) Y ⟨f,Y,d,by rw[b i (Nat.le_refl i)];exact qq ω,λk c=>b k ω⟩ ?_) λt ht=>bg.eq Y<|.inl q (bC ω) ht;rintro j ⟨_,s⟩ hj rfl ⟨g,rfl,e,d,n⟩;dsimp only;refine bg.eq Y<|bg.bif (λz=>?_) λ_=>.inr ⟨g,Y,e,n⟩;have z:j<r.length:=by simpa using z
 have l:=List.getElem?_eq_getElem z;have b:=a.1 _ (List.getElem_mem z);generalize r[j]=x at l b;have o:j*(L+1)<=2*(L+1):=Nat.mul_le_mul_right _ (by have:=a.2;omega);have o:=(d.rep ω).add b ω;have b:i<(vq m g).length:=by rw[b9];exact q
 have d:FQ ((j+1)*(L+1)+1) (g i+qv x):=o.2.fq.mono (by rw[Nat.succ_mul];omega);refine bg.eq (bu l)<|bg.eq (bY b)<|bg.eq (fU q)<|bg.eq o.1<|bg.eq (bY b)<|bg.eq (cL b)<|bg.eq Y<|.inl z (bC (by have:=a.2;omega)) ⟨_,pg,λk=>?_,?_,λk c=>?_⟩
 ·split
  ·exact d.mono (by have:=a.2;have:=Nat.mul_le_mul_right (L+1) (show j+1<=3 by omega);omega)
  exact e k
 ·rw[if_pos rfl];exact d
 rw[if_neg ω];exact n k c
theorem TE{L m:Nat}{P:List Int}{f:Nat->Rat}(H:P.length=m)(K:m<=6)(I:∀k,FQ L (f k))(D:1<=L)(hL:L<=100000000)(b:Int):bg (sq P b (vq m f)) λq=>∃r,q=qn r/\FQ (6*(L+1)+1) r:=by
 have c:∀k,FQ L ((λk=>if P.getD k 0=b then f k else 0) k):=λk=>by
  dsimp only;split
  ·exact I k
  exact qq D
 have d:∀k,k<=6->FQ (6*(L+1)+1) (bX (λk=>if P.getD k 0=b then f k else 0) k):=λk a=>(Gt λi _=>c i).mono (by have:=Nat.mul_le_mul_right (L+1) a;omega);refine⟨_,az (congrArg (λk:Nat=>some (k:Int)) H)<|az (congrArg (λk:Nat=>some (k:Int)) (b9 m f))<|az (congrArg some (Int.min_self _))<|az (az (TD (n:=m) (f:=λk=>if P.getD k 0=b then f k else 0) ω (λk q a e=>?_) λq=>by simp) Y) Y,_,Y,d m K⟩;have h:sn k P b (vq m f)=some (qn (if P.getD k 0=b then f k else 0)):=by
  have g:P[k]? =some (P.getD k 0):=by simp[show k<P.length by omega]
  refine az (bu g)<|az Y ?_;by_cases w:P.getD k 0=b
  ·rw[if_pos w];exact cq (decide_eq_false λz=>z w)<|az (bu (fU a)) Y
  rw[if_neg w];exact cm (decide_eq_true w) Y
 have a:=(((d k ω).rep ω).add ((c k).rep D) ω).1;rw[<-e]at a;dsimp only at a⊢;generalize qn (bX (λk=>if P.getD k 0=b then f k else 0) k+if P.getD k 0=b then f k else 0)=x at a⊢;show(some (decide ((k:Int)<m))).bind _=_;rw[Option.bind_some,decide_eq_true ω,cond_true,h,Option.bind_some];show Option.bind (ff q (qn (if P.getD k 0=b then f k else 0))) _=_;rw[a];rfl
theorem inj_eq{n:Nt}{us:List sI}{bs:List Bd}{L B:Nat}{I D:List (List Qr)}(hB:n.dA=B)(hB1:1<=B/\B<=6)(hu:us.length<=5)(hb:bs.length<=6)(hg:Rl L us.length I)(ht:Rl L bs.length D)(H:1<=L)(K:L<=10000000):bg (iS n us bs I D) λy=>∃f,y=vq B f/\∀k,FQ (40*(L+2)) (f k):=by
 unfold iS;refine bg.eq Y<|bg.eq (fE ω ω)<|bg.eq Y<|bg.eq (zF (λi=>(us.getD i ⟨0,0,[],0,0,0,0,0,0⟩).uH) (λi l c hl _=>az Y<|cm (decide_eq_true ω)<|az (bu (a:=us.getD i ⟨0,0,[],0,0,0,0,0,0⟩) (by simp[c]))<|az (bY (show i<l.length by omega))<|az (cL (show i<l.length by omega))<|az Y (lF (bC ω) Y)) (λl hl=>az Y<|cq (decide_eq_false ω) Y))<|bg.eq Y<|bg.eq (fE ω ω)<|bg.eq Y<|bg.eq (zF (λi=>(bs.getD i ⟨0,[]⟩).uH) (λi l c hl _=>az Y<|cm (decide_eq_true ω)<|az (bu (a:=bs.getD i ⟨0,[]⟩) (by simp[c]))<|az (bY (show i<l.length by omega))<|az (cL (show i<l.length by omega))<|az Y (lF (bC ω) Y)) (λl hl=>az Y<|cq (decide_eq_false ω) Y))<|bg.bind (Pd hg H K ω) ?_;rintro _ ⟨b,rfl,e⟩;refine bg.bind (Pd ht H K ω) ?_;rintro _ ⟨b,rfl,d⟩;refine bg.bind (P:=λy=>∃f,y=vq B f/\∀k,FQ (40*(L+2)) (f k)) ?_ λy b=>.ret b;unfold C0;rw[hB];refine bg.eq Y<|bg.bif (λw=>absurd (of_decide_eq_true w) ω) λ_=>bg.eq (congrArg some (show min (B:Int) 6=(B:Int) by omega))<|bg.eq (fE ω ω)<|bg.eq Y ?_;rw[List.length_replicate]
 refine bg.bind (bg.cnt Prod.fst B (λi s=>∃f,s.2=vq B f/\∀k,FQ (40*(L+2)) (f k)) Y ⟨_,E8,λ_=>qq ω⟩ ?_) λy b=>.ret b;rintro i ⟨_,s⟩ c rfl ⟨f,rfl,g⟩;dsimp only;refine bg.eq Y<|bg.bif (λq=>?_) λ_=>.inr ⟨f,Y,g⟩;have q:i<B:=by simpa using q
 have c:i<(vq B f).length:=by rw[b9];exact q
 refine bg.bind (TE iK ω e ω ω i) ?_;rintro _ ⟨x,rfl,e⟩;refine bg.bind (TE iK hb d ω ω i) ?_;rintro _ ⟨y,rfl,b⟩;have d:=(e.rep ω).sub (b.rep ω) ω;refine bg.eq d.1<|bg.eq (bY c)<|bg.eq (cL c)<|bg.eq Y<|.inl q (bC ω) ⟨_,pg,λk=>?_⟩;split
 ·exact d.2.fq.mono ω
 exact g k
end
section
open Go.Fw
def v0:Va:=⟨⟨false,0,0⟩,0,⟨0,0⟩,0⟩
def jL(vs:List Va)(C:List ((Va->Rat)×Int)):List ((Nat->Rat)×Int):=C.map (TW vs)++V4 vs
def rA(vs:List Va)(C:List ((Va->Rat)×Int))(i:Nat):Nat->Rat:=((jL vs C).getD i (λ_=>0,0)).1
def rB(vs:List Va)(C:List ((Va->Rat)×Int))(i:Nat):Rat:=(((jL vs C).getD i (λ_=>0,0)).2:Rat)
def gn(vs:List Va)(j:Nat):Rat:=NR (vs.getD j v0)
theorem XR{α β:Type}(f:α->β)(d:α)(l:List α):l.map f=(List.range l.length).map λi=>f (l.getD i d):=by
 apply List.ext_getElem η;intro j a b;simp at a;simp[a]
theorem ag4(vs:List Va)(C:List ((Va->Rat)×Int)):prog vs C=MY vs.length (jL vs C).length (gn vs) (rA vs C) (rB vs C):=by
 show Lr.mk _ _ ((jL vs C).map λr=>vq vs.length r.1) ((jL vs C).map λr=>qn (r.2:Rat))=_;rw[XR (λr:(Nat->Rat)×Int=>vq vs.length r.1) (λ_=>0,0) (jL vs C),XR (λr:(Nat->Rat)×Int=>qn (r.2:Rat)) (λ_=>0,0) (jL vs C)];rfl
def MN(h:Nat)(vs:List Va)(r:(Va->Rat)×Int):Prop:=r.2.natAbs<=3000000/\∃d:Nat,0<d/\d<4294967296^h/\∀v∈vs,∃z:Int,r.1 v*((d:Int):Rat)=(z:Rat)/\z.natAbs<4294967296^h
theorem ajn{n m h i:Nat}{A:Nat->Nat->Rat}{b:Nat->Rat}{B:Int}(hb:b i=(B:Rat))(D:B.natAbs<=3000000){d:Nat}(K:0<d)(H:d<4294967296^h)(I:∀k,k<n->∃z:Int,A i k*((d:Int):Rat)=(z:Rat)/\z.natAbs<4294967296^h):Gd (h+1) (n+m) (gT n m A b i):=by
 unfold Gd;rw[Nat.pow_succ];generalize (4294967296:Nat)^h=P at*;refine⟨d,K,by omega,λk a=>?_⟩;unfold gT;split
 ·obtain⟨z,a,c⟩:=I k (by assumption);exact⟨z,a,by omega⟩
 split
 ·unfold dl;split
  ·exact⟨d,by rw[Rat.one_mul],by simp;omega⟩
  exact⟨0,by rw[Rat.zero_mul];rfl,by omega⟩
 refine⟨B*d,by rw[hb,Rat.intCast_mul],?_⟩;rw[Int.natAbs_mul,Int.natAbs_natCast];have:B.natAbs*d<=3000000*d:=Nat.mul_le_mul_right _ D;omega
theorem am5{n m:Nat}{f:Nat->Rat}(h:∀k,∃z:Int,f k=(z:Rat)/\z.natAbs<=3000000):Gd 650 (n+m) f:=Gd.mono (h:=1) ⟨1,by omega,by decide,λk _=>by
 obtain⟨z,e,a⟩:=h k;exact⟨z,by rw[e];exact Rat.mul_one _,by omega⟩⟩ ω
theorem aqJ{vs:List Va}{C:List ((Va->Rat)×Int)}{B:Nat}(D:VOk B vs)(H:vs.length<=13)(I:C.length<=45)(hr:∀r∈C,MN 641 vs r):w7 vs.length (jL vs C).length (gn vs) (rA vs C) (rB vs C):=by
 have hl:(jL vs C).length=C.length+vs.length:=by simp[jL,V4]
 have c:∀k,k<vs.length->(jL vs C).getD (C.length+k) (λ_=>0,0)=(dl k,(vs.getD k v0).step.kS):=λk a=>by
  have:(jL vs C)[C.length+k]? =some (dl k,(vs.getD k v0).step.kS):=by
   unfold jL;rw[List.getElem?_append_right η,List.length_map,Nat.add_sub_cancel_left];exact jw a
  rw[List.getD_eq_getElem?_getD,this];rfl
 refine⟨H,by omega,λi f=>?_,am5 λk=>?_,λk a=>⟨C.length+k,by omega,λj _=>?_⟩⟩
 ·rcases Nat.lt_or_ge i C.length with q|q
  ·have f:=hr _ (List.getElem_mem q);have e:(jL vs C).getD i (λ_=>0,0)=TW vs C[i]:=by
    have:(jL vs C)[i]? =some (TW vs C[i]):=by unfold jL;rw[List.getElem?_append_left (by simpa using q)];simp[q]
    rw[List.getD_eq_getElem?_getD,this];rfl
   generalize C[i]=r at f e;obtain⟨l,d,o,m,n⟩:=f;refine(ajn (h:=641) (d:=d) (B:=r.2) (by unfold rB;rw[e];rfl) l o m λk a=>?_).mono ω;unfold rA;rw[e,Ir (b:=r.2) (g:=r.1) (List.getElem?_eq_getElem a)];exact n _ (List.getElem_mem a)
  obtain⟨k,rfl⟩:=Nat.le.dest q;have a:k<vs.length:=by omega
  have f:=D.2 _ (List.getElem_mem a);have l:vs.getD k v0=vs[k]:=by simp[a]
  rw[<-l]at f;refine(ajn (h:=1) (d:=1) (B:=(vs.getD k v0).step.kS) (by unfold rB;rw[c k a]) ω ω ξ λj hj=>?_).mono ω;unfold rA;rw[c k a];dsimp only;unfold dl;split
  ·exact⟨1,by rw[Rat.one_mul];rfl,by decide⟩
  exact⟨0,by rw[Rat.zero_mul];rfl,by decide⟩
 ·unfold zT;split
  ·rename_i a;have f:=D.2 _ (List.getElem_mem a);have l:vs.getD k v0=vs[k]:=by simp[a]
   rw[<-l]at f;refine⟨(vs.getD k v0).sign*(vs.getD k v0).step.dm,by unfold gn NR;rw[Rat.intCast_mul];grind,?_⟩;rcases f.1 with w|w<;>rw[w]<;>omega
  exact⟨0,Y,by decide⟩
 unfold rA;rw[c k a];show dl k j=_;unfold dl;by_cases w:k=j
 ·rw[if_pos w,if_pos w.symm]
 rw[if_neg w,if_neg λe=>w e.symm]
section
variable {vs:List Va}{B:Nat}
theorem aqK{k:Nat}(h:k≠0):1<4294967296^k:=Nat.one_lt_pow h ξ
theorem aqL{a b:Nat}(h:a<=b):4294967296^a<=4294967296^b:=Nat.pow_le_pow_right ξ h
theorem MN.int{f:Va->Rat}{b:Int}(D:b.natAbs<=3000000)(h:∀v∈vs,∃z:Int,f v=(z:Rat)/\z.natAbs<=1):MN 641 vs (f,b):=⟨D,1,by omega,aqK (k:=641) ω,λv a=>by
 obtain⟨z,e,c⟩:=h v a;exact⟨z,by dsimp only;rw[e];exact Rat.mul_one _,Nat.lt_of_le_of_lt c (aqK (k:=641) ω)⟩⟩
theorem MN.neg{f:Va->Rat}{b:Int}(h:MN 641 vs (f,b)):MN 641 vs (λv=>-f v,b):=by
 obtain⟨j,d,g,i,a⟩:=h;exact⟨j,d,g,i,λv c=>by
  obtain⟨z,e,k⟩:=a v c;exact⟨-z,by dsimp only at e⊢;rw[Rat.intCast_neg,<-e];grind,by rw[Int.natAbs_neg];exact k⟩⟩
theorem aeg{isl:List Int}{cnt:Nat}{φ:Nat->Nat->Rat}{ls:List Ln}{S:List Nat}{us:List sI}{on:List Bool}(I:VOk B vs)(H:∀k N,Gd 640 N (φ k))(D:∀(l:Nat) (x:Ln),ls[l]? =some x->0<=x.cap/\x.cap<=1000000)(K:∀u∈us,0<=u.low/\u.low<=3000000):∀r∈Q8 isl cnt φ ls S us on,MN 641 vs r:=by
 have j:∀v∈vs,v.sign.natAbs<=1:=λv c=>by rcases(I.2 v c).1 with e|e<;>rw[e]<;>decide
 have g:∀{f:Va->Rat} {b:Int},MN 641 vs (f,b)->∀r∈sW f b,MN 641 vs r:=λh r hr=>by
  unfold sW at hr;simp at hr;rcases hr with rfl|rfl
  ·exact h
  exact h.neg
 intro r hr;unfold Q8 at hr;simp only[List.mem_append,List.mem_flatMap,List.mem_range]at hr;rcases hr with(⟨i,_,hr⟩|⟨p,_,hr⟩)|⟨i,_,hr⟩
 ·refine g (MN.int ξ λv c=>?_) r hr;unfold Bn;split
  ·exact⟨-v.sign,by rw[Rat.intCast_neg],by rw[Int.natAbs_neg];exact j v c⟩
  exact⟨0,Y,by decide⟩
 ·unfold It at hr;split at hr
  ·rename_i l x m n;have o:=D l x (by rw[m]at n;exact n);refine g ?_ r hr;obtain⟨d,g,q,o⟩:=H l B;refine⟨by dsimp only;omega,d,g,Nat.lt_of_lt_of_le q (aqL (a:=640) (b:=641) ω),λv c=>?_⟩;obtain⟨_,⟨b,e,g⟩,_⟩:=I.2 v c;obtain⟨z,g,q⟩:=o b ω;have o:v.uH.toNat=b:=by omega
   refine⟨v.sign*z,by unfold MI;dsimp only;rw[Rat.intCast_mul,<-g,o];grind,?_⟩;rw[Int.natAbs_mul];exact Nat.lt_of_le_of_lt (Nat.le_trans (Nat.mul_le_mul_right _ (j v c)) (by rw[Nat.one_mul];exact Nat.le_refl _)) (Nat.lt_of_lt_of_le q (aqL (a:=640) (b:=641) ω))
  cases hr
 unfold AN at hr;split at hr
 ·rename_i u m n;have:=K u (List.mem_of_getElem? m);simp at hr;subst hr;refine MN.int ω λv c=>?_;unfold E9;split
  ·exact⟨0,Y,by decide⟩
  exact⟨-1,Y,by decide⟩
 cases hr
end
end
section
open Go.Fw
def MO(m:Nat)(w:Nat->Rat)(p:Nat):Rat:=if 2*p+1<m then w (2*p)-w (2*p+1)else 0
section
variable {m L:Nat}{w:Nat->Rat}
theorem diff_eq(H:∀i,i<m->FQ L (w i))(D:1<=L)(I:L<=1000000000){g:Gr}{p:Nat}(hp:p<=1000):dD ⟨g,vq m w⟩ p=some (qn (MO m w p))/\FQ (2*L+1) (MO m w p):=by
 have a:IntKind.i64.wrap (2*(p:Int))=((2*p:Nat):Int):=by rw[cV ω ω];omega
 have b:IntKind.i64.wrap (((2*p:Nat):Int)+1)=((2*p+1:Nat):Int):=bC ω;unfold dD MO;by_cases h:2*p+1<m
 ·have c:=((H (2*p) ω).rep D).sub ((H (2*p+1) h).rep D) ω;rw[if_pos h];refine⟨az (congrArg some a)<|az (congrArg some b)<|az (congrArg (λk:Nat=>some (k:Int)) (b9 m w))<|az Y<|cq (decide_eq_false ω)<|az (congrArg some a)<|az (bu (fU ω))<|az (congrArg some a)<|az (congrArg some b)<|az (bu (fU h))<|az c.1 Y,c.2.fq.mono ω⟩
 rw[if_neg h];exact⟨az (congrArg some a)<|az (congrArg some b)<|az (congrArg (λk:Nat=>some (k:Int)) (b9 m w))<|az Y<|cm (decide_eq_true ω) Y,qq ω⟩
theorem V9(I:∀i,i<m->FQ L (w i))(D:1<=L)(H:L<=1000000000){n:Nt}{out isl:List Int}{cnt:Nat}{f:List (List Qr)}(K:cnt<=1000):dW ⟨⟨n,out,isl,cnt,f⟩,vq m w⟩=some (vq cnt (MO m w)):=by
 unfold dW;refine az (fE ω (by show cnt<=_;omega))<|az Y ?_;rw[List.length_replicate];exact az (zF (λk=>qn (MO m w k)) (λk l a hl _=>az Y<|cm (decide_eq_true ω)<|az (diff_eq I D H ω).1<|az (bY (show k<l.length by omega))<|az (cL (show k<l.length by omega))<|az Y (lF (bC ω) Y)) (λl hl=>by simp)) Y
theorem Y3{g:Gr}(D:g.out.length<=1000)(k:Int):jT g k=some (decide (k∉g.out)):=by
 obtain⟨x,j,d⟩:bg (oS g.out k) λx=>0<=x↔k∈g.out:=by
  unfold oS;refine bg.eq Y<|bg.bind (P:=λy:Unit⊕Int=>(∃u,y=.inl u/\k∉g.out)\/∃i:Nat,y=.inr (i:Int)/\k∈g.out) (bg.cnt id g.out.length (λi _=>k∉g.out.take i) Y η ?_) ?_
  ·rintro i _ a rfl a;refine bg.eq Y<|bg.bif (λq=>?_) λq=>.inr (.inl ⟨_,Y,?_⟩)
   ·have q:i<g.out.length:=by have:=of_decide_eq_true q;omega
    have b:=List.take_succ_eq_append_getElem q;have c:=List.getElem_mem q;have f:=List.getElem?_eq_getElem q;generalize g.out[i]=x at b c f;refine bg.eq (bu f)<|bg.eq Y<|bg.bif (λz=>.inr (.inr ⟨i,Y,by rw[of_decide_eq_true z];exact c⟩)) λz=>bg.eq Y<|.inl q (bC ω) λc=>?_;rw[b,List.mem_append,List.mem_singleton]at c;exact c.elim a (of_decide_eq_false z)
   have e:i=g.out.length:=by have:=of_decide_eq_false q;omega
   rw[e,List.take_length]at a;exact a
  rintro y (⟨u,rfl,h⟩|⟨i,rfl,h⟩)
  ·exact .ret ⟨λe=>absurd e ω,λe=>absurd e h⟩
  exact .ret ⟨λ_=>h,λ_=>by omega⟩
 refine az (az j<|az Y Y)<|az Y ?_;by_cases h:k∈g.out
 ·simp[h,d.2 h]
 simp[h,show ¬0<=x from λe=>h (d.1 e)]
def NT(m:Nat)(w:Nat->Rat)(out:List Int)(cnt k:Nat):Rat:=if(k:Int)∈out then 0 else MO m w (cnt+(rG out k).length)
theorem TF(hw:∀i,i<m->FQ L (w i))(H:1<=L)(I:L<=1000000000){n:Nt}{out isl:List Int}{cnt:Nat}{f:List (List Qr)}(hc:cnt<=100)(D:out.length<=1000)(hn:n.lines.length<=100):dF ⟨⟨n,out,isl,cnt,f⟩,vq m w⟩=some (vq n.lines.length (NT m w out cnt)):=by
 obtain⟨y,c,b⟩:bg (dF ⟨⟨n,out,isl,cnt,f⟩,vq m w⟩) λy=>y=vq n.lines.length (NT m w out cnt):=by
  unfold dF;refine bg.eq Y<|bg.eq (fE ω (by show n.lines.length<=_;omega))<|bg.eq Y ?_;rw[List.length_replicate];refine bg.bind (P:=λy=>y=vq n.lines.length (NT m w out cnt)) (bg.cnt (λs:Int×Int×List Qr=>s.2.1) n.lines.length (λi s=>s.1=((cnt+(rG out i).length:Nat):Int)/\s.2.2=vq n.lines.length λk=>if k<i then NT m w out cnt k else 0) Y ⟨Y,E8⟩ ?_) λy a=>.ret a;rintro i ⟨_,_,l⟩ a rfl ⟨a,rfl⟩;dsimp only at a⊢;subst a;refine bg.eq Y<|bg.bif (λq=>?_) λq=>.inr (eH λk a=>if_pos (by have:=of_decide_eq_false q;omega));have q:i<n.lines.length:=by have:=of_decide_eq_true q;omega
  have a:(rG out i).length<=i:=C9 out i;refine bg.eq (Y3 D i)<|bg.bU (λj=>j=(((cnt+(rG out (i+1)).length:Nat):Int),vq n.lines.length λk=>if k<i+1 then NT m w out cnt k else 0)) (λK a=>bg.bif (λz=>?_) λz=>a _ ?_) λj hj=>bg.eq Y<|by rw[hj];exact .inl q (bC ω) ⟨Y,Y⟩
  ·have z:=of_decide_eq_true z;dsimp only at z;refine bg.eq (diff_eq hw H I (p:=cnt+(rG out i).length) ω).1<|bg.eq (bY (by rw[b9];exact q))<|bg.eq (cL (by rw[b9];exact q))<|bg.eq (congrArg some (bC ω))<|a _ (Prod.ext (by rw[zG,if_neg z];simp;omega) ?_);dsimp only;rw[pg];refine eH λk _=>?_;by_cases e:k=i
   ·rw[if_pos e,if_pos ω,e,NT,if_neg z]
   rw[if_neg e];simp[show(k<i+1)=(k<i) by simp;omega]
  have z:(i:Int)∈out:=by have:=of_decide_eq_false z;exact Classical.not_not.1 this
  refine Prod.ext (by rw[zG,if_pos z];simp) (eH λk _=>?_);by_cases e:k=i
  ·rw[if_neg ω,if_pos ω,e,NT,if_pos z]
  simp[show(k<i+1)=(k<i) by simp;omega]
 rw[c,b]
end
end
section
open Go.Fw
structure MP (n:Nt) (out:List Int) (B cnt:Nat) (isl:List Int) (φ:Nat->Nat->Rat):Prop where
 nt:GA n B
 ot:NQ n.lines out
 i:jr n out=some (isl,0)
 il:isl.length=B
 c:iB n out=some ((cnt:Int),0)
 cl:cnt<=6
 l:oR n out=some ((rG out n.lines.length).map λk:Nat=>(k:Int),0)
 f:fN n out=some ((List.range n.lines.length).map λk=>vq B (φ k),0)
 g:∀k N,Gd 640 N (φ k)
section
variable {n:Nt}{out:List Int}{us:List sI}{on:List Bool}{bs:List Bd}{B cnt:Nat}{isl:List Int}{φ:Nat->Nat->Rat}
def CN(n:Nt)(out:List Int)(us:List sI)(on:List Bool)(cnt:Nat)(isl:List Int)(φ:Nat->Nat->Rat):List ((Va->Rat)×Int):=Q8 isl cnt φ n.lines (rG out n.lines.length) us on
theorem Q3.low(D:Q3 n out us on bs):(∀u∈us,Zi u.steps/\0<=u.low/\u.low<=3000000)/\∀b∈bs,Zi b.steps:=by
 refine⟨λu f=>?_,λb d=>?_⟩
 ·obtain⟨e,a,c⟩:=AM u n.dA;rw[D.u u f]at a;exact(c (aob a).symm).2
 obtain⟨e,a,c⟩:=Q0 b.steps;rw[(D.b b d).2.2]at a;exact c (aob a).symm
theorem MQ(D:MP n out B cnt isl φ)(H:Q3 n out us on bs)(I:Sh us on bs)(K:out.length<=1000):j1 n out us on bs=some (prog (pI us on bs) (CN n out us on cnt isl φ),0):=by
 have a:=D.nt.l;obtain⟨e,a,d⟩:=O6 n out us on bs ω K;rw[d.2 H]at a;exact ad5 D.nt H I (H.vok D.nt.b I) D.i D.il D.c D.cl D.l D.f D.g a
theorem Y4(H:Sh us on bs)(hl:n.lines.length<=1000)(D:out.length<=1000):bg (j1 n out us on bs) λy=>y.2=0->∃B cnt isl φ,MP n out B cnt isl φ/\Q3 n out us on bs:=by
 obtain⟨e,t,c⟩:=O6 n out us on bs hl D;obtain⟨⟨isl,u⟩,m,j⟩:=O5 n out hl D;obtain⟨⟨d,a⟩,g,k⟩:=QY n out hl D;obtain⟨⟨l,r⟩,o,p⟩:=V3 n out hl D;obtain⟨⟨f,s⟩,i,d⟩:=ME n out hl D;dsimp only at j k p d;by_cases z:e=0/\u=0/\a=0/\r=0/\s=0
 ·obtain⟨rfl,rfl,rfl,rfl,rfl⟩:=z;obtain⟨B,a,u,r⟩:=j Y;obtain⟨cnt,rfl,s⟩:=k Y;obtain⟨_,_,rfl⟩:=p Y;obtain⟨j,φ,p,_,rfl,k⟩:=d Y;obtain rfl:B=j:=by have:=a.b;have:=p.b;omega
  have d:MP n out B cnt isl φ:=⟨a,u,m,r,g,s,o,i,k⟩;exact⟨_,MQ d (c.1 Y) H D,λ_=>⟨B,cnt,isl,φ,d,c.1 Y⟩⟩
 have a:∀{x:Int} {y:Option (Lr×Int)},bg (bif decide (x≠0)then some (⟨0,[],[],[]⟩,x)else y) (λy=>y.2=0->∃B cnt isl φ,MP n out B cnt isl φ/\Q3 n out us on bs)↔(x=0->bg y λy=>y.2=0->∃B cnt isl φ,MP n out B cnt isl φ/\Q3 n out us on bs):=λ{x y}=>by
  by_cases q:x=0
  ·subst q;exact⟨λh _=>h,λh=>h Y⟩
  exact⟨λ_ e=>absurd e q,λ_=>bg.bif (λ_=>.ret λe=>absurd e q) λw=>absurd (Classical.not_not.1 (of_decide_eq_false w)) q⟩
 unfold j1;exact bg.eq t<|bg.eq Y<|a.2 λc=>bg.eq m<|bg.eq Y<|a.2 λd=>bg.eq g<|bg.eq Y<|a.2 λz3=>bg.eq o<|bg.eq Y<|a.2 λz4=>bg.eq i<|bg.eq Y<|a.2 λz5=>absurd ⟨c,d,z3,z4,z5⟩ z
theorem ag5(D:MP n out B cnt isl φ)(H:Q3 n out us on bs)(I:Sh us on bs)(K:(pI us on bs).length<=13):w7 (pI us on bs).length (jL (pI us on bs) (CN n out us on cnt isl φ)).length (gn (pI us on bs)) (rA (pI us on bs) (CN n out us on cnt isl φ)) (rB (pI us on bs) (CN n out us on cnt isl φ)):=by
 have a:=H.vok D.nt.b I;refine aqJ a K ?_ (aeg a D.g (λl x a=>?_) λu d=>(H.low.1 u d).2)
 ·have d:=tG (λi=>sW (Bn isl i) 0) (c:=2) cnt λ_ _=>Nat.le_refl 2;have d:=tG (It φ n.lines (rG out n.lines.length)) (c:=2) (rG out n.lines.length).length λi _=>GF i;have a3:=tG (AN us on) (c:=1) us.length λi _=>by unfold AN;split<;>simp
  have:=H.ul;have:=D.cl;have:=D.nt.l;have:=C9 out n.lines.length;unfold CN Q8;simp only[List.length_append];omega
 have:=D.nt.ln x (List.mem_of_getElem? a) 4 ω;simp only[lnC,Bool.and_eq_true,decide_eq_true_eq]at this;exact this
structure am6 (n' m:Nat) (c:Nat->Rat) (A:Nat->Nat->Rat) (b:Nat->Rat) (w:Nat->Rat):Prop where
 q:∀i,i<m->FQ 5400000 (w i)/\0<=w i
 k:∀k,k<n'->c k<=bX (λi=>w i*A i k) m
 v:∃x,Pt n' m A b x/\bX (λi=>w i*b i) m=GO n' c x
theorem MR(D:MP n out B cnt isl φ)(H:Q3 n out us on bs)(I:Sh us on bs)(hn:(pI us on bs).length<=13)(K:out.length<=1000)(V:List Va)(hV:V=pI us on bs)(C:List ((Va->Rat)×Int))(hC:C=CN n out us on cnt isl φ):bg (mm n out us on bs) λy=>(y.2=8/\∀x,¬Pt V.length (jL V C).length (rA V C) (rB V C) x)\/(y.2=0/\∃x w,y.1.gz=qn (GO V.length (gn V) x)/\FQ 100000000 (GO V.length (gn V) x)/\Pt V.length (jL V C).length (rA V C) (rB V C) x/\(∀d,Pt V.length (jL V C).length (rA V C) (rB V C) d->GO V.length (gn V) d<=GO V.length (gn V) x)/\am6 V.length (jL V C).length (gn V) (rA V C) (rB V C) w/\y.1.qA=vq B (Y2 n.lines.length cnt (NT (jL V C).length w out cnt) (MO (jL V C).length w) φ isl)/\∀b,FQ 200000000 (Y2 n.lines.length cnt (NT (jL V C).length w out cnt) (MO (jL V C).length w) φ isl b)):=by
 have r:=ag5 D H I hn;have d:=MQ D H I K;rw[<-hV,<-hC]at r d;have s:V.length<=13:=by rw[hV];exact hn
 have A:=D.nt.l;have t:=D.nt.b1;have h:=D.cl;unfold mm;refine bg.eq d<|bg.eq rfl<|bg.bif (λw=>by cases w) λ_=>?_;rw[ag4];refine bg.bind (aec r) ?_;rintro⟨xs,d,e⟩ (⟨rfl,h⟩|⟨rfl,x,rfl,q,o,E⟩)
 ·exact bg.eq rfl<|bg.bif (λ_=>.ret (.inl ⟨rfl,h⟩)) λw=>by cases w
 refine bg.eq rfl<|bg.bif (λw=>by cases w) λ_=>bg.bind (ag2 r) ?_;rintro⟨d,e⟩ (⟨rfl,h⟩|⟨rfl,w,rfl,d,v,z⟩)
 ·exact absurd o (h x)
 refine bg.eq rfl<|bg.bif (λw=>by cases w) λ_=>bg.eq (a:=(⟨n,out,isl,cnt,(List.range n.lines.length).map λk=>vq B (φ k)⟩,0)) (az D.i<|az rfl<|cq rfl<|az D.c<|az rfl<|cq rfl<|az D.f<|az rfl<|cq rfl rfl)<|bg.eq rfl<|bg.bif (λw=>by cases w) λ_=>bg.bind (back_eq (L:=5400000) I (λu h=>(H.low.1 u h).1.2.1) (λb h=>(H.low.2 b h).2.1) q ω ω) ?_;rintro⟨G,F⟩ ⟨j,h⟩;dsimp only at j h⊢;refine bg.bind (inj_eq D.nt.b t H.ul H.bl j h ω ω) ?_;rintro _ ⟨inj,rfl,h⟩;have j:∀l b,FQ 640 (φ l b):=λl b=>(D.g l b).fq (Nat.le_refl b);have t:=MA (m:=(List.range n.lines.length).map λk=>vq B (φ k)) (x:=vq B inj) (L:=640) (M:=216000080) (VZ (λi k _ _=>j i k) ω) (CM (λi _=>h i) ω) ω ω (by rw[b9];exact Nat.le_trans (Nat.mul_le_mul_right _ (show B+2<=8 by omega)) ξ) (by rw[iK];omega);refine bg.eq (az D.f<|az rfl<|cq rfl<|az (congrArg (λk:Nat=>some (k:Int)) (b9 B inj))<|az rfl<|cq (decide_eq_false (by rw[D.nt.b];omega))<|az t rfl)<|bg.eq rfl<|bg.bif (λw=>by cases w) λ_=>?_;have t:∀p,FQ 10800001 (MO (jL V C).length w p):=λp=>by
  unfold MO;split
  ·exact((d _ ω).1.sub (d _ ω).1).mono ω
  exact qq ω
 have hl:∀k,FQ 10800001 (NT (jL V C).length w out cnt k):=λk=>by
  unfold NT;split
  ·exact qq ω
  exact t _
 have hp:=aqH (N:=n.lines.length) (B:=B) (cnt:=cnt) (isl:=isl) A hl j t ω ω ω ω ω D.il ω;have t:∀b,FQ 200000000 (Y2 n.lines.length cnt (NT (jL V C).length w out cnt) (MO (jL V C).length w) φ isl b):=λb=>(hp.2 b).mono ω;have hr:=amR (AI (CM (n:=B) (λi _=>hp.2 i) ω) ω) (AI (CM (n:=B) (λi _=>h i) ω) ω) (by rw[b9,b9];exact Nat.le_trans (Nat.mul_le_mul_right _ (show min B B+2<=8 by omega)) ω);have A:=hr.2.neg (by rw[b9,b9];exact Nat.le_trans (Nat.add_le_add_right (Nat.mul_le_mul_right _ (show min B B<=6 by omega)) 1) ξ);have j:=amR (AI (CM (n:=V.length) (L:=650) (λi h=>r.fc h) ω) ω) (AI (CM (n:=V.length) (L:=5400000) (λi _=>q i) ω) ω) (by rw[b9,b9];exact Nat.le_trans (Nat.mul_le_mul_right _ (show min V.length V.length+2<=15 by omega)) ξ);rw[b9,b9,Nat.min_self,bZ (k:=λi=>gn V i*x i) (λi h=>by rw[og h,og h])]at j
 refine bg.eq (a:=⟨G,F,vq B inj,_,vq cnt (MO (jL V C).length w),vq n.lines.length (NT (jL V C).length w out cnt),_,_,_⟩) (az (V9 (λi h=>(d i h).1) ω ω ω)<|az (TF (λi h=>(d i h).1) ω ω ω K ω)<|az hp.1<|az (az hr.1<|az A.1 Y) Y)<|bg.eq Y<|bg.eq j.1<|.ret (.inr ⟨Y,x,w,Y,j.2.fq.mono (Nat.le_trans (Nat.add_le_add_right (Nat.mul_le_mul_right _ s) 1) ξ),o,E,⟨d,v,z⟩,Y,t⟩)
end
end
section
open Go.Fw
def NU(k j:Nat):Nat:=if j<k then j else j+1
theorem GI{k:Nat}(f:Nat->Rat):∀n,k<=n->bX f (n+1)=bX (λj=>f (NU k j)) n+f k
 |0,h=>by
       obtain rfl:k=0:=by omega
       rfl
 |n+1,h=>by
  by_cases e:k=n+1
  ·rw[bX,e];congr 1;exact bZ λj hj=>by unfold NU;rw[if_pos ω]
  rw[bX,GI (k:=k) f n ω,bX];have:NU k n=n+1:=if_neg ω;rw[this];grind
def r0:(Va->Rat)×Int:=(λ_=>0,0)
def Zk(w:Nat->Rat)(l:List ((Va->Rat)×Int))(v:Va):Rat:=bX (λi=>w i*(l.getD i r0).1 v) l.length
theorem Re(w:Nat->Rat)(l k:List ((Va->Rat)×Int))(v:Va):Zk w (l++k) v=Zk w l v+Zk (λi=>w (l.length+i)) k v:=by
 unfold Zk;rw[List.length_append,qR];congr 1
 ·exact bZ λi a=>by simp[List.getElem?_append_left a]
 exact bZ λi a=>by simp[List.getElem?_append_right]
theorem Iz{g:Nat->List ((Va->Rat)×Int)}{f:Nat->Va->Rat}{c:Nat->Int}(v:Va):∀(n:Nat) (w:Nat->Rat),(∀i,i<n->g i=sW (f i) (c i))->((List.range n).flatMap g).length=2*n/\Zk w ((List.range n).flatMap g) v=bX (λi=>(w (2*i)-w (2*i+1))*f i v) n
 |0,w,_=>⟨Y,Y⟩
 |n+1,w,h=>by
  obtain⟨a,b⟩:=Iz v n w λi d=>h i ω;rw[tQ,List.length_append,a,Re,b,a,h n (Nat.lt_succ_self n)];refine⟨by simp[sW];omega,?_⟩;rw[bX];have:Zk (λi=>w (2*n+i)) (sW (f n) (c n)) v=0+w (2*n+0)*f n v+w (2*n+1)* -f n v:=rfl;rw[this,Nat.add_zero];grind
theorem aeh{w:Nat->Rat}{l:List ((Va->Rat)×Int)}{v:Va}(h:∀r∈l,r.1 v=0):Zk w l v=0:=by
 unfold Zk;rw[bZ (k:=λ_=>0) (λi a=>?_),gX];rw[List.getD_eq_getElem?_getD,List.getElem?_eq_getElem a];show _*(l[i]).1 v=0;rw[h _ (List.getElem_mem a)];grind
def nv(U:Nat)(b q c:Int):Va:=⟨⟨false,U,0⟩,b,⟨q,c⟩,1⟩
section
variable {us:List sI}{on:List Bool}{bs:List Bd}{b q c:Int}
theorem XS(H:on.length=us.length){i:Nat}(D:i<us.length):uv (us++[nu b q c]) (on++[true]) i=uv us on i/\AN (us++[nu b q c]) (on++[true]) i=AN us on i:=by
 unfold uv AN;rw[List.getElem?_append_left D,List.getElem?_append_left (by omega:i<on.length)];exact⟨Y,Y⟩
theorem aei(D:on.length=us.length):uv (us++[nu b q c]) (on++[true]) us.length=[nv us.length b q c]/\AN (us++[nu b q c]) (on++[true]) us.length=[(E9 us.length,-q)]:=by
 unfold uv AN;rw[show(us++[nu b q c])[us.length]? =some (nu b q c) by simp,show(on++[true])[us.length]? =some true by rw[<-D];simp];exact⟨Y,Y⟩
theorem MS{α:Type}{f g:Nat->List α}:∀n,(∀i,i<n->f i=g i)->(List.range n).flatMap f=(List.range n).flatMap g
 |0,_=>rfl
 |n+1,h=>by rw[tQ,tQ,MS n λi a=>h i ω,h n ω]
theorem aej(D:on.length=us.length):pI (us++[nu b q c]) (on++[true]) bs=GC us on us.length++nv us.length b q c::O7 bs bs.length:=by
 unfold pI GC;rw[List.length_append,List.length_singleton,tQ,MS _ λi a=>(XS D a).1,(aei D).1,List.append_assoc];rfl
theorem ag6(D:on.length=us.length){n:Nt}{out:List Int}{cnt:Nat}{isl:List Int}{φ:Nat->Nat->Rat}:CN n out (us++[nu b q c]) (on++[true]) cnt isl φ=CN n out us on cnt isl φ++[(E9 us.length,-q)]:=by
 unfold CN Q8;rw[show(us++[nu b q c]).length=us.length+1 by simp,tQ (AN _ _),MS us.length λi a=>(XS D a).2,(aei D).2];simp only[List.append_assoc]
end
theorem Y5{n:Nt}{out:List Int}{us:List sI}{on:List Bool}{cnt m B:Nat}{isl:List Int}{φ:Nat->Nat->Rat}{w:Nat->Rat}{b:Nat}{q c:Int}(H:MP n out B cnt isl φ)(D:(CN n out us on cnt isl φ).length<=m):Zk w (CN n out us on cnt isl φ) (nv us.length b q c)=-Y2 n.lines.length cnt (NT m w out cnt) (MO m w) φ isl b:=by
 have y:∀k,bX (λl=>NT m w out cnt l*φ l b) k=bX (λp=>MO m w (cnt+p)*φ ((rG out k).getD p 0) b) (rG out k).length:=λk=>by
  induction k with
  |zero=>rfl
  |succ k d=>
   rw[bX,d,NT];by_cases e:(k:Int)∈out
   ·rw[if_pos e,zG,if_pos e,List.append_nil];grind
   rw[if_neg e,zG,if_neg e,List.length_append,List.length_singleton,bX];have d:(rG out k++[k]).getD (rG out k).length 0=k:=by simp
   rw[d];congr 1;exact bZ λp hp=>by simp[List.getElem?_append_left hp]
 have v:=Iz (g:=λi=>sW (Bn isl i) 0) (f:=λi=>Bn isl i) (c:=λ_=>0) (nv us.length b q c) cnt w λ_ _=>rfl;have hl:∀p,p<(rG out n.lines.length).length->∃x,It φ n.lines (rG out n.lines.length) p=sW (MI φ ((rG out n.lines.length).getD p 0)) x:=λp hp=>by
  obtain⟨j,d,o,a,b',x,t,s,_⟩:=C8 H.nt hp;exact⟨t,by unfold It;rw[d,List.getD_eq_getElem?_getD,d];simp[s]⟩
 obtain⟨t,s⟩:∃t:Nat->Int,∀p,p<(rG out n.lines.length).length->It φ n.lines (rG out n.lines.length) p=sW (MI φ ((rG out n.lines.length).getD p 0)) (t p):=by
  refine⟨λp=>if h:p<(rG out n.lines.length).length then Classical.choose (hl p h)else 0,λp hp=>?_⟩;dsimp only;rw[dif_pos hp];exact Classical.choose_spec (hl p hp)
 have u:=Iz (g:=It φ n.lines (rG out n.lines.length)) (f:=λp=>MI φ ((rG out n.lines.length).getD p 0)) (c:=t) (nv us.length b q c) (rG out n.lines.length).length (λi=>w (2*cnt+i)) s;have z:Zk (λi=>w (2*cnt+2*(rG out n.lines.length).length+i)) ((List.range us.length).flatMap (AN us on)) (nv us.length b q c)=0:=aeh λr hr=>by
  obtain⟨i,s,hr⟩:=List.mem_flatMap.1 hr;have s:i<us.length:=List.mem_range.1 s;unfold AN at hr;split at hr
  ·simp at hr;rw[hr];show E9 i (nv us.length b q c)=0;unfold E9;rw[if_pos (.inr (by show((us.length:Nat):Int)≠i;omega))]
  cases hr
 have t:2*cnt+2*(rG out n.lines.length).length<=m:=by
  unfold CN Q8 at D;rw[List.length_append,List.length_append,v.1,u.1]at D;omega
 unfold CN Q8 Y2;rw[Re,Re,List.length_append,v.1,u.1,v.2,u.2,z,y];have d:bX (λi=>(w (2*i)-w (2*i+1))*Bn isl i (nv us.length b q c)) cnt=-Y1 cnt (MO m w) (isl.getD b 0):=by
  have o:∀i,Bn isl i (nv us.length b q c)=if isl.getD b 0=(i:Int)then-1 else 0:=λi=>by
   unfold Bn nv;simp
  unfold Y1;by_cases h:0<=isl.getD b 0/\isl.getD b 0<cnt
  ·rw[if_pos h,iI (k:=(isl.getD b 0).toNat) ω λi s t=>by rw[o,if_neg ω];grind];rw[o,if_pos ω,MO,if_pos ω];grind
  rw[if_neg h,bZ (k:=λ_=>0) λi s=>by rw[o,if_neg ω];grind,gX];rfl
 rw[d,bZ (h:=λi=>(w (2*cnt+2*i)-w (2*cnt+(2*i+1)))*MI φ ((rG out n.lines.length).getD i 0) (nv us.length b q c)) (k:=λp=>MO m w (cnt+p)*φ ((rG out n.lines.length).getD p 0) b) λp hp=>?_]
 ·grind
 have:MI φ ((rG out n.lines.length).getD p 0) (nv us.length b q c)=φ ((rG out n.lines.length).getD p 0) b:=by
  unfold MI nv;show((1:Int):Rat)*φ _ ((b:Int).toNat)=_;rw[Int.toNat_natCast];exact Rat.one_mul _
 rw[this,MO,if_pos ω,show 2*(cnt+p)=2*cnt+2*p by omega,Nat.add_assoc]
section
variable {P S:List Va}{v:Va}{C:List ((Va->Rat)×Int)}
theorem CO(j:Nat):(P++v::S).getD (NU P.length j) v0=(P++S).getD j v0/\(P++v::S).getD P.length v0=v:=by
 refine⟨?_,by simp⟩;unfold NU;rw[List.getD_eq_getElem?_getD,List.getD_eq_getElem?_getD];by_cases h:j<P.length
 ·rw[if_pos h,List.getElem?_append_left h,List.getElem?_append_left h]
 rw[if_neg h,List.getElem?_append_right ω,List.getElem?_append_right ω,show j+1-P.length=(j-P.length)+1 by omega,List.getElem?_cons_succ]
theorem CP{V:List Va}{i:Nat}(D:i<C.length)(j:Nat):rA V C i j=(C.getD i r0).1 (V.getD j v0)/\rB V C i=((C.getD i r0).2:Rat):=by
 have e:(jL V C)[i]? =some (TW V (C.getD i r0)):=by
  unfold jL;rw[List.getElem?_append_left (by simpa using D),List.getElem?_map,List.getD_eq_getElem?_getD,List.getElem?_eq_getElem D];rfl
 unfold rA rB;rw[List.getD_eq_getElem?_getD,e];exact⟨Y,Y⟩
theorem Rf{V:List Va}{k:Nat}(D:k<V.length)(j:Nat):rA V C (C.length+k) j=dl k j/\rB V C (C.length+k)=((V.getD k v0).step.kS:Rat):=by
 have e:(jL V C)[C.length+k]? =some (dl k,(V.getD k v0).step.kS):=by
  unfold jL;rw[List.getElem?_append_right η,List.length_map,Nat.add_sub_cancel_left];exact jw D
 unfold rA rB;rw[List.getD_eq_getElem?_getD,e];exact⟨Y,Y⟩
theorem Rg{V:List Va}:(jL V C).length=C.length+V.length:=by simp[jL,V4]
theorem ag7(i j:Nat):dl i j=dl j i:=by
 unfold dl;by_cases e:i=j
 ·rw[if_pos e,if_pos e.symm]
 rw[if_neg e,if_neg λw=>e w.symm]
theorem aek{k n:Nat}(D:k<n)(f:Nat->Rat):bX (λj=>dl k j*f j) n=f k:=by
 rw[iI D λj hj a=>by unfold dl;rw[if_neg (λe=>a e.symm)];grind];unfold dl;rw[if_pos rfl];grind
theorem ael{q:Int}{rq:Va->Rat}{w z:Nat->Rat}(I:v.step.kS=q)(hr:∀u∈P++S,rq u=0)(K:rq v=-1)(hz:Pt (P++v::S).length (jL (P++v::S) (C++[(rq,-q)])).length (rA (P++v::S) (C++[(rq,-q)])) (rB (P++v::S) (C++[(rq,-q)])) z)(D:∀i,i<(jL (P++S) C).length->0<=w i)(H:∀k,k<(P++S).length->gn (P++S) k<=bX (λi=>w i*rA (P++S) C i k) (jL (P++S) C).length):GO (P++v::S).length (gn (P++v::S)) z<=bX (λi=>w i*rB (P++S) C i) (jL (P++S) C).length+(q:Rat)*(NR v-Zk w C v):=by
 obtain⟨f,b⟩:=hz;have c:(P++v::S).length=(P++S).length+1:=by simp;omega
 have g:P.length<=(P++S).length:=by simp
 have a:(jL (P++v::S) (C++[(rq,-q)])).length=C.length+1+((P++S).length+1):=by rw[Rg,c];simp
 rw[Rg]at D H⊢;rw[a]at b;rw[c]at f b⊢;generalize a:(P++S).length=N at*;have rows:∀i,i<C.length->bX (λj=>(C.getD i r0).1 ((P++S).getD j v0)*z (NU P.length j)) N+(C.getD i r0).1 v*z P.length<=((C.getD i r0).2:Rat):=λi c=>by
  have a:=b i ω;have e:(C++[(rq,-q)]).getD i r0=C.getD i r0:=by simp[List.getElem?_append_left c]
  have d:i<(C++[(rq,-q)]).length:=by simp;omega
  rw[GI (k:=P.length) _ N g,bZ (k:=λj=>(C.getD i r0).1 ((P++S).getD j v0)*z (NU P.length j)) (λj _=>by rw[(CP d _).1,e,(CO j).1]),(CP d _).1,(CP d 0).2,e,(CO 0).2]at a;exact a
 have l:(q:Rat)<=z P.length:=by
  have a:=b C.length ω;have e:(C++[(rq,-q)]).getD C.length r0=(rq,-q):=by simp
  have d:C.length<(C++[(rq,-q)]).length:=by simp
  rw[GI (k:=P.length) _ N g,bZ (k:=λ_=>0) (λj hj=>by
   rw[(CP d _).1,e,(CO j).1];have:rq ((P++S).getD j v0)=0:=hr _ (by rw[List.getD_eq_getElem?_getD,List.getElem?_eq_getElem ω];exact List.getElem_mem _);show rq _*_=0;rw[this];grind),gX,(CP d _).1,(CP d 0).2,e,(CO 0).2]at a
  dsimp only at a;rw[K,Rat.intCast_neg]at a;grind
 have d:∀k,k<N+1->z k<=(((P++v::S).getD k v0).step.kS:Rat):=λk l=>by
  have a:=b ((C++[(rq,-q)]).length+k) θ;have b:k<(P++v::S).length:=by omega
  rw[bZ (k:=λj=>dl k j*z j) (λj _=>by rw[(Rf b j).1]),aek l,(Rf b 0).2]at a;exact a
 have b:z P.length=(q:Rat):=by
  have:=d P.length ω;rw[(CO 0).2,I]at this;grind
 have l:∀j,j<N->0<=z (NU P.length j):=λj hj=>f _ (by unfold NU;split<;>omega);have f:∀j,j<N->z (NU P.length j)<=(((P++S).getD j v0).step.kS:Rat):=λj hj=>by
  have:=d (NU P.length j) (by unfold NU;split<;>omega);rwa[(CO j).1]at this
 unfold GO;rw[GI (k:=P.length) _ N g,bZ (k:=λj=>gn (P++S) j*z (NU P.length j)) (λj _=>by unfold gn;rw[(CO j).1]),b];have d:gn (P++v::S) P.length=NR v:=by unfold gn;rw[(CO 0).2]
 rw[d];have g:bX (λj=>gn (P++S) j*z (NU P.length j)) N<=bX (λj=>bX (λi=>w i*((C.getD i r0).1 ((P++S).getD j v0)*z (NU P.length j))) C.length+w (C.length+j)*z (NU P.length j)) N:=QU λj hj=>by
  have a:=Rat.mul_le_mul_of_nonneg_right (H j ω) (l j hj);rw[qR,bZ (k:=λi=>w i*(C.getD i r0).1 ((P++S).getD j v0)) (λi c=>by rw[(CP c j).1]),bZ (h:=λi=>w (C.length+i)*rA (P++S) C (C.length+i) j) (k:=λi=>dl j i*w (C.length+i)) (λi c=>by rw[(Rf ω j).1,ag7];grind),aek hj]at a;have e:bX (λi=>w i*((C.getD i r0).1 ((P++S).getD j v0)*z (NU P.length j))) C.length=z (NU P.length j)*bX (λi=>w i*(C.getD i r0).1 ((P++S).getD j v0)) C.length:=by
   rw[<-jv];exact bZ λi _=>by grind
  rw[e];grind
 have d:bX (λj=>bX (λi=>w i*((C.getD i r0).1 ((P++S).getD j v0)*z (NU P.length j))) C.length) N<=bX (λi=>w i*((C.getD i r0).2:Rat)-(q:Rat)*(w i*(C.getD i r0).1 v)) C.length:=by
  rw[zD (λj i=>w i*((C.getD i r0).1 ((P++S).getD j v0)*z (NU P.length j)))];refine QU λi c=>?_;rw[jv];have a:=rows i c;rw[b]at a;have b:=Rat.mul_le_mul_of_nonneg_right a (D i ω);grind
 have a3:bX (λj=>w (C.length+j)*z (NU P.length j)) N<=bX (λj=>w (C.length+j)*(((P++S).getD j v0).step.kS:Rat)) N:=QU λj hj=>by
  have b:=Rat.mul_le_mul_of_nonneg_right (f j hj) (D (C.length+j) ω);grind
 rw[CK]at g;rw[uB,jv]at d;have a:bX (λi=>w i*rB (P++S) C i) (C.length+N)=bX (λi=>w i*((C.getD i r0).2:Rat)) C.length+bX (λj=>w (C.length+j)*(((P++S).getD j v0).step.kS:Rat)) N:=by
  rw[qR,bZ (k:=λi=>w i*((C.getD i r0).2:Rat)) (λi c=>by rw[(CP c 0).2]),bZ (h:=λj=>w (C.length+j)*rB (P++S) C (C.length+j)) (k:=λj=>w (C.length+j)*(((P++S).getD j v0).step.kS:Rat)) (λj hj=>by rw[(Rf ω 0).2])]
 rw[a];unfold Zk;grind
end
end
section
open Go.Fw
theorem am7(h:Hr):bg (r7 h) λb=>b=false->h.uT.lines.length<=30/\h.out.length<=30/\Sh h.units h.on h.zO:=by
 obtain⟨⟨B,ls⟩,out,us,on,bs⟩:=h;unfold r7;refine bg.bU (λb=>b=true↔¬(ls.length<=30/\out.length<=30/\us.length<=12/\on.length<=30/\bs.length<=12)) (λK g=>bg.eq rfl<|bg.eq rfl<|bg.orB (λ_=>bg.eq rfl bg.dec) λc a=>bg.orB (λ_=>bg.eq rfl bg.dec) λc j=>bg.orB (λ_=>bg.eq rfl bg.dec) λc d=>bg.orB (λ_=>bg.eq rfl bg.dec) λf c=>g f ?_) λb f=>bg.bif (λ_=>.ret λe=>by cases e) λw=>?_
 ·rw[c,d,j,a,decide_eq_true_eq];omega
 have hl:ls.length<=30/\out.length<=30/\us.length<=12/\on.length<=30/\bs.length<=12:=Classical.not_not.1 λz=>by rw[f.2 z]at w;cases w
 refine bg.bind (P:=λy:Unit⊕Bool=>y=.inr true\/(∃u,y=.inl u)/\∀u∈us,u.steps.length<=6) (bg.cnt id us.length (λi _=>∀u∈us.take i,u.steps.length<=6) Y η ?_) ?_
 ·rintro i _ j rfl a;refine bg.eq Y<|bg.eq Y<|bg.bif (λq=>?_) λq=>.inr (.inr ⟨⟨_,Y⟩,?_⟩)
  ·have q:i<us.length:=by have:=of_decide_eq_true q;omega
   have c:=List.take_succ_eq_append_getElem q;have f:=List.getElem?_eq_getElem q;generalize us[i]=u at c f;refine bg.eq (bu f)<|bg.eq Y<|bg.eq Y<|bg.bif (λ_=>.inr (.inl Y)) λz=>bg.eq Y<|.inl q (bC ω) λx d=>?_;rw[c,List.mem_append,List.mem_singleton]at d;rcases d with t|rfl
   ·exact a x t
   have:=of_decide_eq_false z;omega
  have e:i=us.length:=by have:=of_decide_eq_false q;omega
  rw[e,List.take_length]at a;exact a
 rintro y (rfl|⟨⟨u,rfl⟩,g⟩)
 ·exact .ret λe=>by cases e
 refine bg.bind (P:=λy:Unit⊕Bool=>y=.inr true\/(∃u,y=.inl u)/\∀u∈bs,u.steps.length<=6) (bg.cnt id bs.length (λi _=>∀u∈bs.take i,u.steps.length<=6) Y η ?_) ?_
 ·rintro i _ j rfl a;refine bg.eq Y<|bg.eq Y<|bg.bif (λq=>?_) λq=>.inr (.inr ⟨⟨_,Y⟩,?_⟩)
  ·have q:i<bs.length:=by have:=of_decide_eq_true q;omega
   have c:=List.take_succ_eq_append_getElem q;have f:=List.getElem?_eq_getElem q;generalize bs[i]=u at c f;refine bg.eq (bu f)<|bg.eq Y<|bg.eq Y<|bg.bif (λ_=>.inr (.inl Y)) λz=>bg.eq Y<|.inl q (bC ω) λx d=>?_;rw[c,List.mem_append,List.mem_singleton]at d;rcases d with t|rfl
   ·exact a x t
   have:=of_decide_eq_false z;omega
  have e:i=bs.length:=by have:=of_decide_eq_false q;omega
  rw[e,List.take_length]at a;exact a
 rintro y (rfl|⟨⟨u,rfl⟩,a⟩)
 ·exact .ret λe=>by cases e
 exact .ret λ_=>⟨hl.1,hl.2.1,⟨hl.2.2.1,hl.2.2.2.2,g,a⟩⟩
theorem am8(h:Hr):bg (r8 h) λb=>b=false->h.uT.lines.length<=30/\h.out.length<=30/\Sh h.units h.on h.zO/\(pI h.units h.on h.zO).length<=12:=by
 have a:=am7 h;obtain⟨⟨B,ls⟩,out,us,on,bs⟩:=h;unfold r8;refine bg.bU (λb=>b=false->ls.length<=30/\out.length<=30/\Sh us on bs/\(pI us on bs).length<=12) (λK c=>bg.bind a λy a=>bg.bind (P:=λb=>b=false->ls.length<=30/\out.length<=30/\Sh us on bs/\(pI us on bs).length<=12) (bg.bif (λ_=>.ret λe=>by cases e) λw=>bg.eq (agX (a w).2.2)<|bg.eq rfl<|bg.eq rfl<|.ret λe=>?_) c) λb c=>.ret c;have:=of_decide_eq_false e;rw[List.length_map]at this;exact⟨(a w).1,(a w).2.1,(a w).2.2,by omega⟩
theorem ag8{n:Nt}{out:List Int}{us:List sI}{on:List Bool}{bs:List Bd}(I:n.lines.length<=30)(H:out.length<=30)(D:Sh us on bs):(∃d e,mm n out us on bs=some (d,e)/\e≠0)\/∃B cnt isl φ,MP n out B cnt isl φ/\Q3 n out us on bs:=by
 obtain⟨⟨p,e⟩,c,b⟩:=Y4 (n:=n) (out:=out) D ω ω;by_cases z:e=0
 ·exact .inr (b z)
 exact .inl ⟨_,e,az (a:=(p,e)) c<|az Y<|cm (decide_eq_true z) Y,z⟩
theorem aem{a b:Nat}(D:1<=b):M3 (a:Int) (b:Int)=some ((a%b:Nat):Int):=by
 unfold M3;rw[if_neg ω,Int.ofNat_tmod]
theorem am9{us:List sI}{on:List Bool}{bs:List Bd}{b q c:Int}(h:Sh us on bs)(D:us.length<5):Sh (us++[nu b q c]) (on++[true]) bs:=⟨by simp;omega,h.b,λu a=>by
 rcases List.mem_append.1 a with w|w
 ·exact h.us u w
 simp at w;rw[w];simp[nu],h.bs⟩
theorem ag9{n:Nt}{out:List Int}{us:List sI}{on:List Bool}{bs:List Bd}{b q c:Int}(h:Q3 n out us on bs)(I:us.length<5)(D:0<=b/\b<n.dA)(H:1<=q/\q<=1000000/\-1000000<=c/\c<=1000000):Q3 n out (us++[nu b q c]) (on++[true]) bs:=⟨h.o,by simp;omega,h.bl,λu a=>by
 rcases List.mem_append.1 a with w|w
 ·exact h.u u w
 simp at w;rw[w];exact ad4 D H,by simp[h.on],h.b⟩
theorem aen{n:Nt}{out:List Int}{us:List sI}{on:List Bool}{bs:List Bd}{B cnt b:Nat}{isl:List Int}{φ:Nat->Nat->Rat}{q c:Int}{x w z:Nat->Rat}(hG:MP n out B cnt isl φ)(hc:Q3 n out us on bs)(V D:List Va)(C K:List ((Va->Rat)×Int))(eV:V=pI us on bs)(I:D=pI (us++[nu b q c]) (on++[true]) bs)(eC:C=CN n out us on cnt isl φ)(H:K=CN n out (us++[nu b q c]) (on++[true]) cnt isl φ)(hx:∀x',Pt V.length (jL V C).length (rA V C) (rB V C) x'->GO V.length (gn V) x'<=GO V.length (gn V) x)(hw:am6 V.length (jL V C).length (gn V) (rA V C) (rB V C) w)(hz:Pt D.length (jL D K).length (rA D K) (rB D K) z):GO D.length (gn D) z-GO V.length (gn V) x<=(q:Rat)*(Y2 n.lines.length cnt (NT (jL V C).length w out cnt) (MO (jL V C).length w) φ isl b-(c:Rat)):=by
 have a:=aej (bs:=bs) (b:=b) (q:=q) (c:=c) hc.on;rw[ag6 hc.on,<-eC]at H;rw[a]at I;have e:V=GC us on us.length++O7 bs bs.length:=eV;have d:∀u∈GC us on us.length++O7 bs bs.length,E9 us.length u=0:=λu a=>by
  unfold E9;rcases Q7 (us:=us) (on:=on) (bs:=bs) a with⟨i,k,f,s,rfl,a,_⟩|⟨i,k,b',s,rfl,_⟩
  ·rw[if_pos (.inr (by have:=(List.getElem?_eq_some_iff.1 a).1;show(i:Int)≠((us.length:Nat):Int);omega))]
  rw[if_pos (.inl Y)]
 have f:E9 us.length (nv us.length b q c)=-1:=by
  unfold E9 nv;rw[if_neg η]
 subst I H e;have e:=ael (P:=GC us on us.length) (S:=O7 bs bs.length) (v:=nv us.length b q c) (C:=C) (q:=q) (rq:=E9 us.length) (w:=w) (z:=z) Y d f hz (λi d=>(hw.q i d).2) hw.k;obtain⟨x',a,d⟩:=hw.v;have f:=hx x' a;have a:=Y5 (w:=w) (b:=b) (q:=q) (c:=c) (m:=(jL (GC us on us.length++O7 bs bs.length) C).length) hG (by rw[Rg,<-eC];omega);rw[<-eC]at a;have f:NR (nv us.length b q c)=-(c:Rat):=by
  unfold NR nv;show-((1:Int):Rat)*(c:Rat)=_;rw[show((1:Int):Rat)=1 from rfl];grind
 rw[a,f,d]at e;grind
theorem aha(aw:oT=some true)(h:Hr){H D:Nat}{I:Int}(g1:H<256)(g3: -32768<=I/\I<=32767):iD h H D I=some true:=by
 suffices f:bg (iD h H D I) (· =true) by
  obtain⟨r,l,k⟩:=f;rw[l,k]
 obtain⟨⟨o,ls⟩,out,us,on,bs⟩:=h;unfold iD;refine bg.bU (λb=>b=false->ls.length<=30/\out.length<=30/\Sh us on bs/\(pI us on bs).length<=12/\us.length<5) (λK m=>bg.bind (am8 _) λy g=>bg.bind (P:=λb=>b=false->ls.length<=30/\out.length<=30/\Sh us on bs/\(pI us on bs).length<=12/\us.length<5) (bg.bif (λ_=>.ret λe=>by cases e) λw=>bg.eq rfl<|bg.eq rfl<|.ret λe=>?_) λb f=>bg.bind (P:=λb=>b=false->ls.length<=30/\out.length<=30/\Sh us on bs/\(pI us on bs).length<=12/\us.length<5) (bg.bif (λ_=>.ret λe=>by cases e) λw=>bg.eq aw<|bg.eq rfl<|.ret λ_=>f w) m) λb f=>bg.bif (λ_=>bg.eq aw<|.ret rfl) λw=>?_
 ·have:=of_decide_eq_false e;dsimp only at this;exact⟨(g w).1,(g w).2.1,(g w).2.2.1,(g w).2.2.2,by omega⟩
 obtain⟨g,j,i,t,p⟩:=f w;rcases ag8 (n:=⟨o,ls⟩) (out:=out) g j i with⟨d,e,l,k⟩|⟨B,cnt,isl,φ,g,j⟩
 ·exact bg.eq (a:=(d,e)) (az l Y)<|bg.eq Y<|bg.bif (λ_=>.ret Y) λw=>absurd (Classical.not_not.1 (of_decide_eq_false w)) k
 obtain rfl:o=B:=g.nt.b;have J:=g.nt.b1;obtain⟨⟨d,e⟩,l,k⟩:=MR g j i ω ω _ Y _ Y;dsimp only at k;refine bg.eq (a:=(d,e)) (az l Y)<|bg.eq Y ?_;rcases k with⟨rfl,_⟩|⟨rfl,x,w,A,v,k,E,C,u,L⟩
 ·exact bg.bif (λ_=>.ret rfl) λw=>by cases w
 refine bg.bif (λw=>by cases w) λ_=>bg.bU (λb=>b=false) (λK m=>bg.eq rfl<|bg.bind (P:=λb=>b=false) (bg.bif (λw=>absurd (of_decide_eq_true w) (by dsimp only;omega)) λ_=>bg.eq rfl<|bg.eq rfl<|.ret (decide_eq_false λq=>q ?_)) m) λb f=>?_
 ·rw[u,b9]
 subst f;have f:1<=1+D%20/\1+D%20<=20:=by have:=Nat.mod_lt D (show 0<20 by omega);omega
 have F:=Nat.mod_lt H (show 0<B by omega);have G:IntKind.i64.wrap (H:Int)=(H:Int):=xO ω;have k:IntKind.i64.wrap ((D%20:Nat):Int)=((D%20:Nat):Int):=xO ω;have o:IntKind.i64.wrap (1+((D%20:Nat):Int))=((1+D%20:Nat):Int):=oe (n:=1) ω;have f:IntKind.i64.wrap I=I:=cV ω ω;have l:=j.on;have s:=ag9 (b:=((H%B:Nat):Int)) (q:=((1+D%20:Nat):Int)) (c:=I) j p (by dsimp only;omega) ω;have m:=am9 (b:=((H%B:Nat):Int)) (q:=((1+D%20:Nat):Int)) (c:=I) i p;have p:=aej (bs:=bs) (b:=((H%B:Nat):Int)) (q:=((1+D%20:Nat):Int)) (c:=I) l;have i:(pI (us++[nu ((H%B:Nat):Int) ((1+D%20:Nat):Int) I]) (on++[true]) bs).length<=13:=by
  rw[p];rw[pI]at t;simp at t⊢;omega
 obtain⟨⟨t,M⟩,p,l⟩:=MR g s m i ω _ Y _ Y;dsimp only at l;refine bg.bif (λw=>by cases w) λ_=>bg.eq (congrArg some G)<|bg.eq (aem J.1)<|bg.eq rfl<|bg.eq (congrArg some k)<|bg.eq (congrArg some o)<|bg.eq (amp ξ θ)<|bg.eq (congrArg some f)<|bg.eq (ru ξ θ)<|bg.eq (amp ξ θ)<|bg.eq (ru ξ θ)<|bg.eq (a:=(t,M)) (az p rfl)<|bg.eq rfl ?_;rcases l with⟨rfl,_⟩|⟨rfl,z,w',t,i,t3,t4,t5,l,k⟩
 ·exact bg.bif (λ_=>⟨_,rfl,rfl⟩) λw=>by cases w
 have o:=cz (n:=((1+D%20:Nat):Int)) (by unfold fQ;omega);have m:=cz (n:=I) (by unfold fQ;omega);have s:d.qA[H%B]? =some (qn (Y2 ls.length cnt (NT (jL (pI us on bs) (CN ⟨B,ls⟩ out us on cnt isl φ)).length w out cnt) (MO (jL (pI us on bs) (CN ⟨B,ls⟩ out us on cnt isl φ)).length w) φ isl (H%B))):=by
  rw[u];exact fU F
 have p:=((L (H%B)).rep ω).sub m.2 ω;have k:=o.2.mul p.2 ω;have l:=(i.rep ω).sub (v.rep ω) ω;have f6:=l.2.cmp k.2 ω;have i:=l.1;rw[<-t,<-A]at i;refine bg.bif (λw=>by cases w) λ_=>bg.eq o.1<|bg.eq (bu s)<|bg.eq (congrArg some f)<|bg.eq m.1<|bg.eq p.1<|bg.eq k.1<|bg.eq i<|bg.eq f6<|bg.eq rfl<|.ret (decide_eq_true ?_);have:=aen g j _ _ _ _ Y Y Y Y E C t3;exact Int.not_lt.1 λq=>Rat.not_lt.2 this (CI.1 q)
end
section
open Go.Fw
theorem GJ{S E:Type}{body:S->Option (S⊕E)}{s:S}{e:E}(h:body s=some (.inr e)):bH body s=some e:=my h
theorem eX{S E:Type}{body:S->Option (S⊕E)}{s s':S}{e:E}(h:body s=some (.inl s'))(D:body s'=some (.inr e)):bH body s=some e:=(sZ h).trans (my D)
theorem ajo{S E:Type}{body:S->Option (S⊕E)}{s s':S}{e:E}(h:body s=some (.inl s'))(D:bH body s'=some e):bH body s=some e:=(sZ h).trans D
def hrA:Hr:=⟨⟨1,[]⟩,[],[nu 0 0 0 |> λu=>{u with steps:=[⟨10,3⟩]}],[true],[⟨0,[⟨4,9⟩]⟩]⟩
theorem ahb:wS [[⟨10,3⟩]] [[⟨4,9⟩]]=some hrA:=by
 unfold wS;refine az (eX Y Y)<|az (eX Y Y) Y
theorem qh:ey [⟨10,3⟩]=some 0/\dM [⟨4,9⟩]=some 0:=⟨az (Q1 ξ).1 Y,az (Q1 ξ).2 Y⟩
theorem TG:pT [[⟨10,3⟩]] [[⟨4,9⟩]]=some 0:=by
 unfold pT bU;refine az Y<|az Y<|az Y<|cq Y<|az Y<|az (a:=(Sum.inl ():Unit⊕Int)) (eX (s':=1) ?_ Y)<|az Y<|az (a:=(Sum.inl ():Unit⊕Int)) (eX (s':=1) ?_ Y) Y
 ·exact az Y<|cm Y<|az Y<|az qh.1 Y
 exact az Y<|cm Y<|az Y<|az qh.2 Y
def sup:List zI:=[⟨3,10,[10]⟩]
def dem:List zI:=[⟨9,4,[4]⟩]
theorem ahc:lS [[⟨10,3⟩]]=some (sup,0,0):=by
 have:rQ [[⟨10,3⟩]]=some (0,0):=az Y<|az Y<|cq Y<|az Y<|az (a:=(Sum.inl ():Unit⊕(Int×Int))) (eX (s':=1) (az Y<|cm Y<|az Y<|az qh.1 Y) Y) Y;exact az this<|az Y<|cq Y<|az Y<|az Y Y
theorem ahd:nY [[⟨4,9⟩]]=some (dem,0,0):=by
 have:rR [[⟨4,9⟩]]=some (0,0):=az Y<|az Y<|cq Y<|az Y<|az (a:=(Sum.inl ():Unit⊕(Int×Int))) (eX (s':=1) (az Y<|cm Y<|az Y<|az qh.2 Y) Y) Y;exact az this<|az Y<|cq Y<|az Y<|az Y Y
theorem Y6:rS sup dem=some 4:=az (eX Y Y) Y
theorem Ki:(ij sup=some 0/\nC sup=some 10)/\ij dem=some 0/\nC dem=some 4:=by
 have b:jH ⟨3,10,[10]⟩=some true:=by
  unfold jH bU;exact az Y<|az Y<|cq Y<|az Y<|az Y<|az Y<|cq Y<|az Y<|az (a:=(Sum.inl ():Unit⊕Bool)) (eX Y Y) Y
 have d:jH ⟨9,4,[4]⟩=some true:=by
  unfold jH bU;exact az Y<|az Y<|cq Y<|az Y<|az Y<|az Y<|cq Y<|az Y<|az (a:=(Sum.inl ():Unit⊕Bool)) (eX Y Y) Y
 have c:ij sup=some 0:=by
  unfold ij bU;exact az Y<|az Y<|cq Y<|az Y<|az (a:=(Sum.inl ():Unit⊕Int)) (eX (s':=1) (az Y<|cm Y<|az Y<|az b<|az Y<|cq Y<|az Y<|az (a:=10) (eX Y Y) Y) Y) Y
 have b:ij dem=some 0:=by
  unfold ij bU;exact az Y<|az Y<|cq Y<|az Y<|az (a:=(Sum.inl ():Unit⊕Int)) (eX (s':=1) (az Y<|cm Y<|az Y<|az d<|az Y<|cq Y<|az Y<|az (a:=4) (eX Y Y) Y) Y) Y
 unfold nC;exact⟨⟨c,az c<|az Y<|cq Y<|az Y<|az (a:=10) (eX Y Y) Y⟩,b,az b<|az Y<|cq Y<|az Y<|az (a:=4) (eX Y Y) Y⟩
def qi(a:Int):Qr:=qn (a:Rat)
abbrev sm(a:Int):Prop:=-1000000<=a/\a<=1000000
theorem nS{a:Int}(h:sm a):bK a=some (qi a)/\mq 2 (qi a) (a:Rat):=cz (by unfold sm at h;unfold fQ;omega)
theorem Pe{a b:Int}:(a:Rat)<(b:Rat)↔a<b:=Rat.intCast_lt_intCast
theorem sG{a b:Int}(H:sm a)(D:sm b):ff (qi a) (qi b)=some (qi (a+b))/\fj (qi a) (qi b)=some (qi (a-b))/\ei (qi a) (qi b)=some (qi (a*b))/\qI (qi a) (qi b)=some (qi (if b<a then b else a))/\iy (qi a) (qi b)=some (if a<b then-1 else if a=b then 0 else 1):=by
 have d:=(nS H).2;have c:=(nS D).2;refine⟨?_,?_,?_,?_,?_⟩
 ·rw[(d.add c ω).1,<-Rat.intCast_add];rfl
 ·rw[(d.sub c ω).1,<-Rat.intCast_sub];rfl
 ·rw[(d.mul c ω).1,<-Rat.intCast_mul];rfl
 ·rw[(d.min c ω).1];unfold VW qi;by_cases h:b<a
  ·rw[if_pos (Pe.2 h),if_pos h]
  rw[if_neg (λe=>h (Pe.1 e)),if_neg h]
 rw[d.cmp c ω];unfold o9;by_cases h:a<b
 ·rw[if_pos (Pe.2 h),if_pos h]
 rw[if_neg (λe=>h (Pe.1 e)),if_neg h];by_cases c:a=b
 ·rw[if_pos (by rw[c]),if_pos c]
 rw[if_neg (λe=>c (Rat.intCast_inj.1 e)),if_neg c]
theorem XT{a:Int}(h:sm a):cv (qi a)=some (if a<0 then-1 else if a=0 then 0 else 1):=by
 rw[(nS h).2.sign ω,show(0:Rat)=((0:Int):Rat)from rfl];unfold o9;by_cases c:a<0
 ·rw[if_pos (Pe (b:=0).2 c),if_pos c]
 rw[if_neg (λe=>c (Pe (b:=0).1 e)),if_neg c];by_cases c:a=0
 ·rw[if_pos (by rw[c]),if_pos c]
 rw[if_neg (λe=>c (Rat.intCast_inj (b:=0).1 e)),if_neg c]
theorem MT{a:Int}(h:sm a):mX (qi a)=some a:=by
 have e:=(nS h).2.floor ω;rw[Rat.floor_intCast]at e;have b:fQ a:=by unfold sm at h;unfold fQ;omega
 refine az e<|az (a:=(a,true)) ((uz (Mt b)).trans ?_) Y;rw[jd];unfold Bc;rw[if_pos b]
theorem Rh:mI sup (qi 4)=some ([qi 4],0)/\mI dem (qi 4)=some ([qi 4],0):=by
 have f:=sG (a:=4) (b:=10) ξ ξ;have d:=sG (a:=4) (b:=4) ξ ξ;have g:=XT (a:=4) ξ;have c:=(nS (a:=10) ξ).1;have i4:=(nS (a:=4) ξ).1;unfold mI bU;constructor
 ·exact az Ki.1.1<|az Y<|cq Y<|az g<|az Y<|az (cq Y<|az Ki.1.2<|az c<|az f.2.2.2.2 Y)<|cq Y<|az Y<|az Y<|az Y<|az (eX (s':=(1,qi 0,[qi 4])) (e:=[qi 4]) (az Y<|cm Y<|az Y<|az c<|az f.2.2.2.1<|az Y<|az Y<|az Y<|az Y<|az d.2.1 Y) Y) Y
 exact az Ki.2.1<|az Y<|cq Y<|az g<|az Y<|az (cq Y<|az Ki.2.2<|az i4<|az d.2.2.2.2 Y)<|cq Y<|az Y<|az Y<|az Y<|az (eX (s':=(1,qi 0,[qi 4])) (e:=[qi 4]) (az Y<|cm Y<|az Y<|az i4<|az d.2.2.2.1<|az Y<|az Y<|az Y<|az Y<|az d.2.1 Y) Y) Y
theorem XU:nD sup (qi 4)=some ([qi 4],0)/\nD dem (qi 4)=some ([qi 4],0):=by
 have g:=sG (a:=4) (b:=10) ξ ξ;have d:=sG (a:=4) (b:=4) ξ ξ;have f:=sG (a:=0) (b:=4) ξ ξ;have c:=(nS (a:=10) ξ).1;have i4:=(nS (a:=4) ξ).1;unfold nD bU;constructor
 ·exact az Rh.1<|az Y<|az Y<|cq Y<|az Y<|az Y<|az Y<|az Y<|az (eX (s':=(1,[qi 4])) (e:=[qi 4]) (az Y<|cm Y<|az Y<|az Y<|az Y<|az Y<|az (eX (s':=(-1,qi 0,[qi 4])) (e:=[qi 4]) (az Y<|cm Y<|az Y<|az c<|az g.2.2.2.1<|az Y<|az Y<|az f.1<|az Y<|az Y<|az d.2.1 Y) Y) Y) Y) Y
 exact az Rh.2<|az Y<|az Y<|cq Y<|az Y<|az Y<|az Y<|az Y<|az (eX (s':=(1,[qi 4])) (e:=[qi 4]) (az Y<|cm Y<|az Y<|az Y<|az Y<|az Y<|az (eX (s':=(-1,qi 0,[qi 4])) (e:=[qi 4]) (az Y<|cm Y<|az Y<|az i4<|az d.2.2.2.1<|az Y<|az Y<|az f.1<|az Y<|az Y<|az d.2.1 Y) Y) Y) Y) Y
theorem TH:kC sup 4=some ([4],0)/\kC dem 4=some ([4],0):=by
 have i4:=(nS (a:=4) ξ).1;have b:=MT (a:=4) ξ;unfold kC;constructor
 ·exact az i4<|az XU.1<|az Y<|cq Y<|az Y<|az Y<|az Y<|az (eX (s':=(1,[4])) (e:=[4]) (az Y<|cm Y<|az Y<|az b Y) Y) Y
 exact az i4<|az XU.2<|az Y<|cq Y<|az Y<|az Y<|az Y<|az (eX (s':=(1,[4])) (e:=[4]) (az Y<|cm Y<|az Y<|az b Y) Y) Y
theorem aeo:mJ sup (qi 4)=some (qi 12,0)/\mJ dem (qi 4)=some (qi 36,0):=by
 have i3:=(nS (a:=3) ξ).1;have i9:=(nS (a:=9) ξ).1;have d:=sG (a:=4) (b:=3) ξ ξ;have c:=sG (a:=4) (b:=9) ξ ξ;have a3:=sG (a:=0) (b:=12) ξ ξ;have a9:=sG (a:=0) (b:=36) ξ ξ;unfold mJ;constructor
 ·exact az Rh.1<|az Y<|cq Y<|az Y<|az (eX (s':=(1,qi 12)) (e:=qi 12) (az Y<|cm Y<|az Y<|az Y<|az i3<|az d.2.2.1<|az a3.1 Y) Y) Y
 exact az Rh.2<|az Y<|cq Y<|az Y<|az (eX (s':=(1,qi 36)) (e:=qi 36) (az Y<|cm Y<|az Y<|az Y<|az i9<|az c.2.2.1<|az a9.1 Y) Y) Y
theorem ana:vo sup dem 4=some (24,0):=by
 have i4:=(nS (a:=4) ξ).1;have s:=sG (a:=36) (b:=12) ξ ξ;exact az i4<|az aeo.1<|az Y<|cq Y<|az i4<|az aeo.2<|az Y<|cq Y<|az s.2.1<|az (MT (a:=24) ξ) Y
theorem Y7:iz [⟨10,3⟩] (qi 0) (-1)=some (0,0)/\iz [⟨4,9⟩] (qi 0) 1=some (4,4)/\iz [⟨10,3⟩] (qi 3) (-1)=some (0,10)/\iz [⟨4,9⟩] (qi 3) 1=some (4,4):=by
 have i3:=(nS (a:=3) ξ).1;have i9:=(nS (a:=9) ξ).1;have d:=(sG (a:=3) (b:=0) ξ ξ).2.2.2.2;have g:=(sG (a:=9) (b:=0) ξ ξ).2.2.2.2;have c:=(sG (a:=3) (b:=3) ξ ξ).2.2.2.2;have f:=(sG (a:=9) (b:=3) ξ ξ).2.2.2.2;unfold iz bU;exact⟨az Y<|az (eX (s':=(0,0,1)) (e:=(0,0)) (az Y<|cm Y<|az Y<|az i3<|az d Y) Y) Y,
  az Y<|az (eX (s':=(4,4,1)) (e:=(4,4)) (az Y<|cm Y<|az Y<|az i9<|az g Y) Y) Y,
  az Y<|az (eX (s':=(0,10,1)) (e:=(0,10)) (az Y<|cm Y<|az Y<|az i3<|az c Y) Y) Y,
  az Y<|az (eX (s':=(4,4,1)) (e:=(4,4)) (az Y<|cm Y<|az Y<|az i9<|az f Y) Y) Y⟩
theorem Ff:kp [[⟨10,3⟩]] [[⟨4,9⟩]] (qi 0)=some false/\kp [[⟨10,3⟩]] [[⟨4,9⟩]] (qi 3)=some true:=by
 obtain⟨a,b,d,c⟩:=Y7;have f:mU [⟨10,3⟩] (qi 0)=some (0,0,0):=az qh.1<|az Y<|cq Y<|az a Y;have a:mW [⟨4,9⟩] (qi 0)=some (4,4,0):=az qh.2<|az Y<|cq Y<|az b Y;have g:mU [⟨10,3⟩] (qi 3)=some (0,10,0):=az qh.1<|az Y<|cq Y<|az d Y;have b:mW [⟨4,9⟩] (qi 3)=some (4,4,0):=az qh.2<|az Y<|cq Y<|az c Y;unfold kp bU;exact⟨az Y<|az (eX (s':=(0,0,1)) (e:=(0,0)) (az Y<|cm Y<|az Y<|az f Y) Y)<|az Y<|az (eX (s':=(4,4,1)) (e:=(4,4)) (az Y<|cm Y<|az Y<|az a Y) Y) Y,
  az Y<|az (eX (s':=(0,10,1)) (e:=(0,10)) (az Y<|cm Y<|az Y<|az g Y) Y)<|az Y<|az (eX (s':=(4,4,1)) (e:=(4,4)) (az Y<|cm Y<|az Y<|az b Y) Y) Y⟩
theorem aep:abe [0,3,9]=some ():=by
 unfold abe Sort.insertionSort;rw[Sort.insOuter,Sort.insOuter,Sort.insOuter];exact if_pos ξ
theorem ahe:iQ [[⟨10,3⟩]] [[⟨4,9⟩]]=some 3:=by
 have i0:=(nS (a:=0) ξ).1;have i3:=(nS (a:=3) ξ).1;unfold iQ;refine az Y<|az (ajo (s':=(1,[0,3])) (az Y<|cm Y<|az Y<|az Y<|az (eX (s':=(1,[0,3])) (e:=[0,3]) (az Y<|cm Y<|az Y<|az Y<|az (eX (s':=(1,[0,3])) (e:=[0,3]) Y Y) Y) Y) Y)<|eX (s':=(2,[0,3,9])) (e:=[0,3,9]) (az Y<|cm Y<|az Y<|az Y<|az (eX (s':=(1,[0,3,9])) (e:=[0,3,9]) (az Y<|cm Y<|az Y<|az Y<|az (eX (s':=(1,[0,3,9])) (e:=[0,3,9]) Y Y) Y) Y) Y) Y)<|az aep<|az Y<|az (a:=3) (eX (s':=1) (az Y<|cm Y<|az Y<|az Y<|az Y<|az (a:=(Sum.inl ():Unit⊕(Int⊕Int))) (ajo (s':=1) (az Y<|cm Y<|az Y<|az Y<|az i0<|az Ff.1 Y)<|eX (s':=2) (az Y<|cm Y<|az Y<|az Y<|az i0<|az Ff.1 Y) Y) Y) (az Y<|cm Y<|az Y<|az Y<|az Y<|az (a:=(Sum.inr (Sum.inr 3):Unit⊕(Int⊕Int))) (GJ (az Y<|cm Y<|az Y<|az Y<|az i3<|az Ff.2 Y)) Y)) Y
theorem ahf:xG [[⟨10,3⟩]] [[⟨4,9⟩]]=some (⟨4,3,24,[4],[4]⟩,0):=
 az TG<|az Y<|cq Y<|az ahc<|az Y<|cq Y<|az ahd<|az Y<|cq Y<|az Y6<|az TH.1<|az Y<|cq Y<|az TH.2<|az Y<|cq Y<|az ana<|az Y<|cq Y<|az ahe Y
end
section
open Go.Fw
theorem aeq:mM ⟨1,[]⟩ []=some 0:=by
 have c:oQ ⟨1,[]⟩=some 0:=by
  unfold oQ bU;exact az Y<|az Y<|cq Y<|az Y<|az Y<|cq Y<|az Y<|az Y<|az (a:=(0:Int)) (GJ Y) Y
 unfold mM bU;exact az c<|az Y<|cq Y<|az Y<|az (a:=(Sum.inl ():Unit⊕Int)) (GJ Y) Y
theorem aer:NQ [] []:=⟨λk h=>(by cases h),λi a b h=>(by simp at h)⟩
theorem anb:oR ⟨1,[]⟩ []=some ([],0):=by
 unfold oR;exact az aeq<|az Y<|cq Y<|az (ins_eq aer ξ ξ)<|az (a:=[]) Y Y
theorem aqM:jr ⟨1,[]⟩ []=some ([0],0):=by
 have f:jZ 0 [0]=some 0:=az (a:=0) (GJ Y) Y;unfold jr;exact az anb<|az Y<|cq Y<|az Y<|az Y<|az (eX (s':=(1,[0])) (e:=[0]) Y Y)<|az Y<|az (GJ (e:=[0]) Y)<|az Y<|az Y<|az (eX (s':=(1,1,[0])) (e:=[0]) (az Y<|cm Y<|az f<|az Y<|cq Y Y) Y) Y
theorem aes:j0 ⟨1,[]⟩ []=some ([0],0):=by
 unfold j0 bU;exact az aqM<|az Y<|cq Y<|az Y<|az (eX (s':=(1,[0])) (e:=[0]) Y Y) Y
theorem ahg:iB ⟨1,[]⟩ []=some (1,0):=az aes<|az Y<|cq Y<|az Y Y
theorem anc:GA ⟨1,[]⟩ 1:=⟨rfl,by omega,by decide,λl h=>by cases h⟩
theorem aqN:iC ⟨1,[]⟩ [] [0]=some [vq 1 (dl 0)]:=by
 unfold iC;exact az (MB (n:=1) ω)<|az Y<|az (GJ Y)<|az (ident_eq (n:=1) ω)<|az Y<|az (eX (s':=(1,[vq 1 (dl 0)])) (e:=[vq 1 (dl 0)]) Y Y) Y
theorem ane:∃m,iA [vq 2 λ_=>1] 1=some ([0],m)/\m.length=1/\∀r∈m,r.length=2:=by
 have c:=cz (n:=1) ξ;have g:=XT (a:=1) ξ;have d:=c.2.div c.2 ω ξ;have f:=adZ d.2 (Ik (L:=2) (n:=2) (h:=λk=>if k<2 then 1 else 0) (λi b=>by rw[if_pos b];exact c.2.fq) (λi b=>if_neg ω) ω) ω (by rw[b9];omega);rw[eH (n:=2) (h:=λk=>if k<2 then 1 else 0) (k:=λ_=>1) λi b=>if_pos b]at f;have j:kr [vq 2 λ_=>1] 0 0=some ((0,true),[vq 2 λ_=>1]):=az (a:=(0,true)) (GJ (az Y<|az Y<|cm Y<|az Y<|az Y<|az (a:=qi 1) Y<|az g Y))<|az Y Y;obtain⟨v,b⟩:∃v,oJ (qn (((1:Int):Rat)/((1:Int):Rat))) (vq 2 λ_=>1)=some v/\v.length=2:=⟨_,f.1,by simp[b9]⟩;refine⟨[v],?_,Y,λr hr=>by simp at hr;rw[hr];exact b.2⟩;unfold iA bU;exact az (a:=([0],[v])) (eX (s':=(1,[v],[0])) (az Y<|cm Y<|az Y<|az Y<|az Y<|cq Y<|az j<|az Y<|az Y<|cq Y<|az Y<|cq Y<|az Y<|az Y<|az (a:=qi 1) Y<|az Y<|az c.1<|az Y<|az Y<|az (a:=qi 1) Y<|az d.1<|az Y<|az Y<|az b.1<|az Y<|az Y<|az Y<|az (eX (s':=(1,[v])) (e:=[v]) Y Y) Y) Y)<|az Y Y
theorem aqO:∃m,jK [vq 1 (dl 0)]=some (m,0):=by
 obtain⟨m,o,h,a⟩:=ane;have b:jJ [vq 1 (dl 0)]=some ((1:Nat):Int):=az Y<|az (eX (s':=(1,1)) (e:=1) Y Y) Y;have f:Gm 2 [vq 1 (dl 0)]:=λr hr=>by
  simp at hr;rw[hr];exact CM (λi l=>by have e:i=0:=ω;subst e;exact(cz (n:=1) ξ).2.fq) ω
 have g:=O3 f f ω ω (n:=1) (c:=1) (d:=1) Y Y ω b b ω;have e:((List.range 1).map λi=>vq (1+1) λk=>if k<1 then sF [vq 1 (dl 0)] i k else sF [vq 1 (dl 0)] i (k-1))=[vq 2 λ_=>1]:=by
  show[vq 2 _]=_;rw[eH (n:=2) (k:=λ_=>1) λi l=>?_];have:sF [vq 1 (dl 0)] 0 0=1:=og ω;split
  ·obtain rfl:i=0:=by omega
   exact this
  obtain rfl:i=1:=by omega
  exact this
 rw[e]at g;have f:(List.replicate 1 qz).set 0 (qn ((1:Int):Rat))=vq 1 (dl 0):=V0 (n:=1) ω
 match m,h,a with
 |[r],_,a=>
  unfold jK;refine⟨_,az Y<|az b<|az Y<|cq Y<|az Y<|az Y<|az (eX (s':=(1,[vq 1 (dl 0)])) (e:=[vq 1 (dl 0)]) (az Y<|cm Y<|az Y<|az Y<|az Y<|az (cz (n:=1) ξ).1<|az Y<|az Y Y) Y)<|az g<|az o<|az Y<|az Y<|az Y<|cq Y<|az Y<|az (eX (s':=(1,[cut r 1 2])) (e:=[cut r 1 2]) (az Y<|cm Y<|az Y<|az Y<|az ?_ Y) Y) Y⟩;rw[a r η];exact Mn (i:=1) (j:=2) ω (by rw[a r η];omega)
theorem aqP:∃f,fN ⟨1,[]⟩ []=some (f,0):=by
 obtain⟨a,c⟩:=aqO;have hl:∀b:Nat,jD b ⟨1,[]⟩ [] a=some []:=λb=>az Y<|az Y<|az Y<|az (GJ (e:=[]) Y) Y;refine⟨_,az anb<|az Y<|cq Y<|az aes<|az Y<|cq Y<|az aqN<|az c<|az Y<|cq Y<|az (eX (s':=(1,[[]])) (e:=[[]]) (az Y<|cm Y<|az (hl 0) Y) Y)<|az Y<|az (az Y<|az Y<|az (GJ Y) Y) Y⟩
theorem anf:∃φ,MP ⟨1,[]⟩ [] 1 1 [0] φ:=by
 obtain⟨f,h⟩:=aqP;obtain⟨y,a,d⟩:=ME ⟨1,[]⟩ [] ξ ξ;rw[h]at a;obtain rfl:=aob a;obtain⟨B,φ,e,_,a,c⟩:=d Y;obtain rfl:1=B:=by have:=e.b;dsimp only at this;omega
 dsimp only at a;exact⟨φ,anc,aer,aqM,Y,ahg,by omega,anb,by rw[h,a],c⟩
end
section
open Go.Fw
def uA:sI:=⟨0,0,[⟨10,3⟩],1,1,0,0,0,1⟩
def bA:Bd:=⟨0,[⟨4,9⟩]⟩
def VA:List Va:=[⟨⟨false,0,0⟩,0,⟨10,3⟩,1⟩,⟨⟨true,0,0⟩,0,⟨4,9⟩,-1⟩]
def CA:List ((Va->Rat)×Int):=[(Bn [0] 0,0),(λv=>-Bn [0] 0 v,0),(E9 0,0)]
theorem aqQ:Q3 ⟨1,[]⟩ [] [uA] [true] [bA]:=by
 have c:gG uA 1=some 0:=by
  obtain⟨s,a,e,f,d⟩:=MH [⟨10,3⟩];simp[uA,gG,bU,qh.1,a,show ¬s<0 by omega]
 exact⟨aeq,by decide,by decide,λu h=>by simp at h;rw[h];exact c,Y,λb h=>by simp at h;rw[h];exact⟨by decide,by decide,qh.2⟩⟩
theorem ayg:Sh [uA] [true] [bA]:=⟨by decide,by decide,λu h=>by simp at h;rw[h];decide,λb h=>by simp at h;rw[h];decide⟩
theorem ajp:(rA VA CA 0 0=-1/\rA VA CA 0 1=1)/\(rA VA CA 1 0=1/\rA VA CA 1 1=-1)/\(rA VA CA 2 0=-1/\rA VA CA 2 1=0)/\(rA VA CA 3 0=1/\rA VA CA 3 1=0)/\(rA VA CA 4 0=0/\rA VA CA 4 1=1):=by decide
theorem aet:(jL VA CA).length=5/\(∀x:Nat->Rat,bX (λk=>rA VA CA 0 k*x k) 2=-x 0+x 1/\bX (λk=>rA VA CA 1 k*x k) 2=x 0-x 1/\bX (λk=>rA VA CA 2 k*x k) 2=-x 0/\bX (λk=>rA VA CA 3 k*x k) 2=x 0/\bX (λk=>rA VA CA 4 k*x k) 2=x 1):=by
 refine⟨Y,λx=>?_⟩;have e:∀f:Nat->Rat,bX f 2=0+f 0+f 1:=λf=>rfl;rw[e,e,e,e,e];obtain⟨⟨g,b⟩,⟨i,a⟩,⟨a20,h⟩,⟨d,j⟩,c,a41⟩:=ajp;rw[g,b,i,a,a20,h,d,j,c,a41];refine⟨by grind,by grind,by grind,by grind,by grind⟩
theorem aqR:Pt 2 5 (rA VA CA) (rB VA CA) λ_=>4:=by
 have hr:=aet.2;have g:rB VA CA 0=0:=by decide
 have h:rB VA CA 1=0:=by decide
 have a:rB VA CA 2=0:=by decide
 have l:rB VA CA 3=10:=by decide
 have f:rB VA CA 4=4:=by decide
 refine⟨λ_ _=>by show(0:Rat)<=4;decide,λi c=>?_⟩;obtain⟨j,k,d,e,b⟩:=hr λ_=>4
 match i,c with
 |0,_=>rw[j,g];grind
 |1,_=>rw[k,h];grind
 |2,_=>rw[d,a];grind
 |3,_=>rw[e,l];grind
 |4,_=>rw[b,f];grind
theorem aeu{x w:Nat->Rat}{φ:Nat->Nat->Rat}(K:Pt 2 5 (rA VA CA) (rB VA CA) x)(I:∀H,Pt 2 5 (rA VA CA) (rB VA CA) H->GO 2 (gn VA) H<=GO 2 (gn VA) x)(D:am6 2 5 (gn VA) (rA VA CA) (rB VA CA) w):GO 2 (gn VA) x=24/\Y2 0 1 (NT 5 w [] 1) (MO 5 w) φ [0] 0=3:=by
 have hr:=aet.2;have t:rB VA CA 0=0:=by decide
 have u:rB VA CA 1=0:=by decide
 have B:rB VA CA 2=0:=by decide
 have C:rB VA CA 3=10:=by decide
 have s:rB VA CA 4=4:=by decide
 have r:gn VA 0=-3:=by
  show-((1:Int):Rat)*((3:Int):Rat)=-3;rw[show((1:Int):Rat)=1 from rfl,show((3:Int):Rat)=3 from rfl];grind
 have p:gn VA 1=9:=by
  show-((-1:Int):Rat)*((9:Int):Rat)=9;rw[show((-1:Int):Rat)=-1 from rfl,show((9:Int):Rat)=9 from rfl];grind
 have c:∀y,GO 2 (gn VA) y=-3*y 0+9*y 1:=λy=>by
  show 0+gn VA 0*y 0+gn VA 1*y 1=_;rw[r,p];grind
 have a:∀y,Pt 2 5 (rA VA CA) (rB VA CA) y->GO 2 (gn VA) y<=24:=λy b=>by
  have j:=b.2 0 ω;have d:=b.2 1 ω;have i:=b.2 4 ω;obtain⟨b,h,l,m,g⟩:=hr y;rw[b,t]at j;rw[h,u]at d;rw[g,s]at i;rw[c];grind
 have b:=aqR;have v4:=I _ b;rw[c (λ_=>4)]at v4;refine⟨by have:=a x K;grind,?_⟩;have b:∀f:Nat->Rat,bX f 5=0+f 0+f 1+f 2+f 3+f 4:=λf=>rfl;obtain⟨⟨d,i⟩,⟨g,h⟩,⟨a20,j⟩,⟨n,l⟩,c,a41⟩:=ajp;have z:=D.k 0 ω;have E:=D.k 1 ω;obtain⟨y,A,m⟩:=D.v;have o:=a y A;rw[<-m,b,t,u,B,C,s]at o;rw[b,d,g,a20,n,c,r]at z;rw[b,i,h,j,l,a41,p]at E;have a:=(D.q 0 ω).2;have a:=(D.q 1 ω).2;have a:=(D.q 2 ω).2;have a:=(D.q 3 ω).2;have a:=(D.q 4 ω).2;have e:Y2 0 1 (NT 5 w [] 1) (MO 5 w) φ [0] 0=(w 0-w 1)+ -0:=rfl;rw[e];grind
theorem aqT:oT=some true:=by
 obtain⟨φ,c⟩:=anf;obtain⟨⟨d,e⟩,m,b⟩:=MR c aqQ ayg ξ ξ VA Y CA Y;rcases b with⟨_,h⟩|⟨c,x,w,g,l,k,j,f,b,i⟩
 ·exact absurd aqR (h _)
 dsimp only at c g b;subst c;obtain⟨l,i⟩:=aeu k j f;have c:=nS (a:=3) ξ;have f24:=nS (a:=24) ξ;have f:d.qA=[qi 3]:=by
  rw[b];show[qn (Y2 0 1 (NT 5 w [] 1) (MO 5 w) φ [0] 0)]=_;rw[i];rfl
 have i:d.gz=qi 24:=by
  rw[g];show qn (GO 2 (gn VA) x)=_;rw[l];rfl
 have g:ji (qi 3) (qi 3)=some true:=(c.2.eq c.2 ω).trans (congrArg some (decide_eq_true Y));have b:ji (qi 24) (qi 24)=some true:=(f24.2.eq f24.2 ω).trans (congrArg some (decide_eq_true Y));have j:bV d.qA 0=some (qi 3):=by rw[f];rfl
 have k:d.qA.length=1:=by rw[f];rfl
 have f:ji ⟨⟨d.gz.num.neg,d.gz.num.w⟩,⟨d.gz.den.neg,d.gz.den.w⟩⟩ (qi 24)=some true:=by
  show ji d.gz (qi 24)=_;rw[i];exact b
 unfold oT bU;refine az ahb<|az (az m Y)<|az ahf<|az (a:=true) Y<|az (a:=true) ?_<|az (a:=true) (cm Y<|az j<|az c.1<|az g Y)<|az (a:=true) (cm Y<|az f24.1<|az f Y)<|az (a:=true) Y<|az (a:=true) Y<|az (a:=true) Y<|az (a:=true) Y Y;exact cm Y<|az Y<|az (congrArg some (decide_eq_true (by rw[k];rfl))) Y
theorem aev(h:Hr){H I:Nat}{D:Int}(g1:H<256)(K: -32768<=D/\D<=32767):iD h H I D=some true:=aha aqT h g1 K
theorem Y8{p:Prop}(H:Hr)(K I:Nat)(D:Int)(_:p)(h1:K<256)(_:I<256)(h3: -32768<=D/\D<=32767):iD H K I D=some true:=aev H h1 h3
end
section
open Go.Fw Go.RowKit Go.ChangeShapes Go.WideShapes Go.ChangeAt
set_option linter.unusedVariables false
set_option maxRecDepth 100000 in
theorem CQ(H:Type)(enc:TypeId×Value->H)(W:World)(I:Nat)(args:Array Value)(K gs:List (DataW H))(D:List MemPlace)
  (hval:∀(j:Nat) t v,Tryz.f3.params[j]? =some t->args[j]? =some v->Value.okWide ah W .any I t v)
  (hW:DataW.Whole enc ah Tryz.f3.params.toList Rows.topMarginalSpec.vars false W args.toList K gs D):
  Calls ah 3 args W λe s=>∃v,e=.returned v/\Rows.topMarginalSpec.post enc ah Tryz.f3 false true false false W args v s:=by
 have n:=hW;obtain⟨p,q,b,d,rfl,c,a⟩:=hW;have a:DataW.TrodAll enc ah W 0 (λ_=>true) true Tryz.f3.params.toList args.toList K p:=b;rw[Tryz.params3]at a hval;obtain⟨v0,vs0,f,c,p0,q0,hargs,rfl,rfl,g,r0⟩:=trodAll_cons a;obtain⟨v1,vs1,c,a,p1,q1,rfl,rfl,rfl,o,r1⟩:=trodAll_cons r0;obtain⟨v2,vs2,c,a,p2,q2,rfl,rfl,rfl,k,r2⟩:=trodAll_cons r1;obtain⟨v3,vs3,c,a,p3,q3,rfl,rfl,rfl,f,r3⟩:=trodAll_cons r2;obtain⟨rfl,rfl,rfl⟩:=trodAll_nil r3;obtain rfl:args=#[v0,v1,v2,v3]:=by cases args;simp_all
 obtain⟨rfl,rfl⟩:=trodVars_none d;have d:∀x∈p0,x.block<W.heap.size:=by obtain⟨m,a⟩:=g;exact DataW.trod_lt m _ _ _ a
 obtain⟨x0,ok0,sz0,c⟩:=afp (P:=ah) (T:=30) (e:=eHr) (hval 0 30 v0 Y Y) g;have i:∀x∈p1,x.block<W.heap.size:=by obtain⟨m,a⟩:=o;exact DataW.trod_lt m _ _ _ a
 obtain⟨x1,ok1,sz1,r⟩:=Px (P:=ah) (T:=5) (e:=eU8) (hval 1 5 v1 Y Y) o;have lt2:∀x∈p2,x.block<W.heap.size:=by obtain⟨m,a⟩:=k;exact DataW.trod_lt m _ _ _ a
 obtain⟨x2,ok2,sz2,l⟩:=Px (P:=ah) (T:=5) (e:=eU8) (hval 2 5 v2 Y Y) k;have lt3:∀x∈p3,x.block<W.heap.size:=by obtain⟨m,a⟩:=f;exact DataW.trod_lt m _ _ _ a
 obtain⟨x3,ok3,sz3,a⟩:=Px (P:=ah) (T:=31) (e:=anR) (hval 3 31 v3 Y Y) f;clear b;refine(afq (EY (Y8 x0 x1 x2 x3 ok0 ok1 ok2 ok3)) (W:=W) (vs:=[v0,v1,v2,v3]) ⟨c,r.1,l.1,a.1,an⟩).mono λe s ⟨b,a⟩=>?_;subst b;exact⟨_,rfl,_,_,_,[],_,[],n,trodAll_mk1 (shut_bool Tryz.underlying4 _),(trodAll_cons_mk (Below.trod Ft ψ (of_decide_eq_true ψ) g a d) (trodAll_cons_mk (Below.trod Ft ψ (of_decide_eq_true ψ) o a i) (trodAll_cons_mk (Below.trod Ft ψ (of_decide_eq_true ψ) k a lt2) (trodAll_cons_mk (Below.trod Ft ψ (of_decide_eq_true ψ) f a lt3) trodAll_mk0)))),rfl,a.frame _,λh=>by cases h⟩
set_option maxRecDepth 100000 in
theorem Fg(os:Os)(D:os.Started)(H:Type)(enc:TypeId×Value->H):
  ReturnsInHanded {} Tryz.checked os 3 .any (Rows.topMarginalSpec.pre6 enc ah Tryz.f3 Rows.topMarginalRow.domain false) (Rows.topMarginalSpec.post enc ah Tryz.f3 false true false false):=by
 refine returnsInHanded_of_change (C:=Tryz.checked) asL D ψ Tryz.func3
  (ChangeSpec.witness6 (enc:=enc) (C:=Tryz.checked) false ⟨#[],#[.agg #[.int .i64 0,.slice none 0 0,.slice none 0 0,.slice none 0 0,.slice none 0 0,.slice none 0 0],.int .u8 0,.int .u8 0,.int .i16 0],[]⟩ 8 ψ ψ ψ ψ) ?_
 intro W c args d e a b f _ _;exact CQ H enc W c args d e a b f
theorem topMarginal_holds:Rows.TopMarginalSaid:=
 OpenClaim.holds_of_wide 3 Tryz.f3 Y Y Y Y Y Y Y ⟨Y,Y,Y,Y,Y⟩ Y Y Y Y Y ψ Tryz.func3 ψ
  (of_decide_eq_true ψ) (by unfold Func.isWrapper;first|(rw[if_pos (by decide+kernel)];kernel_rfl)|(rw[if_neg (by decide+kernel)];exact⟨Y,Y⟩))
  (λos a H enc _=>Fg os a H enc)
end
end Go.Proofs.YtianbhacbgnboaaGreat
