/- A part of the proof: the framework, the plain functions, the followed functions, the plain laws. -/
import Derived.Test.YtianbhacbgnboaaGreatPTZ1
set_option linter.unusedVariables false
set_option linter.unusedSimpArgs false
set_option linter.unusedSectionVars false
set_option maxHeartbeats 4000000
namespace Go.Fw
section
open Go.RowKit
def gg(f:FuncId)(bs cs:List SV):SV:=⟨λM v=>∃us vs:List Value,v=.func (.func f) ⟨us⟩ ⟨vs⟩/\SV.jN M bs us/\SV.jN M cs vs,λa ⟨us,vs,e,h,b⟩=>⟨us,vs,e,h.mono a,b.mono a⟩⟩
instance{f:FuncId}{bs cs:List SV}:One (gg f bs cs):=⟨λ_ _ h=>by obtain⟨us,vs,rfl,_⟩:=h;rfl⟩
theorem AV.BE{σ:Nat->Nat}{f:FuncId}{b c:List SV}:AV.le σ (.fn f (b.map AV.sv) (c.map AV.sv)) (.sv (gg f b c)):=λ_ _ ⟨us,vs,e,h,a⟩=>⟨us,vs,e,h.Bq,a.Bq⟩
theorem ahB{f:FuncId}:SV.imp (.v (.func (.func f) #[] #[])) (gg f [] []):=λ_ _ h=>⟨[],[],h,an,an⟩
inductive Zb (S:AS):Operand->FuncId->List AV->List AV->Prop
 |k {g:Operand} {f:FuncId} (h:S.ev g=.sv (.v (.func (.func f) #[] #[]))):Zb S g f [] []
 |fn {g:Operand} {f:FuncId} {b c:List AV} (h:S.ev g=.fn f b c):Zb S g f b c
 |clo {g:Operand} {f:FuncId} {b c:List SV} (h:S.ev g=.sv (gg f b c)):Zb S g f (b.map AV.sv) (c.map AV.sv)
class NoM (s:SV):Prop where
 h:∀M M' v,s.h M v->s.h M' v
instance{x:Value}:NoM (.v x):=⟨λ_ _ _ h=>h⟩
open Classical in
noncomputable def Fp(S:AS)(E:Env)(w:World):Mem:=λb o=>match E.M b o with
 |some v=>some v
 |none=>if ∃i ob t,S.o i=some ob/\ob.kM E i t b then(w.cell? ⟨b,o,none⟩).bind λv=>if v.oneCell'=true then some v else none else none
inductive Rm (S:AS):List AV->List SV->List Nat->Prop
 |nil:Rm S [] [] []
 |sv {s:SV} {xs:List AV} {ss:List SV} {ks:List Nat} (t:Rm S xs ss ks):Rm S (.sv s::xs) (s::ss) ks
 |row {i:Nat} {T:TypeId} {n:Nat} {α:Type} {e:α->List SV} [el:EL e n] {l:List α} {xs:List AV} {ss:List SV} {ks:List Nat} (h:S.o i=some (TR T n e l)) (t:Rm S xs ss ks):Rm S (.ob i::xs) (slc n (l.map e)::ss) (i::ks)
 |vF {i:Nat} {T U:TypeId} {n:Nat} {α:Type} {e:α->List SV} [el:EL e n] {ll:List (List α)} {lk:Bool} {xs:List AV} {ss:List SV} {ks:List Nat} (h:S.o i=some (TM U T n e ll [] lk)) (t:Rm S xs ss ks):Rm S (.ob i::xs) (slc 1 (ll.map (eS n e))::ss) (i::ks)
 |sub {i k:Nat} {T U:TypeId} {n:Nat} {α:Type} {e:α->List SV} [el:EL e n] {ll:List (List α)} {l:List α} {xs:List AV} {ss:List SV} {ks:List Nat} (h:S.o i=some (TM U T n e ll [] false)) (hl:ll[k]? =some l) (t:Rm S xs ss ks):Rm S (.sub i k::xs) (slc n (l.map e)::ss) (i::ks)
 |ptr {i o:Nat} {T:TypeId} {cs xs:List AV} {us ss:List SV} {k1 k2:List Nat} [ou:RC us] (h:S.o i=some (.box T cs)) (u:Rm S cs us k1) (t:Rm S xs ss k2):Rm S (.ptr i o::xs) (ref (us.drop o)::ss) (i::(k1++k2))
theorem Rm.congr{S S':AS}{xs:List AV}{ss:List SV}{D:List Nat}(h:Rm S xs ss D)(e:∀i∈D,S'.o i=S.o i):Rm S' xs ss D:=by
 induction h with
 |nil=>exact .nil
 |sv _ b=>exact .sv (b e)
 |row h _ b=>exact .row ((e _ η).trans h) (b λi a=>e i (List.mem_cons_of_mem _ a))
 |vF h _ b=>exact .vF ((e _ η).trans h) (b λi a=>e i (List.mem_cons_of_mem _ a))
 |sub h hl _ b=>exact .sub ((e _ η).trans h) hl (b λi a=>e i (List.mem_cons_of_mem _ a))
 |ptr h _ _ c b=>exact .ptr ((e _ η).trans h) (c λi a=>e i (List.mem_cons_of_mem _ (List.mem_append_left _ a))) (b λi a=>e i (List.mem_cons_of_mem _ (List.mem_append_right _ a)))
section
variable {C:Ctx}{S:AS}{E:Env}{a:Act}{w:World}
theorem Wy:E.M.le (Fp S E w):=λb o v e=>by simp only[Fp,e]
theorem afd(h:bw C S E a w):(Fp S E w).kf w:=λb o v e=>by
 unfold Fp at e;cases c:E.M b o with
 |some u=>rw[c]at e;cases e;exact h.kf b o _ c
 |none=>
  rw[c]at e;simp only at e;split at e
  ·cases c:w.cell? ⟨b,o,none⟩with
   |none=>rw[c]at e;cases e
   |some u=>
    rw[c]at e;simp only[Option.bind_some]at e;split at e
    ·cases e;exact .of c (by assumption)
    cases e
  cases e
theorem Pq(h:bw C S E a w){i:Nat}{ob:Ob}{t:Option Nat}{b:Nat}(D:S.o i=some ob)(H:ob.kM E i t b){o:Nat}{v:Value}(I:w.cell? ⟨b,o,none⟩=some v)(K:v.oneCell'=true):Fp S E w b o=some v:=by
 simp only[Fp,(h.mine i ob t b D H).2.1 o,I,Option.bind_some,K,if_true];rw[if_pos ⟨i,ob,t,D,H⟩]
theorem Ku(h:bw C S E a w){i:Nat}{ob:Ob}{t:Option Nat}(K:S.o i=some ob){v:Value}(I:∀g,blk v=some g->ob.kM E i t g){T:TypeId}{n:Nat}{α:Type}{e:α->List SV}[el:EL e n]{l:List α}{vs:List Value}(H:w.ownsRow 0 T n v l.length vs)(D:SV.jN E.M (l.flatMap e) vs):(slc n (l.map e)).h (Fp S E w) v:=by
 rcases H.2 with⟨c,b⟩|⟨g,m,k,c,_,j,d,p,q,f⟩
 ·rw[c];exact .inl ⟨none,Y,by rw[List.length_eq_zero_iff.1 b];rfl⟩
 have b:maxLen=9223372036854775807:=by decide
 rw[c];refine T6 (D.mono Wy) (λo u b=>?_) d ω;refine Pq h K (I g (by rw[c];rfl)) ?_ (CT l _ vs D u (List.mem_of_getElem? b));rw[<-f,List.getElem?_take]at b;split at b
 ·simpa[World.cell?,j]using b
 cases b
theorem Rm.all(h:bw C S E a w){xs:List AV}{ss:List SV}{D:List Nat}(hl:Rm S xs ss D):∀{vs:List Value},jc E xs vs->SV.jN (Fp S E w) ss vs:=by
 induction hl with
 |nil=>intro vs b;cases vs with|nil=>trivial|cons _ _=>exact b.elim
 | @sv s _ _ _ _ p=>intro vs b;cases vs with|nil=>exact b.elim|cons v vs=>exact⟨s.mono Wy b.1,p b.2⟩
 |row d _ p=>
  intro vs b;cases vs with
  |nil=>exact b.elim
  |cons v vs=>
   refine⟨?_,p b.2⟩;have f:v=E.ν _:=b.1;obtain⟨us,m,r⟩:=h.ob _ _ d;rw[f];exact Ku h (t:=none) d (λg u=>u) m r
 | @vF i T U n α e D ll c _ _ _ d _ p=>
  intro vs b;cases vs with
  |nil=>exact b.elim
  |cons v vs=>
   refine⟨?_,p b.2⟩;have f:v=E.ν i:=b.1;rw[f];obtain⟨⟨us,m,r⟩,_,B⟩:=h.ob _ _ d;rw[List.length_map]at m r;have rows:∀k l,ll[k]? =some l->(slc n (l.map e)).h (Fp S E w) (E.rv c i k):=λk l hl=>by
    obtain⟨ws,z,A⟩:=B k _ _ (vL hl) η;exact Ku h (t:=some k) d (λg u=>⟨⟨⟨_,vL hl⟩,by simp⟩,u⟩) z A
   rcases m.2 with⟨q1,q2⟩|⟨g,q,c,q1,_,q3,q4,q5,q6,q7⟩
   ·rw[q1];exact .inl ⟨none,Y,by rw[List.length_eq_zero_iff.1 q2];rfl⟩
   have c:maxLen=9223372036854775807:=by decide
   rw[q1];refine .inr ⟨g,0,q,by rw[List.length_map],by rw[List.length_map];exact q4,by rw[List.length_map];omega,λk row c=>?_⟩;rw[List.getElem?_map]at c;cases hl:ll[k]? with
   |none=>rw[hl]at c;cases c
   |some l=>
    rw[hl]at c;cases c;refine⟨Y,λj s q=>?_⟩;have:j=0:=by
     cases j with
     |zero=>rfl
     |succ j=>simp at q
    subst this;simp at q;subst q;have hr:=rows k l hl;have c:=One.h (s:=slc n (l.map e)) _ _ hr;refine⟨_,Pq h d (t:=none) (by show blk (E.ν i)=some g;rw[q1];rfl) ?_ c,c,hr⟩;have x:=r k (List.getElem?_eq_some_iff.1 hl).1;rw[<-q7,List.getElem?_take]at x;split at x
    ·simpa[World.cell?,q3]using x
    cases x
 | @sub i k T U n α e D ll l _ _ _ d hl _ p=>
  intro vs b;cases vs with
  |nil=>exact b.elim
  |cons v vs=>
   refine⟨?_,p b.2⟩;have f:v=E.ρ i k:=b.1;rw[f];obtain⟨ws,z,A⟩:=(h.ob _ _ d).2.2 k _ _ (vL hl) η;exact Ku h (t:=some k) d (λg u=>⟨⟨⟨_,vL hl⟩,by simp⟩,u⟩) z A
 | @ptr i o T cs xs us ss p p x d _ _ u p=>
  intro vs b;cases vs with
  |nil=>exact b.elim
  |cons v vs=>
   refine⟨?_,p b.2⟩;obtain⟨g,vs',m,r,B⟩:=h.ob i _ d;obtain⟨z,f,p⟩:=b.1;rw[m]at f;cases f;have b:=u B;refine⟨g,o,p,λj s q=>?_⟩;rw[List.getElem?_drop]at q;obtain⟨y,p,f⟩:=b.get q;have c:=x.h _ _ b y (List.mem_of_getElem? p);exact⟨y,Pq h d (t:=none) (by show blk (E.ν i)=some g;rw[m];rfl) (by simp[World.cell?,r,p]) c,c,f⟩
end
theorem jc.app{E:Env}:∀{l b:List AV} {xs a:List Value},jc E l xs->jc E b a->jc E (l++b) (xs++a)
 |[],_,[],_,_,h=>h
 |_::_,_,_::_,_,h,a=>⟨h.1,jc.app h.2 a⟩
 |[],_,_::_,_,h,_=>h.elim
 |_::_,_,[],_,h,_=>h.elim
section steps
variable {P:Program}{C:Ctx}{ops:Array Oper}{S:AS}{nd:Bool}{K:List Ac->AS->Prop}{rest:List Oper}{acc:List Ac}
variable {gd:Option (Nat×Bool)}{rg:List Nat}{d:Nat}{dst:Option Nat}{ty:TypeId}{pos:String}{aft:Array Edge}{x y z g:Operand}{T U E0:TypeId}{R β:Type}{r:R}{at_:Array TypeId}{xs:Array Operand}{f:FuncId}{b c:List AV}
theorem tX{S':AS}{E:Env}{a:Act}{w:World}(h:bw C S' E a w):∀{xs:List Operand},(∀s∈xs.flatMap bD,S'.t s=S.t s)->jc E (xs.map S.ev) (xs.map a.eval)
 |[],_=>trivial
 |x::xs,ht=>by
  have b:=h.ev x;rw[tR (λt h=>List.mem_flatMap.2 ⟨x,by simp,h⟩) ht]at b;refine⟨b,tX (xs:=xs) h (λt h=>ht t ?_)⟩;rw[List.flatMap_cons];exact List.mem_append_right _ h
theorem Zb.enter(D:Zb S g f b c)[H:cE P f]{S':AS}{E:Env}{a:Act}{w:World}(h:bw C S' E a w)(ht:∀s∈bD g++xs.toList.flatMap bD,S'.t s=S.t s):∃vs,(execOp a.eval ⟨dst,.call ⟨.value g,xs,at_⟩,ty,pos,aft,gd⟩).run P w=.ok (.enter f ⟨vs⟩) w/\jc E (b++(xs.toList.map S.ev++c)) vs:=by
 have d:=h.ev g;rw[tR (λ_ h=>List.mem_append_left _ h) ht]at d;have m:=tX h (S:=S) (xs:=xs.toList) (λs i=>ht s (List.mem_append_right _ i));have i:∀us vs:List Value,a.eval g=.func (.func f) ⟨us⟩ ⟨vs⟩->(execOp a.eval ⟨dst,.call ⟨.value g,xs,at_⟩,ty,pos,aft,gd⟩).run P w=.ok (.enter f ⟨us++(xs.toList.map a.eval++vs)⟩) w:=λus vs j=>by
  have n:(⟨us⟩++xs.map a.eval)++⟨vs⟩=(⟨us++(xs.toList.map a.eval++vs)⟩:Array Value):=by apply Array.ext';simp
  have l:=cE.run (P:=P) (f:=f) ((⟨us⟩++xs.map a.eval)++⟨vs⟩) w;rw[<-n];simp[execOp,resolve,j,Deferred.ofValue,invoke]at l⊢;exact l
 cases D with
 |k j=>rw[j]at d;exact⟨_,i [] [] d,by simpa using jc.app m (show jc E [] []from trivial)⟩
 |fn j=>rw[j]at d;obtain⟨us,vs,e,l,n⟩:=d;exact⟨_,i us vs e,jc.app l (jc.app m n)⟩
 |clo j=>rw[j]at d;obtain⟨us,vs,e,l,n⟩:=d;exact⟨_,i us vs e,jc.app (jc.IA l) (jc.app m (jc.IA n))⟩
theorem ajx{bs:Array Operand}(D:Nx P C ops nd K rest acc S (rg++(bs.toList.flatMap bD++xs.toList.flatMap bD)) [] ⟨some (d,.fn f (bs.toList.map S.ev) (xs.toList.map S.ev)),[]⟩)(H:Gd ops S gd rg:=by first|exact .none|exact .some Y Y)(I:d<S.n:=by exact tl Y):RunT P C ops nd K (⟨some d,.makeFunc (.func f) bs xs,ty,pos,aft,gd⟩::rest) acc S:=
 aeY H _ [] _ I ζ (λS' ht _ E a w h=>by
  have c:=tX h (S:=S) (xs:=bs.toList) (λs b=>ht s (List.mem_append_left _ b));have e:=tX h (S:=S) (xs:=xs.toList) (λs b=>ht s (List.mem_append_right _ b));refine⟨.func (.func f) ⟨bs.toList.map a.eval⟩ ⟨xs.toList.map a.eval⟩,?_,⟨_,_,Y,c,e⟩,λj hj=>?_⟩
  ·have c:∀xs:Array Operand,xs.map a.eval=⟨xs.toList.map a.eval⟩:=λxs=>by apply Array.ext';simp
   simp[execOp,Instr.makeFunc,c]
  have c:∀l:List Operand,(∀s∈l.flatMap bD,S'.t s=S.t s)->j∈uS (l.map S.ev)->S'.o j≠none:=λl hl g=>by
   obtain⟨x,i,e⟩:=Br g;obtain⟨o,g,rfl⟩:=List.mem_map.1 i;have:=h.evl o;rw[tR (rs:=l.flatMap bD) (λt ht=>List.mem_flatMap.2 ⟨o,g,ht⟩) hl]at this;exact this j e
  rcases List.mem_append.1 hj with hj|hj
  ·exact c _ (λs b=>ht s (List.mem_append_left _ b)) hj
  exact c _ (λs b=>ht s (List.mem_append_right _ b)) hj) D
theorem anr{m:Option β}{args0 args:List SV}{res:β->SV}{k:β->Option R}[en:cE P f](I:yG args0 args)(h:Option.bind m k=some r)(hp:∀y,m=some y->Pure P f args (res y))(D:∀y,k y=some r->Nx P C ops nd K rest acc S (rg++(bD g++xs.toList.flatMap bD)) [] ⟨some (d,.sv (res y)),[]⟩)(hf:Zb S g f b c:=by first|exact .k rfl|exact .fn rfl|exact .clo Y)(hargs:b++(xs.toList.map S.ev++c)=args0.map AV.sv:=by exact rfl)(H:Gd ops S gd rg:=by first|exact .none|exact .some Y Y)(hd:d<S.n:=by exact tl Y):RunT P C ops nd K (⟨some d,.call ⟨.value g,xs,at_⟩,ty,pos,aft,gd⟩::rest) acc S:=by
 obtain⟨y,o,h⟩:=bind_some h;refine .inl ⟨_,[],_,?_,D y h⟩;rintro S' j ht _ i a w L Q j ⟨E,h⟩ q;refine cW (C:=C) j (H.wanted h (λs j=>ht s (List.mem_append_left _ j)) Y) ?_;obtain⟨vs,hr,l⟩:=hf.enter (P:=P) (xs:=xs) (dst:=some d) (at_:=at_) (ty:=ty) (pos:=pos) (aft:=aft) (gd:=gd) h (λs j=>ht s (List.mem_append_right _ j));rw[hargs]at l;refine cZ (C:=C) ζ hr ?_;refine⟨λh=>by simp at h,yE ((hp y o E.M w _ h.kf (I.holds l.Bq)).mono ?_)⟩;rintro e w' ⟨v,M',rfl,p,j,o,l,t⟩;exact q _ _ ⟨_,(h.grow p j o t).put (x:=.sv (res y)) l (by show d<S'.n;omega) rz⟩
theorem aE{m:Option β}{args:List SV}{res:β->SV}{k:β->Option R}[en:cE P f](h:Option.bind m k=some r)(hp:∀y,m=some y->Pure P f args (res y))(D:∀y,k y=some r->Nx P C ops nd K rest acc S (rg++(bD g++xs.toList.flatMap bD)) [] ⟨some (d,.sv (res y)),[]⟩)(I:Zb S g f b c:=by first|exact .k rfl|exact .fn rfl|exact .clo Y)(hargs:b++(xs.toList.map S.ev++c)=args.map AV.sv:=by exact rfl)(hg:Gd ops S gd rg:=by first|exact .none|exact .some Y Y)(H:d<S.n:=by exact tl Y):RunT P C ops nd K (⟨some d,.call ⟨.value g,xs,at_⟩,ty,pos,aft,gd⟩::rest) acc S:=
 anr (yG.refl args) h hp D I hargs hg H
theorem ajC{m:Option β}{args:List SV}{H:List Nat}{res:β->SV}{k:β->Option R}[en:cE P f][nm:∀y,NoM (res y)](h:Option.bind m k=some r)(hp:∀y,m=some y->Pure P f args (res y))(D:∀y,k y=some r->Nx P C ops nd K rest acc S (rg++(bD g++xs.toList.flatMap bD)) H ⟨some (d,.sv (res y)),[]⟩)(hl:Rm S (b++(xs.toList.map S.ev++c)) args H)(hf:Zb S g f b c:=by first|exact .k rfl|exact .fn rfl|exact .clo Y)(I:Gd ops S gd rg:=by first|exact .none|exact .some Y Y)(hd:d<S.n:=by exact tl Y):RunT P C ops nd K (⟨some d,.call ⟨.value g,xs,at_⟩,ty,pos,aft,gd⟩::rest) acc S:=by
 obtain⟨y,q,h⟩:=bind_some h;refine .inl ⟨_,H,_,?_,D y h⟩;rintro S' j ht p i a w L Q j ⟨E,h⟩ t;refine cW (C:=C) j (I.wanted h (λs l=>ht s (List.mem_append_left _ l)) Y) ?_;obtain⟨vs,hr,j⟩:=hf.enter (P:=P) (xs:=xs) (dst:=some d) (at_:=at_) (ty:=ty) (pos:=pos) (aft:=aft) (gd:=gd) h (λs l=>ht s (List.mem_append_right _ l));refine cZ (C:=C) ζ hr ?_;refine⟨λh=>by simp at h,yE ((hp y q _ w _ (afd h) ((hl.congr p).all h j)).mono ?_)⟩;rintro e w' ⟨v,M',rfl,u,l,q,j,p⟩;have l:{E with M:=E.M}=E:=rfl;exact t _ _ ⟨_,(h.grow (M':=E.M) (Mem.le_refl _) (λ_ _ _ e=>.inl e) (iG h.kf λb ⟨o,v,e⟩=>p.block b (qw h.kf e)) p).put (x:=.sv (res y)) ((nm y).h _ _ _ j) (by show d<S'.n;omega) rz⟩
end steps
end
section
open Go.RowKit
def Pr(τ:Nat->Nat)(pre post:List (Nat×Ob)):List (Nat×Ob):=(pre.map λp=>(τ p.1,Ob.dead))++post.map λp=>(τ p.1,p.2.uC τ)
def N6:List (Nat×Ob)->Bool
 |[]=>true
 |(i,_)::l=>(ve l i).isNone&&N6 l
def Ps(τ:Nat->Nat)(l:List (Nat×Ob)):Bool:=l.all λp=>l.all λq=>!(Nat.beq (τ p.1) (τ q.1))||Nat.beq p.1 q.1
theorem Wz{τ:Nat->Nat}{l:List (Nat×Ob)}(h:Ps τ l=true){p q:Nat×Ob}(hp:p∈l)(D:q∈l)(e:τ p.1=τ q.1):p.1=q.1:=by
 have:=List.all_eq_true.1 (List.all_eq_true.1 h p hp) q D;simp only[Bool.or_eq_true,Bool.not_eq_true']at this;rcases this with q|q
 ·rw[e]at q;simp at q
 exact Nat.eq_of_beq_eq_true q
theorem N7:∀{l:List (Nat×Ob)} {i:Nat} {x:Ob},cB l i=some (some x)->(i,x)∈l
 |[],_,_,h=>by cases h
 |(k,y)::l,i,x,h=>by
  rw[cB]at h;cases e:cB l i with
  |some z=>rw[e]at h;cases h;exact List.mem_cons_of_mem _ (N7 e)
  |none=>
   rw[e]at h;by_cases q:i=k
   ·subst q;simp at h;subst h;simp
   simp[q]at h
theorem Kv:∀{l:List (Nat×Ob)} {i:Nat} {x:Ob},N6 l=true->(i,x)∈l->ve l i=some x
 |(k,y)::l,i,x,h,a=>by
  simp only[N6,Bool.and_eq_true]at h;rcases List.mem_cons.1 a with e|a
  ·cases e;simp[ve]
  have b:=Kv h.2 a;have:i≠k:=by rintro rfl;rw[b]at h;simp at h
  simp only[ve,sX this,cond_false];exact b
def Pu(τ:Nat->Nat):List AV->List AV->Prop
 |[],[]=>True
 |x::l,y::a=>AV.le τ x y/\Pu τ l a
 |_,_=>False
theorem Pu.holds{τ:Nat->Nat}{E:Env}:∀{l a:List AV} {vs:List Value},Pu τ l a->jc E l vs->jc (E.uC τ) a vs
 |[],[],[],_,_=>trivial
 |_::_,_::_,_::_,h,a=>⟨h.1 _ _ a.1,Pu.holds h.2 a.2⟩
 |[],[],_::_,_,a=>a.elim
 |_::_,_::_,[],_,a=>a.elim
 |[],_::_,_,h,_=>h.elim
 |_::_,[],_,h,_=>h.elim
theorem Pu.vH{τ:Nat->Nat}:∀{l a:List AV},l=yC τ a->Pu τ l a
 |[],[],_=>trivial
 |_::_,_::_,h=>by rw[yC]at h;cases h;exact⟨AV.Bu rfl,Pu.vH rfl⟩
 |[],_::_,h=>by cases h
 |_::_,[],h=>by cases h
def D3(C:Ctx)(S:AS)(τ:Nat->Nat)(pre post:List (Nat×Ob)):Bool:=post.all λp=>(ve pre p.1).isSome||((S.o (τ p.1)).isNone&& !(C.qZ (τ p.1)))
section
variable {C:Ctx}{S:AS}{E:Env}{a:Act}{w w':World}
theorem AV.Fq{os:List (Nat×Ob)}{x:AV}(h:Kj os x=true){j:Nat}(hj:j∈x.refs):∃ob,ve os j=some ob:=Option.isSome_iff_exists.1 (List.all_eq_true.1 h j hj)
mutual
theorem AV.Kw(σ:Nat->Nat):∀(x:AV),(x.uC σ).refs=x.refs.map σ
 |.sv _=>rfl
 |.ob _=>rfl
 |.ptr _ _=>rfl
 |.sl _ _ _=>rfl
 |.sub _ _=>rfl
 |.Bp _ _ _=>rfl
 |.agg l=>yL σ l
 |.lK l=>yL σ l
 |.fn f b c=>by simp only[AV.uC,AV.refs,yL σ b,yL σ c,List.map_append]
theorem yL(σ:Nat->Nat):∀(l:List AV),uS (yC σ l)=(uS l).map σ
 |[]=>rfl
 |x::l=>by simp only[yC,uS,AV.Kw σ x,yL σ l,List.map_append]
end
theorem Ob.afe(σ:Nat->Nat)(ob:Ob):(ob.uC σ).IB=yC σ ob.IB:=by
 cases ob<;>try rfl
 rename_i T U sz rs f a;show(f.map λp=>(p.1,σ p.2)).map (λp=>AV.ob p.2)=yC σ (f.map λp=>.ob p.2)
 induction f with
 |nil=>rfl
 |cons p f a=>simp only[List.map_cons,yC,a];rfl
theorem RZ{σ:Nat->Nat}{x:AV}:∀{l:List AV},x∈yC σ l->∃y∈l,x=y.uC σ
 |y::l,h=>by
  rcases List.mem_cons.1 h with rfl|h
  ·exact⟨y,by simp,Y⟩
  obtain⟨z,a,e⟩:=RZ h;exact⟨z,List.mem_cons_of_mem _ a,e⟩
theorem bw.call(h:bw C S E a w)(τ:Nat->Nat){pre post:List (Nat×Ob)}{res:AV}{v:Value}{D:Env}(hpre:Rz τ S pre)(H:N6 post=true)(K:Ps τ (pre++post)=true)(hfr:D3 C S τ pre post=true)(I:(Kj post res&&post.all λp=>p.2.IB.all (Kj post))=true)
  (hM:E.M.le D.M) (hnew:∀b o x,D.M b o=some x->E.M b o=some x\/w.heap.size<=b\/bl (E.uC τ) pre b) (hin:D.M.kf w') (aso:∀i,(ve pre i).isSome=true->D.ν i=E.ν (τ i)/\D.ρ i=E.ρ (τ i)) (hres:res.holds D v) (yK:T8 D w' post) (CS:∀b,bl D post b->bl (E.uC τ) pre b\/w.heap.size<=b)
  (hos:w'.os=w.os) (htp:w'.tape=w.tape) (hout:w'.output=w.output) (hsz:w.heap.size<=w'.heap.size) (hs:∀k,k<w.heap.size->¬bl (E.uC τ) pre k->w'.heap[k]? =w.heap[k]?):
  ∃E',bw C (AS.ia (Pr τ pre post) S) E' a w'/\(res.uC τ).holds E' v/\(AS.ia (Pr τ pre post) S).lG (res.uC τ):=by
 rw[Bool.and_eq_true]at I
 let s:Nat->Option Nat:=λj=>(post.find? λp=>Nat.beq (τ p.1) j).map (·.1)
 have R:∀j i,s j=some i->τ i=j/\∃ob,ve post i=some ob:=λj i d=>by
  obtain⟨p,hp,rfl⟩:=Option.map_eq_some_iff.1 d;have Q:=List.find?_some hp;exact⟨Nat.eq_of_beq_eq_true Q,p.2,Kv H (List.mem_of_find?_eq_some hp)⟩
 have c:∀i ob,ve post i=some ob->s (τ i)=some i:=λi ob d=>by
  cases e:s (τ i)with
  |none=>
   have:=List.find?_eq_none.1 (Option.map_eq_none_iff.1 e) (i,ob) (kG d);simp at this
  |some X=>
   obtain⟨Q,iU,z⟩:=R _ _ e;have:=Wz K (p:=(X,iU)) (q:=(i,ob)) (List.mem_append_right _ (kG z)) (List.mem_append_right _ (kG d)) Q;rw[show X=i from this]
 let E':Env:={E with ν:=λj=>match s j with|some i=>D.ν i|none=>E.ν j,ρ:=λj=>match s j with|some i=>D.ρ i|none=>E.ρ j,κ:=λj=>match s j with|some i=>D.κ i|none=>E.κ j,M:=D.M}
 have K:∀i ob,ve post i=some ob->E'.ν (τ i)=D.ν i/\E'.ρ (τ i)=D.ρ i/\E'.κ (τ i)=D.κ i:=λi ob d=>by
  refine⟨?_,?_,?_⟩<;>simp only[E',c i ob d]
 have A:∀i ob,ve pre i=some ob->∃y,S.o (τ i)=some y/\Ob.le τ y ob:=λi ob d=>hpre.mem (i,ob) (kG d);have W:∀j,S.o j≠none\/C.qZ j=true->E'.ν j=E.ν j/\E'.ρ j=E.ρ j:=λj hj=>by
  cases e:s j with
  |none=>exact⟨by simp only[E',e],by simp only[E',e]⟩
  |some i=>
   obtain⟨rfl,ob,z⟩:=R _ _ e;rw[(K i ob z).1,(K i ob z).2.1];have c:=List.all_eq_true.1 hfr (i,ob) (kG z);simp only[Bool.or_eq_true,Bool.and_eq_true,Bool.not_eq_true']at c;rcases c with c|⟨c,r⟩
   ·exact aso i c
   rcases hj with hj|hj
   ·exact absurd (Option.isNone_iff_eq_none.1 c) hj
   rw[hj]at r;cases r
 have P:∀b,bl (E.uC τ) pre b->∃j∈pre.map (λp=>τ p.1),∃ob t,S.o j=some ob/\ob.kM E j t b:=λb ⟨i,ob,t,d,c⟩=>by
  obtain⟨y,Q,z⟩:=A i ob d;exact⟨τ i,List.mem_map.2 ⟨(i,ob),kG d,Y⟩,y,t,Q,(z E w i).2 t b c⟩
 have N:∀j ob,cB (Pr τ pre post) j=some (some ob)->(∃i r,ve post i=some r/\j=τ i/\ob=r.uC τ)\/ob=.dead:=λj ob hj=>by
  rcases List.mem_append.1 (N7 hj)with F|F
  ·obtain⟨p,hp,e⟩:=List.mem_map.1 F;cases e;exact .inr rfl
  obtain⟨p,hp,e⟩:=List.mem_map.1 F;cases e;exact .inl ⟨p.1,p.2,Kv H hp,rfl,rfl⟩
 have H:∀i r,ve post i=some r->(r.ok D w' i->(r.uC τ).ok E' w' (τ i))/\∀t g,(r.uC τ).kM E' (τ i) t g->r.kM D i t g:=λi r d=>by
  have L:∀l:List AV,l.all (Kj post)=true->∀vs,jc D l vs->jc E' (yC τ l) vs:=λl hl vs G=>(jc.uC l vs).2 (jc.congr (E:=D) (E':=E'.uC τ) (Mem.le_refl _) l (λj hj=>by
   obtain⟨x,V,B⟩:=Br hj;obtain⟨ob,A⟩:=AV.Fq (List.all_eq_true.1 hl x V) B;exact⟨(K j ob A).1,(K j ob A).2.1⟩) vs G)
  have G:=List.all_eq_true.1 I.2 (i,r) (kG d);obtain⟨B,e2,J⟩:=K i r d;have rv:∀Z k,E'.rv Z (τ i) k=D.rv Z i k:=λZ k=>by simp only[Env.rv,e2,J]
  cases r with
  |dead=>exact⟨λ_=>trivial,λ_ _ h=>h.elim⟩
  |box T cs=>exact⟨λ⟨g,vs,O,J,q3⟩=>⟨g,vs,B.trans O,J,L cs G vs q3⟩,λt g c=>by
    cases t with
    |none=>have c:blk _=some g:=c;rw[B]at c;exact c
    |some _=>exact c.elim⟩
  |row T sz n cs=>exact⟨λ⟨vs,O,J⟩=>⟨vs,by rw[B];exact O,J⟩,λt g c=>by
    cases t with
    |none=>have c:blk _=some g:=c;rw[B]at c;exact c
    |some _=>exact c.elim⟩
  |arr T cs=>exact⟨λ⟨vs,O,J⟩=>⟨vs,by
    have hl:(yC τ cs).length=cs.length:=by rw[(L cs G vs J).length,J.length]
    rw[B,hl];exact O,L cs G vs J⟩,λt g c=>by
    cases t with
    |none=>have c:blk _=some g:=c;rw[B]at c;exact c
    |some _=>exact c.elim⟩
  |vF T U sz rs f Z=>
   have ef:(f.map λp=>(p.1,τ p.2)).map (·.1)=f.map (·.1):=by simp
   refine⟨λ⟨⟨us,O,J⟩,q3,q4⟩=>⟨⟨us,by rw[B];exact O,λk L=>by rw[rv];exact J k L⟩,λp hp=>?_,λk n cs L Z=>?_⟩,λt g c=>?_⟩
   ·obtain⟨J,O,rfl⟩:=List.mem_map.1 hp;rw[rv,q3 J O];obtain⟨ob,A⟩:=AV.Fq (List.all_eq_true.1 G (.ob J.2) (List.mem_map.2 ⟨J,O,Y⟩)) (j:=J.2) (by simp[AV.refs]);exact(K J.2 ob A).1.symm
   ·obtain⟨vs,J,G⟩:=q4 k n cs L (by rw[ef]at Z;exact Z);exact⟨vs,by rw[rv];exact J,G⟩
   cases t with
   |none=>have c:blk _=some g:=c;rw[B]at c;exact c
   |some k=>
    obtain⟨⟨O,J⟩,G⟩:=c;rw[rv]at G;rw[ef]at J;exact⟨⟨O,J⟩,G⟩
 have J:∀j∈res.refs,(∃ob,ve post j=some ob):=λj hj=>AV.Fq I.1 hj;have R1:∀i ob,ve post i=some ob->(AS.ia (Pr τ pre post) S).o (τ i)≠none:=λi ob d=>by
  rw[vb];have F:(τ i,ob.uC τ)∈Pr τ pre post:=List.mem_append_right _ (List.mem_map.2 ⟨(i,ob),kG d,Y⟩);obtain⟨y,G⟩:=BA F;rw[G];simp
 refine⟨E',h.trO (Pr τ pre post) (pre.map λp=>τ p.1) (λj hj=>?_) Y hM (λb o x e=>?_) hin W (λj h0 hj=>?_) (λk L hX=>hs k L (λhb=>?_)) hos htp hout hsz (λj ob hj=>?_) (λj ob t j' iU u g hj O c Z=>?_),?_,λj hj=>?_⟩
 ·obtain⟨p,hp,rfl⟩:=List.mem_map.1 hj;exact⟨.dead,List.mem_append_left _ (List.mem_map.2 ⟨p,hp,Y⟩)⟩
 ·rcases hnew b o x e with q|q|q
  ·exact .inl q
  ·exact .inr (.inl q)
  exact .inr (.inr (P b q))
 ·cases e:s j with
  |none=>simp only[E',e]
  |some i=>
   obtain⟨rfl,ob,z⟩:=R _ _ e;obtain⟨y,G⟩:=BA (obs:=Pr τ pre post) (i:=τ i) (ob:=ob.uC τ) (List.mem_append_right _ (List.mem_map.2 ⟨(i,ob),kG z,Y⟩));rw[hj]at G;cases G
 ·obtain⟨j,hj,ob,t,Q,z⟩:=P k hb;exact hX j hj ob t Q z
 ·rcases N j ob hj with⟨i,r,d,rfl,rfl⟩|rfl
  ·refine⟨(H i r d).1 (yK.ob i r d),λx V k L=>?_,λt g c=>?_⟩
   ·rw[Ob.afe]at V;obtain⟨y,G,rfl⟩:=RZ V;rw[AV.Kw]at L;obtain⟨m,F,rfl⟩:=List.mem_map.1 L;obtain⟨ob,A⟩:=AV.Fq (List.all_eq_true.1 (List.all_eq_true.1 I.2 (i,r) (kG d)) y G) F;exact R1 m ob A
   have s:=(H i r d).2 t g c;refine⟨?_,λo=>yK.no i r t g d s o⟩;rcases CS g ⟨i,r,t,d,s⟩with q|q
   ·exact .inl (P g q)
   exact .inr q
  exact⟨an,λ_ V=>(by cases V),λ_ _ c=>c.elim⟩
 ·rcases N j ob hj with⟨i,r,d,rfl,rfl⟩|rfl
  ·rcases N j' iU O with⟨X,s,z,rfl,rfl⟩|rfl
   ·obtain⟨B,e2⟩:=yK.inj i r t X s u g d z ((H i r d).2 t g c) ((H X s z).2 u g Z);exact⟨by rw[B],e2⟩
   exact Z.elim
  exact c.elim
 ·refine(AV.GQ res v).2 (AV.jl (E:=D) (E':=E'.uC τ) (Mem.le_refl _) res (λj hj=>?_) v hres);obtain⟨ob,A⟩:=J j hj;exact⟨(K j ob A).1,(K j ob A).2.1⟩
 rw[AV.Kw]at hj;obtain⟨m,F,rfl⟩:=List.mem_map.1 hj;obtain⟨ob,A⟩:=J m F;exact R1 m ob A
theorem aff(h:bw C S E a w){τ:Nat->Nat}{pre:List (Nat×Ob)}(D:Rz τ S pre)(H:Ps τ pre=true):T8 (E.uC τ) w pre:=by
 have f:∀i ob,ve pre i=some ob->∃y,S.o (τ i)=some y/\Ob.le τ y ob:=λi ob b=>D.mem (i,ob) (kG b);refine⟨λi ob b=>?_,λi ob t g b k=>?_,λi ob t j l u g b hj k r=>?_⟩
 ·obtain⟨y,c,d⟩:=f i ob b;exact(d E w i).1 (h.ob _ y c)
 ·obtain⟨y,c,d⟩:=f i ob b;exact(h.mine _ y t g c ((d E w i).2 t g k)).2.1
 obtain⟨y,c,d⟩:=f i ob b;obtain⟨m,n,s⟩:=f j l hj;obtain⟨e,f⟩:=h.inj _ y t _ m u g c n ((d E w i).2 t g k) ((s E w j).2 u g r);exact⟨Wz H (p:=(i,ob)) (q:=(j,l)) (kG b) (kG hj) e,f⟩
theorem Rz.congr{τ:Nat->Nat}{S S':AS}:∀{l:List (Nat×Ob)},Rz τ S l->(∀p∈l,S'.o (τ p.1)=S.o (τ p.1))->Rz τ S' l
 |[],_,_=>trivial
 |p::l,⟨⟨y,b,a⟩,h⟩,e=>⟨⟨y,(e p η).trans b,a⟩,Rz.congr h λq c=>e q (List.mem_cons_of_mem _ c)⟩
theorem D3.congr{τ:Nat->Nat}{S S':AS}{pre post:List (Nat×Ob)}(h:D3 C S τ pre post=true)(e:∀p∈post,S'.o (τ p.1)=S.o (τ p.1)):D3 C S' τ pre post=true:=by
 refine List.all_eq_true.2 λp hp=>?_;rw[e p hp];exact List.all_eq_true.1 h p hp
theorem Ps.left{τ:Nat->Nat}{l D:List (Nat×Ob)}(h:Ps τ (l++D)=true):Ps τ l=true:=List.all_eq_true.2 λp hp=>List.all_eq_true.2 λq a=>List.all_eq_true.1 (List.all_eq_true.1 h p (List.mem_append_left _ hp)) q (List.mem_append_left _ a)
end
def nms(τ:Nat->Nat)(pre post:List (Nat×Ob)):List Nat:=(pre++post).map λp=>τ p.1
section steps
variable {P:Program}{C:Ctx}{ops:Array Oper}{S:AS}{nd:Bool}{K:List Ac->AS->Prop}{rest:List Oper}{acc:List Ac}
variable {gd:Option (Nat×Bool)}{rg:List Nat}{d:Nat}{dst:Option Nat}{ty:TypeId}{pos:String}{aft:Array Edge}{x y z g:Operand}{T U E0:TypeId}{R β:Type}{r:R}{at_:Array TypeId}{xs:Array Operand}{f:FuncId}{b c:List AV}
theorem aeF(τ:List (Nat×Nat)){m:Option β}{args:List AV}{pre:List (Nat×Ob)}{res:β->AV}{post:β->List (Nat×Ob)}{k:β->Option R}[H:cE P f](h:Option.bind m k=some r)(hp:∀y,m=some y->FC P f args pre (res y) (post y))(D:∀y,k y=some r->Nx P C ops nd K rest acc S (rg++(bD g++xs.toList.flatMap bD)) (nms (Bo τ) pre (post y)) ⟨some (d,(res y).uC (Bo τ)),Pr (Bo τ) pre (post y)⟩)
  (hpre:Rz (Bo τ) S pre:=by exact .vH Y) (hf:Zb S g f b c:=by first|exact .k rfl|exact .fn rfl|exact .clo Y) (hargs:Pu (Bo τ) (b++(xs.toList.map S.ev++c)) args:=by exact .vH Y) (hn:∀y,N6 (post y)=true:=by intro _;exact rfl) (hi:∀y,Ps (Bo τ) (pre++post y)=true:=by intro _;exact rfl) (hfr:∀y,D3 C S (Bo τ) pre (post y)=true:=by intro _;exact rfl)
  (hwf:∀y,(Kj (post y) (res y)&&(post y).all λp=>p.2.IB.all (Kj (post y)))=true:=by intro _;exact rfl) (hg:Gd ops S gd rg:=by first|exact .none|exact .some Y Y) (hd:d<S.n:=by exact tl Y):RunT P C ops nd K (⟨some d,.call ⟨.value g,xs,at_⟩,ty,pos,aft,gd⟩::rest) acc S:=by
 obtain⟨y,q,h⟩:=bind_some h;refine .inl ⟨_,nms (Bo τ) pre (post y),_,?_,D y h⟩;rintro S' j ht j i a w L Q l ⟨E,h⟩ H;refine cW (C:=C) l (hg.wanted h (λs l=>ht s (List.mem_append_left _ l)) Y) ?_;obtain⟨vs,hr,o⟩:=hf.enter (P:=P) (xs:=xs) (dst:=some d) (at_:=at_) (ty:=ty) (pos:=pos) (aft:=aft) (gd:=gd) h (λs l=>ht s (List.mem_append_right _ l));refine cZ (C:=C) ζ hr ?_;have t:Rz (Bo τ) S' pre:=hpre.congr λp hp=>j _ (List.mem_map.2 ⟨p,List.mem_append_left _ hp,Y⟩);have l:=D3.congr (S':=S') (hfr y) λp hp=>j _ (List.mem_map.2 ⟨p,List.mem_append_right _ hp,Y⟩);refine⟨λh=>by simp at h,yE ((hp y q (E.uC (Bo τ)) w _ h.kf (aff h t (Ps.left (hi y))) (hargs.holds o)).mono ?_)⟩;rintro e w' ⟨v,x,rfl,z,J,G,I,N,M,u,D,F,q,j,o⟩;obtain⟨E',x,B,A⟩:=h.call (Bo τ) t (hn y) (hi y) l (hwf y) z J G I N M u D F q j o;exact H _ _ ⟨E',x.put B (by rw[(va _ _).1];show d<S'.n;omega) A⟩
end steps
end
section
open Go.RowKit
abbrev JT:=Nat->Bool->(Nat->Prop)->Mem->World->Prop
structure ajR (O:Nat->Prop) (M:Mem) (w:World) (O':Nat->Prop) (M':Mem) (w':World):Prop where
 le:M.le M'
 kf:M'.kf w'
 new:∀b o v,M' b o=some v->M b o=some v\/w.heap.size<=b\/O b
 oo:∀b,O' b->(O b\/w.heap.size<=b)/\b<w'.heap.size/\∀o,M' b o=none
 same:∀k,k<w.heap.size->¬O k->w'.heap[k]? =w.heap[k]?
 os:w'.os=w.os
 tape:w'.tape=w.tape
 output:w'.output=w.output
 size:w.heap.size<=w'.heap.size
def Kx(w0:World)(J:JT):Prop:=
 ∀(g:Nat) (h:Bool) (O:Nat->Prop) (M M':Mem) (w w':World),J g h O M w->M.le M'->M'.kf w'->(∀b o v,M' b o=some v->M b o=some v\/(w0.heap.size<=b/\¬O b))->
  (∀b,b<w0.heap.size\/O b->w'.heap[b]? =w.heap[b]?)->w'.os=w.os->w'.tape=w.tape->w'.output=w.output->w.heap.size<=w'.heap.size->J g h O M' w'
def Ub(P:Program)(l:Nat)(J:JT)(n:Nat)(xs:Nat->List SV)(M0:Mem):Prop:=
 ∀(k:Nat) (O:Nat->Prop) (M:Mem) (w:World) (args:List Value),k<n->J k true O M w->M0.le M->M.kf w->SV.jN M (xs k) args->
  YieldAt (Fr none) 0 P l ⟨args⟩ w λe w'=>∃b a M',e=.returned (.bool b)/\J (k+1) b a M' w'/\ajR O M w a M' w'
def Iter(P:Program)(f:FuncId)(D:List SV)(n:Nat)(xs:Nat->List SV):Prop:=
 ∀(J:JT) (O:Nat->Prop) (M:Mem) (w:World) (l:Nat) (a:List Value),M.kf w->SV.jN M D a->Kx w J->Ub P l J n xs M->(∀b,O b->b<w.heap.size/\∀o,M b o=none)->J 0 true O M w->
  Calls P f ⟨.func (.yield l) #[] #[]::a⟩ w λe w'=>∃v g b a M',e=.returned v/\J g b a M' w'/\(b=true->g=n)
theorem X8{w0:World}{J:JT}(K:Kx w0 J)(g:Nat)(h:Bool)(O:Nat->Prop)(M M':Mem)(w w':World)(j:J g h O M w)(H:M.le M')(D:M'.kf w')(I:∀b o v,M' b o=some v->M b o=some v\/((w0.heap.size<=b\/False)/\¬O b))
  (hs:∀b,(b<w0.heap.size/\¬False)\/O b->w'.heap[b]? =w.heap[b]?) (h1:w'.os=w.os) (h2:w'.tape=w.tape) (h3:w'.output=w.output) (h4:w.heap.size<=w'.heap.size):J g h O M' w':=
 K g h O M M' w w' j H D (λb o v e=>(I b o v e).imp id (λ⟨a,c⟩=>⟨a.elim id (λx=>x.elim),c⟩)) (λb d=>hs b (d.imp (λx=>⟨x,λy=>y⟩) id)) h1 h2 h3 h4
def aoe(w:World)(M:Mem)(O:Nat->Prop)(J:JT)(D:Kx w J):Ctx:={w0:=w,M0:=M,own:=O,MU:=λ_=>False,qZ:=λ_=>false,ν0:=λ_=>undef,ρ0:=λ_ _=>undef,ro:=none,J:=J,hbo:=λ_ h=>h.elim,jf:=X8 D}
theorem vM{P:Program}{f:FuncId}{fn:Func}{H:Code}{D:List SV}{n:Nat}{xs:Nat->List SV}(hf:P.funcs[f]? =some fn)(K:fn.body=some H)
  (h:∀(w:World) (M:Mem) (O:Nat->Prop) (l:Nat) (J:JT) (hJ:Kx w J),(∃I,SV.jN M D I)->Ub P l J n xs M->
   Ok P (aoe w M O J hJ) H (AS.bM fn.ntmps (ZY 0 ((.v (.func (.yield l) #[] #[])::D).map AV.sv)) []) (λe S=>(e=.normal\/e=.ret)/\(S.go=true->S.g=n))) (hres:fn.results=#[]:=by exact rfl) (hn:Nat.ble (D.length+1) fn.ntmps=true:=by exact rfl):Iter P f D n xs:=by
 intro J O M w l I q p hJ hr o r;have c:SV.jN M (.v (.func (.yield l) #[] #[])::D) (.func (.yield l) #[] #[]::I):=⟨Y,p⟩;have hl:=c.length;have d:bw (aoe w M O J hJ) (AS.bM fn.ntmps (ZY 0 ((.v (.func (.yield l) #[] #[])::D).map AV.sv)) []) ⟨λ_=>undef,λ_ _=>undef,λ_ _=>undef,O,M⟩ {tmps:=⟨.func (.yield l) #[] #[]::I⟩++Array.replicate (fn.ntmps-(⟨.func (.yield l) #[] #[]::I⟩:Array Value).size) undef,defers:=[]} w:=by
  have k:∀l:List SV,(l.map AV.sv).all (Kj [])=true:=λl=>by
   induction l with
   |nil=>rfl
   |cons x l m=>simp only[List.map_cons,List.all_cons,m,Bool.and_true];rfl
  have m:=D2 (n:=fn.ntmps) (pre:=[]) (E:=⟨λ_=>undef,λ_ _=>undef,λ_ _=>undef,O,M⟩) q ⟨λ_ _ e=>(by cases e),λ_ _ _ _ e=>(by cases e),λ_ _ _ _ _ _ _ e=>(by cases e)⟩ (jc.IA c) (by have:=af hn;simpa using this) (by rw[k];rfl);exact{m with tm:=λs=>AV.jl (E:=⟨λ_=>undef,λ_ _=>undef,λ_ _=>undef,λ_=>False,M⟩) (E':=⟨λ_=>undef,λ_ _=>undef,λ_ _=>undef,O,M⟩) (Mem.le_refl _) _ (λ_ _=>⟨rfl,rfl⟩) _ (m.tm s),marks:=⟨[],rfl,List.nodup_nil,by simp⟩,frame:=λ_ _ _=>rfl,Be:=λ_ _ _ e=>.inl e,ob:=λi B e=>(by cases e),mine:=λi R t g e=>(by cases e),inj:=λi ob t j c u g e=>(by cases e),qZ:=λi e=>(by cases e),GK:=λb K=>⟨(o b K).1,(o b K).2,.inl K⟩,jj:=r}
 refine BD Y hf K d (h w M O l J hJ ⟨I,p⟩ hr) ?_;rintro S' E a w' c d;refine⟨.tuple #[],?_,.tuple #[],S'.g,S'.go,E.O,E.M,Y,d.jj,c⟩;simp[results,hres]
section steps
variable {P:Program}{C:Ctx}{ops:Array Oper}{S:AS}{nd:Bool}{K:List Ac->AS->Prop}{rest:List Oper}{acc:List Ac}
variable {gd:Option (Nat×Bool)}{rg:List Nat}{d:Nat}{ty:TypeId}{pos:String}{aft:Array Edge}{x y z:Operand}{T U E0:TypeId}
theorem bw.swap{E:Env}{a:Act}{w w':World}(h:bw C S E a w){H:Nat->Prop}{M':Mem}(D:ajR E.O E.M w H M' w')(I:∀k,¬C.MU k){g:Nat}{go:Bool}(hj:C.J g go H M' w'):
  bw C {S with g:=g,go:=go} {E with O:=H,M:=M'} a w':=by
 have none:∀b,b<w.heap.size->¬E.O b->(∀o,E.M b o=none)->∀o,M' b o=none:=λb d f l o=>by
  cases e:M' b o with
  |none=>rfl
  |some v=>
   rcases D.new _ _ _ e with c|c|c
   ·rw[l o]at c;cases c
   ·omega
   exact absurd c f
 have p:∀b,b<w.heap.size->¬E.O b->¬H b:=λb d f m=>by
  rcases(D.oo b m).1 with e|e
  ·exact f e
  omega
 exact{
  wf:=⟨h.wf.t,h.wf.o⟩
  marks:=by
   obtain⟨d,n,l,m⟩:=h.marks;refine⟨d,n,l,λr hr=>?_⟩;obtain⟨y,x,q⟩:=m r hr;have d:=(Array.getElem?_eq_some_iff.1 q).1;exact⟨y,p r d x,by rw[D.same r d x];exact q⟩
  size:=h.size
  os:=D.os.trans h.os
  tape:=D.tape.trans h.tape
  output:=D.output.trans h.output
  grown:=Nat.le_trans h.grown D.size
  frame:=λk q d=>by
   rw[D.same k (by have:=h.grown;omega) (λf=>by
    rcases(h.GK k f).2.2 with e|e
    ·exact d e
    omega)]
   exact h.frame k q d
  m0:=Mem.le_trans h.m0 D.le
  Be:=λb o v e=>by
   rcases D.new b o v e with c|c|c
   ·exact h.Be b o v c
   ·exact .inr (.inl (Nat.le_trans h.grown c))
   exact .inr ((h.GK b c).2.2.symm)
  kf:=D.kf
  tm:=λs=>AV.jl (E:=E) (E':={E with O:=H,M:=M'}) D.le _ (λ_ _=>⟨Y,Y⟩) _ (h.tm s)
  ob:=λi ob d=>Ob.rH (E:=E) (E':={E with O:=H,M:=M'}) (h.ob i ob d) D.le ⟨Y,Y,Y⟩ (λ_ _ _ _=>⟨Y,Y⟩) (λt g c=>D.same g (h.lt d c) (h.mine i ob t g d c).2.2)
  mine:=λi ob t g d c=>by
   have c:=(Ob.fF (E:=E) (E':={E with O:=H,M:=M'}) ⟨Y,Y,Y⟩).1 c;obtain⟨n,l,m⟩:=h.mine i ob t g d c;exact⟨n,none g (h.lt d c) m l,p g (h.lt d c) m⟩
  inj:=λi ob t j q u g d hj c p=>h.inj i ob t j q u g d hj ((Ob.fF (E:=E) (E':={E with O:=H,M:=M'}) ⟨Y,Y,Y⟩).1 c) ((Ob.fF (E:=E) (E':={E with O:=H,M:=M'}) ⟨Y,Y,Y⟩).1 p)
  qZ:=h.qZ
  GK:=λb f=>by
   obtain⟨n,l,m⟩:=D.oo b f;refine⟨l,m,?_⟩;rcases n with e|e
   ·exact(h.GK b e).2.2
   exact .inr (Nat.le_trans h.grown e)
  jj:=hj}
theorem ajG{l n:Nat}{xs:Nat->List SV}(hr:Ub P l C.J n xs C.M0){g:Operand}{ys:Array Operand}{at_:Array TypeId}(k:Nat)(hlt:k<n){ss:List SV}(hxs:ss=xs k){R:AS->Prop}(next:∀b:Bool,RunT P C ops true (λ_ S=>R S) rest [] ((AS.mk S.n S.t S.o (k+1) b).set d (.sv (.v (.bool b)))))
  (hargs:ys.toList.map S.ev=ss.map AV.sv:=by exact rfl) (hf:S.ev g=.sv (.v (.func (.yield l) #[] #[])):=by exact rfl) (hk:S.g=k:=by exact rfl) (hgo:S.go=true:=by exact rfl) (hro:C.ro=none:=by exact rfl) (ajS:∀k,¬C.MU k:=by exact λ_ h=>h) (hg:Gd ops S gd rg:=by first|exact .none|exact .some Y Y) (hd:d<S.n:=by exact tl Y):RunT P C ops true (λ_ S=>R S) (⟨some d,.call ⟨.value g,ys,at_⟩,ty,pos,aft,gd⟩::rest) acc S:=by
 refine .inr ⟨Y,λS'=>∃b:Bool,S'=(AS.mk S.n S.t S.o (k+1) b).set d (.sv (.v (.bool b))),?_,?_⟩
 ·rintro i a w L Q ho ⟨E,h⟩ hL;refine cW (C:=C) ho (hg.wanted h (λ_ _=>rfl) rfl) ?_;have hgf:a.eval g=.func (.yield l) #[] #[]:=by have h1:=h.ev g;rw[hf]at h1;exact h1
  have hall:=tX h (S:=S) (xs:=ys.toList) (λ_ _=>rfl);rw[hargs,hxs]at hall;have hall:=hall.Bq;have hj:=h.jj;rw[hk,hgo]at hj;obtain⟨fn,tmps,assign,body,hy,ajT⟩:=hr k E.O E.M w _ hlt hj h.m0 h.kf hall;have e2:ys.map a.eval=⟨ys.toList.map a.eval⟩:=by apply Array.ext';simp
  have hrun:(execOp a.eval ⟨some d,.call ⟨.value g,ys,at_⟩,ty,pos,aft,gd⟩).run P w=.ok (.round l fn tmps assign body) w:=by
   rw[<-e2]at hy;simp[execOp,resolve,hgf,Deferred.ofValue,invoke,hy]
  refine cZ (C:=C) ζ hrun ?_;rw[hro];refine⟨λh=>by simp at h,RoundIn.mono ajT ?_⟩;rintro e w' ⟨b,O',M',rfl,hj',hs⟩;exact hL _ _ _ ⟨b,Y⟩ ⟨_,(h.swap hs ajS hj').put (x:=.sv (.v (.bool b))) Y hd rz⟩
 rintro S' ⟨b,rfl⟩;exact next b
end steps
end
section
open Go.RowKit
structure RD where
 W:World
 M:Mem
 MU:Nat->Prop
 ν:Nat->Value
 ρ:Nat->Nat->Value
 l:Nat
 o:Bool->Obj
theorem afg(D:RD)(h:Bool)(O:Nat->Prop)(w w':World)(j:O D.l/\w.heap[D.l]? =some (D.o h))(H:∀b,(b<D.W.heap.size/\¬D.MU b)\/O b->w'.heap[b]? =w.heap[b]?):O D.l/\w'.heap[D.l]? =some (D.o h):=
 ⟨j.1,by rw[H D.l (.inr j.1)];exact j.2⟩
def X9(D:List Nat)(p:Nat->Bool)(i:Nat):Bool:=D.any (Nat.beq i)||p i
def GY(C:Ctx)(D:RD)(H:List Nat):Ctx:={w0:=D.W,M0:=D.M,own:=λk=>D.MU k\/k=D.l,MU:=D.MU,qZ:=X9 H C.qZ,ν0:=D.ν,ρ0:=D.ρ,ro:=some D.l,J:=λ_ go O _ w=>O D.l/\w.heap[D.l]? =some (D.o go),hbo:=λ_ h=>.inl h,jf:=λ_ h O _ _ w w' j _ _ _ a _ _ _ _=>afg D h O w w' j a}
def Ud(C:Ctx)(ν:Nat->Value)(ρ:Nat->Nat->Value)(D:List Nat):Ctx:={w0:=C.w0,M0:=C.M0,own:=C.own,MU:=C.MU,qZ:=X9 D C.qZ,ν0:=ν,ρ0:=ρ,ro:=C.ro,J:=C.J,hbo:=C.hbo,jf:=C.jf}
theorem afh{D:List Nat}{i:Nat}:D.any (Nat.beq i)=true↔i∈D:=by
 rw[List.any_eq_true];exact⟨λ⟨x,b,a⟩=>by rw[Nat.eq_of_beq_eq_true a];exact b,λh=>⟨i,h,by simp⟩⟩
theorem WA{D:List Nat}{p:Nat->Bool}{i:Nat}(h:i∈D):X9 D p i=true:=by simp[X9,afh.2 h]
theorem R2{D:List Nat}{p:Nat->Bool}{i:Nat}(h:p i=true):X9 D p i=true:=by simp[X9,h]
theorem bw.pinned{C:Ctx}{S:AS}{E:Env}{a:Act}{w:World}(h:bw C S E a w)(D:List Nat):bw (Ud C E.ν E.ρ D) S E a w:={h with qZ:=λ_ _=>⟨Y,Y⟩}
theorem bw.Z1{C:Ctx}{S:AS}{E:Env}{a:Act}{w:World}{ν:Nat->Value}{ρ:Nat->Nat->Value}{H:List Nat}(h:bw (Ud C ν ρ H) S E a w)(D:∀i,C.qZ i=true->ν i=C.ν0 i/\ρ i=C.ρ0 i):bw C S E a w:=
 {h with qZ:=λi e=>⟨((h.qZ i (R2 e)).1).trans (D i e).1,((h.qZ i (R2 e)).2).trans (D i e).2⟩}
def Cl(S:AS)(E:Env)(k:Nat):Prop:=∃i ob t,S.o i=some ob/\ob.kM E i t k
theorem vN{C:Ctx}{S:AS}{E:Env}{a:Act}{w:World}(h:bw C S E a w){k:Nat}(D:Cl S E k):(C.w0.heap.size<=k\/C.MU k)/\(∀o,E.M k o=none)/\¬E.O k/\∃c e,w.heap[k]? =some (Obj.cells c e (0,0)):=by
 obtain⟨i,ob,t,d,b⟩:=D;obtain⟨f,j,g⟩:=h.mine i ob t k d b;exact⟨f,j,g,Ob.cells (h.ob i ob d) b⟩
def AT:List Nat->List SV->AS->AS
 |p::a,s::ss,S=>AT a ss (S.set p (.sv s))
 |_,_,S=>S
def AS.Z2(S:AS)(D:List Nat)(ss:List SV):AS:=AT D ss ⟨S.n,S.t,S.o,S.g,false⟩
def AS.Ky(S:AS):AS:=⟨S.n,S.t,S.o,S.g,true⟩
def RP(C:Ctx)(p:Prop)(H:List Nat)(T D:AS)(Q:Exit->AS->Prop):Exit->AS->Prop
 |.normal,S=>p/\S.go=true/\(H.all λi=>(S.o i).isSome)=true/\jx C (AS.mk T.n T.t S.o S.g true) D
 |.ret,S=>S.go=true/\(H.all λi=>(S.o i).isSome)=true/\Q .ret (AS.mk T.n T.t S.o S.g true)
 |.exit a,S=>S.go=true/\(H.all λi=>(S.o i).isSome)=true/\Q (.exit a) (AS.mk T.n T.t S.o S.g true)
 |_,_=>False
section
variable {C:Ctx}{S:AS}{E E':Env}{a:Act}{w w':World}
theorem bw.reO(h:bw C S E a w)(D:Nat->Prop)(hm:∃H:List Nat,a.defers=H.map rI/\H.Nodup/\∀r∈H,C.w0.heap.size<=r/\¬D r/\w.heap[r]? =some (.deferred (some [])))(K:∀i ob t g,S.o i=some ob->ob.kM E i t g->¬D g)(I:∀b,D b->b<w.heap.size/\(∀o,E.M b o=none)/\(C.own b\/C.w0.heap.size<=b))(hj:C.J S.g S.go D E.M w):bw C S {E with O:=D} a w:=
 {h with
  marks:=hm
  tm:=λs=>AV.jl (E:=E) (E':={E with O:=D}) (Mem.le_refl _) _ (λ_ _=>⟨Y,Y⟩) _ (h.tm s)
  ob:=λi ob d=>Ob.rH (E:=E) (E':={E with O:=D}) (h.ob i ob d) (Mem.le_refl _) ⟨rfl,rfl,rfl⟩ (λ_ _ _ _=>⟨rfl,rfl⟩) (λ_ _ _=>rfl)
  mine:=λi ob t g d c=>by
   have c:=(Ob.fF (E:=E) (E':={E with O:=D}) ⟨Y,Y,Y⟩).1 c;exact⟨(h.mine i ob t g d c).1,(h.mine i ob t g d c).2.1,K i ob t g d c⟩
  inj:=λi ob t j f u g d hj c e=>h.inj i ob t j f u g d hj ((Ob.fF (E:=E) (E':={E with O:=D}) ⟨Y,Y,Y⟩).1 c) ((Ob.fF (E:=E) (E':={E with O:=D}) ⟨Y,Y,Y⟩).1 e)
  GK:=I
  jj:=hj}
theorem bw.afi(h:bw C S E a w){l:Nat}{o:Obj}(H:E.O l)(D:C.w0.heap.size<=l\/C.own l){go:Bool}(hj:C.J S.g go E.O E.M (w.putObj l o)):
  bw C ⟨S.n,S.t,S.o,S.g,go⟩ E a (w.putObj l o):=by
 have c:∀k,k≠l->(w.putObj l o).heap[k]? =w.heap[k]? :=λk f=>World.putObj_heap_other f
 exact{h with
  wf:=⟨h.wf.t,h.wf.o⟩
  marks:=by
   obtain⟨d,j,p,m⟩:=h.marks;refine⟨d,j,p,λr hr=>?_⟩;obtain⟨j,d,p⟩:=m r hr;exact⟨j,d,by rw[c r (by rintro rfl;exact d H)];exact p⟩
  grown:=by rw[World.putObj_size];exact h.grown
  frame:=λk f d=>by
   rw[c k (by
    rintro rfl;rcases D with e|e
    ·omega
    exact d e)]
   exact h.frame k f d
  kf:=iG h.kf λb ⟨d,v,e⟩=>c b (by rintro rfl;rw[(h.GK _ H).2.1 d]at e;cases e)
  ob:=λi ob d=>Ob.rH (h.ob i ob d) (Mem.le_refl _) ⟨rfl,rfl,rfl⟩ (λ_ _ _ _=>⟨rfl,rfl⟩) (λt g f=>c g (by rintro rfl;exact(h.mine i ob t _ d f).2.2 H))
  GK:=λb c=>by rw[World.putObj_size];exact h.GK b c
  jj:=hj}
end
theorem II{C:Ctx}{E:Env}{w:World}:∀(a:List Nat) (ss:List SV) (S:AS) (vs:List Value) (tmps:Array Value),bw C S E ⟨tmps,[]⟩ w->SV.jN E.M ss vs->a.length=ss.length->(∀p∈a,p<S.n)->
  bw C (AT a ss S) E ⟨(a.zip vs).foldl (λt (p,v)=>t.setIfInBounds p v) tmps,[]⟩ w
 |[],[],S,[],tmps,h,_,_,_=>h
 |p::a,s::ss,S,v::vs,tmps,h,b,hl,hp=>by
  have c:=h.put (d:=p) (x:=.sv s) (v:=v) b.1 (hp p η) rz;exact II a ss _ vs _ c b.2 (by simpa using hl) (λq a=>hp q (List.mem_cons_of_mem _ a))
 |[],_::_,_,_,_,_,_,hl,_=>by simp at hl
 |_::_,[],_,_,_,_,_,hl,_=>by simp at hl
 |[],[],_,_::_,_,_,h,_,_=>h.elim
 |_::_,_::_,_,[],_,_,h,_,_=>h.elim
theorem bw.Ya{C:Ctx}{S:AS}{E:Env}{a:Act}{w:World}{ν:Nat->Value}{ρ:Nat->Nat->Value}{H:List Nat}(h:bw (Ud C ν ρ H) S E a w){l:Nat}{o:Bool->Obj}(hl:w.heap[l]? =some (o false))(D:∀b c e,o b≠ .cells c e (0,0))(I:∀K,E.M l K=none):
  bw (GY C ⟨w,E.M,Cl S E,ν,ρ,l,o⟩ H) ⟨S.n,S.t,S.o,S.g,false⟩ {E with O:=λb=>b=l} ⟨a.tmps,[]⟩ w where
 wf:=⟨h.wf.t,h.wf.o⟩
 marks:=⟨[],Y,List.nodup_nil,by simp⟩
 size:=h.size
 os:=rfl
 tape:=rfl
 output:=rfl
 grown:=Nat.le_refl _
 frame:=λ_ _ _=>rfl
 m0:=Mem.le_refl _
 Be:=λ_ _ _ e=>.inl e
 kf:=h.kf
 tm:=λs=>AV.jl (E:=E) (E':={E with O:=λb=>b=l}) (Mem.le_refl _) _ (λ_ _=>⟨Y,Y⟩) _ (h.tm s)
 ob:=λi ob f=>Ob.rH (E:=E) (E':={E with O:=λb=>b=l}) (h.ob i ob f) (Mem.le_refl _) ⟨rfl,rfl,rfl⟩ (λ_ _ _ _=>⟨rfl,rfl⟩) (λ_ _ _=>rfl)
 mine:=λi ob t g f d=>by
  have d:=(Ob.fF (E:=E) (E':={E with O:=λb=>b=l}) ⟨Y,Y,Y⟩).1 d;refine⟨.inr ⟨i,ob,t,f,d⟩,(h.mine i ob t g f d).2.1,?_⟩;intro e;have e:g=l:=e;obtain⟨c,T,q⟩:=Ob.cells (h.ob i ob f) d;rw[e,hl]at q;exact D _ _ _ (aob q)
 inj:=λi ob t j m u g f hj d k=>h.inj i ob t j m u g f hj ((Ob.fF (E:=E) (E':={E with O:=λb=>b=l}) ⟨Y,Y,Y⟩).1 d) ((Ob.fF (E:=E) (E':={E with O:=λb=>b=l}) ⟨Y,Y,Y⟩).1 k)
 qZ:=h.qZ
 GK:=λb e=>by
  obtain rfl:b=l:=e;exact⟨(Array.getElem?_eq_some_iff.1 hl).1,I,.inl (.inr Y)⟩
 jj:=⟨Y,hl⟩
theorem bw.aog{C:Ctx}{T H:AS}{E E2:Env}{a a2:Act}{W3:World}{D:RD}{I:List Nat}(K:bw (GY C D I) H E2 a2 W3)
  (hT:∀s,∀j∈(T.t s).refs,j∈I) (hpb:(I.all λi=>(H.o i).isSome)=true) (hn:a.tmps.size=T.n) (htm:∀s,(T.t s).holds E (a.tmps.getD s undef)) (hM:E.M.le E2.M) (hβ:∀i,i∈I->E.ν i=D.ν i/\E.ρ i=D.ρ i):
  bw (GY C D I) ⟨T.n,T.t,H.o,H.g,H.go⟩ E2 ⟨a.tmps,[]⟩ W3:=
 {K with
  wf:=⟨λs j hj=>by
    have:=List.all_eq_true.1 hpb j (hT s j hj);intro e;have e:H.o j=none:=e;rw[e]at this;exact absurd this η,K.wf.o⟩
  marks:=⟨[],Y,List.nodup_nil,by simp⟩
  size:=hn
  tm:=λs=>AV.jl hM _ (λj hj=>by
    have b:=hT s j hj;rw[(hβ j b).1,(hβ j b).2]
    exact K.qZ j (WA b)) _ (htm s)}
theorem bw.outOfRound{C:Ctx}{S S2:AS}{E D:Env}{a:Act}{w H:World}{ν:Nat->Value}{ρ:Nat->Nat->Value}{pb:List Nat}(hJ:∀g h O M w,C.J g h O M w)(h:bw (Ud C ν ρ pb) S E a w){l:Nat}{o:Bool->Obj}(K:C.w0.heap.size<=l)(Y9:∀r,a.defers≠[]->rI r∈a.defers->r≠l)
  (h2:bw (GY C ⟨w,E.M,Cl S E,ν,ρ,l,o⟩ pb) S2 D ⟨a.tmps,[]⟩ H) (I:Obj):
  bw (Ud C ν ρ pb) S2 {D with O:=λ_=>False} a (H.putObj l I):=by
 have p:D.O l:=h2.jj.1;have f:∀k,k≠l->(H.putObj l I).heap[k]? =H.heap[k]? :=λk n=>World.putObj_heap_other n;have MU:∀k,w.heap.size<=k\/Cl S E k->C.w0.heap.size<=k\/C.MU k:=λk n=>by
  rcases n with e|e
  ·exact .inl (Nat.le_trans h.grown e)
  exact(vN h e).1
 exact{
  wf:=h2.wf
  marks:=by
   obtain⟨d,m,q,x⟩:=h.marks;refine⟨d,m,q,λr hr=>?_⟩;obtain⟨y,_,q⟩:=x r hr;have d:rI r∈a.defers:=by rw[m];exact List.mem_map_of_mem hr
   refine⟨y,λh=>h,?_⟩;rw[f r (Y9 r (List.ne_nil_of_mem d) d),h2.frame r (Array.getElem?_eq_some_iff.1 q).1 (λe=>?_)]
   ·exact q
   rcases e with e|e
   ·obtain⟨_,_,_,c,x,m⟩:=vN h e;rw[q]at m;cases m
   exact Y9 r (List.ne_nil_of_mem d) d e
  size:=h2.size
  os:=h2.os.trans h.os
  tape:=h2.tape.trans h.tape
  output:=h2.output.trans h.output
  grown:=by rw[World.putObj_size];exact Nat.le_trans h.grown h2.grown
  frame:=λk n d=>by
   have q:k≠l:=by have:k<C.w0.heap.size:=n;omega
   have x:k<w.heap.size:=by have:C.w0.heap.size<=w.heap.size:=h.grown;have:k<C.w0.heap.size:=n;omega
   rw[f k q,h2.frame k x (λe=>?_)]
   ·exact h.frame k n d
   rcases e with e|e
   ·rcases(vN h e).1 with e|e
    ·have:k<C.w0.heap.size:=n;have:C.w0.heap.size<=k:=e;omega
    exact d (C.hbo _ e)
   exact q e
  m0:=Mem.le_trans h.m0 h2.m0
  Be:=λb o v e=>by
   rcases h2.Be b o v e with e|e|e
   ·exact h.Be b o v e
   ·exact .inr (.inl (Nat.le_trans h.grown e))
   rcases e with e|e
   ·rcases(vN h e).1 with e|e
    ·exact .inr (.inl e)
    exact .inr (.inr (C.hbo _ e))
   exact .inr (.inl (by rw[show b=l from e];exact K))
  kf:=iG h2.kf λb ⟨I,v,e⟩=>f b (by rintro rfl;rw[(h2.GK _ p).2.1 I]at e;cases e)
  tm:=λs=>AV.jl (E:=D) (E':={D with O:=λ_=>False}) (Mem.le_refl _) _ (λ_ _=>⟨Y,Y⟩) _ (h2.tm s)
  ob:=λi ob d=>Ob.rH (E:=D) (E':={D with O:=λ_=>False}) (h2.ob i ob d) (Mem.le_refl _) ⟨rfl,rfl,rfl⟩ (λ_ _ _ _=>⟨rfl,rfl⟩) (λt g m=>f g (by rintro rfl;exact(h2.mine i ob t _ d m).2.2 p))
  mine:=λi ob t g d m=>by
   have m:=(Ob.fF (E:=D) (E':={D with O:=λ_=>False}) ⟨Y,Y,Y⟩).1 m;obtain⟨f,n,_⟩:=h2.mine i ob t g d m;exact⟨MU _ f,n,λh=>h⟩
  inj:=λi ob t j n u g d hj m f=>h2.inj i ob t j n u g d hj ((Ob.fF (E:=D) (E':={D with O:=λ_=>False}) ⟨Y,Y,Y⟩).1 m) ((Ob.fF (E:=D) (E':={D with O:=λ_=>False}) ⟨Y,Y,Y⟩).1 f)
  qZ:=h2.qZ
  GK:=λb e=>e.elim
  jj:=hJ _ _ _ _ _}
def JL(C:Ctx)(ν:Nat->Value)(ρ:Nat->Nat->Value)(H:List Nat)(m:Nat)(I:Nat->AS)(Q:Exit->AS->Prop)(a0:Act)(l:Nat)(D:LoopState->Option Code->Loop):JT:=λg b O M w=>
 ∃E S',bw (Ud C ν ρ H) S' E a0 w/\E.M=M/\(∀k,¬E.O k)/\(∀k,O k↔k=l\/Cl S' E k)/\
  ((b=true/\g<=m/\S'=I g/\w.heap[l]? =some (.loop (D .ready none)))\/(b=false/\∃c,((c=.ret/\Q .ret S')\/∃a,c=.exit a/\Q (.exit a) S')/\w.heap[l]? =some (.loop (D .done (some c)))))
theorem Z3{C:Ctx}{ν:Nat->Value}{ρ:Nat->Nat->Value}{pb:List Nat}{m:Nat}{I:Nat->AS}{Q:Exit->AS->Prop}{a0:Act}{l:Nat}{D:LoopState->Option Code->Loop}{H:World}(hJ:∀g h O M w,C.J g h O M w)(K:∀r,rI r∈a0.defers->r<H.heap.size)(hW:C.w0.heap.size<=H.heap.size):Kx H (JL C ν ρ pb m I Q a0 l D):=by
 rintro g b O M M' w w' ⟨E,S',h,rfl,A,p,N⟩ q y B n F H G P;have none:∀b,O b->(∀o,E.M b o=none)->∀o,M' b o=none:=λb x f o=>by
  cases e:M' b o with
  |none=>rfl
  |some v=>
   rcases B _ _ _ e with a|a
   ·rw[f o]at a;cases a
   exact absurd x a.2
 have ob:∀i ob t g,S'.o i=some ob->ob.kM E i t g->O g:=λi ob t g d a=>(p _).2 (.inr ⟨i,ob,t,d,a⟩);refine⟨{E with M:=M'},S',?_,Y,A,p,?_⟩
 ·exact{h with
   marks:=by
    obtain⟨D,z,f,L⟩:=h.marks;refine⟨D,z,f,λr hr=>?_⟩;obtain⟨f,R,D⟩:=L r hr;exact⟨f,R,by rw[n r (.inl (K r (by rw[z];exact List.mem_map_of_mem hr)))];exact D⟩
   os:=F.trans h.os
   tape:=H.trans h.tape
   output:=G.trans h.output
   grown:=Nat.le_trans h.grown P
   frame:=λk z f=>by
    rw[n k (.inl (Nat.lt_of_lt_of_le z hW))];exact h.frame k z f
   m0:=Mem.le_trans h.m0 q
   Be:=λb o v e=>by
    rcases B b o v e with e|e
    ·exact h.Be b o v e
    exact .inr (.inl (Nat.le_trans hW e.1))
   kf:=y
   tm:=λs=>AV.jl (E:=E) (E':={E with M:=M'}) q _ (λ_ _=>⟨Y,Y⟩) _ (h.tm s)
   ob:=λi f d=>Ob.rH (E:=E) (E':={E with M:=M'}) (h.ob i f d) q ⟨Y,Y,Y⟩ (λ_ _ _ _=>⟨Y,Y⟩) (λt g a=>n g (.inr (ob i f t g d a)))
   mine:=λi f t g d a=>by
    have a:=(Ob.fF (E:=E) (E':={E with M:=M'}) ⟨Y,Y,Y⟩).1 a;obtain⟨q,z,y⟩:=h.mine i f t g d a;exact⟨q,none g (ob i f t g d a) z,y⟩
   inj:=λi ob t j f u g d hj a q=>h.inj i ob t j f u g d hj ((Ob.fF (E:=E) (E':={E with M:=M'}) ⟨Y,Y,Y⟩).1 a) ((Ob.fF (E:=E) (E':={E with M:=M'}) ⟨Y,Y,Y⟩).1 q)
   GK:=λb x=>absurd x (A b)
   jj:=hJ _ _ _ _ _}
 have hl:w'.heap[l]? =w.heap[l]? :=n l (.inr ((p l).2 (.inl Y)));rcases N with⟨f,a,d,n⟩|⟨f,c,a,d⟩
 ·exact .inl ⟨f,a,d,by rw[hl];exact n⟩
 exact .inr ⟨f,c,a,by rw[hl];exact d⟩
theorem Kz{r:Loop}(c:Array Value)(e:TypeId):(Obj.loop r)≠ .cells c e (0,0):=by intro h;cases h
theorem M7{P:Program}{C:Ctx}{S:AS}{Q:Exit->AS->Prop}{g:Operand}{ps:Array Tmp}{assign body:Code}{f:FuncId}[cE P f]{caps:List SV}{n:Nat}{xs:Nat->List SV}
  (hit:Iter P f caps n xs) (hJ:∀g h O M w,C.J g h O M w) (hro:C.ro=none) (I:Nat->AS) (pb:List Nat) (hg:(I 0).ev g=.sv (gg f [] caps)) (hI:∀k,(I k).n=(I 0).n/\(I k).t=(I 0).t)
  (hT:∀s,∀j∈((I 0).t s).refs,j∈pb) (hps:∀k,(xs k).length=ps.size) (ZE:∀p∈ps.toList,p<(I 0).n) (h0:jx C S (I 0))
  (m:Nat) (round:∀k,k<n->k<=m->∀D:RD,C.w0.heap.size<=D.W.heap.size->Ok P (GY C D pb) assign ((I k).Z2 ps.toList (xs k)) (aR (λS1=>S1.go=false/\Ok P (GY C D pb) body S1.Ky (RP (GY C D pb) (k+1<=m) pb (I 0) (I (k+1)) Q)) (λ_ _=>False)))
  (done:n<=m->Q .normal (I n)):Ok P C (.rangeFunc g ps assign body) S Q:=by
 intro a w hs;obtain⟨E',h1⟩:=h0 a w hs;obtain⟨bvs,u,Zc,hbv,asy⟩:(gg f [] caps).h E'.M (a.eval g):=by have:=h1.ev g;rw[hg]at this;exact this
 have hbn:bvs=[]:=by cases bvs with|nil=>rfl|cons _ _=>exact hbv.elim
 subst hbn;rw[hro];refine wpIn_rangeFunc ?_;intro fn _;obtain⟨rec,y⟩:∃rec:LoopState->Option Code->Loop,rec=λst pe=>{state:=st,pending:=pe,fn,tmps:=a.tmps,params:=ps,assign,body,defers:=w.heap.size}:=⟨_,Y⟩;obtain⟨d,hW1⟩:∃d,(w.alloc (.deferred (some []))).alloc (.loop (rec .ready none))=d:=⟨_,Y⟩;have Ue:d.heap[w.heap.size+1]? =some (.loop (rec .ready none)):=by
  rw[<-hW1];have:=World.alloc_heap_new (w.alloc (.deferred (some []))) (.loop (rec .ready none));rwa[World.size_alloc]at this
 have hK1:d.heap[w.heap.size]? =some (.deferred (some [])):=by
  rw[<-hW1];exact(Below.heap_alloc _ _ _ η).trans (World.alloc_heap_new w _)
 have x:Below w.heap.size w d:=by rw[<-hW1];exact(((Below.refl _ w).alloc (Nat.le_refl _) _).alloc η _)
 have hsz:d.heap.size=w.heap.size+2:=by rw[<-hW1];simp
 have h2:=h1.grow (M':=E'.M) (Mem.le_refl _) (λ_ _ _ e=>.inl e) (iG h1.kf λb ⟨o,v,e⟩=>x.block b (qw h1.kf e)) x;obtain⟨a0,ha0⟩:∃a0:Act,a0={a with defers:=rI w.heap.size::a.defers}:=⟨_,Y⟩;obtain⟨ds,d1,d2,d3⟩:=h1.marks;have dlt:∀r∈ds,r<w.heap.size:=λr hr=>(Array.getElem?_eq_some_iff.1 (d3 r hr).2.2).1;have WB:∀r r',rI r=rI r'->r=r':=λr r' e=>by
  have:=congrArg Deferred.target e;simpa[rI]using this
 have hmk:∀r,rI r∈a0.defers->r<w.heap.size+1:=λr hr=>by
  rw[ha0]at hr;rcases List.mem_cons.1 hr with e|e
  ·rw[WB _ _ e];omega
  rw[d1]at e;obtain⟨r',hr',e⟩:=List.mem_map.1 e;rw[<-WB _ _ e];have:=dlt r' hr';omega
 have h2':bw C (I 0) {E' with O:=λ_=>False} a d:=bw.reO (E:={E' with M:=E'.M}) h2 _ ⟨ds,d1,d2,λr hr=>⟨(d3 r hr).1,λh=>h,by rw[x.block r (dlt r hr)];exact(d3 r hr).2.2⟩⟩ (λ_ _ _ _ _ _ h=>h) (λb e=>e.elim) (hJ _ _ _ _ _);have h3:bw C (I 0) {E' with O:=λ_=>False} a0 d:=
  {h2' with
   marks:=by
    refine⟨w.heap.size::ds,by rw[ha0,List.map_cons,d1],List.nodup_cons.2 ⟨λhm=>by have:=dlt _ hm;omega,d2⟩,λr hr=>?_⟩;rcases List.mem_cons.1 hr with rfl|hr
    ·exact⟨h1.grown,λh=>h,hK1⟩
    exact⟨(d3 r hr).1,λh=>h,by rw[x.block r (dlt r hr)];exact(d3 r hr).2.2⟩
   size:=by rw[ha0];exact h2.size
   tm:=λs=>by rw[ha0];exact h2'.tm s}
 have ajU:∀i,C.qZ i=true->E'.ν i=C.ν0 i/\E'.ρ i=C.ρ0 i:=h1.qZ;have h4:=h3.pinned pb;have hl0:C.w0.heap.size<=w.heap.size+1:=Nat.le_succ_of_le h1.grown;refine⟨w.heap.size+1,[rI w.heap.size],d,{target:=.fn (.func f) ⟨u⟩,args:=#[.func (.yield (w.heap.size+1)) #[] #[]]},d,f,
  ⟨.func (.yield (w.heap.size+1)) #[] #[]::u⟩,d,?_,?_,λ_ _=>trivial,?_,λh=>by simp at h,?_⟩
 ·rw[<-hW1,y];exact run_enterLoop_outer _ _ _ _ _
 ·simp only[resolve,Zc];simp[Deferred.ofValue,Act.eval]
 ·have:=cE.run (P:=P) (f:=f) (#[.func (.yield (w.heap.size+1)) #[] #[]]++⟨u⟩) d;have e:(#[.func (.yield (w.heap.size+1)) #[] #[]]++⟨u⟩:Array Value)=⟨.func (.yield (w.heap.size+1)) #[] #[]::u⟩:=by apply Array.ext';simp
  rw[e]at this;simp[invoke,e,this]
 have ahC:E'.M.kf d:=h3.kf;refine yE ((hit (JL C E'.ν E'.ρ pb m I Q a0 (w.heap.size+1) rec) (λk=>k=w.heap.size+1\/Cl (I 0) {E' with O:=λ_=>False} k) E'.M d (w.heap.size+1) u ahC asy
  (Z3 hJ (λr hr=>by have:=hmk r hr;omega) (by have:=h3.grown;exact this)) ?_ ?_ ?_).mono ?_)
 ·
  rintro k O M W args hk ⟨E,S',h,rfl,hO,CS,hst⟩ _ hin hargs;rcases hst with⟨_,hkm,rfl,hl⟩|⟨e,_⟩
  case inr=>cases e
  have hlM:∀o,E.M (w.heap.size+1) o=none:=λo=>by
   cases e:E.M (w.heap.size+1) o with
   |none=>rfl
   |some v=>exact((hin _ _ _ e).no (by simp[World.cell?,hl]) (λes ck q=>by rw[hl]at q;cases q) (λc T q=>by rw[hl]at q;cases q)).elim
  have hlen:args.length=ps.size:=by rw[<-hargs.length,hps k]
  have hy:=run_yield (P:=P) (args:=⟨args⟩) hl (by rw[y];simpa using hlen);rw[y]at hy;refine⟨fn,_,assign,body,hy,?_⟩;simp only;clear hy
  let o:Bool->Obj:=λb=>bif b then .loop (rec .busy none)else .loop (rec .ready none)
  have x:=h.Ya (l:=w.heap.size+1) (o:=o) hl (λb c e=>by cases b<;>exact Kz c e) hlM;have u:a0.tmps=a.tmps:=by rw[ha0]
  have d:=II ps.toList (xs k) _ args a0.tmps x hargs (by rw[hps k];simp) (by
   intro p hp;show p<(I k).n;rw[(hI k).1];exact ZE p hp)
  have htm:(ps.toList.zip args).foldl (λt (p,v)=>t.setIfInBounds p v) a0.tmps=(ps.zip ⟨args⟩).foldl (λtmps (t,a)=>tmps.setIfInBounds t a) a.tmps:=by
   rw[u,<-Array.foldl_toList,Array.toList_zip]
  rw[htm]at d;have hr:=round k hk hkm ⟨W,E.M,Cl (I k) E,E'.ν,E'.ρ,w.heap.size+1,o⟩ h.grown _ W ⟨_,d⟩;refine roundIn_of_wpIn (F:=Fr none) trivial (wpIn_mono hr ?_);rintro e x w1 ⟨S1,q,d,hh1⟩;cases e with
  |normal=>
   obtain⟨hgo,hbody⟩:=q;obtain⟨hOl,u⟩:=hh1.jj;rw[hgo]at u;refine⟨_,run_beginRound u (by rw[y]),?_⟩;have d:=(Array.getElem?_eq_some_iff.1 u).1;have u:Obj.loop {rec .ready none with state:=.busy}=o true:=by simp only[o,y];rfl
   have hh2:=hh1.afi (l:=w.heap.size+1) (o:=o true) hOl (.inr (.inr Y)) (go:=true) ⟨hOl,World.putObj_heap_same d⟩;rw[u];refine wpIn_mono (hbody x _ ⟨_,hh2⟩) ?_;have Y9:∀r,a0.defers≠[]->rI r∈a0.defers->r≠w.heap.size+1:=λr _ hr=>by have:=hmk r hr;omega
   have out:∀(d:AS) (x:Env) (z:Act) (u:World),bw (GY C ⟨W,E.M,Cl (I k) E,E'.ν,E'.ρ,w.heap.size+1,o⟩ pb) d x z u->d.go=true->(pb.all λi=>(d.o i).isSome)=true->
     bw (GY C ⟨W,E.M,Cl (I k) E,E'.ν,E'.ρ,w.heap.size+1,o⟩ pb) ⟨(I 0).n,(I 0).t,d.o,d.g,true⟩ x ⟨a0.tmps,[]⟩ u:=by
    intro d x z u hh A hpb;have:=hh.aog (T:=I 0) (E:=E) (a:=a0) hT hpb (by rw[h.size,(hI k).1]) (λs=>by have:=h.tm s;rw[(hI k).2]at this;exact this) hh.m0 (λi hi=>h.qZ i (WA hi));rw[A]at this;exact this
   have fin:∀(d:AS) (x:Env) (u:World) (jump:Option Code),bw (GY C ⟨W,E.M,Cl (I k) E,E'.ν,E'.ρ,w.heap.size+1,o⟩ pb) d x ⟨a0.tmps,[]⟩ u->d.go=true->
     (Instr.endRound (w.heap.size+1) jump).run P u=.ok (.bool jump.isNone) (u.putObj (w.heap.size+1) (.loop (rec (if jump.isNone then .ready else .done) jump)))/\
     bw (Ud C E'.ν E'.ρ pb) d {x with O:=λ_=>False} a0 (u.putObj (w.heap.size+1) (.loop (rec (if jump.isNone then .ready else .done) jump)))/\
     (u.putObj (w.heap.size+1) (.loop (rec (if jump.isNone then .ready else .done) jump))).heap[w.heap.size+1]? =some (.loop (rec (if jump.isNone then .ready else .done) jump))/\
     ajR O E.M W (λb=>b=w.heap.size+1\/Cl d {x with O:=λ_=>False} b) x.M (u.putObj (w.heap.size+1) (.loop (rec (if jump.isNone then .ready else .done) jump))):=by
    intro d x u jump hh A;obtain⟨asE,hl3⟩:=hh.jj;rw[A]at hl3;have aol:=(Array.getElem?_eq_some_iff.1 hl3).1;have hrun:=run_endRound (P:=P) jump hl3;have hout:=h.outOfRound hJ (l:=w.heap.size+1) (o:=o) hl0 Y9 hh (.loop (rec (if jump.isNone then .ready else .done) jump));refine⟨?_,hout,World.putObj_heap_same aol,?_⟩
    ·rw[hrun,y]
    refine⟨hh.m0,hout.kf,λb o v e=>?_,λb hb=>?_,λk' hk' hnO=>?_,hh.os,hh.tape,hh.output,by rw[World.putObj_size];exact hh.grown⟩
    ·rcases hh.Be b o v e with e|e|e
     ·exact .inl e
     ·exact .inr (.inl e)
     exact .inr (.inr ((CS b).2 (e.symm)))
    ·rw[World.putObj_size];rcases hb with hb|hb
     ·subst hb;exact⟨.inl ((CS _).2 (.inl Y)),aol,(hh.GK _ asE).2.1⟩
     obtain⟨q1,q2,q3,c,e',q4⟩:=vN hh (show Cl d x b from hb);refine⟨?_,(Array.getElem?_eq_some_iff.1 q4).1,q2⟩;rcases q1 with q1|q1
     ·exact .inr q1
     exact .inl ((CS b).2 (.inr q1))
    have hne:k'≠w.heap.size+1:=by rintro rfl;exact hnO ((CS _).2 (.inl rfl))
    rw[World.putObj_heap_other hne];exact hh.frame k' hk' (λe=>hnO ((CS k').2 e.symm))
   rintro e z u ⟨d,hp,x,hh3⟩;cases e with
   |normal=>
    obtain⟨p0,p1,p2,p3⟩:=hp;obtain⟨E3,hh4⟩:=p3 _ _ ⟨_,out d x z u hh3 p1 p2⟩;have asG:(I (k+1)).go=true\/(I (k+1)).go=false:=by cases(I (k+1)).go<;>simp
    have asH:(I (k+1)).go=true:=by
     rcases asG with e|e
     ·exact e
     exfalso;have h5:=hh4.jj.2;have h6:=(out d x z u hh3 p1 p2).jj.2;rw[e]at h5;rw[show(AS.mk (I 0).n (I 0).t d.o d.g true).go=true from rfl]at h6;rw[h5]at h6;simp[o,y]at h6
    obtain⟨f1,f2,f3,f4⟩:=fin _ E3 u none hh4 asH;exact⟨_,_,f1,true,_,_,Y,⟨_,_,f2,Y,λ_ h=>h,λ_=>Iff.rfl,.inl ⟨Y,p0,Y,f3⟩⟩,f4⟩
   |ret=>
    obtain⟨p1,p2,p3⟩:=hp;obtain⟨f1,f2,f3,f4⟩:=fin _ x u (some .ret) (out d x z u hh3 p1 p2) Y;exact⟨_,_,f1,false,_,_,Y,⟨_,_,f2,Y,λ_ h=>h,λ_=>Iff.rfl,.inr ⟨Y,.ret,.inl ⟨Y,p3⟩,f3⟩⟩,f4⟩
   |exit id=>
    obtain⟨p1,p2,p3⟩:=hp;obtain⟨f1,f2,f3,f4⟩:=fin _ x u (some (.exit id)) (out d x z u hh3 p1 p2) Y;exact⟨_,_,f1,false,_,_,Y,⟨_,_,f2,Y,λ_ h=>h,λ_=>Iff.rfl,.inr ⟨Y,.exit id,.inr ⟨id,Y,p3⟩,f3⟩⟩,f4⟩
   |goto t=>exact hp.elim
   |panic ch=>exact hp.elim
   |outgrown=>exact hp.elim
  |_=>exact q.elim
 ·
  rintro b (rfl|hb)
  ·refine⟨by omega,λo=>?_⟩;cases e:E'.M (w.heap.size+1) o with
   |none=>rfl
   |some v=>exact((ahC _ _ _ e).no (by simp[World.cell?,Ue]) (λes ck q=>by rw[Ue]at q;cases q) (λc T q=>by rw[Ue]at q;cases q)).elim
  obtain⟨_,q2,_,c,e,q3⟩:=vN h4 hb;exact⟨(Array.getElem?_eq_some_iff.1 q3).1,q2⟩
 ·exact⟨_,_,h4,Y,λ_ h=>h,λ_=>Iff.rfl,.inl ⟨Y,Nat.zero_le _,Y,Ue⟩⟩
 rintro e w' ⟨v,k,b,d,M',rfl,⟨E,S',h,rfl,hO,CS,hst⟩,hbn⟩;have hnl:∀o',bw C S' E a0 (w'.putObj (w.heap.size+1) o'):=λo'=>by
  have hh:=h.Z1 ajU;have hlr:∃r,w'.heap[w.heap.size+1]? =some (.loop r):=by
   rcases hst with⟨_,_,_,h⟩|⟨_,c,_,h⟩<;>exact⟨_,h⟩
  obtain⟨r,hlr⟩:=hlr;have hlM:∀o,E.M (w.heap.size+1) o=none:=λo=>by
   cases e:E.M (w.heap.size+1) o with
   |none=>rfl
   |some v=>exact((h.kf _ _ _ e).no (by simp[World.cell?,hlr]) (λes ck q=>by rw[hlr]at q;cases q) (λc T q=>by rw[hlr]at q;cases q)).elim
  have d:∀b,Cl S' E b->b≠w.heap.size+1:=by
   rintro b hb rfl;obtain⟨_,_,_,c,e,q⟩:=vN hh hb;rw[hlr]at q;cases q
  have same:∀k,k≠w.heap.size+1->(w'.putObj (w.heap.size+1) o').heap[k]? =w'.heap[k]? :=λk hk=>World.putObj_heap_other hk
  exact{hh with
   marks:=by
    obtain⟨ds',q1,q2,q3⟩:=hh.marks;refine⟨ds',q1,q2,λr hr=>?_⟩;obtain⟨q4,q5,q6⟩:=q3 r hr;exact⟨q4,q5,by rw[same r (by have:=hmk r (by rw[q1];exact List.mem_map_of_mem hr);omega)];exact q6⟩
   grown:=by rw[World.putObj_size];exact hh.grown
   frame:=λk hk hk'=>by rw[same k ω];exact hh.frame k hk hk'
   kf:=iG hh.kf λb ⟨o,v,e⟩=>same b (by rintro rfl;rw[hlM o]at e;cases e)
   ob:=λi ob hi=>Ob.rH (hh.ob i ob hi) (Mem.le_refl _) ⟨Y,Y,Y⟩ (λ_ _ _ _=>⟨Y,Y⟩) (λt g hc=>same g (d g ⟨i,ob,t,hi,hc⟩))
   GK:=λb hb=>absurd hb (hO b)
   jj:=hJ _ _ _ _ _}
 rw[show({a with defers:=[rI w.heap.size]++a.defers}:Act)=a0 from by rw[ha0];rfl];rcases hst with⟨hb,hkm,rfl,hl⟩|⟨hb,c,hc,hl⟩
 ·have hk:=hbn hb;subst hk;refine⟨none,_,by have:=run_endLoop (P:=P) hl (by rw[y];simp);rw[y]at this;exact this,_,done hkm,_,hnl _⟩
 refine⟨some c,_,by have:=run_endLoop (P:=P) hl (by rw[y];simp);rw[y]at this;exact this,?_⟩;rcases hc with⟨rfl,hq⟩|⟨id,rfl,hq⟩
 ·exact wpIn_ret ⟨_,hq,_,hnl _⟩
 exact wpIn_exit ⟨_,hq,_,hnl _⟩
theorem jP{P:Program}{C:Ctx}{S:AS}{Q:Exit->AS->Prop}{g:Operand}{ps:Array Tmp}{H body:Code}{f:FuncId}[cE P f]{K:List SV}{n:Nat}{xs:Nat->List SV}
  (hit:Iter P f K n xs) (hJ:∀g h O M w,C.J g h O M w) (hro:C.ro=none) (I:Nat->AS) (pb:List Nat) (hg:(I 0).ev g=.sv (gg f [] K)) (hI:∀k,(I k).n=(I 0).n/\(I k).t=(I 0).t)
  (hT:∀s,∀j∈((I 0).t s).refs,j∈pb) (hps:∀k,(xs k).length=ps.size) (ZE:∀p∈ps.toList,p<(I 0).n) (h0:jx C S (I 0))
  (round:∀k,k<n->∀D:RD,C.w0.heap.size<=D.W.heap.size->Ok P (GY C D pb) H ((I k).Z2 ps.toList (xs k)) (aR (λS1=>S1.go=false/\Ok P (GY C D pb) body S1.Ky (RP (GY C D pb) True pb (I 0) (I (k+1)) Q)) (λ_ _=>False)))
  (done:Q .normal (I n)):Ok P C (.rangeFunc g ps H body) S Q:=
 M7 hit hJ hro I pb hg hI hT hps ZE h0 n (λk a _ D b=>Fk (round k a D b) λe S1 q=>by
  cases e with
  |normal=>exact⟨q.1,Fk q.2 λc d b=>by cases c<;>first|exact⟨a,b.2⟩|exact b⟩
  |_=>exact q) (λ_=>done)
end
section
open Go.RowKit
def xu{α:Type}(l D:List α):Option Unit:=if D.length=l.length then some ()else none
theorem KA{l:List Nat}{i:Nat}(h:l.length<=i):l.getD i 0=0:=by simp[List.getD,List.getElem?_eq_none h]
theorem R3{l:List Nat}{i:Nat}(h:i<l.length):l[i]? =some (l.getD i 0):=by simp[List.getD,h]
def nH{S:Type}(body:Nat->S->Option S):Nat->S->Option S
 |0,s=>some s
 |n+1,s=>(nH body n s).bind (body n)
theorem nw{S:Type}{body:Nat->S->Option S}:∀{n:Nat} {s e:S},nH body n s=some e->∃a:Nat->S,a 0=s/\(∀k,k<n->body k (a k)=some (a (k+1)))/\a n=e
 |0,s,e,h=>⟨λ_=>s,Y,λ_ h=>by omega,aob h⟩
 |n+1,s,e,h=>by
  obtain⟨b,f,c⟩:=bind_some (x:=nH body n s) h;obtain⟨a,b,d,g⟩:=nw f;refine⟨λk=>if k=n+1 then e else a k,by simpa using b,λk f=>?_,by simp⟩;rcases Nat.lt_or_ge k n with a|a
  ·simpa[show k≠n+1 by omega,show k≠n by omega]using d k a
  obtain rfl:k=n:=by omega
  simpa[g]using c
theorem G0{S:Type}{body:Nat->S->Option S}(D:Nat->S):∀(n:Nat),(∀k,k<n->body k (D k)=some (D (k+1)))->nH body n (D 0)=some (D n)
 |0,_=>rfl
 |n+1,h=>by
  rw[nH,G0 D n (λk a=>h k ω)];exact h n ω
def M8{α:Type}(m:Option (List α×Unit)):Option (List α):=m.map (·.1)
theorem Yb{α:Type}{m:Option (List α×Unit)}{l:List α}(h:M8 m=some l):m=some (l,()):=by
 cases m with
 |none=>cases h
 |some p=>obtain⟨a,b⟩:=p;cases h;rfl
def Dt{α β:Type}(x:α)(m:Option (List α×β)):Option (List α×β):=m.map λp=>(x::p.1,p.2)
theorem vA{α β:Type}{x:α}{m:Option (List α×β)}{o:List α}{r:β}(h:Dt x m=some (o,r)):∃c,m=some (c,r)/\o=x::c:=by
 cases m with
 |none=>cases h
 |some p=>obtain⟨a,b⟩:=p;cases h;exact⟨a,rfl,rfl⟩
def pN{α β γ:Type}(m:Option (List α×β))(f:β->Option (List α×γ)):Option (List α×γ):=m.bind λp=>(f p.2).map λq=>(p.1++q.1,q.2)
theorem mB{α β γ:Type}{m:Option (List α×β)}{f:β->Option (List α×γ)}{o:List α}{r:γ}(h:pN m f=some (o,r)):∃g b i,m=some (g,b)/\f b=some (i,r)/\o=g++i:=by
 cases m with
 |none=>cases h
 |some p=>
  obtain⟨a,b⟩:=p;have h:(f b).map (λq=>(a++q.1,q.2))=some (o,r):=h;cases e:f b with
  |none=>rw[e]at h;cases h
  |some q=>obtain⟨c,d⟩:=q;rw[e]at h;cases h;exact⟨a,b,c,rfl,e,rfl⟩
def Bf{α S E:Type}(body:S->Option (List α×(S⊕E)))(p:List α×S):Option ((List α×S)⊕(List α×E)):=(body p.2).map λq=>match q.2 with|.inl s=>.inl (p.1++q.1,s)|.inr e=>.inr (p.1++q.1,e)
noncomputable def AU{α S E:Type}(body:S->Option (List α×(S⊕E)))(s:S):Option (List α×E):=bH (Bf body) ([],s)
theorem R4{α S E:Type}{body:S->Option (List α×(S⊕E))}:∀{n:Nat} {s:S} {b o:List α} {e:E} (a:List α),lW (Bf body) n (b,s)=some (o,e)->lW (Bf body) n (a++b,s)=some (a++o,e)
 |0,_,_,_,_,_,h=>by cases h
 |n+1,s,b,o,e,a,h=>by
  unfold lW at h⊢;cases c:body s with
  |none=>simp[Bf,c]at h
  |some q=>
   obtain⟨d,y⟩:=q;cases y with
   |inl s'=>simp only[Bf,c,Option.map_some]at h⊢;rw[List.append_assoc];exact R4 a h
   |inr d=>simp only[Bf,c,Option.map_some,Option.some.injEq,Prod.mk.injEq]at h⊢;exact⟨by rw[<-h.1,List.append_assoc],h.2⟩
theorem R5{α S E:Type}{body:S->Option (List α×(S⊕E))}:∀{n:Nat} {a:List α} {s:S} {o:List α} {e:E},lW (Bf body) n (a,s)=some (o,e)->∃b,o=a++b/\lW (Bf body) n ([],s)=some (b,e)
 |0,_,_,_,_,h=>by cases h
 |n+1,a,s,o,e,h=>by
  unfold lW at h⊢;cases c:body s with
  |none=>simp[Bf,c]at h
  |some q=>
   obtain⟨b,y⟩:=q;cases y with
   |inl s'=>
    simp only[Bf,c,Option.map_some,List.nil_append]at h⊢;obtain⟨f,rfl,g⟩:=R5 h;have d:=R4 b g;rw[List.append_nil]at d;exact⟨b++f,by simp,d⟩
   |inr d=>
    simp only[Bf,c,Option.map_some,Option.some.injEq,Prod.mk.injEq,List.nil_append]at h⊢;exact⟨b,h.1.symm,Y,h.2⟩
theorem tY{α β:Type}{x y:β}{o:List α}(h:some (([]:List α),x)=some (o,y)):o=[]/\x=y:=by
 injection h with h;injection h with h1 h2;exact⟨h1.symm,h2⟩
def D4{α:Type}(l:List α)(g:Nat)(o t:List α):Prop:=g<=l.length/\l.drop g=o++t
theorem D4.hd{α:Type}{l o t:List α}{g:Nat}{x:α}(h:D4 l g (x::o) t)(d:α):g<l.length/\l.getD g d=x/\D4 l (g+1) o t:=by
 obtain⟨b,a⟩:=h;have hl:g<l.length:=by
  have:=congrArg List.length a;simp at this;omega
 rw[List.drop_eq_getElem_cons hl]at a;injection a with h3 h4
 exact⟨hl,by rw[List.getD_eq_getElem?_getD,List.getElem?_eq_getElem hl];exact h3,hl,h4⟩
theorem D4.fin{α:Type}{l:List α}{g:Nat}(h:D4 l g [] []):g=l.length:=by
 have:=congrArg List.length h.2;have:=h.1;simp at*;omega
theorem D4.st{α:Type}(l:List α):D4 l 0 l []:=⟨Nat.zero_le _,by simp⟩
theorem D4.as{α:Type}{l a b t:List α}{g:Nat}(h:D4 l g (a++b) t):D4 l g a (b++t):=⟨h.1,by rw[h.2,List.append_assoc]⟩
theorem Fs{α:Type}{m:Option (List α×Unit)}{l:List α}(h:M8 m=some l):∃o,m=some (o,())/\D4 l 0 o []:=⟨l,Yb h,D4.st l⟩
theorem D4.go{α:Type}{l a b:List α}{g:Nat}(h:D4 l g [] (a++b)):D4 l g a b:=⟨h.1,by simpa using h.2⟩
section control
variable {P:Program}{C:Ctx}{S:AS}{Q:Exit->AS->Prop}
theorem bB{A:Code}{J R:Type}{D:J->Option R}{H:(J->Option R)->Option R}{r:R}(h:bU D H=some r)(I:J->AS)
  (hA:H D=some r->Ok P C A S (aR (λS'=>∃j,D j=some r/\jx C S' (I j)) Q)) (hQ:∀j,D j=some r->Q .normal (I j)):Ok P C A S Q:=λa w b=>by
 refine wpIn_mono (hA h a w b) ?_;rintro e c w' ⟨S',q,b⟩;cases e with
 |normal=>obtain⟨j,d,f⟩:=q;exact⟨_,hQ j d,f c w' b⟩
 |_=>exact⟨S',q,b⟩
theorem bp{A:Code}{X:Type}(I:X->AS)(p:X->Prop)(D:Ok P C A S (aR (λS'=>∃j,p j/\jx C S' (I j)) Q))(H:∀j,p j->Q .normal (I j)):Ok P C A S Q:=λa w b=>by
 refine wpIn_mono (D a w b) ?_;rintro e c w' ⟨S',q,b⟩;cases e with
 |normal=>obtain⟨j,f,d⟩:=q;exact⟨_,H j f,d c w' b⟩
 |_=>exact⟨S',q,b⟩
theorem br{c:Code}{T E:Type}{body:T->Option (T⊕E)}{D:T}{e:E}(h:bH body D=some e)(I:T->AS)(K:jx C S (I D))
  (round:∀(s:T) (y:T⊕E) (G:T->Prop),body s=some y->(∀s',y=.inl s'->G s')->(∀H,y=.inr H->H=e)->Ok P C c (I s) (aR (λS'=>∃s',G s'/\jx C S' (I s')) Q)):Ok P C (.loop c) S Q:=by
 obtain⟨n,a⟩:=zN h;refine Wc (ι:={x:T×Nat//lW body x.2 x.1=some e}) (λx=>I x.1.1) (λx=>x.1.2) ⟨(D,n),a⟩ K ?_;rintro⟨⟨s,m⟩,a⟩;cases m with
 |zero=>cases a
 |succ m=>
  cases b:body s with
  |none=>simp only[lW,b]at a;cases a
  |some y=>
   refine Fk (round s y (λs'=>lW body m s'=some e) b ?_ ?_) ?_
   ·rintro s' rfl;simpa only[lW,b]using a
   ·rintro H rfl;simp only[lW,b]at a;exact aob a
   intro a S' q;cases a with
   |normal=>obtain⟨s',a,b⟩:=q;exact⟨⟨(s',m),a⟩,Nat.lt_succ_self m,b⟩
   |_=>exact q
end control
section
variable {P:Program}{C:Ctx}{S:AS}{Q:Exit->AS->Prop}
theorem rK{c:Code}{α T E:Type}{body:T->Option (List α×(T⊕E))}{s0:T}{o l t:List α}{e:E}{g0:Nat}(h:AU body s0=some (o,e))(hl:D4 l g0 o t)(I:T->Nat->AS)(h0:jx C S (I s0 g0))
  (round:∀(s:T) (g:Nat) (K t':List α) (y:T⊕E) (G:T->Nat->Prop),body s=some (K,y)->D4 l g K t'->(∀s' D,y=.inl s'->D4 l D [] t'->G s' D)->(∀H D,y=.inr H->D4 l D [] t'->H=e/\D4 l D [] t)->Ok P C c (I s g) (aR (λS'=>∃s' D,G s' D/\jx C S' (I s' D)) Q)):Ok P C (.loop c) S Q:=by
 obtain⟨n,a⟩:=zN h;refine Wc (ι:={x:(T×Nat)×(Nat×List α)//lW (Bf body) x.2.1 ([],x.1.1)=some (x.2.2,e)/\D4 l x.1.2 x.2.2 t}) (λx=>I x.1.1.1 x.1.1.2) (λx=>x.1.2.1) ⟨((s0,g0),(n,o)),a,hl⟩ h0 ?_;rintro⟨⟨⟨s,g⟩,⟨m,rs⟩⟩,a,r⟩;cases m with
 |zero=>cases a
 |succ m=>
  dsimp only at a r⊢;cases f:body s with
  |none=>simp[lW,Bf,f]at a
  |some q=>
   obtain⟨K,y⟩:=q;cases y with
   |inl s'=>
    simp only[lW,Bf,f,Option.map_some,List.nil_append]at a;obtain⟨j,rfl,k⟩:=R5 a;refine Fk (round s g K (j++t) (.inl s') (λd D=>lW (Bf body) m ([],d)=some (j,e)/\D4 l D j t) f r.as ?_ ?_) ?_
    ·rintro d D b i;cases b;exact⟨k,i.1,by simpa using i.2⟩
    ·rintro H D b;cases b
    intro p S' q;cases p with
    |normal=>obtain⟨s',D,⟨k,u⟩,v⟩:=q;exact⟨⟨((s',D),(m,j)),k,u⟩,Nat.lt_succ_self m,v⟩
    |_=>exact q
   |inr H=>
    simp only[lW,Bf,f,Option.map_some,List.nil_append,Option.some.injEq,Prod.mk.injEq]at a;obtain⟨rfl,rfl⟩:=a;refine Fk (round s g K t (.inr H) (λ_ _=>False) f r ?_ ?_) ?_
    ·rintro d D b;cases b
    ·rintro a D b i;cases b;exact⟨rfl,i⟩
    intro p S' q;cases p with
    |normal=>obtain⟨s',D,k,_⟩:=q;exact k.elim
    |_=>exact q
end
theorem zQ{n:Nat}{ts:List (Nat×AV)}{os:List (Nat×Ob)}{g:Nat}{go:Bool}{D:List Nat}(h:(ts.all λp=>p.2.refs.all D.contains)=true):∀s,∀j∈((AS.bM n ts os g go).t s).refs,j∈D:=λs j hj=>by
 rcases JP (ts:=ts) (s:=s)with e|⟨p,hp,_,e⟩
 ·have hj:j∈(TI ts s).refs:=hj;rw[e]at hj;cases hj
 have hj:j∈(TI ts s).refs:=hj;rw[e]at hj;have:=List.all_eq_true.1 (List.all_eq_true.1 h p hp) j hj;simpa using this
end
section
open Go.RowKit
section
variable {C:Ctx}{S S' S'':AS}
theorem jx.refl(S:AS):jx C S S:=λ_ _ h=>h
theorem jx.tr(h:jx C S S')(k:jx C S' S''):jx C S S'':=λa w q=>k a w (h a w q)
theorem wk(l:List (Nat×Nat)){n:Nat}{ts:List (Nat×AV)}{os:List (Nat×Ob)}{g:Nat}{go:Bool}(ht:(ts.map λp=>S.t p.1)=(ts.map λp=>p.2.uC (Bo l)):=by exact rfl)(H:(os.map λp=>S.o (Bo l p.1))=(os.map λp=>some (p.2.uC (Bo l))):=by exact rfl)(I:S.n=n:=by exact rfl)(K:S.g=g:=by exact rfl)(D:S.go=go:=by exact rfl)
  (hwf:((ts.all λp=>Kj os p.2)&&(os.all λp=>p.2.IB.all (Kj os)))=true:=by exact rfl) (hσ:((os.all λp=>os.all λq=>!(Nat.beq (Bo l p.1) (Bo l q.1))||Nat.beq p.1 q.1))=true:=by exact rfl) (hp:(l.all λp=>!C.qZ p.1)=true:=by exact rfl):jx C S (AS.bM n ts os g go):=anP l (.vH ht) (.vH H) I K D hwf hσ hp
theorem wtA(d:Nat){y:AV}{X:SV}(D:AV.le id y (.sv X))(H:S.t d=y:=by exact rfl)(k:jx C (S.set d (.sv X)) S''):jx C S S'':=λa w ⟨E,h⟩=>k a w ⟨E,h.Ks (x:=.sv X) (by have:=h.tm d;rw[H]at this;exact D _ _ this) (λ_ h=>by cases h)⟩
end
section
variable {P:Program}{C:Ctx}{S:AS}{Q:Exit->AS->Prop}{id:Nat}{ops:Array Oper}{y:Code}
theorem sr(h:RunT P C ops true (λ_ S'=>Ok P C y S' Q) ops.toList [] S):Ok P C (.seq (.region id ops false) y) S Q:=aT (aU h)
theorem sd(H:P.follows .mixedOrders=true)(h:RunT P C ops false (λD S'=>vc ops D.reverse=true/\Ok P C y S' Q) ops.toList [] S):Ok P C (.seq (.region id ops true) y) S Q:=aT (bz H h)
theorem dn{H:Array Oper}{D:List Ac}(h:Ok P C y S Q):RunT P C H true (λ_ S'=>Ok P C y S' Q) [] D S:=h
theorem dd{H:Array Oper}{D:List Ac}(h:Ok P C y S Q)(I:vc H D.reverse=true:=by kernel_rfl):RunT P C H false (λD S'=>vc H D.reverse=true/\Ok P C y S' Q) [] D S:=⟨I,h⟩
theorem de{H:Array Oper}{D:List Ac}(h:Q .normal S)(I:vc H D.reverse=true:=by kernel_rfl):RunT P C H false (λD S'=>vc H D.reverse=true/\Q .normal S') [] D S:=⟨I,h⟩
theorem cT{R:Type}{A B:Option R}{r:R}{c:Operand}{x:Code}(h:(bif true then A else B)=some r)(k:A=some r->Ok P C x S Q)(D:S.ev c=.sv (.v (.bool true)):=by exact rfl):Ok P C (.cond c x y) S Q:=Rx D (k h)
theorem cF{R:Type}{A B:Option R}{r:R}{c:Operand}{x:Code}(h:(bif false then A else B)=some r)(k:B=some r->Ok P C y S Q)(D:S.ev c=.sv (.v (.bool false)):=by exact rfl):Ok P C (.cond c x y) S Q:=Ry D (k h)
theorem Zd{c:Operand}{x:Code}(k:Ok P C x S Q)(D:S.ev c=.sv (.v (.bool true)):=by exact rfl):Ok P C (.cond c x y) S Q:=Rx D k
theorem WC{c:Operand}{x:Code}(k:Ok P C y S Q)(D:S.ev c=.sv (.v (.bool false)):=by exact rfl):Ok P C (.cond c x y) S Q:=Ry D k
theorem ow{c:Code}{S':AS}(D:jx C S S')(h:Ok P C c S' Q):Ok P C c S Q:=aeR D h
end
theorem bq{α R:Type}{m:Option α}{f:α->Option R}{r:R}{Q:Prop}(h:Option.bind m f=some r)(k:∀y,m=some y->f y=some r->Q):Q:=by obtain⟨y,b,a⟩:=bind_some h;exact k y b a
section
variable {P:Program}{C:Ctx}{ops:Array Oper}{S:AS}{nd:Bool}{K:List Ac->AS->Prop}{rest:List Oper}{acc:List Ac}{d:Nat}{ty:TypeId}{pos:String}{aft:Array Edge}{op:Op}{j g:Nat}{b want:Bool}
theorem aD(D:Nx P C ops nd K rest acc S [g] [] ⟨some (d,.sv (.v undef)),[]⟩)(h1:(ops[j]?).bind (·.dst)=some g:=by exact rfl)(H:S.t g=.sv (.v (.bool b)):=by exact rfl)(hb:(b==want)=false:=by exact rfl)(I:d<S.n:=by exact tl rfl):RunT P C ops nd K (⟨some d,op,ty,pos,aft,some (j,want)⟩::rest) acc S:=ang (.bool b) h1 H (by intro e;cases e;simp at hb) I D
theorem ada(D:Nx P C ops nd K rest acc S [g] [] ⟨some (d,.sv (.v undef)),[]⟩)(H:(ops[j]?).bind (·.dst)=some g:=by exact rfl)(I:S.t g=.sv (.v undef):=by exact rfl)(hd:d<S.n:=by exact tl Y):RunT P C ops nd K (⟨some d,op,ty,pos,aft,some (j,want)⟩::rest) acc S:=ang undef H I (by simp[undef]) hd D
end
theorem f1{P:Program}{S:AS}{R:Type}{m r:R}{t:Nat}{s q:SV}(h:some m=some r)(ht:S.t t=.sv s:=by exact rfl)(D:m=r->SV.imp s q:=by intro H;(first|subst H|skip);exact aq){e:Exit}(I:e=.normal\/e=.ret:=by first|exact .inr rfl|exact .inl Y):ZZ P [.tmp t] q e S:=
 ⟨I,[s],⟨.t ht,an⟩,D (aob h)⟩
theorem f2{P:Program}{S:AS}{R:Type}{m r:R}{t u:Nat}{s s' q:SV}(h:some m=some r)(ht:S.t t=.sv s:=by exact rfl)(I:S.t u=.sv s':=by exact rfl)(D:m=r->SV.imp (.lK [s,s']) q:=by intro H;(first|subst H|skip);exact aq){e:Exit}(K:e=.normal\/e=.ret:=by first|exact .inr rfl|exact .inl Y):ZZ P [.tmp t,.tmp u] q e S:=
 ⟨K,[s,s'],⟨.t ht,.t I,an⟩,D (aob h)⟩
theorem f3{P:Program}{S:AS}{R:Type}{m r:R}{t u v:Nat}{s s' D q:SV}(h:some m=some r)(ht:S.t t=.sv s:=by exact rfl)(I:S.t u=.sv s':=by exact rfl)(H:S.t v=.sv D:=by exact rfl)(hi:m=r->SV.imp (.lK [s,s',D]) q:=by intro h_;(first|subst h_|skip);exact aq){e:Exit}(K:e=.normal\/e=.ret:=by first|exact .inr rfl|exact .inl Y):ZZ P [.tmp t,.tmp u,.tmp v] q e S:=
 ⟨K,[s,s',D],⟨.t ht,.t I,.t H,an⟩,hi (aob h)⟩
theorem fP{P:Program}{S:AS}{rs:List ResultVar}{R:Type}{m r:R}{q:SV}(h:some m=some r)(ss:List SV)(hr:T9 P S rs (ss.map AV.sv))(D:m=r->SV.imp (ajO ss) q:=by intro H;(first|subst H|skip);exact aq){e:Exit}(I:e=.normal\/e=.ret:=by first|exact .inr rfl|exact .inl Y):ZZ P rs q e S:=⟨I,ss,hr,D (aob h)⟩
theorem fC{P:Program}{C:Ctx}{S S':AS}{rs:List ResultVar}{R:Type}{m r:R}{res:AV}{post:List (Nat×Ob)}(h:some m=some r)(xs:List AV)(K:jx C S S')(hp:m=r->N5 S' post:=by intro D;(first|subst D|skip);first|exact⟨Y,an⟩|exact trivial|exact⟨Y,Y,an⟩|exact⟨Y,Y,Y,an⟩)(hr:T9 P S' rs xs:=by first|exact⟨.t Y,an⟩|exact trivial|exact⟨.t Y,.t Y,an⟩|exact⟨.t Y,.t Y,.t Y,an⟩)(I:m=r->afc xs=res:=by intro D;(first|subst D|skip);exact rfl){e:Exit}(H:e=.normal\/e=.ret:=by first|exact .inr rfl|exact .inl Y):Fin P C rs res post e S:=
 ⟨H,S',xs,K,hp (aob h),hr,I (aob h)⟩
end
section
open Go.RowKit
theorem zR{D:List Nat}{n:Nat}(h:(D.all λp=>Nat.ble (p+1) n)=true):∀p∈D,p<n:=λp hp=>af (List.all_eq_true.1 h p hp)
inductive Pre:List SV->List SV->Prop
 |nil {l:List SV}:Pre l []
 |cons {s:SV} {l us:List SV} (t:Pre l us):Pre (s::l) (s::us)
theorem Pre.take{l us:List SV}(h:Pre l us):l.take us.length=us:=by
 induction h with
 |nil=>simp
 |cons _ a=>simp[a]
section steps
variable {P:Program}{C:Ctx}{ops:Array Oper}{S:AS}{nd:Bool}{K:List Ac->AS->Prop}{rest:List Oper}{acc:List Ac}
variable {gd:Option (Nat×Bool)}{rg:List Nat}{d:Nat}{ty:TypeId}{pos:String}{aft:Array Edge}{x y z g:Operand}{T U E0:TypeId}{k:IntKind}{p q:Int}{R:Type}{r:R}{at_:Array TypeId}{xs:Array Operand}{f:FuncId}{b c:List AV}
theorem ans[tI:dZ P T k]{bi:Nat}{f:Int->Option R}(h:Option.bind (some (k.wrap ((BitVec.ofInt bi p &&& BitVec.ofInt bi q).toNat))) f=some r)(D:∀c,f c=some r->Nx P C ops nd K rest acc S (rg++(bD x++bD y)) [] ⟨some (d,.sv (.v (.int k c))),[]⟩)(hx:S.ev x=.sv (.v (.int k p)):=by exact rfl)(hy:S.ev y=.sv (.v (.int k q)):=by exact rfl)(H:bi=k.bits:=by exact rfl)(hg:Gd ops S gd rg:=by first|exact .none|exact .some Y Y)(I:d<S.n:=by exact tl Y):RunT P C ops nd K (⟨some d,.binOp .and T x y U,ty,pos,aft,gd⟩::rest) acc S:=
 afw ζ (λc:Int=>.int k c) h D hx hy (λ_ w b a=>fR b a (by subst H;simp[binOp,Op.intBits])) hg I
theorem akB[tI:dZ P T k]{bi:Nat}{f:Int->Option R}(h:Option.bind (some (k.wrap ((BitVec.ofInt bi p ^^^ BitVec.ofInt bi q).toNat))) f=some r)(D:∀c,f c=some r->Nx P C ops nd K rest acc S (rg++(bD x++bD y)) [] ⟨some (d,.sv (.v (.int k c))),[]⟩)(hx:S.ev x=.sv (.v (.int k p)):=by exact rfl)(hy:S.ev y=.sv (.v (.int k q)):=by exact rfl)(H:bi=k.bits:=by exact rfl)(hg:Gd ops S gd rg:=by first|exact .none|exact .some Y Y)(I:d<S.n:=by exact tl Y):RunT P C ops nd K (⟨some d,.binOp .xor T x y U,ty,pos,aft,gd⟩::rest) acc S:=
 afw ζ (λc:Int=>.int k c) h D hx hy (λ_ w b a=>fR b a (by subst H;simp[binOp,Op.intBits])) hg I
theorem ahn{H:Array Operand}{bs cs:List SV}(D:Nx P C ops nd K rest acc S (rg++(H.toList.flatMap bD++xs.toList.flatMap bD)) [] ⟨some (d,.sv (gg f bs cs)),[]⟩)(hb:H.toList.map S.ev=bs.map AV.sv:=by exact rfl)(I:xs.toList.map S.ev=cs.map AV.sv:=by exact rfl)(hg:Gd ops S gd rg:=by first|exact .none|exact .some Y Y)(hd:d<S.n:=by exact tl Y):RunT P C ops nd K (⟨some d,.makeFunc (.func f) H xs,ty,pos,aft,gd⟩::rest) acc S:=
 aeY hg _ [] _ hd ζ (λS' ht _ E a w h=>by
  have c:=tX h (S:=S) (xs:=H.toList) (λs b=>ht s (List.mem_append_left _ b));have e:=tX h (S:=S) (xs:=xs.toList) (λs b=>ht s (List.mem_append_right _ b));rw[hb]at c;rw[I]at e;have b:∀xs:Array Operand,xs.map a.eval=⟨xs.toList.map a.eval⟩:=λxs=>by apply Array.ext';simp
  exact⟨.func (.func f) ⟨H.toList.map a.eval⟩ ⟨xs.toList.map a.eval⟩,by simp[execOp,Instr.makeFunc,b],⟨_,_,Y,c.Bq,e.Bq⟩,rz⟩) D
theorem ahq{args:List SV}{res:SV}[en:cE P f](hp:Pure P f args res)(D:Nx P C ops nd K rest acc S (rg++(bD g++xs.toList.flatMap bD)) [] ⟨some (d,.sv res),[]⟩)(I:Zb S g f b c:=by first|exact .k rfl|exact .fn rfl|exact .clo Y)(hargs:b++(xs.toList.map S.ev++c)=args.map AV.sv:=by exact rfl)(hg:Gd ops S gd rg:=by first|exact .none|exact .some Y Y)(H:d<S.n:=by exact tl Y):RunT P C ops nd K (⟨some d,.call ⟨.value g,xs,at_⟩,ty,pos,aft,gd⟩::rest) acc S:=
 aE (m:=some ()) (k:=λ_=>some ()) (res:=λ_=>res) Y (λ_ _=>hp) (λ_ _=>D) I hargs hg H
theorem ais(τ:List (Nat×Nat)){args:List AV}{pre:List (Nat×Ob)}{res:AV}{post:List (Nat×Ob)}[en:cE P f](hp:FC P f args pre res post)(H:Nx P C ops nd K rest acc S (rg++(bD g++xs.toList.flatMap bD)) (nms (Bo τ) pre post) ⟨some (d,res.uC (Bo τ)),Pr (Bo τ) pre post⟩)
  (D:Rz (Bo τ) S pre:=by exact .vH Y) (I:Zb S g f b c:=by first|exact .k rfl|exact .fn rfl|exact .clo Y) (hargs:Pu (Bo τ) (b++(xs.toList.map S.ev++c)) args:=by exact .vH Y) (hn:N6 post=true:=by exact rfl) (hi:Ps (Bo τ) (pre++post)=true:=by exact rfl) (hfr:D3 C S (Bo τ) pre post=true:=by exact rfl)
  (hwf:(Kj post res&&post.all λp=>p.2.IB.all (Kj post))=true:=by exact rfl) (hg:Gd ops S gd rg:=by first|exact .none|exact .some Y Y) (hd:d<S.n:=by exact tl Y):RunT P C ops nd K (⟨some d,.call ⟨.value g,xs,at_⟩,ty,pos,aft,gd⟩::rest) acc S:=
 aeF τ (m:=some ()) (k:=λ_=>some ()) (res:=λ_=>res) (post:=λ_=>post) Y (λ_ _=>hp) (λ_ _=>H) D I hargs (λ_=>hn) (λ_=>hi) (λ_=>hfr) (λ_=>hwf) hg hd
theorem aez{pl:List (Nat×Nat)}{zc:List Value}[tP:dx P T pl zc]{parts:Array (Nat×Operand)}{qs:List (Nat×List SV)}{cs':List SV}(hp:Bv S parts.toList qs)(hi:yG ((Dq (λi=>pl[i]?) (zc.map SV.v) qs).getD []) cs')(D:Nx P C ops nd K rest acc S (rg++yI parts.toList) [] ⟨some (d,.sv (.agg cs')),[]⟩)(hf:(Dq (λi=>pl[i]?) (zc.map SV.v) qs).isSome=true:=by exact rfl)(hg:Gd ops S gd rg:=by first|exact .none|exact .some Y Y)(hd:d<S.n:=by exact tl Y):RunT P C ops nd K (⟨some d,.build T parts,ty,pos,aft,gd⟩::rest) acc S:=by
 obtain⟨cs,a⟩:=Option.isSome_iff_exists.1 hf;rw[a]at hi;exact anE hp hi D a hg hd
theorem ahr(c:Bool)(D:Nx P C ops nd K rest acc S (rg++bD x) [] ⟨some (d,.sv (.v (.bool c))),[]⟩)(I:S.ev x=.sv (.v (.bool (!c))):=by exact rfl)(hg:Gd ops S gd rg:=by first|exact .none|exact .some Y Y)(H:d<S.n:=by exact tl Y):RunT P C ops nd K (⟨some d,.unOp .not T x,ty,pos,aft,gd⟩::rest) acc S:=
 anC (b:=!c) (by rw[Bool.not_not];exact D) I hg H
theorem ant{a:Nat}[tI:dZ P T k]{bi M:Nat}[u:UK k bi M]{f:Nat->Option R}(h:Option.bind (some (vf M 0 a)) f=some r)(D:∀c,f c=some r->Nx P C ops nd K rest acc S (rg++bD x) [] ⟨some (d,.sv (.v (.int k ((c:Nat):Int)))),[]⟩)(I:S.ev x=.sv (.v (.int k (a:Int))):=by exact rfl)(hg:Gd ops S gd rg:=by first|exact .none|exact .some Y Y)(H:d<S.n:=by exact tl Y):RunT P C ops nd K (⟨some d,.unOp .neg T x,ty,pos,aft,gd⟩::rest) acc S:=
 ahP ζ (λc:Nat=>.int k (c:Int)) h D I (λ_ w b=>by have e:=UK.neg (k:=k) (a:=a) (M:=M) rfl;rw[Int.zero_sub]at e;simp only[execOp,b,Op.unary,Op.intArith];simp[e]) hg H
theorem aB{s:SV}(I:S.ev x=.sv s)(D:Nx P C ops nd K rest acc S (rg++bD x) [] ⟨some (d,.sv s),[]⟩)(hg:Gd ops S gd rg:=by first|exact .none|exact .some Y Y)(H:d<S.n:=by exact tl Y):RunT P C ops nd K (⟨some d,.move x,ty,pos,aft,gd⟩::rest) acc S:=aeZ (by rw[I];exact D) hg H
theorem aex{i o:Nat}(I:S.ev x=.ptr i o)(D:Nx P C ops nd K rest acc S (rg++bD x) [] ⟨some (d,.ptr i o),[]⟩)(hg:Gd ops S gd rg:=by first|exact .none|exact .some Y Y)(H:d<S.n:=by exact tl Y):RunT P C ops nd K (⟨some d,.move x,ty,pos,aft,gd⟩::rest) acc S:=aeZ (by rw[I];exact D) hg H
theorem aaw{i:Nat}(I:S.ev x=.ob i)(D:Nx P C ops nd K rest acc S (rg++bD x) [] ⟨some (d,.ob i),[]⟩)(hg:Gd ops S gd rg:=by first|exact .none|exact .some Y Y)(H:d<S.n:=by exact tl Y):RunT P C ops nd K (⟨some d,.move x,ty,pos,aft,gd⟩::rest) acc S:=aeZ (by rw[I];exact D) hg H
theorem aC{s:SV}(I:S.ev x=.sv s)(D:Nx P C ops nd K rest acc S (rg++bD x) [] ⟨some (d,.sv s),[]⟩)(hg:Gd ops S gd rg:=by first|exact .none|exact .some Y Y)(H:d<S.n:=by exact tl Y):RunT P C ops nd K (⟨some d,.assign x,ty,pos,aft,gd⟩::rest) acc S:=afz (by rw[I];exact D) hg H
theorem ahM{i o:Nat}(I:S.ev x=.ptr i o)(D:Nx P C ops nd K rest acc S (rg++bD x) [] ⟨some (d,.ptr i o),[]⟩)(hg:Gd ops S gd rg:=by first|exact .none|exact .some Y Y)(H:d<S.n:=by exact tl Y):RunT P C ops nd K (⟨some d,.assign x,ty,pos,aft,gd⟩::rest) acc S:=afz (by rw[I];exact D) hg H
theorem aey{i:Nat}(I:S.ev x=.ob i)(D:Nx P C ops nd K rest acc S (rg++bD x) [] ⟨some (d,.ob i),[]⟩)(hg:Gd ops S gd rg:=by first|exact .none|exact .some Y Y)(H:d<S.n:=by exact tl Y):RunT P C ops nd K (⟨some d,.assign x,ty,pos,aft,gd⟩::rest) acc S:=afz (by rw[I];exact D) hg H
theorem aax{s:SV}(I:S.ev y=.sv s)(D:Nx P C ops nd K rest acc S (rg++(bD x++bD y)) [] ⟨some (d,.sv s),[]⟩)(hx:S.ev x=.sv (.v (.bool true)):=by exact rfl)(hg:Gd ops S gd rg:=by first|exact .none|exact .some Y Y)(H:d<S.n:=by exact tl Y):RunT P C ops nd K (⟨some d,.pick x y z,ty,pos,aft,gd⟩::rest) acc S:=anx (by rw[I];exact D) hx hg H
theorem abE{s:SV}(I:S.ev z=.sv s)(D:Nx P C ops nd K rest acc S (rg++(bD x++bD z)) [] ⟨some (d,.sv s),[]⟩)(hx:S.ev x=.sv (.v (.bool false)):=by exact rfl)(hg:Gd ops S gd rg:=by first|exact .none|exact .some Y Y)(H:d<S.n:=by exact tl Y):RunT P C ops nd K (⟨some d,.pick x y z,ty,pos,aft,gd⟩::rest) acc S:=anz (by rw[I];exact D) hx hg H
theorem afI{s:SV}[o1:One s](hx:S.ev x=.sv s)(D:Nx P C ops nd K rest acc S (rg++bD x) [d] ⟨some (d,.ptr d 0),[(d,.box T [.sv s])]⟩)(hg:Gd ops S gd rg:=by first|exact .none|exact .some Y Y)(H:d<S.n:=by exact tl Y)(I:S.o d=none:=by exact rfl)(hp:C.qZ d=false:=by exact rfl):RunT P C ops nd K (⟨some d,.box T x,ty,pos,aft,gd⟩::rest) acc S:=anG hx .sv D hg H I hp
theorem afv[tV:uG P T]{j off:Nat}{cs:List AV}{s:SV}[o1:One s](I:S.ev x=.ptr j off)(hB:S.o j=some (.box U cs))(H:S.ev y=.sv s)(D:Nx P C ops nd K rest acc S (rg++(bD x++bD y)) [j] ⟨none,[(j,.box U (cs.set off (.sv s)))]⟩)(hl:Nat.ble (off+1) cs.length=true:=by exact rfl)(hg:Gd ops S gd rg:=by first|exact .none|exact .some Y Y):RunT P C ops nd K (⟨none,.store T x y,ty,pos,aft,gd⟩::rest) acc S:=aeN I hB H .sv D hl hg
theorem aeC{m:Nat}[tA:vI P T m]{cells us:List SV}(hx:S.ev x=.sv (ref cells))(hp:Pre cells us)(D:Nx P C ops nd K rest acc S (rg++bD x) [] ⟨some (d,.sv (.agg us)),[]⟩)(H:us.length=m:=by exact rfl)(hg:Gd ops S gd rg:=by first|exact .none|exact .some Y Y)(I:d<S.n:=by exact tl Y):RunT P C ops nd K (⟨some d,.load T x,ty,pos,aft,gd⟩::rest) acc S:=by
 have e:=hp.take;rw[H]at e;exact anD (m:=m) hx (by rw[e];exact D) (by rw[e];exact H) hg I
theorem anu{n:Nat}[tS:ku P T E0 n]{rows:List (List SV)}{H D:Nat}{R:AS->Prop}(I:∀b:Bool,(b=true->rows=[])->RunT P C ops true (λ_ S=>R S) rest [] (S.set d (.sv (.v (.bool b)))))(hx:S.ev x=.sv (slc n rows):=by exact rfl)(K:Gd ops S gd rg:=by first|exact .none|exact .some Y Y)(hd:d<S.n:=by exact tl Y):RunT P C ops true (λ_ S=>R S) (⟨some d,.binOp .eql T x (.const (.slice none H D)) U,ty,pos,aft,gd⟩::rest) acc S:=by
 refine .inr ⟨Y,λS'=>∃b:Bool,(b=true->rows=[])/\S'=S.set d (.sv (.v (.bool b))),?_,?_⟩
 ·rintro i a w L Q f ⟨E,h⟩ q;refine cW (C:=C) f (K.wanted h (λ_ _=>rfl) rfl) ?_;have g:=h.ev x;rw[hx]at g;obtain⟨f,k,j,p,m⟩:∃f k j,a.eval x=.slice f k j/\(f.isNone=true->rows=[]):=by
   rcases g with⟨_,e,l⟩|⟨b,o,c,e,_⟩
   ·exact⟨_,_,_,e,λ_=>l⟩
   exact⟨_,_,_,e,λh=>by cases h⟩
  have g:(execOp a.eval ⟨some d,.binOp .eql T x (.const (.slice none H D)) U,ty,pos,aft,gd⟩).run P w=.ok (.value (.bool f.isNone)) w:=by
   have r:=Lib.run_eql_slice_nil (P:=P) w T E0 f k j H D tS.u;have l:(eqGuard .eql T x (.const (.slice none H D)) (.slice f k j) (.slice none H D)).run P w=.ok () w:=by simp[eqGuard]
   have j:a.eval (.const (.slice none H D))=.slice none H D:=rfl;simp only[execOp,p,j];simp only[Sem.run_bind,l,r,Result.andThen_ok,Sem.run_pure]
  exact cZ (C:=C) ζ g (q _ _ _ ⟨_,m,rfl⟩ ⟨E,h.put (x:=.sv (.v (.bool f.isNone))) rfl hd rz⟩)
 rintro S' ⟨b,f,rfl⟩;exact I b f
end steps
end
section
open Go.RowKit
def Z4(D:List (Value×Value)):SV where
 h M v:=∃b,v=.map (some b)/\M b 0=some (.tuple ⟨D.map λp=>.tuple #[p.1,p.2]⟩)
 mono hM h:=by obtain⟨b,e,h⟩:=h;exact⟨b,e,hM _ _ _ h⟩
def N8(k:IntKind)(n:Int):List (Value×Value)->Option Value
 |[]=>none
 |(.int a m,v)::l=>if k=a then(if n=m then some v else N8 k n l)else none
 |_::_=>none
theorem Du{k:IntKind}{n:Int}{v:Value}:∀(a:List MapEntry) (i:Nat),N8 k n (a.map λe=>(e.key,e.val))=some v->∃j,Instr.findNow (.int k) (.int k n) a i=some (some (j,v))
 |[],_,h=>by simp[N8]at h
 |⟨key,val,b⟩::a,i,h=>by
  cases key with
  |int b m=>
   simp only[List.map_cons,N8]at h;by_cases c:k=b
   ·subst c;rw[if_pos rfl]at h;by_cases b:n=m
    ·subst b;rw[if_pos rfl]at h;cases h;exact⟨i,by simp[Instr.findNow,Instr.sameNow]⟩
    rw[if_neg b]at h;obtain⟨j,hj⟩:=Du a (i+1) h;have a:(n==m)=false:=by simp[b]
    exact⟨j,by simp[Instr.findNow,Instr.sameNow,a,hj]⟩
   rw[if_neg c]at h;cases h
  |_=>simp[N8]at h
theorem WD:∀(l:List (Value×Value)) (m:List MapEntry),l.map (λp=>Value.tuple #[p.1,p.2])=m.map (λe=>Value.tuple #[e.key,e.val])->m.map (λe=>(e.key,e.val))=l
 |[],[],_=>rfl
 |[],_::_,h=>by simp at h
 |_::_,[],h=>by simp at h
 |(p,q)::l,e::m,h=>by
  simp only[List.map_cons,List.cons.injEq,Value.tuple.injEq]at h⊢;refine⟨?_,WD l m h.2⟩;have:=h.1;simp at this;rw[this.1,this.2]
theorem Z5{D:Array MapEntry}{l:List (Value×Value)}(h:(⟨l.map λp=>.tuple #[p.1,p.2]⟩:Array Value)=aeL D):D.toList.map (λe=>(e.key,e.val))=l:=
 WD l D.toList (congrArg Array.toList h)
theorem getM{P:Program}{w:World}{r:Nat}{D:Array MapEntry}{H:Nat}(I:w.heap[r]? =some (.map D H)):(getObj r).run P w=.ok (.map D H) w:=by simp[getObj,Sem.run,I]
theorem aon{P:Program}{w:World}{r:Nat}{H:Array MapEntry}{I:Nat}(o:Obj)(D:w.heap[r]? =some (.map H I)):(setObj r o).run P w=.ok () {w with heap:=w.heap.setIfInBounds r o}:=by simp[setObj,Sem.run,D]
theorem ckM{P:Program}{w:World}{D:TypeId}{k:IntKind}[I:dZ P D k]{n:Int}(H:Bool):(Instr.checkKey H 10000 D (.int k n)).run P w=.ok () w:=by
 rw[show(10000:Nat)=9999+1 from rfl,Instr.checkKey];simp[underlying,I.h]
section steps
variable {P:Program}{C:Ctx}{ops:Array Oper}{S:AS}{nd:Bool}{K:List Ac->AS->Prop}{rest:List Oper}{acc:List Ac}
variable {gd:Option (Nat×Bool)}{rg:List Nat}{d:Nat}{ty:TypeId}{pos:String}{aft:Array Edge}{x y z:Operand}{T U E0:TypeId}
theorem akF{H et:TypeId}[tM:By P T H et]{k:IntKind}[tI:dZ P H k]{I:List (Value×Value)}{n:Int}(cs:List Value)(hl:N8 k n I=some (.agg ⟨cs⟩))(D:Nx P C ops nd K rest acc S (rg++(bD x++bD y)) [] ⟨some (d,.sv (.agg (cs.map SV.v))),[]⟩)(hx:S.ev x=.sv (Z4 I):=by exact rfl)(hy:S.ev y=.sv (.v (.int k n)):=by exact rfl)(hg:Gd ops S gd rg:=by first|exact .none|exact .some Y Y)(hd:d<S.n:=by exact tl Y):RunT P C ops nd K (⟨some d,.lookup T x y false,ty,pos,aft,gd⟩::rest) acc S:=
 aeY hg (bD x++bD y) [] (.sv (.agg (cs.map SV.v))) hd ζ (λS' ht _ E a w h=>by
  have c:=(h.qy hx ht (λ_ h=>List.mem_append_left _ h)).1;have i:a.eval y=.int k n:=(h.qy hy ht (λ_ h=>List.mem_append_right _ h)).1;obtain⟨b,e,l⟩:=c;obtain⟨f,m,g,c⟩:=h.kf _ _ _ l;have c:=Z5 c;rw[<-c]at hl;obtain⟨j,hj⟩:=Du f.toList 0 hl;refine⟨.agg ⟨cs⟩,?_,⟨cs,Y,SV.jN.GP _ _⟩,rz⟩;have c:(Instr.findKey H (.int k n) f.toList).run P w=.ok (some (j,.agg ⟨cs⟩)) w:=by
   simp[Instr.findKey,underlying,tI.h,hj]
  simp[execOp,e,i,Instr.lookup,underlying,tM.u,getM g,ckM,c]) D
def xw(w:World)(H:Array MapEntry)(D:Nat):World:=w.alloc (.map H D)
theorem yM(w:World)(H:Array MapEntry)(D:Nat):(xw w H D).heap[w.heap.size]? =some (.map H D):=by show(w.heap.push _)[w.heap.size]? =_;simp
theorem run_make{d:Option Nat}{ρ:Operand->Value}{w:World}:(execOp ρ ⟨d,.makeMap T none,ty,pos,aft,none⟩).run P w=.ok (.value (.map (some w.heap.size))) (xw w #[] 0):=by
 simp[execOp,Instr.makeMap,xw]
theorem zS{d:Option Nat}{I K:TypeId}[tM:By P T I K]{k:IntKind}[tI:dZ P I k]{ρ:Operand->Value}{w:World}{D:Array MapEntry}{H:Nat}{n:Int}{v:Value}(hx:ρ x=.map (some w.heap.size))(hy:ρ y=.int k n)(hz:ρ z=v)
  (hf:Instr.findNow (.int k) (.int k n) D.toList 0=some none):(execOp ρ ⟨d,.insert T x y z,ty,pos,aft,none⟩).run P (xw w D H)=.ok .skip (xw w (D.push ⟨.int k n,v,H⟩) (H+1)):=by
 have a:(Instr.findKey I (.int k n) D.toList).run P (xw w D H)=.ok none (xw w D H):=by
  simp[Instr.findKey,underlying,tI.h,hf]
 have b:∀o:Obj,{xw w D H with heap:=(xw w D H).heap.setIfInBounds w.heap.size o}=w.alloc o:=by
  intro o;simp only[xw,World.alloc];congr 1;apply Array.ext';simp
 simp[execOp,hx,hy,hz,Instr.mapUpdate,underlying,tM.u,getM (yM w D H),ckM,a,aon _ (yM w D H)];exact b _
theorem JR{d:Option Nat}{z0:Value}[D:dx P U [(0,1)] [z0]]{ρ:Operand->Value}{w:World}{v:Value}(I:ρ x=v)(H:v.oneCell'=true):(execOp ρ ⟨d,.build U #[(0,x)],ty,pos,aft,none⟩).run P w=.ok (.value (.agg #[v])) w:=by
 have a:=D.h;cases b:P.underlying U with
 |none=>rw[b]at a;cases a
 |some u=>
  rw[b]at a;cases u with
  |struct c=>
   simp only at a;have hz:(zeroValue U).run P w=.ok (.agg ⟨[z0]⟩) w:=ez.run (t:=⟨D.hz⟩) w;have e:(c.mapM (λf=>do pure (f.offset,<-sizeOf f.type):Field->Sem (Nat×Nat))).run P w=.ok #[(0,1)] w:=by
    have:=Bw (P:=P) (w:=w) a;rw[<-Array.toArray_toList (xs:=c),List.mapM_toArray];rw[Sem.run_map,this];rfl
   simp only[execOp,Instr.build,underlying];simp only[Sem.run_bind,hz,Result.andThen_ok,run_program,b,Sem.run_pure,Value.cells];have b:(Array.mapM (λf=>do
     let __do_lift<-sizeOf f.type
     pure (f.offset,__do_lift)) c:Sem _).run P w=.ok #[(0,1)] w:=e
   simp only[b,Result.andThen_ok];have b:Instr.fill (λi=>(#[(0,1)]:Array (Nat×Nat))[i]?) ⟨[z0]⟩ [(0,v)]=some ⟨[v]⟩:=by
    simp[Instr.fill,je H]
    try rfl
   have c:(Array.map (λx=>match x with|(i,x)=>(i,ρ x)) #[(0,x)]).toList=[(0,v)]:=by simp[I]
   simp only[c,b,Sem.run_pure,Result.andThen_ok]
  |_=>cases a
theorem afk{Q:Exit->AS->Prop}{id:Nat}{T U kt et t0:TypeId}[tM:By P T kt et]{k:IntKind}[tI:dZ P kt k]{z0:Value}[tP:dx P U [(0,1)] [z0]]{D H I K:FuncId}{n1 n2 n3 n4:Int}
  {p0 p1 p2 p3 p4 p5 p6 p7 p8 p9 p10:String} {a0 a1 a2 a3 a4 a5 a6 a7 a8 a9 a10:Array Edge} {u1 u2 u3 u4 u5 u6 u7 u8 u9:TypeId} (hn:7<=S.n)
  (h2:Instr.findNow (.int k) (.int k n2) [⟨.int k n1,.agg #[.func (.func D) #[] #[]],0⟩] 0=some none)
  (h3:Instr.findNow (.int k) (.int k n3) [⟨.int k n1,.agg #[.func (.func D) #[] #[]],0⟩,⟨.int k n2,.agg #[.func (.func H) #[] #[]],1⟩] 0=some none)
  (h4:Instr.findNow (.int k) (.int k n4) [⟨.int k n1,.agg #[.func (.func D) #[] #[]],0⟩,⟨.int k n2,.agg #[.func (.func H) #[] #[]],1⟩,⟨.int k n3,.agg #[.func (.func I) #[] #[]],2⟩] 0=some none)
  (hQ:∀S',S'.t 0=.sv (Z4 [(.int k n1,.agg #[.func (.func D) #[] #[]]),(.int k n2,.agg #[.func (.func H) #[] #[]]),(.int k n3,.agg #[.func (.func I) #[] #[]]),(.int k n4,.agg #[.func (.func K) #[] #[]])])->Q .normal S'):
  Ok P C (.region id #[⟨some 1,.makeMap T none,t0,p0,a0,none⟩,⟨some 2,.build U #[(0,.func D)],u1,p1,a1,none⟩,⟨none,.insert T (.tmp 1) (.const (.int k n1)) (.tmp 2),u2,p2,a2,none⟩,
   ⟨some 3,.build U #[(0,.func H)],u3,p3,a3,none⟩,⟨none,.insert T (.tmp 1) (.const (.int k n2)) (.tmp 3),u4,p4,a4,none⟩,⟨some 4,.build U #[(0,.func I)],u5,p5,a5,none⟩,⟨none,.insert T (.tmp 1) (.const (.int k n3)) (.tmp 4),u6,p6,a6,none⟩,
   ⟨some 5,.build U #[(0,.func K)],u7,p7,a7,none⟩,⟨none,.insert T (.tmp 1) (.const (.int k n4)) (.tmp 5),u8,p8,a8,none⟩,⟨some 6,.move (.tmp 1),u9,p9,a9,none⟩,⟨some 0,.assign (.tmp 6),u9,p10,a10,none⟩] false) S Q:=by
 rintro a w ⟨E,h⟩;refine wpIn_region ?_;show wpOpsIn _ _ _ _ _ [0,1,2,3,4,5,6,7,8,9,10] a w;have c:∀(S:AS) (d:Nat) (x:AV),(S.set d x).n=S.n:=λ_ _ _=>rfl;rw[wpOpsIn_cons];refine cW (C:=C) rfl rfl (cZ (C:=C) ζ run_make ?_);have f:=h.put (d:=1) (x:=.sv (.v (.map (some w.heap.size)))) (v:=.map (some w.heap.size)) Y ω rz;show wpOpsIn _ _ _ _ _ _ (a.put (some 1) _) _;generalize a.put (some 1) (.map (some w.heap.size))=g at f⊢;rw[wpOpsIn_cons];refine cW (C:=C) rfl rfl (cZ (C:=C) ζ (JR rfl rfl) ?_);have i:=f.put (d:=2) (x:=.sv (.v (.agg #[.func (.func D) #[] #[]]))) (v:=.agg #[.func (.func D) #[] #[]]) Y (by rw[c];omega) rz;show wpOpsIn _ _ _ _ _ _ (g.put (some 2) (.agg #[.func (.func D) #[] #[]])) _;generalize g.put (some 2) (.agg #[.func (.func D) #[] #[]])=f at i⊢;rw[wpOpsIn_cons];refine cW (C:=C) rfl rfl (cZ (C:=C) ζ (zS (k:=k) (n:=n1) (v:=.agg #[.func (.func D) #[] #[]]) (i.ev (.tmp 1)) rfl (i.ev (.tmp 2)) rfl) ?_);show wpOpsIn _ _ _ _ _ _ (f.put none undef) _;rw[show f.put none undef=f from rfl,wpOpsIn_cons];refine cW (C:=C) rfl rfl (cZ (C:=C) ζ (JR rfl rfl) ?_)
 have g:=i.put (d:=3) (x:=.sv (.v (.agg #[.func (.func H) #[] #[]]))) (v:=.agg #[.func (.func H) #[] #[]]) Y (by rw[c,c];omega) rz;show wpOpsIn _ _ _ _ _ _ (f.put (some 3) (.agg #[.func (.func H) #[] #[]])) _;generalize f.put (some 3) (.agg #[.func (.func H) #[] #[]])=f at g⊢;rw[wpOpsIn_cons];refine cW (C:=C) rfl rfl (cZ (C:=C) ζ (zS (k:=k) (n:=n2) (v:=.agg #[.func (.func H) #[] #[]]) (g.ev (.tmp 1)) rfl (g.ev (.tmp 3)) (by simpa using h2)) ?_);show wpOpsIn _ _ _ _ _ _ (f.put none undef) _;rw[show f.put none undef=f from rfl,wpOpsIn_cons];refine cW (C:=C) rfl rfl (cZ (C:=C) ζ (JR rfl rfl) ?_);have i:=g.put (d:=4) (x:=.sv (.v (.agg #[.func (.func I) #[] #[]]))) (v:=.agg #[.func (.func I) #[] #[]]) Y (by rw[c,c,c];omega) rz;show wpOpsIn _ _ _ _ _ _ (f.put (some 4) (.agg #[.func (.func I) #[] #[]])) _;generalize f.put (some 4) (.agg #[.func (.func I) #[] #[]])=f at i⊢;rw[wpOpsIn_cons];refine cW (C:=C) rfl rfl (cZ (C:=C) ζ (zS (k:=k) (n:=n3) (v:=.agg #[.func (.func I) #[] #[]]) (i.ev (.tmp 1)) rfl (i.ev (.tmp 4)) (by simpa using h3)) ?_);show wpOpsIn _ _ _ _ _ _ (f.put none undef) _
 rw[show f.put none undef=f from rfl,wpOpsIn_cons];refine cW (C:=C) rfl rfl (cZ (C:=C) ζ (JR rfl rfl) ?_);have j:=i.put (d:=5) (x:=.sv (.v (.agg #[.func (.func K) #[] #[]]))) (v:=.agg #[.func (.func K) #[] #[]]) Y (by rw[c,c,c,c];omega) rz;show wpOpsIn _ _ _ _ _ _ (f.put (some 5) (.agg #[.func (.func K) #[] #[]])) _;generalize f.put (some 5) (.agg #[.func (.func K) #[] #[]])=f at j⊢;rw[wpOpsIn_cons];refine cW (C:=C) rfl rfl (cZ (C:=C) ζ (zS (k:=k) (n:=n4) (v:=.agg #[.func (.func K) #[] #[]]) (j.ev (.tmp 1)) rfl (j.ev (.tmp 5)) (by simpa using h4)) ?_);show wpOpsIn _ _ _ _ _ _ (f.put none undef) _;have p:f.eval (.tmp 1)=.map (some w.heap.size):=j.ev (.tmp 1);obtain⟨g,i⟩:∃g:Array MapEntry,(((((#[]:Array MapEntry).push ⟨.int k n1,.agg #[.func (.func D) #[] #[]],0⟩).push ⟨.int k n2,.agg #[.func (.func H) #[] #[]],0+1⟩).push ⟨.int k n3,.agg #[.func (.func I) #[] #[]],0+1+1⟩).push ⟨.int k n4,.agg #[.func (.func K) #[] #[]],0+1+1+1⟩)=g:=⟨_,Y⟩;rw[i];have l:∀o,E.M w.heap.size o=none:=λo=>by
  cases e:E.M w.heap.size o with
  |none=>rfl
  |some v=>have:=qw h.kf e;omega
 have m:=j.grow (M':=λb o=>if b=w.heap.size/\o=0 then some (.tuple (aeL g))else E.M b o) (w':=xw w g (0+1+1+1+1)) (λb o v e=>by
   have:b≠w.heap.size:=by rintro rfl;rw[l o]at e;cases e
   simp[this,e]) (λb o v e=>by
   by_cases j:b=w.heap.size/\o=0
   ·exact .inr ω
   ·simp only[if_neg j]at e;exact .inl e) (λb o v e=>by
   by_cases j:b=w.heap.size/\o=0
   ·simp only[if_pos j]at e;obtain⟨rfl,rfl⟩:=j;cases e;exact⟨g,_,yM w g _,Y⟩
   simp only[if_neg j]at e;have j:=qw h.kf e;refine(h.kf b o v e).same ?_;show(w.heap.push _)[b]? =_;rw[Array.getElem?_push,if_neg ω]) ((Below.refl _ _).alloc (Nat.le_refl _) _)
 have l:∀X:Env,X.M w.heap.size 0=some (.tuple (aeL g))->(Z4 [(.int k n1,.agg #[.func (.func D) #[] #[]]),(.int k n2,.agg #[.func (.func H) #[] #[]]),(.int k n3,.agg #[.func (.func I) #[] #[]]),(.int k n4,.agg #[.func (.func K) #[] #[]])]).h X.M (.map (some w.heap.size)):=λX g=>by
  refine⟨_,Y,?_⟩;rw[g,<-i];rfl
 have g:=m.put (d:=6) (x:=.sv (.v (.map (some w.heap.size)))) (v:=.map (some w.heap.size)) Y (by rw[c,c,c,c,c];omega) rz;rw[show f.put none undef=f from rfl,wpOpsIn_cons];refine cW (C:=C) rfl rfl (cZ (C:=C) ζ (r:=.ok (.value (.map (some w.heap.size))) _) (by show Result.ok (Next.value (f.eval (.tmp 1))) _=_;rw[p]) ?_);show wpOpsIn _ _ _ _ _ _ (f.put (some 6) (.map (some w.heap.size))) _;generalize f.put (some 6) (.map (some w.heap.size))=f at g⊢;have i:f.eval (.tmp 6)=.map (some w.heap.size):=g.ev (.tmp 6);have j:=g.put (d:=0) (x:=.sv (Z4 [(.int k n1,.agg #[.func (.func D) #[] #[]]),(.int k n2,.agg #[.func (.func H) #[] #[]]),(.int k n3,.agg #[.func (.func I) #[] #[]]),(.int k n4,.agg #[.func (.func K) #[] #[]])])) (v:=.map (some w.heap.size)) (l _ η) (by rw[c,c,c,c,c,c];omega) rz;rw[wpOpsIn_cons];refine cW (C:=C) rfl rfl (cZ (C:=C) ζ (r:=.ok (.value (.map (some w.heap.size))) _) (by show Result.ok (Next.value (f.eval (.tmp 6))) _=_;rw[i]) ?_);show wpOpsIn _ _ _ _ _ _ (f.put (some 0) (.map (some w.heap.size))) _;rw[wpOpsIn];exact⟨_,hQ _ Y,_,j⟩
end steps
theorem qS{P:Program}{b:Frame}{a:Act}{k:List Item}{cs:List Frame}{w:World}{c:Code}:step P (lone (b.atR a (.code (.scope c)::k)) cs w)=.next (lone (b.atR a (.code c:: .inScope c::k)) cs w):=
 step_lone_go (by simp[stepG,stepG.exec,Frame.atR])
theorem M9{P:Program}{b:Frame}{a:Act}{k:List Item}{cs:List Frame}{w:World}{c:Code}:step P (lone (b.atR a (.inScope c::k)) cs w)=.next (lone (b.atR a k) cs w):=
 step_lone_go (by simp[stepG,stepG.exec,Frame.atR])
theorem Uf{F:Fence}{n:Nat}{P:Program}{Q:Exit->Act->World->Prop}{a:Act}{w:World}{c:Code}(h:c.wpIn F n P (Exit.noGoto Q) a w):(Code.scope c).wpIn F n P Q a w:=by
 intro b k cs o m hr;have j:(lone (b.atR a (.code (.scope c)::k)) cs w).fenced P F:=fenced_calm m hr Y;obtain⟨e,f,d,g,i⟩:=h b (.inScope c::k) cs o m hr;cases e with
 |normal=>exact⟨.normal,f,d,g,.head j qS (StepsIn.trans i (.one (fenced_calm m hr Y) M9))⟩
 |exit p=>
  have q:exitTo p (.inScope c::k)=exitTo p k:=by simp[exitTo]
  exact⟨.exit p,f,d,g,λr m=>.head j qS (i.1 r (by rw[q];exact m)),
   λo m=>let ⟨k₁,h1,h2⟩:=i.2 o (by rw[q];exact m);⟨k₁,h1,.head j qS h2⟩⟩
 |goto l=>exact g.elim
 |ret=>exact⟨_,f,d,g,.of_steps (.one j qS) i⟩
 |panic m=>exact⟨_,f,d,g,.of_steps (.one j qS) i⟩
 |outgrown=>exact⟨_,f,d,g,.of_steps (.one j qS) i⟩
def Ze(Q:Exit->AS->Prop):Exit->AS->Prop
 |.goto _,_=>False
 |e,S=>Q e S
section scope
variable {P:Program}{C:Ctx}{S:AS}{Q:Exit->AS->Prop}
theorem Ze.n(h:Q .normal S):Ze Q .normal S:=h
theorem Ze.r(h:Q .ret S):Ze Q .ret S:=h
theorem BF{c:Code}(h:Ok P C c S (Ze Q)):Ok P C (.scope c) S Q:=λa w b=>by
 refine Uf (wpIn_mono (h a w b) ?_);rintro e b w' ⟨S',q,b⟩;cases e<;>first|exact⟨S',q,b⟩|exact q.elim
theorem BG{l:Nat}(h:Q .normal S):Ok P C (.label l) S Q:=λ_ _ a=>wpIn_label ⟨S,h,a⟩
end scope
end
section
open Go.RowKit
abbrev Str:=List UInt8
def bs(l:Str):ByteArray:=⟨⟨l⟩⟩
def Dv(l:Str)(i:Int):Option Nat:=(bV l i).map UInt8.toNat
theorem afm(l:Str):(bs l).size=l.length:=rfl
theorem ir(l:Str)(i:Nat):(bs l)[i]? =l[i]? :=by
 rcases Nat.lt_or_ge i l.length with h|h
 ·rw[getElem?_pos (bs l) i h,List.getElem?_eq_getElem h];rfl
 rw[getElem?_neg (bs l) i (by rw[afm];omega),List.getElem?_eq_none h]
section steps
variable {P:Program}{C:Ctx}{ops:Array Oper}{S:AS}{nd:Bool}{K:List Ac->AS->Prop}{rest:List Oper}{acc:List Ac}
variable {gd:Option (Nat×Bool)}{rg:List Nat}{d:Nat}{ty:TypeId}{pos:String}{aft:Array Edge}{x y z:Operand}{T U E0:TypeId}{l:Str}{R:Type}{r:R}
theorem anI[tS:aho P T]{H:IntKind}{i:Int}{f:Nat->Option R}(hx:S.ev x=.sv (.v (.string (bs l))))(h:Option.bind (Dv l i) f=some r)(D:∀c,f c=some r->Nx P C ops nd K rest acc S (rg++(bD x++bD y)) [] ⟨some (d,.sv (.v (.int .u8 ((c:Nat):Int)))),[]⟩)(I:S.ev y=.sv (.v (.int H i)):=by exact rfl)(hg:Gd ops S gd rg:=by first|exact .none|exact .some Y Y)(hd:d<S.n:=by exact tl Y):RunT P C ops nd K (⟨some d,.index T x y,ty,pos,aft,gd⟩::rest) acc S:=by
 obtain⟨c,e,h⟩:=bind_some h;refine aeY hg (bD x++bD y) [] _ hd ζ (λS' ht _ E a w g=>?_) (D c h);have o:a.eval x=.string (bs l):=(g.qy hx ht (λ_ h=>List.mem_append_left _ h)).1;have m:a.eval y=.int H i:=(g.qy I ht (λ_ h=>List.mem_append_right _ h)).1;unfold Dv at e;cases g:bV l i with
 |none=>rw[g]at e;cases e
 |some b=>
  rw[g]at e;obtain⟨j,k⟩:=NX g;have g:b.toNat=c:=aob e;have e:(bs l)[i.toNat]? =some b:=by rw[ir];exact k
  exact⟨.int .u8 (c:Nat),by simp[execOp,o,m,Instr.index,asIntOf,underlying,tS.h,j,e,g],Y,rz⟩
end steps
end
section
open Go.RowKit
def ajX(P:Program)(s:SV)(args:List SV)(r:SV):Prop:=∀(M:Mem) (v:Value),s.h M v->∃f bs cs,v=.func (.func f) ⟨bs⟩ ⟨cs⟩/\cE P f/\
 ∀(w:World) (xs:List Value),M.kf w->SV.jN M args xs->Calls P f ⟨bs++(xs++cs)⟩ w λe w'=>∃v M',e=.returned v/\M.le M'/\(∀b o x,M' b o=some x->M b o=some x\/w.heap.size<=b)/\M'.kf w'/\r.h M' v/\Below w.heap.size w w'
theorem R6{P:Program}{f:FuncId}{bs cs args:List SV}{r:SV}[D:cE P f](h:Pure P f (bs++(args++cs)) r):ajX P (gg f bs cs) args r:=λM v ⟨us,vs,e,a,d⟩=>⟨f,us,vs,e,D,λw xs b c=>h M w _ b (SV.jN.append a (SV.jN.append c d))⟩
section steps
variable {P:Program}{C:Ctx}{ops:Array Oper}{S:AS}{nd:Bool}{K:List Ac->AS->Prop}{rest:List Oper}{acc:List Ac}
variable {gd:Option (Nat×Bool)}{rg:List Nat}{d:Nat}{ty:TypeId}{pos:String}{aft:Array Edge}{g:Operand}{R β:Type}{r:R}{at_:Array TypeId}{xs:Array Operand}
theorem anv{s:SV}{m:Option β}{args:List SV}{res:β->SV}{k:β->Option R}(D:S.ev g=.sv s)(h:Option.bind m k=some r)(hp:∀y,m=some y->ajX P s args (res y))(H:∀y,k y=some r->Nx P C ops nd K rest acc S (rg++(bD g++xs.toList.flatMap bD)) [] ⟨some (d,.sv (res y)),[]⟩)(hargs:xs.toList.map S.ev=args.map AV.sv:=by exact rfl)(I:Gd ops S gd rg:=by first|exact .none|exact .some Y Y)(hd:d<S.n:=by exact tl Y):RunT P C ops nd K (⟨some d,.call ⟨.value g,xs,at_⟩,ty,pos,aft,gd⟩::rest) acc S:=by
 obtain⟨y,j,h⟩:=bind_some h;refine .inl ⟨_,[],_,?_,H y h⟩;rintro S' b ht _ i a w L Q b ⟨E,h⟩ p;refine cW (C:=C) b (I.wanted h (λs D=>ht s (List.mem_append_left _ D)) Y) ?_;have c:=h.ev g;rw[tR (λ_ h=>List.mem_append_right _ (List.mem_append_left _ h)) ht,D]at c;obtain⟨f,bs,cs,b,o,l⟩:=hp y j _ _ c;have c:=tX h (S:=S) (xs:=xs.toList) (λs D=>ht s (List.mem_append_right _ (List.mem_append_right _ D)));rw[hargs]at c;have hr:(execOp a.eval ⟨some d,.call ⟨.value g,xs,at_⟩,ty,pos,aft,gd⟩).run P w=.ok (.enter f ⟨bs++(xs.toList.map a.eval++cs)⟩) w:=by
  have o:(⟨bs⟩++xs.map a.eval)++⟨cs⟩=(⟨bs++(xs.toList.map a.eval++cs)⟩:Array Value):=by apply Array.ext';simp
  have j:=cE.run (P:=P) (f:=f) ((⟨bs⟩++xs.map a.eval)++⟨cs⟩) w;rw[<-o];simp[execOp,resolve,b,Deferred.ofValue,invoke]at j⊢;exact j
 refine cZ (C:=C) ζ hr ?_;refine⟨λh=>by simp at h,yE ((l w _ h.kf c.Bq).mono ?_)⟩;rintro e w' ⟨v,M',rfl,l,b,c,j,o⟩;exact p _ _ ⟨_,(h.grow l b c o).put (x:=.sv (res y)) j (by show d<S'.n;omega) rz⟩
end steps
end
section
open Go.RowKit
def Na{α:Type}(ll:List (List α))(v:Int):Option (Nat×List α):=Option.bind (fG ll v) λk=>Option.bind ll[k]? λl=>some (k,l)
def ll2{α:Type}(ll:List (List α))(i j:Nat):Option (List α×List α):=if i=j then none else Option.bind ll[i]? λa=>Option.bind ll[j]? λb=>some (a,b)
section
variable {α:Type}{ll:List (List α)}{v:Int}{k:Nat}{l:List α}
theorem Pv(h:Na ll v=some (k,l)):fG ll v=some k/\ll[k]? =some l:=by
 obtain⟨a,b,h⟩:=bind_some h;obtain⟨c,a,h⟩:=bind_some h;cases h;exact⟨b,a⟩
theorem nI(h:Na ll v=some (k,l)):fG ll v=some k:=(Pv h).1
theorem qC(h:Na ll v=some (k,l)):ll[k]? =some l:=(Pv h).2
theorem gh(h:Na ll v=some (k,l)):Option.isSome ll[k]? =true:=by rw[(Pv h).2];rfl
theorem KB(h:ll[k]? =some l):Option.isSome ll[k]? =true:=by rw[h];rfl
variable {i j:Nat}{a b:List α}
theorem qj(h:ll2 ll i j=some (a,b)):i≠j/\ll[i]? =some a/\ll[j]? =some b:=by
 unfold ll2 at h;split at h
 ·cases h
 obtain⟨c,d,h⟩:=bind_some h;obtain⟨b',c,h⟩:=bind_some h;cases h;exact⟨by assumption,d,c⟩
theorem nm1(h:i≠j)(q:Nat):j∉[(i,q)].map (·.1):=by simpa using Ne.symm h
theorem BH{q:Nat}:∀p∈[(j,q)],p.1=j:=λp hp=>by rw[List.mem_singleton]at hp;rw[hp]
theorem zJ:j∉([]:List (Nat×Nat)).map (·.1):=by simp
theorem Z6(h:Option.isSome ll[i]? =true):Option.isSome (ll.set k l)[i]? =true:=by
 rw[List.getElem?_set];split
 ·split
  ·rfl
  rename_i q _;subst q;rw[List.getElem?_eq_none ω]at h;cases h
 exact h
end
section steps
variable {P:Program}{C:Ctx}{ops:Array Oper}{S:AS}{nd:Bool}{K:List Ac->AS->Prop}{rest:List Oper}{acc:List Ac}
variable {gd:Option (Nat×Bool)}{rg:List Nat}{d:Nat}{ty:TypeId}{pos:String}{aft:Array Edge}{x:Operand}{T U E0:TypeId}
theorem anw{n H D:Nat}[tS:ku P T E0 n](I:Nx P C ops nd K rest acc S (rg++bD x) [] ⟨some (d,.sv (.v (.bool false))),[]⟩)(hx:S.ev x=.sv (.v (.slice none 0 0)):=by exact rfl)(hg:Gd ops S gd rg:=by first|exact .none|exact .some Y Y)(hd:d<S.n:=by exact tl Y):RunT P C ops nd K (⟨some d,.binOp .neq T x (.const (.slice none H D)) U,ty,pos,aft,gd⟩::rest) acc S:=by
 refine aeY (S:=S) hg (bD x) [] _ hd ζ (λS' ht _ E a w h=>?_) I
 have b:=h.ev x;rw[tR (λ_ h=>h) ht,hx]at b;have c:a.eval x=.slice none 0 0:=b;have e:a.eval (.const (.slice none H D))=.slice none H D:=rfl;have f:(binOp .neq T (.slice none 0 0) (.slice none H D)).run P w=.ok (.bool false) w:=by
  simp only[binOp];simp[Op.equal,Op.maxDepth,Lib.run_equalIn_slice_nil w 9999 T E0 none 0 0 H D tS.u]
 have b:(eqGuard .neq T x (.const (.slice none H D)) (.slice none 0 0) (.slice none H D)).run P w=.ok () w:=by simp[eqGuard]
 refine⟨.bool false,?_,Y,rz⟩;simp only[execOp,c,e];simp only[Sem.run_bind,b,f,Result.andThen_ok,Sem.run_pure]
end steps
end
section
open Go.RowKit
section steps
variable {P:Program}{C:Ctx}{S:AS}{Q:Exit->AS->Prop}{id:Nat}{T kt et:TypeId}
theorem Pw[tM:By P T kt et]{k D:IntKind}[tI:dZ P kt k]{n K H n3 I e2 e3 e:Int}{j:Nat}
  {p0 p1 p2 p3 p4 p5 p6 p7:String} {a0 a1 a2 a3 a4 a5 a6 a7:Array Edge} {u0 u1 u2 u3 u4 u5 u6 u7:TypeId} (hn:7<=S.n) (hx:S.t 0=.sv (.v (.int k n)))
  (h2:Instr.findNow (.int k) (.int k H) [⟨.int k K,.int D I,0⟩] 0=some none)
  (h3:Instr.findNow (.int k) (.int k n3) [⟨.int k K,.int D I,0⟩,⟨.int k H,.int D e2,1⟩] 0=some none)
  (hf:Instr.findNow (.int k) (.int k n) [⟨.int k K,.int D I,0⟩,⟨.int k H,.int D e2,1⟩,⟨.int k n3,.int D e3,2⟩] 0=some (some (j,.int D e)))
  (hQ:∀S',S'.t 2=.sv (.v (.int D e))->Q .normal S'):
  Ok P C (.region id #[⟨some 3,.makeMap T none,u0,p0,a0,none⟩,⟨none,.insert T (.tmp 3) (.const (.int k K)) (.const (.int D I)),u1,p1,a1,none⟩,⟨none,.insert T (.tmp 3) (.const (.int k H)) (.const (.int D e2)),u2,p2,a2,none⟩,
   ⟨none,.insert T (.tmp 3) (.const (.int k n3)) (.const (.int D e3)),u3,p3,a3,none⟩,⟨some 4,.move (.tmp 3),u4,p4,a4,none⟩,⟨some 5,.move (.tmp 0),u5,p5,a5,none⟩,⟨some 6,.lookup T (.tmp 4) (.tmp 5) false,u6,p6,a6,none⟩,⟨some 2,.assign (.tmp 6),u7,p7,a7,none⟩] false) S Q:=by
 rintro a w ⟨E,h⟩;refine wpIn_region ?_;show wpOpsIn _ _ _ _ _ [0,1,2,3,4,5,6,7] a w;have f:∀(S:AS) (d:Nat) (x:AV),(S.set d x).n=S.n:=λ_ _ _=>rfl;rw[wpOpsIn_cons];refine cW (C:=C) rfl rfl (cZ (C:=C) ζ run_make ?_);have c:a.eval (.tmp 0)=.int k n:=by have:=h.ev (.tmp 0);rw[show S.ev (.tmp 0)=_ from hx]at this;exact this
 have m:=h.put (d:=3) (x:=.sv (.v (.map (some w.heap.size)))) (v:=.map (some w.heap.size)) Y ω rz;have g:=m.ev (.tmp 0);rw[show(S.set 3 (.sv (.v (.map (some w.heap.size))))).ev (.tmp 0)=.sv (.v (.int k n))from(AS.lU _ _ _ _ ξ).trans hx]at g;show wpOpsIn _ _ _ _ _ _ (a.put (some 3) _) _;generalize a.put (some 3) (.map (some w.heap.size))=c at m g⊢;have g:c.eval (.tmp 3)=.map (some w.heap.size):=m.ev (.tmp 3);rw[wpOpsIn_cons];refine cW (C:=C) rfl rfl (cZ (C:=C) ζ (zS (k:=k) (n:=K) (v:=.int D I) g rfl rfl rfl) ?_);show wpOpsIn _ _ _ _ _ _ (c.put none undef) _;rw[show c.put none undef=c from rfl,wpOpsIn_cons];refine cW (C:=C) rfl rfl (cZ (C:=C) ζ (zS (k:=k) (n:=H) (v:=.int D e2) g rfl rfl (by simpa using h2)) ?_);show wpOpsIn _ _ _ _ _ _ (c.put none undef) _;rw[show c.put none undef=c from rfl,wpOpsIn_cons];refine cW (C:=C) rfl rfl (cZ (C:=C) ζ (zS (k:=k) (n:=n3) (v:=.int D e3) g rfl rfl (by simpa using h3)) ?_);show wpOpsIn _ _ _ _ _ _ (c.put none undef) _;rw[show c.put none undef=c from rfl]
 obtain⟨i,l⟩:∃i:Array MapEntry,(((#[]:Array MapEntry).push ⟨.int k K,.int D I,0⟩).push ⟨.int k H,.int D e2,0+1⟩).push ⟨.int k n3,.int D e3,0+1+1⟩=i:=⟨_,Y⟩;rw[l];have p:i.toList=[⟨.int k K,.int D I,0⟩,⟨.int k H,.int D e2,1⟩,⟨.int k n3,.int D e3,2⟩]:=by rw[<-l];rfl
 have q:=m.grow (M':=E.M) (w':=xw w i (0+1+1+1)) (Mem.le_refl _) (λ_ _ _ e=>.inl e) (λb o v e=>by
   have l:=qw h.kf e;refine(h.kf b o v e).same ?_;show(w.heap.push _)[b]? =_;rw[Array.getElem?_push,if_neg ω]) ((Below.refl _ _).alloc (Nat.le_refl _) _)
 have l:=q.put (d:=4) (x:=.sv (.v (.map (some w.heap.size)))) (v:=.map (some w.heap.size)) Y (by rw[f];omega) rz;rw[wpOpsIn_cons];refine cW (C:=C) rfl rfl (cZ (C:=C) ζ (r:=.ok (.value (.map (some w.heap.size))) _) (by show Result.ok (Next.value (c.eval (.tmp 3))) _=_;rw[g]) ?_);have m:(c.put (some 4) (.map (some w.heap.size))).eval (.tmp 0)=.int k n:=by
  have:=l.ev (.tmp 0);rw[show((S.set 3 (.sv (.v (.map (some w.heap.size))))).set 4 (.sv (.v (.map (some w.heap.size))))).ev (.tmp 0)=.sv (.v (.int k n))from(AS.lU _ _ _ _ ξ).trans ((AS.lU _ _ _ _ ξ).trans hx)]at this;exact this
 show wpOpsIn _ _ _ _ _ _ (c.put (some 4) (.map (some w.heap.size))) _;generalize c.put (some 4) (.map (some w.heap.size))=g at l m⊢;rw[wpOpsIn_cons];refine cW (C:=C) rfl rfl (cZ (C:=C) ζ (r:=.ok (.value (.int k n)) _) (by show Result.ok (Next.value (g.eval (.tmp 0))) _=_;rw[m]) ?_);have c:=l.put (d:=5) (x:=.sv (.v (.int k n))) (v:=.int k n) Y (by rw[f,f];omega) rz;have m:(g.put (some 5) (.int k n)).eval (.tmp 4)=.map (some w.heap.size):=c.ev (.tmp 4);show wpOpsIn _ _ _ _ _ _ (g.put (some 5) (.int k n)) _;generalize g.put (some 5) (.int k n)=l at c m⊢;have q:l.eval (.tmp 5)=.int k n:=c.ev (.tmp 5);have g:∀W:World,(Instr.findKey kt (.int k n) i.toList).run P W=.ok (some (j,.int D e)) W:=λW=>by
  rw[p];simp[Instr.findKey,underlying,tI.h,hf]
 rw[wpOpsIn_cons];refine cW (C:=C) rfl rfl (cZ (C:=C) ζ (r:=.ok (.value (.int D e)) (xw w i (0+1+1+1))) (by
  simp[execOp,m,q,Instr.lookup,underlying,tM.u,getM (yM w i _),ckM,g]) ?_)
 have g:=c.put (d:=6) (x:=.sv (.v (.int D e))) (v:=.int D e) Y (by rw[f,f,f];omega) rz;show wpOpsIn _ _ _ _ _ _ (l.put (some 6) (.int D e)) _;generalize l.put (some 6) (.int D e)=c at g⊢;have l:c.eval (.tmp 6)=.int D e:=g.ev (.tmp 6);have i:=g.put (d:=2) (x:=.sv (.v (.int D e))) (v:=.int D e) Y (by rw[f,f,f,f];omega) rz;rw[wpOpsIn_cons];refine cW (C:=C) rfl rfl (cZ (C:=C) ζ (r:=.ok (.value (.int D e)) _) (by show Result.ok (Next.value (c.eval (.tmp 6))) _=_;rw[l]) ?_);show wpOpsIn _ _ _ _ _ _ (c.put (some 2) (.int D e)) _;rw[wpOpsIn];exact⟨_,hQ _ Y,_,i⟩
end steps
end
end Go.Fw
namespace Go.Proofs.YtianbhacbgnboaaGreat
section
open Go.Fw
open Go.Proofs
noncomputable abbrev ah:=Tryz.prog
instance:uG ah 1:={}
instance:dZ ah 2 .i64:={}
instance:uG ah 2:={}
instance:oh ah 2 1 8 (.int .i64 0):={}
instance:dZ ah 3 .i64:={}
instance:uG ah 3:={}
instance:ez ah 3 (.int .i64 0):={}
instance:oh ah 3 1 8 (.int .i64 0):={}
instance:Ph ah 4:={}
instance:uG ah 4:={}
instance:oh ah 4 1 1 (.bool false):={}
instance:dZ ah 5 .u8:={}
instance:uG ah 5:={}
instance:aho ah 9:={}
instance:uG ah 22:={}
instance:ku ah 22 160 4:={}
instance:vI ah 24 2:={}
instance:Dr ah 24:=⟨λw=>⟨1,vI.size (T:=24) (n:=2) w⟩⟩
instance:dx ah 24 [(0,1),(1,1)] [.int .i64 0,.slice none 0 0]:={}
instance:kH ah 24 0 0 3:={}
instance:kH ah 24 1 1 22:={}
instance:uG ah 25:={}
instance:ez ah 25 (.slice none 0 0):={}
instance:ku ah 25 3 1:={}
instance:uG ah 26:={}
instance:ku ah 26 50 9:={}
instance:uG ah 27:={}
instance:ku ah 27 4 1:={}
instance:uG ah 28:={}
instance:ku ah 28 78 2:={}
instance:vI ah 30 6:={}
instance:ez ah 30 (.agg #[.int .i64 0,.slice none 0 0,.slice none 0 0,.slice none 0 0,.slice none 0 0,.slice none 0 0]):={}
instance:dx ah 30 [(0,2),(2,1),(3,1),(4,1),(5,1)] [.int .i64 0,.slice none 0 0,.slice none 0 0,.slice none 0 0,.slice none 0 0,.slice none 0 0]:={}
instance:kH ah 30 0 0 24:={}
instance:kH ah 30 1 2 25:={}
instance:kH ah 30 2 3 26:={}
instance:kH ah 30 3 4 27:={}
instance:kH ah 30 4 5 28:={}
instance:dZ ah 31 .i16:={}
instance:uG ah 34:={}
instance:ez ah 34 (.slice none 0 0):={}
instance:ku ah 34 35 1:={}
instance:uG ah 35:={}
instance:ez ah 35 (.slice none 0 0):={}
instance:oh ah 35 1 24 (.slice none 0 0):={}
instance:ku ah 35 40 4:={}
instance:uG ah 36:={}
instance:ez ah 36 (.slice none 0 0):={}
instance:ku ah 36 189 1:={}
instance:vI ah 38 2:={}
instance:Dr ah 38:=⟨λw=>⟨1,vI.size (T:=38) (n:=2) w⟩⟩
instance:ez ah 38 (.agg #[.bool false,.slice none 0 0]):={}
instance:dx ah 38 [(0,1),(1,1)] [.bool false,.slice none 0 0]:={}
instance:kH ah 38 0 0 4:={}
instance:kH ah 38 1 1 36:={}
instance:vI ah 40 4:={}
instance:Dr ah 40:=⟨λw=>⟨3,vI.size (T:=40) (n:=4) w⟩⟩
instance:ez ah 40 (.agg #[.bool false,.slice none 0 0,.bool false,.slice none 0 0]):={}
instance:oh ah 40 4 64 (.agg #[.bool false,.slice none 0 0,.bool false,.slice none 0 0]):={}
instance:dx ah 40 [(0,2),(2,2)] [.bool false,.slice none 0 0,.bool false,.slice none 0 0]:={}
instance:kH ah 40 0 0 38:={}
instance:kH ah 40 1 2 38:={}
instance:vI ah 42 15:={}
instance:ez ah 42 (.agg #[.slice none 0 0,.slice none 0 0,.slice none 0 0,.slice none 0 0,.slice none 0 0,.slice none 0 0,.slice none 0 0,.bool false,.slice none 0 0,.bool false,.slice none 0 0,.bool false,.slice none 0 0,.bool false,.slice none 0 0]):={}
instance:dx ah 42 [(0,1),(1,1),(2,1),(3,1),(4,1),(5,1),(6,1),(7,4),(11,4)] [.slice none 0 0,.slice none 0 0,.slice none 0 0,.slice none 0 0,.slice none 0 0,.slice none 0 0,.slice none 0 0,.bool false,.slice none 0 0,.bool false,.slice none 0 0,.bool false,.slice none 0 0,.bool false,.slice none 0 0]:={}
instance:kH ah 42 0 0 34:={}
instance:kH ah 42 1 1 34:={}
instance:kH ah 42 2 2 35:={}
instance:kH ah 42 3 3 35:={}
instance:kH ah 42 4 4 35:={}
instance:kH ah 42 5 5 35:={}
instance:kH ah 42 6 6 35:={}
instance:kH ah 42 7 7 40:={}
instance:kH ah 42 8 11 40:={}
instance:dZ ah 43 .i64:={}
instance:vI ah 47 2:={}
instance:Dr ah 47:=⟨λw=>⟨1,vI.size (T:=47) (n:=2) w⟩⟩
instance:ez ah 47 (.agg #[.int .i64 0,.int .i64 0]):={}
instance:oh ah 47 2 16 (.agg #[.int .i64 0,.int .i64 0]):={}
instance:dx ah 47 [(0,1),(1,1)] [.int .i64 0,.int .i64 0]:={}
instance:kH ah 47 0 0 2:={}
instance:kH ah 47 1 1 2:={}
instance:uG ah 48:={}
instance:oh ah 48 1 24 (.slice none 0 0):={}
instance:ku ah 48 47 2:={}
instance:vI ah 50 9:={}
instance:ez ah 50 (.agg #[.int .i64 0,.int .i64 0,.slice none 0 0,.int .i64 0,.int .i64 0,.int .i64 0,.int .i64 0,.int .i64 0,.int .i64 0]):={}
instance:oh ah 50 9 88 (.agg #[.int .i64 0,.int .i64 0,.slice none 0 0,.int .i64 0,.int .i64 0,.int .i64 0,.int .i64 0,.int .i64 0,.int .i64 0]):={}
instance:dx ah 50 [(0,1),(1,1),(2,1),(3,1),(4,1),(5,1),(6,1),(7,1),(8,1)] [.int .i64 0,.int .i64 0,.slice none 0 0,.int .i64 0,.int .i64 0,.int .i64 0,.int .i64 0,.int .i64 0,.int .i64 0]:={}
instance:kH ah 50 0 0 3:={}
instance:kH ah 50 1 1 2:={}
instance:kH ah 50 2 2 48:={}
instance:kH ah 50 3 3 3:={}
instance:kH ah 50 4 4 3:={}
instance:kH ah 50 5 5 2:={}
instance:kH ah 50 6 6 2:={}
instance:kH ah 50 7 7 2:={}
instance:kH ah 50 8 8 3:={}
instance:uG ah 51:={}
instance:uG ah 55:={}
instance:ez ah 55 (.slice none 0 0):={}
instance:ku ah 55 83 3:={}
instance:uG ah 58:={}
instance:oh ah 58 1 24 (.slice none 0 0):={}
instance:ku ah 58 48 1:={}
instance:uG ah 59:={}
instance:ez ah 59 (.slice none 0 0):={}
instance:ku ah 59 2 1:={}
instance:vI ah 61 5:={}
instance:ez ah 61 (.agg #[.int .i64 0,.int .i64 0,.int .i64 0,.slice none 0 0,.slice none 0 0]):={}
instance:dx ah 61 [(0,1),(1,1),(2,1),(3,1),(4,1)] [.int .i64 0,.int .i64 0,.int .i64 0,.slice none 0 0,.slice none 0 0]:={}
instance:kH ah 61 0 0 2:={}
instance:kH ah 61 1 1 2:={}
instance:kH ah 61 2 2 2:={}
instance:vI ah 78 2:={}
instance:ez ah 78 (.agg #[.int .i64 0,.slice none 0 0]):={}
instance:oh ah 78 2 32 (.agg #[.int .i64 0,.slice none 0 0]):={}
instance:dx ah 78 [(0,1),(1,1)] [.int .i64 0,.slice none 0 0]:={}
instance:kH ah 78 0 0 3:={}
instance:kH ah 78 1 1 48:={}
instance:vI ah 83 3:={}
instance:Dr ah 83:=⟨λw=>⟨2,vI.size (T:=83) (n:=3) w⟩⟩
instance:ez ah 83 (.agg #[.bool false,.int .i64 0,.int .i64 0]):={}
instance:oh ah 83 3 24 (.agg #[.bool false,.int .i64 0,.int .i64 0]):={}
instance:dx ah 83 [(0,1),(1,1),(2,1)] [.bool false,.int .i64 0,.int .i64 0]:={}
instance:kH ah 83 0 0 4:={}
instance:kH ah 83 1 1 3:={}
instance:kH ah 83 2 2 3:={}
instance:uG ah 85:={}
instance:ez ah 85 (.slice none 0 0):={}
instance:ku ah 85 138 3:={}
instance:vI ah 95 4:={}
instance:Dr ah 95:=⟨λw=>⟨3,vI.size (T:=95) (n:=4) w⟩⟩
instance:ez ah 95 (.agg #[.int .i64 0,.slice none 0 0,.slice none 0 0,.slice none 0 0]):={}
instance:dx ah 95 [(0,1),(1,1),(2,1),(3,1)] [.int .i64 0,.slice none 0 0,.slice none 0 0,.slice none 0 0]:={}
instance:kH ah 95 0 0 3:={}
instance:kH ah 95 1 1 34:={}
instance:kH ah 95 2 2 34:={}
instance:kH ah 95 3 3 35:={}
instance:vI ah 103 6:={}
instance:Dr ah 103:=⟨λw=>⟨5,vI.size (T:=103) (n:=6) w⟩⟩
instance:ez ah 103 (.agg #[.int .i64 0,.slice none 0 0,.slice none 0 0,.slice none 0 0,.int .i64 0,.slice none 0 0]):={}
instance:dx ah 103 [(0,2),(2,1),(3,1),(4,1),(5,1)] [.int .i64 0,.slice none 0 0,.slice none 0 0,.slice none 0 0,.int .i64 0,.slice none 0 0]:={}
instance:kH ah 103 0 0 24:={}
instance:kH ah 103 1 2 25:={}
instance:kH ah 103 2 3 25:={}
instance:kH ah 103 3 4 3:={}
instance:kH ah 103 4 5 34:={}
instance:vI ah 111 7:={}
instance:dx ah 111 [(0,6),(6,1)] [.int .i64 0,.slice none 0 0,.slice none 0 0,.slice none 0 0,.int .i64 0,.slice none 0 0,.slice none 0 0]:={}
instance:kH ah 111 0 0 103:={}
instance:kH ah 111 1 6 35:={}
instance:uG ah 118:={}
instance:dx ah 120 [(0,1)] [.nilFunc]:={}
instance:kH ah 120 0 0 118:={}
instance:By ah 121 5 120:={}
instance:dZ ah 123 .u64:={}
instance:uG ah 123:={}
instance:vI ah 138 3:={}
instance:ez ah 138 (.agg #[.int .i64 0,.int .i64 0,.slice none 0 0]):={}
instance:oh ah 138 3 40 (.agg #[.int .i64 0,.int .i64 0,.slice none 0 0]):={}
instance:dx ah 138 [(0,1),(1,1),(2,1)] [.int .i64 0,.int .i64 0,.slice none 0 0]:={}
instance:kH ah 138 0 0 2:={}
instance:kH ah 138 1 1 2:={}
instance:kH ah 138 2 2 59:={}
instance:ku ah 144 58 1:={}
instance:uG ah 152:={}
instance:ez ah 152 (.pointer none):={}
instance:vI ah 156 7:={}
instance:ez ah 156 (.agg #[.bool false,.int .i64 0,.int .i64 0,.int .i64 0,.int .i64 0,.int .i64 0,.int .i64 0]):={}
instance:oh ah 156 7 56 (.agg #[.bool false,.int .i64 0,.int .i64 0,.int .i64 0,.int .i64 0,.int .i64 0,.int .i64 0]):={}
instance:dx ah 156 [(0,3),(3,1),(4,2),(6,1)] [.bool false,.int .i64 0,.int .i64 0,.int .i64 0,.int .i64 0,.int .i64 0,.int .i64 0]:={}
instance:kH ah 156 0 0 83:={}
instance:kH ah 156 1 3 3:={}
instance:kH ah 156 2 4 47:={}
instance:kH ah 156 3 6 2:={}
instance:vI ah 160 4:={}
instance:ez ah 160 (.agg #[.int .i64 0,.int .i64 0,.int .i64 0,.int .i64 0]):={}
instance:oh ah 160 4 32 (.agg #[.int .i64 0,.int .i64 0,.int .i64 0,.int .i64 0]):={}
instance:kH ah 160 0 0 3:={}
instance:kH ah 160 1 1 3:={}
instance:kH ah 160 2 2 2:={}
instance:kH ah 160 3 3 2:={}
instance:uG ah 162:={}
instance:ku ah 162 156 7:={}
instance:dx ah 164 [(0,1),(1,4)] [.slice none 0 0,.int .i64 0,.slice none 0 0,.slice none 0 0,.slice none 0 0]:={}
instance:kH ah 164 0 0 162:={}
instance:kH ah 164 1 1 95:={}
instance:vI ah 166 6:={}
instance:ez ah 166 (.agg #[.int .u8 0,.slice none 0 0,.slice none 0 0,.slice none 0 0,.slice none 0 0,.int .i64 0]):={}
instance:dx ah 166 [(0,1),(1,1),(2,1),(3,1),(4,1),(5,1)] [.int .u8 0,.slice none 0 0,.slice none 0 0,.slice none 0 0,.slice none 0 0,.int .i64 0]:={}
instance:kH ah 166 0 0 5:={}
instance:kH ah 166 1 1 35:={}
instance:uG ah 182:={}
instance:ez ah 182 (.nilFunc):={}
instance:dZ ah 188 .u64:={}
instance:dZ ah 189 .u32:={}
instance:uG ah 189:={}
instance:oh ah 189 1 4 (.int .u32 0):={}
instance:uG ah 190:={}
instance:ez ah 190 (.nilFunc):={}
instance:uG ah 192:={}
instance:vI ah 194 1:={}
instance:ez ah 194 (.agg #[.nilFunc]):={}
instance:dx ah 194 [(0,1)] [.nilFunc]:={}
instance:kH ah 194 0 0 192:={}
instance:By ah 196 2 138:={}
instance:uG ah 224:={}
instance:vI ah 228 4:={}
instance:ez ah 228 (.agg #[.int .i64 0,.int .i64 0,.int .i64 0,.int .i64 0]):={}
instance:dx ah 228 [(0,1),(1,1),(2,1),(3,1)] [.int .i64 0,.int .i64 0,.int .i64 0,.int .i64 0]:={}
instance:kH ah 228 0 0 3:={}
instance:kH ah 228 1 1 3:={}
instance:kH ah 228 2 2 3:={}
instance:kH ah 228 3 3 3:={}
instance:dx ah 232 [(0,1),(1,1),(2,1),(3,1),(4,1)] [.int .i64 0,.slice none 0 0,.slice none 0 0,.slice none 0 0,.slice none 0 0]:={}
instance:kH ah 232 0 0 3:={}
instance:kH ah 232 1 1 25:={}
instance:kH ah 232 2 2 25:={}
instance:kH ah 232 3 3 34:={}
instance:kH ah 232 4 4 35:={}
instance:By ah 233 5 43:={}
instance:uG ah 235:={}
instance:uG ah 263:={}
instance:vI ah 265 2:={}
instance:ez ah 265 (.agg #[.nilFunc,.nilFunc]):={}
instance:dx ah 265 [(0,1),(1,1)] [.nilFunc,.nilFunc]:={}
instance:kH ah 265 0 0 1:={}
instance:kH ah 265 1 1 263:={}
instance:dx ah 272 [(0,1),(1,1),(2,1),(3,1),(4,1),(5,1),(6,1),(7,1)] [.int .i64 0,.slice none 0 0,.slice none 0 0,.slice none 0 0,.slice none 0 0,.int .i64 0,.int .i64 0,.int .i64 0]:={}
instance:kH ah 272 0 0 3:={}
instance:kH ah 272 1 1 25:={}
instance:kH ah 272 2 2 25:={}
instance:kH ah 272 3 3 34:={}
instance:kH ah 272 4 4 34:={}
instance:kH ah 272 5 5 3:={}
instance:kH ah 272 6 6 3:={}
instance:kH ah 272 7 7 3:={}
instance:ku ah 273 276 1:={}
instance:vI ah 276 1:={}
instance:ez ah 276 (.agg #[.nilFunc]):={}
instance:oh ah 276 1 8 (.agg #[.nilFunc]):={}
instance:dx ah 276 [(0,1)] [.nilFunc]:={}
instance:kH ah 276 0 0 235:={}
instance:ku ah 298 302 1:={}
instance:uG ah 300:={}
instance:vI ah 302 1:={}
instance:ez ah 302 (.agg #[.nilFunc]):={}
instance:oh ah 302 1 8 (.agg #[.nilFunc]):={}
instance:dx ah 302 [(0,1)] [.nilFunc]:={}
instance:kH ah 302 0 0 300:={}
instance:uG ah 303:={}
instance:vI ah 305 1:={}
instance:ez ah 305 (.agg #[.nilFunc]):={}
instance:dx ah 305 [(0,1)] [.nilFunc]:={}
instance:kH ah 305 0 0 303:={}
instance:cE ah 4:={}
instance:cE ah 5:={}
instance:cE ah 6:={}
instance:cE ah 7:={}
instance:cE ah 8:={}
instance:cE ah 9:={}
instance:cE ah 10:={}
instance:cE ah 11:={}
instance:cE ah 12:={}
instance:cE ah 13:={}
instance:cE ah 14:={}
instance:cE ah 15:={}
instance:cE ah 16:={}
instance:cE ah 17:={}
instance:cE ah 18:={}
instance:cE ah 19:={}
instance:cE ah 20:={}
instance:cE ah 21:={}
instance:cE ah 22:={}
instance:cE ah 23:={}
instance:cE ah 24:={}
instance:cE ah 25:={}
instance:cE ah 26:={}
instance:cE ah 27:={}
instance:cE ah 28:={}
instance:cE ah 29:={}
instance:cE ah 30:={}
instance:cE ah 31:={}
instance:cE ah 32:={}
instance:cE ah 33:={}
instance:cE ah 34:={}
instance:cE ah 35:={}
instance:cE ah 36:={}
instance:cE ah 37:={}
instance:cE ah 38:={}
instance:cE ah 39:={}
instance:cE ah 40:={}
instance:cE ah 41:={}
instance:cE ah 42:={}
instance:cE ah 43:={}
instance:cE ah 44:={}
instance:cE ah 45:={}
instance:cE ah 46:={}
instance:cE ah 47:={}
instance:cE ah 48:={}
instance:cE ah 49:={}
instance:cE ah 50:={}
instance:cE ah 51:={}
instance:cE ah 52:={}
instance:cE ah 53:={}
instance:cE ah 54:={}
instance:cE ah 55:={}
instance:cE ah 56:={}
instance:cE ah 57:={}
instance:cE ah 61:={}
instance:cE ah 62:={}
instance:cE ah 63:={}
instance:cE ah 65:={}
instance:cE ah 66:={}
instance:cE ah 67:={}
instance:cE ah 68:={}
instance:cE ah 69:={}
instance:cE ah 70:={}
instance:cE ah 71:={}
instance:cE ah 72:={}
instance:cE ah 73:={}
instance:cE ah 74:={}
instance:cE ah 75:={}
instance:cE ah 76:={}
instance:cE ah 77:={}
instance:cE ah 78:={}
instance:cE ah 79:={}
instance:cE ah 80:={}
instance:cE ah 81:={}
instance:cE ah 82:={}
instance:cE ah 83:={}
instance:cE ah 84:={}
instance:cE ah 85:={}
instance:cE ah 86:={}
instance:cE ah 87:={}
instance:cE ah 88:={}
instance:cE ah 89:={}
instance:cE ah 90:={}
instance:cE ah 91:={}
instance:cE ah 92:={}
instance:cE ah 93:={}
instance:cE ah 94:={}
instance:cE ah 95:={}
instance:cE ah 96:={}
instance:cE ah 97:={}
instance:cE ah 98:={}
instance:cE ah 99:={}
instance:cE ah 100:={}
instance:cE ah 101:={}
instance:cE ah 102:={}
instance:cE ah 103:={}
instance:cE ah 104:={}
instance:cE ah 105:={}
instance:cE ah 106:={}
instance:cE ah 107:={}
instance:cE ah 108:={}
instance:cE ah 109:={}
instance:cE ah 115:={}
instance:cE ah 116:={}
instance:cE ah 117:={}
instance:cE ah 118:={}
instance:cE ah 119:={}
instance:cE ah 120:={}
instance:cE ah 121:={}
instance:cE ah 122:={}
instance:cE ah 123:={}
instance:cE ah 124:={}
instance:cE ah 125:={}
instance:cE ah 126:={}
instance:cE ah 127:={}
instance:cE ah 128:={}
instance:cE ah 129:={}
instance:cE ah 130:={}
instance:cE ah 131:={}
instance:cE ah 132:={}
instance:cE ah 133:={}
instance:cE ah 134:={}
instance:cE ah 135:={}
instance:cE ah 136:={}
instance:cE ah 137:={}
instance:cE ah 138:={}
instance:cE ah 139:={}
instance:cE ah 140:={}
instance:cE ah 141:={}
instance:cE ah 142:={}
instance:cE ah 143:={}
instance:cE ah 144:={}
instance:cE ah 145:={}
instance:cE ah 146:={}
instance:cE ah 147:={}
instance:cE ah 148:={}
instance:cE ah 149:={}
instance:cE ah 150:={}
instance:cE ah 151:={}
instance:cE ah 152:={}
instance:cE ah 153:={}
instance:cE ah 154:={}
instance:cE ah 155:={}
instance:cE ah 156:={}
instance:cE ah 157:={}
instance:cE ah 158:={}
instance:cE ah 168:={}
instance:cE ah 178:={}
instance:cE ah 179:={}
instance:cE ah 180:={}
instance:cE ah 181:={}
instance:cE ah 182:={}
instance:cE ah 183:={}
instance:cE ah 184:={}
instance:cE ah 185:={}
instance:cE ah 186:={}
instance:cE ah 187:={}
instance:cE ah 188:={}
instance:cE ah 189:={}
instance:cE ah 190:={}
instance:cE ah 191:={}
instance:cE ah 192:={}
instance:cE ah 193:={}
instance:cE ah 194:={}
instance:cE ah 195:={}
instance:cE ah 196:={}
instance:cE ah 197:={}
instance:cE ah 198:={}
instance:cE ah 199:={}
instance:cE ah 200:={}
instance:cE ah 201:={}
instance:cE ah 202:={}
instance:cE ah 203:={}
instance:cE ah 204:={}
instance:cE ah 205:={}
instance:cE ah 206:={}
instance:cE ah 207:={}
instance:cE ah 208:={}
instance:cE ah 209:={}
instance:cE ah 215:={}
instance:cE ah 216:={}
instance:cE ah 217:={}
instance:cE ah 218:={}
instance:cE ah 219:={}
instance:cE ah 220:={}
instance:cE ah 221:={}
instance:cE ah 222:={}
instance:cE ah 223:={}
instance:cE ah 224:={}
instance:cE ah 225:={}
instance:cE ah 226:={}
instance:cE ah 227:={}
instance:cE ah 228:={}
instance:cE ah 229:={}
instance:cE ah 230:={}
instance:cE ah 231:={}
instance:cE ah 232:={}
instance:cE ah 233:={}
instance:cE ah 234:={}
instance:cE ah 235:={}
instance:cE ah 236:={}
instance:cE ah 237:={}
instance:cE ah 238:={}
instance:cE ah 239:={}
instance:cE ah 240:={}
instance:cE ah 241:={}
instance:cE ah 243:={}
instance:cE ah 244:={}
instance:cE ah 245:={}
instance:cE ah 246:={}
instance:cE ah 247:={}
instance:cE ah 248:={}
instance:cE ah 249:={}
instance:cE ah 250:={}
instance:cE ah 251:={}
theorem mixed:Tryz.prog.follows .mixedOrders=true:=by kernel_rfl
end
section
open Go.Fw Go.RowKit
def snap(W:World):Mem:=λb o=>(W.cell? ⟨b,o,none⟩).filter Value.oneCell'
theorem afn(W:World):(snap W).kf W:=λ_ _ _ e=>by
 obtain⟨b,a⟩:=Option.filter_eq_some_iff.1 e;exact .of b a
theorem afo{W:World}{b o:Nat}{v:Value}(h:W.cell? ⟨b,o,none⟩=some v)(D:v.oneCell'=true):snap W b o=some v:=Option.filter_eq_some_iff.2 ⟨h,D⟩
class zU (P:Program) (T:TypeId) {α:Type} (e:α->List SV) (ok:outParam (α->Prop)) (sz:outParam (α->Nat)):Prop where
 h:∀{H:Type} (enc:TypeId×Value->H) (W:World) (fuel:Nat) (cs:List Value) (d:DataW H) (p:List MemPlace),DataW.trod enc P W 0 (λ_=>true) true fuel T cs=some (d,p)->
  ∃x:α,ok x/\SV.jN (snap W) (e x) cs/\(∀v∈cs,v.oneCell'=true)/\sz x<=Rows.uptoBulk d
section opn
variable {P:Program}{T:TypeId}
theorem Ug{k:IntKind}{n:Int}(h:(Lit.int k n).wf=true):k.min<=n/\n<=k.max:=by simpa[Lit.wf]using h
instance[t:dZ P T .i64]:zU P T bh (λx=>-9223372036854775808<=x/\x<=9223372036854775807) (λ_=>1):=⟨λenc W a cs d p h=>by
 obtain⟨n,rfl,b,c⟩:=DataW.trod_int t.h h;cases b;have:=Ug c;exact⟨n,by simpa[IntKind.min,IntKind.max,IntKind.signed,IntKind.bits]using this,⟨rfl,an⟩,by simp[Value.oneCell'],by simp[Rows.uptoBulk]⟩⟩
instance[t:dZ P T .i16]:zU P T anR (λx=>-32768<=x/\x<=32767) (λ_=>1):=⟨λenc W a cs d p h=>by
 obtain⟨n,rfl,b,c⟩:=DataW.trod_int t.h h;cases b;have:=Ug c;exact⟨n,by simpa[IntKind.min,IntKind.max,IntKind.signed,IntKind.bits]using this,⟨rfl,an⟩,by simp[Value.oneCell'],by simp[Rows.uptoBulk]⟩⟩
theorem aos{k:IntKind}{M:Nat}{e:Nat->List SV}(t:dZ P T k)(D:k.min=0/\k.max=(M:Int)-1)(H:∀n:Nat,e n=[.v (.int k (n:Int))]):zU P T e (λx=>x<M) (λ_=>1):=⟨λenc W a cs d p h=>by
 obtain⟨n,rfl,b,c⟩:=DataW.trod_int t.h h;cases b;have:=Ug c;rw[D.1,D.2]at this;obtain⟨m,rfl⟩:=Int.eq_ofNat_of_zero_le this.1;exact⟨m,by omega,by rw[H];exact⟨Y,an⟩,by simp[Value.oneCell'],by simp[Rows.uptoBulk]⟩⟩
instance[t:dZ P T .u8]:zU P T eU8 (λx=>x<256) (λ_=>1):=aos t ξ (λ_=>rfl)
instance[t:Ph P T]:zU P T eB (λ_=>True) (λ_=>1):=⟨λenc W a cs d p h=>by
 obtain⟨b,rfl,c⟩:=DataW.trod_bool t.h h;cases c;exact⟨b,an,⟨rfl,an⟩,by simp[Value.oneCell'],by simp[Rows.uptoBulk]⟩⟩
theorem R7{H α:Type}(sz:α->Nat):∀(xs:List α) (a:List (DataW H)),xs.length=a.length->(∀(i:Nat) (x:α) (d:DataW H),xs[i]? =some x->a[i]? =some d->sz x<=Rows.uptoBulk d)->(xs.map sz).sum<=Rows.uptoBulkAll a
 |[],[],_,_=>by simp
 |x::xs,d::a,hl,h=>by
  have b:=h 0 x d Y Y;have b:=R7 sz xs a (by simpa using hl) (λi x d b a=>h (i+1) x d (by simpa using b) (by simpa using a));simp only[List.map_cons,List.sum_cons,Rows.uptoBulkAll];omega
 |[],_::_,hl,_=>by simp at hl
 |_::_,[],hl,_=>by simp at hl
instance{E:TypeId}{n:Nat}{α:Type}{e:α->List SV}{I:α->Prop}{sz:α->Nat}{by_:Nat}{zv:Value}[t:ku P T E n][tE:oh P E n by_ zv][el:EL e n][o:zU P E e I sz]:zU P T (eS n e) (λl=>l.length<=9223372036854775807/\∀x∈l,I x) (λl=>(l.map sz).sum+1):=⟨λ{H} enc W fuel cs d p h=>by
 have z:P.cellsOf E=n:=by
  have r:=t.size W;simp only[sizeOf,typeInfo]at r;cases g:P.info? E with
  |none=>simp[g]at r
  |some i=>simp[g]at r;simp[Program.cellsOf,g,r]
 have hml:maxLen=9223372036854775807:=by decide
 rcases Deep.open_slice t.u h with⟨rfl,f⟩|⟨a,len,cap,m,n',D,Pl,rfl,_,hl,hm,K,f,J⟩
 ·cases f;exact⟨[],⟨by simp,by simp⟩,⟨.inl ⟨none,rfl,rfl⟩,an⟩,by simp[Value.oneCell'],by simp[Rows.uptoBulk]⟩
 cases f;rw[if_pos rfl]at K;subst K;have A:∀i,i<m->∃x,I x/\sz x<=Rows.uptoBulk (D i)/\∃cs',W.cells? 0 (a.add (i*n)) n=some cs'/\SV.jN (snap W) (e x) cs'/\(∀v∈cs',v.oneCell'=true):=by
  intro i g;obtain⟨cs',r,R⟩:=J i g;obtain⟨x,q1,q2,q3,q4⟩:=o.h enc W n' cs' (D i) (Pl i) R;rw[z]at r;exact⟨x,q1,q4,cs',r,q2,q3⟩
 obtain⟨xs,w,C⟩:∃xs:List α,xs.length=len/\∀(i:Nat) (x:α),xs[i]? =some x->I x/\sz x<=Rows.uptoBulk (D i)/\∃cs',W.cells? 0 (a.add (i*n)) n=some cs'/\SV.jN (snap W) (e x) cs'/\(∀v∈cs',v.oneCell'=true):=by
  clear h hm J;have:∀k,k<=len->∃xs:List α,xs.length=k/\∀(i:Nat) (x:α),xs[i]? =some x->I x/\sz x<=Rows.uptoBulk (D i)/\∃cs',W.cells? 0 (a.add (i*n)) n=some cs'/\SV.jN (snap W) (e x) cs'/\(∀v∈cs',v.oneCell'=true):=by
   intro k
   induction k with
   |zero=>intro _;exact⟨[],rfl,by simp⟩
   |succ k ih=>
    intro hk;obtain⟨xs,r,R⟩:=ih ω;obtain⟨x,f⟩:=A k ω;refine⟨xs++[x],by simp[r],λi y B=>?_⟩;rcases Nat.lt_or_ge i k with g|g
    ·exact R i y (by rwa[List.getElem?_append_left ω]at B)
    rw[List.getElem?_append_right ω]at B;have XZ:i=k:=by
     rcases Nat.lt_or_ge (i-xs.length) 1 with q|q
     ·omega
     rw[List.getElem?_eq_none (by simpa using q)]at B;cases B
    subst XZ;rw[r,Nat.sub_self]at B;simp at B;subst B;exact f
  exact this len (Nat.le_refl _)
 refine⟨xs,⟨by omega,λx f=>?_⟩,⟨?_,an⟩,by simp[Value.oneCell'],?_⟩
 ·obtain⟨i,g,rfl⟩:=List.getElem_of_mem f;exact(C i _ (List.getElem?_eq_getElem g)).1
 ·by_cases h0:xs=[]
  ·subst h0;simp at w;subst w;by_cases O:m=0
   ·subst O;exact .inl ⟨_,rfl,rfl⟩
   obtain⟨x,_,_,cs',X,g2,_⟩:=A 0 ω;obtain⟨_,g3,S⟩:=World.cells?_some X;have V:0<n:=tE.p;have Q:=S 0 V;obtain⟨b,F,c⟩:=a;have M:c=none:=by
    have:∃v,W.cell? (((⟨b,F,c⟩:Addr).add (0*n)).add 0)=some v:=by
     rw[Q];exact⟨_,List.getElem?_eq_getElem ω⟩
    obtain⟨v,U⟩:=this;simpa[Addr.add]using World.cell?_spot U
   subst M;refine .inr ⟨b,F,m,rfl,by simp,by simp,λi G hr=>by simp at hr⟩
  have IJ:0<len:=by
   rcases Nat.eq_zero_or_pos len with hz|hz
   ·exact absurd (List.eq_nil_of_length_eq_zero ω) h0
   exact hz
  have V:0<n:=tE.p;obtain⟨x,_,_,cs',X,g2,_⟩:=A 0 ω;obtain⟨_,g3,S⟩:=World.cells?_some X;have Q:=S 0 V;obtain⟨b,F,c⟩:=a;have M:c=none:=by
   have:∃v,W.cell? (((⟨b,F,c⟩:Addr).add (0*n)).add 0)=some v:=by
    rw[Q];exact⟨_,List.getElem?_eq_getElem ω⟩
   obtain⟨v,U⟩:=this;simpa[Addr.add]using World.cell?_spot U
  subst M;refine .inr ⟨b,F,m,by rw[List.length_map,w],by rw[List.length_map];omega,by rw[List.length_map];omega,λi G hr=>?_⟩;rw[List.getElem?_map]at hr;cases f:xs[i]? with
  |none=>rw[f]at hr;cases hr
  |some y=>
   rw[f]at hr;have hr:e y=G:=aob hr;subst hr;obtain⟨_,_,cs2,k1,k2,k3⟩:=C i y f;obtain⟨_,k4,k5⟩:=World.cells?_some k1;refine⟨el.len y,λk s hk=>?_⟩;obtain⟨u,L,hs⟩:=k2.get hk;have N:k<n:=by have:=(List.getElem?_eq_some_iff.1 L).1;omega
   have k6:=k5 k N;rw[mQ,mQ,L]at k6;exact⟨u,afo k6 (k3 u (List.mem_of_getElem? L)),k3 u (List.mem_of_getElem? L),hs⟩
 have hb:Rows.uptoBulk (DataW.slice ((List.range len).map D) ((List.range (m-len)).map λj=>D (len+j)))=Rows.uptoBulkAll ((List.range len).map D)+Rows.uptoBulkAll ((List.range (m-len)).map λj=>D (len+j))+1:=rfl;rw[hb];have:=R7 sz xs ((List.range len).map D) (by simp[w]) (λi x d e1 Z=>by
  have g:i<len:=by have:=(List.getElem?_eq_some_iff.1 e1).1;omega
  simp[g]at Z;subst Z;exact(C i x e1).2.1)
 omega⟩
class StN (P:Program) (T:TypeId) (k:outParam Nat):Prop where
 h:(match P.underlying T with|some (.struct fs)=>some fs.size|_=>none)=some k:=by kernel_rfl
theorem CX{k:Nat}[s:StN P T k]{H:Type}{enc:TypeId×Value->H}{W:World}{D:Nat}{cs:List Value}{d:DataW H}{p:List MemPlace}(h:DataW.trod enc P W 0 (λ_=>true) true D T cs=some (d,p)):
  ∃(xs:List (DataW H×List MemPlace)) (n:Nat),d=.agg (xs.map (·.1))/\cs.length=P.cellsOf T/\xs.length=k/\∀(i off:Nat) (U:TypeId),kH P T i off U->DataW.trod enc P W 0 (λ_=>true) true n U ((cs.drop off).take (P.cellsOf U))=xs[i]? :=by
 have b:=s.h;cases c:P.underlying T with
 |none=>rw[c]at b;cases b
 |some u=>
  rw[c]at b;cases u with
  |struct e=>
   have a:e.size=k:=aob b;obtain⟨xs,n,_,a,hl,j,g⟩:=DataW.trod_struct c h;refine⟨xs,n,(Prod.mk.inj a).1,hl,by omega,λi off U F=>?_⟩;have a:=F.h;rw[c]at a;simp only at a;cases c:e[i]? with
   |none=>rw[c]at a;cases a
   |some f=>
    rw[c]at a;simp only[Option.map_some,Option.some.injEq,Prod.mk.injEq]at a;have:=g i f c;rw[a.1,a.2]at this;exact this
  |_=>cases b
class aot (P:Program) (T:TypeId):Prop where
 h:∀(w:World) (r:Reach) (base:Nat) (v:Value),Value.okWide P w r base T v->v.cells.toList=[v]
instance{k:IntKind}[t:dZ P T k]:aot P T:=⟨λw r a v h=>by
 simp only[Value.okWide,t.h,Cell.okWide,Cell.ok]at h;cases v<;>first|rfl|cases h⟩
theorem Px{α:Type}{e:α->List SV}{I:α->Prop}{sz:α->Nat}[K:aot P T][o:zU P T e I sz]{H:Type}{enc:TypeId×Value->H}{W:World}{r:Reach}{D:Nat}{v:Value}{d:DataW H}{p:List MemPlace}
  (hv:Value.okWide P W r D T v) (h:DataW.Trod enc P W 0 (λ_=>true) true T v d p):∃x,I x/\sz x<=Rows.uptoBulk d/\SV.jN (snap W) (e x) [v]:=by
 obtain⟨a,h⟩:=h;rw[K.h W r D v hv]at h;obtain⟨x,b,f,_,c⟩:=o.h enc W a _ d p h;exact⟨x,b,c,f⟩
theorem afp{α:Type}{e:α->List SV}{I:α->Prop}{sz:α->Nat}{k:Nat}[s:StN P T k][o:zU P T e I sz]{H:Type}{enc:TypeId×Value->H}{W:World}{r:Reach}{D:Nat}{v:Value}{d:DataW H}{p:List MemPlace}
  (hv:Value.okWide P W r D T v) (h:DataW.Trod enc P W 0 (λ_=>true) true T v d p):∃x,I x/\sz x<=Rows.uptoBulk d/\(SV.agg (e x)).h (snap W) v:=by
 have b:=s.h;cases a:P.underlying T with
 |none=>rw[a]at b;cases b
 |some u=>
  rw[a]at b;cases u with
  |struct c=>
   obtain⟨cs,rfl,_⟩:=WideShapes.okWide_struct a hv;obtain⟨a,h⟩:=h;obtain⟨x,c,g,_,f⟩:=o.h enc W a _ d p h;exact⟨x,c,f,cs.toList,Y,g⟩
  |_=>cases b
end opn
theorem afq{f:FuncId}{vs:List Value}{D:List SV}{W:World}(hp:Pure ah f D (.v (.bool true)))(h:SV.jN (snap W) D vs):
  Calls ah f ⟨vs⟩ W λe w'=>e=.returned (.bool true)/\Below W.heap.size W w':=
 (hp (snap W) W vs (afn W) h).mono λ_ _ ⟨v,_,c,_,_,_,a,b⟩=>by
  have a:v=.bool true:=a;exact⟨by rw[c,a],b⟩
end
section
open Go.Fw Go.RowKit Go.ChangeShapes Go.WideShapes Go.ChangeAt
theorem asL:ownKnob Tryz.prog.godebug=none:=by kernel_rfl
theorem Ft:laidOutB ah=true:=by kernel_rfl
instance:StN ah 160 4:={}
set_option maxRecDepth 100000 in
instance:zU ah 160 nT (λ(z:Ln)=>((-9223372036854775808<=z.a/\z.a<=9223372036854775807)/\(-9223372036854775808<=z.b/\z.b<=9223372036854775807)/\(-9223372036854775808<=z.x/\z.x<=9223372036854775807)/\(-9223372036854775808<=z.cap/\z.cap<=9223372036854775807))) (λ(z:Ln)=>(1+1+1+1+1)):=⟨λenc W r cs d p h=>by
 obtain⟨xs,n,rfl,hl,w,c⟩:=CX h;have hl:cs.length=4:=hl.trans ψ
 match xs,w with
 |[⟨i,l⟩,⟨m,o⟩,⟨s,j⟩,⟨f,k⟩],_=>
 match cs,hl with
 |[c0,D,L,G],_=>
 have t0:DataW.trod enc ah W 0 (λ_=>true) true n 3 [c0]=some (i,l):=(by have q:=c 0 _ _ inferInstance;rw[show Tryz.prog.cellsOf 3=1 by kernel_rfl]at q;exact q);obtain⟨A,a0,N,E,R⟩:=zU.h (P:=ah) (T:=3) (e:=bh) enc W n _ i l t0;have H:DataW.trod enc ah W 0 (λ_=>true) true n 3 [D]=some (m,o):=(by have q:=c 1 _ _ inferInstance;rw[show Tryz.prog.cellsOf 3=1 by kernel_rfl]at q;exact q);obtain⟨y,I,O,J,S⟩:=zU.h (P:=ah) (T:=3) (e:=bh) enc W n _ m o H;have Q:DataW.trod enc ah W 0 (λ_=>true) true n 2 [L]=some (s,j):=(by have q:=c 2 _ _ inferInstance;rw[show Tryz.prog.cellsOf 2=1 by kernel_rfl]at q;exact q);obtain⟨M,u,F,B,U⟩:=zU.h (P:=ah) (T:=2) (e:=bh) enc W n _ s j Q;have t3:DataW.trod enc ah W 0 (λ_=>true) true n 2 [G]=some (f,k):=(by have q:=c 3 _ _ inferInstance;rw[show Tryz.prog.cellsOf 2=1 by kernel_rfl]at q;exact q);obtain⟨t,a3,K,C,V⟩:=zU.h (P:=ah) (T:=2) (e:=bh) enc W n _ f k t3;refine⟨⟨A,y,M,t⟩,⟨a0,I,u,a3⟩,⟨N.1,O.1,F.1,K.1,an⟩,?_,?_⟩
 ·intro v g;simp only[List.mem_cons,List.not_mem_nil,or_false]at g;rcases g with rfl|rfl|rfl|rfl
  ·exact E _ η
  ·exact J _ η
  ·exact B _ η
  exact C _ η
 simp only[List.map_cons,List.map_nil,Rows.uptoBulk,Rows.uptoBulkAll];omega⟩
instance:StN ah 24 2:={}
set_option maxRecDepth 100000 in
instance:zU ah 24 Dn (λ(z:Nt)=>((-9223372036854775808<=z.dA/\z.dA<=9223372036854775807)/\(z.lines.length<=9223372036854775807/\∀c∈z.lines,((-9223372036854775808<=c.a/\c.a<=9223372036854775807)/\(-9223372036854775808<=c.b/\c.b<=9223372036854775807)/\(-9223372036854775808<=c.x/\c.x<=9223372036854775807)/\(-9223372036854775808<=c.cap/\c.cap<=9223372036854775807))))) (λ(z:Nt)=>(1+((z.lines.map λc=>(1+1+1+1+1)).sum+1)+1)):=⟨λenc W m cs d p h=>by
 obtain⟨xs,n,rfl,hl,o,i⟩:=CX h;have hl:cs.length=2:=hl.trans ψ
 match xs,o with
 |[⟨g,j⟩,⟨k,l⟩],_=>
 match cs,hl with
 |[c0,s],_=>
 have t0:DataW.trod enc ah W 0 (λ_=>true) true n 3 [c0]=some (g,j):=(by have q:=i 0 _ _ inferInstance;rw[show Tryz.prog.cellsOf 3=1 by kernel_rfl]at q;exact q);obtain⟨r,a0,A,t,C⟩:=zU.h (P:=ah) (T:=3) (e:=bh) enc W n _ g j t0;have u:DataW.trod enc ah W 0 (λ_=>true) true n 22 [s]=some (k,l):=(by have q:=i 1 _ _ inferInstance;rw[show Tryz.prog.cellsOf 22=1 by kernel_rfl]at q;exact q);obtain⟨c,w,B,y,D⟩:=zU.h (P:=ah) (T:=22) (e:=(eS 4 nT)) enc W n _ k l u;refine⟨⟨r,c⟩,⟨a0,w⟩,⟨A.1,B.1,an⟩,?_,?_⟩
 ·intro v f;simp only[List.mem_cons,List.not_mem_nil,or_false]at f;rcases f with rfl|rfl
  ·exact t _ η
  exact y _ η
 simp only[List.map_cons,List.map_nil,Rows.uptoBulk,Rows.uptoBulkAll];omega⟩
instance:StN ah 47 2:={}
set_option maxRecDepth 100000 in
instance:zU ah 47 iq (λ(z:Sp)=>((-9223372036854775808<=z.kS/\z.kS<=9223372036854775807)/\(-9223372036854775808<=z.dm/\z.dm<=9223372036854775807))) (λ(z:Sp)=>(1+1+1)):=⟨λenc W j cs d p h=>by
 obtain⟨xs,n,rfl,hl,k,c⟩:=CX h;have hl:cs.length=2:=hl.trans ψ
 match xs,k with
 |[⟨b,f⟩,⟨g,i⟩],_=>
 match cs,hl with
 |[c0,o],_=>
 have t0:DataW.trod enc ah W 0 (λ_=>true) true n 2 [c0]=some (b,f):=(by have q:=c 0 _ _ inferInstance;rw[show Tryz.prog.cellsOf 2=1 by kernel_rfl]at q;exact q);obtain⟨m,a0,w,r,y⟩:=zU.h (P:=ah) (T:=2) (e:=bh) enc W n _ b f t0;have s:DataW.trod enc ah W 0 (λ_=>true) true n 2 [o]=some (g,i):=(by have q:=c 1 _ _ inferInstance;rw[show Tryz.prog.cellsOf 2=1 by kernel_rfl]at q;exact q);obtain⟨l,t,x,u,A⟩:=zU.h (P:=ah) (T:=2) (e:=bh) enc W n _ g i s;refine⟨⟨m,l⟩,⟨a0,t⟩,⟨w.1,x.1,an⟩,?_,?_⟩
 ·intro v a;simp only[List.mem_cons,List.not_mem_nil,or_false]at a;rcases a with rfl|rfl
  ·exact r _ η
  exact u _ η
 simp only[List.map_cons,List.map_nil,Rows.uptoBulk,Rows.uptoBulkAll];omega⟩
instance:StN ah 50 9:={}
set_option maxRecDepth 100000 in
instance:zU ah 50 gK (λ(z:sI)=>((-9223372036854775808<=z.uH/\z.uH<=9223372036854775807)/\(-9223372036854775808<=z.low/\z.low<=9223372036854775807)/\(z.steps.length<=9223372036854775807/\∀b∈z.steps,((-9223372036854775808<=b.kS/\b.kS<=9223372036854775807)/\(-9223372036854775808<=b.dm/\b.dm<=9223372036854775807)))/\(-9223372036854775808<=z.up/\z.up<=9223372036854775807)/\(-9223372036854775808<=z.down/\z.down<=9223372036854775807)/\(-9223372036854775808<=z.start/\z.start<=9223372036854775807)/\(-9223372036854775808<=z.idle/\z.idle<=9223372036854775807)/\(-9223372036854775808<=z.Zw/\z.Zw<=9223372036854775807)/\(-9223372036854775808<=z.on/\z.on<=9223372036854775807))) (λ(z:sI)=>(1+1+((z.steps.map λb=>(1+1+1)).sum+1)+1+1+1+1+1+1+1)):=⟨λenc W r cs d p h=>by
 obtain⟨xs,n,rfl,hl,hn,a⟩:=CX h;have hl:cs.length=9:=hl.trans ψ
 match xs,hn with
 |[⟨k,y⟩,⟨A,i⟩,⟨s,g⟩,⟨j,x⟩,⟨l,w⟩,⟨f,t⟩,⟨c,o⟩,⟨D,C⟩,⟨u,m⟩],_=>
 match cs,hl with
 |[c0,c1,c2,c3,c4,c5,X,N,c8],_=>
 have t0:DataW.trod enc ah W 0 (λ_=>true) true n 3 [c0]=some (k,y):=(by have q:=a 0 _ _ inferInstance;rw[show Tryz.prog.cellsOf 3=1 by kernel_rfl]at q;exact q);obtain⟨x0,a0,b0,K,s0⟩:=zU.h (P:=ah) (T:=3) (e:=bh) enc W n _ k y t0;have t1:DataW.trod enc ah W 0 (λ_=>true) true n 2 [c1]=some (A,i):=(by have q:=a 1 _ _ inferInstance;rw[show Tryz.prog.cellsOf 2=1 by kernel_rfl]at q;exact q);obtain⟨b,a1,b1,e1,s1⟩:=zU.h (P:=ah) (T:=2) (e:=bh) enc W n _ A i t1;have t2:DataW.trod enc ah W 0 (λ_=>true) true n 48 [c2]=some (s,g):=(by have q:=a 2 _ _ inferInstance;rw[show Tryz.prog.cellsOf 48=1 by kernel_rfl]at q;exact q);obtain⟨R,G,Z,H,s2⟩:=zU.h (P:=ah) (T:=48) (e:=(eS 2 iq)) enc W n _ s g t2;have t3:DataW.trod enc ah W 0 (λ_=>true) true n 3 [c3]=some (j,x):=(by have q:=a 3 _ _ inferInstance;rw[show Tryz.prog.cellsOf 3=1 by kernel_rfl]at q;exact q);obtain⟨E,a3,b3,I,s3⟩:=zU.h (P:=ah) (T:=3) (e:=bh) enc W n _ j x t3;have t4:DataW.trod enc ah W 0 (λ_=>true) true n 3 [c4]=some (l,w):=(by have q:=a 4 _ _ inferInstance;rw[show Tryz.prog.cellsOf 3=1 by kernel_rfl]at q;exact q);obtain⟨L,a4,b4,e4,s4⟩:=zU.h (P:=ah) (T:=3) (e:=bh) enc W n _ l w t4
 have t5:DataW.trod enc ah W 0 (λ_=>true) true n 2 [c5]=some (f,t):=(by have q:=a 5 _ _ inferInstance;rw[show Tryz.prog.cellsOf 2=1 by kernel_rfl]at q;exact q);obtain⟨O,a5,b5,U,s5⟩:=zU.h (P:=ah) (T:=2) (e:=bh) enc W n _ f t t5;have t6:DataW.trod enc ah W 0 (λ_=>true) true n 2 [X]=some (c,o):=(by have q:=a 6 _ _ inferInstance;rw[show Tryz.prog.cellsOf 2=1 by kernel_rfl]at q;exact q);obtain⟨x6,a6,F,e6,s6⟩:=zU.h (P:=ah) (T:=2) (e:=bh) enc W n _ c o t6;have J:DataW.trod enc ah W 0 (λ_=>true) true n 2 [N]=some (D,C):=(by have q:=a 7 _ _ inferInstance;rw[show Tryz.prog.cellsOf 2=1 by kernel_rfl]at q;exact q);obtain⟨S,a7,M,V,s7⟩:=zU.h (P:=ah) (T:=2) (e:=bh) enc W n _ D C J;have Q:DataW.trod enc ah W 0 (λ_=>true) true n 3 [c8]=some (u,m):=(by have q:=a 8 _ _ inferInstance;rw[show Tryz.prog.cellsOf 3=1 by kernel_rfl]at q;exact q);obtain⟨x8,a8,b8,e8,s8⟩:=zU.h (P:=ah) (T:=3) (e:=bh) enc W n _ u m Q;refine⟨⟨x0,b,R,E,L,O,x6,S,x8⟩,⟨a0,a1,G,a3,a4,a5,a6,a7,a8⟩,⟨b0.1,b1.1,Z.1,b3.1,b4.1,b5.1,F.1,M.1,b8.1,an⟩,?_,?_⟩
 ·intro v B;simp only[List.mem_cons,List.not_mem_nil,or_false]at B;rcases B with rfl|rfl|rfl|rfl|rfl|rfl|rfl|rfl|rfl
  ·exact K _ η
  ·exact e1 _ η
  ·exact H _ η
  ·exact I _ η
  ·exact e4 _ η
  ·exact U _ η
  ·exact e6 _ η
  ·exact V _ η
  exact e8 _ η
 simp only[List.map_cons,List.map_nil,Rows.uptoBulk,Rows.uptoBulkAll];omega⟩
instance:StN ah 78 2:={}
set_option maxRecDepth 100000 in
instance:zU ah 78 rJ (λ(z:Bd)=>((-9223372036854775808<=z.uH/\z.uH<=9223372036854775807)/\(z.steps.length<=9223372036854775807/\∀a∈z.steps,((-9223372036854775808<=a.kS/\a.kS<=9223372036854775807)/\(-9223372036854775808<=a.dm/\a.dm<=9223372036854775807))))) (λ(z:Bd)=>(1+((z.steps.map λa=>(1+1+1)).sum+1)+1)):=⟨λenc W k cs d p h=>by
 obtain⟨xs,n,rfl,hl,l,f⟩:=CX h;have hl:cs.length=2:=hl.trans ψ
 match xs,l with
 |[⟨c,g⟩,⟨i,j⟩],_=>
 match cs,hl with
 |[c0,o],_=>
 have t0:DataW.trod enc ah W 0 (λ_=>true) true n 3 [c0]=some (c,g):=(by have q:=f 0 _ _ inferInstance;rw[show Tryz.prog.cellsOf 3=1 by kernel_rfl]at q;exact q);obtain⟨m,a0,w,r,y⟩:=zU.h (P:=ah) (T:=3) (e:=bh) enc W n _ c g t0;have s:DataW.trod enc ah W 0 (λ_=>true) true n 48 [o]=some (i,j):=(by have q:=f 1 _ _ inferInstance;rw[show Tryz.prog.cellsOf 48=1 by kernel_rfl]at q;exact q);obtain⟨a,t,x,u,A⟩:=zU.h (P:=ah) (T:=48) (e:=(eS 2 iq)) enc W n _ i j s;refine⟨⟨m,a⟩,⟨a0,t⟩,⟨w.1,x.1,an⟩,?_,?_⟩
 ·intro v b;simp only[List.mem_cons,List.not_mem_nil,or_false]at b;rcases b with rfl|rfl
  ·exact r _ η
  exact u _ η
 simp only[List.map_cons,List.map_nil,Rows.uptoBulk,Rows.uptoBulkAll];omega⟩
instance:StN ah 30 5:={}
set_option maxRecDepth 100000 in
instance:zU ah 30 eHr (λ(z:Hr)=>(((-9223372036854775808<=z.uT.dA/\z.uT.dA<=9223372036854775807)/\(z.uT.lines.length<=9223372036854775807/\∀c∈z.uT.lines,((-9223372036854775808<=c.a/\c.a<=9223372036854775807)/\(-9223372036854775808<=c.b/\c.b<=9223372036854775807)/\(-9223372036854775808<=c.x/\c.x<=9223372036854775807)/\(-9223372036854775808<=c.cap/\c.cap<=9223372036854775807))))/\(z.out.length<=9223372036854775807/\∀c∈z.out,(-9223372036854775808<=c/\c<=9223372036854775807))/\(z.units.length<=9223372036854775807/\∀c∈z.units,((-9223372036854775808<=c.uH/\c.uH<=9223372036854775807)/\(-9223372036854775808<=c.low/\c.low<=9223372036854775807)/\(c.steps.length<=9223372036854775807/\∀f∈c.steps,((-9223372036854775808<=f.kS/\f.kS<=9223372036854775807)/\(-9223372036854775808<=f.dm/\f.dm<=9223372036854775807)))/\(-9223372036854775808<=c.up/\c.up<=9223372036854775807)/\(-9223372036854775808<=c.down/\c.down<=9223372036854775807)/\(-9223372036854775808<=c.start/\c.start<=9223372036854775807)/\(-9223372036854775808<=c.idle/\c.idle<=9223372036854775807)/\(-9223372036854775808<=c.Zw/\c.Zw<=9223372036854775807)/\(-9223372036854775808<=c.on/\c.on<=9223372036854775807)))/\(z.on.length<=9223372036854775807/\∀c∈z.on,True)/\(z.zO.length<=9223372036854775807/\∀c∈z.zO,((-9223372036854775808<=c.uH/\c.uH<=9223372036854775807)/\(c.steps.length<=9223372036854775807/\∀f∈c.steps,((-9223372036854775808<=f.kS/\f.kS<=9223372036854775807)/\(-9223372036854775808<=f.dm/\f.dm<=9223372036854775807))))))) (λ(z:Hr)=>((1+((z.uT.lines.map λc=>(1+1+1+1+1)).sum+1)+1)+((z.out.map λc=>1).sum+1)+((z.units.map λc=>(1+1+((c.steps.map λf=>(1+1+1)).sum+1)+1+1+1+1+1+1+1)).sum+1)+((z.on.map λc=>1).sum+1)+((z.zO.map λc=>(1+((c.steps.map λf=>(1+1+1)).sum+1)+1)).sum+1)+1)):=⟨λenc W A cs d p h=>by
 obtain⟨xs,n,rfl,hl,E,g⟩:=CX h;have hl:cs.length=6:=hl.trans ψ
 match xs,E with
 |[⟨k,t⟩,⟨w,y⟩,⟨B,r⟩,⟨i,s⟩,⟨l,m⟩],_=>
 match cs,hl with
 |[c0,I,U,L,Z,N],_=>
 have t0:DataW.trod enc ah W 0 (λ_=>true) true n 24 [c0,I]=some (k,t):=(by have q:=g 0 _ _ inferInstance;rw[show Tryz.prog.cellsOf 24=2 by kernel_rfl]at q;exact q);obtain⟨F,a0,u,o,s0⟩:=zU.h (P:=ah) (T:=24) (e:=Dn) enc W n _ k t t0;have O:DataW.trod enc ah W 0 (λ_=>true) true n 25 [U]=some (w,y):=(by have q:=g 1 _ _ inferInstance;rw[show Tryz.prog.cellsOf 25=1 by kernel_rfl]at q;exact q);obtain⟨c,Q,X,R,s1⟩:=zU.h (P:=ah) (T:=25) (e:=(eS 1 bh)) enc W n _ w y O;have t2:DataW.trod enc ah W 0 (λ_=>true) true n 26 [L]=some (B,r):=(by have q:=g 2 _ _ inferInstance;rw[show Tryz.prog.cellsOf 26=1 by kernel_rfl]at q;exact q);obtain⟨f,D,K,G,s2⟩:=zU.h (P:=ah) (T:=26) (e:=(eS 9 gK)) enc W n _ B r t2;have t3:DataW.trod enc ah W 0 (λ_=>true) true n 27 [Z]=some (i,s):=(by have q:=g 3 _ _ inferInstance;rw[show Tryz.prog.cellsOf 27=1 by kernel_rfl]at q;exact q);obtain⟨C,a3,S,H,s3⟩:=zU.h (P:=ah) (T:=27) (e:=(eS 1 eB)) enc W n _ i s t3;have t4:DataW.trod enc ah W 0 (λ_=>true) true n 28 [N]=some (l,m):=(by have q:=g 4 _ _ inferInstance;rw[show Tryz.prog.cellsOf 28=1 by kernel_rfl]at q;exact q)
 obtain⟨J,a4,V,M,s4⟩:=zU.h (P:=ah) (T:=28) (e:=(eS 2 rJ)) enc W n _ l m t4;refine⟨⟨F,c,f,C,J⟩,⟨a0,Q,D,a3,a4⟩,⟨u.1,u.2.1,X.1,K.1,S.1,V.1,an⟩,?_,?_⟩
 ·intro v j;simp only[List.mem_cons,List.not_mem_nil,or_false]at j;rcases j with rfl|rfl|rfl|rfl|rfl|rfl
  ·exact o _ η
  ·exact o _ η
  ·exact R _ η
  ·exact G _ η
  ·exact H _ η
  exact M _ η
 simp only[List.map_cons,List.map_nil,Rows.uptoBulk,Rows.uptoBulkAll];omega⟩
end
section
open Go.Fw Go.RowKit
noncomputable def jm(D:List Nat):Option (List Nat):=uE 4 [] D
noncomputable def cu(D:Nat)(H:Nat):Option (Nat×Nat):=(some ((D+H)%18446744073709551616)).bind λa=>(some (a/2^32)).bind λb=>(some (a%4294967296)).bind λa=>some (a,b)
noncomputable def qT(D:List Nat)(H:List Nat):Option (List (Nat×Nat)):=M8<|(some (D.length:Int)).bind λb=>(some (H.length:Int)).bind λa=>(some (max (b:Int) a)).bind λb=>(pN (AU (λ(a:Int)=>(show Option (List (Nat×Nat)×((Int)⊕(Unit)))from(some (decide ((a:Int)<b))).bind λb=>(bif b then(some (D.length:Int)).bind λb=>(some (decide ((a:Int)<b))).bind λd=>bU (λ(b:Nat)=>(some (H.length:Int)).bind λc=>(some (decide ((a:Int)<c))).bind λc=>bU (λ(e:Nat)=>(Dt (b,e)<|(some (IntKind.i64.wrap (a+1))).bind λb=>some ([],.inl b))) λb=>(bif c then(bV H a).bind λc=>(some (c%18446744073709551616)).bind λc=>b c else b 0)) λb=>(bif d then(bV D a).bind λa=>(some (a%18446744073709551616)).bind λa=>b a else b 0)else some ([],.inr ())))) 0) λa=>some ([],()))
noncomputable def bN(D:List Nat):Option (List Nat):=(bH (λ(a:(List Nat))=>(show Option (((List Nat))⊕((List Nat)))from bU (λ(b:Bool)=>(bif b then(some (a.length:Int)).bind λb=>(some (IntKind.i64.wrap (b-1))).bind λb=>(Kk a 0 b).bind λb=>some (.inl b)else some (.inr a))) λc=>(some (a.length:Int)).bind λb=>(some (decide ((0:Int)<b))).bind λb=>(bif b then(some (a.length:Int)).bind λb=>(some (IntKind.i64.wrap (b-1))).bind λb=>(bV a b).bind λa=>(some (decide ((a:Nat)=0))).bind λa=>some a else some false).bind λa=>c a)) D).bind λa=>some a
noncomputable def dy(D:Bool)(H:List Nat):Option (Zr):=(bN H).bind λa=>(some (a.length:Int)).bind λb=>(some (decide ((b:Int)=0))).bind λb=>(bif b then some ⟨false,[]⟩else some ⟨D,a⟩)
noncomputable def jg(H:Bool)(D:Nat):Option (Zr):=(some (decide ((D:Nat)=0))).bind λa=>(bif a then some ⟨false,[]⟩else(some (D/2^32)).bind λa=>(some (decide ((a:Nat)=0))).bind λa=>(bif a then(some (D%4294967296)).bind λa=>some ⟨H,[a]⟩else(some (D%4294967296)).bind λb=>(some (D/2^32)).bind λa=>(some (a%4294967296)).bind λa=>some ⟨H,[b,a]⟩))
noncomputable def gj(D:List Nat):Option (Nat):=(some (D.length:Int)).bind λa=>(some (decide ((a:Int)=0))).bind λb=>(bif b then some 0 else(some (decide ((a:Int)=1))).bind λa=>(bif a then(bV D 0).bind λa=>(some (a%18446744073709551616)).bind λa=>some a else(bV D 0).bind λa=>(some (a%18446744073709551616)).bind λb=>(bV D 1).bind λa=>(some (a%18446744073709551616)).bind λa=>(some (a*2^32%18446744073709551616)).bind λa=>(some ((b ||| a)%18446744073709551616)).bind λa=>some a))
noncomputable def eA(D:List Nat)(H:List Nat):Option (Int):=(some (D.length:Int)).bind λb=>(some (H.length:Int)).bind λa=>(some (decide ((b:Int)≠a))).bind λa=>(bif a then(some (D.length:Int)).bind λb=>(some (H.length:Int)).bind λa=>(some (decide ((b:Int)<a))).bind λa=>(bif a then some (-1)else some 1)else(some (D.length:Int)).bind λa=>(some (IntKind.i64.wrap (a-1))).bind λc=>(bH (λ(a:Int)=>(show Option ((Int)⊕((Unit)⊕(Int)))from(some (decide ((0:Int)<=a))).bind λb=>(bif b then(bV D a).bind λd=>(bV H a).bind λb=>(some (decide ((d:Nat)≠b))).bind λb=>(bif b then(bV D a).bind λb=>(bV H a).bind λd=>(some (decide ((b:Nat)<d))).bind λb=>(bif b then some (.inr (.inr (-1)))else some (.inr (.inr 1)))else(some (IntKind.i64.wrap (a-1))).bind λa=>some (.inl a))else some (.inr (.inl ()))))) c).bind λa=>match a with|.inr v6=>some v6|.inl _=>some 0)
noncomputable def iW(H:List Nat)(D:List Nat):Option (List Nat):=(some (H.length:Int)).bind λb=>(some (D.length:Int)).bind λa=>(some (max (b:Int) a)).bind λa=>(some (IntKind.i64.wrap (a+1))).bind λa=>(RA (α:=Nat) 4 a).bind λf=>(qT H D).bind λb=>(nH (λ(k:Nat) (a:Nat×(List Nat))=>match a with|⟨e,a⟩=>(show Option (Nat×(List Nat))from(some ((b.getD k ((0,0):Nat×Nat)).1)).bind λc=>(some ((b.getD k ((0,0):Nat×Nat)).2)).bind λd=>(some ((c+d)%18446744073709551616)).bind λc=>(cu c e).bind λ⟨c,d⟩=>(uE 4 a [c]).bind λc=>some (d,c))) b.length (0,f)).bind λb=>match b with|⟨e,a⟩=>(cu 0 e).bind λ⟨b,c⟩=>(uE 4 a [b]).bind λa=>some a
noncomputable def eP(D:List Nat)(H:List Nat):Option (List Nat):=(some (D.length:Int)).bind λa=>(RA (α:=Nat) 4 a).bind λf=>(qT D H).bind λb=>(nH (λ(k:Nat) (a:Nat×(List Nat))=>match a with|⟨e,c⟩=>(show Option (Nat×(List Nat))from(some ((b.getD k ((0,0):Nat×Nat)).1)).bind λa=>(some ((b.getD k ((0,0):Nat×Nat)).2)).bind λd=>(some (vf 18446744073709551616 4294967295 d)).bind λd=>(some ((a+d)%18446744073709551616)).bind λa=>(cu a e).bind λ⟨a,d⟩=>(uE 4 c [a]).bind λa=>some (d,a))) b.length (1,f)).bind λa=>match a with|⟨e,c⟩=>some c
noncomputable def kj(H:List Nat)(D:List Nat):Option (List Nat):=(some (H.length:Int)).bind λb=>(some (D.length:Int)).bind λa=>(some (IntKind.i64.wrap (b+a))).bind λa=>(uF 4 a (0:Nat)).bind λj=>(some (H.length:Int)).bind λb=>(bH (λ(a:Int×(List Nat))=>match a with|⟨a,f⟩=>(show Option ((Int×(List Nat))⊕((List Nat)))from(some (decide ((a:Int)<b))).bind λb=>(bif b then(bV H a).bind λd=>(some (D.length:Int)).bind λe=>(bH (λ(b:Int×Nat×(List Nat))=>match b with|⟨c,g,b⟩=>(show Option ((Int×Nat×(List Nat))⊕(Nat×(List Nat)))from(some (decide ((c:Int)<e))).bind λe=>(bif e then(bV D c).bind λh=>(some (IntKind.i64.wrap (a+c))).bind λi=>(some (IntKind.i64.wrap (a+c))).bind λe=>(fG b e).bind λe=>(b[e]?).bind λe=>(some (e%18446744073709551616)).bind λe=>(some (d%18446744073709551616)).bind λd=>(some (h%18446744073709551616)).bind λh=>(some ((d*h)%18446744073709551616)).bind λd=>(some ((e+d)%18446744073709551616)).bind λd=>(cu d g).bind λ⟨h,e⟩=>(fG b i).bind λd=>(stM b d h).bind λd=>(some (IntKind.i64.wrap (c+1))).bind λc=>some (.inl (c,e,d))else some (.inr (g,b))))) (0,0,f)).bind λb=>match b with|⟨c,b⟩=>(some (D.length:Int)).bind λd=>(some (IntKind.i64.wrap (a+d))).bind λd=>(cu 0 c).bind λ⟨c,e⟩=>(fG b d).bind λd=>(stM b d c).bind λb=>(some (IntKind.i64.wrap (a+1))).bind λa=>some (.inl (a,b))else some (.inr f)))) (0,j)).bind λa=>some a
noncomputable def lY(D:List Nat)(H:Nat):Option (Nat×List Nat):=(some (D.length:Int)).bind λa=>(some (IntKind.i64.wrap (a-1))).bind λf=>(bH (λ(a:Nat×Int×(List Nat))=>match a with|⟨c,a,b⟩=>(show Option ((Nat×Int×(List Nat))⊕(Nat×(List Nat)))from(some (decide ((0:Int)<=a))).bind λd=>(bif d then(some (c*2^32%18446744073709551616)).bind λe=>(fG b a).bind λd=>(b[d]?).bind λd=>(some (d%18446744073709551616)).bind λd=>(some ((e ||| d)%18446744073709551616)).bind λd=>(M4 18446744073709551616 d H).bind λe=>(some (e%4294967296)).bind λg=>(fG b a).bind λe=>(stM b e g).bind λe=>(Kl d H).bind λd=>(some (IntKind.i64.wrap (a-1))).bind λa=>some (.inl (d,a,e))else some (.inr (c,b))))) (0,f,D)).bind λa=>match a with|⟨a,b⟩=>(xu D b).bind λ_=>some (a,b)
noncomputable def jB(D:List Nat)(H:Nat):Option (List Nat):=(some (D.length:Int)).bind λa=>(some (IntKind.i64.wrap (a+1))).bind λa=>(RA (α:=Nat) 4 a).bind λe=>(some (D.length:Int)).bind λd=>(bH (λ(a:Int×Nat×(List Nat))=>match a with|⟨a,c,b⟩=>(show Option ((Int×Nat×(List Nat))⊕(Nat×(List Nat)))from(some (decide ((a:Int)<d))).bind λd=>(bif d then(bV D a).bind λd=>(some (d%18446744073709551616)).bind λd=>(some (d*2^(min H 64)%18446744073709551616)).bind λd=>(cu d c).bind λ⟨f,d⟩=>(uE 4 b [f]).bind λf=>(some (IntKind.i64.wrap (a+1))).bind λa=>some (.inl (a,d,f))else some (.inr (c,b))))) (0,0,e)).bind λa=>match a with|⟨a,b⟩=>(cu 0 a).bind λ⟨a,c⟩=>(uE 4 b [a]).bind λa=>some a
noncomputable def mD(D:List Nat)(H:Nat):Option (List Nat):=(some (D.length:Int)).bind λa=>(some (IntKind.i64.wrap (a+1))).bind λa=>(RA (α:=Nat) 4 a).bind λe=>(some (D.length:Int)).bind λd=>(bH (λ(a:Int×Nat×(List Nat))=>match a with|⟨a,c,b⟩=>(show Option ((Int×Nat×(List Nat))⊕(Nat×(List Nat)))from(some (decide ((a:Int)<d))).bind λd=>(bif d then(bV D a).bind λd=>(some (d%18446744073709551616)).bind λd=>(some (d*2^(min H 64)%18446744073709551616)).bind λd=>(cu d c).bind λ⟨f,d⟩=>(uE 4 b [f]).bind λf=>(some (IntKind.i64.wrap (a+1))).bind λa=>some (.inl (a,d,f))else some (.inr (c,b))))) (0,0,e)).bind λa=>match a with|⟨b,a⟩=>(cu 0 b).bind λ⟨b,c⟩=>(uE 4 a [b]).bind λa=>some a
noncomputable def kU(D:Nat):Option (Int):=(some (decide ((65536:Nat)<=D))).bind λf=>bU (λ(a:Nat×Int)=>match a with|⟨a,b⟩=>(some (decide ((256:Nat)<=a))).bind λe=>bU (λ(c:Nat×Int)=>match c with|⟨c,d⟩=>(some (c%256)).bind λc=>(Dv [0,1,2,2,3,3,3,3,4,4,4,4,4,4,4,4,5,5,5,5,5,5,5,5,5,5,5,5,5,5,5,5,6,6,6,6,6,6,6,6,6,6,6,6,6,6,6,6,6,6,6,6,6,6,6,6,6,6,6,6,6,6,6,6,7,7,7,7,7,7,7,7,7,7,7,7,7,7,7,7,7,7,7,7,7,7,7,7,7,7,7,7,7,7,7,7,7,7,7,7,7,7,7,7,7,7,7,7,7,7,7,7,7,7,7,7,7,7,7,7,7,7,7,7,7,7,7,7,8,8,8,8,8,8,8,8,8,8,8,8,8,8,8,8,8,8,8,8,8,8,8,8,8,8,8,8,8,8,8,8,8,8,8,8,8,8,8,8,8,8,8,8,8,8,8,8,8,8,8,8,8,8,8,8,8,8,8,8,8,8,8,8,8,8,8,8,8,8,8,8,8,8,8,8,8,8,8,8,8,8,8,8,8,8,8,8,8,8,8,8,8,8,8,8,8,8,8,8,8,8,8,8,8,8,8,8,8,8,8,8,8,8,8,8,8,8,8,8,8,8,8,8,8,8,8,8] ((c:Nat):Int)).bind λc=>(some (IntKind.i64.wrap (c:Int))).bind λc=>(some (IntKind.i64.wrap (d+c))).bind λc=>some c) λc=>(bif e then(some (a/2^8)).bind λe=>(some (IntKind.i64.wrap (b+8))).bind λd=>c (e,d)else c (a,b))) λa=>(bif f then(some (D/2^16)).bind λb=>a (b,16)else a (D,0))
noncomputable def fH(D:Nat):Option (Int):=(kU D).bind λa=>(some (IntKind.i64.wrap (32-a))).bind λa=>some a
noncomputable def lZ(D:List Nat)(K:Nat)(H:Nat)(I:List Nat):Option (Nat×List Nat):=(some (I.length:Int)).bind λa=>(ckR K H a).bind λb=>(D[b]?).bind λb=>(some (b%18446744073709551616)).bind λb=>(some (b*2^32%18446744073709551616)).bind λc=>(some (IntKind.i64.wrap (a-1))).bind λb=>(ckR K H b).bind λb=>(D[b]?).bind λb=>(some (b%18446744073709551616)).bind λb=>(some ((c ||| b)%18446744073709551616)).bind λb=>(some (IntKind.i64.wrap (a-1))).bind λc=>(bV I c).bind λc=>(some (c%18446744073709551616)).bind λc=>(some (IntKind.i64.wrap (a-2))).bind λd=>(bV I d).bind λd=>(some (d%18446744073709551616)).bind λf=>(M4 18446744073709551616 b c).bind λi=>(Kl b c).bind λh=>(bH (λ(b:Nat×Nat)=>match b with|⟨b,d⟩=>(show Option ((Nat×Nat)⊕(Nat))from bU (λ(e:Bool)=>(bif e then(some (vf 18446744073709551616 b 1)).bind λe=>(some ((d+c)%18446744073709551616)).bind λc=>(some (c/2^32)).bind λg=>(some (decide ((g:Nat)≠0))).bind λg=>(bif g then some (.inr e)else some (.inl (e,c)))else some (.inr b))) λe=>(some (b/2^32)).bind λc=>(some (decide ((c:Nat)≠0))).bind λc=>(bif c then some true else(some ((b*f)%18446744073709551616)).bind λb=>(some (d*2^32%18446744073709551616)).bind λc=>(some (IntKind.i64.wrap (a-2))).bind λa=>(ckR K H a).bind λa=>(D[a]?).bind λa=>(some (a%18446744073709551616)).bind λa=>(some ((c ||| a)%18446744073709551616)).bind λa=>(some (decide ((a:Nat)<b))).bind λa=>some a).bind λa=>e a)) (i,h)).bind λa=>(xu D D).bind λ_=>some (a,D)
noncomputable def eR(I:List Nat)(K:Nat)(D:Nat)(H:List Nat)(x2:Nat):Option (Bool×List Nat):=(some (D:Int)).bind λc=>(bH (λ(a:Nat×Int×Nat×(List Nat))=>match a with|⟨b,a,f,d⟩=>(show Option ((Nat×Int×Nat×(List Nat))⊕(Nat×(List Nat)))from(some (decide ((a:Int)<c))).bind λc=>(bif c then(some (H.length:Int)).bind λc=>(some (decide ((a:Int)<c))).bind λh=>bU (λ(c:Nat)=>(ckR K D a).bind λe=>(d[e]?).bind λe=>(some (e%18446744073709551616)).bind λg=>(cu c f).bind λ⟨e,c⟩=>(some (e%18446744073709551616)).bind λe=>(some (vf 18446744073709551616 g e)).bind λe=>(some (vf 18446744073709551616 e b)).bind λe=>(some (e%4294967296)).bind λg=>(ckR K D a).bind λf=>(stM d f g).bind λf=>(some (e/2^63)).bind λg=>(some (IntKind.i64.wrap (a+1))).bind λe=>some (.inl (g,e,c,f))) λc=>(bif h then(bV H a).bind λa=>(some (a%18446744073709551616)).bind λa=>(some ((a*x2)%18446744073709551616)).bind λa=>c a else c 0)else some (.inr (b,d))))) (0,0,0,I)).bind λa=>match a with|⟨a,b⟩=>(some (decide ((a:Nat)≠0))).bind λa=>(xu I b).bind λ_=>some (a,b)
noncomputable def mR(H:List Nat)(D:List Nat):Option ((List Nat)×(List Nat)):=(some (D.length:Int)).bind λb=>(some (IntKind.i64.wrap (b-1))).bind λa=>(bV D a).bind λa=>(fH a).bind λa=>(some ((a%18446744073709551616).toNat)).bind λk=>(mD H k).bind λp=>(jB D k).bind λa=>(Kk a 0 b).bind λg=>(some (H.length:Int)).bind λa=>(some (IntKind.i64.wrap (a-b))).bind λa=>(some (IntKind.i64.wrap (a+1))).bind λa=>(uF 4 a (0:Nat)).bind λo=>(some (H.length:Int)).bind λa=>(some (IntKind.i64.wrap (a-b))).bind λq=>(bH (λ(a:Int×(List Nat)×(List Nat))=>match a with|⟨a,l,f⟩=>(show Option ((Int×(List Nat)×(List Nat))⊕((List Nat)×(List Nat)))from(some (decide ((0:Int)<=a))).bind λc=>(bif c then(some (IntKind.i64.wrap (a+b))).bind λc=>(some (IntKind.i64.wrap (c+1))).bind λc=>(ckS f a c).bind λ⟨d,c⟩=>(lZ f d c g).bind λ⟨h,c⟩=>(xu f c).bind λ_=>(some (IntKind.i64.wrap (a+b))).bind λd=>(some (IntKind.i64.wrap (d+1))).bind λd=>(ckS c a d).bind λ⟨d,e⟩=>(eR c d e g h).bind λ⟨e,i⟩=>(xu c i).bind λ_=>bU (λ(c:Nat×(List Nat))=>match c with|⟨c,j⟩=>(some (c%4294967296)).bind λc=>(fG l a).bind λd=>(stM l d c).bind λc=>(some (IntKind.i64.wrap (a-1))).bind λd=>some (.inl (d,c,j))) λc=>(bif e then(some (vf 18446744073709551616 h 1)).bind λr=>(some (g.length:Int)).bind λj=>(bH (λ(d:Int×Nat×(List Nat))=>match d with|⟨d,m,e⟩=>(show Option ((Int×Nat×(List Nat))⊕(Nat×(List Nat)))from(some (decide ((d:Int)<j))).bind λj=>(bif j then(bV g d).bind λj=>(some (IntKind.i64.wrap (a+d))).bind λn=>(some (IntKind.i64.wrap (a+d))).bind λg=>(fG e g).bind λg=>(e[g]?).bind λg=>(some (g%18446744073709551616)).bind λg=>(some (j%18446744073709551616)).bind λj=>(some ((g+j)%18446744073709551616)).bind λg=>(cu g m).bind λ⟨j,g⟩=>(fG e n).bind λn=>(stM e n j).bind λj=>(some (IntKind.i64.wrap (d+1))).bind λd=>some (.inl (d,g,j))else some (.inr (m,e))))) (0,0,i)).bind λd=>match d with|⟨e,d⟩=>(some (IntKind.i64.wrap (a+b))).bind λg=>(some (IntKind.i64.wrap (a+b))).bind λa=>(fG d a).bind λa=>(d[a]?).bind λa=>(some (a%18446744073709551616)).bind λa=>(cu a e).bind λ⟨e,a⟩=>(fG d g).bind λa=>(stM d a e).bind λa=>c (r,a)else c (h,i))else some (.inr (l,f))))) (q,o,p)).bind λa=>match a with|⟨f,c⟩=>(uF 4 b (0:Nat)).bind λg=>(bH (λ(a:Int×(List Nat))=>match a with|⟨a,e⟩=>(show Option ((Int×(List Nat))⊕((List Nat)))from(some (decide ((a:Int)<b))).bind λb=>(bif b then(fG c a).bind λb=>(c[b]?).bind λb=>(some (b%18446744073709551616)).bind λb=>(some (IntKind.i64.wrap (a+1))).bind λd=>(fG c d).bind λd=>(c[d]?).bind λc=>(some (c%18446744073709551616)).bind λc=>(some (c*2^32%18446744073709551616)).bind λc=>(some ((b ||| c)%18446744073709551616)).bind λb=>(some (b/2^(min k 64))).bind λb=>(some (b%4294967296)).bind λb=>(fG e a).bind λc=>(stM e c b).bind λb=>(some (IntKind.i64.wrap (a+1))).bind λa=>some (.inl (a,b))else some (.inr e)))) (0,g)).bind λa=>some (f,a)
noncomputable def kn(D:List Nat)(H:List Nat):Option ((List Nat)×(List Nat)):=(eA D H).bind λa=>(some (decide ((a:Int)<0))).bind λa=>(bif a then(jm D).bind λa=>some ([],a)else(some (D.length:Int)).bind λa=>(some (decide ((a:Int)<=2))).bind λa=>(bif a then(gj D).bind λb=>(gj H).bind λa=>(M4 18446744073709551616 b a).bind λc=>(jg false c).bind λ⟨d,c⟩=>(Kl b a).bind λa=>(jg false a).bind λ⟨b,a⟩=>some (c,a)else(some (H.length:Int)).bind λa=>(some (decide ((a:Int)=1))).bind λa=>(bif a then(jm D).bind λb=>(bV H 0).bind λa=>(some (a%18446744073709551616)).bind λa=>(lY b a).bind λ⟨c,a⟩=>(xu b a).bind λ_=>(some (c%4294967296)).bind λb=>some (a,[b])else(mR D H).bind λ⟨a,b⟩=>some (a,b))))
noncomputable def cD(D:Int):Option (Zr):=(some ((D%18446744073709551616).toNat)).bind λb=>(some (decide ((D:Int)<0))).bind λd=>bU (λ(a:Nat)=>(some (decide ((D:Int)<0))).bind λc=>(jg c a).bind λ⟨a,c⟩=>some ⟨a,c⟩) λa=>(bif d then(some (vf 18446744073709551616 0 b)).bind λc=>a c else a b)
noncomputable def eT(D:Zr):Option (Int×Bool):=match D with|⟨c,a⟩=>(bN a).bind λa=>(some (a.length:Int)).bind λb=>(some (decide ((2:Int)<b))).bind λb=>(bif b then some (0,false)else(gj a).bind λa=>(bif c then(some (decide ((9223372036854775808:Nat)<a))).bind λb=>(bif b then some (0,false)else(some (vf 18446744073709551616 0 a)).bind λb=>(some (IntKind.i64.wrap (b:Int))).bind λb=>some (b,true))else(some (decide ((9223372036854775808:Nat)<=a))).bind λb=>(bif b then some (0,false)else(some (IntKind.i64.wrap (a:Int))).bind λa=>some (a,true))))
noncomputable def fm(I:Bool)(H:List Nat)(K:Bool)(D:List Nat):Option (Zr):=(some (I==K)).bind λa=>(bif a then(iW H D).bind λa=>(dy I a).bind λ⟨a,b⟩=>some ⟨a,b⟩else(eA H D).bind λa=>(some (decide ((a:Int)<0))).bind λa=>(bif a then(eP D H).bind λa=>(dy K a).bind λ⟨b,a⟩=>some ⟨b,a⟩else(eP H D).bind λa=>(dy I a).bind λ⟨a,b⟩=>some ⟨a,b⟩))
noncomputable def ua(H:Zr)(D:Zr):Option (Zr):=match H with|⟨d,a⟩=>match D with|⟨f,e⟩=>(eT ⟨d,a⟩).bind λ⟨b,g⟩=>(eT ⟨f,e⟩).bind λ⟨c,i⟩=>bU (λ(h:Bool)=>bU (λ(j:Unit)=>(bN a).bind λa=>(bN e).bind λe=>(fm d a f e).bind λ⟨d,a⟩=>some ⟨d,a⟩) λd=>(bif h then(some (IntKind.i64.wrap (b+c))).bind λa=>(some (IntKind.i64.wrap ((BitVec.ofInt 64 b ^^^ BitVec.ofInt 64 a).toNat))).bind λe=>(some (IntKind.i64.wrap ((BitVec.ofInt 64 c ^^^ BitVec.ofInt 64 a).toNat))).bind λb=>(some (IntKind.i64.wrap ((BitVec.ofInt 64 e &&& BitVec.ofInt 64 b).toNat))).bind λb=>(some (decide ((0:Int)<=b))).bind λb=>(bif b then(cD a).bind λ⟨a,b⟩=>some ⟨a,b⟩else d ())else d ())) λb=>(bif g then some i else some false).bind λa=>b a
noncomputable def ud(H:Zr)(D:Zr):Option (Zr):=match H with|⟨c,b⟩=>match D with|⟨f,e⟩=>(eT ⟨c,b⟩).bind λ⟨a,g⟩=>(eT ⟨f,e⟩).bind λ⟨d,i⟩=>bU (λ(h:Bool)=>bU (λ(j:Unit)=>(bN b).bind λb=>(some (!f)).bind λf=>(bN e).bind λe=>(fm c b f e).bind λ⟨b,c⟩=>some ⟨b,c⟩) λb=>(bif h then(some (IntKind.i64.wrap (a-d))).bind λc=>(some (IntKind.i64.wrap ((BitVec.ofInt 64 a ^^^ BitVec.ofInt 64 d).toNat))).bind λd=>(some (IntKind.i64.wrap ((BitVec.ofInt 64 a ^^^ BitVec.ofInt 64 c).toNat))).bind λa=>(some (IntKind.i64.wrap ((BitVec.ofInt 64 d &&& BitVec.ofInt 64 a).toNat))).bind λa=>(some (decide ((0:Int)<=a))).bind λa=>(bif a then(cD c).bind λ⟨a,c⟩=>some ⟨a,c⟩else b ())else b ())) λb=>(bif g then some i else some false).bind λa=>b a
noncomputable def eU(H:Zr)(D:Zr):Option (Zr):=match H with|⟨d,a⟩=>match D with|⟨e,c⟩=>(bN a).bind λb=>(bN c).bind λa=>bU (λ(c:Bool)=>(bif c then(some (!(d==e))).bind λf=>(gj b).bind λg=>(gj a).bind λc=>(some ((g*c)%18446744073709551616)).bind λc=>(jg f c).bind λ⟨c,f⟩=>some ⟨c,f⟩else(some (!(d==e))).bind λc=>(kj b a).bind λd=>(dy c d).bind λ⟨d,c⟩=>some ⟨d,c⟩)) λc=>(some (b.length:Int)).bind λb=>(some (decide ((b:Int)<=1))).bind λb=>(bif b then(some (a.length:Int)).bind λa=>(some (decide ((a:Int)<=1))).bind λa=>some a else some false).bind λa=>c a
noncomputable def kV(D:Zr):Option (Zr):=match D with|⟨b,a⟩=>(some (!b)).bind λb=>(bN a).bind λa=>(jm a).bind λa=>(dy b a).bind λ⟨a,b⟩=>some ⟨a,b⟩
noncomputable def eJ(D:Zr):Option (Int):=match D with|⟨b,a⟩=>(bN a).bind λa=>(some (a.length:Int)).bind λa=>(some (decide ((a:Int)=0))).bind λa=>(bif a then some 0 else(bif b then some (-1)else some 1))
noncomputable def ue(D:Zr)(H:Zr):Option (Int):=match D with|⟨c,a⟩=>match H with|⟨d,b⟩=>(eJ ⟨c,a⟩).bind λc=>(eJ ⟨d,b⟩).bind λd=>(some (decide ((c:Int)<d))).bind λe=>(bif e then some (-1)else(some (decide ((d:Int)<c))).bind λd=>(bif d then some 1 else(some (decide ((c:Int)<0))).bind λc=>(bif c then(bN b).bind λc=>(bN a).bind λd=>(eA c d).bind λc=>some c else(bN a).bind λc=>(bN b).bind λa=>(eA c a).bind λa=>some a)))
noncomputable def iv(H:Zr)(D:Zr):Option (Zr×Zr×Int):=match H with|⟨h,a⟩=>match D with|⟨g,b⟩=>(bN a).bind λc=>(bN b).bind λb=>(some (b.length:Int)).bind λa=>(some (decide ((a:Int)=0))).bind λa=>(bif a then some (⟨false,[]⟩,⟨false,[]⟩,7)else(kn c b).bind λ⟨i,a⟩=>(bN a).bind λa=>bU (λ(c:Bool×Bool)=>match c with|⟨e,f⟩=>bU (λ(c:(List Nat)×(List Nat))=>match c with|⟨c,d⟩=>(some (!(f==g))).bind λf=>(dy f c).bind λ⟨g,c⟩=>(dy false d).bind λ⟨f,d⟩=>some (⟨g,c⟩,⟨f,d⟩,0)) λc=>(bif e then(iW i [1]).bind λd=>(eP b a).bind λb=>c (d,b)else c (i,a))) λb=>(bif h then(some (a.length:Int)).bind λa=>(some (decide ((0:Int)<a))).bind λa=>some a else some false).bind λa=>b (a,h))
noncomputable def qW(H:Zr)(D:Zr):Option (Zr):=match H with|⟨b,a⟩=>match D with|⟨c,b⟩=>(bN a).bind λf=>(bN b).bind λd=>(bH (λ(a:(List Nat)×(List Nat))=>match a with|⟨b,a⟩=>(show Option (((List Nat)×(List Nat))⊕((List Nat)×(List Nat)))from bU (λ(c:Bool)=>(bif c then(kn b a).bind λ⟨e,c⟩=>(bN c).bind λc=>some (.inl (a,c))else some (.inr (b,a)))) λe=>(some (a.length:Int)).bind λc=>(some (decide ((0:Int)<c))).bind λc=>(bif c then(some (b.length:Int)).bind λb=>(some (decide ((2:Int)<b))).bind λb=>(bif b then some true else(some (a.length:Int)).bind λa=>(some (decide ((2:Int)<a))).bind λa=>some a).bind λa=>some a else some false).bind λa=>e a)) (f,d)).bind λa=>match a with|⟨a,b⟩=>(some (b.length:Int)).bind λc=>(some (decide ((c:Int)=0))).bind λc=>(bif c then(jm a).bind λc=>(dy false c).bind λ⟨c,d⟩=>some ⟨c,d⟩else(gj a).bind λd=>(gj b).bind λe=>(bH (λ(a:Nat×Nat)=>match a with|⟨b,a⟩=>(show Option ((Nat×Nat)⊕(Nat))from(some (decide ((0:Nat)<a))).bind λc=>(bif c then(Kl b a).bind λc=>some (.inl (a,c))else some (.inr b)))) (d,e)).bind λa=>(jg false a).bind λ⟨b,a⟩=>some ⟨b,a⟩)
end
section
open Go.Fw Go.RowKit
theorem iX(D:Nat):FC ah 106 [.sv (.v (.int .u64 ((D:Nat):Int)))] [] (.fn 156 [] [.ptr 0 0]) [(0,.box 123 [.sv (.v (.int .u64 ((D:Nat):Int)))])]:=by
 refine cQ Tryz.func106 Y λE w vs a b=>?_;exact sr<|afI Y<|aC Y<|dn<|sr<|ajx<|afz<|dn<|aY<|fC (S':=AS.bM 4 [(2,.fn 156 [] [.ptr 0 0])] [(0,.box 123 [.sv (.v (.int .u64 ((D:Nat):Int)))])]) (r:=()) Y [.fn 156 [] [.ptr 0 0]] (wk [(0,1)])
theorem uI{D r:List Nat}(h:jm D=some r):Pure ah 105 [aoc 1 bf D] (aoc 1 bf r):=by
 refine aZ Tryz.func105 Y λE w vs a=>?_;refine sr<|aeD (aA (n:=1) (e:=bf))<|dn<|aT<|sr<|aeZ<|anu λb a=>?_;cases b
 ·exact dn<|WC<|aX<|aR.n<|sr<|ajN (l:=([]:List Nat)) (e:=bf) .nil Y<|aeZ<|aeM Y Y (az (f:=some) h Y) λl h=>afz<|dn<|ow (bT (i:=7) (e:=bf) (l:=l) Y)<|aY<|f1 h
 obtain rfl:D=[]:=by simpa using a Y
 obtain⟨_,_,rfl⟩:=Fm h;exact dn<|Zd<|sr<|aeD (aA (n:=1) (e:=bf))<|dn<|aY<|aR.r<|f1 (m:=([]:List Nat)) Y
theorem Hf{D r:List Nat}(h:jm D=some r):FC ah 105 [aoh 1 bf D] [] (.ob 0) [(0,TR 189 1 bf r)]:=by
 refine cQ Tryz.func105 Y λE w vs a b=>?_;refine sr<|afz<|dn<|aT<|sr<|aeZ<|anu λb a=>?_;cases b
 ·exact dn<|WC<|aX<|aR.n<|sr<|ajN (l:=([]:List Nat)) (e:=bf) .nil Y<|aeZ<|aeM Y Y (az (f:=some) h Y) λl h=>afz<|dn<|aY<|fC (S':=AS.bM 8 [(2,.ob 0)] [(0,TR 189 1 bf l)]) h [.ob 0] (wk [(0,7)])
 obtain rfl:D=[]:=by simpa using a Y
 obtain⟨_,_,rfl⟩:=Fm h;exact dn<|Zd<|sr<|afz<|dn<|ow (gw 2 2001 (.row 189 1 0 []) Y)<|aY<|aR.r<|fC (S':=AS.bM 8 [(2,.ob 0)] [(0,TR 189 1 bf ([]:List Nat))]) (m:=([]:List Nat)) Y [.ob 0] (wk [(0,2001)])
theorem dc{D:Nat}{H:Nat}{r:Nat×Nat}(h:cu D H=some r):FC ah 156 [.sv (.v (.int .u64 ((D:Nat):Int))),.ptr 1000 0] [(1000,.box 123 [.sv (.v (.int .u64 ((H:Nat):Int)))])] (.sv (.v (.int .u32 ((r.1:Nat):Int)))) [(1000,.box 123 [.sv (.v (.int .u64 ((r.2:Nat):Int)))])]:=by
 refine cQ Tryz.func156 Y λE w vs a b=>?_;unfold cu at h;exact sr<|aC Y<|dn<|sr<|aB Y<|aH Y Y Y<|ajb h λa h=>aC Y<|dn<|sr<|aB Y<|ahA h λb h=>afv Y Y Y<|dn<|sr<|aB Y<|afj h λa h=>aC Y<|dn<|aY<|fC (S':=AS.bM 11 [(3,.sv (.v (.int .u32 ((a:Nat):Int))))] [(1000,.box 123 [.sv (.v (.int .u64 ((b:Nat):Int)))])]) h [.sv (.v (.int .u32 ((a:Nat):Int)))] (wk [])
theorem FE{iT:List Nat}{nA:List Nat}{r:List (Nat×Nat)}(h:qT iT nA=some r):Iter ah 241 [ref [aoc 1 bf iT],ref [aoc 1 bf nA]] r.length (λk=>[.v (.int .u64 ((((r.getD k ((0,0):Nat×Nat)).1):Nat):Int)),.v (.int .u64 ((((r.getD k ((0,0):Nat×Nat)).2):Nat):Int))]):=by
 refine vM Tryz.func241 Y λwld M Ob yl J hJ hcv hr=>?_;unfold qT at h;obtain⟨o,h,hd⟩:=Fs h;refine sr<|aI Y Y<|aN h λx8 h=>aI Y Y<|aN h λdH h=>ahD (k:=.i64) h λdh h=>aB Y<|dn<|?_;obtain⟨aoI,Dw,aav,vQ,fu,rfl⟩:=mB h;refine bp (λ(l6:(Unit)×Nat)=>AS.bM 39 [] [] l6.2) (λl6=>l6.1=Dw/\D4 r l6.2 [] (aav++[])) (aV<|rK vQ hd.as (λkN g12=>AS.bM 39 [(0,.sv (.v (.func (.yield yl) #[] #[]))),(1,.sv (ref [aoc 1 bf iT])),(2,.sv (ref [aoc 1 bf nA])),(11,ai dh),(12,ai kN)] [] g12) (wk []) (λpO g12 aoJ t12 y12 G12 h hd vi vR=>?_)) (λl6 vS=>?_)
 ·refine sr<|aL h λdB h=>dn<|aT<|?_;cases dB
  ·refine cF h λh=>bt<|aR.x<|?_;obtain⟨rfl,rfl⟩:=tY h;obtain⟨aay,aaz⟩:=vR _ _ Y hd;exact aR.x<|bn.x<|aR.n ⟨((),_),⟨aay,aaz⟩,wk []⟩
  refine cT h λh=>aX<|aR.n<|aT<|aV<|sr<|aB Y<|aC Y<|dn<|sr<|aC Y<|aC Y<|dn<|aT<|sr<|aB Y<|aI Y Y<|aN h λdR h=>aL h λcO h=>dn<|?_;refine bB h (λZg=>AS.bM 39 [(0,.sv (.v (.func (.yield yl) #[] #[]))),(1,.sv (ref [aoc 1 bf iT])),(2,.sv (ref [aoc 1 bf nA])),(4,ai pO),(5,.sv (.v (.int .u64 ((Zg:Nat):Int)))),(6,.sv (.v (.int .u64 ((0:Nat):Int)))),(11,ai dh),(12,ai pO)] [] g12) (λh=>?_) (λWE h=>?_)
  ·cases cO
   ·exact cF h λh=>aX<|aR.n ⟨0,h,wk []⟩
   exact cT h λh=>aU<|aI Y Y<|aB Y<|aQ Y h λeY h=>aI Y Y<|afj h λep h=>aC Y<|aF<|aR.n ⟨ep,h,wk []⟩
  refine aR.n<|aT<|sr<|aB Y<|aI Y Y<|aN h λdN h=>aL h λgJ h=>dn<|?_;refine bB h (λRo=>AS.bM 39 [(0,.sv (.v (.func (.yield yl) #[] #[]))),(1,.sv (ref [aoc 1 bf iT])),(2,.sv (ref [aoc 1 bf nA])),(5,.sv (.v (.int .u64 ((WE:Nat):Int)))),(6,.sv (.v (.int .u64 ((Ro:Nat):Int)))),(11,ai dh),(12,ai pO)] [] g12) (λh=>?_) (λZ8 h=>?_)
  ·cases gJ
   ·exact cF h λh=>aX<|aR.n ⟨0,h,wk []⟩
   exact cT h λh=>aU<|aI Y Y<|aB Y<|aQ Y h λiF h=>aI Y Y<|afj h λiL h=>aC Y<|aF<|aR.n ⟨iL,h,wk []⟩
  refine aR.n<|sr<|aB Y<|aB Y<|aB Y<|?_;obtain⟨asU,Uu,rfl⟩:=vA h;obtain⟨aaA,aaB,aj3⟩:=hd.hd ((0,0):Nat×Nat);replace hd:=aj3;refine ajG hr g12 aaA (ss:=[.v (.int .u64 ((WE:Nat):Int)),.v (.int .u64 ((Z8:Nat):Int))]) (by show _=([.v (.int .u64 ((((r.getD g12 ((0,0):Nat×Nat)).1):Nat):Int)),.v (.int .u64 ((((r.getD g12 ((0,0):Nat×Nat)).2):Nat):Int))]:List SV);rw[aaB]) (λyb=>?_);cases yb
  ·exact ahr true<|dn<|Zd<|aY<|bn.r<|aR.r<|aR.r<|bn.r<|aR.r<|⟨.inr rfl,λq=>by cases q⟩
  refine ahr false<|dn<|WC<|aX<|bn.n<|aR.n<|aU<|aO Uu λpP Uu=>aB Y<|aF<|?_;obtain⟨rfl,rfl⟩:=tY Uu;exact aR.n ⟨pP,_,vi _ _ Y hd,wk []⟩
 obtain⟨aoK,k12⟩:=l6;obtain⟨rfl,hd⟩:=vS;replace hd:=hd.go;obtain⟨rfl,-⟩:=tY fu;exact⟨.inl Y,λ_=>hd.fin⟩
theorem BO(D:List Nat)(H:List Nat):Pure ah 209 [aoc 1 bf D,aoc 1 bf H] (gg 241 [] [ref [aoc 1 bf D],ref [aoc 1 bf H]]):=by
 refine aZ Tryz.func209 Y λE w vs a=>?_;exact sr<|afI Y<|afI Y<|aC Y<|dn<|ow (cK (i:=2) [aoc 1 bf D] Y)<|ow (cK (i:=3) [aoc 1 bf H] Y)<|sr<|ahn (bs:=[]) (cs:=[ref [aoc 1 bf D],ref [aoc 1 bf H]])<|aC Y<|dn<|aY<|f1 (r:=()) Y
theorem cJ{D:List Nat}{r:List Nat}(h:bN D=some r):Pure ah 48 [aoc 1 bf D] (aoc 1 bf r):=by
 refine aZ Tryz.func48 Y λE w vs a=>?_;unfold bN at h;refine sr<|aeD (aA (n:=1) (e:=bf))<|dn<|aT<|bq h λd b c=>?_;refine bp (λ(a:(List Nat))=>AS.bM 21 [(0,aoh 1 bf a)] []) (λa=>a=d) (aV<|br b (λb=>AS.bM 21 [(0,aoh 1 bf b)] []) (wk []) (λb f d h j i=>?_)) (λa d=>?_)
 ·refine aT<|aT<|?_;refine bB h (λa=>AS.bM 21 [(0,aoh 1 bf b),(14,aj a)] []) (λh=>?_) (λg h=>?_)
  ·refine aU<|aB Y<|aN h λa h=>aeG h λf h=>aB Y<|bq h λk a h=>?_;cases f
   ·replace a:=ct a;cases a;exact aD<|aD<|aD<|aD<|aD<|aD<|aD<|abE Y<|aF<|aR.n ⟨false,h,wk []⟩
   replace a:=cn a;refine aB Y<|aB Y<|aN a λf a=>aeK a λf a=>aQ Y a λf a=>aI Y Y<|ajK a λf a=>?_;obtain rfl:=aob a;exact aax Y<|aF<|aR.n ⟨f,h,wk []⟩
  refine aR.n<|?_;cases g
  ·refine cF h λh=>bt<|aR.x<|aR.x<|bn.x<|?_;obtain rfl:=aob h;exact aR.n ⟨b,i _ Y,wk []⟩
  refine cT h λh=>aX<|aR.n<|aV<|aU<|aB Y<|aB Y<|aN h λa h=>aeK h λa h=>ajL Y h λa h=>aC Y<|aF<|bn.n<|?_;obtain rfl:=aob h;exact aR.n ⟨a,j _ Y,wk []⟩
 subst d;exact aR.n<|sr<|aB Y<|aC Y<|dn<|aY<|f1 c
abbrev au:SV:=aoc 1 bf []
theorem jn{D:Bool}{H:List Nat}{r:Zr}(h:dy D H=some r):Pure ah 51 [ay D,aoc 1 bf H] (.agg (eZ r)):=by
 refine aZ Tryz.func51 Y λE w vs b=>?_;unfold dy at h;refine sr<|aM (cs:=[ay false,au]) (by exact⟨aq,aA,an⟩)<|dn<|sr<|aB Y<|aE h (λ_=>cJ) λx6 h=>aC Y<|dn<|aT<|sr<|aB Y<|aN h λx8 h=>aeH h λx9 h=>dn<|?_;cases x9
 ·exact cF h λh=>aX<|aR.n<|sr<|aB Y<|aB Y<|aez (cs':=[ay D,aoc 1 bf x6]) (.one Y (.one Y (.nil))) (by exact⟨aq,aq,an⟩)<|aJ Y Y Y<|dn<|aY<|fP h [.agg (eZ ⟨D,x6⟩)] (by exact⟨.a Y Y (.k2 Y Y) Y,an⟩)
 exact cT h λh=>sr<|aez (cs':=[ay false,au]) (.nil) (by exact⟨aq,aA,an⟩)<|aJ Y Y Y<|dn<|aY<|aR.r<|fP h [.agg (eZ ⟨false,[]⟩)] (by exact⟨.a Y Y (.k2 Y Y) Y,an⟩)
theorem oB{x0:Bool}{x1:Nat}{r:Zr}(h:jg x0 x1=some r):Pure ah 46 [ay x0,.v (.int .u64 ((x1:Nat):Int))] (.agg (eZ r)):=by
 refine aZ Tryz.func46 Y λE w vs hvs=>?_;unfold jg at h;refine sr<|aM (cs:=[ay false,au]) (by exact⟨aq,aA,an⟩)<|dn<|aT<|aV<|sr<|aB Y<|ajK h λx7 h=>aC Y<|dn<|?_;cases x7
 ·refine cF h λh=>sr<|aB Y<|ahA h λb h=>ajK h λb h=>aC Y<|dn<|?_;cases b
  ·exact cF h λh=>aX<|bn.n<|aR.n<|sr<|aB Y<|aB Y<|afj h λc h=>aB Y<|ahA h λgq h=>afj h λb h=>aeI (l:=[c,b]) (e:=bf) (.one Y (.one Y (.nil))) Y<|aez (cs':=[ay x0,aoc 1 bf [c,b]]) (.one Y (.one Y (.nil))) (by exact⟨aq,aq,an⟩)<|aJ Y Y Y<|dn<|aY<|fP h [.agg (eZ ⟨x0,[c,b]⟩)] (by exact⟨.a Y Y (.k2 Y Y) Y,an⟩)
  exact cT h λh=>sr<|aB Y<|aB Y<|afj h λb h=>aeI (l:=[b]) (e:=bf) (.one Y (.nil)) Y<|aez (cs':=[ay x0,aoc 1 bf [b]]) (.one Y (.one Y (.nil))) (by exact⟨aq,aq,an⟩)<|aJ Y Y Y<|dn<|aY<|bn.r<|aR.r<|fP h [.agg (eZ ⟨x0,[b]⟩)] (by exact⟨.a Y Y (.k2 Y Y) Y,an⟩)
 exact cT h λh=>sr<|aez (cs':=[ay false,au]) (.nil) (by exact⟨aq,aA,an⟩)<|aJ Y Y Y<|dn<|aY<|bn.r<|aR.r<|fP h [.agg (eZ ⟨false,[]⟩)] (by exact⟨.a Y Y (.k2 Y Y) Y,an⟩)
theorem mF{D:List Nat}{r:Nat}(h:gj D=some r):Pure ah 50 [aoc 1 bf D] (.v (.int .u64 ((r:Nat):Int))):=by
 refine aZ Tryz.func50 Y λE w vs a=>?_;unfold gj at h;refine sr<|aC Y<|dn<|aT<|sr<|aB Y<|aN h λa h=>dn<|aV<|sr<|aeH h λa h=>aC Y<|dn<|?_;cases a
 ·refine cF h λh=>sr<|aeH h λa h=>aC Y<|dn<|?_;cases a
  ·exact cF h λh=>aX<|bn.n<|aR.n<|sd mixed<|aB Y<|aQ Y h λa h=>aI Y Y<|afj h λa h=>aB Y<|aQ Y h λa h=>aI Y Y<|afj h λa h=>ain h λa h=>ajJ h λa h=>aC Y<|dd<|aY<|f1 h
  exact cT h λh=>sr<|aB Y<|aQ Y h λa h=>aI Y Y<|afj h λa h=>aC Y<|dn<|aY<|bn.r<|aR.r<|f1 h
 exact cT h λh=>sr<|aC Y<|dn<|aY<|bn.r<|aR.r<|f1 h
theorem kJ{H:List Nat}{D:List Nat}{r:Int}(h:eA H D=some r):Pure ah 49 [aoc 1 bf H,aoc 1 bf D] (ax r):=by
 refine aZ Tryz.func49 Y λE w vs a=>?_;unfold eA at h;refine sr<|aC Y<|dn<|aT<|sr<|aB Y<|aN h λa h=>aB Y<|aN h λa h=>aeA h λa h=>dn<|?_;cases a
 ·refine cF h λh=>aX<|aR.n<|aT<|sr<|aB Y<|aN h λa h=>aeK h λa h=>aC Y<|dn<|bq h λa d c=>?_;refine bp (λ(b:Unit)=>AS.bM 41 [] []) (λb=>.inl b=a) (aV<|br d (λa=>AS.bM 41 [(0,aoh 1 bf H),(1,aoh 1 bf D),(5,ai a)] []) (wk []) (λe f g h d a=>?_)) (λb e=>?_)
  ·refine aT<|sr<|aB Y<|afy h λb h=>dn<|?_;cases b
   ·refine cF h λh=>bt<|aR.x<|aR.x<|bn.x<|?_;cases h;exact aR.n ⟨(),a _ Y,wk []⟩
   refine cT h λh=>aX<|aR.n<|aT<|aV<|sd mixed<|aB Y<|aB Y<|aQ Y h λb h=>aI Y Y<|aB Y<|aB Y<|aQ Y h λb h=>aI Y Y<|ajY h λb h=>dd<|?_;cases b
   ·refine cF h λh=>aX<|bn.n<|aR.n<|aU<|aB Y<|aeK h λb h=>aC Y<|aF<|?_;obtain rfl:=aob h;exact aR.n ⟨b,d _ Y,wk []⟩
   refine cT h λh=>aT<|sd mixed<|aB Y<|aB Y<|aQ Y h λb h=>aI Y Y<|aB Y<|aB Y<|aQ Y h λb h=>aI Y Y<|anA h λb h=>dd<|?_;cases b
   ·refine cF h λh=>aX<|aR.n<|sr<|aC Y<|dn<|aY<|bn.r<|aR.r<|?_;obtain rfl:=aob h;have b:=a _ Y;subst b;exact aR.r<|bn.r<|aR.r<|aR.r<|f1 c
   refine cT h λh=>sr<|aC Y<|dn<|aY<|aR.r<|bn.r<|aR.r<|?_;obtain rfl:=aob h;have b:=a _ Y;subst b;exact aR.r<|bn.r<|aR.r<|aR.r<|f1 c
  subst e;exact aR.n<|sr<|aC Y<|dn<|aY<|f1 c
 refine cT h λh=>aT<|sr<|aB Y<|aN h λa h=>aB Y<|aN h λa h=>aL h λa h=>dn<|?_;cases a
 ·exact cF h λh=>aX<|aR.n<|sr<|aC Y<|dn<|aY<|aR.r<|f1 h
 exact cT h λh=>sr<|aC Y<|dn<|aY<|aR.r<|aR.r<|f1 h
theorem xB{I:List Nat}{H:List Nat}{r:List Nat}(h:iW I H=some r):Pure ah 153 [aoc 1 bf I,aoc 1 bf H] (aoc 1 bf r):=by
 refine aZ Tryz.func153 Y λE w vs a=>?_;unfold iW at h;refine sr<|aeD (aA (n:=1) (e:=bf))<|dn<|sr<|aB Y<|aN h λa h=>aB Y<|aN h λa h=>ahD (k:=.i64) h λa h=>aO h λa h=>ajq (e:=bf) h λa h=>aM (cs:=[.v (.slice none 0 0)]) (by exact⟨aq,an⟩)<|aeN Y Y Y (.ob Y)<|dn<|sr<|ais [(0,16)] (iX 0)<|aM (cs:=[.v .nilFunc]) (by exact⟨aq,an⟩)<|aeN Y Y Y .fn<|dn<|aT<|sr<|aB Y<|aB Y<|bq h λa f h=>ahq (BO I H)<|dn<|aV<|?_;replace h:=bind_some h;obtain⟨m,g,a⟩:=h;obtain⟨c,d,b,j⟩:=nw g;refine jP (FE f) (λ_ _ _ _ _=>trivial) Y (λk=>AS.bM 35 [(5,.ptr 5 0),(6,.ptr 6 0),(19,.sv (gg 241 [] [ref [aoc 1 bf I],ref [aoc 1 bf H]]))] [(6,.box 190 [.fn 156 [] [.ptr 16 0]]),(16,.box 123 [.sv (.v (.int .u64 (((c k).1:Nat):Int)))]),(5,.box 36 [.ob 2002]),(2002,TR 189 1 bf (c k).2)]) [5,6] Y (λ_=>⟨Y,Y⟩) (zQ Y) (λ_=>Y) (zR Y) (by rw[d];exact wk [(2002,15)]) (λk d D f=>?_) ?_
 ·have h:=b k d;obtain⟨d,b⟩:∃q,c k=q:=⟨_,Y⟩;rw[b]at h⊢;obtain⟨f,c⟩:=d;dsimp only[AS.Z2,AT]
  try dsimp only at h
  replace h:=bind_some h;obtain⟨d,b,h⟩:=h;rw[aob b];replace h:=bind_some h;obtain⟨d,b,h⟩:=h;rw[aob b];refine sr<|aC Y<|dn<|aU<|aC Y<|aF<|aR.n<|?_;refine⟨Y,?_⟩;dsimp only[AS.Ky];refine aV<|bz mixed<|aH Y Y Y<|aH Y Y Y<|aB Y<|aB Y<|ajb h λb h=>aeF [(1000,16)] h (λ_=>dc) λ⟨b,d⟩ h=>aeI (l:=[b]) (e:=bf) (.one Y (.nil)) Y<|aeM Y Y h λb h=>aeN Y Y Y (.ob Y)<|de<|bn.n<|?_;replace h:=aob h;refine⟨an,Y,Y,?_⟩;rw[<-h];exact wk [(2002,29)]
 rw[j];obtain⟨f,c⟩:=m;exact bn.n<|aR.n<|sd mixed<|aH Y Y Y<|aH Y Y Y<|aeF [(1000,16)] a (λ_=>dc) λ⟨b,c⟩ a=>aeI (l:=[b]) (e:=bf) (.one Y (.nil)) Y<|aeM Y Y a λb a=>aey Y<|dd<|ow (bT (i:=34) (e:=bf) (l:=b) Y)<|aY<|f1 a
theorem rL{I:List Nat}{H:List Nat}{r:List Nat}(h:eP I H=some r):Pure ah 154 [aoc 1 bf I,aoc 1 bf H] (aoc 1 bf r):=by
 refine aZ Tryz.func154 Y λE w vs a=>?_;unfold eP at h;refine sr<|aeD (aA (n:=1) (e:=bf))<|dn<|sr<|aB Y<|aN h λa h=>ajq (e:=bf) h λa h=>aM (cs:=[.v (.slice none 0 0)]) (by exact⟨aq,an⟩)<|aeN Y Y Y (.ob Y)<|dn<|sr<|ais [(0,12)] (iX 1)<|aM (cs:=[.v .nilFunc]) (by exact⟨aq,an⟩)<|aeN Y Y Y .fn<|dn<|aT<|sr<|aB Y<|aB Y<|bq h λb a h=>ahq (BO I H)<|dn<|aV<|?_;replace h:=bind_some h;obtain⟨j,f,m⟩:=h;obtain⟨c,d,b,g⟩:=nw f;refine jP (FE a) (λ_ _ _ _ _=>trivial) Y (λk=>AS.bM 28 [(5,.ptr 5 0),(6,.ptr 6 0),(15,.sv (gg 241 [] [ref [aoc 1 bf I],ref [aoc 1 bf H]]))] [(6,.box 190 [.fn 156 [] [.ptr 12 0]]),(12,.box 123 [.sv (.v (.int .u64 (((c k).1:Nat):Int)))]),(5,.box 36 [.ob 2002]),(2002,TR 189 1 bf (c k).2)]) [5,6] Y (λ_=>⟨Y,Y⟩) (zQ Y) (λ_=>Y) (zR Y) (by rw[d];exact wk [(2002,11)]) (λk a D d=>?_) ?_
 ·have h:=b k a;obtain⟨f,a⟩:∃q,c k=q:=⟨_,Y⟩;rw[a]at h⊢;obtain⟨d,b⟩:=f;dsimp only[AS.Z2,AT]
  try dsimp only at h
  replace h:=bind_some h;obtain⟨c,a,h⟩:=h;rw[aob a];replace h:=bind_some h;obtain⟨c,a,h⟩:=h;rw[aob a];refine sr<|aC Y<|dn<|aU<|aC Y<|aF<|aR.n<|?_;refine⟨Y,?_⟩;dsimp only[AS.Ky];refine aV<|bz mixed<|aH Y Y Y<|aH Y Y Y<|aB Y<|aB Y<|ajH h λa h=>ajb h λa h=>aeF [(1000,12)] h (λ_=>dc) λ⟨a,c⟩ h=>aeI (l:=[a]) (e:=bf) (.one Y (.nil)) Y<|aeM Y Y h λa h=>aeN Y Y Y (.ob Y)<|de<|bn.n<|?_;replace h:=aob h;refine⟨an,Y,Y,?_⟩;rw[<-h];exact wk [(2002,26)]
 rw[g];obtain⟨d,b⟩:=j;exact bn.n<|aR.n<|sr<|aH Y Y Y<|aey Y<|dn<|ow (bT (i:=2002) (e:=bf) (l:=b) Y)<|aY<|f1 m
theorem FF{x0:List Nat}{x1:List Nat}{r:List Nat}(h:kj x0 x1=some r):Pure ah 52 [aoc 1 bf x0,aoc 1 bf x1] (aoc 1 bf r):=by
 refine aZ Tryz.func52 Y λE w vs hvs=>?_;unfold kj at h;refine sr<|aeD (aA (n:=1) (e:=bf))<|dn<|sr<|aB Y<|aN h λdi h=>aB Y<|aN h λdJ h=>aO h λdO h=>aeW (e:=bf) 0 (by exact⟨aq,an⟩) h λdS h=>aey Y<|dn<|aT<|sr<|aB Y<|aN h λcO h=>aB Y<|dn<|bq h λa c nL=>?_;refine bp (λ(b:(List Nat))=>AS.bM 63 [(5,.ob 16)] [(16,TR 189 1 bf b)]) (λb=>b=a) (aV<|br c (λoV=>AS.bM 63 [(1,aoh 1 bf x1),(5,.ob 16),(17,aoh 1 bf x0),(18,ai cO),(19,ai oV.1)] [(16,TR 189 1 bf oV.2)]) (wk []) (λoV y28 a h d c=>?_)) (λb g=>?_)
 ·obtain⟨vO,a⟩:=oV
  try dsimp only
  refine sr<|aL h λdG h=>dn<|aT<|?_;cases dG
  ·refine cF h λh=>bt<|aR.x<|aR.x<|bn.x<|?_;obtain rfl:=aob h;exact aR.n ⟨a,c _ Y,wk []⟩
  refine cT h λh=>aX<|aR.n<|aT<|aV<|sr<|aB Y<|aQ Y h λgq h=>aI Y Y<|aC Y<|aC Y<|dn<|sr<|ais [(0,24)] (iX 0)<|afz<|dn<|aT<|sr<|aB Y<|aN h λdN h=>aB Y<|dn<|bq h λe38 aka a=>?_;refine bp (λ(Yo:Nat×(List Nat))=>AS.bM 63 [(1,aoh 1 bf x1),(5,.ob 16),(6,ai vO),(8,.fn 156 [] [.ptr 24 0]),(17,aoh 1 bf x0),(18,ai cO),(19,ai vO)] [(24,.box 123 [.sv (.v (.int .u64 ((Yo.1:Nat):Int)))]),(16,TR 189 1 bf Yo.2)]) (λYo=>Yo=e38) (aV<|br aka (λWH=>AS.bM 63 [(1,aoh 1 bf x1),(5,.ob 16),(6,ai vO),(7,.sv (.v (.int .u32 ((gq:Nat):Int)))),(8,.fn 156 [] [.ptr 24 0]),(17,aoh 1 bf x0),(18,ai cO),(19,ai vO),(25,aoh 1 bf x1),(26,ai dN),(27,ai WH.1)] [(24,.box 123 [.sv (.v (.int .u64 ((WH.2.1:Nat):Int)))]),(16,TR 189 1 bf WH.2.2)]) (wk []) (λWH y38 c h akb akc=>?_)) (λYo akd=>?_)
  ·obtain⟨j,f,c⟩:=WH
   try dsimp only
   refine sr<|aL h λjy h=>dn<|aT<|?_;cases jy
   ·refine cF h λh=>bt<|aR.x<|aR.x<|bn.x<|?_;obtain rfl:=aob h;exact aR.n ⟨(f,c),akc _ Y,wk []⟩
   refine cT h λh=>aX<|aR.n<|aT<|aV<|sr<|aB Y<|aQ Y h λiF h=>aI Y Y<|aC Y<|aC Y<|dn<|aU<|aaw Y<|aB Y<|aB Y<|aO h λjz h=>aeZ<|aaw Y<|aB Y<|aB Y<|aO h λiN h=>acr (p:=.r 16) Y (.r (.r Y)) h λkI h=>aeX (p:=.r 16) Y (.r Y) (λ_=>Y) h λnJ h=>afj h λlI h=>aB Y<|afj h λoW h=>aB Y<|afj h λsL h=>ajW h λmu h=>ajb h λvB h=>aeF [(1000,24)] h (λ_=>dc) λ⟨tH,k41⟩ h=>acr (p:=.r 16) Y (.r (.r Y)) h λpK h=>afx (p:=.r 16) tH Y Y (.r Y) h λl42 h=>aF<|bn.n<|aR.n<|aU<|aO h λrD h=>aB Y<|aF<|?_;obtain rfl:=aob h;exact aR.n ⟨(rD,k41,l42),akb _ Y,wk []⟩
  subst akd;obtain⟨c,Ui⟩:=Yo
  try dsimp only
  refine aR.n<|aU<|aaw Y<|aB Y<|aB Y<|aN a λsM a=>aO a λvP a=>aeZ<|aeF [(1000,24)] a (λ_=>dc) λ⟨sN,c⟩ a=>acr (p:=.r 16) Y (.r (.r Y)) a λxg a=>afx (p:=.r 16) sN Y Y (.r Y) a λUj a=>aF<|bn.n<|aR.n<|aU<|aO a λxx a=>aB Y<|aF<|?_;obtain rfl:=aob a;exact aR.n ⟨(xx,Uj),d _ Y,wk []⟩
 subst g;exact aR.n<|sr<|aaw Y<|aey Y<|dn<|ow (bT (i:=16) (e:=bf) (l:=b) Y)<|aY<|f1 nL
end
section
open Go.Fw Go.RowKit
theorem FG{H:List Nat}{D:Nat}{r:Nat×List Nat}(h:lY H D=some r):FC ah 207 [.ob 1000,.sv (.v (.int .u64 ((D:Nat):Int)))] [(1000,TR 189 1 bf H)] (.sv (.v (.int .u64 ((r.1:Nat):Int)))) [(1000,TR 189 1 bf r.2)]:=by
 refine cQ Tryz.func207 Y λE w vs a yK=>?_;unfold lY at h;refine sr<|aC Y<|dn<|sr<|aC Y<|dn<|aT<|sr<|aaw Y<|aeJ (p:=.r 1000) Y (.r (.r Y)) h λx9 h=>aeK h λa h=>aC Y<|dn<|bq h λa xV b=>?_;refine bp (λ(yP:Nat×(List Nat))=>AS.bM 34 [(5,.sv (.v (.int .u64 ((yP.1:Nat):Int))))] [(1000,TR 189 1 bf yP.2)]) (λyP=>yP=a) (aV<|br xV (λa=>AS.bM 34 [(0,.ob 1000),(1,.sv (.v (.int .u64 ((D:Nat):Int)))),(5,.sv (.v (.int .u64 ((a.1:Nat):Int)))),(6,ai a.2.1)] [(1000,TR 189 1 bf a.2.2)]) (wk []) (λa y8 c h xC xh=>?_)) (λyP xW=>?_)
 ·obtain⟨c,d,zV⟩:=a
  try dsimp only
  refine aT<|sr<|aB Y<|afy h λa h=>dn<|?_;cases a
  ·refine cF h λh=>bt<|aR.x<|aR.x<|bn.x<|?_;obtain rfl:=aob h;exact aR.n ⟨(c,zV),xh _ Y,wk []⟩
  refine cT h λh=>aX<|aR.n<|aT<|aV<|sr<|aB Y<|ain h λa h=>aaw Y<|aB Y<|acr (p:=.r 1000) Y (.r (.r Y)) h λa h=>aeX (p:=.r 1000) Y (.r Y) (λ_=>Y) h λa h=>afj h λa h=>ajJ h λa h=>aC Y<|dn<|sr<|aaw Y<|aB Y<|aB Y<|aB Y<|alW h λa h=>afj h λa h=>acr (p:=.r 1000) Y (.r (.r Y)) h λc h=>afx (p:=.r 1000) a Y Y (.r Y) h λc h=>dn<|aU<|aB Y<|aB Y<|ajZ h λd h=>aC Y<|aF<|bn.n<|aR.n<|aU<|aB Y<|aeK h λa h=>aC Y<|aF<|?_;obtain rfl:=aob h;exact aR.n ⟨(d,a,c),xC _ Y,wk []⟩
 subst xW;obtain⟨a,c⟩:=yP
 try dsimp only
 exact aR.n<|sr<|aB Y<|aC Y<|dn<|aY<|bq b λ_ _ b=>fC (S':=AS.bM 34 [(4,.sv (.v (.int .u64 ((a:Nat):Int))))] [(1000,TR 189 1 bf c)]) b [.sv (.v (.int .u64 ((a:Nat):Int)))] (wk [])
theorem D8{x0:List Nat}{x1:Nat}{r:List Nat}(h:jB x0 x1=some r):Pure ah 238 [aoc 1 bf x0,.v (.int .u64 ((x1:Nat):Int))] (aoc 1 bf r):=by
 refine aZ Tryz.func238 Y λE w vs a=>?_;unfold jB at h;refine sr<|aeD (aA (n:=1) (e:=bf))<|dn<|sr<|ais [(0,9)] (iX 0)<|afz<|dn<|sr<|aB Y<|aN h λa h=>aO h λa h=>ajq (e:=bf) h λa h=>aey Y<|dn<|aT<|sr<|aB Y<|aN h λc h=>aB Y<|dn<|bq h λa xV b=>?_;refine bp (λ(yP:Nat×(List Nat))=>AS.bM 35 [(5,.fn 156 [] [.ptr 9 0]),(6,.ob 2002)] [(9,.box 123 [.sv (.v (.int .u64 ((yP.1:Nat):Int)))]),(2002,TR 189 1 bf yP.2)]) (λyP=>yP=a) (aV<|br xV (λa=>AS.bM 35 [(1,.sv (.v (.int .u64 ((x1:Nat):Int)))),(5,.fn 156 [] [.ptr 9 0]),(6,.ob 2002),(14,aoh 1 bf x0),(15,ai c),(16,ai a.1)] [(9,.box 123 [.sv (.v (.int .u64 ((a.2.1:Nat):Int)))]),(2002,TR 189 1 bf a.2.2)]) (wk [(2002,13)]) (λa y8 c h xC xh=>?_)) (λyP xW=>?_)
 ·obtain⟨d,zW,c⟩:=a
  try dsimp only
  refine sr<|aL h λa h=>dn<|aT<|?_;cases a
  ·refine cF h λh=>bt<|aR.x<|aR.x<|bn.x<|?_;obtain rfl:=aob h;exact aR.n ⟨(zW,c),xh _ Y,wk []⟩
  refine cT h λh=>aX<|aR.n<|aT<|aV<|sr<|aQ Y h λa h=>aI Y Y<|aC Y<|dn<|aU<|aaw Y<|aeZ<|aB Y<|afj h λa h=>aB Y<|ain h λa h=>aeF [(1000,9)] h (λ_=>dc) λ⟨a,c⟩ h=>aeI (l:=[a]) (e:=bf) (.one Y (.nil)) Y<|aeM Y Y h λd h=>aey Y<|aF<|bn.n<|aR.n<|aU<|aO h λa h=>aB Y<|aF<|?_;obtain rfl:=aob h;exact aR.n ⟨(a,c,d),xC _ Y,wk [(2002,28)]⟩
 subst xW;obtain⟨c,a⟩:=yP
 try dsimp only
 exact aR.n<|sr<|aaw Y<|aeZ<|aeF [(1000,9)] b (λ_=>dc) λ⟨a,c⟩ b=>aeI (l:=[a]) (e:=bf) (.one Y (.nil)) Y<|aeM Y Y b λa b=>aey Y<|dn<|ow (bT (i:=34) (e:=bf) (l:=a) Y)<|aY<|f1 b
theorem Dc{D:List Nat}{x1:Nat}{r:List Nat}(h:mD D x1=some r):FC ah 238 [aoh 1 bf D,.sv (.v (.int .u64 ((x1:Nat):Int)))] [] (.ob 0) [(0,TR 189 1 bf r)]:=by
 refine cQ Tryz.func238 Y λE w vs a yK=>?_;unfold mD at h;refine sr<|aC Y<|dn<|ow (gw 4 2002 (.row 189 1 0 []) Y)<|sr<|ais [(0,9)] (iX 0)<|afz<|dn<|sr<|aB Y<|aN h λa h=>aO h λa h=>ajq (e:=bf) h λa h=>aey Y<|dn<|aT<|sr<|aB Y<|aN h λc h=>aB Y<|dn<|bq h λa xV b=>?_;refine bp (λ(yP:Nat×(List Nat))=>AS.bM 35 [(5,.fn 156 [] [.ptr 9 0]),(6,.ob 2004)] [(9,.box 123 [.sv (.v (.int .u64 ((yP.1:Nat):Int)))]),(2004,TR 189 1 bf yP.2)]) (λyP=>yP=a) (aV<|br xV (λa=>AS.bM 35 [(1,.sv (.v (.int .u64 ((x1:Nat):Int)))),(5,.fn 156 [] [.ptr 9 0]),(6,.ob 2004),(14,aoh 1 bf D),(15,ai c),(16,ai a.1)] [(9,.box 123 [.sv (.v (.int .u64 ((a.2.1:Nat):Int)))]),(2004,TR 189 1 bf a.2.2)]) (wk [(2004,13)]) (λa y8 c h xC xh=>?_)) (λyP xW=>?_)
 ·obtain⟨d,zW,c⟩:=a
  try dsimp only
  refine sr<|aL h λa h=>dn<|aT<|?_;cases a
  ·refine cF h λh=>bt<|aR.x<|aR.x<|bn.x<|?_;obtain rfl:=aob h;exact aR.n ⟨(zW,c),xh _ Y,wk []⟩
  refine cT h λh=>aX<|aR.n<|aT<|aV<|sr<|aQ Y h λa h=>aI Y Y<|aC Y<|dn<|aU<|aaw Y<|aeZ<|aB Y<|afj h λa h=>aB Y<|ain h λa h=>aeF [(1000,9)] h (λ_=>dc) λ⟨a,c⟩ h=>aeI (l:=[a]) (e:=bf) (.one Y (.nil)) Y<|aeM Y Y h λd h=>aey Y<|aF<|bn.n<|aR.n<|aU<|aO h λa h=>aB Y<|aF<|?_;obtain rfl:=aob h;exact aR.n ⟨(a,c,d),xC _ Y,wk [(2004,28)]⟩
 subst xW;obtain⟨c,a⟩:=yP
 try dsimp only
 exact aR.n<|sr<|aaw Y<|aeZ<|aeF [(1000,9)] b (λ_=>dc) λ⟨a,c⟩ b=>aeI (l:=[a]) (e:=bf) (.one Y (.nil)) Y<|aeM Y Y b λa b=>aey Y<|dn<|aY<|fC (S':=AS.bM 35 [(4,.ob 0)] [(0,TR 189 1 bf a)]) b [.ob 0] (wk [(0,34)])
set_option maxRecDepth 8000 in
theorem D9{D:Nat}{r:Int}(h:kU D=some r):Pure ah 168 [.v (.int .u32 ((D:Nat):Int))] (ax r):=by
 refine aZ Tryz.func168 Y λE w vs a=>?_;unfold kU at h;refine sr<|aC Y<|dn<|aT<|sr<|aB Y<|alk h λb h=>dn<|?_;refine bB h (λa=>AS.bM 19 [(0,.sv (.v (.int .u32 ((a.1:Nat):Int)))),(2,ai a.2)] []) (λh=>?_) (λa h=>?_)
 ·cases b
  ·exact cF h λh=>aX<|aR.n ⟨(D,0),h,wk []⟩
  exact cT h λh=>sr<|aB Y<|ahA h λb h=>aC Y<|dn<|aU<|aC Y<|aF<|aR.n ⟨(b,16),h,wk []⟩
 obtain⟨b,c⟩:=a
 try dsimp only
 refine aR.n<|aT<|sr<|aB Y<|alk h λd h=>dn<|?_;refine bB h (λa=>AS.bM 19 [(0,.sv (.v (.int .u32 ((a.1:Nat):Int)))),(2,ai a.2)] []) (λh=>?_) (λa h=>?_)
 ·cases d
  ·exact cF h λh=>aX<|aR.n ⟨(b,c),h,wk []⟩
  exact cT h λh=>sr<|aB Y<|ahA h λc h=>aC Y<|dn<|aU<|aB Y<|aO h λb h=>aC Y<|aF<|aR.n ⟨(c,b),h,wk []⟩
 obtain⟨b,c⟩:=a
 try dsimp only
 exact aR.n<|sr<|aB Y<|aB Y<|afj h λa h=>anI (l:=[0,1,2,2,3,3,3,3,4,4,4,4,4,4,4,4,5,5,5,5,5,5,5,5,5,5,5,5,5,5,5,5,6,6,6,6,6,6,6,6,6,6,6,6,6,6,6,6,6,6,6,6,6,6,6,6,6,6,6,6,6,6,6,6,7,7,7,7,7,7,7,7,7,7,7,7,7,7,7,7,7,7,7,7,7,7,7,7,7,7,7,7,7,7,7,7,7,7,7,7,7,7,7,7,7,7,7,7,7,7,7,7,7,7,7,7,7,7,7,7,7,7,7,7,7,7,7,7,8,8,8,8,8,8,8,8,8,8,8,8,8,8,8,8,8,8,8,8,8,8,8,8,8,8,8,8,8,8,8,8,8,8,8,8,8,8,8,8,8,8,8,8,8,8,8,8,8,8,8,8,8,8,8,8,8,8,8,8,8,8,8,8,8,8,8,8,8,8,8,8,8,8,8,8,8,8,8,8,8,8,8,8,8,8,8,8,8,8,8,8,8,8,8,8,8,8,8,8,8,8,8,8,8,8,8,8,8,8,8,8,8,8,8,8,8,8,8,8,8,8,8,8,8,8,8,8]) Y h λa h=>aiq h λa h=>aO h λa h=>aC Y<|dn<|aY<|f1 h
theorem vk{D:Nat}{r:Int}(h:fH D=some r):Pure ah 237 [.v (.int .u32 ((D:Nat):Int))] (ax r):=by
 refine aZ Tryz.func237 Y λE w vs a=>?_;unfold fH at h;exact sr<|aC Y<|dn<|sr<|aB Y<|aE h (λ_=>D9) λa h=>aeK h λa h=>aC Y<|dn<|aY<|f1 h
theorem FH{D:List Nat}{I:Nat}{H:Nat}{K:List Nat}{r:Nat×List Nat}(h:lZ D I H K=some r):FC ah 239 [.sl 1000 (I*1) H,aoh 1 bf K] [(1000,TR 189 1 bf D)] (.sv (.v (.int .u64 ((r.1:Nat):Int)))) [(1000,TR 189 1 bf r.2)]:=by
 refine cQ Tryz.func239 Y λE w vs a b=>?_;unfold lZ at h;refine sr<|aC Y<|dn<|sr<|aB Y<|aN h λd h=>aC Y<|dn<|sd mixed<|aeZ<|aB Y<|ajP Y h λa h=>aeX (p:=.r 1000) Y (.r Y) (λ_=>Y) h λa h=>afj h λa h=>ain h λa h=>aeZ<|aB Y<|aeK h λa h=>ajP Y h λa h=>aeX (p:=.r 1000) Y (.r Y) (λ_=>Y) h λa h=>afj h λa h=>ajJ h λa h=>aC Y<|dd<|sd mixed<|aB Y<|aB Y<|aeK h λa h=>aQ Y h λa h=>aI Y Y<|afj h λf h=>aB Y<|aB Y<|aeK h λa h=>aQ Y h λa h=>aI Y Y<|afj h λg h=>aC Y<|aC Y<|dd<|sd mixed<|aB Y<|aB Y<|alW h λa h=>aB Y<|aB Y<|ajZ h λa h=>aC Y<|aC Y<|dd<|aT<|bq h λe a c=>?_;refine bp (λ(b:Nat)=>AS.bM 71 [(9,.sv (.v (.int .u64 ((b:Nat):Int))))] [(1000,TR 189 1 bf D)]) (λb=>b=e) (aV<|br a (λa=>AS.bM 71 [(0,.sl 1000 (I*1) H),(5,ai d),(7,.sv (.v (.int .u64 ((f:Nat):Int)))),(8,.sv (.v (.int .u64 ((g:Nat):Int)))),(9,.sv (.v (.int .u64 ((a.1:Nat):Int)))),(10,.sv (.v (.int .u64 ((a.2:Nat):Int))))] [(1000,TR 189 1 bf D)]) (wk []) (λa j e h l i=>?_)) (λb j=>?_)
 ·obtain⟨e,k⟩:=a
  try dsimp only
  refine aT<|aT<|?_;refine bB h (λa=>AS.bM 71 [(0,.sl 1000 (I*1) H),(5,ai d),(7,.sv (.v (.int .u64 ((f:Nat):Int)))),(8,.sv (.v (.int .u64 ((g:Nat):Int)))),(9,.sv (.v (.int .u64 ((e:Nat):Int)))),(10,.sv (.v (.int .u64 ((k:Nat):Int)))),(61,aj a)] [(1000,TR 189 1 bf D)]) (λh=>?_) (λd h=>?_)
  ·refine aU<|aB Y<|ahA h λa h=>ajY h λg h=>aB Y<|bq h λf a h=>?_;cases g
   ·replace a:=ct a;refine aB Y<|aB Y<|ajW a λf a=>aB Y<|ain a λf a=>aeZ<|aB Y<|aeK a λf a=>ajP Y a λf a=>aeX (p:=.r 1000) Y (.r Y) (λ_=>Y) a λf a=>afj a λf a=>ajJ a λf a=>akZ a λf a=>?_;obtain rfl:=aob a;exact abE Y<|aF<|aR.n ⟨f,h,wk []⟩
   replace a:=cn a;cases a;exact aD<|aD<|aD<|aD<|aD<|aD<|aD<|aD<|aD<|aD<|aD<|aD<|aD<|aax Y<|aF<|aR.n ⟨true,h,wk []⟩
  refine aR.n<|?_;cases d
  ·refine cF h λh=>bt<|aR.x<|aR.x<|bn.x<|?_;obtain rfl:=aob h;exact aR.n ⟨e,i _ Y,wk []⟩
  refine cT h λh=>aX<|aR.n<|aV<|sr<|aB Y<|ajH h λa h=>aC Y<|dn<|sr<|aB Y<|aB Y<|ajb h λd h=>aC Y<|dn<|sr<|aB Y<|ahA h λe h=>ajY h λe h=>dn<|?_;cases e
  ·refine cF h λh=>aX<|bn.n<|?_;obtain rfl:=aob h;exact aR.n ⟨(a,d),l _ Y,wk []⟩
  refine cT h λh=>bt<|bn.y ξ<|aR.x<|bn.x<|?_;obtain rfl:=aob h;exact aR.n ⟨a,i _ Y,wk []⟩
 subst j;exact aR.n<|sr<|aB Y<|aC Y<|dn<|aY<|bq c λ_ _ c=>fC (S':=AS.bM 71 [(4,.sv (.v (.int .u64 ((b:Nat):Int))))] [(1000,TR 189 1 bf D)]) c [.sv (.v (.int .u64 ((b:Nat):Int)))] (wk [])
theorem xj{x0:List Nat}{I:Nat}{D:Nat}{H:List Nat}{K:Nat}{r:Bool×List Nat}(h:eR x0 I D H K=some r):FC ah 240 [.sl 1000 (I*1) D,aoh 1 bf H,.sv (.v (.int .u64 ((K:Nat):Int)))] [(1000,TR 189 1 bf x0)] (aj r.1) [(1000,TR 189 1 bf r.2)]:=by
 refine cQ Tryz.func240 Y λE w vs a b=>?_;unfold eR at h;refine sr<|aC Y<|dn<|sr<|aC Y<|dn<|sr<|ais [(0,12)] (iX 0)<|afz<|dn<|aT<|sr<|aeZ<|anH Y h λe h=>aB Y<|dn<|bq h λd b c=>?_;refine bp (λ(a:Nat×(List Nat))=>AS.bM 51 [(7,.sv (.v (.int .u64 ((a.1:Nat):Int))))] [(1000,TR 189 1 bf a.2)]) (λa=>a=d) (aV<|br b (λb=>AS.bM 51 [(0,.sl 1000 (I*1) D),(1,aoh 1 bf H),(2,.sv (.v (.int .u64 ((K:Nat):Int)))),(7,.sv (.v (.int .u64 ((b.1:Nat):Int)))),(8,.fn 156 [] [.ptr 12 0]),(14,ai e),(15,ai b.2.1)] [(12,.box 123 [.sv (.v (.int .u64 ((b.2.2.1:Nat):Int)))]),(1000,TR 189 1 bf b.2.2.2)]) (wk []) (λb f d h i j=>?_)) (λa l=>?_)
 ·obtain⟨d,f,k,g⟩:=b
  try dsimp only
  refine sr<|aL h λb h=>dn<|aT<|?_;cases b
  ·refine cF h λh=>bt<|aR.x<|aR.x<|bn.x<|?_;obtain rfl:=aob h;exact aR.n ⟨(d,g),j _ Y,wk []⟩
  refine cT h λh=>aX<|aR.n<|aT<|aV<|sr<|aB Y<|aC Y<|dn<|sr<|aC Y<|dn<|aT<|sr<|aB Y<|aB Y<|aN h λb h=>aL h λj h=>dn<|?_;refine bB h (λb=>AS.bM 51 [(0,.sl 1000 (I*1) D),(1,aoh 1 bf H),(2,.sv (.v (.int .u64 ((K:Nat):Int)))),(7,.sv (.v (.int .u64 ((d:Nat):Int)))),(8,.fn 156 [] [.ptr 12 0]),(9,ai f),(10,.sv (.v (.int .u64 ((b:Nat):Int)))),(14,ai e),(15,ai f)] [(12,.box 123 [.sv (.v (.int .u64 ((k:Nat):Int)))]),(1000,TR 189 1 bf g)]) (λh=>?_) (λb h=>?_)
  ·cases j
   ·exact cF h λh=>aX<|aR.n ⟨0,h,wk []⟩
   exact cT h λh=>aU<|aB Y<|aB Y<|aQ Y h λb h=>aI Y Y<|afj h λb h=>aB Y<|ajW h λb h=>aC Y<|aF<|aR.n ⟨b,h,wk []⟩
  refine aR.n<|sd mixed<|aeZ<|aB Y<|ajP Y h λb h=>aeX (p:=.r 1000) Y (.r Y) (λ_=>Y) h λb h=>afj h λb h=>aeZ<|aB Y<|aeF [(1000,12)] h (λ_=>dc) λ⟨d,b⟩ h=>afj h λd h=>ajH h λd h=>aB Y<|ajH h λd h=>aC Y<|dd<|sr<|aeZ<|aB Y<|aB Y<|afj h λd h=>ajP Y h λe h=>afx (p:=.r 1000) d Y Y (.r Y) h λe h=>dn<|aU<|aB Y<|ahA h λf h=>aC Y<|aF<|bn.n<|aR.n<|aU<|aO h λd h=>aB Y<|aF<|?_;obtain rfl:=aob h;exact aR.n ⟨(f,d,b,e),i _ Y,wk []⟩
 subst l;obtain⟨b,d⟩:=a
 try dsimp only
 exact aR.n<|sr<|aB Y<|ajY c λa c=>aC Y<|dn<|aY<|bq c λ_ _ c=>fC (S':=AS.bM 51 [(6,aj a)] [(1000,TR 189 1 bf d)]) c [aj a] (wk [])
theorem Hg{x0:List Nat}{x1:List Nat}{r:(List Nat)×(List Nat)}(h:mR x0 x1=some r):Pure ah 208 [aoc 1 bf x0,aoc 1 bf x1] (.lK [aoc 1 bf r.1,aoc 1 bf r.2]):=by
 refine aZ Tryz.func208 Y λE w vs hvs=>?_;unfold mR at h;refine sr<|aC Y<|aC Y<|dn<|ow (gw 4 2003 (.row 189 1 0 []) Y)<|ow (gw 5 2004 (.row 189 1 0 []) Y)<|sr<|aB Y<|aN h λdR h=>aC Y<|dn<|sr<|aB Y<|aB Y<|aeK h λdG h=>aQ Y h λeY h=>aI Y Y<|aE h (λ_=>vk) λep h=>ani h λgE h=>aC Y<|dn<|sd mixed<|aB Y<|aB Y<|aeF [(0,27)] h (λ_=>Dc) λgJ h=>aB Y<|aB Y<|aE h (λ_=>D8) λiF h=>aB Y<|ajL Y h λiL h=>aey Y<|aC Y<|dd<|sr<|aB Y<|aN h λgD h=>aB Y<|aeK h λiu h=>aO h λlJ h=>aeW (e:=bf) 0 (by exact⟨aq,an⟩) h λpP h=>aey Y<|dn<|aT<|sr<|aB Y<|aN h λiN h=>aB Y<|aeK h λnJ h=>aC Y<|dn<|bq h λe36 Uw mS=>?_;refine bp (λ(b:(List Nat)×(List Nat))=>AS.bM 141 [(4,.ob 38),(6,ai dR),(7,.sv (.v (.int .u64 ((gE:Nat):Int)))),(8,.ob 27)] [(38,TR 189 1 bf b.1),(27,TR 189 1 bf b.2)]) (λb=>b=e36) (aV<|br Uw (λa=>AS.bM 141 [(4,.ob 38),(6,ai dR),(7,.sv (.v (.int .u64 ((gE:Nat):Int)))),(8,.ob 27),(9,aoh 1 bf iL),(10,ai a.1)] [(38,TR 189 1 bf a.2.1),(27,TR 189 1 bf a.2.2)]) (wk []) (λa y36 c h Ux Uy=>?_)) (λb Uz=>?_)
 ·obtain⟨qD,c,d⟩:=a
  try dsimp only
  refine aT<|sr<|aB Y<|afy h λmE h=>dn<|?_;cases mE
  ·refine cF h λh=>bt<|aR.x<|aR.x<|bn.x<|?_;obtain rfl:=aob h;exact aR.n ⟨(c,d),Uy _ Y,wk []⟩
  refine cT h λh=>aX<|aR.n<|aT<|aV<|sr<|aaw Y<|aB Y<|aB Y<|aB Y<|aO h λpK h=>aO h λrD h=>ano Y Y h λo53 n53 h=>aB Y<|aeF [(1000,27)] h (λ_=>FH) λ⟨tc,l38⟩ h=>bq h λ_ aAw h=>aC Y<|dn<|aT<|sr<|aaw Y<|aB Y<|aB Y<|aB Y<|aO h λxg h=>aO h λxx h=>ano Y Y h λo62 n62 h=>aB Y<|aB Y<|aeF [(1000,27)] h (λ_=>xj) λ⟨Um,Zf⟩ h=>bq h λ_ aAx h=>dn<|?_;refine bB h (λj53=>AS.bM 141 [(4,.ob 38),(6,ai dR),(7,.sv (.v (.int .u64 ((gE:Nat):Int)))),(8,.ob 27),(9,aoh 1 bf iL),(10,ai qD),(11,.sv (.v (.int .u64 ((j53.1:Nat):Int))))] [(38,TR 189 1 bf c),(27,TR 189 1 bf j53.2)]) (λh=>?_) (λj53 h=>?_)
  ·cases Um
   ·exact cF h λh=>aX<|aR.n ⟨(tc,Zf),h,wk []⟩
   refine cT h λh=>sr<|aB Y<|ajH h λd h=>aC Y<|dn<|sr<|ais [(0,68)] (iX 0)<|afz<|dn<|aT<|sr<|aB Y<|aN h λzX h=>aB Y<|dn<|bq h λe65 asZ a=>?_;refine bp (λ(Yp:Nat×(List Nat))=>AS.bM 141 [(4,.ob 38),(6,ai dR),(7,.sv (.v (.int .u64 ((gE:Nat):Int)))),(8,.ob 27),(9,aoh 1 bf iL),(10,ai qD),(11,.sv (.v (.int .u64 ((d:Nat):Int)))),(12,.fn 156 [] [.ptr 68 0])] [(68,.box 123 [.sv (.v (.int .u64 ((Yp.1:Nat):Int)))]),(38,TR 189 1 bf c),(27,TR 189 1 bf Yp.2)]) (λYp=>Yp=e65) (aV<|br asZ (λs65=>AS.bM 141 [(4,.ob 38),(6,ai dR),(7,.sv (.v (.int .u64 ((gE:Nat):Int)))),(8,.ob 27),(9,aoh 1 bf iL),(10,ai qD),(11,.sv (.v (.int .u64 ((d:Nat):Int)))),(12,.fn 156 [] [.ptr 68 0]),(69,aoh 1 bf iL),(70,ai zX),(71,ai s65.1)] [(68,.box 123 [.sv (.v (.int .u64 ((s65.2.1:Nat):Int)))]),(38,TR 189 1 bf c),(27,TR 189 1 bf s65.2.2)]) (wk []) (λs65 y65 c h as0 as1=>?_)) (λYp as2=>?_)
   ·obtain⟨g,f,c⟩:=s65
    try dsimp only
    refine sr<|aL h λzK h=>dn<|aT<|?_;cases zK
    ·refine cF h λh=>bt<|aR.x<|aR.x<|bn.x<|?_;obtain rfl:=aob h;exact aR.n ⟨(f,c),as1 _ Y,wk []⟩
    refine cT h λh=>aX<|aR.n<|aT<|aV<|sr<|aB Y<|aQ Y h λc h=>aI Y Y<|aC Y<|aC Y<|dn<|aU<|aaw Y<|aB Y<|aB Y<|aO h λc h=>aeZ<|aaw Y<|aB Y<|aB Y<|aO h λYf h=>acr (p:=.r 27) Y (.r (.r Y)) h λx85 h=>aeX (p:=.r 27) Y (.r Y) (λ_=>Y) h λUo h=>afj h λTN h=>aB Y<|afj h λWK h=>ajb h λTO h=>aeF [(1000,68)] h (λ_=>dc) λ⟨c,k68⟩ h=>acr (p:=.r 27) Y (.r (.r Y)) h λTP h=>afx (p:=.r 27) c Y Y (.r Y) h λl69 h=>aF<|bn.n<|aR.n<|aU<|aO h λc h=>aB Y<|aF<|?_;obtain rfl:=aob h;exact aR.n ⟨(c,k68,l69),as0 _ Y,wk []⟩
   subst as2;obtain⟨c,f⟩:=Yp
   try dsimp only
   exact aR.n<|aU<|aaw Y<|aB Y<|aB Y<|aO a λc a=>aeZ<|aaw Y<|aB Y<|aB Y<|aO a λc a=>acr (p:=.r 27) Y (.r (.r Y)) a λSc a=>aeX (p:=.r 27) Y (.r Y) (λ_=>Y) a λaox a=>afj a λUp a=>aeF [(1000,68)] a (λ_=>dc) λ⟨Yg,k72⟩ a=>acr (p:=.r 27) Y (.r (.r Y)) a λc a=>afx (p:=.r 27) Yg Y Y (.r Y) a λl73 a=>aF<|aR.n ⟨(d,l73),a,wk []⟩
  obtain⟨aaf,Un⟩:=j53
  try dsimp only
  refine aR.n<|aU<|aaw Y<|aB Y<|aB Y<|afj h λa h=>acr (p:=.r 38) Y (.r (.r Y)) h λc h=>afx (p:=.r 38) a Y Y (.r Y) h λl55 h=>aF<|bn.n<|aR.n<|aU<|aB Y<|aeK h λlq h=>aC Y<|aF<|?_;obtain rfl:=aob h;exact aR.n ⟨(lq,l55,Un),Ux _ Y,wk []⟩
 subst Uz;obtain⟨a,c⟩:=b
 try dsimp only
 refine aR.n<|sr<|aB Y<|aeW (e:=bf) 0 (by exact⟨aq,an⟩) mS λb mS=>aey Y<|dn<|aT<|sr<|aB Y<|aB Y<|dn<|bq mS λe81 as3 as4=>?_;refine bp (λ(zY:(List Nat))=>AS.bM 141 [(4,.ob 38),(5,.ob 114)] [(38,TR 189 1 bf a),(114,TR 189 1 bf zY)]) (λzY=>zY=e81) (aV<|br as3 (λs81=>AS.bM 141 [(4,.ob 38),(5,.ob 114),(7,.sv (.v (.int .u64 ((gE:Nat):Int)))),(8,.ob 27),(115,ai dR),(116,ai s81.1)] [(38,TR 189 1 bf a),(114,TR 189 1 bf s81.2),(27,TR 189 1 bf c)]) (wk []) (λs81 y81 b h as5 as6=>?_)) (λzY as7=>?_)
 ·obtain⟨c,b⟩:=s81
  try dsimp only
  refine sr<|aL h λc h=>dn<|aT<|?_;cases c
  ·refine cF h λh=>bt<|aR.x<|aR.x<|bn.x<|?_;obtain rfl:=aob h;exact aR.n ⟨b,as6 _ Y,wk []⟩
  refine cT h λh=>aX<|aR.n<|aT<|aV<|sr<|aB Y<|aC Y<|dn<|bz mixed<|aaw Y<|aB Y<|aaw Y<|aB Y<|acr (p:=.r 27) Y (.r (.r Y)) h λb h=>aeX (p:=.r 27) Y (.r Y) (λ_=>Y) h λYh h=>afj h λaoy h=>aaw Y<|aB Y<|aO h λYi h=>acr (p:=.r 27) Y (.r (.r Y)) h λaoz h=>aeX (p:=.r 27) Y (.r Y) (λ_=>Y) h λaag h=>afj h λYj h=>ain h λaoA h=>ajJ h λaoB h=>aB Y<|ahA h λaoC h=>afj h λaj1 h=>acr (p:=.r 114) Y (.r (.r Y)) h λaoD h=>afx (p:=.r 114) aj1 Y Y (.r Y) h λl83 h=>de<|bn.n<|aR.n<|aU<|aO h λaj2 h=>aB Y<|aF<|?_;obtain rfl:=aob h;exact aR.n ⟨(aj2,l83),as5 _ Y,wk []⟩
 subst as7;exact aR.n<|sr<|aaw Y<|aaw Y<|aey Y<|aey Y<|dn<|ow (bT (i:=38) (e:=bf) (l:=a) Y)<|ow (bT (i:=114) (e:=bf) (l:=zY) Y)<|aY<|f2 as4
theorem xD{H:List Nat}{D:List Nat}{r:(List Nat)×(List Nat)}(h:kn H D=some r):Pure ah 152 [aoc 1 bf H,aoc 1 bf D] (.lK [aoc 1 bf r.1,aoc 1 bf r.2]):=by
 refine aZ Tryz.func152 Y λE w vs a=>?_;unfold kn at h;refine sr<|aC Y<|aeD (aA (n:=1) (e:=bf))<|dn<|ow (gw 4 2002 (.row 189 1 0 []) Y)<|aT<|aV<|sr<|aB Y<|aB Y<|aE h (λ_=>kJ) λa h=>aL h λa h=>aC Y<|dn<|?_;cases a
 ·refine cF h λh=>sr<|aB Y<|aN h λa h=>agS h λa h=>aC Y<|dn<|?_;cases a
  ·refine cF h λh=>sr<|aB Y<|aN h λa h=>aeH h λa h=>aC Y<|dn<|?_;cases a
   ·exact cF h λh=>aX<|bn.n<|aR.n<|sr<|aB Y<|aB Y<|aE h (λ_=>Hg) λ⟨a,b⟩ h=>aP Y Y<|aP Y Y<|aC Y<|aC Y<|dn<|aY<|f2 h
   exact cT h λh=>sr<|aB Y<|aeF [(0,39)] h (λ_=>Hf) λa h=>aey Y<|dn<|sr<|aaw Y<|aB Y<|aQ Y h λa h=>aI Y Y<|afj h λa h=>aeF [(1000,39)] h (λ_=>FG) λ⟨a,b⟩ h=>bq h λ_ a h=>aC Y<|dn<|sr<|aaw Y<|aB Y<|afj h λa h=>aeI (l:=[a]) (e:=bf) (.one Y (.nil)) Y<|aey Y<|aC Y<|dn<|ow (bT (i:=39) (e:=bf) (l:=b) Y)<|aY<|bn.r<|aR.r<|f2 h
  exact cT h λh=>sr<|aB Y<|aE h (λ_=>mF) λa h=>aB Y<|aE h (λ_=>mF) λa h=>aC Y<|aC Y<|dn<|sd mixed<|aB Y<|aB Y<|alW h λa h=>aE h (λ_=>oB) λ⟨a,b⟩ h=>ajg Y Y<|aB Y<|aB Y<|ajZ h λa h=>aE h (λ_=>oB) λ⟨b,a⟩ h=>ajg Y Y<|aC Y<|aC Y<|dd<|aY<|bn.r<|aR.r<|f2 h
 exact cT h λh=>sr<|aB Y<|aE h (λ_=>uI) λa h=>aC Y<|aC Y<|dn<|ow (gw 4 2005 (.row 189 1 0 []) Y)<|ow (bT (i:=2005) (e:=bf) (l:=([]:List Nat)) Y)<|aY<|bn.r<|aR.r<|f2 h
end
section
open Go.Fw Go.RowKit
theorem eK{D:Int}{r:Zr}(h:cD D=some r):Pure ah 20 [ax D] (.agg (eZ r)):=by
 refine aZ Tryz.func20 Y λE w vs b=>?_;unfold cD at h;refine sr<|aM (cs:=[ay false,au]) (by exact⟨aq,aA,an⟩)<|dn<|sr<|aB Y<|ani h λd h=>aC Y<|dn<|aT<|sr<|aB Y<|aL h λc h=>dn<|?_;refine bB h (λb=>AS.bM 14 [(0,ai D),(2,.ptr 2 0),(3,.sv (.v (.int .u64 ((b:Nat):Int))))] [(2,.box 38 [aj false,.sv au])]) (λh=>?_) (λb h=>?_)
 ·cases c
  ·exact cF h λh=>aX<|aR.n ⟨d,h,wk []⟩
  exact cT h λh=>aU<|aB Y<|ant h λb h=>aC Y<|aF<|aR.n ⟨b,h,wk []⟩
 exact aR.n<|sr<|aB Y<|aL h λb h=>aB Y<|aE h (λ_=>oB) λ⟨b,c⟩ h=>aJ Y Y Y<|dn<|aY<|fP h [.agg (eZ ⟨b,c⟩)] (by exact⟨.a Y Y (.k2 Y Y) Y,an⟩)
theorem jo{D:Zr}{r:Int×Bool}(h:eT D=some r):Pure ah 43 [.agg (eZ D)] (.lK [ax r.1,ay r.2]):=by
 obtain⟨a,b⟩:=D;refine aZ Tryz.func43 Y λE w vs b=>?_;unfold eT at h;refine sr<|acj Y<|aC Y<|aC Y<|dn<|sr<|aG Y Y<|aH Y Y Y<|aE h (λ_=>cJ) λb h=>aC Y<|dn<|aT<|sr<|aB Y<|aN h λb h=>aeG h λb h=>dn<|?_;cases b
 ·refine cF h λh=>aX<|aR.n<|sr<|aB Y<|aE h (λ_=>mF) λb h=>aC Y<|dn<|aT<|sr<|aG Y Y<|aH Y Y Y<|dn<|?_;cases a
  ·refine cF h λh=>aX<|aR.n<|aT<|sr<|aB Y<|alk h λa h=>dn<|?_;cases a
   ·exact cF h λh=>aX<|aR.n<|sr<|aB Y<|aiq h λa h=>aC Y<|aC Y<|dn<|aY<|f2 h
   exact cT h λh=>sr<|aC Y<|aC Y<|dn<|aY<|aR.r<|f2 h
  refine cT h λh=>aT<|sr<|aB Y<|akZ h λa h=>dn<|?_;cases a
  ·exact cF h λh=>aX<|aR.n<|sr<|aB Y<|ant h λa h=>aiq h λa h=>aC Y<|aC Y<|dn<|aY<|aR.r<|f2 h
  exact cT h λh=>sr<|aC Y<|aC Y<|dn<|aY<|aR.r<|aR.r<|f2 h
 exact cT h λh=>sr<|aC Y<|aC Y<|dn<|aY<|aR.r<|f2 h
theorem vT{I:Bool}{H:List Nat}{K:Bool}{D:List Nat}{r:Zr}(h:fm I H K D=some r):Pure ah 155 [ay I,aoc 1 bf H,ay K,aoc 1 bf D] (.agg (eZ r)):=by
 refine aZ Tryz.func155 Y λE w vs b=>?_;unfold fm at h;refine sr<|aM (cs:=[ay false,au]) (by exact⟨aq,aA,an⟩)<|dn<|aT<|sr<|aB Y<|aB Y<|anj h λb h=>dn<|?_;cases b
 ·refine cF h λh=>aX<|aR.n<|aT<|sr<|aB Y<|aB Y<|aE h (λ_=>kJ) λb h=>aL h λb h=>dn<|?_;cases b
  ·exact cF h λh=>aX<|aR.n<|sr<|aB Y<|aB Y<|aB Y<|aE h (λ_=>rL) λb h=>aE h (λ_=>jn) λ⟨b,c⟩ h=>aJ Y Y Y<|dn<|aY<|fP h [.agg (eZ ⟨b,c⟩)] (by exact⟨.a Y Y (.k2 Y Y) Y,an⟩)
  exact cT h λh=>sr<|aB Y<|aB Y<|aB Y<|aE h (λ_=>rL) λb h=>aE h (λ_=>jn) λ⟨c,b⟩ h=>aJ Y Y Y<|dn<|aY<|aR.r<|fP h [.agg (eZ ⟨c,b⟩)] (by exact⟨.a Y Y (.k2 Y Y) Y,an⟩)
 exact cT h λh=>sr<|aB Y<|aB Y<|aB Y<|aE h (λ_=>xB) λb h=>aE h (λ_=>jn) λ⟨b,c⟩ h=>aJ Y Y Y<|dn<|aY<|aR.r<|fP h [.agg (eZ ⟨b,c⟩)] (by exact⟨.a Y Y (.k2 Y Y) Y,an⟩)
theorem PD{H:Zr}{D:Zr}{r:Zr}(h:ua H D=some r):Pure ah 100 [.agg (eZ H),.agg (eZ D)] (.agg (eZ r)):=by
 obtain⟨d,c⟩:=H;obtain⟨f,e⟩:=D;refine aZ Tryz.func100 Y λE w vs b=>?_;unfold ua at h;refine sr<|acj Y<|acj Y<|aM (cs:=[ay false,au]) (by exact⟨aq,aA,an⟩)<|dn<|sr<|aK Y Y (.k2 Y Y)<|aE h (λ_=>jo) λ⟨b,i⟩ h=>aB Y<|aP Y Y<|aP Y Y<|aC Y<|aC Y<|dn<|sr<|aK Y Y (.k2 Y Y)<|aE h (λ_=>jo) λ⟨g,k⟩ h=>aB Y<|aP Y Y<|aP Y Y<|aC Y<|aC Y<|dn<|aT<|aT<|?_;refine bB h (λj=>AS.bM 48 [(2,.ptr 2 0),(3,.ptr 3 0),(4,.ptr 4 0),(5,ai b),(7,ai g),(23,aj j)] [(4,.box 38 [aj false,.sv au]),(3,.box 38 [aj f,aoh 1 bf e]),(2,.box 38 [aj d,aoh 1 bf c])]) (λh=>?_) (λg h=>?_)
 ·refine aU<|aB Y<|aB Y<|bq h λj b h=>?_;cases i
  ·replace b:=ct b;cases b;exact aD<|abE Y<|aF<|aR.n ⟨false,h,wk []⟩
  replace b:=cn b;refine aB Y<|?_;obtain rfl:=aob b;exact aax Y<|aF<|aR.n ⟨k,h,wk []⟩
 refine aR.n<|?_;refine bB h (λb=>AS.bM 48 [(2,.ptr 2 0),(3,.ptr 3 0),(4,.ptr 4 0)] [(4,.box 38 [aj false,.sv au]),(3,.box 38 [aj f,aoh 1 bf e]),(2,.box 38 [aj d,aoh 1 bf c])]) (λh=>?_) (λb h=>?_)
 ·cases g
  ·exact cF h λh=>aX<|aR.n ⟨(),h,wk []⟩
  refine cT h λh=>sr<|aB Y<|aB Y<|aO h λb h=>aC Y<|dn<|sr<|aB Y<|aB Y<|akB h λb h=>aB Y<|aB Y<|akB h λb h=>ans h λb h=>afy h λb h=>dn<|?_;cases b
  ·exact cF h λh=>aX<|aR.n ⟨(),h,wk []⟩
  exact cT h λh=>sr<|aB Y<|aE h (λ_=>eK) λ⟨b,c⟩ h=>aJ Y Y Y<|dn<|aY<|aR.r<|aR.r<|fP h [.agg (eZ ⟨b,c⟩)] (by exact⟨.a Y Y (.k2 Y Y) Y,an⟩)
 exact aR.n<|sd mixed<|aG Y Y<|aH Y Y Y<|aG Y Y<|aH Y Y Y<|aE h (λ_=>cJ) λb h=>aG Y Y<|aH Y Y Y<|aG Y Y<|aH Y Y Y<|aE h (λ_=>cJ) λb h=>aE h (λ_=>vT) λ⟨c,b⟩ h=>aJ Y Y Y<|dd<|aY<|fP h [.agg (eZ ⟨c,b⟩)] (by exact⟨.a Y Y (.k2 Y Y) Y,an⟩)
theorem PE{H:Zr}{D:Zr}{r:Zr}(h:ud H D=some r):Pure ah 102 [.agg (eZ H),.agg (eZ D)] (.agg (eZ r)):=by
 obtain⟨d,c⟩:=H;obtain⟨f,e⟩:=D;refine aZ Tryz.func102 Y λE w vs b=>?_;unfold ud at h;refine sr<|acj Y<|acj Y<|aM (cs:=[ay false,au]) (by exact⟨aq,aA,an⟩)<|dn<|sr<|aK Y Y (.k2 Y Y)<|aE h (λ_=>jo) λ⟨b,i⟩ h=>aB Y<|aP Y Y<|aP Y Y<|aC Y<|aC Y<|dn<|sr<|aK Y Y (.k2 Y Y)<|aE h (λ_=>jo) λ⟨g,k⟩ h=>aB Y<|aP Y Y<|aP Y Y<|aC Y<|aC Y<|dn<|aT<|aT<|?_;refine bB h (λj=>AS.bM 49 [(2,.ptr 2 0),(3,.ptr 3 0),(4,.ptr 4 0),(5,ai b),(7,ai g),(23,aj j)] [(4,.box 38 [aj false,.sv au]),(3,.box 38 [aj f,aoh 1 bf e]),(2,.box 38 [aj d,aoh 1 bf c])]) (λh=>?_) (λg h=>?_)
 ·refine aU<|aB Y<|aB Y<|bq h λj b h=>?_;cases i
  ·replace b:=ct b;cases b;exact aD<|abE Y<|aF<|aR.n ⟨false,h,wk []⟩
  replace b:=cn b;refine aB Y<|?_;obtain rfl:=aob b;exact aax Y<|aF<|aR.n ⟨k,h,wk []⟩
 refine aR.n<|?_;refine bB h (λb=>AS.bM 49 [(2,.ptr 2 0),(3,.ptr 3 0),(4,.ptr 4 0)] [(4,.box 38 [aj false,.sv au]),(3,.box 38 [aj f,aoh 1 bf e]),(2,.box 38 [aj d,aoh 1 bf c])]) (λh=>?_) (λb h=>?_)
 ·cases g
  ·exact cF h λh=>aX<|aR.n ⟨(),h,wk []⟩
  refine cT h λh=>sr<|aB Y<|aB Y<|aeK h λb h=>aC Y<|dn<|sr<|aB Y<|aB Y<|akB h λb h=>aB Y<|aB Y<|akB h λb h=>ans h λb h=>afy h λb h=>dn<|?_;cases b
  ·exact cF h λh=>aX<|aR.n ⟨(),h,wk []⟩
  exact cT h λh=>sr<|aB Y<|aE h (λ_=>eK) λ⟨b,c⟩ h=>aJ Y Y Y<|dn<|aY<|aR.r<|aR.r<|fP h [.agg (eZ ⟨b,c⟩)] (by exact⟨.a Y Y (.k2 Y Y) Y,an⟩)
 exact aR.n<|sd mixed<|aG Y Y<|aH Y Y Y<|aG Y Y<|aH Y Y Y<|aE h (λ_=>cJ) λb h=>aG Y Y<|aH Y Y Y<|agy h λb h=>aG Y Y<|aH Y Y Y<|aE h (λ_=>cJ) λb h=>aE h (λ_=>vT) λ⟨b,c⟩ h=>aJ Y Y Y<|dd<|aY<|fP h [.agg (eZ ⟨b,c⟩)] (by exact⟨.a Y Y (.k2 Y Y) Y,an⟩)
theorem gF{H:Zr}{D:Zr}{r:Zr}(h:eU H D=some r):Pure ah 25 [.agg (eZ H),.agg (eZ D)] (.agg (eZ r)):=by
 obtain⟨d,b⟩:=H;obtain⟨i,g⟩:=D;refine aZ Tryz.func25 Y λE w vs c=>?_;unfold eU at h;refine sr<|acj Y<|acj Y<|aM (cs:=[ay false,au]) (by exact⟨aq,aA,an⟩)<|dn<|sd mixed<|aG Y Y<|aH Y Y Y<|aE h (λ_=>cJ) λe h=>aG Y Y<|aH Y Y Y<|aE h (λ_=>cJ) λc h=>aC Y<|aC Y<|dd<|aT<|aT<|?_;refine bB h (λf=>AS.bM 41 [(2,.ptr 2 0),(3,.ptr 3 0),(4,.ptr 4 0),(5,aoh 1 bf e),(6,aoh 1 bf c),(20,aj f)] [(4,.box 38 [aj false,.sv au]),(3,.box 38 [aj i,aoh 1 bf g]),(2,.box 38 [aj d,aoh 1 bf b])]) (λh=>?_) (λc h=>?_)
 ·refine aU<|aB Y<|aN h λb h=>agS h λd h=>aB Y<|bq h λe b h=>?_;cases d
  ·replace b:=ct b;cases b;exact aD<|aD<|aD<|abE Y<|aF<|aR.n ⟨false,h,wk []⟩
  replace b:=cn b;refine aB Y<|aN b λd b=>agS b λd b=>?_;obtain rfl:=aob b;exact aax Y<|aF<|aR.n ⟨d,h,wk []⟩
 refine aR.n<|?_;cases c
 ·exact cF h λh=>aX<|aR.n<|sd mixed<|aG Y Y<|aH Y Y Y<|aG Y Y<|aH Y Y Y<|amG h λb h=>aB Y<|aB Y<|aE h (λ_=>FF) λb h=>aE h (λ_=>jn) λ⟨c,b⟩ h=>aJ Y Y Y<|dd<|aY<|fP h [.agg (eZ ⟨c,b⟩)] (by exact⟨.a Y Y (.k2 Y Y) Y,an⟩)
 exact cT h λh=>sd mixed<|aG Y Y<|aH Y Y Y<|aG Y Y<|aH Y Y Y<|amG h λb h=>aB Y<|aE h (λ_=>mF) λb h=>aB Y<|aE h (λ_=>mF) λb h=>ajW h λb h=>aE h (λ_=>oB) λ⟨b,c⟩ h=>aJ Y Y Y<|dd<|aY<|aR.r<|fP h [.agg (eZ ⟨b,c⟩)] (by exact⟨.a Y Y (.k2 Y Y) Y,an⟩)
theorem rM{D:Zr}{r:Zr}(h:kV D=some r):Pure ah 47 [.agg (eZ D)] (.agg (eZ r)):=by
 obtain⟨c,b⟩:=D;refine aZ Tryz.func47 Y λE w vs b=>?_;unfold kV at h;exact sr<|acj Y<|aM (cs:=[ay false,au]) (by exact⟨aq,aA,an⟩)<|dn<|sd mixed<|aG Y Y<|aH Y Y Y<|agy h λb h=>aG Y Y<|aH Y Y Y<|aE h (λ_=>cJ) λb h=>aE h (λ_=>uI) λb h=>aE h (λ_=>jn) λ⟨b,c⟩ h=>aJ Y Y Y<|dd<|aY<|fP h [.agg (eZ ⟨b,c⟩)] (by exact⟨.a Y Y (.k2 Y Y) Y,an⟩)
theorem jh{D:Zr}{r:Int}(h:eJ D=some r):Pure ah 22 [.agg (eZ D)] (ax r):=by
 obtain⟨b,a⟩:=D;refine aZ Tryz.func22 Y λE w vs a=>?_;unfold eJ at h;refine sr<|acj Y<|aC Y<|dn<|aT<|aV<|sr<|aG Y Y<|aH Y Y Y<|aE h (λ_=>cJ) λa h=>aN h λa h=>aeH h λa h=>aC Y<|dn<|?_;cases a
 ·refine cF h λh=>sr<|aG Y Y<|aH Y Y Y<|aC Y<|dn<|?_;cases b
  ·exact cF h λh=>aX<|bn.n<|aR.n<|sr<|aC Y<|dn<|aY<|f1 h
  exact cT h λh=>sr<|aC Y<|dn<|aY<|bn.r<|aR.r<|f1 h
 exact cT h λh=>sr<|aC Y<|dn<|aY<|bn.r<|aR.r<|f1 h
theorem PF{H:Zr}{D:Zr}{r:Int}(h:ue H D=some r):Pure ah 24 [.agg (eZ H),.agg (eZ D)] (ax r):=by
 obtain⟨b,a⟩:=H;obtain⟨b,a⟩:=D;refine aZ Tryz.func24 Y λE w vs a=>?_;unfold ue at h;refine sr<|acj Y<|acj Y<|aC Y<|dn<|sd mixed<|aK Y Y (.k2 Y Y)<|aE h (λ_=>jh) λa h=>aK Y Y (.k2 Y Y)<|aE h (λ_=>jh) λa h=>aC Y<|aC Y<|dd<|aT<|aV<|sr<|aB Y<|aB Y<|aL h λa h=>aC Y<|dn<|?_;cases a
 ·refine cF h λh=>sr<|aB Y<|aB Y<|aeG h λa h=>aC Y<|dn<|?_;cases a
  ·refine cF h λh=>sr<|aB Y<|aL h λa h=>aC Y<|dn<|?_;cases a
   ·exact cF h λh=>aX<|bn.n<|aR.n<|sd mixed<|aG Y Y<|aH Y Y Y<|aE h (λ_=>cJ) λa h=>aG Y Y<|aH Y Y Y<|aE h (λ_=>cJ) λa h=>aE h (λ_=>kJ) λa h=>aC Y<|dd<|aY<|f1 h
   exact cT h λh=>sd mixed<|aG Y Y<|aH Y Y Y<|aE h (λ_=>cJ) λa h=>aG Y Y<|aH Y Y Y<|aE h (λ_=>cJ) λa h=>aE h (λ_=>kJ) λa h=>aC Y<|dd<|aY<|bn.r<|aR.r<|f1 h
  exact cT h λh=>sr<|aC Y<|dn<|aY<|bn.r<|aR.r<|f1 h
 exact cT h λh=>sr<|aC Y<|dn<|aY<|bn.r<|aR.r<|f1 h
theorem uK{x0:Zr}{x1:Zr}{r:Zr×Zr×Int}(h:iv x0 x1=some r):Pure ah 98 [.agg (eZ x0),.agg (eZ x1)] (.lK [.agg (eZ r.1),.agg (eZ r.2.1),ax r.2.2]):=by
 obtain⟨g,c⟩:=x0;obtain⟨cR,d⟩:=x1;refine aZ Tryz.func98 Y λE w vs hvs=>?_;unfold iv at h;refine sr<|acj Y<|acj Y<|aM (cs:=[ay false,au]) (by exact⟨aq,aA,an⟩)<|aM (cs:=[ay false,au]) (by exact⟨aq,aA,an⟩)<|aC Y<|dn<|sd mixed<|aG Y Y<|aH Y Y Y<|aE h (λ_=>cJ) λdB h=>aG Y Y<|aH Y Y Y<|aE h (λ_=>cJ) λdS h=>aC Y<|aC Y<|dd<|aT<|sr<|aB Y<|aN h λb h=>aeH h λfe h=>dn<|?_;cases fe
 ·refine cF h λh=>aX<|aR.n<|sr<|aB Y<|aB Y<|aE h (λ_=>xD) λ⟨xU,b⟩ h=>aB Y<|aP Y Y<|aP Y Y<|aC Y<|aC Y<|dn<|sr<|aB Y<|aE h (λ_=>cJ) λfO h=>aC Y<|dn<|aT<|aT<|?_;refine bB h (λj3=>AS.bM 52 [(2,.ptr 2 0),(3,.ptr 3 0),(4,.ptr 4 0),(5,.ptr 5 0),(8,aoh 1 bf dS),(9,aoh 1 bf xU),(10,aoh 1 bf fO),(36,aj j3.1)] [(5,.box 38 [aj false,.sv au]),(4,.box 38 [aj false,.sv au]),(3,.box 38 [aj cR,aoh 1 bf d]),(2,.box 38 [aj j3.2,aoh 1 bf c])]) (λh=>?_) (λj3 h=>?_)
  ·refine aU<|aG Y Y<|aH Y Y Y<|aB Y<|bq h λf b h=>?_;cases g
   ·replace b:=ct b;cases b;exact aD<|aD<|aD<|abE Y<|aF<|aR.n ⟨(false,false),h,wk []⟩
   replace b:=cn b;refine aB Y<|aN b λgD b=>aeG b λjz b=>?_;obtain rfl:=aob b;exact aax Y<|aF<|aR.n ⟨(jz,true),h,wk []⟩
  obtain⟨b,f⟩:=j3
  try dsimp only
  refine aR.n<|?_;refine bB h (λj5=>AS.bM 52 [(2,.ptr 2 0),(3,.ptr 3 0),(4,.ptr 4 0),(5,.ptr 5 0),(9,aoh 1 bf j5.1),(10,aoh 1 bf j5.2)] [(5,.box 38 [aj false,.sv au]),(4,.box 38 [aj false,.sv au]),(3,.box 38 [aj cR,aoh 1 bf d]),(2,.box 38 [aj f,aoh 1 bf c])]) (λh=>?_) (λj5 h=>?_)
  ·cases b
   ·exact cF h λh=>aX<|aR.n ⟨(xU,fO),h,wk []⟩
   exact cT h λh=>sr<|aB Y<|aeI (l:=[1]) (e:=bf) (.one Y (.nil)) Y<|aE h (λ_=>xB) λjC h=>aC Y<|dn<|aU<|aB Y<|aB Y<|aE h (λ_=>rL) λnJ h=>aC Y<|aF<|aR.n ⟨(jC,nJ),h,wk []⟩
  obtain⟨c,b⟩:=j5
  try dsimp only
  exact aR.n<|sr<|aG Y Y<|aH Y Y Y<|aG Y Y<|aH Y Y Y<|amG h λsL h=>aB Y<|aE h (λ_=>jn) λ⟨f,b⟩ h=>aB Y<|aE h (λ_=>jn) λ⟨d,c⟩ h=>aJ Y Y Y<|aJ Y Y Y<|aC Y<|dn<|aY<|fP h [.agg (eZ ⟨f,b⟩),.agg (eZ ⟨d,c⟩),ax 0] (by exact⟨.a Y Y (.k2 Y Y) Y,.a Y Y (.k2 Y Y) Y,.t Y,an⟩)
 exact cT h λh=>sr<|aez (cs':=[ay false,au]) (.nil) (by exact⟨aq,aA,an⟩)<|aez (cs':=[ay false,au]) (.nil) (by exact⟨aq,aA,an⟩)<|aJ Y Y Y<|aJ Y Y Y<|aC Y<|dn<|aY<|aR.r<|fP h [.agg (eZ ⟨false,[]⟩),.agg (eZ ⟨false,[]⟩),ax 7] (by exact⟨.a Y Y (.k2 Y Y) Y,.a Y Y (.k2 Y Y) Y,.t Y,an⟩)
theorem PG{H:Zr}{D:Zr}{r:Zr}(h:qW H D=some r):Pure ah 97 [.agg (eZ H),.agg (eZ D)] (.agg (eZ r)):=by
 obtain⟨c,b⟩:=H;obtain⟨c,b⟩:=D;refine aZ Tryz.func97 Y λE w vs b=>?_;unfold qW at h;refine sr<|acj Y<|acj Y<|aM (cs:=[ay false,au]) (by exact⟨aq,aA,an⟩)<|dn<|sd mixed<|aG Y Y<|aH Y Y Y<|aE h (λ_=>cJ) λb h=>aG Y Y<|aH Y Y Y<|aE h (λ_=>cJ) λb h=>aC Y<|aC Y<|dd<|aT<|bq h λd c b=>?_;refine bp (λ(e:(List Nat)×(List Nat))=>AS.bM 57 [(4,.ptr 4 0),(5,aoh 1 bf e.1),(6,aoh 1 bf e.2)] [(4,.box 38 [aj false,.sv au])]) (λe=>e=d) (aV<|br c (λc=>AS.bM 57 [(4,.ptr 4 0),(5,aoh 1 bf c.1),(6,aoh 1 bf c.2)] [(4,.box 38 [aj false,.sv au])]) (wk []) (λc f d h j k=>?_)) (λe o=>?_)
 ·obtain⟨g,f⟩:=c
  try dsimp only
  refine aT<|aT<|?_;refine bB h (λc=>AS.bM 57 [(4,.ptr 4 0),(5,aoh 1 bf g),(6,aoh 1 bf f),(29,aj c)] [(4,.box 38 [aj false,.sv au])]) (λh=>?_) (λl h=>?_)
  ·refine aU<|aB Y<|aN h λc h=>aeG h λi h=>aB Y<|bq h λd c h=>?_;cases i
   ·replace c:=ct c;cases c;exact aD<|aD<|aD<|aD<|ada<|ada<|ada<|aD<|abE Y<|aF<|aR.n ⟨false,h,wk []⟩
   replace c:=cn c;refine aB Y<|aN c λd c=>aeG c λi c=>aB Y<|bq c λm d c=>?_;cases i
   ·replace d:=ct d;refine aB Y<|aN d λi d=>aeG d λi d=>?_;obtain rfl:=aob d;refine abE Y<|?_;obtain rfl:=aob c;exact aax Y<|aF<|aR.n ⟨i,h,wk []⟩
   replace d:=cn d;obtain rfl:=aob d;refine aD<|aD<|aD<|aax Y<|?_;cases c;exact aax Y<|aF<|aR.n ⟨true,h,wk []⟩
  refine aR.n<|?_;cases l
  ·refine cF h λh=>bt<|aR.x<|aR.x<|bn.x<|?_;obtain rfl:=aob h;exact aR.n ⟨(g,f),k _ Y,wk []⟩
  refine cT h λh=>aX<|aR.n<|aV<|sr<|aB Y<|aB Y<|aE h (λ_=>xD) λ⟨c,d⟩ h=>aB Y<|aP Y Y<|aP Y Y<|aC Y<|aC Y<|dn<|aU<|aB Y<|aB Y<|aE h (λ_=>cJ) λc h=>aC Y<|aC Y<|aF<|bn.n<|?_;obtain rfl:=aob h;exact aR.n ⟨(f,c),j _ Y,wk []⟩
 subst o;obtain⟨c,d⟩:=e
 try dsimp only
 refine aR.n<|aT<|sr<|aB Y<|aN b λc b=>aeH b λc b=>dn<|?_;cases c
 ·refine cF b λb=>aX<|aR.n<|sr<|aB Y<|aE b (λ_=>mF) λc b=>aB Y<|aE b (λ_=>mF) λc b=>aC Y<|aC Y<|dn<|aT<|bq b λe d g=>?_;refine bp (λ(c:Nat)=>AS.bM 57 [(4,.ptr 4 0),(9,.sv (.v (.int .u64 ((c:Nat):Int))))] [(4,.box 38 [aj false,.sv au])]) (λc=>c=e) (aV<|br d (λd=>AS.bM 57 [(4,.ptr 4 0),(9,.sv (.v (.int .u64 ((d.1:Nat):Int)))),(10,.sv (.v (.int .u64 ((d.2:Nat):Int))))] [(4,.box 38 [aj false,.sv au])]) (wk []) (λd e j h i f=>?_)) (λc e=>?_)
  ·obtain⟨j,c⟩:=d
   try dsimp only
   refine aT<|sr<|aB Y<|akZ h λd h=>dn<|?_;cases d
   ·refine cF h λh=>bt<|aR.x<|aR.x<|bn.x<|?_;obtain rfl:=aob h;exact aR.n ⟨j,f _ Y,wk []⟩
   refine cT h λh=>aX<|aR.n<|aV<|bz mixed<|aB Y<|aB Y<|aB Y<|ajZ h λd h=>aC Y<|aC Y<|de<|bn.n<|?_;obtain rfl:=aob h;exact aR.n ⟨(c,d),i _ Y,wk []⟩
  subst e;exact aR.n<|sr<|aB Y<|aE g (λ_=>oB) λ⟨d,c⟩ g=>aJ Y Y Y<|dn<|aY<|fP g [.agg (eZ ⟨d,c⟩)] (by exact⟨.a Y Y (.k2 Y Y) Y,an⟩)
 exact cT b λb=>sr<|aB Y<|aE b (λ_=>uI) λc b=>aE b (λ_=>jn) λ⟨c,d⟩ b=>aJ Y Y Y<|dn<|aY<|aR.r<|fP b [.agg (eZ ⟨c,d⟩)] (by exact⟨.a Y Y (.k2 Y Y) Y,an⟩)
end
section
open Go.Fw Go.RowKit
noncomputable def lN(I:Zr)(H:Zr)(K:Zr)(D:Zr):Option (Zr×Zr):=match I with|⟨g,e⟩=>match H with|⟨d,c⟩=>match K with|⟨f,h⟩=>match D with|⟨a,b⟩=>(eU ⟨g,e⟩ ⟨a,b⟩).bind λ⟨g,e⟩=>(eU ⟨f,h⟩ ⟨d,c⟩).bind λ⟨h,f⟩=>(ua ⟨g,e⟩ ⟨h,f⟩).bind λ⟨e,f⟩=>(eU ⟨d,c⟩ ⟨a,b⟩).bind λ⟨b,a⟩=>some (⟨e,f⟩,⟨b,a⟩)
noncomputable def lO(I:Zr)(H:Zr)(K:Zr)(D:Zr):Option (Zr×Zr):=match I with|⟨g,e⟩=>match H with|⟨d,c⟩=>match K with|⟨f,h⟩=>match D with|⟨a,b⟩=>(eU ⟨g,e⟩ ⟨a,b⟩).bind λ⟨g,e⟩=>(eU ⟨f,h⟩ ⟨d,c⟩).bind λ⟨h,f⟩=>(ud ⟨g,e⟩ ⟨h,f⟩).bind λ⟨e,f⟩=>(eU ⟨d,c⟩ ⟨a,b⟩).bind λ⟨b,a⟩=>some (⟨e,f⟩,⟨b,a⟩)
noncomputable def lQ(H:Zr)(K:Zr)(I:Zr)(D:Zr):Option (Zr×Zr):=match H with|⟨g,b⟩=>match K with|⟨h,d⟩=>match I with|⟨f,a⟩=>match D with|⟨c,e⟩=>(eU ⟨g,b⟩ ⟨f,a⟩).bind λ⟨b,f⟩=>(eU ⟨h,d⟩ ⟨c,e⟩).bind λ⟨c,a⟩=>some (⟨b,f⟩,⟨c,a⟩)
noncomputable def lR(H:Zr)(K:Zr)(I:Zr)(D:Zr):Option (Zr×Zr):=match H with|⟨g,b⟩=>match K with|⟨h,d⟩=>match I with|⟨f,a⟩=>match D with|⟨c,e⟩=>(eU ⟨g,b⟩ ⟨c,e⟩).bind λ⟨b,e⟩=>(eU ⟨h,d⟩ ⟨f,a⟩).bind λ⟨c,a⟩=>some (⟨b,e⟩,⟨c,a⟩)
noncomputable def dY(D:Qr):Option (Zr×Zr):=match D with|⟨⟨f,c⟩,⟨a,d⟩⟩=>(eJ ⟨a,d⟩).bind λg=>(some (decide ((g:Int)=0))).bind λb=>(bif b then(cD 1).bind λ⟨e,b⟩=>some (⟨f,c⟩,⟨e,b⟩)else(some (decide ((g:Int)=(-1)))).bind λb=>(bif b then(kV ⟨f,c⟩).bind λ⟨e,h⟩=>(kV ⟨a,d⟩).bind λ⟨g,b⟩=>some (⟨e,h⟩,⟨g,b⟩)else some (⟨f,c⟩,⟨a,d⟩)))
noncomputable def ig(H:Zr)(D:Zr):Option (Qr):=match H with|⟨g,e⟩=>match D with|⟨d,c⟩=>(eJ ⟨d,c⟩).bind λa=>(some (decide ((a:Int)<0))).bind λk=>bU (λ(a:Bool×(List Nat)×Bool×(List Nat))=>match a with|⟨b,a,i,j⟩=>(qW ⟨i,j⟩ ⟨b,a⟩).bind λ⟨f,h⟩=>(iv ⟨i,j⟩ ⟨f,h⟩).bind λ⟨⟨l,m⟩,⟨n,i⟩,j⟩=>(iv ⟨b,a⟩ ⟨f,h⟩).bind λ⟨⟨i,f⟩,⟨h,a⟩,b⟩=>(eT ⟨i,f⟩).bind λ⟨j,b⟩=>bU (λ(a:Bool)=>bU (λ(h:Bool×(List Nat))=>match h with|⟨n,h⟩=>some ⟨⟨l,m⟩,⟨n,h⟩⟩) λh=>(bif a then h (false,[])else h (i,f))) λf=>(bif b then(some (decide ((j:Int)=1))).bind λa=>some a else some false).bind λa=>f a) λa=>(bif k then(kV ⟨g,e⟩).bind λ⟨h,b⟩=>(kV ⟨d,c⟩).bind λ⟨f,i⟩=>a (f,i,h,b)else a (d,c,g,e))
noncomputable def fS(D:Qr):Option (Int×Int×Bool):=match D with|⟨⟨b,a⟩,⟨d,c⟩⟩=>(eT ⟨b,a⟩).bind λ⟨b,e⟩=>(eT ⟨d,c⟩).bind λ⟨a,h⟩=>bU (λ(c:Bool)=>(bif c then some (0,0,false)else(some (decide ((a:Int)=0))).bind λf=>bU (λ(c:Int×Int)=>match c with|⟨c,d⟩=>some (c,d,true)) λc=>(bif f then c (b,1)else(some (decide ((a:Int)<0))).bind λg=>bU (λ(d:Int×Int)=>match d with|⟨d,f⟩=>c (d,f)) λc=>(bif g then(some (IntKind.i64.wrap (0-b))).bind λf=>(some (IntKind.i64.wrap (0-a))).bind λd=>c (f,d)else c (b,a))))) λd=>(some (!e)).bind λc=>(bif c then some true else(some (!h)).bind λc=>some c).bind λc=>(bif c then some true else(some (decide ((b:Int)<=(-2147483648)))).bind λc=>some c).bind λc=>(bif c then some true else(some (decide ((2147483648:Int)<=b))).bind λb=>some b).bind λb=>(bif b then some true else(some (decide ((a:Int)<=(-2147483648)))).bind λb=>some b).bind λb=>(bif b then some true else(some (decide ((2147483648:Int)<=a))).bind λa=>some a).bind λa=>d a
noncomputable def jR(H:Int)(D:Int):Option (Qr):=(bH (λ(a:Int×Int)=>match a with|⟨b,a⟩=>(show Option ((Int×Int)⊕(Int))from(some (decide ((a:Int)≠0))).bind λc=>(bif c then(M3 b a).bind λc=>some (.inl (a,c))else some (.inr b)))) (H,D)).bind λb=>(some (decide ((b:Int)<0))).bind λd=>bU (λ(a:Int)=>(some (decide ((a:Int)=D))).bind λc=>(bif c then(DY H a).bind λc=>(cD c).bind λ⟨e,c⟩=>some ⟨⟨e,c⟩,⟨false,[]⟩⟩else(DY H a).bind λc=>(cD c).bind λ⟨e,f⟩=>(DY D a).bind λa=>(cD a).bind λ⟨a,c⟩=>some ⟨⟨e,f⟩,⟨a,c⟩⟩)) λa=>(bif d then(some (IntKind.i64.wrap (0-b))).bind λc=>a c else a b)
noncomputable def xE(D:Int):Option (Int):=(some (decide ((D:Int)<0))).bind λa=>(bif a then some (-1)else(some (decide ((0:Int)<D))).bind λa=>(bif a then some 1 else some 0))
noncomputable def oC(D:Qr)(H:Qr):Option (Qr):=match D with|⟨⟨h,f⟩,⟨d,a⟩⟩=>match H with|⟨⟨b,e⟩,⟨c,g⟩⟩=>(dY ⟨⟨h,f⟩,⟨d,a⟩⟩).bind λ⟨⟨a,h⟩,⟨f,d⟩⟩=>(dY ⟨⟨b,e⟩,⟨c,g⟩⟩).bind λ⟨⟨b,g⟩,⟨c,e⟩⟩=>(lN ⟨a,h⟩ ⟨f,d⟩ ⟨b,g⟩ ⟨c,e⟩).bind λ⟨⟨b,c⟩,⟨d,a⟩⟩=>(ig ⟨b,c⟩ ⟨d,a⟩).bind λ⟨⟨c,a⟩,⟨b,d⟩⟩=>some ⟨⟨c,a⟩,⟨b,d⟩⟩
noncomputable def oD(D:Qr)(H:Qr):Option (Qr):=match D with|⟨⟨h,f⟩,⟨d,a⟩⟩=>match H with|⟨⟨b,e⟩,⟨c,g⟩⟩=>(dY ⟨⟨h,f⟩,⟨d,a⟩⟩).bind λ⟨⟨a,h⟩,⟨f,d⟩⟩=>(dY ⟨⟨b,e⟩,⟨c,g⟩⟩).bind λ⟨⟨b,g⟩,⟨c,e⟩⟩=>(lO ⟨a,h⟩ ⟨f,d⟩ ⟨b,g⟩ ⟨c,e⟩).bind λ⟨⟨b,c⟩,⟨d,a⟩⟩=>(ig ⟨b,c⟩ ⟨d,a⟩).bind λ⟨⟨c,a⟩,⟨b,d⟩⟩=>some ⟨⟨c,a⟩,⟨b,d⟩⟩
noncomputable def oF(D:Qr)(H:Qr):Option (Qr):=match D with|⟨⟨h,f⟩,⟨d,a⟩⟩=>match H with|⟨⟨b,e⟩,⟨c,g⟩⟩=>(dY ⟨⟨h,f⟩,⟨d,a⟩⟩).bind λ⟨⟨a,h⟩,⟨f,d⟩⟩=>(dY ⟨⟨b,e⟩,⟨c,g⟩⟩).bind λ⟨⟨b,g⟩,⟨c,e⟩⟩=>(lQ ⟨a,h⟩ ⟨f,d⟩ ⟨b,g⟩ ⟨c,e⟩).bind λ⟨⟨b,c⟩,⟨d,a⟩⟩=>(ig ⟨b,c⟩ ⟨d,a⟩).bind λ⟨⟨c,a⟩,⟨b,d⟩⟩=>some ⟨⟨c,a⟩,⟨b,d⟩⟩
noncomputable def oG(D:Qr)(H:Qr):Option (Qr):=match D with|⟨⟨h,f⟩,⟨d,a⟩⟩=>match H with|⟨⟨b,e⟩,⟨c,g⟩⟩=>(dY ⟨⟨h,f⟩,⟨d,a⟩⟩).bind λ⟨⟨a,h⟩,⟨f,d⟩⟩=>(dY ⟨⟨b,e⟩,⟨c,g⟩⟩).bind λ⟨⟨b,g⟩,⟨c,e⟩⟩=>(lR ⟨a,h⟩ ⟨f,d⟩ ⟨b,g⟩ ⟨c,e⟩).bind λ⟨⟨b,c⟩,⟨d,a⟩⟩=>(ig ⟨b,c⟩ ⟨d,a⟩).bind λ⟨⟨c,a⟩,⟨b,d⟩⟩=>some ⟨⟨c,a⟩,⟨b,d⟩⟩
noncomputable def v7(H:Int)(D:Int):Option (Qr×Int):=(some (decide ((D:Int)=0))).bind λa=>(bif a then some (⟨⟨false,[]⟩,⟨false,[]⟩⟩,7)else(cD H).bind λ⟨a,b⟩=>(cD D).bind λ⟨c,d⟩=>(ig ⟨a,b⟩ ⟨c,d⟩).bind λ⟨⟨a,b⟩,⟨d,c⟩⟩=>some (⟨⟨a,b⟩,⟨d,c⟩⟩,0))
noncomputable def bK(D:Int):Option (Qr):=(cD D).bind λ⟨a,b⟩=>some ⟨⟨a,b⟩,⟨false,[]⟩⟩
noncomputable def cA(D:Qr):Option (Qr):=match D with|⟨⟨f,d⟩,⟨g,e⟩⟩=>(fS ⟨⟨f,d⟩,⟨g,e⟩⟩).bind λ⟨a,c,b⟩=>(bif b then(jR a c).bind λ⟨⟨c,b⟩,⟨a,h⟩⟩=>some ⟨⟨c,b⟩,⟨a,h⟩⟩else(dY ⟨⟨f,d⟩,⟨g,e⟩⟩).bind λ⟨⟨b,d⟩,⟨a,c⟩⟩=>(ig ⟨b,d⟩ ⟨a,c⟩).bind λ⟨⟨d,b⟩,⟨a,c⟩⟩=>some ⟨⟨d,b⟩,⟨a,c⟩⟩)
noncomputable def cv(D:Qr):Option (Int):=match D with|⟨⟨b,a⟩,⟨c,d⟩⟩=>(eJ ⟨c,d⟩).bind λc=>(some (decide ((c:Int)<0))).bind λc=>(bif c then(eJ ⟨b,a⟩).bind λc=>(some (IntKind.i64.wrap (0-c))).bind λc=>some c else(eJ ⟨b,a⟩).bind λa=>some a)
noncomputable def ff(H:Qr)(D:Qr):Option (Qr):=match H with|⟨⟨g,b⟩,⟨h,d⟩⟩=>match D with|⟨⟨j,i⟩,⟨f,a⟩⟩=>(fS ⟨⟨g,b⟩,⟨h,d⟩⟩).bind λ⟨l,c,n⟩=>(fS ⟨⟨j,i⟩,⟨f,a⟩⟩).bind λ⟨k,e,m⟩=>bU (λ(o:Bool)=>(bif o then(some (IntKind.i64.wrap (l*e))).bind λl=>(some (IntKind.i64.wrap (k*c))).bind λk=>(some (IntKind.i64.wrap (l+k))).bind λk=>(some (IntKind.i64.wrap (c*e))).bind λc=>(jR k c).bind λ⟨⟨e,k⟩,⟨c,l⟩⟩=>some ⟨⟨e,k⟩,⟨c,l⟩⟩else(oC ⟨⟨g,b⟩,⟨h,d⟩⟩ ⟨⟨j,i⟩,⟨f,a⟩⟩).bind λ⟨⟨c,a⟩,⟨d,b⟩⟩=>some ⟨⟨c,a⟩,⟨d,b⟩⟩)) λb=>(bif n then some m else some false).bind λa=>b a
noncomputable def fj(H:Qr)(D:Qr):Option (Qr):=match H with|⟨⟨g,b⟩,⟨h,d⟩⟩=>match D with|⟨⟨j,i⟩,⟨f,a⟩⟩=>(fS ⟨⟨g,b⟩,⟨h,d⟩⟩).bind λ⟨l,c,n⟩=>(fS ⟨⟨j,i⟩,⟨f,a⟩⟩).bind λ⟨k,e,m⟩=>bU (λ(o:Bool)=>(bif o then(some (IntKind.i64.wrap (l*e))).bind λl=>(some (IntKind.i64.wrap (k*c))).bind λk=>(some (IntKind.i64.wrap (l-k))).bind λk=>(some (IntKind.i64.wrap (c*e))).bind λc=>(jR k c).bind λ⟨⟨e,k⟩,⟨c,l⟩⟩=>some ⟨⟨e,k⟩,⟨c,l⟩⟩else(oD ⟨⟨g,b⟩,⟨h,d⟩⟩ ⟨⟨j,i⟩,⟨f,a⟩⟩).bind λ⟨⟨c,a⟩,⟨d,b⟩⟩=>some ⟨⟨c,a⟩,⟨d,b⟩⟩)) λb=>(bif n then some m else some false).bind λa=>b a
noncomputable def ei(H:Qr)(D:Qr):Option (Qr):=match H with|⟨⟨e,b⟩,⟨f,c⟩⟩=>match D with|⟨⟨h,g⟩,⟨d,a⟩⟩=>(fS ⟨⟨e,b⟩,⟨f,c⟩⟩).bind λ⟨l,i,n⟩=>(fS ⟨⟨h,g⟩,⟨d,a⟩⟩).bind λ⟨k,j,m⟩=>bU (λ(o:Bool)=>(bif o then(some (IntKind.i64.wrap (l*k))).bind λk=>(some (IntKind.i64.wrap (i*j))).bind λi=>(jR k i).bind λ⟨⟨i,k⟩,⟨l,j⟩⟩=>some ⟨⟨i,k⟩,⟨l,j⟩⟩else(oF ⟨⟨e,b⟩,⟨f,c⟩⟩ ⟨⟨h,g⟩,⟨d,a⟩⟩).bind λ⟨⟨a,d⟩,⟨b,c⟩⟩=>some ⟨⟨a,d⟩,⟨b,c⟩⟩)) λb=>(bif n then some m else some false).bind λa=>b a
noncomputable def kz(H:Qr)(D:Qr):Option (Qr×Int):=match H with|⟨⟨m,k⟩,⟨o,l⟩⟩=>match D with|⟨⟨j,i⟩,⟨e,a⟩⟩=>(cv ⟨⟨j,i⟩,⟨e,a⟩⟩).bind λb=>(some (decide ((b:Int)=0))).bind λb=>(bif b then some (⟨⟨false,[]⟩,⟨false,[]⟩⟩,7)else(fS ⟨⟨m,k⟩,⟨o,l⟩⟩).bind λ⟨n,p,h⟩=>(fS ⟨⟨j,i⟩,⟨e,a⟩⟩).bind λ⟨g,b,f⟩=>bU (λ(c:Bool)=>(bif c then(some (decide ((g:Int)<0))).bind λq=>bU (λ(c:Int×Int)=>match c with|⟨c,d⟩=>(some (IntKind.i64.wrap (c*b))).bind λc=>(some (IntKind.i64.wrap (p*d))).bind λb=>(jR c b).bind λ⟨⟨b,d⟩,⟨p,c⟩⟩=>some (⟨⟨b,d⟩,⟨p,c⟩⟩,0)) λb=>(bif q then(some (IntKind.i64.wrap (0-n))).bind λc=>(some (IntKind.i64.wrap (0-g))).bind λd=>b (c,d)else b (n,g))else(oG ⟨⟨m,k⟩,⟨o,l⟩⟩ ⟨⟨j,i⟩,⟨e,a⟩⟩).bind λ⟨⟨d,c⟩,⟨a,b⟩⟩=>some (⟨⟨d,c⟩,⟨a,b⟩⟩,0))) λb=>(bif h then some f else some false).bind λa=>b a)
noncomputable def iw(D:Qr):Option (Qr):=match D with|⟨⟨d,b⟩,⟨a,c⟩⟩=>(cA ⟨⟨d,b⟩,⟨a,c⟩⟩).bind λ⟨⟨d,a⟩,⟨b,c⟩⟩=>(kV ⟨d,a⟩).bind λ⟨a,d⟩=>some ⟨⟨a,d⟩,⟨b,c⟩⟩
noncomputable def iy(H:Qr)(D:Qr):Option (Int):=match H with|⟨⟨d,b⟩,⟨f,c⟩⟩=>match D with|⟨⟨h,g⟩,⟨e,a⟩⟩=>(dY ⟨⟨d,b⟩,⟨f,c⟩⟩).bind λ⟨⟨b,d⟩,⟨j,i⟩⟩=>(dY ⟨⟨h,g⟩,⟨e,a⟩⟩).bind λ⟨⟨c,e⟩,⟨h,k⟩⟩=>(eJ ⟨b,d⟩).bind λa=>(eJ ⟨c,e⟩).bind λf=>bU (λ(g:Bool)=>(bif g then(some (IntKind.i64.wrap (a-f))).bind λg=>(xE g).bind λg=>some g else(eU ⟨b,d⟩ ⟨h,k⟩).bind λ⟨b,d⟩=>(eU ⟨c,e⟩ ⟨j,i⟩).bind λ⟨c,e⟩=>(ue ⟨b,d⟩ ⟨c,e⟩).bind λb=>some b)) λb=>(some (decide ((a:Int)≠f))).bind λc=>(bif c then some true else(some (decide ((a:Int)=0))).bind λa=>some a).bind λa=>b a
noncomputable def ji(D:Qr)(H:Qr):Option (Bool):=match D with|⟨⟨h,d⟩,⟨b,e⟩⟩=>match H with|⟨⟨g,f⟩,⟨c,a⟩⟩=>(iy ⟨⟨h,d⟩,⟨b,e⟩⟩ ⟨⟨g,f⟩,⟨c,a⟩⟩).bind λa=>(some (decide ((a:Int)=0))).bind λa=>some a
noncomputable def qI(H:Qr)(D:Qr):Option (Qr):=match H with|⟨⟨e,b⟩,⟨f,c⟩⟩=>match D with|⟨⟨h,g⟩,⟨d,a⟩⟩=>(iy ⟨⟨h,g⟩,⟨d,a⟩⟩ ⟨⟨e,b⟩,⟨f,c⟩⟩).bind λi=>(some (decide ((i:Int)<0))).bind λi=>(bif i then(cA ⟨⟨h,g⟩,⟨d,a⟩⟩).bind λ⟨⟨g,a⟩,⟨h,d⟩⟩=>some ⟨⟨g,a⟩,⟨h,d⟩⟩else(cA ⟨⟨e,b⟩,⟨f,c⟩⟩).bind λ⟨⟨d,c⟩,⟨b,a⟩⟩=>some ⟨⟨d,c⟩,⟨b,a⟩⟩)
noncomputable def rO(D:Qr):Option (Zr):=match D with|⟨⟨d,b⟩,⟨a,c⟩⟩=>(dY ⟨⟨d,b⟩,⟨a,c⟩⟩).bind λ⟨⟨c,d⟩,⟨a,b⟩⟩=>(iv ⟨c,d⟩ ⟨a,b⟩).bind λ⟨⟨d,a⟩,⟨c,b⟩,e⟩=>some ⟨d,a⟩
end
end Go.Proofs.YtianbhacbgnboaaGreat
