/- The law TableauCopies answers true for every input, up to the size that the statement names. -/
import Derived.Test.YtningmnklfpfjaaGreatPTK5
set_option linter.unusedVariables false
set_option linter.unusedSimpArgs false
namespace Go.Proofs.YtningmnklfpfjaaGreat
section
open Go.Fw
theorem dT{p:Prop}[Decidable p](h:p):(some (decide p):Option Bool)=some true:=congrArg some (decide_eq_true h)
theorem dF{p:Prop}[Decidable p](h:¬p):(some (decide p):Option Bool)=some false:=congrArg some (decide_eq_false h)
theorem aaH{β:Type}{x:Option Bool}{f:Bool->Option β}{r:Option β}{y:Option Bool}(h:x=some true)(hf:f true=r):(bif true then x else y).bind f=r:=by rw[iw,h];exact hf
theorem Pb{β:Type}{b c:Bool}{x:Option Bool}{f:Bool->Option β}{r:Option β}(h:b=false->x=some c)(hf:f (b||c)=r):(bif b then some true else x).bind f=r:=by
 cases b
 ·rw[ja,h rfl];exact hf
 rw[iw];exact hf
theorem adr{β:Type}{b c:Bool}{x:Option Bool}{f:Bool->Option β}{r:Option β}(h:b=true->x=some c)(hf:f (b&&c)=r):(bif b then x else some false).bind f=r:=by
 cases b
 ·rw[ja];exact hf
 rw[iw,h rfl];exact hf
section ops
variable {K L M:Nat}{a b c:Qr}{x y z:Rat}
end ops
theorem eM.val{L:Nat}{v:List Qr}{f:Nat->Rat}(h:eM L v f)(i:Nat):f i=Le v i:=(h.at i).v.symm
abbrev szZ(z:Zr):Nat:=1+((z.w.map λ_=>1).sum+1)+1
abbrev szQ(q:Qr):Nat:=szZ q.num+szZ q.den+1
abbrev szV(v:List Qr):Nat:=(v.map λx=>szQ x).sum+1
abbrev szM(m:List (List Qr)):Nat:=(m.map λx=>szV x).sum+1
theorem Vj{α:Type}(f:α->Nat):∀{l:List α} {x:α},x∈l->f x<=(l.map f).sum
 |y::l,x,h=>by
  rw[List.map_cons,List.sum_cons];rcases List.mem_cons.1 h with rfl|h
  ·omega
  have:=Vj f h;omega
theorem Vk{α:Type}:∀l:List α,(l.map λ_=>1).sum=l.length
 |[]=>rfl
 |_::l=>by rw[List.map_cons,List.sum_cons,Vk l,List.length_cons];omega
theorem ads(q:Qr):q.num.w.length<=szQ q/\q.den.w.length<=szQ q:=by
 simp only[szQ,szZ,Vk];omega
abbrev OkV(v:List Qr):Prop:=v.length<=9223372036854775807/\∀q∈v,OkQ q
theorem atA{q:Qr}(h:OkQ q)(s:szQ q<=1048576):kO 1048576 q (qv q):=by
 have:=ads q;exact TY h ξ ξ η
theorem amM{v:List Qr}(h:OkV v)(s:szV v<=1048576):eM 1048576 v (Le v):=by
 refine OR (λq hq=>atA (h.2 q hq) ?_) η;have:=Vj (λx=>szQ x) hq;have e:szV v=(v.map λx=>szQ x).sum+1:=rfl;omega
end
section
open Go.Fw
def CA{α:Type}(f:Nat->α)(n k:Nat)(z:α):List α:=(List.range k).map f++List.replicate (n-k) z
theorem Wz{α:Type}{f:Nat->α}{n k:Nat}{z:α}(hk:k<=n):(CA f n k z).length=n:=by simp[CA];omega
theorem TZ{α:Type}{f:Nat->α}{n:Nat}{z:α}:CA f n 0 z=List.replicate n z:=by simp[CA]
theorem WA{α:Type}{f:Nat->α}{n:Nat}{z:α}:CA f n n z=(List.range n).map f:=by simp[CA]
theorem WB{α:Type}{f:Nat->α}{n k:Nat}{z:α}(hk:k<n):(CA f n k z).set k (f k)=CA f n (k+1) z:=by
 unfold CA;rw[show n-k=(n-(k+1))+1 by omega,List.replicate_succ,List.set_append_right _ _ θ,List.length_map,List.length_range,Nat.sub_self,List.range_succ,List.map_append,List.append_assoc];rfl
def mq(n:Nat)(ln:Nat->Nat)(F:Nat->Nat->Rat):List (List Qr):=(List.range n).map λi=>vq (ln i) (F i)
theorem cM(n:Nat)(ln:Nat->Nat)(F:Nat->Nat->Rat):(mq n ln F).length=n:=by simp[mq]
theorem gj{n i:Nat}{ln:Nat->Nat}{F:Nat->Nat->Rat}(hi:i<n):(mq n ln F)[i]? =some (vq (ln i) (F i)):=by simp[mq,hi]
theorem lC{n:Nat}{ln ln':Nat->Nat}{F G:Nat->Nat->Rat}(h:∀i,i<n->ln i=ln' i/\∀k,k<ln i->F i k=G i k):mq n ln F=mq n ln' G:=by
 unfold mq;apply List.map_congr_left;intro i hi;obtain⟨h1,h2⟩:=h i (List.mem_range.1 hi);rw[dM h2,h1]
structure kE (L:Nat) (m:List (List Qr)) (F:Nat->Nat->Rat):Prop where
 e:∀i v,m[i]? =some v->eM L v (F i)
 z:∀i,m.length<=i->∀k,F i k=0
 l1:1<=L
theorem kE.row{L:Nat}{m:List (List Qr)}{F:Nat->Nat->Rat}(h:kE L m F)(i:Nat):eM L (m.getD i []) (F i):=by
 by_cases hi:i<m.length
 ·rw[List.getD_eq_getElem?_getD,List.getElem?_eq_getElem hi];exact h.e i _ (List.getElem?_eq_getElem hi)
 rw[List.getD_eq_getElem?_getD,List.getElem?_eq_none ξ];exact(eM.nil h.l1).congr (λk=>(h.z i ξ k).symm)
theorem zf{L n:Nat}{ln:Nat->Nat}{F:Nat->Nat->Rat}(hf:∀i,i<n->∀k,k<ln i->FQ L (F i k))(hz:∀i,i<n->∀k,ln i<=k->F i k=0)(hz':∀i,n<=i->∀k,F i k=0)(h1:1<=L):kE L (mq n ln F) F:=by
 refine⟨λi v e=>?_,λi hi=>hz' i (by rwa[cM]at hi),h1⟩;have hi:i<n:=by have:=(List.getElem?_eq_some_iff.1 e).1;rwa[cM]at this
 rw[gj hi]at e;cases e;exact pG (hf i hi) (hz i hi) h1
def OX(m:List (List Qr))(i:Nat):Nat->Rat:=Le (m.getD i [])
theorem adt{L:Nat}{m:List (List Qr)}(h:∀v∈m,eM L v (Le v))(h1:1<=L):kE L m (OX m):=by
 refine⟨λi v e=>?_,λi hi k=>?_,h1⟩
 ·have:OX m i=Le v:=by unfold OX;rw[List.getD_eq_getElem?_getD,e];rfl
  rw[this];exact h v (List.mem_of_getElem? e)
 unfold OX;rw[List.getD_eq_getElem?_getD,List.getElem?_eq_none hi];exact(eM.nil (L:=1) η).val k |>.symm
theorem mkm{n:Nat}(h:n<=1000000):Ln 24 ((n:Nat):Int) ([]:List Qr)=some (List.replicate n []):=za η ξ
theorem aaI(n:Nat)(h:n<=1000000):Ln 64 ((n:Nat):Int) (⟨⟨false,[]⟩,⟨false,[]⟩⟩:Qr)=some (List.replicate n ⟨⟨false,[]⟩,⟨false,[]⟩⟩):=za ξ ξ
theorem T0{E:Type}{body:Nat->Unit->Option (Unit⊕E)}{n:Nat}{p:Nat->Prop}[DecidablePred p]{e:E}(h:∀k,k<n->body k ()=some (if p k then .inl ()else .inr e)):w7 body n ()=some (if ∀k,k<n->p k then .inl ()else .inr e):=by
 induction n with
 |zero=>rw[w7,if_pos (λk hk=>by omega)]
 |succ n ih=>
  rw[w7,ih (λk hk=>h k ξ)];by_cases h1:∀k,k<n->p k
  ·rw[if_pos h1];show body n ()=_;rw[h n ξ];by_cases h2:p n
   ·rw[if_pos h2,if_pos];intro k hk;rcases Nat.lt_or_ge k n with q|q
    ·exact h1 k q
    obtain rfl:k=n:=by omega
    exact h2
   rw[if_neg h2,if_neg (λq=>h2 (q n ξ))]
  rw[if_neg h1,if_neg (λq=>h1 (λk hk=>q k ξ))];rfl
section ops
variable {K L M:Nat}{c:Qr}{k:Rat}{a b:List (List Qr)}{F G:Nat->Nat->Rat}{x:List Qr}{f:Nat->Rat}
theorem adu(a:List (List Qr))(i:Nat):zS a (i:Int)=some (a.getD i []):=by
 unfold zS;refine cw<|aC (dF ξ) ?_;by_cases h:i<a.length
 ·exact aC (a:=false) (bL Y<|aC Y<|aC (dF ξ) Y)<|bL Y<|aC (bH (ic h)) Y
 rw[mH ξ];exact aC (a:=true) (bL Y<|aC Y<|aC (dT ξ) Y)<|bY Y Y
def oL(m:List (List Qr)):Nat:=m.foldl (λn v=>max n v.length) 0
theorem oM{m:List (List Qr)}{n:Nat}:oL m<=n↔∀v∈m,v.length<=n:=by
 have key:∀(l:List (List Qr)) (s:Nat),l.foldl (λn v=>max n v.length) s<=n↔s<=n/\∀v∈l,v.length<=n:=by
  intro l
  induction l with
  |nil=>intro s;simp
  |cons v l ih=>
   intro s;rw[List.foldl_cons,ih];simp only[List.mem_cons,forall_eq_or_imp];constructor
   ·rintro⟨h1,h2⟩;exact⟨by omega,by omega,h2⟩
   rintro⟨h1,h2,h3⟩;exact⟨by omega,h3⟩
 unfold oL;rw[key];simp
theorem afO(m:List (List Qr))(h:m.length<=9223372036854775806):tQ m=some (oL m:Int):=by
 unfold tQ;refine aC Y<|bK (λj=>(((m.take j).foldl (λn v=>max n v.length) 0:Nat),(j:Int))) m.length ((oL m:Nat):Int) θ (λj hj=>?_) ?_ Y
 ·refine aC (dT ξ)<|bY Y<|aC (bH (List.getElem?_eq_getElem hj))<|aC Y<|aC Y<|aC (congrArg some (bQ ξ)) ?_;rw[List.take_add_one,List.getElem?_eq_getElem hj,List.foldl_append];simp only[Option.toList_some,List.foldl_cons,List.foldl_nil];congr 3;omega
 refine aC (dF ξ)<|bL Y ?_;rw[List.take_length];rfl
theorem ai2(h:kE L a F)(hL:L<=10000000000)(i j:Nat):zU a (i:Int) (j:Int)=some (qn (F i j)):=by
 unfold zU;refine aC (adu a i)<|cw<|aC (dF ξ) ?_;have hr:=h.row i;generalize a.getD i []=v at hr;by_cases hj:j<v.length
 ·obtain⟨q,e1,r1⟩:=hr.get hj;have e2:=(r1.canon hL).1;exact aC (a:=false) (bL Y<|aC Y<|aC (dF ξ) Y)<|bL Y<|aC (bH e1)<|aC e2 Y
 rw[hr.z j ξ];exact aC (a:=true) (bL Y<|aC Y<|aC (dT ξ) Y)<|bY Y Y
theorem afP{l:List (List Int)}(hl:∀v∈l,v.length<=1000/\∀y∈v,ia y)(hn:l.length<=1000):mw l=some (mq l.length (λi=>(l.getD i []).length) (λi j=>(((l.getD i []).getD j 0:Int):Rat)))/\kE 2 (mq l.length (λi=>(l.getD i []).length) (λi j=>(((l.getD i []).getD j 0:Int):Rat))) (λi j=>(((l.getD i []).getD j 0:Int):Rat)):=by
 have hw:∀i,(l.getD i []).length<=1000/\∀y∈l.getD i [],ia y:=λi=>by
  by_cases hi:i<l.length
  ·exact hl _ (List.mem_of_getElem? (ic (d:=[]) hi))
  rw[mH ξ];simp
 constructor
 ·unfold mw;refine aC Y<|aC (mkm ξ)<|aC Y<|bK (λj=>((j:Int),CA (λi=>vq (l.getD i []).length (λj=>(((l.getD i []).getD j 0:Int):Rat))) l.length j [])) l.length (mq l.length (λi=>(l.getD i []).length) (λi j=>(((l.getD i []).getD j 0:Int):Rat))) (by rw[TZ];rfl) (λj hj=>?_) ?_ Y
  ·have e1:=(FX (hw j).2 (by have:=(hw j).1;omega)).1;have hl:(CA (λi=>vq (l.getD i []).length (λj=>(((l.getD i []).getD j 0:Int):Rat))) l.length j []).length=l.length:=Wz ξ;refine aC (dT ξ)<|bY Y<|aC (bH (ic (d:=[]) hj))<|aC e1<|aC (cO (show j<_ by rw[hl];exact hj))<|aC (fK (show j<_ by rw[hl];exact hj))<|aC (congrArg some (bQ ξ)) ?_;rw[<-WB hj]
  refine aC (dF ξ)<|bL Y ?_;rw[WA];rfl
 refine zf (λi hi j hj=>(FX (hw i).2 (by have:=(hw i).1;omega)).2.fq j) (λi hi j hj=>by rw[mH hj];rfl) (λi hi j=>by rw[mH hi];rfl) η
end ops
end
section
open Go.Fw
theorem Vl{α:Type}{b:Bool}{x y r:α}(ht:b=true->x=r)(hf:b=false->y=r):(bif b then x else y)=r:=by
 cases b
 ·rw[ja];exact hf Y
 rw[iw];exact ht Y
theorem ug{E:Type}{body:Int->Option (Int⊕(Unit⊕E))}{n:Nat}{p:Nat->Prop}[DecidablePred p]{e:E}(h:∀k:Nat,k<n->body (k:Int)=some (if p k then .inl ((k+1:Nat):Int)else .inr (.inr e)))(hn:body (n:Int)=some (.inr (.inl ()))):
  cm body 0=some (if ∀k,k<n->p k then .inl ()else .inr e):=by
 obtain⟨r,h1,h2⟩:=F9 (body:=body) (s:=0) (λs=>∃k:Nat,s=(k:Int)/\k<=n/\∀i,i<k->p i) (λr=>(r=.inl ()/\∀k,k<n->p k)\/(r=.inr e/\¬∀k,k<n->p k)) (λs=>n-s.toNat) (by
  rintro _ ⟨k,rfl,hk,hp⟩;by_cases hlt:k<n
  ·by_cases hpk:p k
   ·refine .inl ⟨_,by rw[h k hlt,if_pos hpk],⟨k+1,Y,hlt,λi hi=>?_⟩,by simp only[Int.toNat_natCast];omega⟩;rcases Nat.lt_or_ge i k with q|q
    ·exact hp i q
    obtain rfl:i=k:=by omega
    exact hpk
   exact .inr ⟨_,by rw[h k hlt,if_neg hpk],.inr ⟨Y,λq=>hpk (q k hlt)⟩⟩
  obtain rfl:k=n:=by omega
  exact .inr ⟨_,hn,.inl ⟨Y,hp⟩⟩) ⟨0,Y,by omega,λi hi=>by omega⟩
 rw[h1];rcases h2 with⟨rfl,h2⟩|⟨rfl,h2⟩
 ·rw[if_pos h2]
 rw[if_neg h2]
def adv(n:Nat)(f:Nat->Rat)(i:Nat):Rat:=if i<n then f i else 0
theorem OY{n i:Nat}{f:Nat->Rat}(h:i<n):adv n f i=f i:=if_pos h
theorem adw{n i:Nat}{f:Nat->Rat}(h:n<=i):adv n f i=0:=if_neg ξ
theorem ai3(n:Nat)(f:Nat->Rat):vq n f=vq n (adv n f):=dM (λi hi=>(OY hi).symm)
theorem OZ{L n:Nat}{f:Nat->Rat}(h:∀i,i<n->FQ L (f i))(h1:1<=L):eM L (vq n f) (adv n f):=by
 rw[ai3];exact pG (λi hi=>by rw[OY hi];exact h i hi) (λi hi=>adw hi) h1
def MZ(n:Int)(ob rw:List (List Qr))(bd:List Qr):Prop:=0<=n/\n<=64/\1<=ob.length/\ob.length<=4/\rw.length<=128/\bd.length=rw.length/\(oL ob:Int)<=n/\(oL rw:Int)<=n
instance(n:Int)(ob rw:List (List Qr))(bd:List Qr):Decidable (MZ n ob rw bd):=by unfold MZ;exact inferInstance
theorem RQ{n:Int}{ob rw:List (List Qr)}{bd:List Qr}(h1:ob.length<=9223372036854775806)(h2:rw.length<=9223372036854775806):qA ⟨n,ob,rw,bd⟩=some (decide (MZ n ob rw bd)):=by
 unfold qA wE;refine aC (aC Y<|aC Y<|aC Y Y)<|cw<|aC Y<|Pb (λ_=>aC Y Y)<|Pb (λ_=>aC Y Y)<|Pb (λ_=>aC Y Y)<|Vl (λh=>?_) (λh=>cw<|aC Y<|Pb (λ_=>aC Y Y)<|Vl (λh'=>?_) (λh'=>cw<|aC (afO ob h1)<|aC Y<|adr (λ_=>aC (afO rw h2)<|aC Y Y) ?_))
 ·congr 1;symm;rw[decide_eq_false_iff_not];simp only[Bool.or_eq_true,decide_eq_true_eq]at h;unfold MZ;omega
 ·congr 1;symm;rw[decide_eq_false_iff_not];simp only[Bool.or_eq_true,decide_eq_true_eq]at h';unfold MZ;omega
 congr 1;simp only[Bool.or_eq_false_iff,decide_eq_false_iff_not]at h h';rw[<-Bool.decide_and,decide_eq_decide];unfold MZ;omega
section lps
variable {K L M N:Nat}{n:Int}{ob rw:List (List Qr)}{bd x y:List Qr}{O F:Nat->Nat->Rat}{g f:Nat->Rat}
end lps
end
section
open Go.Fw
def bq(m:Nat)(b:Nat->Nat):List Int:=(List.range m).map λj=>((b j:Nat):Int)
theorem qG(m:Nat)(b:Nat->Nat):(bq m b).length=m:=by simp[bq]
theorem uh{m j:Nat}{b:Nat->Nat}(h:j<m):(bq m b)[j]? =some ((b j:Nat):Int):=by simp[bq,h]
theorem O0(m:Nat)(b:Nat->Nat):bq (m+1) b=bq m b++[((b m:Nat):Int)]:=by simp[bq,List.range_succ]
theorem aaJ{m r c:Nat}{b:Nat->Nat}(hr:r<m):(bq m b).set r (c:Int)=bq m (λj=>if j=r then c else b j):=by
 apply List.ext_getElem?;intro j;rw[List.getElem?_set,qG];by_cases hj:j<m
 ·rw[uh hj];by_cases e:r=j
  ·subst e;rw[if_pos Y,if_pos hr,uh hr,if_pos rfl]
  rw[if_neg e,uh hj,if_neg (λq=>e q.symm)]
 rw[List.getElem?_eq_none (l:=bq m _) (by rw[qG];omega),List.getElem?_eq_none (l:=bq m _) (by rw[qG];omega)];by_cases e:r=j
 ·rw[if_pos e,if_neg ξ]
 rw[if_neg e]
abbrev Lx(n m p:Nat)(O F:Nat->Nat->Rat)(b:Nat->Nat):Tb:=⟨true,(n:Int),mq p (λ_=>n) O,bq m b,mq m (λ_=>n+m+1) F⟩
structure wW (L n m p:Nat) (O F:Nat->Nat->Rat) (b:Nat->Nat):Prop where
 f:∀i,i<m->∀k,FQ L (F i k)
 o:∀i,i<p->∀k,FQ L (O i k)
 z:∀i,i<m->∀k,n+m+1<=k->F i k=0
 l1:1<=L
 hn:n<=64
 hm:m<=128
 hp:p<=4
 hb:∀j,j<m->b j<n+m
section tab
variable {L n m p:Nat}{O F:Nat->Nat->Rat}{b:Nat->Nat}
theorem oN(n m p:Nat)(O F:Nat->Nat->Rat)(b:Nat->Nat):di (Lx n m p O F b)=some false:=by
 unfold di;exact cw<|aC (a:=false) (bL Y<|aC Y Y) Y
theorem Li(hn:n<=64)(hm:m<=128):gI (Lx n m p O F b)=some ((n+m:Nat):Int):=by
 unfold gI;refine aC Y<|aC (congrArg some ?_) Y;rw[cM,cQ ξ ξ];omega
theorem ai4{i:Nat}(h:wW L n m p O F b)(hi:i<m):eM L (vq (n+m+1) (F i)) (F i):=pG (λk _=>h.f i hi k) (λk hk=>h.z i hi k hk) h.l1
theorem Vm(h:wW L n m p O F b)(hL:L<=4000000000){c:Nat}(hc:c<n+m+1):oV (Lx n m p O F b) (c:Int)=some (vq m (λi=>F i c)):=by
 have hm:=h.hm;unfold oV;show(some ((mq m (λ_=>n+m+1) F).length:Int)).bind _=_;refine aC Y ?_;rw[cM];refine aC (aaI m ξ)<|aC Y<|bK (λk=>((k:Int),vq k (λi=>F i c)++List.replicate (m-k) qz)) m (vq m (λi=>F i c)) Y (λk hk=>?_) ?_ Y
 ·have g1:(mq m (λ_=>n+m+1) F)[k]? =some (vq (n+m+1) (F k)):=gj hk;have g2:(vq (n+m+1) (F k))[c]? =some (qn (F k c)):=jL hc;have e:=(((h.f k hk c).rep h.l1).canon ξ).1;have s:=OT (h:=λi=>F i c) hk;have hl:(vq k (λi=>F i c)++List.replicate (m-k) qz).length=m:=AY ξ;rw[<-s];generalize vq k (λi=>F i c)++List.replicate (m-k) qz=l at*;clear s;show(some (decide ((k:Int)<(m:Int)))).bind _=_;generalize qn (F k c)=q at*;obtain⟨⟨_,_⟩,⟨_,_⟩⟩:=q;exact aC (dT ξ)<|bY Y<|aC (bH g1)<|aC (bH g2)<|aC e<|aC (cO ξ)<|aC (fK ξ)<|aC (congrArg some (bQ ξ)) Y
 simp only[Nat.sub_self,List.replicate_zero,List.append_nil];exact aC (dF ξ)<|bL Y Y
def sO(n p:Nat)(O:Nat->Nat->Rat)(c:Nat)(i:Nat):Rat:=if c<n then(if i<p then O i c else if i=p+c then-1 else 0)else 0
theorem vE{k j:Nat}{h:Nat->Rat}{x:Rat}(hj:j<k):(vq k h).set j (qn x)=vq k (λi=>if i=j then x else h i):=by
 apply List.ext_getElem?;intro i;rw[List.getElem?_set,cq];by_cases hi:i<k
 ·rw[jL hi];by_cases e:j=i
  ·subst e;rw[if_pos Y,if_pos hj,jL hj,if_pos rfl]
  rw[if_neg e,jL hi,if_neg (λq=>e q.symm)]
 rw[List.getElem?_eq_none (l:=vq k _) (by rw[cq];omega),List.getElem?_eq_none (l:=vq k _) (by rw[cq];omega)];by_cases e:j=i
 ·rw[if_pos e,if_neg ξ]
 rw[if_neg e]
theorem I3(k:Nat):List.replicate k (⟨⟨false,[]⟩,⟨false,[]⟩⟩:Qr)=vq k (λ_=>0):=by
 apply List.ext_getElem?;intro i;by_cases hi:i<k
 ·rw[jL hi,List.getElem?_replicate,if_pos hi];rfl
 rw[List.getElem?_eq_none aH,List.getElem?_eq_none (by rw[cq];omega)]
theorem ady:dU (-1)=some (qn (-1)):=(lB (n:=-1) η).1
theorem one_eq:dU 1=some (qn 1)/\kO 2 (qn 1) 1:=lB (n:=1) η
theorem aaK(h:wW L n m p O F b){c:Nat}(hc:c<n+m):nD (Lx n m p O F b) (c:Int)=some (vq (p+n) (sO n p O c)):=by
 have hm:=h.hm;have hn:=h.hn;have hp:=h.hp;unfold nD;show(some ((mq p (λ_=>n) O).length:Int)).bind _=_;refine aC Y ?_;rw[cM];refine aC (congrArg some (show IntKind.i64.wrap ((p:Int)+(n:Int))=((p+n:Nat):Int) by rw[cQ ξ ξ];omega))<|aC (aaI (p+n) ξ)<|aC Y<|cw ?_;rw[I3];by_cases hcn:c<n
 ·refine bY (decide_eq_true (show(c:Int)<(n:Int) by omega))<|aC Y<|bK (λk=>((k:Int),vq (p+n) (λi=>if i<k then O i c else 0))) p (vq (p+n) (λi=>if i<p then O i c else 0)) θ (λk hk=>?_) ?_ ?_
  ·have g1:(mq p (λ_=>n) O)[k]? =some (vq n (O k)):=gj hk;have g2:(vq n (O k))[c]? =some (qn (O k c)):=jL hcn;have s:=vE (k:=p+n) (j:=k) (h:=λi=>if i<k then O i c else 0) (x:=O k c) ξ;have s2:vq (p+n) (λi=>if i=k then O k c else if i<k then O i c else 0)=vq (p+n) (λi=>if i<k+1 then O i c else 0):=dM (λi _=>by
    by_cases e:i=k
    ·subst e;simp
    rw[if_neg e];by_cases e2:i<k
    ·rw[if_pos e2,if_pos ξ]
    rw[if_neg e2,if_neg ξ])
   rw[s2]at s;have hl:=cq (p+n) (λi=>if i<k then O i c else 0);rw[<-s];generalize vq (p+n) (λi=>if i<k then O i c else 0)=l at*;clear s s2;show(some (decide ((k:Int)<(p:Int)))).bind _=_;generalize qn (O k c)=q at*;obtain⟨⟨_,_⟩,⟨_,_⟩⟩:=q;exact aC (dT ξ)<|bY Y<|aC (bH g1)<|aC (bH g2)<|aC (cO ξ)<|aC (fK ξ)<|aC (congrArg some (bQ ξ)) Y
  ·exact aC (dF ξ)<|bL Y Y
  have s:=vE (k:=p+n) (j:=p+c) (h:=λi=>if i<p then O i c else 0) (x:=-1) ξ;have s2:vq (p+n) (λi=>if i=p+c then(-1:Rat)else if i<p then O i c else 0)=vq (p+n) (sO n p O c):=dM (λi _=>by
   unfold sO;rw[if_pos hcn];by_cases e:i=p+c
   ·rw[if_pos e,if_neg ξ,if_pos e]
   rw[if_neg e,if_neg e])
  rw[s2]at s;have hl:=cq (p+n) (λi=>if i<p then O i c else 0);have e1:=ady;rw[<-s];generalize vq (p+n) (λi=>if i<p then O i c else 0)=l at*;clear s s2;generalize qn (-1)=q at*;obtain⟨⟨_,_⟩,⟨_,_⟩⟩:=q;exact aC Y<|aC (congrArg some (show IntKind.i64.wrap ((p:Int)+(c:Int))=((p+c:Nat):Int) by rw[cQ ξ ξ];omega))<|aC e1<|aC (cO ξ)<|aC (fK ξ) Y
 refine bL (decide_eq_false (show ¬(c:Int)<(n:Int) by omega)) ?_;exact congrArg some (dM (λi _=>by unfold sO;rw[if_neg hcn]))
theorem aaL(h:wW L n m p O F b)(c i:Nat):FQ L (sO n p O c i):=by
 unfold sO;have hl:=h.l1;split
 ·split
  ·exact h.o _ (by assumption) _
  split
  ·exact(FQ.int (i:=-1) (L:=L) (by unfold Fit;exact Nat.lt_of_lt_of_le (by decide:(-1:Int).natAbs<4294967296^1) (Nat.pow_le_pow_right η hl)) hl)
  exact nj hl
 exact nj hl
theorem I4(h:wW L n m p O F b)(c:Nat):eM L (vq (p+n) (sO n p O c)) (sO n p O c):=pG (λi _=>aaL h c i) (λi hi=>by
 unfold sO;split
 ·rw[if_neg ξ,if_neg ξ]
 rfl) h.l1
def pZ(n p:Nat)(O:Nat->Nat->Rat)(b:Nat->Nat)(g:Nat->Rat)(m:Nat)(i:Nat):Rat:=cI (λj=>g j*sO n p O (b j) i) m
theorem ai5{g:Nat->Rat}{k i:Nat}(hi:p+n<=i):pZ n p O b g k i=0:=by
 unfold pZ;rw[dx (k:=λ_=>0) (λj _=>?_),rf];unfold sO;split
 ·rw[if_neg ξ,if_neg ξ];grind
 grind
theorem I5(h:wW L n m p O F b){g:Nat->Rat}(hg:∀j,j<m->FQ L (g j)):∀k,k<=m->∀i,FQ (k*(L+L+1)+1) (pZ n p O b g k i)
 |0,_,i=>by show FQ (0*(L+L+1)+1) (0:Rat);rw[Nat.zero_mul];exact nj η
 |k+1,hk,i=>by
  have e:=(I5 h hg k ξ i).add ((hg k ξ).mul (aaL h (b k) i));exact e.mono (by rw[Nat.succ_mul];generalize k*(L+L+1)=q;omega)
theorem CB(h:wW L n m p O F b){g:Nat->Rat}(hg:∀j,j<m->FQ L (g j)){k:Nat}(hk:k<=m):eM (k*(L+L+1)+1) (vq (p+n) (pZ n p O b g k)) (pZ n p O b g k):=pG (λi _=>I5 h hg k hk i) (λi hi=>ai5 hi) ξ
theorem M1(h:wW L n m p O F b)(hL:(m+1)*(L+L+1)<=2000000000){g:Nat->Rat}(hg:∀j,j<m->FQ L (g j)):mz (Lx n m p O F b) (vq m g)=some (vq (p+n) (pZ n p O b g m)):=by
 have hX:m*(L+L+1)+(L+L+1)<=2000000000:=by rw[<-Nat.succ_mul];exact hL
 have hm:=h.hm;have hn:=h.hn;have hp:=h.hp;have h1:=h.l1;unfold mz;show(some ((mq p (λ_=>n) O).length:Int)).bind _=_;refine aC Y ?_;rw[cM];refine aC (congrArg some (show IntKind.i64.wrap ((p:Int)+(n:Int))=((p+n:Nat):Int) by rw[cQ ξ ξ];omega))<|aC (aaI (p+n) ξ)<|aC (congrArg some (show((vq m g).length:Int)=(m:Int) by rw[cq])) ?_;rw[I3];refine bK (λk=>(vq (p+n) (pZ n p O b g k),(k:Int))) m (vq (p+n) (pZ n p O b g m)) Y (λk hk=>?_) ?_ Y
 ·have g1:(vq m g)[k]? =some (qn (g k)):=jL hk;have g2:=uh (b:=b) hk;have rg:=(hg k hk).rep h1;have sg:=rg.sign ξ;have hbk:=h.hb k hk;have tv:=aaK h hbk;have va:=afM rg (I4 h (b k)) (CB h hg (Nat.le_of_lt hk)) (by have:=Nat.mul_le_mul_right (L+L+1) (show k<=m by omega);omega) (by rw[cq];omega) (by rw[cq];omega);have e0:vq (max (vq (p+n) (sO n p O (b k))).length (vq (p+n) (pZ n p O b g k)).length) (λi=>g k*sO n p O (b k) i+pZ n p O b g k i)=vq (p+n) (pZ n p O b g (k+1)):=by
   rw[cq,cq,Nat.max_self];refine dM (λi _=>?_);show _=cI _ k+_;unfold pZ;grind
  rw[e0]at va;have same:g k*sO n p O (b k) 0=g k*sO n p O (b k) 0:=rfl;have skip:(¬(b k<n)\/g k=0)->vq (p+n) (pZ n p O b g k)=vq (p+n) (pZ n p O b g (k+1)):=λq=>dM (λi _=>by
   show pZ n p O b g k i=cI _ k+_;have:g k*sO n p O (b k) i=0:=by
    rcases q with q|q
    ·unfold sO;rw[if_neg q];grind
    rw[q];grind
   show pZ n p O b g k i=pZ n p O b g k i+g k*sO n p O (b k) i;rw[this];grind)
  replace va:=va.1;show(some (decide ((k:Int)<(m:Int)))).bind _=_;have sgd:(some (decide (pW (g k) 0≠0)):Option Bool)=some (decide (g k≠0)):=by
   congr 1;by_cases q:g k=0
   ·rw[decide_eq_false (by rw[q,Ww];simp),decide_eq_false (by simp[q])]
   rw[decide_eq_true (show pW (g k) 0≠0 from λe=>q (nJ.1 e)),decide_eq_true q]
  generalize hq:qn (g k)=q at*;obtain⟨⟨q1,q2⟩,⟨q3,q4⟩⟩:=q;refine aC (dT ξ)<|bY Y<|aC (bH g1)<|cw<|aC (bH g2)<|aC Y ?_;by_cases Xs:b k<n
  ·refine aC (a:=decide (g k≠0)) (bY (decide_eq_true (show((b k:Nat):Int)<(n:Int) by omega))<|aC sg<|aC sgd Y)<|cw ?_;by_cases h0:g k=0
   ·refine bL (by simp[h0]) ?_;rw[skip (.inr h0)];exact aC (congrArg some (bQ ξ)) Y
   refine bY (by simp[h0]) ?_;exact aC (bH g2)<|aC tv<|aC va<|aC (congrArg some (bQ ξ)) Y
  refine aC (a:=false) (bL (decide_eq_false (show ¬((b k:Nat):Int)<(n:Int) by omega)) Y)<|cw<|bL Y ?_;rw[skip (.inl Xs)];exact aC (congrArg some (bQ ξ)) Y
 exact aC (dF ξ)<|bL Y Y
theorem RR(h:wW L n m p O F b)(hL:L<=4000000000):ju (Lx n m p O F b)=some (vq m (λi=>F i (n+m))):=by
 unfold ju;exact aC (oN n m p O F b)<|bL Y<|aC (Li h.hn h.hm)<|aC (Vm h hL ξ) Y
def sJ(n m p:Nat)(O F:Nat->Nat->Rat)(b:Nat->Nat)(c:Nat)(i:Nat):Rat:=pZ n p O b (λj=>F j c) m i-sO n p O c i
theorem M3(h:wW L n m p O F b)(hL:(m+1)*(L+L+1)<=2000000000){c:Nat}(hc:c<n+m):ee (Lx n m p O F b) (c:Int)=some (vq (p+n) (sJ n m p O F b c))/\eM (m*(L+L+1)+1+L+1) (vq (p+n) (sJ n m p O F b c)) (sJ n m p O F b c):=by
 have hX:m*(L+L+1)+(L+L+1)<=2000000000:=by rw[<-Nat.succ_mul];exact hL
 have hm:=h.hm;have hn:=h.hn;have hp:=h.hp;have w:=M1 h hL (g:=λj=>F j c) (λj hj=>h.f j hj c);have s:=atn (CB h (g:=λj=>F j c) (λj hj=>h.f j hj c) (Nat.le_refl m)) (I4 h c) ξ (by rw[cq];omega) (by rw[cq];omega);rw[cq,cq,Nat.max_self]at s;refine⟨?_,s.2⟩;unfold ee;exact cw<|aC (oN n m p O F b)<|aC (a:=false) (bL Y<|aC (dF ξ) Y)<|aC (a:=false) (bL Y<|aC (Li hn hm)<|aC (dF ξ) Y)<|bL Y<|aC (Vm h ξ ξ)<|aC w<|aC (aaK h hc)<|aC s.1 Y
theorem O1(h:wW L n m p O F b)(hL:(m+1)*(L+L+1)<=2000000000):kW (Lx n m p O F b)=some (vq (p+n) (pZ n p O b (λj=>F j (n+m)) m)):=by
 have hX:m*(L+L+1)+(L+L+1)<=2000000000:=by rw[<-Nat.succ_mul];exact hL
 unfold kW;exact aC (oN n m p O F b)<|bL Y<|aC (RR h ξ)<|aC (M1 h hL (g:=λj=>F j (n+m)) (λj hj=>h.f j hj _)) Y
def rz(n m:Nat)(F:Nat->Nat->Rat)(b:Nat->Nat):Nat->Nat->Rat
 |0,_=>0
 |j+1,i=>if b j<n/\i=b j then F j (n+m)else rz n m F b j i
theorem G0(h:wW L n m p O F b)(hL:L<=4000000000):gY (Lx n m p O F b)=some (vq n (rz n m F b m)):=by
 have hm:=h.hm;have hn:=h.hn;unfold gY;refine aC (oN n m p O F b)<|bL Y<|aC (aaI n ξ)<|aC (RR h hL)<|aC (congrArg some (show((vq m _).length:Int)=(m:Int) by rw[cq])) ?_;rw[I3];refine bK (λk=>((k:Int),vq n (rz n m F b k))) m (vq n (rz n m F b m)) Y (λk hk=>?_) ?_ Y
 ·have g1:(vq m (λi=>F i (n+m)))[k]? =some (qn (F k (n+m))):=jL hk;have g2:=uh (b:=b) hk;have hl:=cq n (rz n m F b k);show(some (decide ((k:Int)<(m:Int)))).bind _=_;by_cases Xs:b k<n
  ·have s:=vE (k:=n) (j:=b k) (h:=rz n m F b k) (x:=F k (n+m)) Xs;have s2:vq n (λi=>if i=b k then F k (n+m)else rz n m F b k i)=vq n (rz n m F b (k+1)):=dM (λi _=>by
    show _=if b k<n/\i=b k then _ else _;by_cases e:i=b k
    ·rw[if_pos e,if_pos ⟨Xs,e⟩]
    rw[if_neg e,if_neg (λq=>e q.2)])
   rw[s2]at s;rw[<-s];clear s s2;generalize vq n (rz n m F b k)=l at*;generalize qn (F k (n+m))=q at*;obtain⟨⟨_,_⟩,⟨_,_⟩⟩:=q;exact aC (dT ξ)<|bY Y<|aC (bH g1)<|aC (bH g2)<|aC Y<|cw<|bY (decide_eq_true (show((b k:Nat):Int)<(n:Int) by omega))<|aC (bH g2)<|aC (cO ξ)<|aC (fK ξ)<|aC (congrArg some (bQ ξ)) Y
  have s2:vq n (rz n m F b k)=vq n (rz n m F b (k+1)):=dM (λi _=>by
   show _=if b k<n/\i=b k then _ else _;rw[if_neg (λq=>Xs q.1)])
  rw[<-s2];generalize qn (F k (n+m))=q at*;obtain⟨⟨_,_⟩,⟨_,_⟩⟩:=q;exact aC (dT ξ)<|bY Y<|aC (bH g1)<|aC (bH g2)<|aC Y<|cw<|bL (decide_eq_false (show ¬((b k:Nat):Int)<(n:Int) by omega))<|aC (congrArg some (bQ ξ)) Y
 exact aC (dF ξ)<|bL Y Y
theorem M4(h:wW L n m p O F b)(hL:L<=4000000000):kj (Lx n m p O F b)=some (decide (∀i,i<m->0<=F i (n+m))):=by
 have hm:=h.hm;unfold kj;refine aC (oN n m p O F b)<|bL Y<|aC (RR h hL)<|aC (congrArg some (show((vq m _).length:Int)=(m:Int) by rw[cq]))<|aC (ug (n:=m) (p:=λi=>0<=F i (n+m)) (e:=false) (λk hk=>?_) (aC (dF ξ)<|bL Y Y)) ?_
 ·have g1:(vq m (λi=>F i (n+m)))[k]? =some (qn (F k (n+m))):=jL hk;have sg:=((h.f k hk (n+m)).rep h.l1).sign ξ;generalize qn (F k (n+m))=q at*;obtain⟨⟨_,_⟩,⟨_,_⟩⟩:=q;refine aC (dT ξ)<|bY Y<|aC (bH g1)<|aC sg<|aC Y ?_;by_cases q:F k (n+m)<0
  ·rw[if_neg (by grind)];exact bY (decide_eq_true (FP.2 q)) Y
  rw[if_pos (by grind)];exact bL (decide_eq_false (λe=>q (FP.1 e)))<|aC (congrArg some (bQ ξ)) Y
 by_cases q:∀i,i<m->0<=F i (n+m)
 ·rw[if_pos q,decide_eq_true q]
 rw[if_neg q,decide_eq_false q]
theorem Lj(h:wW L n m p O F b)(hL:(m+1)*(L+L+1)<=2000000000):jP (Lx n m p O F b)=some (decide (∀c,c<n+m->0<=oK (sJ n m p O F b c) (λ_=>0) (p+n))):=by
 have hX:m*(L+L+1)+(L+L+1)<=2000000000:=by rw[<-Nat.succ_mul];exact hL
 have hm:=h.hm;have hn:=h.hn;unfold jP;refine aC (oN n m p O F b)<|bL Y ?_;have hw:(IntKind.i64.wrap (Tb.vars (Lx n m p O F b)+((Tb.rows (Lx n m p O F b)).length:Int))).toNat=n+m:=by
  show(IntKind.i64.wrap ((n:Int)+((mq m (λ_=>n+m+1) F).length:Int))).toNat=_;rw[cM,cQ ξ ξ];omega
 refine aC (a:=if ∀c,c<n+m->0<=oK (sJ n m p O F b c) (λ_=>0) (p+n)then .inl ()else .inr false) ?_ ?_
 ·refine Eq.trans (congrArg (λk=>w7 _ k ()) hw)<|T0 (n:=n+m) (p:=λc=>0<=oK (sJ n m p O F b c) (λ_=>0) (p+n)) (e:=false) (λk hk=>?_);obtain⟨e,r⟩:=M3 h hL hk;have sg:=amG r ξ;rw[cq]at sg;refine aC Y<|aC e<|aC sg<|aC Y ?_;by_cases q:0<=oK (sJ n m p O F b k) (λ_=>0) (p+n)
  ·rw[if_pos q];exact bL (decide_eq_false ξ) Y
  rw[if_neg q];exact bY (decide_eq_true ξ) Y
 by_cases q:∀c,c<n+m->0<=oK (sJ n m p O F b c) (λ_=>0) (p+n)
 ·rw[if_pos q,decide_eq_true q]
 rw[if_neg q,decide_eq_false q]
end tab
end
section
open Go.Fw
def ku(F:Nat->Nat->Rat)(r c i k:Nat):Rat:=if i=r then F r k/F r c else F i k-F i c*(F r k/F r c)
section tab
variable {L n m p:Nat}{O F:Nat->Nat->Rat}{b:Nat->Nat}
theorem aaM(h:wW L n m p O F b){r c:Nat}(hr:r<m)(h0:F r c≠0){i:Nat}(hi:i<m)(k:Nat):FQ (4*L+1) (ku F r c i k):=by
 have e:=(h.f r hr k).div (h.f r hr c) h0;unfold ku;split
 ·exact e.mono ξ
 exact((h.f i hi k).sub ((h.f i hi c).mul e)).mono ξ
theorem afQ(h:wW L n m p O F b){r i:Nat}(hr:r<m)(c:Nat)(hi:i<m){k:Nat}(hk:n+m+1<=k):ku F r c i k=0:=by
 unfold ku;rw[h.z r hr k hk,h.z i hi k hk];have e:(0:Rat)/F r c=0:=by rw[Rat.div_def,Rat.zero_mul]
 rw[e];split
 ·rfl
 grind
theorem O2(h:wW L n m p O F b){r c:Nat}(hr:r<m)(hc:c<n+m)(h0:F r c≠0):wW (4*L+1) n m p O (ku F r c) (λj=>if j=r then c else b j):=
 ⟨λi hi k=>aaM h hr h0 hi k,λi hi k=>(h.o i hi k).mono ξ,λi hi k hk=>afQ h hr c hi hk,by omega,h.hn,h.hm,h.hp,λj hj=>by
  show(if j=r then c else b j)<n+m;split
  ·exact hc
  exact h.hb j hj⟩
theorem adz(h:wW L n m p O F b)(hL:L<=100000000){r c:Nat}(hr:r<m)(hc:c<n+m+1)(h0:F r c≠0){o0:Bool}{o1:Int}{o2 rows:List (List Qr)}{o3:List Int}(hrow:rows[r]? =some (vq (n+m+1) (ku F r c r))){i:Nat}(hi:i<m)(hne:i≠r):
  oW o0 o1 o2 o3 rows (vq (n+m+1) (F i)) c r=some (vq (n+m+1) (ku F r c i)):=by
 have hm:=h.hm;have hn:=h.hn;have h1:=h.l1;have g1:(vq (n+m+1) (F i))[c]? =some (qn (F i c)):=jL hc;have rq:=(h.f i hi c).rep h1;have sg:=rq.sign ξ;have ng:=rq.neg ξ;have Sh:r<rows.length:=(List.getElem?_eq_some_iff.1 hrow).1;have va:=afM ng.2 (pG (n:=n+m+1) (h:=ku F r c r) (λk _=>aaM h hr h0 hr k) (λk hk=>afQ h hr c hr hk) (show 1<=4*L+1 by omega)) (ai4 h hi) ξ (by rw[cq];omega) (by rw[cq];omega);have e0:vq (max (vq (n+m+1) (ku F r c r)).length (vq (n+m+1) (F i)).length) (λk=>-F i c*ku F r c r k+F i k)=vq (n+m+1) (ku F r c i):=by
  rw[cq,cq,Nat.max_self];refine dM (λk _=>?_);unfold ku;rw[if_pos Y,if_neg hne];grind
 rw[e0]at va;replace va:=va.1;have same:F i c=0->vq (n+m+1) (F i)=vq (n+m+1) (ku F r c i):=λq=>dM (λk _=>by
  unfold ku;rw[if_neg hne,q];grind)
 have sgd:(some (decide (pW (F i c) 0=0)):Option Bool)=some (decide (F i c=0)):=by
  congr 1;by_cases q:F i c=0
  ·rw[decide_eq_true (show pW (F i c) 0=0 from nJ.2 q),decide_eq_true q]
  rw[decide_eq_false (show ¬pW (F i c) 0=0 from λe=>q (nJ.1 e)),decide_eq_false q]
 unfold oW;replace ng:=ng.1;generalize qn (F i c)=q at*;generalize qn (-F i c)=q' at*;obtain⟨⟨_,_⟩,⟨_,_⟩⟩:=q;obtain⟨⟨_,_⟩,⟨_,_⟩⟩:=q';refine aC (bH g1)<|aC sg<|aC sgd ?_;by_cases q:F i c=0
 ·rw[<-same q];exact bY (decide_eq_true q) Y
 exact bL (decide_eq_false q)<|aC (bH g1)<|aC ng<|aC (cO Sh)<|aC hrow<|aC va Y
theorem aaN{w r:Nat}{G:Nat->Nat->Rat}{f:Nat->Rat}(hr:r<m):(mq m (λ_=>w) G).set r (vq w f)=mq m (λ_=>w) (λi=>if i=r then f else G i):=by
 apply List.ext_getElem?;intro j;rw[List.getElem?_set,cM];by_cases hj:j<m
 ·rw[gj hj];by_cases e:r=j
  ·subst e;rw[if_pos Y,if_pos hr,gj hr,if_pos rfl]
  rw[if_neg e,gj hj,if_neg (λq=>e q.symm)]
 rw[List.getElem?_eq_none (l:=mq m _ _) (by rw[cM];omega),List.getElem?_eq_none (l:=mq m _ _) (by rw[cM];omega)];by_cases e:r=j
 ·rw[if_pos e,if_neg ξ]
 rw[if_neg e]
theorem ai6(h:wW L n m p O F b)(hL:L<=100000000){r c:Nat}(hr:r<m)(hc:c<n+m+1)(h0:F r c≠0){o0:Bool}{o1:Int}{o2:List (List Qr)}{o3:List Int}:
  fB o0 o1 o2 o3 (mq m (λ_=>n+m+1) F) r c=some (o2,o3,mq m (λ_=>n+m+1) (ku F r c)):=by
 have hm:=h.hm;have hn:=h.hn;have h1:=h.l1;have g1:(mq m (λ_=>n+m+1) F)[r]? =some (vq (n+m+1) (F r)):=gj hr;have Sh:r<(mq m (λ_=>n+m+1) F).length:=by rw[cM];exact hr
 have g2:(vq (n+m+1) (F r))[c]? =some (qn (F r c)):=jL hc;have dv:=one_eq.2.div ((h.f r hr c).rep h1) ξ h0;have sc:=(aiX dv.2 (ai4 h hr) ξ (by rw[cq];omega)).1;rw[cq]at sc;have e0:vq (n+m+1) (λk=>1/F r c*F r k)=vq (n+m+1) (ku F r c r):=dM (λk _=>by
  unfold ku;rw[if_pos Y,Rat.div_def,Rat.div_def];grind)
 rw[e0]at sc;have st:=fK (y:=vq (n+m+1) (ku F r c r)) Sh;rw[aaN hr]at st;have e1:=one_eq.1;replace dv:=dv.1;have loop:∀(o:List (List Qr)->Option ((List (List Qr))×(List Int)×(List (List Qr)))),o (mq m (λ_=>n+m+1) (ku F r c))=some (o2,o3,mq m (λ_=>n+m+1) (ku F r c))->((cm (λ(vF:Int×(List (List Qr)))=>match vF with|⟨yB,kz⟩=>(show Option ((Int×(List (List Qr)))⊕((List (List Qr))))from(some (decide ((yB:Int)<(m:Int)))).bind λLw=>(bif Lw then(qK kz yB).bind λAo=>(kz[Ao]?).bind λLs=>(some (decide ((yB:Int)≠(r:Int)))).bind λSc=>cX (λ(Cc:(List (List Qr)))=>(some (IntKind.i64.wrap (yB+1))).bind λx70=>some (.inl (x70,Cc))) λK15=>(bif Sc then(oW o0 o1 o2 o3 kz Ls c r).bind λSd=>(qK kz yB).bind λXL=>(stM kz XL Sd).bind λl17=>K15 l17 else K15 kz)else some (.inr kz)))) (0,mq m (λ_=>n+m+1) (λi=>if i=r then ku F r c r else F i))).bind o)=some (o2,o3,mq m (λ_=>n+m+1) (ku F r c)):=λo ho=>by
  refine bK (λk=>((k:Int),mq m (λ_=>n+m+1) (λi=>if i=r\/i<k then ku F r c i else F i))) m (mq m (λ_=>n+m+1) (ku F r c)) ?_ (λk hk=>?_) ?_ ho
  ·refine Prod.ext Y (lC (λi hi=>⟨Y,λk _=>?_⟩));by_cases e:i=r
   ·subst e;simp
   simp[e]
  ·have gk:(mq m (λ_=>n+m+1) (λi=>if i=r\/i<k then ku F r c i else F i))[k]? =some (vq (n+m+1) (if k=r then ku F r c k else F k)):=by
    rw[gj hk];congr 2;by_cases e:k=r
    ·rw[if_pos (.inl e),if_pos e]
    rw[if_neg ξ,if_neg e]
   have hl:(mq m (λ_=>n+m+1) (λi=>if i=r\/i<k then ku F r c i else F i)).length=m:=cM _ _ _;have gr:(mq m (λ_=>n+m+1) (λi=>if i=r\/i<k then ku F r c i else F i))[r]? =some (vq (n+m+1) (ku F r c r)):=by
    rw[gj hr,if_pos (.inl Y)]
   by_cases e:k=r
   ·have s:mq m (λ_=>n+m+1) (λi=>if i=r\/i<k then ku F r c i else F i)=mq m (λ_=>n+m+1) (λi=>if i=r\/i<k+1 then ku F r c i else F i):=lC (λi _=>⟨Y,λ_ _=>by
     by_cases q:i=r\/i<k
     ·rw[if_pos q,if_pos ξ]
     rw[if_neg q,if_neg ξ]⟩)
    show(some (decide ((k:Int)<(m:Int)))).bind _=_;refine aC (dT ξ)<|bY Y<|aC (cO ξ)<|aC gk<|aC (dF ξ)<|cw<|bL Y<|aC (congrArg some (bQ ξ)) ?_;rw[s]
   rw[if_neg e]at gk;have rm:=adz h hL hr hc h0 (o0:=o0) (o1:=o1) (o2:=o2) (o3:=o3) gr hk e;have s:(mq m (λ_=>n+m+1) (λi=>if i=r\/i<k then ku F r c i else F i)).set k (vq (n+m+1) (ku F r c k))=mq m (λ_=>n+m+1) (λi=>if i=r\/i<k+1 then ku F r c i else F i):=by
    rw[aaN hk];refine lC (λi _=>⟨Y,λ_ _=>?_⟩);by_cases q:i=k
    ·subst q;rw[if_pos Y,if_pos (.inr ξ)]
    rw[if_neg q];by_cases q2:i=r\/i<k
    ·rw[if_pos q2,if_pos ξ]
    rw[if_neg q2,if_neg ξ]
   rw[<-s];generalize mq m (λ_=>n+m+1) (λi=>if i=r\/i<k then ku F r c i else F i)=rows at*;show(some (decide ((k:Int)<(m:Int)))).bind _=_;exact aC (dT ξ)<|bY Y<|aC (cO ξ)<|aC gk<|aC (dT ξ)<|cw<|bY Y<|aC rm<|aC (cO ξ)<|aC (fK ξ)<|aC (congrArg some (bQ ξ)) Y
  have s:mq m (λ_=>n+m+1) (λi=>if i=r\/i<m then ku F r c i else F i)=mq m (λ_=>n+m+1) (ku F r c):=lC (λi hi=>⟨Y,λ_ _=>by rw[if_pos (.inr hi)]⟩);show(some (decide ((m:Int)<(m:Int)))).bind _=_;rw[s];exact aC (dF ξ)<|bL Y Y
 unfold fB;have scM:ve (vq (n+m+1) (F r)) (qn (1/F r c))=some (vq (n+m+1) (ku F r c r)):=by
  unfold ve;generalize qn (1/F r c)=q at*;obtain⟨⟨_,_⟩,⟨_,_⟩⟩:=q;exact aC sc Y
 generalize qn (1/F r c)=q3 at*;generalize qn (F r c)=q2 at*;generalize qn 1=q1 at*;obtain⟨⟨_,_⟩,⟨_,_⟩⟩:=q1;obtain⟨⟨_,_⟩,⟨_,_⟩⟩:=q2;obtain⟨⟨_,_⟩,⟨_,_⟩⟩:=q3;refine aC e1<|aC (cO Sh)<|aC g1<|aC (bH g2)<|aC dv<|aC (cO Sh)<|aC g1<|aC scM<|aC (cO Sh)<|aC st<|aC (congrArg some (by rw[cM]))<|Eq.trans (congrArg (λG=>(cm _ ((0:Int),mq m (λ_=>n+m+1) G)).bind _) ?_) (loop _ Y);funext i;by_cases e:i=r
 ·rw[if_pos e]
 rw[if_neg e]
theorem T1(h:wW L n m p O F b)(hL:L<=100000000){r c:Nat}(hr:r<m)(hc:c<n+m)(hb:∀j,j<m->b j≠c)(h0:F r c≠0):
  cg true n (mq p (λ_=>n) O) (bq m b) (mq m (λ_=>n+m+1) F) r c=some (0,mq p (λ_=>n) O,bq m (λj=>if j=r then c else b j),mq m (λ_=>n+m+1) (ku F r c)):=by
 have hm:=h.hm;have hn:=h.hn;have sv:=ai6 h hL hr (show c<n+m+1 by omega) h0 (o0:=true) (o1:=(n:Int)) (o2:=mq p (λ_=>n) O) (o3:=bq m b);have g1:(mq m (λ_=>n+m+1) F)[r]? =some (vq (n+m+1) (F r)):=gj hr;have g2:(vq (n+m+1) (F r))[c]? =some (qn (F r c)):=jL ξ;have sg:=((h.f r hr c).rep h.l1).sign ξ;have Sh:r<(mq m (λ_=>n+m+1) F).length:=by rw[cM];exact hr
 have Jj:=qG m b;have bs:=aaJ (b:=b) (c:=c) hr;have bg:∀j,j<m->(bq m b)[j]? =some ((b j:Nat):Int):=λj hj=>uh hj;have wd:gI (⟨true,(n:Int),mq p (λ_=>n) O,bq m b,mq m (λ_=>n+m+1) F⟩:Tb)=some ((n+m:Nat):Int):=Li hn hm;have ms:di (⟨true,(n:Int),mq p (λ_=>n) O,bq m b,mq m (λ_=>n+m+1) F⟩:Tb)=some false:=oN n m p O F b;have rl:=cM m (λ_=>n+m+1) F;unfold cg;rw[<-bs];generalize bq m b=B at*;generalize mq m (λ_=>n+m+1) F=rows at*;refine aC ms<|bL Y<|cw<|aC (dF ξ)<|aC (a:=false) (bL Y<|aC Y<|aC (dF ξ) Y)<|aC (a:=false) (bL Y<|aC (dF ξ) Y)<|aC (a:=false) (bL Y<|aC wd<|aC (dF ξ) Y)<|bL Y<|aC Y<|bK (λk=>(k:Int)) m (.inl ()) Y (λk hk=>?_) ?_ ?_
 ·exact aC (dT ξ)<|bY Y<|aC (cO ξ)<|aC (bg k hk)<|aC (dF (by have:=hb k hk;omega))<|bL Y<|aC (congrArg some (bQ ξ)) Y
 ·exact aC (dF ξ)<|bL Y Y
 generalize qn (F r c)=q at*;obtain⟨⟨_,_⟩,⟨_,_⟩⟩:=q;exact aC (cO Sh)<|aC g1<|aC (bH g2)<|aC sg<|aC (dF (λe=>h0 (nJ.1 e)))<|bL Y<|aC sv<|aC (cO ξ)<|aC (fK ξ) Y
end tab
def uj(n m:Nat)(R:Nat->Nat->Rat)(g:Nat->Rat)(i k:Nat):Rat:=if k<n then R i k else if k=n+i then 1 else if k=n+m then g i else 0
theorem uH(k w:Nat)(G:Nat->Nat->Rat):mq (k+1) (λ_=>w) G=mq k (λ_=>w) G++[vq w (G k)]:=by simp[mq,List.range_succ]
section new
variable {L M K n:Nat}{ob rw:List (List Qr)}{bd:List Qr}{O R:Nat->Nat->Rat}{g:Nat->Rat}
theorem aaO{m i:Nat}(hi:i<m):(λj=>if j=n+m then g i else if j=n+i then(1:Rat)else if j<n then R i j else 0)=uj n m R g i:=by
 funext j;unfold uj;by_cases h1:j<n
 ·rw[if_neg ξ,if_neg ξ,if_pos h1,if_pos h1]
 rw[if_neg h1,if_neg h1];by_cases h2:j=n+i
 ·rw[if_neg ξ,if_pos h2,if_pos h2]
 rw[if_neg h2,if_neg h2]
theorem atD(ho:kE M ob O)(hr:kE L rw R)(hb:eM K bd g)(hM:M<=4000000000)(hL:L<=4000000000)(hK:K<=4000000000)(hv:MZ n ob rw bd):
  ek ⟨(n:Int),ob,rw,bd⟩=some (true,(n:Int),mq ob.length (λ_=>n) O,bq rw.length (λj=>n+j),mq rw.length (λ_=>n+rw.length+1) (uj n rw.length R g)):=by
 obtain⟨v1,v2,v3,v4,v5,v6,v7,v8⟩:=hv;have n64:n<=64:=by omega
 have atE:∀v∈ob,v.length<=n:=oM.1 ξ;unfold ek;refine aC Y<|bK (λk=>((k:Int),mq k (λ_=>n) O)) ob.length (mq ob.length (λ_=>n) O) Y (λk hk=>?_) ?_ ?_
 ·have g1:=ic (d:=[]) hk;have rs:=Vh (ho.row k) ξ (by have:=atE _ (List.mem_of_getElem? g1);omega) (n:Int);rw[show(min (n:Int) 65536).toNat=n by omega]at rs;refine aC (dT ξ)<|bY Y<|aC (bH g1)<|aC rs<|aC (nh η (by rw[cM];omega))<|aC (congrArg some (bQ ξ)) ?_;rw[uH]
 ·exact aC (dF ξ)<|bL Y Y
 refine aC Y<|bK (λk=>((k:Int),bq k (λj=>n+j),mq k (λ_=>n+rw.length+1) (uj n rw.length R g))) rw.length (bq rw.length (λj=>n+j),mq rw.length (λ_=>n+rw.length+1) (uj n rw.length R g)) Y (λi hi=>?_) (aC (dF ξ)<|bL Y Y) Y;obtain⟨q,hq,rq⟩:=hb.get (i:=i) ξ;have cn:=(rq.canon ξ).1;have e1:=one_eq.1;have wl:IntKind.i64.wrap ((n:Int)+(rw.length:Int))=((n+rw.length:Nat):Int):=by rw[cQ ξ ξ];omega
 have wl2:IntKind.i64.wrap (((n+rw.length:Nat):Int)+1)=((n+rw.length+1:Nat):Int):=bQ ξ;have wi:IntKind.i64.wrap ((n:Int)+(i:Int))=((n+i:Nat):Int):=by rw[cQ ξ ξ];omega
 refine aC (dT ξ)<|bY Y<|aC Y<|aC (congrArg some wl)<|aC (congrArg some wl2)<|aC (aaI (n+rw.length+1) ξ) ?_;rw[I3];refine bK (λk=>((k:Int),vq (n+rw.length+1) (λj=>if j<k then R i j else 0))) n (vq (n+rw.length+1) (λj=>if j<n then R i j else 0)) θ (λk hk=>?_) (aC (dF ξ)<|bL Y Y) ?_
 ·have at_:=ai2 hr ξ i k;have s:=vE (k:=n+rw.length+1) (j:=k) (h:=λj=>if j<k then R i j else 0) (x:=R i k) ξ;have s2:vq (n+rw.length+1) (λj=>if j=k then R i k else if j<k then R i j else 0)=vq (n+rw.length+1) (λj=>if j<k+1 then R i j else 0):=dM (λj _=>by
   by_cases e:j=k
   ·subst e;simp
   rw[if_neg e];by_cases e2:j<k
   ·rw[if_pos e2,if_pos ξ]
   rw[if_neg e2,if_neg ξ])
  rw[s2]at s;have hl:=cq (n+rw.length+1) (λj=>if j<k then R i j else 0);rw[<-s];generalize vq (n+rw.length+1) (λj=>if j<k then R i j else 0)=l at*;clear s s2;generalize qn (R i k)=q at*;obtain⟨⟨_,_⟩,⟨_,_⟩⟩:=q;exact aC (dT ξ)<|bY Y<|aC at_<|aC (cO ξ)<|aC (fK ξ)<|aC (congrArg some (bQ ξ)) Y
 have s1:=vE (k:=n+rw.length+1) (j:=n+i) (h:=λj=>if j<n then R i j else 0) (x:=1) ξ;have s2:=vE (k:=n+rw.length+1) (j:=n+rw.length) (h:=λj=>if j=n+i then 1 else if j<n then R i j else 0) (x:=g i) ξ;rw[aaO hi]at s2;have hl1:=cq (n+rw.length+1) (λj=>if j<n then R i j else 0);have hl2:=cq (n+rw.length+1) (λj=>if j=n+i then 1 else if j<n then R i j else 0);have b1:=qG i (λj=>n+j);have b2:=O0 i (λj=>n+j);have m1:=cM i (λ_=>n+rw.length+1) (uj n rw.length R g);have m2:=uH i (n+rw.length+1) (uj n rw.length R g);have st1:=fK (y:=qn 1) (show n+i<(vq (n+rw.length+1) (λj=>if j<n then R i j else 0)).length by omega);have st2:=fK (y:=qn (g i)) (show n+rw.length<(vq (n+rw.length+1) (λj=>if j=n+i then 1 else if j<n then R i j else 0)).length by omega);rw[s1]at st1;rw[s2]at st2;generalize vq (n+rw.length+1) (λj=>if j<n then R i j else 0)=l1 at*;generalize vq (n+rw.length+1) (λj=>if j=n+i then 1 else if j<n then R i j else 0)=l2 at*;generalize vq (n+rw.length+1) (uj n rw.length R g i)=l3 at*;generalize qn (g i)=q' at*;generalize qn 1=q1 at*;obtain⟨⟨_,_⟩,⟨_,_⟩⟩:=q;obtain⟨⟨_,_⟩,⟨_,_⟩⟩:=q';obtain⟨⟨_,_⟩,⟨_,_⟩⟩:=q1
 refine aC (congrArg some wi)<|aC e1<|aC (cO ξ)<|aC st1<|aC Y<|aC (congrArg some (show IntKind.i64.wrap ((l2.length:Int)-1)=((n+rw.length:Nat):Int) by rw[hl2,cQ ξ ξ];omega))<|aC (bH hq)<|aC cn<|aC (cO ξ)<|aC st2<|aC (nh η ξ)<|aC (congrArg some wi)<|aC (nh η ξ)<|aC (congrArg some (bQ ξ)) ?_;rw[b2,m2]
theorem Vn(ho:kE L ob O)(hr:kE L rw R)(hb:eM L bd g)(hL:2<=L)(hv:MZ n ob rw bd):wW L n rw.length ob.length O (uj n rw.length R g) (λj=>n+j):=by
 obtain⟨v1,v2,v3,v4,v5,v6,v7,v8⟩:=hv;refine⟨λi hi k=>?_,λi hi k=>(ho.row i).fq k,λi hi k hk=>?_,by omega,by omega,by omega,by omega,λj hj=>by show n+j<_;omega⟩
 ·unfold uj;split
  ·exact(hr.row i).fq k
  split
  ·exact one_eq.2.fq.mono hL
  split
  ·exact hb.fq i
  exact nj ξ
 unfold uj;rw[if_neg ξ,if_neg ξ,if_neg ξ]
theorem amN(ho:kE M ob O)(hr:kE L rw R)(hb:eM K bd g)(hM:M<=4000000000)(hL:L<=4000000000)(hK:K<=4000000000)(hv:MZ n ob rw bd):
  iX ⟨(n:Int),ob,rw,bd⟩=some (true,(n:Int),mq ob.length (λ_=>n) O,bq rw.length (λj=>n+j),mq rw.length (λ_=>n+rw.length+1) (uj n rw.length R g)):=by
 have v:=RQ (n:=(n:Int)) (ob:=ob) (rw:=rw) (bd:=bd) (by obtain⟨_,_,_,h,_⟩:=hv;omega) (by obtain⟨_,_,_,_,h,_⟩:=hv;omega);rw[decide_eq_true hv]at v;unfold iX;exact aC v<|aC Y<|bL Y<|aC (atD ho hr hb hM hL hK hv) Y
end new
end
section
open Go.Fw
theorem Ae(h:Nat->Nat->Rat)(m:Nat):∀n,cI (λi=>cI (λj=>h i j) m) n=cI (λj=>cI (λi=>h i j) n) m
 |0=>by
  show(0:Rat)=cI (λj=>(0:Rat)) m;rw[rf]
 |n+1=>by
  show cI (λi=>cI (λj=>h i j) m) n+cI (λj=>h n j) m=cI (λj=>cI (λi=>h i j) n+h n j) m;rw[Ae h m n,FR]
def F0(n m:Nat)(F:Nat->Nat->Rat)(z:Nat->Rat):Prop:=∀i,i<m->cI (λk=>F i k*z k) (n+m)=F i (n+m)
def Uc(m:Nat)(F:Nat->Nat->Rat)(b:Nat->Nat):Prop:=∀i j,i<m->j<m->F i (b j)=if i=j then 1 else 0
section ku
variable {n m r c:Nat}{F:Nat->Nat->Rat}{b:Nat->Nat}{z:Nat->Rat}
theorem CY(N:Nat):cI (λk=>ku F r c r k*z k) N=(F r c)⁻¹*cI (λk=>F r k*z k) N:=by
 rw[<-pY];refine dx (λk _=>?_);unfold ku;rw[if_pos Y,Rat.div_def];grind
theorem CZ{i:Nat}(hne:i≠r)(N:Nat):cI (λk=>ku F r c i k*z k) N=cI (λk=>F i k*z k) N-F i c*((F r c)⁻¹*cI (λk=>F r k*z k) N):=by
 rw[<-pY,<-pY,<-Cz];refine dx (λk _=>?_);unfold ku;rw[if_neg hne,Rat.div_def];grind
theorem Vo(hr:r<m)(h0:F r c≠0):F0 n m (ku F r c) z↔F0 n m F z:=by
 have hi:F r c*(F r c)⁻¹=1:=Rat.mul_inv_cancel _ h0;have pr:ku F r c r (n+m)=(F r c)⁻¹*F r (n+m):=by unfold ku;rw[if_pos Y,Rat.div_def];grind
 have pi:∀i,i≠r->ku F r c i (n+m)=F i (n+m)-F i c*((F r c)⁻¹*F r (n+m)):=λi h=>by unfold ku;rw[if_neg h,Rat.div_def];grind
 constructor
 ·intro h;have e:=h r hr;rw[CY,pr]at e;have er:cI (λk=>F r k*z k) (n+m)=F r (n+m):=by
   have:=congrArg (λx=>F r c*x) e;simp only[<-Rat.mul_assoc,hi,Rat.one_mul]at this;exact this
  intro i hi';by_cases q:i=r
  ·subst q;exact er
  have e2:=h i hi';rw[CZ q,pi i q,er]at e2;grind
 intro h i hi';by_cases q:i=r
 ·subst q;rw[CY,pr,h _ hi']
 rw[CZ q,pi i q,h i hi',h r hr]
theorem RU(hr:r<m)(h0:F r c≠0)(hu:Uc m F b):Uc m (ku F r c) (λj=>if j=r then c else b j):=by
 have hi:F r c*(F r c)⁻¹=1:=Rat.mul_inv_cancel _ h0;intro i j hi' hj;show ku F r c i (if j=r then c else b j)=_;by_cases e:j=r
 ·subst e;rw[if_pos rfl];unfold ku;by_cases q:i=j
  ·subst q;rw[if_pos Y,if_pos Y,Rat.div_def];exact hi
  rw[if_neg q,if_neg q,Rat.div_def,hi];grind
 rw[if_neg e];have z0:F r (b j)=0:=by rw[hu r j hr hj,if_neg (λq=>e q.symm)]
 unfold ku;rw[z0];by_cases q:i=r
 ·subst q;rw[if_pos Y,if_neg (λq=>e q.symm),Rat.div_def];grind
 rw[if_neg q,hu i j hi' hj,Rat.div_def];grind
theorem ai7(hu:Uc m F b){i j:Nat}(hi:i<m)(hj:j<m)(e:b i=b j):i=j:=by
 by_cases q:i=j
 ·exact q
 have h1:=hu i i hi hi;have h2:=hu i j hi hj;rw[if_pos rfl]at h1;rw[if_neg q,<-e,h1]at h2;exact absurd h2 η
end ku
theorem wW.mono{L M n m p:Nat}{O F:Nat->Nat->Rat}{b:Nat->Nat}(h:wW L n m p O F b)(hl:L<=M):wW M n m p O F b:=
 ⟨λi hi k=>(h.f i hi k).mono hl,λi hi k=>(h.o i hi k).mono hl,h.z,Nat.le_trans h.l1 hl,h.hn,h.hm,h.hp,h.hb⟩
end
section
open Go.Fw
theorem aaP(k:List Int):Nj (List.replicate k.length 0) k=k:=by unfold Nj;simp
theorem T3{n m p:Nat}{O F:Nat->Nat->Rat}{b:Nat->Nat}(hm:m<=128):jO (Lx n m p O F b)=some (bq m b):=by
 unfold jO;refine aC (oN n m p O F b)<|bL Y<|aC Y<|aC (za (n:=(bq m b).length) η (by rw[qG];omega)) ?_;show some (Nj (List.replicate (bq m b).length 0) (bq m b))=_;rw[aaP]
theorem M5(l:List Int)(h:l.length<=1000000):o9 l l=some true:=by
 unfold o9;refine aC Y<|aC Y<|aC (dF θ)<|bL Y<|bK (λk=>(k:Int)) l.length (.inl ()) Y (λk hk=>?_) (aC Y<|aC (dF ξ)<|bL Y Y) Y;have g:=List.getElem?_eq_getElem hk;exact aC Y<|aC (dT ξ)<|bY Y<|aC (bH g)<|aC (bH g)<|aC (dF θ)<|bL Y<|aC (congrArg some (bQ ξ)) Y
def exO(i j:Nat):Rat:=(((([[3,5]]:List (List Int)).getD i []).getD j 0:Int):Rat)
def exR(i j:Nat):Rat:=(((([[1,0],[0,2],[3,2]]:List (List Int)).getD i []).getD j 0:Int):Rat)
def exG(i:Nat):Rat:=((([4,12,18]:List Int).getD i 0:Int):Rat)
def WC:Nat->Nat->Rat:=uj 2 3 exR exG
def aaQ:Nat->Nat->Rat:=ku WC 1 1
def ai8:Nat->Nat->Rat:=ku aaQ 2 0
def aaR(j:Nat):Nat:=2+j
def adB(j:Nat):Nat:=if j=1 then 1 else aaR j
def ai9(j:Nat):Nat:=if j=2 then 0 else adB j
theorem yT{L n:Nat}{f:Nat->Rat}{v:List Qr}{k:Nat->Rat}(h:∀i,i<n->FQ L (f i))(h1:1<=L)(hL:L<=1000000000)(hv:eM 2 v k)(hn:v.length=n)(e:∀i,i<n->f i=k i):ig (vq n f) v=some true:=by
 have:=veq (OZ h h1) hv ξ;rw[this,cq,hn,Nat.max_self,decide_eq_true (λi hi=>by rw[OY hi];exact e i hi)]
set_option maxRecDepth 100000 in
theorem aja:iY=some true:=by
 obtain⟨eo,ro⟩:=afP (l:=[[3,5]]) η η;obtain⟨er,rr⟩:=afP (l:=[[1,0],[0,2],[3,2]]) η η;obtain⟨eb,rb⟩:=FX (l:=[4,12,18]) η η;obtain⟨i1,q1⟩:=FX (l:=[-3,1,0]) η η;obtain⟨i2,q2⟩:=FX (l:=[4,6,6]) η η;obtain⟨i3,q3⟩:=FX (l:=[30,0,-6]) η η;obtain⟨i4,q4⟩:=FX (l:=[2,6,2]) η η;obtain⟨i5,q5⟩:=FX (l:=[2,6]) η η;obtain⟨i6,q6⟩:=FX (l:=[36,-2,-6]) η η;have l0:(vq [(4:Int),12,18].length (λi=>(([(4:Int),12,18].getD i 0:Int):Rat))).length=3:=cq _ _;have l1:(vq [(-3:Int),1,0].length (λi=>(([(-3:Int),1,0].getD i 0:Int):Rat))).length=3:=cq _ _;have l2:(vq [(4:Int),6,6].length (λi=>(([(4:Int),6,6].getD i 0:Int):Rat))).length=3:=cq _ _;have l3:(vq [(30:Int),0,-6].length (λi=>(([(30:Int),0,-6].getD i 0:Int):Rat))).length=3:=cq _ _;have l4:(vq [(2:Int),6,2].length (λi=>(([(2:Int),6,2].getD i 0:Int):Rat))).length=3:=cq _ _;have l5:(vq [(2:Int),6].length (λi=>(([(2:Int),6].getD i 0:Int):Rat))).length=2:=cq _ _;have l6:(vq [(36:Int),-2,-6].length (λi=>(([(36:Int),-2,-6].getD i 0:Int):Rat))).length=3:=cq _ _
 generalize hmo:mq [[(3:Int),5]].length _ _=mo at eo ro;generalize hmr:mq [[(1:Int),0],[0,2],[3,2]].length _ _=mr at er rr;generalize vq [(4:Int),12,18].length _=vb at eb rb l0;generalize vq [(-3:Int),1,0].length _=v1 at i1 q1 l1;generalize vq [(4:Int),6,6].length _=v2 at i2 q2 l2;generalize vq [(30:Int),0,-6].length _=v3 at i3 q3 l3;generalize vq [(2:Int),6,2].length _=v4 at i4 q4 l4;generalize vq [(2:Int),6].length _=v5 at i5 q5 l5;generalize vq [(36:Int),-2,-6].length _=v6 at i6 q6 l6;have lo:mo.length=1:=by rw[<-hmo,cM];rfl
 have lr:mr.length=3:=by rw[<-hmr,cM];rfl
 have wo:∀v∈mo,v.length<=2:=by rw[<-hmo];decide+kernel
 have wr:∀v∈mr,v.length<=2:=by rw[<-hmr];decide+kernel
 have co:oL mo<=2:=oM.2 wo;have cr:oL mr<=2:=oM.2 wr;have hv:MZ ((2:Nat):Int) mo mr vb:=⟨by decide,by decide,by omega,by omega,by omega,by omega,by omega,by omega⟩;have eN:=amN (n:=2) ro rr rb η η η hv;have k0:=Vn (n:=2) ro rr rb η hv;rw[lo,lr]at eN k0;have k0:wW 2 2 3 1 exO WC aaR:=k0;have eN:iX ⟨2,mo,mr,vb⟩=some (true,2,mq 1 (λ_=>2) exO,bq 3 aaR,mq 3 (λ_=>6) WC):=eN;have p1:WC 1 1≠0:=by decide+kernel
 have p2:aaQ 2 0≠0:=by decide+kernel
 have k1:wW 9 2 3 1 exO aaQ adB:=O2 k0 (r:=1) (c:=1) η η p1;have k2:wW 37 2 3 1 exO ai8 ai9:=O2 k1 (r:=2) (c:=0) η η p2;have t1:cg true 2 (mq 1 (λ_=>2) exO) (bq 3 aaR) (mq 3 (λ_=>6) WC) 1 1=some (0,mq 1 (λ_=>2) exO,bq 3 adB,mq 3 (λ_=>6) aaQ):=T1 k0 η (r:=1) (c:=1) η η aL p1;have t2:cg true 2 (mq 1 (λ_=>2) exO) (bq 3 adB) (mq 3 (λ_=>6) aaQ) 2 0=some (0,mq 1 (λ_=>2) exO,bq 3 ai9,mq 3 (λ_=>6) ai8):=T1 k1 η (r:=2) (c:=0) η η aL p2;have a0:jO (Lx 2 3 1 exO WC aaR)=some [2,3,4]:=T3 η;have a0':=M5 [2,3,4] η;have a1:=RR k0 η;have b1:=yT (λi hi=>k0.f i hi 5) η η rb l0 aL;have a2:=(M3 k0 η (c:=0) η).1;have b2:=yT (λi (_:i<3)=>(M3 k0 η (c:=0) η).2.fq i) η η q1 l1 aL;have a3:=RR k1 η;have b3:=yT (λi hi=>k1.f i hi 5) η η q2 l2 aL;have a4:=O1 k1 η;have b4:=yT (λi (_:i<3)=>I5 k1 (λj hj=>k1.f j hj 5) 3 (Nat.le_refl _) i) η η q3 l3 aL
 have a5:=Lj k1 η;rw[decide_eq_false aL]at a5;have a6:=RR k2 η;have b6:=yT (λi hi=>k2.f i hi 5) η η q4 l4 aL;have a7:=G0 k2 η;have s7:∀i,i<2->FQ 37 (rz 2 3 ai8 ai9 3 i):=λi hi=>by
  match i,hi with
  |0,_=>exact k2.f 2 η 5
  |1,_=>exact k2.f 1 η 5
 have b7:=yT s7 η η q5 l5 aL;have a8:=O1 k2 η;have b8:=yT (λi (_:i<3)=>I5 k2 (λj hj=>k2.f j hj 5) 3 (Nat.le_refl _) i) η η q6 l6 aL;have a9:=Lj k2 η;rw[decide_eq_true aL]at a9;have a10:=M4 k2 η;rw[decide_eq_true aL]at a10;unfold iY uF;refine aC (aC eo<|aC er<|aC eb Y)<|aC eN<|cw<|aC (a:=false) (bL Y Y)<|aC (a:=false) (bL Y<|aC a0<|aC a0'<|aC Y Y)<|aC (a:=false) (bL Y<|aC a1<|aC eb<|aC b1<|aC Y Y)<|aC (a:=false) (bL Y<|aC a2<|aC i1<|aC b2<|aC Y Y)<|bL Y<|aC t1<|cw<|aC (dF η)<|aC (a:=false) (bL Y<|aC a3<|aC i2<|aC b3<|aC Y Y)<|aC (a:=false) (bL Y<|aC a4<|aC i3<|aC b4<|aC Y Y)<|aC (a:=false) (bL Y<|aC a5 Y)<|bL Y<|aC t2<|cw ?_;exact aC (dT Y)<|aaH (aC a6<|aC i4<|aC b6 Y)<|aaH (aC a7<|aC i5<|aC b7 Y)<|aaH (aC a8<|aC i6<|aC b8 Y)<|aaH (aC a9 Y)<|aaH (aC a10 Y) Y
end
section
open Go.Fw
theorem aaS{l:List (List Qr)}{i:Nat}{P:List Qr->Prop}(hi:i<l.length)(ht:∀v∈l.take i,P v)(hp:P l[i]):∀v∈l.take (i+1),P v:=by
 rw[List.take_add_one,List.getElem?_eq_getElem hi];intro u hu;rcases List.mem_append.1 hu with h|h
 ·exact ht u h
 simp at h;rw[h];exact hp
abbrev Sml(v:List Qr):Prop:=v.length<=20/\∀q∈v,q.num.w.length<=6/\q.den.w.length<=6
abbrev Sm8(v:List Qr):Prop:=v.length<=8/\∀q∈v,q.num.w.length<=6/\q.den.w.length<=6
theorem RV(l:List (List Qr))(hl:l.length<=9223372036854775807):∃b,o7 l=some b/\(b=false->∀v∈l,Sml v):=by
 unfold o7;refine ni (λy=>∃i:Nat,y=(i:Int)/\i<=l.length/\∀v∈l.take i,Sml v) (λe=>(∃c,e=.inl c/\∀v∈l,Sml v)\/e=.inr true) (λy=>l.length-y.toNat) ?_ ⟨0,Y,by omega,by simp⟩ ?_
 ·rintro _ ⟨i,rfl,hi,ht⟩;by_cases hlt:i<l.length
  ·have g:=List.getElem?_eq_getElem hlt;by_cases h1:20<l[i].length
   ·exact .inr ⟨.inr true,aC Y<|aC (dT ξ)<|bY Y<|cw<|aC (bH g)<|aC Y<|aC (dT ξ)<|aC (a:=true) (bY Y Y) Y,.inr Y⟩
   obtain⟨b,hb,hs⟩:=aaG l[i] ξ;cases b
   ·refine .inl ⟨((i+1:Nat):Int),?_,⟨i+1,Y,hlt,aaS hlt ht ⟨by omega,hs Y⟩⟩,by simp only[Int.toNat_natCast];omega⟩;exact aC Y<|aC (dT ξ)<|bY Y<|cw<|aC (bH g)<|aC Y<|aC (dF ξ)<|aC (a:=false) (bL Y<|aC (bH g)<|aC hb Y)<|bL Y<|aC (congrArg some (bQ ξ)) Y
   exact .inr ⟨.inr true,aC Y<|aC (dT ξ)<|bY Y<|cw<|aC (bH g)<|aC Y<|aC (dF ξ)<|aC (a:=true) (bL Y<|aC (bH g)<|aC hb Y) Y,.inr Y⟩
  refine .inr ⟨.inl (),?_,.inl ⟨(),Y,?_⟩⟩
  ·exact aC Y<|aC (dF ξ)<|bL Y Y
  rw[List.take_of_length_le ξ]at ht;exact ht
 rintro e (⟨c,rfl,he⟩|rfl)
 ·exact⟨false,Y,λ_=>he⟩
 exact⟨true,rfl,λh=>by cases h⟩
theorem xY(m:List (List Qr))(h:m.length<=9223372036854775806):c6 m=some (oL m:Int):=by
 unfold c6;refine bK (λj=>(((m.take j).foldl (λn v=>max n v.length) 0:Nat),(j:Int))) m.length ((oL m:Nat):Int) θ (λj hj=>?_) ?_ Y
 ·refine aC Y<|aC (dT ξ)<|bY Y<|aC (bH (List.getElem?_eq_getElem hj))<|aC Y<|aC Y<|aC (congrArg some (bQ ξ)) ?_;rw[List.take_add_one,List.getElem?_eq_getElem hj,List.foldl_append];simp only[Option.toList_some,List.foldl_cons,List.foldl_nil];congr 3;omega
 refine aC Y<|aC (dF ξ)<|bL Y ?_;rw[List.take_length];rfl
theorem RW(m:List (List Qr)):∃b,o8 [m]=some b/\(b=false->m.length<=8/\∀v∈m,Sm8 v):=by
 unfold o8;have hg:cV [m] (0:Int)=some m:=rfl;by_cases h8:8<m.length
 ·refine⟨true,?_,λh=>by cases h⟩;refine bK (λj=>(j:Int)) 0 (.inr true) Y (λj hj=>by omega) ?_ Y;exact aC Y<|aC (dT θ)<|bY Y<|cw<|aC hg<|aC Y<|aC (dT ξ)<|aC (a:=true) (bY Y Y)<|aC (a:=true) (bY Y Y) Y
 by_cases hc:8<oL m
 ·refine⟨true,?_,λh=>by cases h⟩;refine bK (λj=>(j:Int)) 0 (.inr true) Y (λj hj=>by omega) ?_ Y;exact aC Y<|aC (dT θ)<|bY Y<|cw<|aC hg<|aC Y<|aC (dF ξ)<|aC (a:=true) (bL Y<|aC hg<|aC (xY m ξ)<|aC (dT ξ) Y)<|aC (a:=true) (bY Y Y) Y
 obtain⟨b,hb,hs⟩:=RV m ξ;cases b
 ·refine⟨false,?_,λ_=>⟨by omega,λv hv=>⟨?_,(hs Y v hv).2⟩⟩⟩
  ·refine bK (λj=>(j:Int)) 1 (.inl ()) Y (λj hj=>?_) (aC Y<|aC (dF θ)<|bL Y Y) Y;obtain rfl:j=0:=by omega
   exact aC Y<|aC (dT θ)<|bY Y<|cw<|aC hg<|aC Y<|aC (dF ξ)<|aC (a:=false) (bL Y<|aC hg<|aC (xY m ξ)<|aC (dF ξ) Y)<|aC (a:=false) (bL Y<|aC hg<|aC hb Y)<|bL Y<|aC (congrArg some (bQ ξ)) Y
  have:=oM.1 (Nat.le_refl (oL m)) v hv;omega
 refine⟨true,?_,λh=>by cases h⟩;refine bK (λj=>(j:Int)) 0 (.inr true) Y (λj hj=>by omega) ?_ Y;exact aC Y<|aC (dT θ)<|bY Y<|cw<|aC hg<|aC Y<|aC (dF ξ)<|aC (a:=false) (bL Y<|aC hg<|aC (xY m ξ)<|aC (dF ξ) Y)<|aC (a:=true) (bL Y<|aC hg<|aC hb Y)<|bY Y Y
theorem adC(m:List (List Qr))(h:m.length<=1000):r6 m=some (decide (∀i,i<m.length->(m.getD i []).length=0)):=by
 unfold r6;refine aC (ug (p:=λi=>(m.getD i []).length=0) (e:=false) (n:=m.length) (λi hi=>?_) (aC Y<|aC (dF ξ)<|bL Y Y)) ?_
 ·refine aC Y<|aC (dT ξ)<|bY Y<|aC (bH (ic (d:=[]) hi))<|aC Y<|aC Y ?_;by_cases hz:(m.getD i []).length=0
  ·rw[if_pos hz];exact bL (decide_eq_false ξ)<|aC (congrArg some (bQ ξ)) Y
  rw[if_neg hz];exact bY (decide_eq_true ξ) Y
 by_cases hp:∀i,i<m.length->(m.getD i []).length=0
 ·rw[if_pos hp,decide_eq_true hp]
 rw[if_neg hp,decide_eq_false hp]
structure Sm6 (ob rw:List (List Qr)) (bd:List Qr):Prop where
 lo:ob.length<=6
 lr:rw.length<=140
 lb:bd.length<=140
 so:∀v∈ob,Sm8 v
 sr:∀v∈rw,Sm8 v
 sb:Sml (bd.take (min bd.length 20))
theorem aaT{n:Int}{ob rw:List (List Qr)}{bd:List Qr}(h1:ob.length<=9223372036854775806)(h2:rw.length<=9223372036854775806)(h3:bd.length<=9223372036854775806):∃b,r7 ⟨n,ob,rw,bd⟩=some b/\(b=false->Sm6 ob rw bd):=by
 unfold r7;obtain⟨b1,e1,s1⟩:=RW rw;obtain⟨b2,e2,s2⟩:=RW ob;have amP:vv bd=some (bd.take (min bd.length 20)):=by
  unfold vv;have hm:min (bd.length:Int) 20=((min bd.length 20:Nat):Int):=by omega
  refine aC Y<|aC (congrArg some hm)<|aC (z5 ξ) Y
 obtain⟨b3,e3,s3⟩:=RV [bd.take (min bd.length 20)] θ;by_cases c1:6<ob.length
 ·exact⟨true,cw<|aC rfl<|aC (dT ξ)<|aC (a:=true) (bY rfl rfl)<|aC (a:=true) (bY rfl rfl)<|aC (a:=true) (bY rfl rfl)<|aC (a:=true) (bY rfl rfl)<|aC (a:=true) (bY rfl rfl)<|aC (a:=true) (bY rfl rfl) rfl,λh=>by cases h⟩
 by_cases c2:140<rw.length
 ·exact⟨true,cw<|aC rfl<|aC (dF ξ)<|aC (a:=true) (bL rfl<|aC rfl<|aC (dT ξ) rfl)<|aC (a:=true) (bY rfl rfl)<|aC (a:=true) (bY rfl rfl)<|aC (a:=true) (bY rfl rfl)<|aC (a:=true) (bY rfl rfl)<|aC (a:=true) (bY rfl rfl) rfl,λh=>by cases h⟩
 by_cases c3:140<bd.length
 ·exact⟨true,cw<|aC rfl<|aC (dF ξ)<|aC (a:=false) (bL rfl<|aC rfl<|aC (dF ξ) rfl)<|aC (a:=true) (bL rfl<|aC rfl<|aC (dT ξ) rfl)<|aC (a:=true) (bY rfl rfl)<|aC (a:=true) (bY rfl rfl)<|aC (a:=true) (bY rfl rfl)<|aC (a:=true) (bY rfl rfl) rfl,λh=>by cases h⟩
 have eb:=adC rw ξ;by_cases c4:8<rw.length
 ·by_cases c5:∀i,i<rw.length->(rw.getD i []).length=0
  ·rw[decide_eq_true c5]at eb;refine⟨_,cw<|aC Y<|aC (dF ξ)<|aC (a:=false) (bL Y<|aC Y<|aC (dF ξ) Y)<|aC (a:=false) (bL Y<|aC Y<|aC (dF ξ) Y)<|aC (a:=false) (bL Y<|aC Y<|aC (dT ξ)<|aC (a:=false) (bY Y<|aC eb<|aC Y Y) Y)<|aC (a:=false) (bL Y<|aC Y<|aC (dF ξ)<|aC (a:=false) (bL Y Y) Y)<|Pb (λ_=>aC e2 Y)<|Pb (λ_=>aC amP<|aC e3 Y) Y,λh=>?_⟩;simp only[Bool.false_or,Bool.or_eq_false_iff]at h;refine⟨by omega,by omega,by omega,(s2 h.1).2,λv hv=>?_,s3 h.2 _ θ⟩;obtain⟨i,hi,rfl⟩:=List.getElem_of_mem hv;have:=c5 i hi;rw[List.getD_eq_getElem?_getD,List.getElem?_eq_getElem hi]at this;have h0:rw[i]=[]:=List.eq_nil_of_length_eq_zero this;rw[h0];exact⟨by decide,by simp⟩
  rw[decide_eq_false c5]at eb;exact⟨true,cw<|aC rfl<|aC (dF ξ)<|aC (a:=false) (bL rfl<|aC rfl<|aC (dF ξ) rfl)<|aC (a:=false) (bL rfl<|aC rfl<|aC (dF ξ) rfl)<|aC (a:=true) (bL rfl<|aC rfl<|aC (dT ξ)<|aC (a:=true) (bY rfl<|aC eb<|aC rfl rfl) rfl)<|aC (a:=true) (bY rfl rfl)<|aC (a:=true) (bY rfl rfl)<|aC (a:=true) (bY rfl rfl) rfl,λh=>by cases h⟩
 refine⟨_,cw<|aC Y<|aC (dF ξ)<|aC (a:=false) (bL Y<|aC Y<|aC (dF ξ) Y)<|aC (a:=false) (bL Y<|aC Y<|aC (dF ξ) Y)<|aC (a:=false) (bL Y<|aC Y<|aC (dF ξ)<|aC (a:=false) (bL Y Y) Y)<|Pb (c:=b1) (λ_=>aC Y<|aC (dT ξ)<|aC (a:=b1) (bY Y<|aC e1 Y) Y)<|Pb (λ_=>aC e2 Y)<|Pb (λ_=>aC amP<|aC e3 Y) Y,λh=>?_⟩;simp only[Bool.false_or,Bool.or_eq_false_iff]at h;exact⟨by omega,by omega,by omega,(s2 h.1.2).2,(s1 h.1.1).2,s3 h.2 _ θ⟩
end
section
open Go.Fw
abbrev OkM(m:List (List Qr)):Prop:=m.length<=9223372036854775807/\∀v∈m,OkV v
abbrev OkL(p:Lr):Prop:=ia p.vars/\OkM p.HS/\OkM p.rows/\OkV p.bounds
abbrev szL(p:Lr):Nat:=1+szM p.HS+szM p.rows+szV p.bounds+1
theorem O3{α:Type}(f:α->Nat)(h:∀x,1<=f x):∀l:List α,l.length<=(l.map f).sum
 |[]=>Nat.le_refl _
 |x::l=>by rw[List.map_cons,List.sum_cons,List.length_cons];have:=O3 f h l;have:=h x;omega
theorem Vp(m:List (List Qr)):m.length<=szM m:=by have:=O3 (λx=>szV x) (λx=>by show 1<=_+1;omega) m;show _<=_+1;omega
theorem adD(v:List Qr):v.length<=szV v:=by have:=O3 (λx=>szQ x) (λx=>by show 1<=_+1;omega) v;show _<=_+1;omega
theorem afR{m:List (List Qr)}(h:OkM m)(s:∀v∈m,Sm8 v):kE 6 m (OX m):=
 adt (λv hv=>OR (λq hq=>TY ((h.2 v hv).2 q hq) ((s v hv).2 q hq).1 ((s v hv).2 q hq).2 η) η) η
theorem amR{v:List Qr}(h:OkV v)(s:Sml v):eM 6 v (Le v):=OR (λq hq=>TY (h.2 q hq) (s.2 q hq).1 (s.2 q hq).2 η) η
section refs
variable {n:Int}{ob rw:List (List Qr)}{bd:List Qr}
theorem ajb(h1:ob.length<=9223372036854775806)(h2:rw.length<=9223372036854775806):q9 ⟨n,ob,rw,bd⟩=some (decide (MZ n ob rw bd)):=by
 have sh:∀(m:List (List Qr)),m.length<=9223372036854775806->nE m n=some (decide ((oL m:Int)<=n)):=λm hm=>by
  unfold nE;exact aC (xY m hm)<|aC Y Y
 unfold q9;refine cw<|aC Y<|Pb (λ_=>aC Y Y)<|Pb (λ_=>aC Y<|aC Y Y)<|Pb (λ_=>aC Y<|aC Y Y)<|Pb (λ_=>aC Y<|aC Y Y)<|Pb (λ_=>aC Y<|aC Y<|aC Y Y)<|Vl (λh=>?_) (λh=>cw<|aC (sh ob h1)<|adr (λ_=>aC (sh rw h2) Y) ?_)
 ·congr 1;symm;rw[decide_eq_false_iff_not];simp only[Bool.or_eq_true,decide_eq_true_eq]at h;unfold MZ;omega
 congr 1;simp only[Bool.or_eq_false_iff,decide_eq_false_iff_not]at h;rw[<-Bool.decide_and,decide_eq_decide];unfold MZ;omega
end refs
end
section
open Go.Fw
section sol
variable {L n m p:Nat}{O F:Nat->Nat->Rat}{b:Nat->Nat}{z:Nat->Rat}
theorem RX:∀j k,n<=k->rz n m F b j k=0
 |0,_,_=>rfl
 |j+1,k,hk=>by
  show(if b j<n/\k=b j then F j (n+m)else rz n m F b j k)=0;rw[if_neg ξ,RX j k hk]
theorem Vq(h:wW L n m p O F b):∀j,j<=m->∀k,FQ L (rz n m F b j k)
 |0,_,_=>nj h.l1
 |j+1,hj,k=>by
  show FQ L (if b j<n/\k=b j then F j (n+m)else rz n m F b j k);split
  ·exact h.f j ξ _
  exact Vq h j ξ k
theorem M6{R:Nat->Nat->Rat}{g:Nat->Rat}:Uc m (uj n m R g) (λj=>n+j):=λi j hi hj=>by
 show uj n m R g i (n+j)=_;unfold uj;rw[if_neg ξ];by_cases e:i=j
 ·rw[if_pos ξ,if_pos e]
 rw[if_neg ξ,if_neg ξ,if_neg e]
end sol
def szT:Nat->Nat
 |0=>6
 |k+1=>4*szT k+1
abbrev atG(v:Pv):Prop:=(-9223372036854775808<=v.row/\v.row<=9223372036854775807)/\(-9223372036854775808<=v.col/\v.col<=9223372036854775807)
abbrev amS(l:List Pv):Nat:=(l.map λ_=>1+1+1).sum+1
theorem al7:(iY.bind λx=>some x)=some true:=aC aja Y
theorem aaU{n:Int}{ob rw:List (List Qr)}{bd:List Qr}(h1:ob.length<=9223372036854775806)(h2:rw.length<=9223372036854775806)(h3:bd.length<=9223372036854775806):∃b,pg ⟨n,ob,rw,bd⟩=some b/\(b=false->Sm6 ob rw bd/\(MZ n ob rw bd->rw.length<=5/\n<=6)):=by
 obtain⟨b1,e1,s1⟩:=aaT (n:=n) h1 h2 h3;have my:=ajb (n:=n) (bd:=bd) h1 h2;unfold pg;refine⟨_,cw<|aC e1<|Pb (c:=decide (5<rw.length)&&decide (MZ n ob rw bd)) (λ_=>aC Y<|aC (congrArg some (decide_eq_decide.2 (show(5:Int)<(rw.length:Int)↔5<rw.length by omega)))<|adr (λ_=>aC my Y) Y)<|Pb (c:=decide (6<n)&&decide (MZ n ob rw bd)) (λ_=>aC Y<|adr (λ_=>aC my Y) Y) Y,λh=>?_⟩;simp only[Bool.or_eq_false_iff,Bool.and_eq_false_iff,decide_eq_false_iff_not]at h;refine⟨s1 h.1.1,λhv=>⟨?_,?_⟩⟩
 ·rcases h.1.2 with q|q
  ·omega
  exact absurd hv q
 rcases h.2 with q|q
 ·omega
 exact absurd hv q
theorem amT{n:Int}{ob rw:List (List Qr)}{bd:List Qr}(v:qA ⟨n,ob,rw,bd⟩=some false):xN ⟨n,ob,rw,bd⟩=some ():=by
 unfold xN;exact aC v<|aC Y<|bY Y Y
end
section
open Go.Fw
section two
variable {L K n m p:Nat}{O F G:Nat->Nat->Rat}{b c:Nat->Nat}
theorem yN(hb:∀j,j<m->b j<n+m)(f h:Nat->Rat):cI (λl=>f l*cI (λj=>if b j=l then h j else 0) m) (n+m)=cI (λj=>f (b j)*h j) m:=by
 rw[show(λl=>f l*cI (λj=>if b j=l then h j else 0) m)=λl=>cI (λj=>f l*(if b j=l then h j else 0)) m from funext λl=>(pY _ _ _).symm,Ae];refine dx (λj hj=>?_);rw[ir (hb j hj) (λi _ hne=>by rw[if_neg (λq=>hne q.symm)];grind),if_pos rfl]
theorem G1(hb:∀j,j<m->b j<n+m)(hu:Uc m F b)(hs:∀z,F0 n m F z->F0 n m G z){i k:Nat}(hi:i<m)(hk:k<=n+m):G i k=cI (λs=>G i (b s)*F s k) m:=by
 have one:∀(h:Nat->Rat) (i:Nat),i<m->cI (λj=>F i (b j)*h j) m=h i:=λh i hi=>by
  rw[ir hi (λj hj hne=>by rw[hu i j hi hj,if_neg (λq=>hne q.symm)];grind),hu i i hi hi,if_pos rfl];grind
 have s0:F0 n m F (λl=>cI (λj=>if b j=l then F j (n+m)else 0) m):=λi hi=>by rw[yN hb,one _ i hi]
 have g0:=hs _ s0 i hi;rw[yN hb]at g0;by_cases e:k=n+m
 ·rw[e,<-g0]
 have hk':k<n+m:=by omega
 have pt:∀(f:Nat->Rat),cI (λl=>f l*(cI (λj=>if b j=l then F j (n+m)else 0) m+((if l=k then 1 else 0)-cI (λj=>if b j=l then F j k else 0) m))) (n+m)=cI (λj=>f (b j)*F j (n+m)) m+(f k-cI (λj=>f (b j)*F j k) m):=λf=>by
  rw[<-yN hb f (λj=>F j (n+m)),<-yN hb f (λj=>F j k)];have e1:f k=cI (λl=>f l*(if l=k then 1 else 0)) (n+m):=by
   rw[ir hk' (λi _ hne=>by rw[if_neg hne];grind),if_pos rfl];grind
  rw[e1,<-Cz,<-FR];exact dx (λl _=>by grind)
 have s1:F0 n m F (λl=>cI (λj=>if b j=l then F j (n+m)else 0) m+((if l=k then 1 else 0)-cI (λj=>if b j=l then F j k else 0) m)):=λi hi=>by
  rw[pt (F i),one _ i hi,one _ i hi];grind
 have g1:=hs _ s1 i hi;rw[pt (G i),g0]at g1;grind
theorem aaV(hb:∀j,j<m->b j<n+m)(hu:Uc m F b)(hv:Uc m G c)(hs:∀z,F0 n m F z->F0 n m G z)(hc:∀s,s<m->∃j,j<m/\c j=b s){i j k:Nat}(hi:i<m)(hj:j<m)(e:c j=b i)(hk:k<=n+m):F i k=G j k:=by
 rw[G1 hb hu hs hj hk,ir hi (λs hs' hne=>?_),<-e,hv j j hj hj,if_pos rfl]
 ·grind
 obtain⟨t,ht,et⟩:=hc s hs';rw[<-et,hv j t hj ht,if_neg (λq=>?_)]
 ·grind
 subst q;exact hne (ai7 hu hs' hi (et.symm.trans e))
theorem reach(h:wW L n m p O F b)(hu:Uc m F b){G:Nat->Nat->Rat}{c:Nat->Nat}(hg:wW (szT 0) n m p O G c)(hv:Uc m G c)(hs:∀z,F0 n m F z↔F0 n m G z):∀t,t<=m->∃G' c',wW (szT t) n m p O G' c'/\Uc m G' c'/\(∀z,F0 n m F z↔F0 n m G' z)/\∀s,s<t->∃j,j<m/\c' j=b s
 |0,_=>⟨G,c,hg,hv,hs,λs hs=>by omega⟩
 |t+1,ht=>by
  obtain⟨G',c',h1,h2,h3,h4⟩:=reach h hu hg hv hs t ξ;by_cases q:∃j,j<m/\c' j=b t
  ·refine⟨G',c',h1.mono (by show _<=4*szT t+1;omega),h2,h3,λs hs=>?_⟩;by_cases e:s=t
   ·subst e;exact q
   exact h4 s ξ
  by_cases q2:∃r,r<m/\G' r (b t)≠0/\∀s,s<t->c' r≠b s
  ·obtain⟨r,hr,h0,hn⟩:=q2;refine⟨_,_,O2 h1 hr (h.hb t ξ) h0,RU hr h0 h2,λz=>(h3 z).trans (Vo hr h0).symm,λs hs=>?_⟩;by_cases e:s=t
   ·subst e;exact⟨r,hr,if_pos Y⟩
   obtain⟨j,hj,ej⟩:=h4 s ξ;refine⟨j,hj,?_⟩;show(if j=r then _ else c' j)=_;rw[if_neg (λ(q:j=r)=>hn s ξ (by rw[<-q];exact ej))];exact ej
  exfalso;have e:=G1 h1.hb h2 (λz=>(h3 z).2) (i:=t) (k:=b t) (show t<m by omega) (Nat.le_of_lt (h.hb t ξ));rw[hu t t ξ ξ,if_pos Y,dx (k:=λ_=>0) (λs hs=>?_),rf]at e
  ·exact absurd e η
  by_cases w:G' s (b t)=0
  ·rw[w];grind
  by_cases w2:∃u,u<t/\c' s=b u
  ·obtain⟨u,hu1,hu2⟩:=w2;rw[hu2,hu t u ξ ξ,if_neg ξ];grind
  exact absurd ⟨s,hs,w,λu hu q=>w2 ⟨u,hu,q⟩⟩ q2
theorem short(h:wW L n m p O F b)(hu:Uc m F b){G:Nat->Nat->Rat}{c:Nat->Nat}(hg:wW 6 n m p O G c)(hv:Uc m G c)(hs:∀z,F0 n m F z↔F0 n m G z)(hm:m<=5):wW 6485 n m p O F b:=by
 obtain⟨G',c',h1,h2,h3,h4⟩:=reach h hu (G:=G) (c:=c) hg hv hs m (Nat.le_refl m);have sz:szT m<=6485:=by
  have:∀k,k<6->szT k<=6485:=by decide
  exact this m ξ
 have h1:=h1.mono sz;refine⟨λi hi k=>?_,h1.o,h.z,by decide,h.hn,h.hm,h.hp,h.hb⟩;by_cases hk:k<=n+m
 ·obtain⟨j,hj,e⟩:=h4 i hi;rw[aaV h.hb hu h2 (λz=>(h3 z).1) h4 hi hj e hk];exact h1.f j hj k
 rw[h.z i hi k ξ];exact nj η
end two
end
section
open Go.Fw
def sp(i q r:Nat):Nat:=if r=i then q else if r=q then i else r
theorem amU(i q r:Nat):sp i q (sp i q r)=r:=by
 unfold sp;by_cases h1:r=i
 ·rw[if_pos h1];by_cases h2:q=i
  ·rw[if_pos h2];omega
  rw[if_neg h2,if_pos rfl];exact h1.symm
 rw[if_neg h1];by_cases h2:r=q
 ·rw[if_pos h2,if_pos rfl];exact h2.symm
 rw[if_neg h2,if_neg h1,if_neg h2]
theorem HM{i q r m:Nat}(hi:i<m)(hq:q<m)(hr:r<m):sp i q r<m:=by
 unfold sp;split
 ·exact hq
 split
 ·exact hi
 exact hr
theorem amV{m w i q:Nat}{F:Nat->Nat->Rat}(hi:i<m)(hq:q<m):((mq m (λ_=>w) F).set i (vq w (F q))).set q (vq w (F i))=mq m (λ_=>w) (λr=>F (sp i q r)):=by
 apply List.ext_getElem?;intro j;rw[List.getElem?_set,List.getElem?_set,List.length_set,cM];by_cases hj:j<m
 ·rw[gj hj,gj hj];show _=some (vq w (F (sp i q j)));unfold sp;by_cases e1:q=j
  ·rw[if_pos e1,if_pos hq];by_cases e2:j=i
   ·rw[if_pos e2,e1,e2]
   rw[if_neg e2,if_pos e1.symm]
  rw[if_neg e1];by_cases e2:i=j
  ·rw[if_pos e2,if_pos hi,if_pos e2.symm]
  rw[if_neg e2,if_neg (λe=>e2 e.symm),if_neg (λe=>e1 e.symm)]
 rw[List.getElem?_eq_none (l:=mq m _ _) (by rw[cM];omega),List.getElem?_eq_none (l:=mq m _ _) (by rw[cM];omega),if_neg ξ,if_neg ξ]
section sw
variable {L n m p i q:Nat}{O F:Nat->Nat->Rat}{b:Nat->Nat}
end sw
section from_
variable {n:Nat}{ob rw:List (List Qr)}{bd:List Qr}{O R F:Nat->Nat->Rat}{g:Nat->Rat}{b c:Nat->Nat}
end from_
end
section
open Go.Fw
theorem afS{α:Type}{l:List α}{x:α}(h:l.length<=1000):lM 24 l [x]=some (l++[x]):=nh η ξ
section tab
variable {L n m p:Nat}{O F:Nat->Nat->Rat}{b:Nat->Nat}
theorem afT(h:wW L n m p O F b)(hL:L<=4000000000):qB (Lx n m p O F b)=some (mq m (λ_=>n+m) F):=by
 have hm:=h.hm;have hn:=h.hn;unfold qB;refine aC (oN n m p O F b)<|bL Y<|aC (congrArg some (show((mq m (λ_=>n+m+1) F).length:Int)=(m:Int) by rw[cM]))<|bK (λk=>((k:Int),mq k (λ_=>n+m) F)) m (mq m (λ_=>n+m) F) Y (λk hk=>?_) ?_ Y
 ·have g1:(mq m (λ_=>n+m+1) F)[k]? =some (vq (n+m+1) (F k)):=gj hk;have rs:=Vh (ai4 h hk) ξ (by rw[cq];omega) ((n+m:Nat):Int);rw[show(min (((n+m:Nat):Int)) 65536).toNat=n+m by omega]at rs;have ap:=afS (l:=mq k (λ_=>n+m) F) (x:=vq (n+m) (F k)) (by rw[cM];omega);rw[<-uH]at ap;refine aC (dT ξ)<|bY Y<|aC (bH g1)<|aC (Li hn hm)<|aC rs<|aC ap<|aC (congrArg some (bQ ξ)) Y
 exact aC (dF ξ)<|bL Y Y
theorem aaW(h:wW L n m p O F b)(hL:(m+1)*(L+L+1)<=2000000000):gB (Lx n m p O F b)=some (mq (n+m) (λ_=>p+n) (sJ n m p O F b)):=by
 have hm:=h.hm;have hn:=h.hn;unfold gB;refine aC (oN n m p O F b)<|bL Y ?_;have hw:(IntKind.i64.wrap (Tb.vars (Lx n m p O F b)+((Tb.rows (Lx n m p O F b)).length:Int))).toNat=n+m:=by
  show(IntKind.i64.wrap ((n:Int)+((mq m (λ_=>n+m+1) F).length:Int))).toNat=_;rw[cM,cQ ξ ξ];omega
 refine aC (a:=mq (n+m) (λ_=>p+n) (sJ n m p O F b)) ?_ Y;refine Eq.trans (congrArg (λk=>tq _ k []) hw)<|Ga (λk=>mq k (λ_=>p+n) (sJ n m p O F b)) (n+m) (λk hk=>?_);have ap:=afS (l:=mq k (λ_=>p+n) (sJ n m p O F b)) (x:=vq (p+n) (sJ n m p O F b k)) (by rw[cM];omega);rw[<-uH]at ap;exact aC Y<|aC (M3 h hL hk).1<|aC ap Y
end tab
end
section
open Go.Fw
theorem Eh{α β:Type}{x:Option α}{a:α}{f:α->Option β}{Q:β->Prop}(h:x=some a)(hf:∃r,f a=some r/\Q r):∃r,x.bind f=some r/\Q r:=by rw[h];exact hf
theorem exT{β:Type}{b:Bool}{x y:Option β}{Q:β->Prop}(hb:b=true)(h:∃r,x=some r/\Q r):∃r,(bif b then x else y)=some r/\Q r:=by rw[hb];exact h
theorem CC{S E R:Type}{body:S->Option (S⊕E)}{s:S}{f:E->Option R}{Q:R->Prop}(I:S->Prop)(Post:E->Prop)(μ:S->Nat)
  (step:∀s,I s->∃r,body s=some r/\((∃s',r=.inl s'/\I s'/\μ s'<μ s)\/(∃e,r=.inr e/\Post e))) (h:I s) (hf:∀e,Post e->∃r,f e=some r/\Q r):∃r,(cm body s).bind f=some r/\Q r:=
 ni I Post μ (λs hs=>by
  obtain⟨r,hr,h1⟩:=step s hs;rcases h1 with⟨s',rfl,h2⟩|⟨e,rfl,h2⟩
  ·exact .inl ⟨s',hr,h2⟩
  exact .inr ⟨e,hr,h2⟩) h hf
section tab
variable {L n m p:Nat}{O F G:Nat->Nat->Rat}{b c:Nat->Nat}
end tab
end
section
open Go.Fw
section atJ
variable {L K M n:Nat}{rw rv:List (List Qr)}{F G:Nat->Nat->Rat}
theorem O4(h:kE L rw F)(hL:L<=10000000000)(i j:Nat):fC rw (i:Int) (j:Int)=some (qn (F i j)):=by
 unfold fC;rw[uG];by_cases hi:i<rw.length
 ·have g1:=ic (l:=rw) (d:=[]) hi;have e1:=A0 (rw.getD i []) j;have e2:=((h.row i).gd j).TW hL;generalize (rw.getD i []).getD j (⟨⟨false,[]⟩,⟨false,[]⟩⟩:Qr)=q at*;generalize qn (F i j)=q2 at*;exact aC (dF ξ)<|aC (a:=false) (bL Y<|aC Y<|aC (dF ξ) Y)<|bL Y<|aC (bH g1)<|aC e1<|aC e2 Y
 rw[h.z i ξ j];exact aC (dF ξ)<|aC (a:=true) (bL Y<|aC Y<|aC (dT ξ) Y)<|bY Y Y
theorem M7{a b kd:Nat}{c:Qr}{F:Nat->Nat->Rat}(ha:a<=1024)(hb:b<=1024)(pl:∀i j:Nat,i<a->j<b->fj kd c rw rv (i:Int) (j:Int)=some (qn (F i j))):lj (a:Int) (b:Int) kd c rw rv=some (mq a (λ_=>b) F):=by
 unfold lj;obtain⟨⟨c1,c2⟩,⟨c3,c4⟩⟩:=c;refine bK (λi=>((i:Int),mq i (λ_=>b) F)) a (mq a (λ_=>b) F) Y (λi hi=>?_) ?_ Y
 ·refine aC (dT ξ)<|bY Y<|bK (λj=>((j:Int),vq j (F i))) b (vq b (F i)) Y (λj hj=>?_) ?_ ?_
  ·have e1:=pl i j hi hj;have e2:lM 64 (vq j (F i)) [qn (F i j)]=some (vq (j+1) (F i)):=by rw[nh η (by rw[cq];omega),lZ]
   generalize qn (F i j)=q at*;exact aC (dT ξ)<|bY Y<|aC e1<|aC e2<|aC (congrArg some (bQ ξ)) Y
  ·exact aC (dF ξ)<|bL Y Y
  have e3:lM 24 (mq i (λ_=>b) F) [vq b (F i)]=some (mq (i+1) (λ_=>b) F):=by
   rw[nh η (by rw[cM];omega),uH]
  exact aC e3<|aC (congrArg some (bQ ξ)) Y
 exact aC (dF ξ)<|bL Y Y
theorem adE(x:List (List Qr))(a b:Int):wS x a b=qZ x a b:=rfl
theorem FY{a:Nat}(h:a<=1024):jT (a:Int)=some (a:Int):=by
 unfold jT;exact aC Y<|aC (congrArg some (show min (max (a:Int) 0) 1024=(a:Int) by omega)) Y
theorem amW(h:kE L rw F)(hL:L<=1000000000){a b:Nat}(ha:a<=1024)(hb:b<=1024):qZ rw (a:Int) (b:Int)=some (mq a (λ_=>b) F):=by
 have e1:=CX (n:=1) η;have hl1:=h.l1;have r1:kO 2 (qn ((1:Int):Rat)) ((1:Int):Rat):=(lB η).2;have hone:∀x:Rat,(((1:Int):Rat))*x=x:=λx=>by
  have:(((1:Int):Rat))=1:=by decide
  rw[this];grind
 have pl:∀i j:Nat,i<a->j<b->fj 0 (qn ((1:Int):Rat)) rw [] (i:Int) (j:Int)=some (qn (F i j)):=λi j _ _=>by
  have e1:=O4 h ξ i j;have e2:=r1.aaC (((h.row i).fq j).rep hl1) ξ;rw[hone]at e2;unfold fj;generalize qn ((1:Int):Rat)=c at*;generalize qn (F i j)=q at*;exact aC (dF η)<|bL Y<|aC (dF η)<|bL Y<|aC (dF η)<|bL Y<|aC e1<|aC e2 Y
 have e3:=M7 (F:=F) ha hb pl;unfold qZ;generalize qn ((1:Int):Rat)=c at*;obtain⟨⟨_,_⟩,⟨_,_⟩⟩:=c;exact aC (FY ha)<|aC (FY hb)<|aC e1<|aC e3 Y
end atJ
def Dv(L:Nat):Nat->Nat
 |0=>L
 |d+1=>4*Dv L d+1
theorem aaX(L:Nat):∀d,Dv L d<=Dv L (d+1):=λd=>by show _<=4*Dv L d+1;omega
theorem G2(L:Nat){d e:Nat}(h:d<=e):Dv L d<=Dv L e:=by
 induction e with
 |zero=>rw[show d=0 by omega];exact Nat.le_refl _
 |succ e ih=>
  by_cases q:d=e+1
  ·rw[q];exact Nat.le_refl _
  exact Nat.le_trans (ih ξ) (aaX L e)
theorem FZ{L:Nat}(h:1<=L):∀d,1<=Dv L d
 |0=>h
 |d+1=>by show 1<=4*Dv L d+1;omega
def Nul(r w:Nat)(A:Nat->Nat->Rat)(z:Nat->Rat):Prop:=∀i,i<r->cI (λl=>A i l*z l) w=0
theorem adF{r w d k:Nat}{F:Nat->Nat->Rat}{z:Nat->Rat}(hd:d<r)(h0:F d k≠0):Nul r w (ku F d k) z↔Nul r w F z:=by
 have hi:F d k*(F d k)⁻¹=1:=Rat.mul_inv_cancel _ h0;constructor
 ·intro h;have e:=h d hd;rw[CY]at e;have er:cI (λl=>F d l*z l) w=0:=by
   have:=congrArg (λx=>F d k*x) e;simp only[<-Rat.mul_assoc,hi,Rat.one_mul]at this;rw[this];grind
  intro i hi';by_cases q:i=d
  ·rw[q];exact er
  have e2:=h i hi';rw[CZ q,er]at e2;grind
 intro h i hi';by_cases q:i=d
 ·rw[q,CY,h _ hd];grind
 rw[CZ q,h i hi',h d hd];grind
theorem ajd{r w i q:Nat}{F:Nat->Nat->Rat}{z:Nat->Rat}(hi:i<r)(hq:q<r):Nul r w (λs=>F (sp i q s)) z↔Nul r w F z:=
 ⟨λh s hs=>by have:=h (sp i q s) (HM hi hq hs);simp only[amU]at this;exact this,λh s hs=>h _ (HM hi hq hs)⟩
structure Ef (L r w:Nat) (A:Nat->Nat->Rat) (d k:Nat) (H:Nat->Nat->Rat) (pv:Nat->Nat):Prop where
 hd:d<=r
 f:∀i,i<r->∀l,FQ (Dv L d) (H i l)
 z:∀i,i<r->∀l,w<=l->H i l=0
 pl:∀s,s<d->pv s<k
 pu:∀s,s<d->∀q,q<r->H q (pv s)=if q=s then 1 else 0
 el:∀s,s<d->∀l,l<pv s->H s l=0
 ez:∀q,d<=q->q<r->∀l,l<k->H q l=0
 ho:∀z,Nul r w H z↔Nul r w A z
 mo:∀s t,s<t->t<d->pv s<pv t
theorem Ef.skip{L r w d k:Nat}{A H:Nat->Nat->Rat}{pv:Nat->Nat}(h:Ef L r w A d k H pv)(h0:∀q,d<=q->q<r->H q k=0):Ef L r w A d (k+1) H pv:=
 ⟨h.hd,h.f,h.z,λs hs=>by have:=h.pl s hs;omega,h.pu,h.el,λq hq U6 l hl=>by
  by_cases e:l=k
  ·rw[e];exact h0 q hq U6
  exact h.ez q hq U6 l ξ,h.ho,h.mo⟩
theorem Ef.step{L r w d k q:Nat}{A H:Nat->Nat->Rat}{pv:Nat->Nat}(h:Ef L r w A d k H pv)(hq:d<=q)(U6:q<r)(h0:H q k≠0):Ef L r w A (d+1) (k+1) (ku (λs=>H (sp d q s)) d k) (λs=>if s=d then k else pv s):=by
 have sP:d<r:=by omega
 have s0:sp d q d=q:=by unfold sp;rw[if_pos rfl]
 have s1:∀s,s<d->sp d q s=s:=λs hs=>by unfold sp;rw[if_neg ξ,if_neg ξ]
 have s2:∀s,d<=s->d<=sp d q s:=λs hs=>by unfold sp;split<;>(try split)<;>omega
 have hk:(λs=>H (sp d q s)) d k≠0:=by show H (sp d q d) k≠0;rw[s0];exact h0
 have fq:∀i,i<r->∀l,FQ (Dv L d) (H (sp d q i) l):=λi hi l=>h.f _ (HM sP U6 hi) l;have hi:H q k*(H q k)⁻¹=1:=Rat.mul_inv_cancel _ h0;have pd:∀i l,ku (λs=>H (sp d q s)) d k i l=if i=d then H q l/H q k else H (sp d q i) l-H (sp d q i) k*(H q l/H q k):=λi l=>by
  show(if i=d then H (sp d q d) l/H (sp d q d) k else H (sp d q i) l-H (sp d q i) k*(H (sp d q d) l/H (sp d q d) k))=_;rw[s0]
 have keep:∀l,H q l=0->∀i,ku (λs=>H (sp d q s)) d k i l=H (sp d q i) l:=λl hl i=>by
  rw[pd,hl];have e:(0:Rat)/H q k=0:=by rw[Rat.div_def,Rat.zero_mul]
  rw[e];split
  ·rename_i w;rw[w,s0,hl]
  grind
 have zq:∀l,l<k->H q l=0:=λl hl=>h.ez q hq U6 l hl;refine⟨by omega,λi hi l=>?_,λi hi l hl=>?_,λs hs=>?_,λs hs i hi'=>?_,λs hs l hl=>?_,λi hi2 hir l hl=>?_,λz=>(adF sP hk).trans ((ajd sP U6).trans (h.ho z)),λs t hst ht=>by
  show(if s=d then k else pv s)<(if t=d then k else pv t);rw[if_neg ξ];by_cases e:t=d
  ·rw[if_pos e];exact h.pl s ξ
  rw[if_neg e];exact h.mo s t hst ξ⟩
 ·have e:=(fq d sP l).div (fq d sP k) hk;show FQ (4*Dv L d+1) _;unfold ku;split
  ·exact e.mono ξ
  exact((fq i hi l).sub ((fq i hi k).mul e)).mono ξ
 ·rw[keep l (h.z q U6 l hl)];exact h.z _ (HM sP U6 hi) l hl
 ·show(if s=d then k else pv s)<k+1;split
  ·omega
  have:=h.pl s ξ;omega
 ·show ku (λs=>H (sp d q s)) d k i (if s=d then k else pv s)=_;by_cases e:s=d
  ·rw[if_pos e,e];rw[pd,Rat.div_def,hi];by_cases w:i=d
   ·rw[if_pos w,if_pos w]
   rw[if_neg w,if_neg w];grind
  rw[if_neg e];have hs':s<d:=by omega
  rw[keep (pv s) (zq _ (h.pl s hs')),h.pu s hs' _ (HM sP U6 hi')];by_cases w:i=s
  ·rw[if_pos w,if_pos (by rw[w];exact s1 s hs')]
  rw[if_neg w,if_neg (λw2=>w (by
   by_cases v:i<d
   ·rw[s1 i v]at w2;exact w2
   have:=s2 i ξ;omega))]
 ·replace hl:l<(if s=d then k else pv s):=hl;by_cases e:s=d
  ·rw[if_pos e]at hl;rw[keep l (zq l hl),e,s0];exact zq l hl
  rw[if_neg e]at hl;have hs':s<d:=by omega
  have:=h.pl s hs';rw[keep l (zq l ξ),s1 s hs'];exact h.el s hs' l hl
 by_cases e:l=k
 ·rw[e];rw[pd,if_neg ξ,Rat.div_def,hi];grind
 rw[keep l (zq l ξ)];exact h.ez _ (s2 i ξ) (HM sP U6 hir) l ξ
end
section
open Go.Fw
theorem T4{S E R:Type}{body:S->Option (S⊕E)}{s:S}{f:E->Option R}{Q:R->Prop}(st:Nat->S)(n:Nat)(e:E)(h0:s=st 0)(hs:∀k,k<n->body (st k)=some (.inl (st (k+1))))(he:body (st n)=some (.inr e))(hf:∃r,f e=some r/\Q r):∃r,(cm body s).bind f=some r/\Q r:=by
 obtain⟨r,h1,h2⟩:=hf;exact⟨r,bK st n e h0 hs he h1,h2⟩
theorem exF{β:Type}{b:Bool}{x y:Option β}{Q:β->Prop}(hb:b=false)(h:∃r,y=some r/\Q r):∃r,(bif b then x else y)=some r/\Q r:=by rw[hb];exact h
theorem M8{m w i:Nat}{F:Nat->Nat->Rat}{f:Nat->Rat}(hi:i<m):(mq m (λ_=>w) F).set i (vq w f)=mq m (λ_=>w) (λj=>if j=i then f else F j):=by
 apply List.ext_getElem?;intro j;rw[List.getElem?_set,cM];by_cases hj:j<m
 ·rw[gj hj,gj hj];by_cases e:i=j
  ·rw[if_pos e,if_pos hi,if_pos e.symm]
  rw[if_neg e,if_neg (λq=>e q.symm)]
 rw[List.getElem?_eq_none (l:=mq m _ _) (by rw[cM];omega),List.getElem?_eq_none (l:=mq m _ _) (by rw[cM];omega),if_neg ξ]
theorem rby{K L:Nat}{a b:Qr}{x y:Rat}(ha:kO K a x)(hb:kO L b y)(h:K+L<=4000000000)(h0:y≠0):xO a b=some (qn (x/y)):=by
 have e:=ha.atx hb h h0;unfold xO;obtain⟨⟨_,_⟩,⟨_,_⟩⟩:=a;obtain⟨⟨_,_⟩,⟨_,_⟩⟩:=b;generalize qn (x/y)=q at*;obtain⟨⟨_,_⟩,⟨_,_⟩⟩:=q;exact aC e Y
theorem Vr{L r w:Nat}{rows:List (List Qr)}{A:Nat->Nat->Rat}(h:kE L rows A)(hr:rows.length=r)(hc:oL rows=w)(hr8:r<=100)(hw:w<=100)(hL:Dv L (r+1)<=100000000):
  ∃res,kp rows=some res/\∃d H pv,res=(mq d (λ_=>w) H,bq d pv)/\Ef L r w A d w H pv:=by
 have L1:=h.l1;have sz:∀d,d<=r->Dv L d<=100000000:=λd hd=>Nat.le_trans (G2 L (show d<=r+1 by omega)) hL;have LL:L<=100000000:=sz 0 ξ;have ft:=amW h ξ (a:=r) (b:=w) ξ ξ;rw[<-adE]at ft;have az:∀i,i<r->∀l,w<=l->A i l=0:=λi hi l hl=>(h.row i).z l (by
  have:=oM.1 (Nat.le_of_eq hc) (rows.getD i []) (List.mem_of_getElem? (ic (d:=[]) ξ));omega)
 have rc:=xY rows ξ;rw[hc]at rc;unfold kp;refine Eh rc<|Eh (congrArg some (show(rows.length:Int)=(r:Int) by rw[hr]))<|Eh ft<|CC (λs=>∃(d k:Nat) (H:Nat->Nat->Rat) (pv:Nat->Nat),s=((d:Int),(k:Int),mq r (λ_=>w) H,bq d pv)/\k<=w/\Ef L r w A d k H pv) (λe=>∃(d:Nat) (H:Nat->Nat->Rat) (pv:Nat->Nat),e=((d:Int),mq r (λ_=>w) H,bq d pv)/\Ef L r w A d w H pv) (λs=>w-s.2.1.toNat) ?_ ⟨0,0,A,λ_=>0,Y,Nat.zero_le _,Nat.zero_le _,λi _ l=>(h.row i).fq l,az,λs hs=>by omega,λs hs=>by omega,λs hs=>by omega,λ_ _ _ l hl=>by omega,λ_=>Iff.rfl,λs t _ ht=>by omega⟩ ?_
 ·rintro _ ⟨d,k,H,pv,rfl,hk,inv⟩;by_cases hlt:k<w
  ·have Sh:=cM r (λ_=>w) H;refine Eh (dT ξ)<|exT Y<|CC (λy=>∃t:Nat,y=(t:Int)/\d<=t/\t<=r/\∀q,d<=q->q<t->H q k=0) (λy=>∃t:Nat,y=(t:Int)/\d<=t/\t<=r/\(∀q,d<=q->q<t->H q k=0)/\(t<r->H t k≠0)) (λy=>r-y.toNat) ?_ ⟨d,Y,Nat.le_refl _,inv.hd,λq h1 h2=>by omega⟩ ?_
   ·rintro _ ⟨t,rfl,h1,h2,h3⟩;by_cases ht:t<r
    ·have g1:(mq r (λ_=>w) H)[t]? =some (vq w (H t)):=gj ht;have g2:(vq w (H t))[k]? =some (qn (H t k)):=jL hlt;have sg:=((inv.f t ht k).rep (FZ L1 d)).RN (by have:=sz d inv.hd;omega);have zz:pW (H t k) 0=0↔H t k=0:=nJ;generalize mq r (λ_=>w) H=R at*;generalize qn (H t k)=q at*;obtain⟨⟨_,_⟩,⟨_,_⟩⟩:=q;by_cases e:H t k=0
     ·exact⟨_,cw<|aC Y<|aC (dT ξ)<|aC (a:=true) (bY Y<|aC (cO ξ)<|aC g1<|aC (bH g2)<|aC sg<|aC (dT (zz.2 e)) Y)<|bY Y<|aC (congrArg some (bQ ξ)) Y,.inl ⟨_,Y,⟨t+1,Y,by omega,by omega,λq q1 q2=>by
       by_cases w2:q=t
       ·rw[w2];exact e
       exact h3 q q1 ξ⟩,by simp only[Int.toNat_natCast];omega⟩⟩
     exact⟨_,cw<|aC Y<|aC (dT ξ)<|aC (a:=false) (bY Y<|aC (cO ξ)<|aC g1<|aC (bH g2)<|aC sg<|aC (dF (λw=>e (zz.1 w))) Y)<|bL Y Y,.inr ⟨_,Y,t,Y,h1,h2,h3,λ_=>e⟩⟩
    exact⟨_,cw<|aC Y<|aC (dF ξ)<|aC (a:=false) (bL Y Y)<|bL Y Y,.inr ⟨_,Y,t,Y,h1,h2,h3,λw=>by omega⟩⟩
   rintro _ ⟨t,rfl,h1,h2,h3,h4⟩;by_cases ht:t<r
   ·have h0:=h4 ht;have sP:d<r:=by omega
    have st:=inv.step h1 ht h0;have s0:sp d t d=t:=by unfold sp;rw[if_pos rfl]
    have szd:=sz d inv.hd;have g1:(mq r (λ_=>w) H)[t]? =some (vq w (H t)):=gj ht;have g2:(mq r (λ_=>w) H)[d]? =some (vq w (H d)):=gj sP;have esw:=amV (w:=w) (F:=H) sP ht;obtain⟨F,hF⟩:∃F:Nat->Nat->Rat,F=λs=>H (sp d t s):=⟨_,Y⟩;rw[<-hF]at st esw;have fF:∀i,i<r->∀l,FQ (Dv L d) (F i l):=λi hi l=>by rw[hF];exact inv.f _ (HM sP ht hi) l
    have zF:∀i,i<r->∀l,w<=l->F i l=0:=λi hi l hl=>by rw[hF];exact inv.z _ (HM sP ht hi) l hl
    have n0:F d k≠0:=by rw[hF];show H (sp d t d) k≠0;rw[s0];exact h0
    have amX:∀i,i<r->eM (Dv L d) (vq w (F i)) (F i):=λi hi=>pG (λl _=>fF i hi l) (zF i hi) (FZ L1 d);have one:=CX (n:=1) η;have r1:kO 2 (qn ((1:Int):Rat)) ((1:Int):Rat):=(lB η).2;have rx:=(fF d sP k).rep (FZ L1 d);have eby:=rby r1 rx ξ n0;have rinv:kO (Dv L d+Dv L d+2) (qn (((1:Int):Rat)/F d k)) (((1:Int):Rat)/F d k):=((((lB (n:=1) η).2.fq).div (fF d sP k) n0).mono (by have:=FZ L1 d;omega)).rep ξ;have esc:=TX rinv (amX d sP) ξ (by rw[cq];omega);have o1:∀x:Rat,(((1:Int):Rat))/F d k*x=x/F d k:=λx=>by
     have:(((1:Int):Rat))=1:=by decide
     rw[this,Rat.div_def,Rat.div_def];grind
    have e6:vq w (λl=>((1:Int):Rat)/F d k*F d l)=vq w (ku F d k d):=dM (λl _=>by unfold ku;rw[if_pos rfl];exact o1 _);rw[cq,e6]at esc;have gd:(mq r (λ_=>w) F)[d]? =some (vq w (F d)):=gj sP;have gx:(vq w (F d))[k]? =some (qn (F d k)):=jL hlt;have atK:=M8 (w:=w) (F:=F) (f:=ku F d k d) sP;have fl:=cM r (λ_=>w) F;have apk:lM 8 (bq d pv) [(k:Int)]=some (bq (d+1) (λs=>if s=d then k else pv s)):=by
     rw[nh η (by rw[qG];omega),O0,if_pos rfl];congr 2;unfold bq;exact List.map_congr_left (λs hs=>by
      have:=List.mem_range.1 hs;show((pv s:Nat):Int)=((if s=d then k else pv s:Nat):Int);rw[if_neg ξ])
    generalize qn ((1:Int):Rat)=q1 at*;generalize qn (((1:Int):Rat)/F d k)=q2 at*;obtain⟨⟨_,_⟩,⟨_,_⟩⟩:=q1;obtain⟨⟨_,_⟩,⟨_,_⟩⟩:=q2;generalize hq3:qn (F d k)=q3 at*;obtain⟨⟨_,_⟩,⟨_,_⟩⟩:=q3;refine Eh Y<|Eh (dF ξ)<|exF Y<|Eh (cO ξ)<|Eh g1<|Eh (cO ξ)<|Eh g2<|Eh (cO ξ)<|Eh (fK ξ)<|Eh (cO (by rw[List.length_set];omega))<|Eh (fK (by rw[List.length_set];omega)) ?_;rw[esw];refine Eh one<|Eh (cO ξ)<|Eh gd<|Eh (bH gx)<|Eh eby<|Eh (cO ξ)<|Eh gd<|Eh esc<|Eh (cO ξ)<|Eh (fK ξ) ?_;rw[atK];refine T4 (λi=>((i:Int),mq r (λ_=>w) (λj=>if j=d\/j<i then ku F d k j else F j))) r (mq r (λ_=>w) (ku F d k)) ?_ (λi hi=>?_) ?_ ?_
    ·congr 1;refine lC (λj _=>⟨Y,λl _=>?_⟩);by_cases e:j=d
     ·rw[if_pos e,if_pos (.inl e),e]
     rw[if_neg e,if_neg ξ]
    ·have ln:=cM r (λ_=>w) (λj=>if j=d\/j<i then ku F d k j else F j);by_cases e:i=d
     ·have same:mq r (λ_=>w) (λj=>if j=d\/j<i then ku F d k j else F j)=mq r (λ_=>w) (λj=>if j=d\/j<i+1 then ku F d k j else F j):=lC (λj _=>⟨Y,λl _=>by
       by_cases c:j=d\/j<i
       ·rw[if_pos c,if_pos ξ]
       rw[if_neg c,if_neg ξ]⟩)
      rw[<-same];exact aC (congrArg some (show((mq r (λ_=>w) (λj=>if j=d\/j<i then ku F d k j else F j)).length:Int)=(r:Int) by rw[ln]))<|aC (dT ξ)<|bY Y<|aC (dF ξ)<|cw<|bL Y<|aC (congrArg some (bQ ξ)) Y
     have gi:(mq r (λ_=>w) (λj=>if j=d\/j<i then ku F d k j else F j))[i]? =some (vq w (F i)):=by rw[gj hi,if_neg ξ]
     have gd2:(mq r (λ_=>w) (λj=>if j=d\/j<i then ku F d k j else F j))[d]? =some (vq w (ku F d k d)):=by rw[gj sP,if_pos (.inl Y)]
     have gk:(vq w (F i))[k]? =some (qn (F i k)):=jL hlt;have ri:=(fF i hi k).rep (FZ L1 d);have ng:=ri.ai0 ξ;have rn:kO (Dv L d) (qn (-F i k)) (-F i k):=(ri.neg ξ).2;have rpd:eM (4*Dv L d+1) (vq w (ku F d k d)) (ku F d k d):=pG (λl _=>st.f d sP l) (st.z d sP) ξ;have cb:=Vi rn rpd (amX i hi) ξ (by rw[cq];omega) (by rw[cq];omega);have e7:vq w (λl=>-F i k*ku F d k d l+F i l)=vq w (ku F d k i):=dM (λl _=>by unfold ku;rw[if_pos Y,if_neg e];grind);rw[cq,cq,Nat.max_self,e7]at cb;have es:=M8 (w:=w) (F:=λj=>if j=d\/j<i then ku F d k j else F j) (f:=ku F d k i) hi;have es2:mq r (λ_=>w) (λj=>if j=i then ku F d k i else(λj=>if j=d\/j<i then ku F d k j else F j) j)=mq r (λ_=>w) (λj=>if j=d\/j<i+1 then ku F d k j else F j):=lC (λj _=>⟨Y,λl _=>by
      show(if j=i then ku F d k i else if j=d\/j<i then ku F d k j else F j) l=(if j=d\/j<i+1 then ku F d k j else F j) l;by_cases c:j=i
      ·rw[if_pos c,if_pos ξ,c]
      rw[if_neg c];by_cases c2:j=d\/j<i
      ·rw[if_pos c2,if_pos ξ]
      rw[if_neg c2,if_neg ξ]⟩)
     rw[es2]at es;rw[<-es];generalize mq r (λ_=>w) (λj=>if j=d\/j<i then ku F d k j else F j)=W at*;generalize qn (F i k)=q4 at*;generalize qn (-F i k)=q5 at*;obtain⟨⟨_,_⟩,⟨_,_⟩⟩:=q4;obtain⟨⟨_,_⟩,⟨_,_⟩⟩:=q5;exact aC Y<|aC (dT ξ)<|bY Y<|aC (dT ξ)<|cw<|bY Y<|aC (cO ξ)<|aC gi<|aC (bH gk)<|aC ng<|aC (cO ξ)<|aC gd2<|aC (cO ξ)<|aC gi<|aC cb<|aC (cO ξ)<|aC (fK ξ)<|aC (congrArg some (bQ ξ)) Y
    ·have ln:=cM r (λ_=>w) (λj=>if j=d\/j<r then ku F d k j else F j);have all:mq r (λ_=>w) (λj=>if j=d\/j<r then ku F d k j else F j)=mq r (λ_=>w) (ku F d k):=lC (λj hj=>⟨Y,λl _=>by rw[if_pos (.inr hj)]⟩);rw[<-all];exact aC (congrArg some (show((mq r (λ_=>w) (λj=>if j=d\/j<r then ku F d k j else F j)).length:Int)=(r:Int) by rw[ln]))<|aC (dF ξ)<|bL Y Y
    exact⟨_,aC apk<|aC (congrArg some (bQ ξ))<|aC (congrArg some (bQ ξ)) Y,.inl ⟨_,Y,⟨d+1,k+1,_,_,Y,by omega,st⟩,by simp only[Int.toNat_natCast];omega⟩⟩
   obtain rfl:t=r:=by omega
   exact⟨_,aC (congrArg some (show((mq t (λ_=>w) H).length:Int)=(t:Int) by rw[Sh]))<|aC (dT Y)<|bY Y<|aC (congrArg some (bQ ξ)) Y,.inl ⟨_,Y,⟨d,k+1,H,pv,Y,by omega,inv.skip h3⟩,by simp only[Int.toNat_natCast];omega⟩⟩
  obtain rfl:k=w:=by omega
  exact⟨_,aC (dF ξ)<|bL Y Y,.inr ⟨_,Y,d,H,pv,Y,inv⟩⟩
 rintro _ ⟨d,H,pv,rfl,inv⟩;refine⟨_,aC (z5 (by rw[cM];exact inv.hd)) Y,d,H,pv,?_,inv⟩;rw[show(mq r (λ_=>w) H).take d=mq d (λ_=>w) H by unfold mq;rw[<-List.map_take,List.take_range,Nat.min_eq_left inv.hd]]
end
section
open Go.Fw
theorem rin{d:Nat}{pv:Nat->Nat}(k:Nat)(hd:d<=1000000):ua (bq d pv) (k:Int)=some (decide (∃s,s<d/\pv s=k)):=by
 unfold ua;have ln:=qG d pv;refine aC (a:=if ∀s,s<d->pv s≠k then .inl ()else .inr true) (ug (n:=d) (p:=λs=>pv s≠k) (e:=true) (λs hs=>?_) (aC (congrArg some (show((bq d pv).length:Int)=(d:Int) by rw[ln]))<|aC (dF ξ)<|bL Y Y)) ?_
 ·have g:(bq d pv)[s]? =some ((pv s:Nat):Int):=uh hs;generalize bq d pv=B at*;refine aC Y<|aC (dT ξ)<|bY Y<|aC (bH g)<|aC Y ?_;by_cases q:pv s=k
  ·rw[if_neg (λe=>e q)];exact bY (decide_eq_true ξ) Y
  rw[if_pos q];exact bL (decide_eq_false ξ)<|aC (congrArg some (bQ ξ)) Y
 by_cases q:∀s,s<d->pv s≠k
 ·rw[if_pos q];exact congrArg some (decide_eq_false (λ⟨s,h1,h2⟩=>q s h1 h2)).symm
 rw[if_neg q];have:∃s,s<d/\pv s=k:=Classical.byContradiction (λw=>q (λs h1 h2=>w ⟨s,h1,h2⟩));exact congrArg some (decide_eq_true this).symm
def wide(w:Nat)(A:Nat->Nat->Rat)(y:Nat->Rat)(i l:Nat):Rat:=if l<w then A i l else if l=w then y i else 0
theorem amY{L M r w:Nat}{rows:List (List Qr)}{b:List Qr}{A:Nat->Nat->Rat}{y:Nat->Rat}(h:kE L rows A)(hb:eM M b y)(hL:L<=1000000000)(hr:rows.length=r)(Jj:b.length=r)(hc:oL rows=w)(hr8:r<=1000)(hw:w<=1000)(hcan:∀i,b.getD i (⟨⟨false,[]⟩,⟨false,[]⟩⟩:Qr)=qn (y i)):
  sq rows b=some (mq r (λ_=>w+1) (wide w A y)):=by
 have rc:=xY rows ξ;rw[hc]at rc;unfold sq;refine aC rc<|bK (λi=>((i:Int),mq i (λ_=>w+1) (wide w A y))) r (mq r (λ_=>w+1) (wide w A y)) Y (λi hi=>?_) ?_ Y
 ·refine cw<|aC (congrArg some (show(rows.length:Int)=(r:Int) by rw[hr]))<|aC (dT ξ)<|aC (a:=true) (bY Y Y)<|bY Y<|bK (λj=>((j:Int),vq j (wide w A y i))) w (vq w (wide w A y i)) Y (λj hj=>?_) (aC (dF ξ)<|bL Y Y) ?_
  ·have e1:=O4 h ξ i j;have e0:wide w A y i j=A i j:=if_pos hj;have e2:lM 64 (vq j (wide w A y i)) [qn (A i j)]=some (vq (j+1) (wide w A y i)):=by rw[nh η (by rw[cq];omega),lZ,e0]
   generalize qn (A i j)=q at*;exact aC (dT ξ)<|bY Y<|aC e1<|aC e2<|aC (congrArg some (bQ ξ)) Y
  have e1:=A0 b i;rw[hcan i]at e1;have e0:wide w A y i w=y i:=by unfold wide;rw[if_neg ξ,if_pos rfl]
  have e2:lM 64 (vq w (wide w A y i)) [qn (y i)]=some (vq (w+1) (wide w A y i)):=by rw[nh η (by rw[cq];omega),lZ,e0]
  have e3:lM 24 (mq i (λ_=>w+1) (wide w A y)) [vq (w+1) (wide w A y i)]=some (mq (i+1) (λ_=>w+1) (wide w A y)):=by rw[nh η (by rw[cM];omega),uH]
  generalize qn (y i)=q at*;exact aC e1<|aC e2<|aC e3<|aC (congrArg some (bQ ξ)) Y
 exact cw<|aC (congrArg some (show(rows.length:Int)=(r:Int) by rw[hr]))<|aC (dF ξ)<|aC (a:=false) (bL Y<|aC (congrArg some (show(b.length:Int)=(r:Int) by rw[Jj]))<|aC (dF ξ) Y)<|bL Y Y
end
section
open Go.Fw
theorem aaY{d w:Nat}{pv:Nat->Nat}(hb:∀j,j<d->pv j<w)(f h:Nat->Rat):cI (λl=>f l*cI (λj=>if pv j=l then h j else 0) d) w=cI (λj=>f (pv j)*h j) d:=by
 rw[show(λl=>f l*cI (λj=>if pv j=l then h j else 0) d)=λl=>cI (λj=>f l*(if pv j=l then h j else 0)) d from funext λl=>(pY _ _ _).symm,Ae];refine dx (λj hj=>?_);rw[ir (hb j hj) (λi _ hne=>by rw[if_neg (λq=>hne q.symm)];grind),if_pos rfl]
def WW(m r w:Nat)(A:Nat->Nat->Rat):Prop:=∀z:Nat->Rat,(∀l,m<=l->z l=0)->Nul r w A z->∀l,l<m->z l=0
section inv
variable {L r w d m:Nat}{A H:Nat->Nat->Rat}{pv:Nat->Nat}
theorem Ef.aaZ(inv:Ef L r w A d w H pv)(hm:m<=w)(ind:WW m r w A){k:Nat}(hk:k<m):∃s,s<d/\pv s=k:=by
 refine Classical.byContradiction (λno=>?_);have np:∀s,s<d->pv s≠k:=λs h1 h2=>no ⟨s,h1,h2⟩;have hz:∀s,s<d->k<pv s->H s k=0:=λs hs h=>inv.el s hs k h;have z0:=ind (λl=>(if l=k then 1 else 0)-cI (λs=>if pv s=l then H s k else 0) d) (λl hl=>by
  show(if l=k then(1:Rat)else 0)-_=0;rw[if_neg ξ,dx (k:=λ_=>0) (λs hs=>?_),rf]
  ·grind
  by_cases e:pv s=l
  ·rw[if_pos e];exact hz s hs ξ
  rw[if_neg e]) ((inv.ho _).1 (λi hi=>?_)) k hk
 ·replace z0:(if k=k then(1:Rat)else 0)-cI (λs=>if pv s=k then H s k else 0) d=0:=z0;rw[if_pos Y,dx (k:=λ_=>0) (λs hs=>if_neg (np s hs)),rf]at z0;exact absurd (show(1:Rat)=0 by grind) η
 have hkw:k<w:=by omega
 have e1:H i k=cI (λl=>H i l*(if l=k then 1 else 0)) w:=by
  rw[ir hkw (λl _ hne=>by rw[if_neg hne];grind),if_pos rfl];grind
 rw[dx (h:=λl=>H i l*((if l=k then 1 else 0)-cI (λs=>if pv s=l then H s k else 0) d)) (k:=λl=>H i l*(if l=k then 1 else 0)-H i l*cI (λs=>if pv s=l then H s k else 0) d) (λl _=>by grind),Cz,<-e1,aaY inv.pl (λl=>H i l) (λs=>H s k)];by_cases e:i<d
 ·rw[ir e (λs hs hne=>by rw[inv.pu s hs i hi,if_neg (λq=>hne q.symm)];grind),inv.pu i e i hi,if_pos rfl];grind
 rw[inv.ez i ξ hi k hkw,dx (k:=λ_=>0) (λs hs=>by rw[inv.pu s hs i hi,if_neg ξ];grind),rf];grind
end inv
end
section
open Go.Fw
theorem I6(j:Nat)(n:Int):((bif decide ((j:Int)<n)then(some (decide ((j:Int)<65536))).bind λdr=>some dr else some false):Option Bool)=some (decide (j<(min n 65536).toNat)):=by
 by_cases h:(j:Int)<n
 ·rw[decide_eq_true h,iw,ct];by_cases h':(j:Int)<65536
  ·rw[decide_eq_true h',decide_eq_true ξ]
  rw[decide_eq_false h',decide_eq_false ξ]
 rw[decide_eq_false h,ja,decide_eq_false ξ]
section ops
variable {K L M:Nat}{c:Qr}{a b:List Qr}{k:Rat}{f g:Nat->Rat}
theorem aa0(ha:eM L a f)(hb:eM M b g)(h:(a.length+2)*(L+M+1)<=4000000000)(la:a.length<=1000000):qX a b=some (qn (cI (λi=>f i*g i) (min a.length b.length))):=by
 have hs:∀n,FQ (n*(L+M+1)+1) (cI (λi=>f i*g i) n):=λn=>OS (λi _=>(ha.fq i).mul (hb.fq i));rw[<-aaz (h:=λi=>f i*g i) (n:=min a.length b.length) (m:=a.length) ξ (λi h1 h2=>by show f i*g i=0;rw[hb.z i ξ];grind)];have hm:∀n:Nat,n<=a.length->n*(L+M+1)<=a.length*(L+M+1):=λn hn=>Nat.mul_le_mul_right _ hn;rw[Nat.add_mul]at h;unfold qX;refine bK (λj=>((j:Int),(qn (cI (λi=>f i*g i) j)).num.neg,(qn (cI (λi=>f i*g i) j)).num.w,(qn (cI (λi=>f i*g i) j)).den.neg,(qn (cI (λi=>f i*g i) j)).den.w)) a.length
  ((qn (cI (λi=>f i*g i) a.length)).num.neg,(qn (cI (λi=>f i*g i) a.length)).num.w,(qn (cI (λi=>f i*g i) a.length)).den.neg,(qn (cI (λi=>f i*g i) a.length)).den.w) Y (λj hj=>?_) ?_ Y
 ·have hmj:=hm j ξ;obtain⟨q1,hq1,rq1⟩:=ha.get hj;have a2:=A0 b j;have e1:=rq1.aaC (hb.gd j) ξ;have e3:=((hs j).rep ξ).adp (rq1.mul (hb.gd j) ξ).2 ξ;simp only[cI];generalize hq0:qn (cI (λi=>f i*g i) j)=q0 at e3⊢;generalize hq3:qn (cI (λi=>f i*g i) j+f j*g j)=q3 at e3⊢;generalize b.getD j (⟨⟨false,[]⟩,⟨false,[]⟩⟩:Qr)=q2 at e1 a2;generalize qn (f j*g j)=q4 at e1 e3;obtain⟨⟨_,_⟩,⟨_,_⟩⟩:=q0;obtain⟨⟨_,_⟩,⟨_,_⟩⟩:=q1;obtain⟨⟨_,_⟩,⟨_,_⟩⟩:=q2;obtain⟨⟨_,_⟩,⟨_,_⟩⟩:=q3;obtain⟨⟨_,_⟩,⟨_,_⟩⟩:=q4;refine aC Y<|aC Y<|bY (decide_eq_true ξ)<|aC (bH hq1)<|aC a2<|aC e1<|aC e3<|aC Y ?_;rw[bQ ξ]
 exact aC Y<|aC Y<|bL (decide_eq_false ξ) Y
theorem atL(ha:eM L a f)(hb:eM M b g)(h:L+M<=4000000000)(la:a.length<=1000000)(lb:b.length<=1000000):qY a b=some (oK f g (max a.length b.length)):=by
 unfold qY;refine iK (λs=>∃j:Nat,s=(j:Int)/\j<=max a.length b.length/\oK f g j=0) (λe=>(match e with|.inr v=>v|.inl _=>0)=oK f g (max a.length b.length)) (λs=>max a.length b.length-s.toNat) ?_ ⟨0,rfl,by omega,rfl⟩ ?_
 ·rintro s ⟨j,rfl,hj,h0⟩;by_cases hjn:j<max a.length b.length
  ·have a1:=A0 a j;have a2:=A0 b j;have e1:=(ha.gd j).atw (hb.gd j) h;generalize a.getD j (⟨⟨false,[]⟩,⟨false,[]⟩⟩:Qr)=q1 at e1 a1;generalize b.getD j (⟨⟨false,[]⟩,⟨false,[]⟩⟩:Qr)=q2 at e1 a2;obtain⟨⟨_,_⟩,⟨_,_⟩⟩:=q1;obtain⟨⟨_,_⟩,⟨_,_⟩⟩:=q2;by_cases hc:pW (f j) (g j)=0
   ·refine .inl ⟨((j+1:Nat):Int),?_,⟨j+1,Y,by omega,by rw[oK,if_neg (by simpa using h0),hc]⟩,by simp only[Int.toNat_natCast];omega⟩;rw[uG];refine aC Y<|aC Y<|aC (Lh a b j)<|bY (decide_eq_true hjn)<|aC a1<|aC a2<|aC e1<|aC Y<|bL (decide_eq_false (by simpa using hc))<|aC Y ?_;rw[bQ ξ]
   refine .inr ⟨.inr (pW (f j) (g j)),?_,(Wy h0 hjn hc).symm⟩;rw[uG];refine aC Y<|aC Y<|aC (Lh a b j) ?_;exact bY (decide_eq_true hjn)<|aC a1<|aC a2<|aC e1<|aC Y<|bY (decide_eq_true hc) Y
  obtain rfl:j=max a.length b.length:=by omega
  refine .inr ⟨.inl (),?_,h0.symm⟩;rw[uG];refine aC Y<|aC Y<|aC (Lh a b _) ?_;exact bL (decide_eq_false hjn) Y
 intro e he;rw[<-he];cases e<;>rfl
theorem RY(ha:eM L a f)(h:L<=10000000000)(n:Int):gK a n=some (vq (min n 65536).toNat f):=by
 unfold gK;refine bK (λj=>((j:Int),vq j f)) (min n 65536).toNat (vq (min n 65536).toNat f) Y (λj hj=>?_) ?_ Y
 ·show cX _ _=_;rw[uG];refine aC Y<|aC (I6 j n) ?_;have a1:=A0 a j;have e1:=(ha.gd j).TW h;generalize a.getD j (⟨⟨false,[]⟩,⟨false,[]⟩⟩:Qr)=q1 at e1 a1;rw[lZ];generalize qn (f j)=q3 at e1⊢;obtain⟨⟨_,_⟩,⟨_,_⟩⟩:=q1;obtain⟨⟨_,_⟩,⟨_,_⟩⟩:=q3;refine bY (decide_eq_true hj)<|aC a1<|aC e1<|aC (nh ξ (by rw[cq];omega))<|aC Y ?_;rw[bQ ξ]
 show cX _ _=_;rw[uG];refine aC Y<|aC (I6 _ n) ?_;exact bL (decide_eq_false ξ) Y
theorem uo(n k:Int):jI n k=some (vq (min n 65536).toNat λi=>if(i:Int)=k then 1 else 0):=by
 unfold jI;refine bK (λj=>((j:Int),vq j (λi=>if(i:Int)=k then 1 else 0))) (min n 65536).toNat (vq (min n 65536).toNat (λi=>if(i:Int)=k then 1 else 0)) Y (λj hj=>?_) ?_ Y
 ·show cX _ _=_;rw[uG];refine aC Y<|aC (I6 j n)<|bY (decide_eq_true hj)<|aC Y ?_;rw[uG,lZ];by_cases hc:(j:Int)=k
  ·refine bY (decide_eq_true hc) ?_;have e1:=CX (n:=1) η;rw[if_pos hc];have hq:qn ((1:Int):Rat)=qn 1:=rfl;rw[hq]at e1;generalize qn 1=q3 at e1⊢;obtain⟨⟨_,_⟩,⟨_,_⟩⟩:=q3;refine aC e1<|aC (nh ξ (by rw[cq];omega))<|aC Y ?_;rw[bQ ξ]
  refine bL (decide_eq_false hc) ?_;rw[if_neg hc,U9];refine aC (nh ξ (by rw[cq];omega))<|aC Y ?_;rw[bQ ξ];rfl
 show cX _ _=_;rw[uG];refine aC Y<|aC (I6 _ n) ?_;exact bL (decide_eq_false ξ) Y
end ops
end
section
open Go.Fw
theorem Lk(n k:Int):nH n k=jI n k:=rfl
theorem amZ{L r w d:Nat}{rows:List (List Qr)}{A H:Nat->Nat->Rat}{pv:Nat->Nat}(hlen:rows.length<=1000)(hc:oL rows=w)(hw:w<=1000)(h1:1<=L)(hS:Dv L d<=1000000000)(hd6:d<=1000000)
  (atM:kp rows=some (mq d (λ_=>w) H,bq d pv)) (inv:Ef L r w A d w H pv):
  ∃N,sn rows=some N/\((∀k,k<w->∃s,s<d/\pv s=k)->N=[])/\((¬∀k,k<w->∃s,s<d/\pv s=k)->0<N.length):=by
 have rc:=xY rows ξ;rw[hc]at rc;have sP:=inv.hd;unfold sn;refine Eh atM<|Eh rc<|CC (λs=>∃(k:Nat) (N:List (List Qr)),s=((k:Int),N)/\k<=w/\N.length<=k/\((∀j,j<k->∃s,s<d/\pv s=j)->N=[])/\((¬∀j,j<k->∃s,s<d/\pv s=j)->0<N.length)) (λN=>((∀j,j<w->∃s,s<d/\pv s=j)->N=[])/\((¬∀j,j<w->∃s,s<d/\pv s=j)->0<N.length)) (λs=>w-s.1.toNat) ?_ ⟨0,[],Y,Nat.zero_le _,Nat.le_refl _,λ_=>Y,λq=>absurd (λj hj=>by omega) q⟩ (λe he=>⟨e,Y,he⟩);rintro _ ⟨k,N,rfl,hk,hN,n1,n2⟩;by_cases hlt:k<w
 ·have ein:=rin (pv:=pv) k hd6;refine Eh (dT ξ)<|exT Y<|Eh ein ?_;by_cases q:∃s,s<d/\pv s=k
  ·refine exT (decide_eq_true q) ⟨_,aC (congrArg some (bQ ξ)) Y,.inl ⟨_,Y,⟨k+1,N,Y,hlt,by omega,λhh=>n1 (λj hj=>hh j ξ),λhh=>n2 (λh2=>hh (λj hj=>by
    by_cases e:j=k
    ·rw[e];exact q
    exact h2 j ξ))⟩,by simp only[Int.toNat_natCast];omega⟩⟩
  refine exF (decide_eq_false q) ?_;have eu:=uo (w:Int) (k:Int);rw[<-Lk]at eu;refine Eh eu<|CC (λs=>∃(t:Nat) (xs:List Qr),s=((t:Int),xs)/\xs.length=w) (λxs=>xs.length=w) (λs=>d-s.1.toNat) ?_ ⟨0,_,Y,by rw[cq];omega⟩ ?_
  ·rintro _ ⟨t,xs,rfl,hx⟩;by_cases ht:t<d
   ·have g0:(bq d pv)[t]? =some ((pv t:Nat):Int):=uh ht;have g1:(mq d (λ_=>w) H)[t]? =some (vq w (H t)):=gj ht;have g2:(vq w (H t))[k]? =some (qn (H t k)):=jL hlt;have ng:=((inv.f t ξ k).rep (FZ h1 d)).ai0 ξ;have hp:=inv.pl t ht;have ln:=cM d (λ_=>w) H;generalize qn (H t k)=q1 at*;generalize qn (-H t k)=q2 at*;obtain⟨⟨_,_⟩,⟨_,_⟩⟩:=q1;obtain⟨⟨_,_⟩,⟨_,_⟩⟩:=q2;exact⟨_,aC (congrArg some (show((mq d (λ_=>w) H).length:Int)=(d:Int) by rw[ln]))<|aC (dT ξ)<|bY Y<|aC (bH g0)<|aC (bH g1)<|aC (bH g2)<|aC ng<|aC (cO ξ)<|aC (fK ξ)<|aC (congrArg some (bQ ξ)) Y,.inl ⟨_,Y,⟨t+1,_,Y,by rw[List.length_set];exact hx⟩,by simp only[Int.toNat_natCast];omega⟩⟩
   have ln:=cM d (λ_=>w) H;exact⟨_,aC (congrArg some (show((mq d (λ_=>w) H).length:Int)=(d:Int) by rw[ln]))<|aC (dF ξ)<|bL Y Y,.inr ⟨_,Y,hx⟩⟩
  intro xs hx;exact⟨_,aC (nh η ξ)<|aC (congrArg some (bQ ξ)) Y,.inl ⟨_,Y,⟨k+1,_,Y,hlt,by rw[List.length_append];simp;omega,λhh=>absurd (hh k ξ) q,λ_=>by rw[List.length_append];simp⟩,by simp only[Int.toNat_natCast];omega⟩⟩
 obtain rfl:k=w:=by omega
 exact⟨_,aC (dF ξ)<|bL Y Y,.inr ⟨_,Y,n1,n2⟩⟩
end
section
open Go.Fw
theorem A3{r w:Nat}{F:Nat->Nat->Rat}(hr:1<=r):oL (mq r (λ_=>w) F)=w:=by
 refine Nat.le_antisymm (oM.2 (λv hv=>?_)) ?_
 ·obtain⟨i,hi,rfl⟩:=List.getElem_of_mem hv;have:=gj (n:=r) (i:=i) (ln:=λ_=>w) (F:=F) (by rwa[cM]at hi);rw[List.getElem?_eq_getElem hi]at this;rw[Option.some.inj this,cq];exact Nat.le_refl _
 have:=oM.1 (Nat.le_refl (oL (mq r (λ_=>w) F))) (vq w (F 0)) (List.mem_of_getElem? (gj (i:=0) ξ));rwa[cq]at this
theorem aa1{L M r w:Nat}{rows:List (List Qr)}{b:List Qr}{A:Nat->Nat->Rat}{y:Nat->Rat}(h:kE L rows A)(hb:eM M b y)(hr:rows.length=r)(Jj:b.length=r):kE (max L M) (mq r (λ_=>w+1) (wide w A y)) (wide w A y):=by
 have l1:=h.l1;refine zf (λi hi k hk=>?_) (λi hi k hk=>?_) (λi hi k=>?_) ξ
 ·show FQ (max L M) (if k<w then A i k else if k=w then y i else 0);split
  ·exact((h.row i).fq k).mono ξ
  split
  ·exact(hb.fq i).mono ξ
  exact nj ξ
 ·show(if k<w then A i k else if k=w then y i else 0)=0;rw[if_neg ξ,if_neg ξ]
 show(if k<w then A i k else if k=w then y i else 0)=0;rw[h.z i ξ k,hb.z i ξ];split
 ·rfl
 split<;>rfl
theorem Ef.diag{L r w d m:Nat}{A H:Nat->Nat->Rat}{pv:Nat->Nat}(inv:Ef L r w A d w H pv)(hd:d<=m)(hp:∀k,k<m->∃s,s<d/\pv s=k):∀s,s<d->pv s=s:=by
 have ge:∀s,s<d->s<=pv s:=λs=>by
  induction s with
  |zero=>intro _;exact Nat.zero_le _
  |succ s ih=>intro hs;have:=ih ξ;have:=inv.mo s (s+1) ξ hs;omega
 intro s
 induction s using Nat.strongRecOn with
 |_ s ih=>
  intro hs;have g:=ge s hs;by_cases e:pv s=s
  ·exact e
  obtain⟨t,ht,et⟩:=hp s ξ;rcases Nat.lt_trichotomy t s with q|q|q
  ·have:=ih t q ht;omega
  ·rw[q]at et;exact et
  have:=inv.mo s t q ht;omega
end
section
open Go.Fw
theorem aa2{w:Nat}{A:Nat->Nat->Rat}{y:Nat->Rat}(ind:WW w w w A):WW w w (w+1) (wide w A y):=λz hz hn=>ind z hz (λi hi=>by
 have e:=hn i hi;show cI (λl=>A i l*z l) w=0;have e2:cI (λl=>wide w A y i l*z l) (w+1)=cI (λl=>wide w A y i l*z l) w+wide w A y i w*z w:=rfl;rw[e2,hz w (Nat.le_refl w),dx (h:=λl=>wide w A y i l*z l) (k:=λl=>A i l*z l) (λl hl=>by unfold wide;rw[if_pos hl])]at e;grind)
theorem aa3{L w d:Nat}{A H:Nat->Nat->Rat}{y:Nat->Rat}{pv:Nat->Nat}(inv:Ef L w (w+1) (wide w A y) d (w+1) H pv)(hd:d=w)(hpv:∀s,s<w->pv s=s):∀i,i<w->cI (λl=>A i l*H l w) w=y i:=by
 subst hd;have e:=(inv.ho (λl=>if l<d then H l d else if l=d then-1 else 0)).1 (λi hi=>by
  have s1:cI (λl=>H i l*(if l<d then H l d else if l=d then-1 else 0)) (d+1)=cI (λl=>H i l*(if l<d then H l d else if l=d then-1 else 0)) d+H i d*(if d<d then H d d else if d=d then-1 else 0):=rfl;rw[s1,if_neg (Nat.lt_irrefl d),if_pos Y,ir hi (λl hl hne=>by
   have:=inv.pu l hl i hi;rw[hpv l hl,if_neg (λq=>hne q.symm)]at this;rw[this];grind)]
  have:=inv.pu i hi i hi;rw[hpv i hi,if_pos rfl]at this;rw[this,if_pos hi];grind)
 intro i hi;have e:=e i hi;have s1:cI (λl=>wide d A y i l*(if l<d then H l d else if l=d then-1 else 0)) (d+1)=cI (λl=>wide d A y i l*(if l<d then H l d else if l=d then-1 else 0)) d+wide d A y i d*(if d<d then H d d else if d=d then-1 else 0):=rfl;rw[s1,if_neg (Nat.lt_irrefl d),if_pos Y,show wide d A y i d=y i by unfold wide;rw[if_neg (Nat.lt_irrefl d),if_pos rfl],dx (k:=λl=>A i l*H l d) (λl hl=>by unfold wide;rw[if_pos hl,if_pos hl])]at e;grind
end
section
open Go.Fw
theorem aje{L M w:Nat}{rows:List (List Qr)}{b:List Qr}{A:Nat->Nat->Rat}{y:Nat->Rat}(h:kE L rows A)(hr:rows.length=w)(hc:oL rows=w)(h1:1<=w)(hw:w<=90)(hb:eM M b y)(Jj:b.length=w)(hcan:∀i,b.getD i (⟨⟨false,[]⟩,⟨false,[]⟩⟩:Qr)=qn (y i))(hL:Dv (max L M) (w+1)<=100000000)(hL2:Dv L (w+1)<=100000000)(ind:WW w w w A):
  ∃x,pS rows b=some (vq w x,[],0)/\(∀i,i<w->cI (λl=>A i l*x l) w=y i)/\∀l,l<w->FQ (Dv (max L M) w) (x l):=by
 have l1:=h.l1;have LL:L<=100000000:=Nat.le_trans (G2 L (show 0<=w+1 by omega)) hL2;have rc:=xY rows ξ;rw[hc]at rc;have ew:=amY h hb ξ hr Jj hc ξ ξ hcan;obtain⟨_,e1,d,H,pv,rfl,inv⟩:=Vr (aa1 (w:=w) h hb hr Jj) (cM _ _ _) (A3 h1) ξ ξ hL;have hd:=inv.hd;have hp:=λk (hk:k<w)=>inv.aaZ (m:=w) ξ (aa2 ind) hk;have dg:=inv.diag hd hp;have hdw:d=w:=by
  obtain⟨s,hs,e⟩:=hp (w-1) ξ;rw[dg s hs]at e;omega
 subst hdw;have ein:=rin (pv:=pv) (d:=d) d ξ;rw[decide_eq_false (λ⟨s,hs,e⟩=>by rw[dg s hs]at e;omega)]at ein;have sol:=aa3 inv Y dg;obtain⟨_,f1,d2,H2,pv2,rfl,inv2⟩:=Vr h hr hc ξ ξ hL2;have hd2:=inv2.hd;obtain⟨N,en,n1,_⟩:=amZ ξ hc ξ l1 (Nat.le_trans (G2 L (show d2<=d+1 by omega)) ξ) ξ f1 inv2;cases n1 (λk hk=>inv2.aaZ (Nat.le_refl d) ind hk);have eu:=uo (d:Int) (-1);rw[show(min ((d:Nat):Int) 65536).toNat=d by omega,dM (k:=λ_=>0) (λi _=>if_neg ξ),<-Lk]at eu;refine⟨λl=>H l d,?_,sol,λl hl=>inv.f l hl d⟩;unfold pS;refine aC rc<|aC ew<|aC e1<|aC ein<|bL Y<|aC eu<|bK (λt=>((t:Int),vq d (λl=>if l<t then H l d else 0))) d (vq d (λl=>H l d)) θ (λt ht=>?_) ?_ (aC en Y)
 ·have g0:(bq d pv)[t]? =some ((pv t:Nat):Int):=uh ht;have g1:(mq d (λ_=>d+1) H)[t]? =some (vq (d+1) (H t)):=gj ht;have g2:(vq (d+1) (H t))[d]? =some (qn (H t d)):=jL ξ;rw[dg t ht]at g0;have s:=vE (k:=d) (j:=t) (h:=λl=>if l<t then H l d else 0) (x:=H t d) ht;have s2:vq d (λi=>if i=t then H t d else if i<t then H i d else 0)=vq d (λl=>if l<t+1 then H l d else 0):=dM (λi _=>by
   by_cases e:i=t
   ·rw[if_pos e,if_pos ξ,e]
   rw[if_neg e];by_cases e2:i<t
   ·rw[if_pos e2,if_pos ξ]
   rw[if_neg e2,if_neg ξ])
  rw[s2]at s;have ln:=cM d (λ_=>d+1) H;have lv:=cq d (λl=>if l<t then H l d else 0);rw[<-s];generalize vq d (λl=>if l<t then H l d else 0)=X at*;generalize qn (H t d)=q at*;obtain⟨⟨_,_⟩,⟨_,_⟩⟩:=q;exact aC (congrArg some (show((mq d (λ_=>d+1) H).length:Int)=(d:Int) by rw[ln]))<|aC (dT ξ)<|bY Y<|aC (bH g0)<|aC (bH g1)<|aC (bH g2)<|aC (cO ξ)<|aC (fK ξ)<|aC (congrArg some (bQ ξ)) Y
 have ln:=cM d (λ_=>d+1) H;rw[dM (k:=λl=>H l d) (λi hi=>if_pos hi)];exact aC (congrArg some (show((mq d (λ_=>d+1) H).length:Int)=(d:Int) by rw[ln]))<|aC (dF ξ)<|bL Y Y
end
section
open Go.Fw
theorem adG{L w:Nat}{rows:List (List Qr)}{A:Nat->Nat->Rat}(h:kE L rows A)(hr:rows.length=w)(hc:oL rows=w)(h1:1<=w)(hw:w<=90)(hL:Dv L (w+1)<=100000000)(ind:WW w w w A):
  ∃res,eY rows=some res/\∃N:Nat->Nat->Rat,res=(mq w (λ_=>w) N,0)/\(∀i k,i<w->k<w->cI (λl=>A i l*N l k) w=if i=k then 1 else 0)/\(∀i k,FQ (Dv L w) (N i k))/\(∀i k,w<=i\/w<=k->N i k=0):=by
 have l1:=h.l1;have LL:Dv L w<=100000000:=Nat.le_trans (G2 L (show w<=w+1 by omega)) hL;unfold eY;refine Eh (congrArg some (show(rows.length:Int)=(w:Int) by rw[hr]))<|CC (λs=>∃(k:Nat) (X:Nat->Nat->Rat),s=((k:Int),mq k (λ_=>w) X)/\k<=w/\(∀j l,FQ (Dv L w) (X j l))/\(∀j l,k<=j\/w<=l->X j l=0)/\∀j,j<k->∀i,i<w->cI (λl=>A i l*X j l) w=if i=j then 1 else 0) (λe=>∃(X:Nat->Nat->Rat),e=.inl (mq w (λ_=>w) X)/\(∀j l,FQ (Dv L w) (X j l))/\(∀j l,w<=j\/w<=l->X j l=0)/\∀j,j<w->∀i,i<w->cI (λl=>A i l*X j l) w=if i=j then 1 else 0) (λs=>w-s.1.toNat) ?_ ⟨0,λ_ _=>0,Y,Nat.zero_le _,λ_ _=>nj (FZ l1 w),λ_ _ _=>Y,λj hj=>by omega⟩ ?_
 ·rintro _ ⟨k,X,rfl,hk,hf,hz,hs⟩;by_cases hlt:k<w
  ·have eu:=uo (w:Int) (k:Int);rw[show(min ((w:Nat):Int) 65536).toNat=w by omega]at eu;have ru:=aaE w (k:Int) (λ_=>by omega);obtain⟨x,ex,sx,fx⟩:=aje h hr hc h1 hw (ru.mono l1) (cq _ _) (λi=>by
    by_cases hi:i<w
    ·rw[List.getD_eq_getElem?_getD,jL hi];rfl
    rw[List.getD_eq_getElem?_getD,List.getElem?_eq_none (by rw[cq];omega),if_neg ξ];rfl) (by rw[Nat.max_self];exact hL) hL ind
   rw[Nat.max_self]at fx;have ap:lM 24 (mq k (λ_=>w) X) [vq w x]=some (mq (k+1) (λ_=>w) (λj l=>if j=k then(if l<w then x l else 0)else X j l)):=by
    rw[nh η (by rw[cM];omega),uH];congr 2
    ·exact lC (λj hj=>⟨Y,λl _=>by rw[if_neg ξ]⟩)
    congr 1;exact dM (λl hl=>by rw[if_pos Y,if_pos hl])
   refine⟨_,aC (dT ξ)<|bY Y<|aC eu<|aC ex<|cw<|aC Y<|aC (a:=false) (bL Y<|aC Y<|aC Y Y)<|bL Y<|aC ap<|aC (congrArg some (bQ ξ)) Y,.inl ⟨_,Y,⟨k+1,_,Y,hlt,λj l=>?_,λj l hjl=>?_,λj hj i hi=>?_⟩,by simp only[Int.toNat_natCast];omega⟩⟩
   ·show FQ (Dv L w) (if j=k then(if l<w then x l else 0)else X j l);split
    ·split
     ·exact fx l (by assumption)
     exact nj (FZ l1 w)
    exact hf j l
   ·show(if j=k then(if l<w then x l else 0)else X j l)=0;by_cases e:j=k
    ·rw[if_pos e,if_neg ξ]
    rw[if_neg e];exact hz j l ξ
   show cI (λl=>A i l*(if j=k then(if l<w then x l else 0)else X j l)) w=_;by_cases e:j=k
   ·rw[dx (k:=λl=>A i l*x l) (λl hl=>by rw[if_pos e,if_pos hl]),sx i hi,e];by_cases q:i=k
    ·rw[if_pos q,if_pos ξ]
    rw[if_neg q,if_neg ξ]
   rw[dx (k:=λl=>A i l*X j l) (λl hl=>by rw[if_neg e])];exact hs j ξ i hi
  obtain rfl:k=w:=by omega
  exact⟨_,aC (dF ξ)<|bL Y Y,.inr ⟨_,Y,X,Y,hf,hz,hs⟩⟩
 rintro _ ⟨X,rfl,hf,hz,hs⟩;have rX:kE (Dv L w) (mq w (λ_=>w) X) X:=zf (λj _ l _=>hf j l) (λj _ l hl=>hz j l (.inr hl)) (λj hj l=>hz j l (.inl hj)) (FZ l1 w);have pl:∀i j:Nat,i<w->j<w->fj 1 (⟨⟨false,[]⟩,⟨false,[]⟩⟩:Qr) (mq w (λ_=>w) X) [] (i:Int) (j:Int)=some (qn (X j i)):=λi j _ _=>by
  have e1:=O4 rX ξ j i;unfold fj;generalize qn (X j i)=q at*;exact aC (dT η)<|bY Y<|aC e1 Y
 have e3:=M7 (F:=λi j=>X j i) ξ ξ pl;have rc:=xY (mq w (λ_=>w) X) (by rw[cM];omega);rw[A3 h1]at rc;have et:m7 (mq w (λ_=>w) X)=some (mq w (λ_=>w) (λi j=>X j i)):=by
  unfold m7;exact aC rc<|aC (congrArg some (show((mq w (λ_=>w) X).length:Int)=(w:Int) by rw[cM]))<|aC e3 Y
 exact⟨_,aC et Y,λi j=>X j i,Y,λi k hi hk=>hs k hk i hi,λi k=>hf k i,λi k q=>hz k i ξ⟩
end
section
open Go.Fw
theorem linv{m:Nat}{B N:Nat->Nat->Rat}(ind:WW m m m B)(hN:∀i k,i<m->k<m->cI (λl=>B i l*N l k) m=if i=k then 1 else 0){i k:Nat}(hi:i<m)(hk:k<m):cI (λl=>N i l*B l k) m=if i=k then 1 else 0:=by
 have e:=ind (λl=>if l<m then cI (λt=>N l t*B t k) m-(if l=k then 1 else 0)else 0) (λl hl=>if_neg ξ) (λj hj=>?_) i hi
 ·show _=_;have e2:(if i<m then cI (λt=>N i t*B t k) m-(if i=k then 1 else 0)else 0:Rat)=0:=e;rw[if_pos hi]at e2;grind
 have q:cI (λl=>B j l*cI (λt=>N l t*B t k) m) m=B j k:=by
  rw[show(λl=>B j l*cI (λt=>N l t*B t k) m)=λl=>cI (λt=>B j l*(N l t*B t k)) m from funext λl=>(pY _ _ _).symm,Ae];rw[dx (k:=λt=>(if j=t then 1 else 0)*B t k) (λt ht=>?_),ir hj (λt _ hne=>by rw[if_neg (λq=>hne q.symm)];grind),if_pos rfl]
  ·grind
  rw[<-hN j t hj ht,Rat.mul_comm,<-pY];exact dx (λl _=>by grind)
 have q2:cI (λl=>B j l*(if l=k then 1 else 0)) m=B j k:=by
  rw[ir hk (λt _ hne=>by rw[if_neg hne];grind),if_pos rfl];grind
 show cI (λl=>B j l*(if l<m then cI (λt=>N l t*B t k) m-(if l=k then 1 else 0)else 0)) m=0;rw[dx (k:=λl=>B j l*cI (λt=>N l t*B t k) m-B j l*(if l=k then 1 else 0)) (λl hl=>by rw[if_pos hl];grind),Cz,q,q2];grind
theorem R5{m:Nat}{B N:Nat->Nat->Rat}{x y:Nat->Rat}(hl:∀i k,i<m->k<m->cI (λl=>N i l*B l k) m=if i=k then 1 else 0)(hE:∀i,i<m->x i=cI (λs=>B i s*y s) m){i:Nat}(hi:i<m):cI (λt=>N i t*x t) m=y i:=by
 rw[dx (k:=λt=>cI (λs=>N i t*(B t s*y s)) m) (λt ht=>by rw[hE t ht,pY]),Ae];rw[dx (k:=λs=>(if i=s then 1 else 0)*y s) (λs hs=>?_),ir hi (λt _ hne=>by rw[if_neg (λq=>hne q.symm)];grind),if_pos rfl]
 ·grind
 rw[<-hl i s hi hs,Rat.mul_comm,<-pY];exact dx (λl _=>by grind)
section basis
variable {n m:Nat}{E G H:Nat->Nat->Rat}{c d:Nat->Nat}
theorem ajf(tg:∀j,j<m->c j<n+m)(hu:Uc m G c)(hs:∀z,F0 n m E z↔F0 n m G z):WW m m m (λi s=>E i (c s)):=by
 intro z hz hn l hl;have one:∀(h:Nat->Rat) (i:Nat),i<m->cI (λj=>G i (c j)*h j) m=h i:=λh i hi=>by
  rw[ir hi (λj hj hne=>by rw[hu i j hi hj,if_neg (λq=>hne q.symm)];grind),hu i i hi hi,if_pos rfl];grind
 have s0:F0 n m G (λl=>cI (λj=>if c j=l then G j (n+m)else 0) m):=λi hi=>by rw[yN tg,one _ i hi]
 have e0:=(hs _).2 s0;have s1:F0 n m E (λl=>cI (λj=>if c j=l then G j (n+m)+z j else 0) m):=λi hi=>by
  have e:=e0 i hi;rw[yN tg]at e;have e2:cI (λl=>E i (c l)*z l) m=0:=hn i hi;rw[yN tg,dx (k:=λj=>E i (c j)*G j (n+m)+E i (c j)*z j) (λj _=>by grind),FR,e,e2];grind
 have g:=(hs _).1 s1 l hl;rw[yN tg,one _ l hl]at g;grind
end basis
end
section
open Go.Fw
theorem ajg{m:Nat}(hm:m<=1000):r9 (m:Int)=some (mq m (λ_=>m) (λi k=>if k=i then 1 else 0)):=by
 unfold r9;refine bK (λi=>((i:Int),mq i (λ_=>m) (λi k=>if k=i then 1 else 0))) m (mq m (λ_=>m) (λi k=>if k=i then 1 else 0)) Y (λi hi=>?_) (aC (FY ξ)<|aC (dF ξ)<|bL Y Y) Y;have eu:=uo (m:Int) (i:Int);rw[show(min ((m:Nat):Int) 65536).toNat=m by omega]at eu;have ap:lM 24 (mq i (λ_=>m) (λi k=>if k=i then 1 else 0)) [vq m (λl=>if(l:Int)=(i:Int)then 1 else 0)]=some (mq (i+1) (λ_=>m) (λi k=>if k=i then 1 else 0)):=by
  rw[nh η (by rw[cM];omega),uH];congr 2;congr 1;exact dM (λl _=>by
   by_cases e:l=i
   ·rw[if_pos e,if_pos ξ]
   rw[if_neg e,if_neg ξ])
 exact aC (FY ξ)<|aC (dT ξ)<|bY Y<|aC (FY ξ)<|aC eu<|aC ap<|aC (congrArg some (bQ ξ)) Y
def eqs(n m:Nat)(R:Nat->Nat->Rat)(i k:Nat):Rat:=if i<m then(if k<n then R i k else if k=n+i then 1 else 0)else 0
theorem am0{L:Nat}(h:1<=L):FQ L 1:=FQ.int (i:=1) (L:=L) (by unfold Fit;exact Nat.lt_of_lt_of_le (by decide:(1:Int).natAbs<4294967296^1) (Nat.pow_le_pow_right η h)) h
theorem aa4{L n m:Nat}{rw:List (List Qr)}{R:Nat->Nat->Rat}(h:kE L rw R)(i k:Nat):FQ L (eqs n m R i k):=by
 unfold eqs;split
 ·split
  ·exact(h.row i).fq k
  split
  ·exact am0 h.l1
  exact nj h.l1
 exact nj h.l1
theorem Vs{n m i k:Nat}{R:Nat->Nat->Rat}{g:Nat->Rat}(hi:i<m)(hk:k<n+m):eqs n m R i k=uj n m R g i k:=by
 unfold eqs uj;rw[if_pos hi];by_cases q:k<n
 ·rw[if_pos q,if_pos q]
 rw[if_neg q,if_neg q];by_cases q2:k=n+i
 ·rw[if_pos q2,if_pos q2]
 rw[if_neg q2,if_neg q2,if_neg ξ]
theorem Vt{L n m:Nat}{rw:List (List Qr)}{R:Nat->Nat->Rat}(h:kE L rw R):kE L (mq m (λ_=>n+m) (eqs n m R)) (eqs n m R):=
 zf (λi _ k _=>aa4 h i k) (λi hi k hk=>by unfold eqs;rw[if_pos hi,if_neg ξ,if_neg ξ]) (λi hi k=>by unfold eqs;rw[if_neg ξ]) h.l1
theorem Ll{L n m:Nat}{ob rw:List (List Qr)}{bd:List Qr}{R:Nat->Nat->Rat}(h:kE L rw R)(hL:L<=1000000000)(hm:rw.length=m)(hmm:m<=100)(hn:n<=100):
  ga ⟨(n:Int),ob,rw,bd⟩=some (mq m (λ_=>n+m) (eqs n m R)):=by
 have l1:=h.l1;have ft:=amW h hL (a:=m) (b:=n) ξ ξ;have um:=ajg (m:=m) ξ;have eC:mq m (λ_=>n) R=mq m (λ_=>n) (λi k=>if i<m/\k<n then R i k else 0):=lC (λi hi=>⟨Y,λk hk=>by rw[if_pos ⟨hi,hk⟩]⟩);have rA:kE L (mq m (λ_=>n) R) (λi k=>if i<m/\k<n then R i k else 0):=by
  rw[eC];exact zf (λi hi k hk=>by
   show FQ L (if i<m/\k<n then R i k else 0);rw[if_pos ⟨hi,hk⟩];exact(h.row i).fq k) (λi hi k hk=>if_neg ξ) (λi hi k=>if_neg ξ) l1
 have eU:mq m (λ_=>m) (λi k=>if k=i then 1 else 0)=mq m (λ_=>m) (λi k=>if i<m/\k=i then 1 else 0):=lC (λi hi=>⟨Y,λk hk=>by
  by_cases e:k=i
  ·rw[if_pos e,if_pos ⟨hi,e⟩]
  rw[if_neg e,if_neg (λq=>e q.2)]⟩)
 have rU:kE L (mq m (λ_=>m) (λi k=>if k=i then 1 else 0)) (λi k=>if i<m/\k=i then 1 else 0):=by
  rw[eU];refine zf (λi hi k hk=>?_) (λi hi k hk=>if_neg ξ) (λi hi k=>if_neg ξ) l1;show FQ L (if i<m/\k=i then 1 else 0);split
  ·exact am0 l1
  exact nj l1
 have lA:=cM m (λ_=>n) R;have lU:=cM m (λ_=>m) (λi k=>if k=i then 1 else 0);obtain⟨w,cA,cU,hw⟩:∃w:Nat,c6 (mq m (λ_=>n) R)=some (w:Int)/\c6 (mq m (λ_=>m) (λi k=>if k=i then 1 else 0))=some (m:Int)/\(m=0/\w=0\/1<=m/\w=n):=by
  rw[xY _ ξ,xY _ ξ];by_cases q:1<=m
  ·exact⟨n,by rw[A3 q],by rw[A3 q],.inr ⟨q,Y⟩⟩
  obtain rfl:m=0:=by omega
  exact⟨0,Y,Y,.inl ⟨Y,Y⟩⟩
 generalize mq m (λ_=>n) R=a at*;generalize mq m (λ_=>m) (λi k=>if k=i then 1 else 0)=u at*;have pl:∀i j:Nat,i<m->j<w+m->fj 3 ⟨⟨false,[]⟩,⟨false,[]⟩⟩ a u (i:Int) (j:Int)=some (qn (eqs n m R i j)):=λi j hi hj=>by
  have hwn:w=n:=by omega
  subst hwn;unfold fj;refine aC (dF η)<|bL Y<|aC (dF η)<|bL Y<|aC (dT η)<|bY Y<|aC cA ?_;by_cases q:j<w
  ·have e:=O4 rA ξ i j;have e2:eqs w m R i j=if i<m/\j<w then R i j else 0:=by unfold eqs;rw[if_pos hi,if_pos q,if_pos ⟨hi,q⟩]
   rw[e2];generalize qn (if i<m/\j<w then R i j else 0)=z at*;exact aC (dT ξ)<|bY Y<|aC e Y
  have e:=O4 rU ξ i (j-w);have e2:eqs w m R i j=if i<m/\j-w=i then 1 else 0:=by
   unfold eqs;rw[if_pos hi,if_neg q];by_cases e3:j=w+i
   ·rw[if_pos e3,if_pos ⟨hi,by omega⟩]
   rw[if_neg e3,if_neg ξ]
  rw[e2];generalize qn (if i<m/\j-w=i then 1 else 0)=z at*;exact aC (dF ξ)<|bL Y<|aC cA<|aC (congrArg some (show IntKind.i64.wrap ((j:Int)-(w:Int))=((j-w:Nat):Int) by rw[cQ ξ ξ];omega))<|aC e Y
 have e3:=M7 (F:=eqs n m R) (show m<=1024 by omega) (show w+m<=1024 by omega) pl;have e4:mq m (λ_=>w+m) (eqs n m R)=mq m (λ_=>n+m) (eqs n m R):=lC (λi hi=>⟨by omega,λ_ _=>Y⟩);rw[e4]at e3;have bs:oD a u=some (mq m (λ_=>n+m) (eqs n m R)):=by
  unfold oD;refine aC Y<|aC Y<|aC (congrArg some (show max (a.length:Int) (u.length:Int)=(m:Int) by rw[lA,lU];omega))<|aC cA<|aC cU<|aC (congrArg some (show IntKind.i64.wrap ((w:Int)+(m:Int))=((w+m:Nat):Int) by rw[cQ ξ ξ];omega))<|aC e3 Y
 unfold ga;exact aC (congrArg some (show(rw.length:Int)=(m:Int) by rw[hm]))<|aC ft<|aC (congrArg some (show(rw.length:Int)=(m:Int) by rw[hm]))<|aC um<|aC bs Y
end
section
open Go.Fw
theorem adH{L n m:Nat}{ob rw:List (List Qr)}{bd:List Qr}{R:Nat->Nat->Rat}{c:Nat->Nat}(h:kE L rw R)(hL:L<=1000000000)(hm:rw.length=m)(hmm:m<=100)(hn:n<=100):
  lJ ⟨⟨(n:Int),ob,rw,bd⟩,bq m c⟩=some (mq m (λ_=>m) (λi k=>eqs n m R i (c k))):=by
 have re:=Ll (ob:=ob) (bd:=bd) h hL hm hmm hn;have rr:=Vt (n:=n) (m:=m) h;have rl:=cM m (λ_=>n+m) (eqs n m R);have bl:=qG m c;have bg:∀j,j<m->(bq m c)[j]? =some ((c j:Nat):Int):=λj hj=>uh hj;unfold lJ;refine aC re ?_;have at4:∀i j:Nat,fC (mq m (λ_=>n+m) (eqs n m R)) (i:Int) ((c j:Nat):Int)=some (qn (eqs n m R i (c j))):=λi j=>O4 rr ξ i (c j);generalize mq m (λ_=>n+m) (eqs n m R)=a at*;generalize bq m c=bs at*;obtain⟨B,hB⟩:∃B:Nat->Nat->Rat,B=λi k=>eqs n m R i (c k):=⟨_,Y⟩;have at5:∀i j:Nat,fC a (i:Int) ((c j:Nat):Int)=some (qn (B i j)):=λi j=>by rw[hB];exact at4 i j
 rw[<-hB];clear hB at4;refine bK (λi=>((i:Int),mq i (λ_=>m) B)) m (mq m (λ_=>m) B) Y (λi hi=>?_) (aC (congrArg some (show(a.length:Int)=(m:Int) by rw[rl]))<|aC (dF ξ)<|bL Y Y) Y;refine aC (congrArg some (show(a.length:Int)=(m:Int) by rw[rl]))<|aC (dT ξ)<|bY Y<|bK (λj=>((j:Int),vq j (B i))) m (vq m (B i)) Y (λj hj=>?_) (aC (congrArg some (show(bs.length:Int)=(m:Int) by rw[bl]))<|aC (dF ξ)<|bL Y Y) ?_
 ·have e1:=at5 i j;have e2:lM 64 (vq j (B i)) [qn (B i j)]=some (vq (j+1) (B i)):=by rw[nh η (by rw[cq];omega),lZ]
  generalize qn (B i j)=q at*;exact aC (congrArg some (show(bs.length:Int)=(m:Int) by rw[bl]))<|aC (dT ξ)<|bY Y<|aC (bH (bg j hj))<|aC e1<|aC e2<|aC (congrArg some (bQ ξ)) Y
 have e3:lM 24 (mq i (λ_=>m) B) [vq m (B i)]=some (mq (i+1) (λ_=>m) B):=by
  rw[nh η (by rw[cM];omega),uH]
 exact aC e3<|aC (congrArg some (bQ ξ)) Y
section mul
variable {L M r m w:Nat}{a b:List (List Qr)}{A B:Nat->Nat->Rat}
theorem adI(ha:kE L a A)(hb:kE M b B)(ca:c6 a=some (m:Int))(hm:m<=1000)(hL:(m+1)*(L+M+1)+1<=2000000000)(i k:Nat):fj 2 ⟨⟨false,[]⟩,⟨false,[]⟩⟩ a b (i:Int) (k:Int)=some (qn (cI (λl=>A i l*B l k) m)):=by
 have hs:∀n,FQ (n*(L+M+1)+1) (cI (λl=>A i l*B l k) n):=λn=>OS (λl _=>((ha.row i).fq l).mul ((hb.row l).fq k));have hmm:∀n:Nat,n<=m->n*(L+M+1)<=m*(L+M+1):=λn hn=>Nat.mul_le_mul_right _ hn;rw[Nat.succ_mul]at hL;have l1:=ha.l1;have l2:=hb.l1;unfold fj;refine aC (dF η)<|bL Y<|aC (dT η)<|bY Y<|bK (λj=>((j:Int),(qn (cI (λl=>A i l*B l k) j)).num.neg,(qn (cI (λl=>A i l*B l k) j)).num.w,(qn (cI (λl=>A i l*B l k) j)).den.neg,(qn (cI (λl=>A i l*B l k) j)).den.w)) m
  ((qn (cI (λl=>A i l*B l k) m)).num.neg,(qn (cI (λl=>A i l*B l k) m)).num.w,(qn (cI (λl=>A i l*B l k) m)).den.neg,(qn (cI (λl=>A i l*B l k) m)).den.w) Y (λj hj=>?_) ?_ Y
 ·have hmj:=hmm j ξ;have a1:=O4 ha ξ i j;have a2:=O4 hb ξ j k;have r1:=((ha.row i).fq j).rep l1;have r2:=((hb.row j).fq k).rep l2;have e1:=r1.aaC r2 ξ;have e3:=((hs j).rep ξ).adp ((((ha.row i).fq j).mul ((hb.row j).fq k)).rep ξ) ξ;simp only[cI];generalize hq0:qn (cI (λl=>A i l*B l k) j)=q0 at e3⊢;generalize hq3:qn (cI (λl=>A i l*B l k) j+A i j*B j k)=q3 at e3⊢;generalize qn (A i j)=q1 at*;generalize qn (B j k)=q2 at*;generalize qn (A i j*B j k)=q4 at*;obtain⟨⟨_,_⟩,⟨_,_⟩⟩:=q0;obtain⟨⟨_,_⟩,⟨_,_⟩⟩:=q1;obtain⟨⟨_,_⟩,⟨_,_⟩⟩:=q2;obtain⟨⟨_,_⟩,⟨_,_⟩⟩:=q3;obtain⟨⟨_,_⟩,⟨_,_⟩⟩:=q4;exact aC ca<|aC (dT ξ)<|bY Y<|aC a1<|aC a2<|aC e1<|aC e3<|aC (congrArg some (bQ ξ)) Y
 exact aC ca<|aC (dF ξ)<|bL Y Y
theorem am1(ha:kE L a A)(hb:kE M b B)(la:a.length=r)(ca:c6 a=some (m:Int))(cb:c6 b=some (w:Int))(hr:r<=1024)(hw:w<=1024)(hm:m<=1000)(hL:(m+1)*(L+M+1)+1<=2000000000):
  lp a b=some (mq r (λ_=>w) (λi k=>cI (λl=>A i l*B l k) m)):=by
 have e:=M7 (F:=λi k=>cI (λl=>A i l*B l k) m) hr hw (λi k _ _=>adI ha hb ca hm hL i k);unfold lp;exact aC (congrArg some (show(a.length:Int)=(r:Int) by rw[la]))<|aC cb<|aC e Y
theorem ajh{g:Nat->Rat}{bd:List Qr}(ha:∀i,i<r->eM L (vq m (A i)) (A i))(hb:eM M bd g)(Jj:bd.length=m)(hr:r<=1000)(hm:m<=1000)(hL:(m+2)*(L+M+1)<=4000000000):
  nG (mq r (λ_=>m) A) bd=some (vq r (λi=>cI (λl=>A i l*g l) m)):=by
 have ml:=cM r (λ_=>m) A;have mg:∀i,i<r->(mq r (λ_=>m) A)[i]? =some (vq m (A i)):=λi hi=>gj hi;obtain⟨D,hD⟩:∃D:Nat->Rat,D=λi=>cI (λl=>A i l*g l) m:=⟨_,Y⟩;have dot:∀i,i<r->qX (vq m (A i)) bd=some (qn (D i)):=λi hi=>by
  have e:=aa0 (ha i hi) hb (by rw[cq];exact hL) (by rw[cq];omega);rw[cq,Jj,Nat.min_self]at e;rw[hD];exact e
 rw[<-hD];clear hD;unfold nG;generalize mq r (λ_=>m) A=a at*;refine bK (λi=>((i:Int),vq i D)) r (vq r D) Y (λi hi=>?_) (aC (congrArg some (show(a.length:Int)=(r:Int) by rw[ml]))<|aC (dF ξ)<|bL Y Y) Y;have e1:=dot i hi;have e2:lM 64 (vq i D) [qn (D i)]=some (vq (i+1) D):=by rw[nh η (by rw[cq];omega),lZ]
 generalize qn (D i)=q at*;exact aC (congrArg some (show(a.length:Int)=(r:Int) by rw[ml]))<|aC (dT ξ)<|bY Y<|aC (bH (mg i hi))<|aC e1<|aC e2<|aC (congrArg some (bQ ξ)) Y
end mul
end
section
open Go.Fw
section val
variable {K L n m p:Nat}{ob rw:List (List Qr)}{bd:List Qr}{O G:Nat->Nat->Rat}{c:Nat->Nat}
theorem rvalue(ho:kE K ob O)(hK:K<=1000000000)(hp:ob.length=p)(hp4:p<=1000)(hn:n<=1000)(k:Nat):jV ⟨(n:Int),ob,rw,bd⟩ (k:Int)=some (vq (p+n) (sO n p O k)):=by
 have at4:∀i:Nat,fC ob (i:Int) (k:Int)=some (qn (O i k)):=λi=>O4 ho ξ i k;obtain⟨V,hV⟩:∃V:Nat->Rat,V=λi=>if i<p then O i k else if i=p+k then-1 else 0:=⟨_,Y⟩;have v1:∀i,i<p->V i=O i k:=λi hi=>by rw[hV];exact if_pos hi
 have v2:V (p+k)=-1:=by rw[hV];show(if p+k<p then _ else if p+k=p+k then(-1:Rat)else 0)=-1;rw[if_neg ξ,if_pos rfl]
 have v3:∀i,p<=i->i≠p+k->V i=0:=λi h1 h2=>by rw[hV];show(if i<p then _ else if i=p+k then(-1:Rat)else 0)=0;rw[if_neg ξ,if_neg h2]
 unfold jV;refine bK (λi=>((i:Int),vq i V)) p (vq p V) Y (λi hi=>?_) (aC (congrArg some (show(ob.length:Int)=(p:Int) by rw[hp]))<|aC (dF ξ)<|bL Y Y) ?_
 ·have e1:=at4 i;have e2:lM 64 (vq i V) [qn (O i k)]=some (vq (i+1) V):=by rw[nh η (by rw[cq];omega),lZ,v1 i hi]
  generalize qn (O i k)=q at*;obtain⟨⟨_,_⟩,⟨_,_⟩⟩:=q;exact aC (congrArg some (show(ob.length:Int)=(p:Int) by rw[hp]))<|aC (dT ξ)<|bY Y<|aC e1<|aC e2<|aC (congrArg some (bQ ξ)) Y
 refine bK (λi=>((i:Int),vq (p+i) V)) n (vq (p+n) V) Y (λi hi=>?_) (aC (dF ξ)<|bL Y Y) ?_
 ·refine aC (dT ξ)<|bY Y ?_;by_cases e:i=k
  ·subst e;have e1:=CX (n:=-1) η;have e2:lM 64 (vq (p+i) V) [qn (-1)]=some (vq (p+i+1) V):=by rw[nh η (by rw[cq];omega),lZ,v2]
   have hq:qn ((-1:Int):Rat)=qn (-1):=rfl;rw[hq]at e1;generalize qn (-1)=q at*;obtain⟨⟨_,_⟩,⟨_,_⟩⟩:=q;exact aC (dT ξ)<|cw<|bY Y<|aC e1<|aC e2<|aC (congrArg some (bQ ξ)) Y
  have e2:lM 64 (vq (p+i) V) [⟨⟨false,[]⟩,⟨false,[]⟩⟩]=some (vq (p+i+1) V):=by
   rw[nh η (by rw[cq];omega),lZ,v3 (p+i) ξ ξ];rfl
  exact aC (dF ξ)<|cw<|bL Y<|aC e2<|aC (congrArg some (bQ ξ)) Y
 by_cases e:k<n
 ·refine aC (dF ξ)<|bL Y (congrArg some (dM (λi hi=>?_)));rw[hV];show(if i<p then O i k else if i=p+k then-1 else 0)=_;unfold sO;rw[if_pos e]
 have eu:=uo ((p+n:Nat):Int) (-1);rw[show(min ((p+n:Nat):Int) 65536).toNat=p+n by omega]at eu;refine aC (dT ξ)<|bY Y<|aC (congrArg some (show((vq (p+n) V).length:Int)=((p+n:Nat):Int) by rw[cq]))<|aC eu (congrArg some (dM (λi hi=>?_)));unfold sO;rw[if_neg e,if_neg ξ]
theorem am2(ho:kE K ob O)(hK:K<=1000000000)(hp:ob.length=p)(h:wW L n m p O G c)(hL:(m+1)*(L+L+1)<=2000000000){g:Nat->Rat}(hg:∀j,j<m->FQ L (g j)):
  qE ⟨⟨(n:Int),ob,rw,bd⟩,bq m c⟩ (vq m g)=some (vq (p+n) (pZ n p O c g m)):=by
 have hX:m*(L+L+1)+(L+L+1)<=2000000000:=by rw[<-Nat.succ_mul];exact hL
 have hm:=h.hm;have hn:=h.hn;have hp4:=h.hp;have h1:=h.l1;have bl:=qG m c;have bg:∀j,j<m->(bq m c)[j]? =some ((c j:Nat):Int):=λj hj=>uh hj;have eu:=uo ((p+n:Nat):Int) (-1);rw[show(min ((p+n:Nat):Int) 65536).toNat=p+n by omega]at eu;rw[show vq (p+n) (λi=>if(i:Int)=-1 then 1 else 0)=vq (p+n) (pZ n p O c g 0)from dM (λi _=>by rw[if_neg ξ];rfl)]at eu;have val:∀k:Nat,jV ⟨(n:Int),ob,rw,bd⟩ (k:Int)=some (vq (p+n) (sO n p O k)):=λk=>rvalue ho hK hp ξ ξ k;unfold qE;refine aC (congrArg some (show(ob.length:Int)=(p:Int) by rw[hp]))<|aC (congrArg some (show IntKind.i64.wrap ((p:Int)+(n:Int))=((p+n:Nat):Int) by rw[cQ ξ ξ];omega))<|aC eu ?_;generalize bq m c=bs at*;refine bK (λk=>(vq (p+n) (pZ n p O c g k),(k:Int))) m (vq (p+n) (pZ n p O c g m)) Y (λk hk=>?_) (aC (congrArg some (show(bs.length:Int)=(m:Int) by rw[bl]))<|aC (dF ξ)<|bL Y Y) Y;have a1:=A0 (vq m g) k;rw[List.getD_eq_getElem?_getD,jL hk]at a1;replace a1:gZ (vq m g) (k:Int)=some (qn (g k)):=a1;have rg:=(hg k hk).rep h1;have va:=Vi rg (I4 h (c k)) (CB h hg (Nat.le_of_lt hk)) (by have:=Nat.mul_le_mul_right (L+L+1) (show k<=m by omega);omega) (by rw[cq];omega) (by rw[cq];omega)
 have e0:vq (max (vq (p+n) (sO n p O (c k))).length (vq (p+n) (pZ n p O c g k)).length) (λi=>g k*sO n p O (c k) i+pZ n p O c g k i)=vq (p+n) (pZ n p O c g (k+1)):=by
  rw[cq,cq,Nat.max_self];refine dM (λi _=>?_);show _=cI _ k+_;unfold pZ;grind
 rw[e0]at va;have vk:=val (c k);generalize vq (p+n) (pZ n p O c g (k+1))=o2 at*;generalize vq (p+n) (pZ n p O c g k)=o1 at*;generalize vq (p+n) (sO n p O (c k))=o3 at*;generalize qn (g k)=q at*;obtain⟨⟨_,_⟩,⟨_,_⟩⟩:=q;exact aC (congrArg some (show(bs.length:Int)=(m:Int) by rw[bl]))<|aC (dT ξ)<|bY Y<|aC a1<|aC (bH (bg k hk))<|aC vk<|aC va<|aC (congrArg some (bQ ξ)) Y
theorem aji(ho:kE K ob O)(hK:K<=1000000000)(hp:ob.length=p)(hm:rw.length=m)(h:wW L n m p O G c)(hL:(m+1)*(L+L+1)<=1000000000)(er:jk ⟨⟨(n:Int),ob,rw,bd⟩,bq m c⟩=some (mq m (λ_=>n+m) G)):
  fU ⟨⟨(n:Int),ob,rw,bd⟩,bq m c⟩=some (mq (n+m) (λ_=>p+n) (sJ n m p O G c)):=by
 have hX:m*(L+L+1)+(L+L+1)<=1000000000:=by rw[<-Nat.succ_mul];exact hL
 have hm1:=h.hm;have hn:=h.hn;have hp4:=h.hp;have h1:=h.l1;have rl:=cM m (λ_=>n+m) G;have mg:∀i,i<m->(mq m (λ_=>n+m) G)[i]? =some (vq (n+m) (G i)):=λi hi=>gj hi;have sm:∀k,k<n+m->qE ⟨⟨(n:Int),ob,rw,bd⟩,bq m c⟩ (vq m (λi=>G i k))=some (vq (p+n) (pZ n p O c (λi=>G i k) m)):=λk _=>am2 ho hK hp h ξ (λj hj=>h.f j hj k);have val:∀k:Nat,jV ⟨(n:Int),ob,rw,bd⟩ (k:Int)=some (vq (p+n) (sO n p O k)):=λk=>rvalue ho hK hp ξ ξ k;have sub:∀k:Nat,qW (vq (p+n) (pZ n p O c (λi=>G i k) m)) (vq (p+n) (sO n p O k))=some (vq (p+n) (sJ n m p O G c k)):=λk=>by
  have s:=aaF (CB h (g:=λj=>G j k) (λj hj=>h.f j hj k) (Nat.le_refl m)) (I4 h k) ξ (by rw[cq];omega) (by rw[cq];omega);rw[cq,cq,Nat.max_self]at s;exact s
 unfold fU;refine aC er ?_;generalize mq m (λ_=>n+m) G=rows at*;generalize hbs:bq m c=bs at*;obtain⟨D,hD⟩:∃D:Nat->Nat->Rat,D=sJ n m p O G c:=⟨_,Y⟩;rw[<-hD]at sub⊢;have hw:IntKind.i64.wrap ((n:Int)+(rw.length:Int))=((n+m:Nat):Int):=by rw[hm,cQ ξ ξ];omega
 refine bK (λk=>((k:Int),mq k (λ_=>p+n) D)) (n+m) (mq (n+m) (λ_=>p+n) D) Y (λk hk=>?_) (aC Y<|aC (congrArg some hw)<|aC (dF ξ)<|bL Y Y) Y;refine aC Y<|aC (congrArg some hw)<|aC (dT ξ)<|bY Y<|bK (λi=>((i:Int),vq i (λi=>G i k))) m (vq m (λi=>G i k)) Y (λi hi=>?_) (aC (congrArg some (show(rows.length:Int)=(m:Int) by rw[rl]))<|aC (dF ξ)<|bL Y Y) ?_
 ·have g2:(vq (n+m) (G i))[k]? =some (qn (G i k)):=jL hk;have e2:lM 64 (vq i (λi=>G i k)) [qn (G i k)]=some (vq (i+1) (λi=>G i k)):=by rw[nh η (by rw[cq];omega),lZ]
  generalize qn (G i k)=q at*;obtain⟨⟨_,_⟩,⟨_,_⟩⟩:=q;exact aC (congrArg some (show(rows.length:Int)=(m:Int) by rw[rl]))<|aC (dT ξ)<|bY Y<|aC (bH (mg i hi))<|aC (bH g2)<|aC e2<|aC (congrArg some (bQ ξ)) Y
 have e3:lM 24 (mq k (λ_=>p+n) D) [vq (p+n) (D k)]=some (mq (k+1) (λ_=>p+n) D):=by
  rw[nh η (by rw[cM];omega),uH]
 exact aC (sm k hk)<|aC (val k)<|aC (sub k)<|aC e3<|aC (congrArg some (bQ ξ)) Y
theorem adJ(ho:kE K ob O)(hK:K<=1000000000)(hp:ob.length=p)(h:wW L n m p O G c)(hL:(m+1)*(L+L+1)<=2000000000)(eh:jy ⟨⟨(n:Int),ob,rw,bd⟩,bq m c⟩=some (vq m (λi=>G i (n+m)))):
  su ⟨⟨(n:Int),ob,rw,bd⟩,bq m c⟩=some (vq (p+n) (pZ n p O c (λj=>G j (n+m)) m)):=by
 unfold su;exact aC eh<|aC (am2 ho hK hp h hL (λj hj=>h.f j hj (n+m))) Y
theorem WD(h:wW L n m p O G c)(eh:jy ⟨⟨(n:Int),ob,rw,bd⟩,bq m c⟩=some (vq m (λi=>G i (n+m)))):
  nx ⟨⟨(n:Int),ob,rw,bd⟩,bq m c⟩=some (vq n (rz n m G c m)):=by
 have hm:=h.hm;have hn:=h.hn;have bl:=qG m c;have bg:∀j,j<m->(bq m c)[j]? =some ((c j:Nat):Int):=λj hj=>uh hj;have eu:=uo (n:Int) (-1);rw[show(min (n:Int) 65536).toNat=n by omega]at eu;rw[show vq n (λi=>if(i:Int)=-1 then 1 else 0)=vq n (rz n m G c 0)from dM (λi _=>by rw[if_neg ξ];rfl)]at eu;unfold nx;refine aC ((Lk _ _).trans eu)<|aC eh ?_;generalize bq m c=bs at*;refine bK (λk=>((k:Int),vq n (rz n m G c k))) m (vq n (rz n m G c m)) Y (λk hk=>?_) (aC (congrArg some (show(bs.length:Int)=(m:Int) by rw[bl]))<|aC (dF ξ)<|bL Y Y) Y;have g1:(vq m (λi=>G i (n+m)))[k]? =some (qn (G k (n+m))):=jL hk;have g2:=bg k hk;have hl:=cq n (rz n m G c k);by_cases Xs:c k<n
 ·have s:=vE (k:=n) (j:=c k) (h:=rz n m G c k) (x:=G k (n+m)) Xs;have s2:vq n (λi=>if i=c k then G k (n+m)else rz n m G c k i)=vq n (rz n m G c (k+1)):=dM (λi _=>by
   show _=if c k<n/\i=c k then _ else _;by_cases e:i=c k
   ·rw[if_pos e,if_pos ⟨Xs,e⟩]
   rw[if_neg e,if_neg (λq=>e q.2)])
  rw[s2]at s;rw[<-s];clear s s2;generalize vq n (rz n m G c k)=l at*;generalize qn (G k (n+m))=q at*;obtain⟨⟨_,_⟩,⟨_,_⟩⟩:=q;exact aC (congrArg some (show(bs.length:Int)=(m:Int) by rw[bl]))<|aC (dT ξ)<|bY Y<|aC (bH g2)<|aC (dT ξ)<|cw<|bY Y<|aC (bH g2)<|aC (bH g1)<|aC (cO ξ)<|aC (fK ξ)<|aC (congrArg some (bQ ξ)) Y
 have s2:vq n (rz n m G c k)=vq n (rz n m G c (k+1)):=dM (λi _=>by
  show _=if c k<n/\i=c k then _ else _;rw[if_neg (λq=>Xs q.1)])
 rw[<-s2];exact aC (congrArg some (show(bs.length:Int)=(m:Int) by rw[bl]))<|aC (dT ξ)<|bY Y<|aC (bH g2)<|aC (dF ξ)<|cw<|bL Y<|aC (congrArg some (bQ ξ)) Y
theorem WE(h:wW L n m p O G c)(hL:L<=4000000000)(eh:jy ⟨⟨(n:Int),ob,rw,bd⟩,bq m c⟩=some (vq m (λi=>G i (n+m)))):
  ny ⟨⟨(n:Int),ob,rw,bd⟩,bq m c⟩=some (decide (∀i,i<m->0<=G i (n+m))):=by
 have hm:=h.hm;have ll:=cq m (λi=>G i (n+m));unfold ny;refine aC eh<|aC (ug (n:=m) (p:=λi=>0<=G i (n+m)) (e:=false) (λk hk=>?_) (aC (congrArg some (show((vq m (λi=>G i (n+m))).length:Int)=(m:Int) by rw[ll]))<|aC (dF ξ)<|bL Y Y)) ?_
 ·have g1:(vq m (λi=>G i (n+m)))[k]? =some (qn (G k (n+m))):=jL hk;have sg:=((h.f k hk (n+m)).rep h.l1).RN ξ;generalize vq m (λi=>G i (n+m))=l at*;generalize qn (G k (n+m))=q at*;obtain⟨⟨_,_⟩,⟨_,_⟩⟩:=q;refine aC (congrArg some (show(l.length:Int)=(m:Int) by rw[ll]))<|aC (dT ξ)<|bY Y<|aC (bH g1)<|aC sg ?_;by_cases q:G k (n+m)<0
  ·rw[if_neg (by grind)];exact aC (dT (FP.2 q))<|bY Y Y
  rw[if_pos (by grind)];exact aC (dF (λe=>q (FP.1 e)))<|bL Y<|aC (congrArg some (bQ ξ)) Y
 by_cases q:∀i,i<m->0<=G i (n+m)
 ·rw[if_pos q,decide_eq_true q]
 rw[if_neg q,decide_eq_false q]
theorem aa5(h:wW L n m p O G c)(hL:(m+1)*(L+L+1)<=1000000000)(ec:fU ⟨⟨(n:Int),ob,rw,bd⟩,bq m c⟩=some (mq (n+m) (λ_=>p+n) (sJ n m p O G c))):
  oE ⟨⟨(n:Int),ob,rw,bd⟩,bq m c⟩=some (decide (∀k,k<n+m->0<=oK (sJ n m p O G c k) (λ_=>0) (p+n))):=by
 have hX:m*(L+L+1)+(L+L+1)<=1000000000:=by rw[<-Nat.succ_mul];exact hL
 have hm:=h.hm;have hn:=h.hn;have hp4:=h.hp;have rl:=cM (n+m) (λ_=>p+n) (sJ n m p O G c);have mg:∀i,i<n+m->(mq (n+m) (λ_=>p+n) (sJ n m p O G c))[i]? =some (vq (p+n) (sJ n m p O G c i)):=λi hi=>gj hi;have lx:∀k,k<n+m->qY (vq (p+n) (sJ n m p O G c k)) []=some (oK (sJ n m p O G c k) (λ_=>0) (p+n)):=λk hk=>by
  have e:=atL (M3 h ξ hk).2 (eM.nil (L:=1) η) ξ (by rw[cq];omega) η;rw[cq,List.length_nil,Nat.max_zero]at e;exact e
 unfold oE;refine aC ec ?_;generalize mq (n+m) (λ_=>p+n) (sJ n m p O G c)=l at*;refine aC (ug (n:=n+m) (p:=λk=>0<=oK (sJ n m p O G c k) (λ_=>0) (p+n)) (e:=false) (λk hk=>?_) (aC (congrArg some (show(l.length:Int)=((n+m:Nat):Int) by rw[rl]))<|aC (dF ξ)<|bL Y Y)) ?_
 ·refine aC (congrArg some (show(l.length:Int)=((n+m:Nat):Int) by rw[rl]))<|aC (dT ξ)<|bY Y<|aC (bH (mg k hk))<|aC (lx k hk) ?_;by_cases q:0<=oK (sJ n m p O G c k) (λ_=>0) (p+n)
  ·rw[if_pos q];exact aC (dF ξ)<|bL Y<|aC (congrArg some (bQ ξ)) Y
  rw[if_neg q];exact aC (dT ξ)<|bY Y Y
 by_cases q:∀k,k<n+m->0<=oK (sJ n m p O G c k) (λ_=>0) (p+n)
 ·rw[if_pos q,decide_eq_true q]
 rw[if_neg q,decide_eq_false q]
end val
end
section
open Go.Fw
theorem WW.congr{m r w:Nat}{A B:Nat->Nat->Rat}(h:WW m r w A)(e:∀i l,i<r->l<w->A i l=B i l):WW m r w B:=λz hz hn=>h z hz (λi hi=>by
 have q:=hn i hi;rw[dx (k:=λl=>B i l*z l) (λl hl=>by rw[e i l hi hl])];exact q)
theorem WG:eY []=some ([],0):=by
 have tu:m7 []=some []:=by
  have e:=M7 (a:=0) (b:=0) (kd:=1) (c:=⟨⟨false,[]⟩,⟨false,[]⟩⟩) (rw:=[]) (rv:=[]) (F:=λ_ _=>0) η η (λi j hi=>by omega);have c:=xY [] η;unfold m7;exact aC c<|aC Y<|aC e Y
 unfold eY;refine aC Y ?_;exact bK (λi=>((i:Int),[])) 0 (.inl []) Y (λi hi=>by omega) (aC (dF η)<|bL Y Y) (aC tu Y)
section same
variable {n m p:Nat}{ob rw:List (List Qr)}{bd:List Qr}{O R G:Nat->Nat->Rat}{g:Nat->Rat}{c:Nat->Nat}
theorem sz6{m:Nat}(hm:m<=6):Dv 6 m<=25941:=Nat.le_trans (G2 6 hm) η
theorem sz5{m:Nat}(hm:m<=5):Dv 6 m<=6485:=Nat.le_trans (G2 6 hm) η
def Vu(n m:Nat)(R:Nat->Nat->Rat)(c:Nat->Nat)(i k:Nat):Rat:=if k<m then eqs n m R i (c k)else 0
theorem ajj(n m:Nat)(R:Nat->Nat->Rat)(c:Nat->Nat):mq m (λ_=>m) (λi k=>eqs n m R i (c k))=mq m (λ_=>m) (Vu n m R c):=lC (λi hi=>⟨Y,λk hk=>(if_pos hk).symm⟩)
theorem adK(rr:kE 6 rw R):kE 6 (mq m (λ_=>m) (Vu n m R c)) (Vu n m R c):=
 zf (λi _ k hk=>by unfold Vu;rw[if_pos hk];exact aa4 rr i (c k)) (λi _ k hk=>if_neg ξ) (λi hi k=>by
  unfold Vu eqs;split
  ·exact if_neg ξ
  rfl) η
theorem O5(tg:∀j,j<m->c j<n+m){i k:Nat}(hi:i<m)(hk:k<m):Vu n m R c i k=uj n m R g i (c k):=by
 unfold Vu;rw[if_pos hk];exact Vs hi (tg k hk)
theorem adL(rr:kE 6 rw R)(hm:rw.length=m)(m5:m<=5)(hn:n<=64)(tg:∀j,j<m->c j<n+m)(ind:WW m m m (λi s=>uj n m R g i (c s))):
  ∃N:Nat->Nat->Rat,eY (mq m (λ_=>m) (Vu n m R c))=some (mq m (λ_=>m) N,0)/\(∀i k,i<m->k<m->cI (λl=>Vu n m R c i l*N l k) m=if i=k then 1 else 0)/\(∀i k,FQ 6485 (N i k))/\(∀i k,m<=i\/m<=k->N i k=0):=by
 by_cases q:1<=m
 ·obtain⟨_,e,N,rfl,h1,h2,h3⟩:=adG (adK (n:=n) (m:=m) (c:=c) rr) (cM _ _ _) (A3 q) q ξ (by have:=sz6 (show m+1<=6 by omega);omega) (ind.congr (λi l hi hl=>(O5 tg hi hl).symm));exact⟨N,e,h1,λi k=>(h2 i k).mono (sz5 m5),h3⟩
 obtain rfl:m=0:=by omega
 exact⟨λ_ _=>0,WG,λi k hi=>by omega,λ_ _=>nj η,λ_ _ _=>Y⟩
theorem am3{ob':List (List Qr)}(rr:kE 6 rw R)(rb:eM 6 bd g)(hm:rw.length=m)(hbd:bd.length=m)(m5:m<=5)(hn:n<=64)(tg:∀j,j<m->c j<n+m)(hu:Uc m G c)(hs:∀z,F0 n m (uj n m R g) z↔F0 n m G z):
  MO ⟨⟨(n:Int),ob',rw,bd⟩,bq m c⟩=some true/\jk ⟨⟨(n:Int),ob',rw,bd⟩,bq m c⟩=some (mq m (λ_=>n+m) G)/\jy ⟨⟨(n:Int),ob',rw,bd⟩,bq m c⟩=some (vq m (λi=>G i (n+m))):=by
 have ind:=ajf tg hu hs;have mx:=adH (ob:=ob') (bd:=bd) (c:=c) rr η hm ξ ξ (n:=n);rw[ajj]at mx;obtain⟨N,eN,n1,n2,n3⟩:=adL rr hm m5 hn tg ind;have eq:=Ll (ob:=ob') (bd:=bd) rr η hm ξ (show n<=100 by omega);have er:=Vt (n:=n) (m:=m) rr;have rN:kE 6485 (mq m (λ_=>m) N) N:=zf (λi _ k _=>n2 i k) (λi _ k hk=>n3 i k (.inr hk)) (λi hi k=>n3 i k (.inl hi)) ξ;have atN:WW m m m (Vu n m R c):=ind.congr (λi l hi hl=>(O5 tg hi hl).symm);have lN:∀i k,i<m->k<m->cI (λl=>N i l*Vu n m R c l k) m=if i=k then 1 else 0:=λi k hi hk=>linv atN n1 hi hk;have tr:∀i k,i<m->k<=n+m->uj n m R g i k=cI (λs=>Vu n m R c i s*G s k) m:=λi k hi hk=>by
  rw[G1 tg hu (λz=>(hs z).2) hi hk];exact dx (λs hs'=>by rw[O5 tg hi hs'])
 have hX:(m+1)*(6485+6+1)+1<=2000000000:=by omega
 have hX7:(m+2)*(6485+6+1)<=4000000000:=by
  obtain⟨K,hK⟩:∃K,K=6485+6+1:=⟨_,Y⟩;have:=Nat.mul_le_mul_right K (show m+2<=7 by omega);rw[<-hK];omega
 have ti:nG (mq m (λ_=>m) N) bd=some (vq m (λi=>G i (n+m))):=by
  have e:=ajh (L:=6485) (M:=6) (r:=m) (λi hi=>pG (λk _=>n2 i k) (λk hk=>n3 i k (.inr hk)) rN.l1) rb hbd ξ ξ hX7;rw[e];refine congrArg some (dM (λi hi=>?_));refine R5 (B:=Vu n m R c) (y:=λs=>G s (n+m)) lN (λi hi=>?_) hi;rw[<-tr i (n+m) hi (Nat.le_refl _)];unfold uj;rw[if_neg ξ,if_neg ξ,if_pos rfl]
 have mu:lp (mq m (λ_=>m) N) (mq m (λ_=>n+m) (eqs n m R))=some (mq m (λ_=>n+m) G):=by
  by_cases q:1<=m
  ·have cA:c6 (mq m (λ_=>m) N)=some (m:Int):=by rw[xY _ (by rw[cM];omega),A3 q]
   have cB:c6 (mq m (λ_=>n+m) (eqs n m R))=some ((n+m:Nat):Int):=by rw[xY _ (by rw[cM];omega),A3 q]
   have e:=am1 rN er (cM _ _ _) cA cB ξ ξ ξ hX;rw[e];refine congrArg some (lC (λi hi=>⟨Y,λk hk=>?_⟩));refine R5 (B:=Vu n m R c) (y:=λs=>G s k) lN (λi hi=>?_) hi;rw[<-tr i k hi (Nat.le_of_lt hk)];exact Vs hi hk
  obtain rfl:m=0:=by omega
  have c0:=xY [] η;have e:=M7 (a:=0) (b:=0) (kd:=2) (c:=⟨⟨false,[]⟩,⟨false,[]⟩⟩) (rw:=[]) (rv:=[]) (F:=λ_ _=>0) η η (λi j hi=>by omega);show lp [] []=some [];unfold lp;exact aC Y<|aC c0<|aC e Y
 refine⟨?_,?_,?_⟩
 ·unfold MO;exact aC mx<|aC eN Y
 ·unfold jk;exact aC mx<|aC eN<|aC eq<|aC mu Y
 unfold jy;exact aC mx<|aC eN<|aC ti Y
theorem afU{L r w:Nat}{F:Nat->Nat->Rat}(hf:∀i,i<r->∀k,k<w->FQ L (F i k))(h1:1<=L)(hL:L<=100000000000)(hr:r<=1000)(hw:w<=1000):tZ (mq r (λ_=>w) F) (mq r (λ_=>w) F)=some true:=by
 have ml:=cM r (λ_=>w) F;have mg:∀i,i<r->(mq r (λ_=>w) F)[i]? =some (vq w (F i)):=λi hi=>gj hi;have si:∀i,i<r->lI (vq w (F i)) (vq w (F i))=some true:=λi hi=>(OZ (hf i hi) h1).ris hL (by rw[cq];omega);unfold tZ;generalize mq r (λ_=>w) F=a at*;refine aC Y<|aC Y<|aC (dF (λq=>q Y))<|bL Y<|bK (λi=>(i:Int)) r (.inl ()) Y (λi hi=>?_) (aC (congrArg some (show(a.length:Int)=(r:Int) by rw[ml]))<|aC (dF ξ)<|bL Y Y) Y;exact aC (congrArg some (show(a.length:Int)=(r:Int) by rw[ml]))<|aC (dT ξ)<|bY Y<|aC (bH (mg i hi))<|aC (bH (mg i hi))<|aC (si i hi)<|aC Y<|bL Y<|aC (congrArg some (bQ ξ)) Y
theorem is7(ro:kE 6 ob O)(hp:ob.length=p)(hm:rw.length=m)(m5:m<=5)(h:wW 6485 n m p O G c)
  (eR:jk ⟨⟨(n:Int),ob,rw,bd⟩,bq m c⟩=some (mq m (λ_=>n+m) G)) (eH:jy ⟨⟨(n:Int),ob,rw,bd⟩,bq m c⟩=some (vq m (λi=>G i (n+m)))):
  uc (Lx n m p O G c) ⟨⟨(n:Int),ob,rw,bd⟩,bq m c⟩=some true:=by
 have hn:=h.hn;have hp4:=h.hp;obtain⟨K,hK⟩:∃K,K=6485:=⟨_,Y⟩;rw[<-hK]at h;have hX5:(m+1)*(K+K+1)<=6*(K+K+1):=Nat.mul_le_mul_right _ ξ;have hX:m*(K+K+1)+(K+K+1)<=6*(K+K+1):=by rw[<-Nat.succ_mul];exact hX5
 have tB:=T3 (n:=n) (m:=m) (p:=p) (O:=O) (F:=G) (b:=c) ξ;have iB:=M5 (bq m c) (by rw[qG];omega);have tR:=afT h ξ;have iR:=afU (r:=m) (w:=n+m) (F:=G) (λi hi k _=>h.f i hi k) h.l1 ξ ξ ξ;have tH:=RR h ξ;have iH:=(OZ (L:=K) (n:=m) (f:=λi=>G i (n+m)) (λi hi=>h.f i hi _) h.l1).ris ξ (by rw[cq];omega);have tC:=aaW h ξ;have eC:=aji (bd:=bd) ro η hp hm h ξ eR;have iC:=afU (r:=n+m) (w:=p+n) (F:=sJ n m p O G c) (L:=80000000) (λi hi k _=>((M3 h ξ hi).2.fq k).mono ξ) η η ξ ξ;have tV:=O1 h ξ;have eV:=adJ ro η hp h ξ eH;have iV:=(CB h (g:=λj=>G j (n+m)) (λj hj=>h.f j hj _) (Nat.le_refl m)).ris ξ (by rw[cq];omega);have tS:=G0 h ξ;have eS:=WD h eH;have ryS:eM K (vq n (rz n m G c m)) (rz n m G c m):=pG (λi _=>Vq h m (Nat.le_refl m) i) (λi hi=>RX m i hi) ξ;have iS:=ryS.ris ξ (by rw[cq];omega);have tF:=M4 h ξ;have eF:=WE h ξ eH;have tO:=Lj h ξ;have eO:=aa5 h ξ eC;unfold uc
 exact cw<|aC (a:=false) (bL Y<|aC tB<|aC iB<|aC Y Y)<|aC (a:=false) (bL Y<|aC tR<|aC eR<|aC iR<|aC Y Y)<|aC (a:=false) (bL Y<|aC tH<|aC eH<|aC iH<|aC Y Y)<|aC (a:=false) (bL Y<|aC tC<|aC eC<|aC iC<|aC Y Y)<|bL Y<|cw<|aC tV<|aC eV<|aC iV<|aC (a:=true) (bY Y<|aC tS<|aC eS<|aC iS Y)<|aC (a:=true) (bY Y<|aC tF<|aC eF<|aC (congrArg some (beq_self_eq_true _)) Y)<|aC (a:=true) (bY Y<|aC tO<|aC eO<|aC (congrArg some (beq_self_eq_true _)) Y) Y
end same
end
section
open Go.Fw
section tab
variable {L n m p:Nat}{ob rw:List (List Qr)}{bd:List Qr}{O F:Nat->Nat->Rat}{b:Nat->Nat}
theorem ajk(hm:rw.length=m)(hmm:m<=128)(hn:n<=64):pU ⟨(n:Int),ob,rw,bd⟩=some ((n:Int),ob,rw,bd,bq m (λj=>n+j)):=by
 unfold pU;refine bK (λi=>((i:Int),bq i (λj=>n+j))) m (bq m (λj=>n+j)) Y (λi hi=>?_) (aC (congrArg some (show(rw.length:Int)=(m:Int) by rw[hm]))<|aC (dF ξ)<|bL Y Y) Y;have ap:lM 8 (bq i (λj=>n+j)) [((n+i:Nat):Int)]=some (bq (i+1) (λj=>n+j)):=by rw[nh η (by rw[qG];omega),O0]
 exact aC (congrArg some (show(rw.length:Int)=(m:Int) by rw[hm]))<|aC (dT ξ)<|bY Y<|aC (congrArg some (show IntKind.i64.wrap ((n:Int)+(i:Int))=((n+i:Nat):Int) by rw[cQ ξ ξ];omega))<|aC ap<|aC (congrArg some (bQ ξ)) Y
theorem aa6(a:Int)(b c:List (List Qr))(d:List Qr)(e:List Int):wU a b c d e=jk ⟨⟨a,b,c,d⟩,e⟩:=rfl
theorem adM(h:wW L n m p O F b)(hL:L<=100000000)(hm':rw.length=m)(eR:jk ⟨⟨(n:Int),ob,rw,bd⟩,bq m b⟩=some (mq m (λ_=>n+m) F))(r c:Int):
  (∃e,cg true n (mq p (λ_=>n) O) (bq m b) (mq m (λ_=>n+m+1) F) r c=some (e,mq p (λ_=>n) O,bq m b,mq m (λ_=>n+m+1) F)/\gy (n:Int) ob rw bd (bq m b) r c=some (e,bq m b))\/
  ∃r' c':Nat,r'<m/\c'<n+m/\F r' c'≠0/\cg true n (mq p (λ_=>n) O) (bq m b) (mq m (λ_=>n+m+1) F) r c=some (0,mq p (λ_=>n) O,bq m (λj=>if j=r' then c' else b j),mq m (λ_=>n+m+1) (ku F r' c'))/\gy (n:Int) ob rw bd (bq m b) r c=some (0,bq m (λj=>if j=r' then c' else b j)):=by
 have hm:=h.hm;have hn:=h.hn;have wd:gI (⟨true,(n:Int),mq p (λ_=>n) O,bq m b,mq m (λ_=>n+m+1) F⟩:Tb)=some ((n+m:Nat):Int):=Li hn hm;have ms:di (⟨true,(n:Int),mq p (λ_=>n) O,bq m b,mq m (λ_=>n+m+1) F⟩:Tb)=some false:=oN n m p O F b;have rl:=cM m (λ_=>n+m+1) F;have Jj:=qG m b;have hw:IntKind.i64.wrap ((n:Int)+(rw.length:Int))=((n+m:Nat):Int):=by rw[hm',cQ ξ ξ];omega
 rw[<-aa6]at eR;by_cases h1:r<0
 ·refine .inl ⟨1,?_,?_⟩
  ·unfold cg;exact aC ms<|bL Y<|cw<|aC (dT h1)<|aC (a:=true) (bY Y Y)<|aC (a:=true) (bY Y Y)<|aC (a:=true) (bY Y Y)<|bY Y Y
  unfold gy;exact cw<|aC (dT h1)<|aC (a:=true) (bY Y Y)<|aC (a:=true) (bY Y Y)<|aC (a:=true) (bY Y Y)<|bY Y Y
 by_cases h2:(m:Int)<=r
 ·refine .inl ⟨1,?_,?_⟩
  ·unfold cg;exact aC ms<|bL Y<|cw<|aC (dF h1)<|aC (a:=true) (bL Y<|aC Y<|aC (dT ξ) Y)<|aC (a:=true) (bY Y Y)<|aC (a:=true) (bY Y Y)<|bY Y Y
  unfold gy;exact cw<|aC (dF h1)<|aC (a:=true) (bL Y<|aC Y<|aC (dT ξ) Y)<|aC (a:=true) (bY Y Y)<|aC (a:=true) (bY Y Y)<|bY Y Y
 by_cases h3:c<0
 ·refine .inl ⟨1,?_,?_⟩
  ·unfold cg;exact aC ms<|bL Y<|cw<|aC (dF h1)<|aC (a:=false) (bL Y<|aC Y<|aC (dF ξ) Y)<|aC (a:=true) (bL Y<|aC (dT h3) Y)<|aC (a:=true) (bY Y Y)<|bY Y Y
  unfold gy;exact cw<|aC (dF h1)<|aC (a:=false) (bL Y<|aC Y<|aC (dF ξ) Y)<|aC (a:=true) (bL Y<|aC (dT h3) Y)<|aC (a:=true) (bY Y Y)<|bY Y Y
 by_cases h4:((n+m:Nat):Int)<=c
 ·refine .inl ⟨1,?_,?_⟩
  ·unfold cg;exact aC ms<|bL Y<|cw<|aC (dF h1)<|aC (a:=false) (bL Y<|aC Y<|aC (dF ξ) Y)<|aC (a:=false) (bL Y<|aC (dF h3) Y)<|aC (a:=true) (bL Y<|aC wd<|aC (dT h4) Y)<|bY Y Y
  unfold gy;exact cw<|aC (dF h1)<|aC (a:=false) (bL Y<|aC Y<|aC (dF ξ) Y)<|aC (a:=false) (bL Y<|aC (dF h3) Y)<|aC (a:=true) (bL Y<|aC Y<|aC (congrArg some hw)<|aC (dT h4) Y)<|bY Y Y
 obtain⟨r,rfl⟩:∃k:Nat,r=(k:Int):=⟨r.toNat,by omega⟩;obtain⟨c,rfl⟩:∃k:Nat,c=(k:Int):=⟨c.toNat,by omega⟩;have hr:r<m:=by omega
 have hc:c<n+m:=by omega
 have g1:(mq m (λ_=>n+m+1) F)[r]? =some (vq (n+m+1) (F r)):=gj hr;have g2:(vq (n+m+1) (F r))[c]? =some (qn (F r c)):=jL ξ;have k1:(mq m (λ_=>n+m) F)[r]? =some (vq (n+m) (F r)):=gj hr;have k2:(vq (n+m) (F r))[c]? =some (qn (F r c)):=jL hc;have sg:=((h.f r hr c).rep h.l1).sign ξ;have rsg:=((h.f r hr c).rep h.l1).RN ξ;have Sh:r<(mq m (λ_=>n+m+1) F).length:=by rw[cM];exact hr
 have bg:∀j,j<m->(bq m b)[j]? =some ((b j:Nat):Int):=λj hj=>uh hj;by_cases h5:∀j,j<m->b j≠c
 ·by_cases h6:F r c=0
  ·refine .inl ⟨7,?_,?_⟩
   ·unfold cg;generalize bq m b=B at*;generalize mq m (λ_=>n+m+1) F=rows at*;refine aC ms<|bL Y<|cw<|aC (dF ξ)<|aC (a:=false) (bL Y<|aC Y<|aC (dF ξ) Y)<|aC (a:=false) (bL Y<|aC (dF ξ) Y)<|aC (a:=false) (bL Y<|aC wd<|aC (dF ξ) Y)<|bL Y<|aC Y<|bK (λk=>(k:Int)) m (.inl ()) Y (λk hk=>?_) ?_ ?_
    ·exact aC (dT ξ)<|bY Y<|aC (cO ξ)<|aC (bg k hk)<|aC (dF (by have:=h5 k hk;omega))<|bL Y<|aC (congrArg some (bQ ξ)) Y
    ·exact aC (dF ξ)<|bL Y Y
    generalize qn (F r c)=q at*;obtain⟨⟨_,_⟩,⟨_,_⟩⟩:=q;exact aC (cO Sh)<|aC g1<|aC (bH g2)<|aC sg<|aC (dT (nJ.2 h6))<|bY Y Y
   unfold gy;generalize bq m b=B at*;generalize mq m (λ_=>n+m) F=rows at*;refine cw<|aC (dF ξ)<|aC (a:=false) (bL Y<|aC Y<|aC (dF ξ) Y)<|aC (a:=false) (bL Y<|aC (dF ξ) Y)<|aC (a:=false) (bL Y<|aC Y<|aC (congrArg some hw)<|aC (dF ξ) Y)<|bL Y<|bK (λk=>(k:Int)) m (.inl ()) Y (λk hk=>?_) ?_ ?_
   ·exact aC Y<|aC (dT ξ)<|bY Y<|aC (bH (bg k hk))<|aC (dF (by have:=h5 k hk;omega))<|bL Y<|aC (congrArg some (bQ ξ)) Y
   ·exact aC Y<|aC (dF ξ)<|bL Y Y
   generalize qn (F r c)=q at*;obtain⟨⟨_,_⟩,⟨_,_⟩⟩:=q;exact aC eR<|aC (bH k1)<|aC (bH k2)<|aC rsg<|aC (dT (nJ.2 h6))<|bY Y Y
  refine .inr ⟨r,c,hr,hc,h6,T1 h hL hr hc h5 h6,?_⟩;have ap:lM 8 [] (bq m b)=some (bq m b):=aab η (by simp only[List.length_nil];omega);have bs:(bq m b).set r (c:Int)=bq m (λj=>if j=r then c else b j):=aaJ hr;rw[<-bs];unfold gy;generalize bq m b=B at*;generalize mq m (λ_=>n+m) F=rows at*;refine cw<|aC (dF ξ)<|aC (a:=false) (bL Y<|aC Y<|aC (dF ξ) Y)<|aC (a:=false) (bL Y<|aC (dF ξ) Y)<|aC (a:=false) (bL Y<|aC Y<|aC (congrArg some hw)<|aC (dF ξ) Y)<|bL Y<|bK (λk=>(k:Int)) m (.inl ()) Y (λk hk=>?_) ?_ ?_
  ·exact aC Y<|aC (dT ξ)<|bY Y<|aC (bH (bg k hk))<|aC (dF (by have:=h5 k hk;omega))<|bL Y<|aC (congrArg some (bQ ξ)) Y
  ·exact aC Y<|aC (dF ξ)<|bL Y Y
  have nz:pW (F r c) 0≠0:=λe=>h6 (nJ.1 e);generalize qn (F r c)=q at*;obtain⟨⟨_,_⟩,⟨_,_⟩⟩:=q;exact aC eR<|aC (bH k1)<|aC (bH k2)<|aC rsg<|aC (dF nz)<|bL Y<|aC ap<|aC (cO ξ)<|aC (fK ξ) Y
 refine .inl ⟨1,?_,?_⟩
 ·unfold cg;generalize bq m b=B at*;generalize mq m (λ_=>n+m+1) F=rows at*;refine aC ms<|bL Y<|cw<|aC (dF ξ)<|aC (a:=false) (bL Y<|aC Y<|aC (dF ξ) Y)<|aC (a:=false) (bL Y<|aC (dF ξ) Y)<|aC (a:=false) (bL Y<|aC wd<|aC (dF ξ) Y)<|bL Y<|aC Y<|aC (ug (n:=m) (p:=λj=>b j≠c) (e:=(1,mq p (λ_=>n) O,B,rows)) (λk hk=>?_) (aC (dF ξ)<|bL Y Y)) ?_
  ·refine aC (dT ξ)<|bY Y<|aC (cO ξ)<|aC (bg k hk)<|aC Y ?_;by_cases q:b k=c
   ·rw[if_neg (λe=>e q)];exact bY (decide_eq_true (show((b k:Nat):Int)=(c:Int) by omega)) Y
   rw[if_pos q];exact bL (decide_eq_false (show ¬((b k:Nat):Int)=(c:Int) by omega))<|aC (congrArg some (bQ ξ)) Y
  rw[if_neg h5]
 unfold gy;generalize bq m b=B at*;refine cw<|aC (dF ξ)<|aC (a:=false) (bL Y<|aC Y<|aC (dF ξ) Y)<|aC (a:=false) (bL Y<|aC (dF ξ) Y)<|aC (a:=false) (bL Y<|aC Y<|aC (congrArg some hw)<|aC (dF ξ) Y)<|bL Y<|aC (ug (n:=m) (p:=λj=>b j≠c) (e:=((1:Int),B)) (λk hk=>?_) (aC Y<|aC (dF ξ)<|bL Y Y)) ?_
 ·refine aC Y<|aC (dT ξ)<|bY Y<|aC (bH (bg k hk)) ?_;by_cases q:b k=c
  ·rw[if_neg (λe=>e q)];exact aC (dT ξ)<|bY Y Y
  rw[if_pos q];exact aC (dF ξ)<|bL Y<|aC (congrArg some (bQ ξ)) Y
 rw[if_neg h5]
end tab
end
section
open Go.Fw
theorem R6{m:List (List Qr)}{F:Nat->Nat->Rat}:oL (mq m.length (λi=>(m.getD i []).length) F)=oL m:=by
 refine Nat.le_antisymm (oM.2 λv hv=>?_) (oM.2 λv hv=>?_)
 ·unfold mq at hv;obtain⟨i,hi,rfl⟩:=List.mem_map.1 hv;rw[cq];exact oM.1 (Nat.le_refl _) _ (List.mem_of_getElem? (ic (d:=[]) (List.mem_range.1 hi)))
 obtain⟨i,hi,rfl⟩:=List.getElem_of_mem hv;have h:=oM.1 (Nat.le_refl (oL (mq m.length (λi=>(m.getD i []).length) F))) _ (List.mem_of_getElem? (gj hi));rw[cq,show m.getD i []=m[i] by simp[List.getD,hi]]at h;exact h
section own
variable {K L M:Nat}{n:Int}{ob rw:List (List Qr)}{bd:List Qr}{O R:Nat->Nat->Rat}{g:Nat->Rat}
theorem Vv:MZ n (mq ob.length (λi=>(ob.getD i []).length) O) (mq rw.length (λi=>(rw.getD i []).length) R) (vq bd.length g)↔MZ n ob rw bd:=by
 unfold MZ;rw[cM,cM,cq,R6,R6]
theorem am4{a:List (List Qr)}{A:Nat->Nat->Rat}{B:Nat}(hr:kE B a A)(hB:B<=10000000000)(w:∀v∈a,v.length<=1000):∀i,i<a.length->a[i]? =some (a.getD i [])/\gK (a.getD i []) ((a.getD i []).length:Int)=some (vq (a.getD i []).length (A i)):=λi hi=>by
 have hw:=w _ (List.mem_of_getElem? (ic (d:=[]) hi));refine⟨ic hi,?_⟩;rw[RY (hr.row i) hB,show(min ((a.getD i []).length:Int) 65536).toNat=(a.getD i []).length by omega]
theorem Vw(ho:kE M ob O)(hr:kE L rw R)(hb:eM K bd g)(hM:M<=3000000000)(hL:L<=3000000000)(hK:K<=3000000000)(l1:ob.length<=1000)(l2:rw.length<=1000)(l3:bd.length<=1000)(w1:∀v∈ob,v.length<=1000)(w2:∀v∈rw,v.length<=1000):
  sy ⟨n,ob,rw,bd⟩=some (n,mq ob.length (λi=>(ob.getD i []).length) O,mq rw.length (λi=>(rw.getD i []).length) R,vq bd.length g)/\vu ⟨n,ob,rw,bd⟩=some ⟨n,mq ob.length (λi=>(ob.getD i []).length) O,mq rw.length (λi=>(rw.getD i []).length) R,vq bd.length g⟩:=by
 have f1:=am4 ho ξ w1;have f2:=am4 hr ξ w2;have f3:gK bd (bd.length:Int)=some (vq bd.length g):=by rw[RY hb ξ,show(min (bd.length:Int) 65536).toNat=bd.length by omega]
 have ap:∀{k:Nat} {ln:Nat->Nat} {G:Nat->Nat->Rat},k<=1000->lM 24 (mq k ln G) [vq (ln k) (G k)]=some (mq (k+1) ln G):=λhk=>by
  rw[nh η (by rw[cM];omega)];unfold mq;rw[List.range_succ,List.map_append];rfl
 constructor
 ·unfold sy;refine bK (λj=>((j:Int),mq j (λi=>(ob.getD i []).length) O)) ob.length (mq ob.length (λi=>(ob.getD i []).length) O) Y (λj hj=>?_) (aC Y<|aC (dF ξ)<|bL Y Y)<|bK (λj=>((j:Int),mq j (λi=>(rw.getD i []).length) R)) rw.length (mq rw.length (λi=>(rw.getD i []).length) R) Y (λj hj=>?_) (aC Y<|aC (dF ξ)<|bL Y Y)<|aC Y<|aC f3 Y
  ·obtain⟨g1,g2⟩:=f1 j hj;exact aC Y<|aC (dT ξ)<|bY Y<|aC (bH g1)<|aC (bH g1)<|aC Y<|aC g2<|aC (ap ξ)<|aC (congrArg some (bQ ξ)) Y
  obtain⟨g1,g2⟩:=f2 j hj;exact aC Y<|aC (dT ξ)<|bY Y<|aC (bH g1)<|aC (bH g1)<|aC Y<|aC g2<|aC (ap ξ)<|aC (congrArg some (bQ ξ)) Y
 unfold vu;refine bK (λj=>((j:Int),mq j (λi=>(ob.getD i []).length) O)) ob.length (mq ob.length (λi=>(ob.getD i []).length) O) Y (λj hj=>?_) (aC Y<|aC (dF ξ)<|bL Y Y)<|bK (λj=>((j:Int),mq j (λi=>(rw.getD i []).length) R)) rw.length (mq rw.length (λi=>(rw.getD i []).length) R) Y (λj hj=>?_) (aC Y<|aC (dF ξ)<|bL Y Y)<|aC Y<|aC f3 Y
 ·obtain⟨g1,g2⟩:=f1 j hj;exact aC Y<|aC (dT ξ)<|bY Y<|aC (bH g1)<|aC (bH g1)<|aC Y<|aC g2<|aC (ap ξ)<|aC (congrArg some (bQ ξ)) Y
 obtain⟨g1,g2⟩:=f2 j hj;exact aC Y<|aC (dT ξ)<|bY Y<|aC (bH g1)<|aC (bH g1)<|aC Y<|aC g2<|aC (ap ξ)<|aC (congrArg some (bQ ξ)) Y
end own
theorem atO(t:Tb):wV t=jO t:=rfl
theorem atP(t:Tb):yI t=qB t:=rfl
theorem atQ(t:Tb):lW t=gB t:=rfl
theorem R7(q:Lr)(l:List Pv)(op:OkL q)(ol:l.length<=9223372036854775807/\∀v∈l,atG v)(hs:szL q+amS l<=1048576):kA q l=some true:=by
 obtain⟨n,ob,rw,bd⟩:=q;obtain⟨on,oo,or_,ob_⟩:=op;replace oo:OkM ob:=oo;replace or_:OkM rw:=or_;replace ob_:OkV bd:=ob_;have z1:=Vp ob;have z2:=Vp rw;have z3:=adD bd;replace hs:1+szM ob+szM rw+szV bd+1+amS l<=1048576:=hs;obtain⟨b1,e1,s1⟩:=aaU (n:=n) (ob:=ob) (rw:=rw) (bd:=bd) ξ ξ ξ;unfold kA;split
 ·rfl
 rename_i hG;unfold yJ;refine cw<|aC e1<|Pb (λ_=>aC Y<|aC Y Y)<|Vl (λ_=>al7) (λhb=>?_);have Pj:=hb;simp only[Bool.or_eq_false_iff,decide_eq_false_iff_not]at hb;obtain⟨Ag,By⟩:=hb;obtain⟨s6,s7⟩:=s1 Ag;have wo:∀v∈ob,v.length<=1000:=λv hm=>by have:=(s6.so v hm).1;omega
 have wr:∀v∈rw,v.length<=1000:=λv hm=>by have:=(s6.sr v hm).1;omega
 have lo:=s6.lo;have lr:=s6.lr;have lb:=s6.lb;have ro:=afR oo s6.so;have rr:=afR or_ s6.sr;by_cases hv:MZ n ob rw bd
 ·refine absurd ?_ hG;obtain⟨hr5,hn6⟩:=s7 hv;obtain⟨v1,v2,v3,v4,v5,v6,v7,v8⟩:=id hv;obtain⟨n,rfl⟩:∃k:Nat,n=(k:Int):=⟨n.toNat,by omega⟩;have hbd:bd.take (min bd.length 20)=bd:=by rw[show min bd.length 20=bd.length by omega,List.take_length]
  have sb:=s6.sb;rw[hbd]at sb;have rb:=amR ob_ sb;generalize OX ob=O at ro;generalize OX rw=R at rr;generalize Le bd=g at rb;have eO:=(Vw (n:=(n:Int)) ro rr rb η η η ξ ξ ξ wo wr).1;have eN:=amN (n:=n) (zf (ln:=λi=>(ob.getD i []).length) (n:=ob.length) (λi _ k _=>(ro.row i).fq k) (λi _=>(ro.row i).z) ro.z ro.l1) (zf (ln:=λi=>(rw.getD i []).length) (n:=rw.length) (λi _ k _=>(rr.row i).fq k) (λi _=>(rr.row i).z) rr.z rr.l1) (pG (n:=bd.length) (λi _=>rb.fq i) rb.z rb.l1) η η η (Vv.2 hv);rw[cM,cM]at eN;have k0:=Vn (n:=n) ro rr rb η hv;obtain⟨m,hm⟩:∃m,rw.length=m:=⟨_,Y⟩;obtain⟨p,hp⟩:∃p,ob.length=p:=⟨_,Y⟩;rw[hm,hp]at k0 eN eO;have m5:m<=5:=by omega
  have n6:n<=6:=by omega
  have bg:=ajk (ob:=ob) (bd:=bd) (n:=n) hm ξ ξ;have every:∀(L:Nat) (F:Nat->Nat->Rat) (b:Nat->Nat),wW L n m p O F b->Uc m F b->(∀z,F0 n m F z↔F0 n m (uj n m R g) z)->wW 6485 n m p O F b/\jk ⟨⟨(n:Int),ob,rw,bd⟩,bq m b⟩=some (mq m (λ_=>n+m) F)/\uc (Lx n m p O F b) ⟨⟨(n:Int),ob,rw,bd⟩,bq m b⟩=some true:=λL F b ht hu hz=>by
   have h1:=short ht hu k0 M6 hz m5;obtain⟨_,i2,i3⟩:=am3 (ob':=ob) rr rb hm ξ m5 ξ ht.hb hu (λz=>(hz z).symm);exact⟨h1,i2,is7 ro hp hm m5 h1 i2 i3⟩
  generalize mq p (λi=>(ob.getD i []).length) O=mo at eO eN;generalize mq m (λi=>(rw.getD i []).length) R=mr at eO eN;generalize vq bd.length g=vb at eO eN;unfold vz;refine cw<|aC e1<|Pb (λ_=>aC Y<|aC Y Y)<|bL Pj<|aC eO<|aC eN<|cw<|aC (a:=false) Y<|bL Y<|aC bg<|iK (λs=>∃(k:Nat) (F:Nat->Nat->Rat) (b:Nat->Nat),s=((k:Int),bq m b,mq p (λ_=>n) O,bq m b,mq m (λ_=>n+m+1) F)/\k<=l.length/\wW 6485 n m p O F b/\Uc m F b/\∀z,F0 n m F z↔F0 n m (uj n m R g) z) (λe=>∃(F:Nat->Nat->Rat) (b:Nat->Nat),e=(bq m b,mq p (λ_=>n) O,bq m b,mq m (λ_=>n+m+1) F)/\wW 6485 n m p O F b/\Uc m F b/\∀z,F0 n m F z↔F0 n m (uj n m R g) z) (λs=>l.length-s.1.toNat) ?_ ⟨0,_,_,Y,Nat.zero_le _,k0.mono ξ,M6,λ_=>Iff.rfl⟩ ?_
  ·rintro _ ⟨k,F,b,rfl,hk,ht,hu,hz⟩;by_cases hlt:k<l.length
   ·left;have gk:=List.getElem?_eq_getElem hlt;generalize l[k]=w at gk;obtain⟨r,c⟩:=w;obtain⟨_,i2,_⟩:=every _ F b ht hu hz;rcases adM ht ξ hm i2 r c with⟨e,tp,rp⟩|⟨r',c',hr,hc,h0,tp,rp⟩
    ·refine⟨(((k+1:Nat):Int),bq m b,mq p (λ_=>n) O,bq m b,mq m (λ_=>n+m+1) F),?_,⟨k+1,F,b,Y,hlt,ht,hu,hz⟩,by simp only[Int.toNat_natCast];omega⟩;exact aC Y<|aC (dT ξ)<|bY Y<|aC (bH gk)<|aC (bH gk)<|aC tp<|aC (bH gk)<|aC (bH gk)<|aC rp<|aC (congrArg some (bQ ξ)) Y
    have t1:=O2 ht hr hc h0;have u1:=RU hr h0 hu;have z1:∀z,F0 n m (ku F r' c') z↔F0 n m (uj n m R g) z:=λz=>(Vo hr h0).trans (hz z);obtain⟨t2,_,_⟩:=every _ _ _ t1 u1 z1;refine⟨(((k+1:Nat):Int),bq m (λj=>if j=r' then c' else b j),mq p (λ_=>n) O,bq m (λj=>if j=r' then c' else b j),mq m (λ_=>n+m+1) (ku F r' c')),?_,⟨k+1,_,_,Y,hlt,t2,u1,z1⟩,by simp only[Int.toNat_natCast];omega⟩;exact aC Y<|aC (dT ξ)<|bY Y<|aC (bH gk)<|aC (bH gk)<|aC tp<|aC (bH gk)<|aC (bH gk)<|aC rp<|aC (congrArg some (bQ ξ)) Y
   right;exact⟨_,aC Y<|aC (dF ξ)<|bL Y Y,F,b,Y,ht,hu,hz⟩
  rintro _ ⟨F,b,rfl,ht,hu,hz⟩;obtain⟨_,_,is1⟩:=every _ F b ht hu hz;obtain⟨K,hK⟩:∃K,K=6485:=⟨_,Y⟩;rw[<-hK]at ht;have hX5:(m+1)*(K+K+1)<=6*(K+K+1):=Nat.mul_le_mul_right _ ξ;have c1:=(atO _).trans (T3 (n:=n) (m:=m) (p:=p) (O:=O) (F:=F) (b:=b) ξ);have c2:=(atP _).trans (afT ht ξ);have c3:=RR ht ξ;have c4:=(atQ _).trans (aaW ht ξ);have c5:=G0 ht ξ;have c0:=CX (n:=7) η;have bl:=qG m b;unfold Lx at c1 c2 c3 c4 c5 is1;generalize qn ((7:Int):Rat)=q7 at c0;generalize mq (n+m) (λ_=>p+n) (sJ n m p O F b)=cs at c4;generalize mq m (λ_=>n+m) F=rs at c2;generalize vq m (λi=>F i (n+m))=A5 at c3;generalize vq n (rz n m F b m)=xs at c5;generalize mq m (λ_=>n+m+1) F=rows at*;generalize mq p (λ_=>n) O=HS at*;generalize bq m b=B at*;refine aC c0<|aC c1<|aC c2<|aC c3<|aC c4<|aC c5<|iK (λs=>∃(k:Nat) (B:List Int),s=((k:Int),B)/\k<=m/\B.length=m) (λ_=>True) (λs=>m-s.1.toNat) ?_ ⟨0,B,Y,Nat.zero_le _,bl⟩ ?_
  ·rintro _ ⟨k,B,rfl,hk,hB⟩;by_cases hlt:k<m
   ·left;refine⟨(((k+1:Nat):Int),B.set k 0),?_,⟨k+1,_,Y,hlt,by rw[List.length_set];exact hB⟩,by simp only[Int.toNat_natCast];omega⟩;exact aC Y<|aC (dT ξ)<|bY Y<|aC (cO ξ)<|aC (fK ξ)<|aC (congrArg some (bQ ξ)) Y
   right;exact⟨_,aC Y<|aC (dF ξ)<|bL Y Y,ak⟩
  intro _ _;exact cw<|aC is1<|aC (a:=true) (bY Y al7) Y
 have rb:=amM ob_ ξ;generalize OX ob=O at ro;generalize OX rw=R at rr;generalize Le bd=g at rb;have eO:=(Vw (n:=n) ro rr rb η η η ξ ξ ξ wo wr).2;have v:=RQ (n:=n) (ob:=mq ob.length (λi=>(ob.getD i []).length) O) (rw:=mq rw.length (λi=>(rw.getD i []).length) R) (bd:=vq bd.length g) (by rw[cM];omega) (by rw[cM];omega);rw[decide_eq_false (λq=>hv (Vv.1 q))]at v;have nz:=amT v;exact aC eO<|aC nz al7
end
section
open Go.Fw Go.RowKit Go.ChangeShapes Go.WideShapes Go.ChangeAt
set_option linter.unusedVariables false
set_option maxRecDepth 100000 in
theorem xZ(H:Type)(enc:TypeId×Value->H)(W:World)(base:Nat)(args:Array Value)(ds gs:List (DataW H))(before:List MemPlace)
  (hval:∀(j:Nat) t v,Tryz.f3.params[j]? =some t->args[j]? =some v->Value.okWide af W .any base t v)
  (hW:DataW.Whole enc af Tryz.f3.params.toList Rows.tableauCopiesSpec.vars false W args.toList ds gs before) (hk:Rows.uptoSmall H (ds++gs)=true):
  Calls af 3 args W λe W'=>∃v,e=.returned v/\Rows.tableauCopiesSpec.post enc af Tryz.f3 false true false false W args v W':=by
 have hW':=hW;obtain⟨p,q,hA0,hV,rfl,hfz,hnd⟩:=hW;have hA:DataW.TrodAll enc af W 0 (λ_=>true) true Tryz.f3.params.toList args.toList ds p:=hA0;rw[Tryz.params3]at hA hval;obtain⟨v0,vs0,d0,ds0,p0,q0,hargs,rfl,rfl,h0,r0⟩:=trodAll_cons hA;obtain⟨v1,vs1,d1,ds1,p1,q1,rfl,rfl,rfl,h1,r1⟩:=trodAll_cons r0;obtain⟨rfl,rfl,rfl⟩:=trodAll_nil r1;obtain rfl:args=#[v0,v1]:=by cases args;simp_all
 obtain⟨rfl,rfl⟩:=trodVars_none hV;have lt0:∀x∈p0,x.block<W.heap.size:=by obtain⟨m,hm⟩:=h0;exact DataW.trod_lt m _ _ _ hm
 obtain⟨x0,ok0,sz0,al0⟩:=abQ (P:=af) (T:=25) (e:=Lo) (hval 0 25 v0 Y Y) h0;have lt1:∀x∈p1,x.block<W.heap.size:=by obtain⟨m,hm⟩:=h1;exact DataW.trod_lt m _ _ _ hm
 obtain⟨x1,ok1,sz1,al1⟩:=abP (P:=af) (T:=26) (e:=(eS 2 WK)) (hval 1 26 v1 Y Y) h1;have hsz:Rows.uptoBulk d0+Rows.uptoBulk d1<=1048576:=by
  have:=of_decide_eq_true hk;simp only[List.cons_append,List.nil_append,List.append_nil,Rows.uptoBulkAll]at this;omega
 clear hA0;refine(abR (AQ (R7 x0 x1 ok0 ok1 (Nat.le_trans (Nat.add_le_add sz0 sz1) hsz))) (W:=W) (vs:=[v0,v1]) ⟨al0,al1.1,ak⟩).mono λe W' ⟨he,bel⟩=>?_;subst he;exact⟨_,rfl,_,_,_,[],_,[],hW',trodAll_mk1 (shut_bool Tryz.underlying4 _),(trodAll_cons_mk (Below.trod PE aJ (of_decide_eq_true aJ) h0 bel lt0) (trodAll_cons_mk (Below.trod PE aJ (of_decide_eq_true aJ) h1 bel lt1) trodAll_mk0)),rfl,bel.frame _,λh=>by cases h⟩
set_option maxRecDepth 100000 in
theorem zg(os:Os)(started:os.Started)(H:Type)(enc:TypeId×Value->H)(F:Stop.Interp):
  ReturnsInHanded {} Tryz.checked os 3 .any ((Rows.OpenSpec.upto Rows.tableauCopiesSpec).pre6 enc af Tryz.f3 Rows.tableauCopiesUptoRow.domain false) (((Rows.OpenSpec.upto Rows.tableauCopiesSpec).at F).post enc af Tryz.f3 false true false false):=by
 refine returnsInHanded_of_cond (C:=Tryz.checked) (s:=Rows.OpenSpec.upto Rows.tableauCopiesSpec) (k:=Rows.uptoSmall) Y aov started aJ Tryz.func3
  (OpenSpec.witness (enc:=enc) (C:=Tryz.checked) (s:=Rows.OpenSpec.upto Rows.tableauCopiesSpec) (k:=Rows.uptoSmall) Y false ⟨#[],#[.agg #[.int .i64 0,.slice none 0 0,.slice none 0 0,.slice none 0 0],.slice none 0 0],[]⟩ 8 aJ aJ aJ
   (x:=([.agg [.lit (.int .i64 0),.nil,.nil,.nil],.nil],[],[])) aJ Y aJ) ?_
 intro W base args ds gs before hval hW _ hk _;exact xZ H enc W base args ds gs before hval hW hk
theorem tableauCopiesUpto_holds:Rows.TableauCopiesUptoSaid:=
 OpenClaim.holds_of_cond 3 Tryz.f3 Y Y Y Y Y Y Y ⟨Y,Y,Y,Y,Y⟩ Y Y Y Y Y aJ Tryz.func3 aJ
  (of_decide_eq_true aJ) (by unfold Func.isWrapper;first|(rw[if_pos aL];kernel_rfl)|(rw[if_neg aL];exact⟨Y,Y⟩))
  (λos started H enc _ F=>zg os started H enc F)
end
end Go.Proofs.YtningmnklfpfjaaGreat
