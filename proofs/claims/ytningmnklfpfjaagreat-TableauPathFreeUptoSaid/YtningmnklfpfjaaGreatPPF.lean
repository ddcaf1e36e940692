/- The law TableauPathFree answers true for every input, up to the size that the statement names. -/
import Derived.Test.YtningmnklfpfjaaGreatPPF5
set_option linter.unusedVariables false
set_option linter.unusedSimpArgs false
namespace Go.Proofs.YtningmnklfpfjaaGreat
open Go.Fw
theorem Sq{l:List (List Qr)}{i:Nat}{P:List Qr→Prop}(hi:i<l.length)(ht:∀v∈l.take i,P v)(hp:P l[i]):∀v∈l.take (i+1),P v:=by
 rw[List.take_add_one,List.getElem?_eq_getElem hi]
 intro u hu
 rcases List.mem_append.1 hu with h|h
 ·exact ht u h
 ·simp at h;rw[h];exact hp
abbrev Sml(v:List Qr):Prop:=v.length≤20∧∀q∈v,q.num.w.length≤6∧q.den.w.length≤6
abbrev Sm8(v:List Qr):Prop:=v.length≤8∧∀q∈v,q.num.w.length≤6∧q.den.w.length≤6
theorem Ka(l:List (List Qr))(hl:l.length≤9223372036854775807):∃b,kN l=some b∧(b=false→∀v∈l,Sml v):=by
 unfold kN
 refine mH (fun y=>∃i:Nat,y=(i:Int)∧i≤l.length∧∀v∈l.take i,Sml v) (fun e=>(∃c,e=.inl c∧∀v∈l,Sml v)∨e=.inr true) (fun y=>l.length-y.toNat) ?_ ⟨0,rfl,by omega,by simp⟩ ?_
 ·rintro _ ⟨i,rfl,hi,ht⟩
  by_cases hlt:i<l.length
  ·have g:=List.getElem?_eq_getElem hlt
   by_cases h1:20<l[i].length
   ·exact .inr ⟨.inr true,bind_eq rfl<|bind_eq (dT (by omega))<|aV rfl<|aZ<|bind_eq (aP g)<|bind_eq rfl<|bind_eq (dT (by omega))<|bind_eq (a:=true) (aV rfl rfl) rfl,.inr rfl⟩
   ·obtain⟨b,hb,hs⟩:=R9 l[i] (by omega)
    cases b
    ·refine .inl ⟨((i+1:Nat):Int),?_,⟨i+1,rfl,hlt,Sq hlt ht ⟨by omega,hs rfl⟩⟩,by simp only[Int.toNat_natCast];omega⟩
     exact bind_eq rfl<|bind_eq (dT (by omega))<|aV rfl<|aZ<|bind_eq (aP g)<|bind_eq rfl<|bind_eq (dF (by omega))<|bind_eq (a:=false) (aE rfl<|bind_eq (aP g)<|bind_eq hb rfl)<|aE rfl<|bind_eq (congrArg some (bk (by omega))) rfl
    ·exact .inr ⟨.inr true,bind_eq rfl<|bind_eq (dT (by omega))<|aV rfl<|aZ<|bind_eq (aP g)<|bind_eq rfl<|bind_eq (dF (by omega))<|bind_eq (a:=true) (aE rfl<|bind_eq (aP g)<|bind_eq hb rfl) rfl,.inr rfl⟩
  ·refine .inr ⟨.inl (),?_,.inl ⟨(),rfl,?_⟩⟩
   ·exact bind_eq rfl<|bind_eq (dF (by omega))<|aE rfl rfl
   ·rw[List.take_of_length_le (by omega)]at ht;exact ht
 ·rintro e (⟨c,rfl,he⟩|rfl)
  ·exact⟨false,rfl,fun _=>he⟩
  ·exact⟨true,rfl,fun h=>by cases h⟩
theorem M3(m:List (List Qr))(h:m.length≤9223372036854775806):kM m=some (r9 m:Int):=by
 unfold kM
 refine aW (fun j=>(((m.take j).foldl (fun n v=>max n v.length) 0:Nat),(j:Int))) m.length ((r9 m:Nat):Int) (by simp) (fun j hj=>?_) ?_ rfl
 ·refine bind_eq rfl<|bind_eq (dT (by omega))<|aV rfl<|bind_eq (aP (List.getElem?_eq_getElem hj))<|bind_eq rfl<|bind_eq rfl<|bind_eq (congrArg some (bk (by omega))) ?_
  rw[List.take_add_one,List.getElem?_eq_getElem hj,List.foldl_append]
  simp only[Option.toList_some,List.foldl_cons,List.foldl_nil]
  congr 3
  omega
 ·refine bind_eq rfl<|bind_eq (dF (by omega))<|aE rfl ?_
  rw[List.take_length];rfl
theorem Kb(m:List (List Qr)):∃b,kO [m]=some b∧(b=false→m.length≤8∧∀v∈m,Sm8 v):=by
 unfold kO
 have hg:cz [m] (0:Int)=some m:=rfl
 by_cases h8:8<m.length
 ·refine⟨true,?_,fun h=>by cases h⟩
  refine aW (fun j=>(j:Int)) 0 (.inr true) rfl (fun j hj=>by omega) ?_ rfl
  exact bind_eq rfl<|bind_eq (dT (by simp))<|aV rfl<|aZ<|bind_eq hg<|bind_eq rfl<|bind_eq (dT (by omega))<|bind_eq (a:=true) (aV rfl rfl)<|bind_eq (a:=true) (aV rfl rfl) rfl
 by_cases hc:8<r9 m
 ·refine⟨true,?_,fun h=>by cases h⟩
  refine aW (fun j=>(j:Int)) 0 (.inr true) rfl (fun j hj=>by omega) ?_ rfl
  exact bind_eq rfl<|bind_eq (dT (by simp))<|aV rfl<|aZ<|bind_eq hg<|bind_eq rfl<|bind_eq (dF (by omega))<|bind_eq (a:=true) (aE rfl<|bind_eq hg<|bind_eq (M3 m (by omega))<|bind_eq (dT (by omega)) rfl)<|bind_eq (a:=true) (aV rfl rfl) rfl
 obtain⟨b,hb,hs⟩:=Ka m (by omega)
 cases b
 ·refine⟨false,?_,fun _=>⟨by omega,fun v hv=>⟨?_,(hs rfl v hv).2⟩⟩⟩
  ·refine aW (fun j=>(j:Int)) 1 (.inl ()) rfl (fun j hj=>?_) (bind_eq rfl<|bind_eq (dF (by simp))<|aE rfl rfl) rfl
   obtain rfl:j=0:=by omega
   exact bind_eq rfl<|bind_eq (dT (by simp))<|aV rfl<|aZ<|bind_eq hg<|bind_eq rfl<|bind_eq (dF (by omega))<|bind_eq (a:=false) (aE rfl<|bind_eq hg<|bind_eq (M3 m (by omega))<|bind_eq (dF (by omega)) rfl)<|bind_eq (a:=false) (aE rfl<|bind_eq hg<|bind_eq hb rfl)<|aE rfl<|bind_eq (congrArg some (bk (by omega))) rfl
  ·have:=si.1 (Nat.le_refl (r9 m)) v hv;omega
 ·refine⟨true,?_,fun h=>by cases h⟩
  refine aW (fun j=>(j:Int)) 0 (.inr true) rfl (fun j hj=>by omega) ?_ rfl
  exact bind_eq rfl<|bind_eq (dT (by simp))<|aV rfl<|aZ<|bind_eq hg<|bind_eq rfl<|bind_eq (dF (by omega))<|bind_eq (a:=false) (aE rfl<|bind_eq hg<|bind_eq (M3 m (by omega))<|bind_eq (dF (by omega)) rfl)<|bind_eq (a:=true) (aE rfl<|bind_eq hg<|bind_eq hb rfl)<|aV rfl rfl
theorem UP(m:List (List Qr))(h:m.length≤1000):mE m=some (decide (∀i,i<m.length→(m.getD i []).length=0)):=by
 unfold mE
 refine bind_eq (wj (p:=fun i=>(m.getD i []).length=0) (e:=false) (n:=m.length) (fun i hi=>?_) (bind_eq rfl<|bind_eq (dF (by omega))<|aE rfl rfl)) ?_
 ·refine bind_eq rfl<|bind_eq (dT (by omega))<|aV rfl<|bind_eq (aP (jz (d:=[]) hi))<|bind_eq rfl<|bind_eq rfl ?_
  by_cases hz:(m.getD i []).length=0
  ·rw[if_pos hz];exact aE (decide_eq_false (by omega))<|bind_eq (congrArg some (bk (by omega))) rfl
  ·rw[if_neg hz];exact aV (decide_eq_true (by omega)) rfl
 ·by_cases hp:∀i,i<m.length→(m.getD i []).length=0
  ·rw[if_pos hp,decide_eq_true hp]
  ·rw[if_neg hp,decide_eq_false hp]
structure Sm6 (ob rw:List (List Qr)) (bd:List Qr):Prop where
 lo:ob.length≤6
 lr:rw.length≤140
 lb:bd.length≤140
 so:∀v∈ob,Sm8 v
 sr:∀v∈rw,Sm8 v
 sb:Sml (bd.take (min bd.length 20))
theorem Sr{n:Int}{ob rw:List (List Qr)}{bd:List Qr}(h1:ob.length≤9223372036854775806)(h2:rw.length≤9223372036854775806)(h3:bd.length≤9223372036854775806):∃b,mF ⟨n,ob,rw,bd⟩=some b∧(b=false→Sm6 ob rw bd):=by
 unfold mF
 obtain⟨b1,e1,s1⟩:=Kb rw
 obtain⟨b2,e2,s2⟩:=Kb ob
 have aem:n8 bd=some (bd.take (min bd.length 20)):=by
  unfold n8
  have hm:min (bd.length:Int) 20=((min bd.length 20:Nat):Int):=by omega
  refine bind_eq rfl<|bind_eq (congrArg some hm)<|bind_eq (Ao (by omega)) rfl
 obtain⟨b3,e3,s3⟩:=Ka [bd.take (min bd.length 20)] (by simp)
 by_cases c1:6<ob.length
 ·exact⟨true,aZ<|bind_eq rfl<|bind_eq (dT (by omega))<|bind_eq (a:=true) (aV rfl rfl)<|bind_eq (a:=true) (aV rfl rfl)<|bind_eq (a:=true) (aV rfl rfl)<|bind_eq (a:=true) (aV rfl rfl)<|bind_eq (a:=true) (aV rfl rfl)<|bind_eq (a:=true) (aV rfl rfl) rfl,fun h=>by cases h⟩
 by_cases c2:140<rw.length
 ·exact⟨true,aZ<|bind_eq rfl<|bind_eq (dF (by omega))<|bind_eq (a:=true) (aE rfl<|bind_eq rfl<|bind_eq (dT (by omega)) rfl)<|bind_eq (a:=true) (aV rfl rfl)<|bind_eq (a:=true) (aV rfl rfl)<|bind_eq (a:=true) (aV rfl rfl)<|bind_eq (a:=true) (aV rfl rfl)<|bind_eq (a:=true) (aV rfl rfl) rfl,fun h=>by cases h⟩
 by_cases c3:140<bd.length
 ·exact⟨true,aZ<|bind_eq rfl<|bind_eq (dF (by omega))<|bind_eq (a:=false) (aE rfl<|bind_eq rfl<|bind_eq (dF (by omega)) rfl)<|bind_eq (a:=true) (aE rfl<|bind_eq rfl<|bind_eq (dT (by omega)) rfl)<|bind_eq (a:=true) (aV rfl rfl)<|bind_eq (a:=true) (aV rfl rfl)<|bind_eq (a:=true) (aV rfl rfl)<|bind_eq (a:=true) (aV rfl rfl) rfl,fun h=>by cases h⟩
 have eb:=UP rw (by omega)
 by_cases c4:8<rw.length
 ·by_cases c5:∀i,i<rw.length→(rw.getD i []).length=0
  ·rw[decide_eq_true c5]at eb
   refine⟨_,aZ<|bind_eq rfl<|bind_eq (dF (by omega))<|bind_eq (a:=false) (aE rfl<|bind_eq rfl<|bind_eq (dF (by omega)) rfl)<|bind_eq (a:=false) (aE rfl<|bind_eq rfl<|bind_eq (dF (by omega)) rfl)<|bind_eq (a:=false) (aE rfl<|bind_eq rfl<|bind_eq (dT (by omega))<|bind_eq (a:=false) (aV rfl<|bind_eq eb<|bind_eq rfl rfl) rfl)<|bind_eq (a:=false) (aE rfl<|bind_eq rfl<|bind_eq (dF (by omega))<|bind_eq (a:=false) (aE rfl rfl) rfl)<|HT (fun _=>bind_eq e2 rfl)<|HT (fun _=>bind_eq aem<|bind_eq e3 rfl) rfl,fun h=>?_⟩
   simp only[Bool.false_or,Bool.or_eq_false_iff]at h
   refine⟨by omega,by omega,by omega,(s2 h.1).2,fun v hv=>?_,s3 h.2 _ (by simp)⟩
   obtain⟨i,hi,rfl⟩:=List.getElem_of_mem hv
   have:=c5 i hi
   rw[List.getD_eq_getElem?_getD,List.getElem?_eq_getElem hi]at this
   have h0:rw[i]=[]:=List.eq_nil_of_length_eq_zero this
   rw[h0];exact⟨by decide,by simp⟩
  ·rw[decide_eq_false c5]at eb
   exact⟨true,aZ<|bind_eq rfl<|bind_eq (dF (by omega))<|bind_eq (a:=false) (aE rfl<|bind_eq rfl<|bind_eq (dF (by omega)) rfl)<|bind_eq (a:=false) (aE rfl<|bind_eq rfl<|bind_eq (dF (by omega)) rfl)<|bind_eq (a:=true) (aE rfl<|bind_eq rfl<|bind_eq (dT (by omega))<|bind_eq (a:=true) (aV rfl<|bind_eq eb<|bind_eq rfl rfl) rfl)<|bind_eq (a:=true) (aV rfl rfl)<|bind_eq (a:=true) (aV rfl rfl)<|bind_eq (a:=true) (aV rfl rfl) rfl,fun h=>by cases h⟩
 ·refine⟨_,aZ<|bind_eq rfl<|bind_eq (dF (by omega))<|bind_eq (a:=false) (aE rfl<|bind_eq rfl<|bind_eq (dF (by omega)) rfl)<|bind_eq (a:=false) (aE rfl<|bind_eq rfl<|bind_eq (dF (by omega)) rfl)<|bind_eq (a:=false) (aE rfl<|bind_eq rfl<|bind_eq (dF (by omega))<|bind_eq (a:=false) (aE rfl rfl) rfl)<|HT (c:=b1) (fun _=>bind_eq rfl<|bind_eq (dT (by omega))<|bind_eq (a:=b1) (aV rfl<|bind_eq e1 rfl) rfl)<|HT (fun _=>bind_eq e2 rfl)<|HT (fun _=>bind_eq aem<|bind_eq e3 rfl) rfl,fun h=>?_⟩
  simp only[Bool.false_or,Bool.or_eq_false_iff]at h
  exact⟨by omega,by omega,by omega,(s2 h.1.2).2,(s1 h.1.1).2,s3 h.2 _ (by simp)⟩
end Go.Proofs.YtningmnklfpfjaaGreat
namespace Go.Proofs.YtningmnklfpfjaaGreat
open Go.Fw
abbrev OkM(m:List (List Qr)):Prop:=m.length≤9223372036854775807∧∀v∈m,OkV v
abbrev OkL(p:Lr):Prop:=fJ p.vars∧OkM p.xw∧OkM p.rows∧OkV p.bounds
abbrev szL(p:Lr):Nat:=1+szM p.xw+szM p.rows+szV p.bounds+1
theorem HL{α:Type}(f:α→Nat)(h:∀x,1≤f x):∀l:List α,l.length≤(l.map f).sum
 |[]=>Nat.le_refl _
 |x::l=>by rw[List.map_cons,List.sum_cons,List.length_cons];have:=HL f h l;have:=h x;omega
theorem M4(m:List (List Qr)):m.length≤szM m:=by have:=HL (fun x=>szV x) (fun x=>by show 1≤_+1;omega) m;show _≤_+1;omega
theorem UQ(v:List Qr):v.length≤szV v:=by have:=HL (fun x=>szQ x) (fun x=>by show 1≤_+1;omega) v;show _≤_+1;omega
theorem Wp{m:List (List Qr)}(h:OkM m)(s:∀v∈m,Sm8 v):pY 6 m (LO m):=
 UD (fun v hv=>MW (fun q hq=>Sa ((h.2 v hv).2 q hq) ((s v hv).2 q hq).1 ((s v hv).2 q hq).2 (by decide)) (by decide)) (by decide)
theorem aeo{v:List Qr}(h:OkV v)(s:Sml v):eA 6 v (HF v):=MW (fun q hq=>Sa (h.2 q hq) (s.2 q hq).1 (s.2 q hq).2 (by decide)) (by decide)
section refs
variable {n:Int}{ob rw:List (List Qr)}{bd:List Qr}
theorem Z7(h1:ob.length≤9223372036854775806)(h2:rw.length≤9223372036854775806):lP ⟨n,ob,rw,bd⟩=some (decide (HU n ob rw bd)):=by
 have sh:∀(m:List (List Qr)),m.length≤9223372036854775806→jF m n=some (decide ((r9 m:Int)≤n)):=fun m hm=>by
  unfold jF
  exact bind_eq (M3 m hm)<|bind_eq rfl rfl
 unfold lP
 refine aZ<|bind_eq rfl<|HT (fun _=>bind_eq rfl rfl)<|HT (fun _=>bind_eq rfl<|bind_eq rfl rfl)<|HT (fun _=>bind_eq rfl<|bind_eq rfl rfl)<|HT (fun _=>bind_eq rfl<|bind_eq rfl rfl)<|HT (fun _=>bind_eq rfl<|bind_eq rfl<|bind_eq rfl rfl)<|J5 (fun h=>?_) (fun h=>aZ<|bind_eq (sh ob h1)<|UC (fun _=>bind_eq (sh rw h2) rfl) ?_)
 ·congr 1;symm;rw[decide_eq_false_iff_not]
  simp only[Bool.or_eq_true,decide_eq_true_eq]at h
  unfold HU;omega
 ·congr 1
  simp only[Bool.or_eq_false_iff,decide_eq_false_iff_not]at h
  rw[←Bool.decide_and,decide_eq_decide]
  unfold HU;omega
end refs
end Go.Proofs.YtningmnklfpfjaaGreat
namespace Go.Proofs.YtningmnklfpfjaaGreat
open Go.Fw
section sol
variable {L n m p:Nat}{O F:Nat→Nat→Rat}{b:Nat→Nat}{z:Nat→Rat}
theorem HM(hu:Uc m F b):∀j,j≤m→∀k,k<n→qj n m F b j k=c8 (fun j=>if b j=k then F j (n+m)else 0) j
 |0,_,_,_=>rfl
 |j+1,hj,k,hk=>by
  show(if b j<n∧k=b j then F j (n+m)else qj n m F b j k)=c8 (fun j=>if b j=k then F j (n+m)else 0) j+(if b j=k then F j (n+m)else 0)
  by_cases e:b j=k
  ·rw[if_pos ⟨by omega,e.symm⟩,if_pos e,eD (k:=fun _=>0) (fun i hi=>if_neg (fun q=>by
    have:=yf hu (i:=i) (j:=j) (by omega) (by omega) (q.trans e.symm)
    omega)),nx];grind
  ·rw[if_neg (fun q=>e q.2.symm),if_neg e,HM hu j (by omega) k hk];grind
theorem Kc:∀j k,n≤k→qj n m F b j k=0
 |0,_,_=>rfl
 |j+1,k,hk=>by
  show(if b j<n∧k=b j then F j (n+m)else qj n m F b j k)=0
  rw[if_neg (by omega),Kc j k hk]
theorem M5(h:ny L n m p O F b):∀j,j≤m→∀k,FQ L (qj n m F b j k)
 |0,_,_=>wh h.l1
 |j+1,hj,k=>by
  show FQ L (if b j<n∧k=b j then F j (n+m)else qj n m F b j k)
  split
  ·exact h.f j (by omega) _
  ·exact M5 h j (by omega) k
theorem At{R:Nat→Nat→Rat}{g:Nat→Rat}:Uc m (tF n m R g) (fun j=>n+j):=fun i j hi hj=>by
 show tF n m R g i (n+j)=_
 unfold tF
 rw[if_neg (by omega)]
 by_cases e:i=j
 ·rw[if_pos (by omega),if_pos e]
 ·rw[if_neg (by omega),if_neg (by omega),if_neg e]
end sol
def D2(f:Nat→Rat)(N:Nat):Prop:=(∀i,i<N→f i=0)∨∃i,i<N∧(∀j,j<i→f j=0)∧0<f i
theorem D2.add{f g:Nat→Rat}{N:Nat}(hf:D2 f N)(hg:D2 g N):D2 (fun i=>f i+g i) N:=by
 rcases hf with h1|⟨i,h1,h2,h3⟩<;>rcases hg with k1|⟨j,k1,k2,k3⟩
 ·exact .inl (fun i hi=>by show f i+g i=0;rw[h1 i hi,k1 i hi];exact Rat.add_zero 0)
 ·exact .inr ⟨j,k1,fun q hq=>by show f q+g q=0;rw[h1 q (by omega),k2 q hq];exact Rat.add_zero 0,by show 0<f j+g j;rw[h1 j k1];grind⟩
 ·exact .inr ⟨i,h1,fun q hq=>by show f q+g q=0;rw[h2 q hq,k1 q (by omega)];exact Rat.add_zero 0,by show 0<f i+g i;rw[k1 i h1];grind⟩
 ·rcases Nat.lt_trichotomy i j with e|e|e
  ·exact .inr ⟨i,h1,fun q hq=>by show f q+g q=0;rw[h2 q hq,k2 q (by omega)];exact Rat.add_zero 0,by show 0<f i+g i;rw[k2 i e];grind⟩
  ·subst e;exact .inr ⟨i,h1,fun q hq=>by show f q+g q=0;rw[h2 q hq,k2 q hq];exact Rat.add_zero 0,by show 0<f i+g i;grind⟩
  ·exact .inr ⟨j,k1,fun q hq=>by show f q+g q=0;rw[h2 q (by omega),k2 q hq];exact Rat.add_zero 0,by show 0<f j+g j;rw[h2 j e];grind⟩
theorem D2.mul{f:Nat→Rat}{N:Nat}{c:Rat}(hc:0≤c)(hf:D2 f N):D2 (fun i=>c*f i) N:=by
 by_cases e:c=0
 ·exact .inl (fun i _=>by show c*f i=0;rw[e];grind)
 ·have hp:0<c:=by grind
  rcases hf with h1|⟨i,h1,h2,h3⟩
  ·exact .inl (fun i hi=>by show c*f i=0;rw[h1 i hi];grind)
  ·exact .inr ⟨i,h1,fun q hq=>by show c*f q=0;rw[h2 q hq];grind,Rat.mul_pos hp h3⟩
theorem D2.sum{h:Nat→Nat→Rat}{N:Nat}:∀{K:Nat},(∀k,k<K→D2 (h k) N)→D2 (fun i=>c8 (fun k=>h k i) K) N
 |0,_=>.inl (fun _ _=>rfl)
 |K+1,hk=>(D2.sum (K:=K) (fun k q=>hk k (by omega))).add (hk K (by omega))
def M6:Nat→Nat
 |0=>6
 |k+1=>4*M6 k+1
theorem aep:∀k,k<13→M6 k≤106255701:=by decide
theorem Wq:∀k,k<12→M6 k≤100000000:=by decide
abbrev aeq(v:Pv):Prop:=(-9223372036854775808≤v.row∧v.row≤9223372036854775807)∧(-9223372036854775808≤v.col∧v.col≤9223372036854775807)
abbrev aer(l:List Pv):Nat:=(l.map fun _=>1+1+1).sum+1
theorem al7:(dN.bind fun x=>some x)=some true:=bind_eq Z6 rfl
theorem Ss{n:Int}{ob rw:List (List Qr)}{bd:List Qr}(h1:ob.length≤9223372036854775806)(h2:rw.length≤9223372036854775806)(h3:bd.length≤9223372036854775806):∃b,kP ⟨n,ob,rw,bd⟩=some b∧(b=false→Sm6 ob rw bd∧(HU n ob rw bd→rw.length≤5∧n≤6)):=by
 obtain⟨b1,e1,s1⟩:=Sr (n:=n) h1 h2 h3
 have my:=Z7 (n:=n) (bd:=bd) h1 h2
 unfold kP
 refine⟨_,aZ<|bind_eq e1<|HT (c:=decide (5<rw.length)&&decide (HU n ob rw bd)) (fun _=>bind_eq rfl<|bind_eq (congrArg some (decide_eq_decide.2 (show(5:Int)<(rw.length:Int)↔5<rw.length by omega)))<|UC (fun _=>bind_eq my rfl) rfl)<|HT (c:=decide (6<n)&&decide (HU n ob rw bd)) (fun _=>bind_eq rfl<|UC (fun _=>bind_eq my rfl) rfl) rfl,fun h=>?_⟩
 simp only[Bool.or_eq_false_iff,Bool.and_eq_false_iff,decide_eq_false_iff_not]at h
 refine⟨s1 h.1.1,fun hv=>⟨?_,?_⟩⟩
 ·rcases h.1.2 with q|q
  ·omega
  ·exact absurd hv q
 ·rcases h.2 with q|q
  ·omega
  ·exact absurd hv q
theorem aet{n:Int}{ob rw:List (List Qr)}{bd:List Qr}(v:iu ⟨n,ob,rw,bd⟩=some false):pP ⟨n,ob,rw,bd⟩=some ():=by
 unfold pP
 exact bind_eq v<|bind_eq rfl<|aV rfl rfl
theorem Ob{n m p:Nat}{O F0:Nat→Nat→Rat}{b0:Nat→Nat}{l:List Pv}(hl:l.length≤12)(h:ny 6 n m p O F0 b0)(hu:Uc m F0 b0){R:Type}{f:List (List Qr)×List Int×List (List Qr)→Option R}{r:R}
  (hf:∀F b,ny 106255701 n m p O F b→Uc m F b→(∀z,tQ n m F z↔tQ n m F0 z)→f (mq p (fun _=>n) O,bq m b,mq m (fun _=>n+m+1) F)=some r):
  ((bQ (fun(s33:Int×(List (List Qr))×(List Int)×(List (List Qr)))=>match s33 with|⟨M7,M8,M9,Na⟩=>(show Option ((Int×(List (List Qr))×(List Int)×(List (List Qr)))⊕((List (List Qr))×(List Int)×(List (List Qr))))from(some (l.length:Int)).bind fun uC=>(some (decide ((M7:Int)<uC))).bind fun rI=>(bif rI then(cz l M7).bind fun⟨aeu,alm⟩=>(cz l M7).bind fun⟨Mw,Jr⟩=>(aA true n M8 M9 Na aeu Jr).bind fun⟨SI,l37,Ol,l39⟩=>(some (IntKind.i64.wrap (M7+1))).bind fun ri=>some (.inl (ri,l37,Ol,l39))else some (.inr (M8,M9,Na))))) (0,mq p (fun _=>n) O,bq m b0,mq m (fun _=>n+m+1) F0)).bind f)=some r:=by
 refine nu (fun s=>∃(k:Nat) (F:Nat→Nat→Rat) (b:Nat→Nat),s=((k:Int),mq p (fun _=>n) O,bq m b,mq m (fun _=>n+m+1) F)∧k≤l.length∧ny (M6 k) n m p O F b∧Uc m F b∧∀z,tQ n m F z↔tQ n m F0 z) (fun e=>∃(F:Nat→Nat→Rat) (b:Nat→Nat),e=(mq p (fun _=>n) O,bq m b,mq m (fun _=>n+m+1) F)∧ny 106255701 n m p O F b∧Uc m F b∧∀z,tQ n m F z↔tQ n m F0 z) (fun s=>l.length-s.1.toNat) ?_ ⟨0,F0,b0,rfl,Nat.zero_le _,h,hu,fun _=>Iff.rfl⟩ ?_
 ·rintro _ ⟨k,F,b,rfl,hk,ht,hu,hz⟩
  by_cases hlt:k<l.length
  ·have g:=List.getElem?_eq_getElem hlt
   generalize l[k]=v at g
   obtain⟨r,c⟩:=v
   obtain⟨e,F',b',hp,ht',hu',hz'⟩:=LR ht (Wq k (by omega)) hu r c
   refine .inl ⟨(((k+1:Nat):Int),mq p (fun _=>n) O,bq m b',mq m (fun _=>n+m+1) F'),?_,⟨k+1,F',b',rfl,hlt,ht',hu',fun z=>(hz' z).trans (hz z)⟩,by simp only[Int.toNat_natCast];omega⟩
   exact bind_eq rfl<|bind_eq (dT (by omega))<|aV rfl<|bind_eq (aP g)<|bind_eq (aP g)<|bind_eq hp<|bind_eq (congrArg some (bk (by omega))) rfl
  ·exact .inr ⟨_,bind_eq rfl<|bind_eq (dF (by omega))<|aE rfl rfl,F,b,rfl,ht.mono (aep k (by omega)),hu,hz⟩
 ·rintro _ ⟨F,b,rfl,ht,hu,hz⟩
  exact hf F b ht hu hz
end Go.Proofs.YtningmnklfpfjaaGreat
namespace Go.Proofs.YtningmnklfpfjaaGreat
open Go.Fw
section two
variable {L K n m p:Nat}{O F G:Nat→Nat→Rat}{b c:Nat→Nat}
theorem zC(hb:∀j,j<m→b j<n+m)(f h:Nat→Rat):c8 (fun l=>f l*c8 (fun j=>if b j=l then h j else 0) m) (n+m)=c8 (fun j=>f (b j)*h j) m:=by
 rw[show(fun l=>f l*c8 (fun j=>if b j=l then h j else 0) m)=fun l=>c8 (fun j=>f l*(if b j=l then h j else 0)) m from funext fun l=>(vE _ _ _).symm,FI]
 refine eD (fun j hj=>?_)
 rw[lS (hb j hj) (fun i _ hne=>by rw[if_neg (fun q=>hne q.symm)];grind),if_pos rfl]
theorem Au(hb:∀j,j<m→b j<n+m)(hu:Uc m F b)(hs:∀z,tQ n m F z→tQ n m G z){i k:Nat}(hi:i<m)(hk:k≤n+m):G i k=c8 (fun s=>G i (b s)*F s k) m:=by
 have one:∀(h:Nat→Rat) (i:Nat),i<m→c8 (fun j=>F i (b j)*h j) m=h i:=fun h i hi=>by
  rw[lS hi (fun j hj hne=>by rw[hu i j hi hj,if_neg (fun q=>hne q.symm)];grind),hu i i hi hi,if_pos rfl];grind
 have s0:tQ n m F (fun l=>c8 (fun j=>if b j=l then F j (n+m)else 0) m):=fun i hi=>by rw[zC hb,one _ i hi]
 have g0:=hs _ s0 i hi
 rw[zC hb]at g0
 by_cases e:k=n+m
 ·rw[e,←g0]
 have hk':k<n+m:=by omega
 have pt:∀(f:Nat→Rat),c8 (fun l=>f l*(c8 (fun j=>if b j=l then F j (n+m)else 0) m+((if l=k then 1 else 0)-c8 (fun j=>if b j=l then F j k else 0) m))) (n+m)=c8 (fun j=>f (b j)*F j (n+m)) m+(f k-c8 (fun j=>f (b j)*F j k) m):=fun f=>by
  rw[←zC hb f (fun j=>F j (n+m)),←zC hb f (fun j=>F j k)]
  have e1:f k=c8 (fun l=>f l*(if l=k then 1 else 0)) (n+m):=by
   rw[lS hk' (fun i _ hne=>by rw[if_neg hne];grind),if_pos rfl];grind
  rw[e1,←DX,←DW]
  exact eD (fun l _=>by grind)
 have s1:tQ n m F (fun l=>c8 (fun j=>if b j=l then F j (n+m)else 0) m+((if l=k then 1 else 0)-c8 (fun j=>if b j=l then F j k else 0) m)):=fun i hi=>by
  rw[pt (F i),one _ i hi,one _ i hi];grind
 have g1:=hs _ s1 i hi
 rw[pt (G i),g0]at g1
 grind
theorem vI(hb:∀j,j<m→b j<n+m)(hu:Uc m F b)(hv:Uc m G c)(hs:∀z,tQ n m F z→tQ n m G z)(hc:∀s,s<m→∃j,j<m∧c j=b s){i j k:Nat}(hi:i<m)(hj:j<m)(e:c j=b i)(hk:k≤n+m):F i k=G j k:=by
 rw[Au hb hu hs hj hk,lS hi (fun s hs' hne=>?_),←e,hv j j hj hj,if_pos rfl]
 ·grind
 ·obtain⟨t,ht,et⟩:=hc s hs'
  rw[←et,hv j t hj ht,if_neg (fun q=>?_)]
  ·grind
  ·subst q
   exact hne (yf hu hs' hi (et.symm.trans e))
theorem reach(h:ny L n m p O F b)(hu:Uc m F b){G:Nat→Nat→Rat}{c:Nat→Nat}(hg:ny (M6 0) n m p O G c)(hv:Uc m G c)(hs:∀z,tQ n m F z↔tQ n m G z):∀t,t≤m→∃G' c',ny (M6 t) n m p O G' c'∧Uc m G' c'∧(∀z,tQ n m F z↔tQ n m G' z)∧∀s,s<t→∃j,j<m∧c' j=b s
 |0,_=>⟨G,c,hg,hv,hs,fun s hs=>by omega⟩
 |t+1,ht=>by
  obtain⟨G',c',h1,h2,h3,h4⟩:=reach h hu hg hv hs t (by omega)
  by_cases q:∃j,j<m∧c' j=b t
  ·refine⟨G',c',h1.mono (by show _≤4*M6 t+1;omega),h2,h3,fun s hs=>?_⟩
   by_cases e:s=t
   ·subst e;exact q
   ·exact h4 s (by omega)
  ·by_cases q2:∃r,r<m∧G' r (b t)≠0∧∀s,s<t→c' r≠b s
   ·obtain⟨r,hr,h0,hn⟩:=q2
    refine⟨_,_,As h1 hr (h.hb t (by omega)) h0,vH hr h0 h2,fun z=>(h3 z).trans (zB hr h0).symm,fun s hs=>?_⟩
    by_cases e:s=t
    ·subst e;exact⟨r,hr,if_pos rfl⟩
    ·obtain⟨j,hj,ej⟩:=h4 s (by omega)
     refine⟨j,hj,?_⟩
     show(if j=r then _ else c' j)=_
     rw[if_neg (fun(q:j=r)=>hn s (by omega) (by rw[←q];exact ej))];exact ej
   ·exfalso
    have e:=Au h1.hb h2 (fun z=>(h3 z).2) (i:=t) (k:=b t) (show t<m by omega) (Nat.le_of_lt (h.hb t (by omega)))
    rw[hu t t (by omega) (by omega),if_pos rfl,eD (k:=fun _=>0) (fun s hs=>?_),nx]at e
    ·exact absurd e (by decide)
    ·by_cases w:G' s (b t)=0
     ·rw[w];grind
     ·by_cases w2:∃u,u<t∧c' s=b u
      ·obtain⟨u,hu1,hu2⟩:=w2
       rw[hu2,hu t u (by omega) (by omega),if_neg (by omega)];grind
      ·exact absurd ⟨s,hs,w,fun u hu q=>w2 ⟨u,hu,q⟩⟩ q2
theorem short(h:ny L n m p O F b)(hu:Uc m F b){G:Nat→Nat→Rat}{c:Nat→Nat}(hg:ny 6 n m p O G c)(hv:Uc m G c)(hs:∀z,tQ n m F z↔tQ n m G z)(hm:m≤5):ny 6485 n m p O F b:=by
 obtain⟨G',c',h1,h2,h3,h4⟩:=reach h hu (G:=G) (c:=c) hg hv hs m (Nat.le_refl m)
 have sz:M6 m≤6485:=by
  have:∀k,k<6→M6 k≤6485:=by decide
  exact this m (by omega)
 have h1:=h1.mono sz
 refine⟨fun i hi k=>?_,h1.o,h.z,by decide,h.hn,h.hm,h.hp,h.hb⟩
 by_cases hk:k≤n+m
 ·obtain⟨j,hj,e⟩:=h4 i hi
  rw[vI h.hb hu h2 (fun z=>(h3 z).1) h4 hi hj e hk]
  exact h1.f j hj k
 ·rw[h.z i hi k (by omega)];exact wh (by decide)
end two
end Go.Proofs.YtningmnklfpfjaaGreat
namespace Go.Proofs.YtningmnklfpfjaaGreat
open Go.Fw
def sp(i q r:Nat):Nat:=if r=i then q else if r=q then i else r
theorem Nb(i q r:Nat):sp i q (sp i q r)=r:=by
 unfold sp
 by_cases h1:r=i
 ·rw[if_pos h1]
  by_cases h2:q=i
  ·rw[if_pos h2];omega
  ·rw[if_neg h2,if_pos rfl];exact h1.symm
 ·rw[if_neg h1]
  by_cases h2:r=q
  ·rw[if_pos h2,if_pos rfl];exact h2.symm
  ·rw[if_neg h2,if_neg h1,if_neg h2]
theorem vJ{i q r m:Nat}(hi:i<m)(hq:q<m)(hr:r<m):sp i q r<m:=by
 unfold sp
 split
 ·exact hq
 ·split
  ·exact hi
  ·exact hr
theorem St{i q r s:Nat}(h:sp i q r=sp i q s):r=s:=by rw[←Nb i q r,h,Nb]
theorem Wr{m w i q:Nat}{F:Nat→Nat→Rat}(hi:i<m)(hq:q<m):((mq m (fun _=>w) F).set i (vq w (F q))).set q (vq w (F i))=mq m (fun _=>w) (fun r=>F (sp i q r)):=by
 apply List.ext_getElem?
 intro j
 rw[List.getElem?_set,List.getElem?_set,List.length_set,c9]
 by_cases hj:j<m
 ·rw[iz hj,iz hj]
  show _=some (vq w (F (sp i q j)))
  unfold sp
  by_cases e1:q=j
  ·rw[if_pos e1,if_pos hq]
   by_cases e2:j=i
   ·rw[if_pos e2,e1,e2]
   ·rw[if_neg e2,if_pos e1.symm]
  ·rw[if_neg e1]
   by_cases e2:i=j
   ·rw[if_pos e2,if_pos hi,if_pos e2.symm]
   ·rw[if_neg e2,if_neg (fun e=>e2 e.symm),if_neg (fun e=>e1 e.symm)]
 ·rw[List.getElem?_eq_none (l:=mq m _ _) (by rw[c9];omega),List.getElem?_eq_none (l:=mq m _ _) (by rw[c9];omega),if_neg (by omega),if_neg (by omega)]
section sw
variable {L n m p i q:Nat}{O F:Nat→Nat→Rat}{b:Nat→Nat}
theorem ny.sw(h:ny L n m p O F b)(hi:i<m)(hq:q<m):ny L n m p O (fun r=>F (sp i q r)) (fun r=>b (sp i q r)):=
 ⟨fun r hr k=>h.f _ (vJ hi hq hr) k,h.o,fun r hr k hk=>h.z _ (vJ hi hq hr) k hk,h.l1,h.hn,h.hm,h.hp,fun j hj=>h.hb _ (vJ hi hq hj)⟩
theorem aev(hu:Uc m F b)(hi:i<m)(hq:q<m):Uc m (fun r=>F (sp i q r)) (fun r=>b (sp i q r)):=fun r s hr hs=>by
 show F (sp i q r) (b (sp i q s))=_
 rw[hu _ _ (vJ hi hq hr) (vJ hi hq hs)]
 by_cases e:r=s
 ·rw[if_pos e,if_pos (by rw[e])]
 ·rw[if_neg e,if_neg (fun w=>e (St w))]
theorem Z8{z:Nat→Rat}(hi:i<m)(hq:q<m):tQ n m (fun r=>F (sp i q r)) z↔tQ n m F z:=
 ⟨fun h r hr=>by have:=h (sp i q r) (vJ hi hq hr);simp only[Nb]at this;exact this,fun h r hr=>h _ (vJ hi hq hr)⟩
end sw
section from_
variable {n:Nat}{ob rw:List (List Qr)}{bd:List Qr}{O R F:Nat→Nat→Rat}{g:Nat→Rat}{b c:Nat→Nat}
theorem FM{m p:Nat}(hm:rw.length=m)(hp:ob.length=p)(ro:pY 6 ob O)(rr:pY 6 rw R)(rb:eA 6 bd g)(hv:HU (n:Int) ob rw bd)(hm5:m≤5)(sq:∀i,i<m→c i<n+m)(hinj:∀i j,i<m→j<m→c i=c j→i=j)
  (hu:Uc m F b) (hz:∀z,tQ n m F z↔tQ n m (tF n m R g) z) (hc:∀i,i<m→∃j,j<m∧b j=c i):
  ∃G,eJ ⟨(n:Int),ob,rw,bd⟩ (bq m c)=some (true,(n:Int),mq p (fun _=>n) O,bq m c,mq m (fun _=>n+m+1) G)∧ny 6485 n m p O G c∧Uc m G c∧∀z,tQ n m F z↔tQ n m G z:=by
 have v:=D0 (n:=(n:Int)) (ob:=ob) (rw:=rw) (bd:=bd) (by obtain⟨_,_,_,h,_⟩:=hv;omega) (by omega)
 rw[decide_eq_true hv]at v
 have eN:=aej (n:=n) ro rr rb (by decide) (by decide) (by decide) hv
 have k0:=HK (n:=n) ro rr rb (by decide) hv
 have hn:=k0.hn
 rw[hm,hp]at k0 eN
 have u0:Uc m (tF n m R g) (fun j=>n+j):=At
 generalize tF n m R g=F0 at*
 have bl:=iU m c
 have bg:∀j,j<m→(bq m c)[j]? =some ((c j:Nat):Int):=fun j hj=>oE hj
 have fin:∃e,(bQ (fun(SH:Int×(List (List Qr))×(List Int)×(List (List Qr)))=>match SH with|⟨gS,nH,nI,dg⟩=>(show Option ((Int×(List (List Qr))×(List Int)×(List (List Qr)))⊕(((List (List Qr))×(List Int)×(List (List Qr)))⊕(Bool×Int×(List (List Qr))×(List Int)×(List (List Qr)))))from(some (decide ((gS:Int)<(m:Int)))).bind fun EX=>(bif EX then(cz (bq m c) gS).bind fun SI=>(bQ (fun(kF:Int)=>(show Option ((Int)⊕(Int))from b9 (fun(xZ:Bool)=>(bif xZ then(some (IntKind.i64.wrap (kF+1))).bind fun Iz=>some (.inl Iz)else some (.inr kF))) fun K80=>(some (dg.length:Int)).bind fun D7=>(some (decide ((kF:Int)<D7))).bind fun Km=>(bif Km then(kQ dg kF).bind fun TX=>(dg[TX]?).bind fun Iy=>(cz Iy SI).bind fun⟨⟨Fu,Fv⟩,⟨Fx,Fy⟩⟩=>(eM ⟨⟨Fu,Fv⟩,⟨Fx,Fy⟩⟩).bind fun SG=>(some (decide ((SG:Int)=0))).bind fun Pp=>some Pp else some false).bind fun Al=>K80 Al)) gS).bind fun nq=>(some (dg.length:Int)).bind fun Me=>(some (decide ((nq:Int)=Me))).bind fun NT=>(bif NT then none else(kQ dg nq).bind fun JC=>(dg[JC]?).bind fun Cv=>(kQ dg gS).bind fun Eo=>(dg[Eo]?).bind fun Rj=>(kQ dg gS).bind fun T1=>(stM dg T1 Cv).bind fun l84=>(kQ l84 nq).bind fun T2=>(stM l84 T2 Rj).bind fun l85=>(bZ true (n:Int) nH nI l85 gS SI).bind fun⟨l89,l90,l91⟩=>(some (IntKind.i64.wrap (gS+1))).bind fun Cx=>some (.inl (Cx,l89,l90,l91)))else some (.inr (.inl (nH,nI,dg)))))) (0,mq p (fun _=>n) O,bq m (fun j=>n+j),mq m (fun _=>n+m+1) F0))=some e∧∃G,e=.inl (mq p (fun _=>n) O,bq m (fun j=>n+j),mq m (fun _=>n+m+1) G)∧ny 6485 n m p O G c∧Uc m G c∧∀z,tQ n m F z↔tQ n m G z:=by
  refine rD (fun s=>∃(k:Nat) (H:Nat→Nat→Rat) (d:Nat→Nat),s=((k:Int),mq p (fun _=>n) O,bq m (fun j=>n+j),mq m (fun _=>n+m+1) H)∧k≤m∧ny (M6 k) n m p O H d∧Uc m H d∧(∀z,tQ n m F z↔tQ n m H z)∧∀s,s<k→d s=c s) (fun e=>∃G,e=Sum.inl (mq p (fun _=>n) O,bq m (fun j=>n+j),mq m (fun _=>n+m+1) G)∧ny 6485 n m p O G c∧Uc m G c∧∀z,tQ n m F z↔tQ n m G z) (fun s=>m-s.1.toNat) ?_ ⟨0,F0,fun j=>n+j,rfl,Nat.zero_le _,(show ny (M6 0) n m p O F0 (fun j=>n+j)from k0),u0,hz,fun s hs=>by omega⟩
  rintro _ ⟨k,H,d,rfl,hk,ht,hd,hs,hdc⟩
  by_cases hlt:k<m
  ·left
   obtain⟨t,U5,et⟩:=hc k hlt
   have ex:∃q,k≤q∧q<m∧H q (c k)≠0:=by
    refine Classical.byContradiction (fun no=>?_)
    have e:=Au ht.hb hd (fun z=>(hs z).2) (i:=t) (k:=c k) U5 (Nat.le_of_lt (sq k hlt))
    rw[←et,hu t t U5 U5,if_pos rfl,eD (k:=fun _=>0) (fun s hs'=>?_),nx]at e
    ·exact absurd e (by decide)
    ·by_cases w:s<k
     ·obtain⟨j,hj,ej⟩:=hc s hs'
      rw[hdc s w,←ej,hu t j U5 hj,if_neg (fun q=>?_)]
      ·grind
      ·have:=hinj s k hs' hlt (by rw[←ej,←et,q])
       omega
     ·have:H s (b t)=0:=Classical.byContradiction (fun w2=>no ⟨s,by omega,hs',by rw[←et];exact w2⟩)
      rw[this];grind
   have szk:M6 k≤100000000:=Wq k (by omega)
   have hck:=sq k hlt
   have LM:=c9 m (fun _=>n+m+1) H
   have fl:∃y,(bQ (fun(kF:Int)=>(show Option ((Int)⊕(Int))from b9 (fun(xZ:Bool)=>(bif xZ then(some (IntKind.i64.wrap (kF+1))).bind fun Iz=>some (.inl Iz)else some (.inr kF))) fun K80=>(some ((mq m (fun _=>n+m+1) H).length:Int)).bind fun D7=>(some (decide ((kF:Int)<D7))).bind fun Km=>(bif Km then(kQ (mq m (fun _=>n+m+1) H) kF).bind fun TX=>((mq m (fun _=>n+m+1) H)[TX]?).bind fun Iy=>(cz Iy ((c k:Nat):Int)).bind fun⟨⟨Fu,Fv⟩,⟨Fx,Fy⟩⟩=>(eM ⟨⟨Fu,Fv⟩,⟨Fx,Fy⟩⟩).bind fun SG=>(some (decide ((SG:Int)=0))).bind fun Pp=>some Pp else some false).bind fun Al=>K80 Al)) (k:Int))=some y∧∃q:Nat,y=(q:Int)∧k≤q∧q<m∧H q (c k)≠0:=by
    refine rD (fun y=>∃t q:Nat,y=(t:Int)∧k≤t∧t≤q∧q<m∧H q (c k)≠0) (fun y=>∃q:Nat,y=(q:Int)∧k≤q∧q<m∧H q (c k)≠0) (fun y=>m-y.toNat) ?_ (by obtain⟨q,h1,h2,h3⟩:=ex;exact⟨k,q,rfl,Nat.le_refl _,h1,h2,h3⟩)
    rintro _ ⟨t,q,rfl,h1,h2,h3,h4⟩
    have g1:(mq m (fun _=>n+m+1) H)[t]? =some (vq (n+m+1) (H t)):=iz (by omega)
    have g2:(vq (n+m+1) (H t))[c k]? =some (qn (H t (c k))):=lM (by omega)
    have sg:=((ht.f t (by omega) (c k)).rep ht.l1).sign (by omega)
    have zz:qi (H t (c k)) 0=0↔H t (c k)=0:=lQ
    generalize mq m (fun _=>n+m+1) H=rows at*
    generalize qn (H t (c k))=w at*
    obtain⟨⟨_,_⟩,⟨_,_⟩⟩:=w
    by_cases e:H t (c k)=0
    ·left
     have:t≠q:=fun w=>h4 (w▸e)
     refine⟨((t+1:Nat):Int),?_,⟨t+1,q,rfl,by omega,by omega,h3,h4⟩,by simp only[Int.toNat_natCast];omega⟩
     exact aZ<|bind_eq rfl<|bind_eq (dT (by omega))<|bind_eq (a:=true) (aV rfl<|bind_eq (bn (by omega))<|bind_eq g1<|bind_eq (aP g2)<|bind_eq sg<|bind_eq (dT (zz.2 e)) rfl)<|aV rfl<|bind_eq (congrArg some (bk (by omega))) rfl
    ·right
     refine⟨(t:Int),?_,t,rfl,h1,by omega,e⟩
     exact aZ<|bind_eq rfl<|bind_eq (dT (by omega))<|bind_eq (a:=false) (aV rfl<|bind_eq (bn (by omega))<|bind_eq g1<|bind_eq (aP g2)<|bind_eq sg<|bind_eq (dF (fun w=>e (zz.1 w))) rfl)<|aE rfl rfl
   obtain⟨y,fl,q,rfl,hkq,hqm,hq0⟩:=fl
   have s1:=ht.sw hlt hqm
   have h0:(fun r=>H (sp k q r)) k (c k)≠0:=by
    show H (sp k q k) (c k)≠0
    unfold sp;rw[if_pos rfl];exact hq0
   have sv:=Sj s1 szk hlt (show c k<n+m+1 by omega) h0 (o0:=true) (o1:=(n:Int)) (o2:=mq p (fun _=>n) O) (o3:=bq m (fun j=>n+j))
   rw[←Wr hlt hqm]at sv
   have gq:(mq m (fun _=>n+m+1) H)[q]? =some (vq (n+m+1) (H q)):=iz hqm
   have gk:(mq m (fun _=>n+m+1) H)[k]? =some (vq (n+m+1) (H k)):=iz hlt
   refine⟨(((k+1:Nat):Int),mq p (fun _=>n) O,bq m (fun j=>n+j),mq m (fun _=>n+m+1) (lT (fun r=>H (sp k q r)) k (c k))),?_,⟨k+1,_,_,rfl,hlt,As s1 hlt hck h0,vH hlt h0 (aev hd hlt hqm),fun z=>((hs z).trans (Z8 hlt hqm).symm).trans (zB hlt h0).symm,fun s hs'=>?_⟩,by simp only[Int.toNat_natCast];omega⟩
   ·generalize mq m (fun _=>n+m+1) (lT (fun r=>H (sp k q r)) k (c k))=alo at*
    refine bind_eq (dT (by omega))<|aV rfl<|bind_eq (aP (bg k hlt))<|bind_eq fl ?_
    generalize mq m (fun _=>n+m+1) H=rows at*
    exact bind_eq rfl<|bind_eq (dF (by omega))<|aE rfl<|bind_eq (bn (by omega))<|bind_eq gq<|bind_eq (bn (by omega))<|bind_eq gk<|bind_eq (bn (by omega))<|bind_eq (ep (by omega))<|bind_eq (bn (by rw[List.length_set];omega))<|bind_eq (ep (by rw[List.length_set];omega))<|bind_eq sv<|bind_eq (congrArg some (bk (by omega))) rfl
   ·show(if s=k then c k else d (sp k q s))=c s
    by_cases e:s=k
    ·rw[if_pos e,e]
    ·rw[if_neg e]
     unfold sp
     rw[if_neg e,if_neg (by omega)]
     exact hdc s (by omega)
  ·right
   obtain rfl:k=m:=by omega
   have sz:M6 k≤6485:=by
    have:∀k,k<6→M6 k≤6485:=by decide
    exact this k (by omega)
   have t1:=ht.mono sz
   refine⟨_,bind_eq (dF (by omega))<|aE rfl rfl,H,rfl,⟨t1.f,t1.o,t1.z,t1.l1,t1.hn,t1.hm,t1.hp,sq⟩,fun i j hi hj=>by rw[←hdc j hj];exact hd i j hi hj,hs⟩
 obtain⟨e,hl,G,rfl,hG,hGu,hGs⟩:=fin
 refine⟨G,?_,hG,hGu,hGs⟩
 have cp:vN (bq m (fun j=>n+j)) (bq m c)=bq m c:=by
  unfold vN
  rw[iU,iU,List.drop_eq_nil_of_le (by rw[iU];exact Nat.le_refl m),List.append_nil,List.take_of_length_le (by rw[iU];exact Nat.le_refl m)]
 unfold eJ
 refine aZ<|bind_eq v<|bind_eq rfl<|bind_eq (a:=false) (aE rfl<|bind_eq rfl<|bind_eq rfl<|bind_eq (dF (by omega)) rfl)<|aE rfl<|bind_eq rfl<|bind_eq (congrArg some (show IntKind.i64.wrap ((n:Int)+(rw.length:Int))=((n+m:Nat):Int) by rw[cx (by omega) (by omega)];omega))<|bind_eq (pQ (by decide) (by omega))<|bind_eq (congrArg some (show((bq m c).length:Int)=(m:Int) by rw[bl])) ?_
 refine nu (fun s=>∃(k:Nat) (u:List Bool),s=((k:Int),u)∧k≤m∧u.length=n+m∧∀l,u[l]? =some true→∃s,s<k∧c s=l) (fun e=>e=.inl ()) (fun s=>m-s.1.toNat) ?_ ⟨0,_,rfl,Nat.zero_le _,by simp,fun l hl=>by
  rw[List.getElem?_replicate]at hl
  split at hl
  ·cases hl
  ·cases hl⟩ ?_
 ·rintro _ ⟨k,u,rfl,hk,hul,hut⟩
  by_cases hlt:k<m
  ·left
   have hck:=sq k hlt
   obtain⟨w,hw⟩:∃w,u[c k]? =some w:=⟨u[c k]'(by omega),List.getElem?_eq_getElem (by omega)⟩
   have hw2:w=false:=by
    cases w
    ·rfl
    ·obtain⟨s,hs,es⟩:=hut _ hw
     have:=hinj s k (by omega) hlt es
     omega
   subst hw2
   refine⟨(((k+1:Nat):Int),u.set (c k) true),?_,⟨k+1,_,rfl,hlt,by rw[List.length_set];exact hul,fun l hl=>?_⟩,by simp only[Int.toNat_natCast];omega⟩
   ·exact bind_eq (dT (by omega))<|aV rfl<|bind_eq (aP (bg k hlt))<|aZ<|bind_eq (dF (by omega))<|bind_eq (a:=false) (aE rfl<|bind_eq rfl<|bind_eq (dF (by omega)) rfl)<|bind_eq (a:=false) (aE rfl<|bind_eq (bn (by omega))<|bind_eq hw rfl)<|aE rfl<|bind_eq (bn (by omega))<|bind_eq (ep (by omega))<|bind_eq (congrArg some (bk (by omega))) rfl
   ·rw[List.getElem?_set]at hl
    by_cases e:c k=l
    ·exact⟨k,by omega,e⟩
    ·rw[if_neg e]at hl
     obtain⟨s,hs,es⟩:=hut l hl
     exact⟨s,by omega,es⟩
  ·right
   exact⟨_,bind_eq (dF (by omega))<|aE rfl rfl,rfl⟩
 ·rintro _ rfl
  refine bind_eq eN<|bind_eq (congrArg some (show((bq m c).length:Int)=(m:Int) by rw[bl])) ?_
  refine bind_eq hl ?_
  show some (true,(n:Int),mq p (fun _=>n) O,vN (bq m (fun j=>n+j)) (bq m c),mq m (fun _=>n+m+1) G)=_
  rw[cp]
end from_
end Go.Proofs.YtningmnklfpfjaaGreat
namespace Go.Proofs.YtningmnklfpfjaaGreat
open Go.Fw
theorem Su{α:Type}{l:List α}{x:α}(h:l.length≤1000):zM 24 l [x]=some (l++[x]):=DO (by decide) (by omega)
section Z2
variable {L n m p:Nat}{O F:Nat→Nat→Rat}{b:Nat→Nat}
theorem Ws(h:ny L n m p O F b)(hL:L≤4000000000):fN (HJ n m p O F b)=some (mq m (fun _=>n+m) F):=by
 have hm:=h.hm
 have hn:=h.hn
 unfold fN
 refine bind_eq (ij n m p O F b)<|aE rfl<|bind_eq (congrArg some (show((mq m (fun _=>n+m+1) F).length:Int)=(m:Int) by rw[c9])) ?_
 refine aW (fun k=>((k:Int),mq k (fun _=>n+m) F)) m (mq m (fun _=>n+m) F) rfl (fun k hk=>?_) ?_ rfl
 ·have g1:(mq m (fun _=>n+m+1) F)[k]? =some (vq (n+m+1) (F k)):=iz hk
  have rs:=HH (UJ h hk) (by omega) (by rw[cc];omega) ((n+m:Nat):Int)
  rw[show(min (((n+m:Nat):Int)) 65536).toNat=n+m by omega]at rs
  have ap:=Su (l:=mq k (fun _=>n+m) F) (x:=vq (n+m) (F k)) (by rw[c9];omega)
  rw[←zA]at ap
  refine bind_eq (dT (by omega))<|aV rfl<|bind_eq (aP g1)<|bind_eq (ye hn hm)<|bind_eq rs<|bind_eq ap<|bind_eq (congrArg some (bk (by omega))) rfl
 ·exact bind_eq (dF (by omega))<|aE rfl rfl
theorem Sv(h:ny L n m p O F b)(hL:(m+1)*(L+L+1)≤2000000000):cQ (HJ n m p O F b)=some (mq (n+m) (fun _=>p+n) (vG n m p O F b)):=by
 have hm:=h.hm
 have hn:=h.hn
 unfold cQ
 refine bind_eq (ij n m p O F b)<|aE rfl ?_
 have hw:(IntKind.i64.wrap (Tb.vars (HJ n m p O F b)+((Tb.rows (HJ n m p O F b)).length:Int))).toNat=n+m:=by
  show(IntKind.i64.wrap ((n:Int)+((mq m (fun _=>n+m+1) F).length:Int))).toNat=_
  rw[c9,cx (by omega) (by omega)];omega
 refine bind_eq (a:=mq (n+m) (fun _=>p+n) (vG n m p O F b)) ?_ rfl
 refine Eq.trans (congrArg (fun k=>ot _ k []) hw) ?_
 refine zN (fun k=>mq k (fun _=>p+n) (vG n m p O F b)) (n+m) (fun k hk=>?_)
 have ap:=Su (l:=mq k (fun _=>p+n) (vG n m p O F b)) (x:=vq (p+n) (vG n m p O F b k)) (by rw[c9];omega)
 rw[←zA]at ap
 exact bind_eq rfl<|bind_eq (J7 h hL hk).1<|bind_eq ap rfl
end Z2
end Go.Proofs.YtningmnklfpfjaaGreat
namespace Go.Proofs.YtningmnklfpfjaaGreat
open Go.Fw
theorem HN{L n m p:Nat}{O F:Nat→Nat→Rat}{b:Nat→Nat}(h:ny L n m p O F b)(hL:L≤100000000)(r c:Int):(∃e,e≠0∧aA true n (mq p (fun _=>n) O) (bq m b) (mq m (fun _=>n+m+1) F) r c=some (e,mq p (fun _=>n) O,bq m b,mq m (fun _=>n+m+1) F))∨∃(r' c':Nat),r=(r':Int)∧c=(c':Int)∧r'<m∧c'<n+m∧(∀j,j<m→b j≠c')∧F r' c'≠0:=by
 have hm:=h.hm
 have hn:=h.hn
 have same:∀e,e≠0→aA true n (mq p (fun _=>n) O) (bq m b) (mq m (fun _=>n+m+1) F) r c=some (e,mq p (fun _=>n) O,bq m b,mq m (fun _=>n+m+1) F)→(∃e,e≠0∧aA true n (mq p (fun _=>n) O) (bq m b) (mq m (fun _=>n+m+1) F) r c=some (e,mq p (fun _=>n) O,bq m b,mq m (fun _=>n+m+1) F))∨∃(r' c':Nat),r=(r':Int)∧c=(c':Int)∧r'<m∧c'<n+m∧(∀j,j<m→b j≠c')∧F r' c'≠0:=
  fun e h0 he=>.inl ⟨e,h0,he⟩
 have wd:dr (⟨true,(n:Int),mq p (fun _=>n) O,bq m b,mq m (fun _=>n+m+1) F⟩:Tb)=some ((n+m:Nat):Int):=ye hn hm
 have ms:bK (⟨true,(n:Int),mq p (fun _=>n) O,bq m b,mq m (fun _=>n+m+1) F⟩:Tb)=some false:=ij n m p O F b
 have rl:=c9 m (fun _=>n+m+1) F
 by_cases h1:r<0
 ·refine same 1 (by decide) ?_
  unfold aA
  exact bind_eq ms<|aE rfl<|aZ<|bind_eq (dT h1)<|bind_eq (a:=true) (aV rfl rfl)<|bind_eq (a:=true) (aV rfl rfl)<|bind_eq (a:=true) (aV rfl rfl)<|aV rfl rfl
 by_cases h2:(m:Int)≤r
 ·refine same 1 (by decide) ?_
  unfold aA
  exact bind_eq ms<|aE rfl<|aZ<|bind_eq (dF h1)<|bind_eq (a:=true) (aE rfl<|bind_eq rfl<|bind_eq (dT (by omega)) rfl)<|bind_eq (a:=true) (aV rfl rfl)<|bind_eq (a:=true) (aV rfl rfl)<|aV rfl rfl
 by_cases h3:c<0
 ·refine same 1 (by decide) ?_
  unfold aA
  exact bind_eq ms<|aE rfl<|aZ<|bind_eq (dF h1)<|bind_eq (a:=false) (aE rfl<|bind_eq rfl<|bind_eq (dF (by omega)) rfl)<|bind_eq (a:=true) (aE rfl<|bind_eq (dT h3) rfl)<|bind_eq (a:=true) (aV rfl rfl)<|aV rfl rfl
 by_cases h4:((n+m:Nat):Int)≤c
 ·refine same 1 (by decide) ?_
  unfold aA
  exact bind_eq ms<|aE rfl<|aZ<|bind_eq (dF h1)<|bind_eq (a:=false) (aE rfl<|bind_eq rfl<|bind_eq (dF (by omega)) rfl)<|bind_eq (a:=false) (aE rfl<|bind_eq (dF h3) rfl)<|bind_eq (a:=true) (aE rfl<|bind_eq wd<|bind_eq (dT h4) rfl)<|aV rfl rfl
 obtain⟨r,rfl⟩:∃k:Nat,r=(k:Int):=⟨r.toNat,by omega⟩
 obtain⟨c,rfl⟩:∃k:Nat,c=(k:Int):=⟨c.toNat,by omega⟩
 have hr:r<m:=by omega
 have hc:c<n+m:=by omega
 have g1:(mq m (fun _=>n+m+1) F)[r]? =some (vq (n+m+1) (F r)):=iz hr
 have g2:(vq (n+m+1) (F r))[c]? =some (qn (F r c)):=lM (by omega)
 have sg:=((h.f r hr c).rep h.l1).sign (by omega)
 have LM:r<(mq m (fun _=>n+m+1) F).length:=by rw[c9];exact hr
 have Sx:=iU m b
 have bg:∀j,j<m→(bq m b)[j]? =some ((b j:Nat):Int):=fun j hj=>oE hj
 by_cases h5:∀j,j<m→b j≠c
 ·by_cases h6:F r c=0
  ·refine same 7 (by decide) ?_
   unfold aA
   generalize bq m b=B at*
   generalize mq m (fun _=>n+m+1) F=rows at*
   refine bind_eq ms<|aE rfl<|aZ<|bind_eq (dF (by omega))<|bind_eq (a:=false) (aE rfl<|bind_eq rfl<|bind_eq (dF (by omega)) rfl)<|bind_eq (a:=false) (aE rfl<|bind_eq (dF (by omega)) rfl)<|bind_eq (a:=false) (aE rfl<|bind_eq wd<|bind_eq (dF (by omega)) rfl)<|aE rfl<|bind_eq rfl ?_
   refine aW (fun k=>(k:Int)) m (.inl ()) rfl (fun k hk=>?_) ?_ ?_
   ·exact bind_eq (dT (by omega))<|aV rfl<|bind_eq (bn (by omega))<|bind_eq (bg k hk)<|bind_eq (dF (by have:=h5 k hk;omega))<|aE rfl<|bind_eq (congrArg some (bk (by omega))) rfl
   ·exact bind_eq (dF (by omega))<|aE rfl rfl
   ·generalize qn (F r c)=q at*
    obtain⟨⟨_,_⟩,⟨_,_⟩⟩:=q
    exact bind_eq (bn LM)<|bind_eq g1<|bind_eq (aP g2)<|bind_eq sg<|bind_eq (dT (lQ.2 h6))<|aV rfl rfl
  ·exact .inr ⟨r,c,rfl,rfl,hr,hc,h5,h6⟩
 ·refine same 1 (by decide) ?_
  unfold aA
  generalize bq m b=B at*
  generalize mq m (fun _=>n+m+1) F=rows at*
  refine bind_eq ms<|aE rfl<|aZ<|bind_eq (dF (by omega))<|bind_eq (a:=false) (aE rfl<|bind_eq rfl<|bind_eq (dF (by omega)) rfl)<|bind_eq (a:=false) (aE rfl<|bind_eq (dF (by omega)) rfl)<|bind_eq (a:=false) (aE rfl<|bind_eq wd<|bind_eq (dF (by omega)) rfl)<|aE rfl<|bind_eq rfl ?_
  refine bind_eq (wj (n:=m) (p:=fun j=>b j≠c) (e:=(1,mq p (fun _=>n) O,B,rows)) (fun k hk=>?_) (bind_eq (dF (by omega))<|aE rfl rfl)) ?_
  ·refine bind_eq (dT (by omega))<|aV rfl<|bind_eq (bn (by omega))<|bind_eq (bg k hk)<|bind_eq rfl ?_
   by_cases q:b k=c
   ·rw[if_neg (fun e=>e q)];exact aV (decide_eq_true (show((b k:Nat):Int)=(c:Int) by omega)) rfl
   ·rw[if_pos q];exact aE (decide_eq_false (show ¬((b k:Nat):Int)=(c:Int) by omega))<|bind_eq (congrArg some (bk (by omega))) rfl
  ·rw[if_neg h5]
theorem Z9{α β:Type}{x:Option α}{a:α}{f:α→Option β}{Q:β→Prop}(h:x=some a)(hf:∃r,f a=some r∧Q r):∃r,x.bind f=some r∧Q r:=by rw[h];exact hf
theorem exT{β:Type}{b:Bool}{x y:Option β}{Q:β→Prop}(hb:b=true)(h:∃r,x=some r∧Q r):∃r,(bif b then x else y)=some r∧Q r:=by rw[hb];exact h
theorem Ke{S E R:Type}{body:S→Option (S⊕E)}{s:S}{f:E→Option R}{Q:R→Prop}(I:S→Prop)(Post:E→Prop)(μ:S→Nat)
  (step:∀s,I s→∃r,body s=some r∧((∃s',r=.inl s'∧I s'∧μ s'<μ s)∨(∃e,r=.inr e∧Post e))) (h:I s) (hf:∀e,Post e→∃r,f e=some r∧Q r):∃r,(bQ body s).bind f=some r∧Q r:=
 mH I Post μ (fun s hs=>by
  obtain⟨r,hr,h1⟩:=step s hs
  rcases h1 with⟨s',rfl,h2⟩|⟨e,rfl,h2⟩
  ·exact .inl ⟨s',hr,h2⟩
  ·exact .inr ⟨e,hr,h2⟩) h hf
structure HO (m:Nat) (π:Nat→Nat):Prop where
 lt:∀i,i<m→π i<m
 inj:∀i j,i<m→j<m→π i=π j→i=j
 sur:∀i,i<m→∃j,j<m∧π j=i
theorem UR(m:Nat):HO m (fun i=>i):=⟨fun _ h=>h,fun _ _ _ _ h=>h,fun i h=>⟨i,h,rfl⟩⟩
theorem HO.sw{m i q:Nat}{π:Nat→Nat}(h:HO m π)(hi:i<m)(hq:q<m):HO m (fun j=>π (sp i q j)):=
 ⟨fun j hj=>h.lt _ (vJ hi hq hj),fun j k hj hk e=>St (h.inj _ _ (vJ hi hq hj) (vJ hi hq hk) e),fun j hj=>by
  obtain⟨k,hk,e⟩:=h.sur j hj
  exact⟨sp i q k,vJ hi hq hk,by show π (sp i q (sp i q k))=j;rw[Nb];exact e⟩⟩
theorem aex{m i q:Nat}{b:Nat→Nat}(hi:i<m)(hq:q<m):((bq m b).set i ((b q:Nat):Int)).set q ((b i:Nat):Int)=bq m (fun r=>b (sp i q r)):=by
 rw[LP hi,LP hq]
 unfold bq
 refine List.map_congr_left (fun j _=>?_)
 show(((if j=q then b i else if j=i then b q else b j):Nat):Int)=((b (sp i q j):Nat):Int)
 unfold sp
 by_cases e1:j=i
 ·rw[if_pos e1,if_pos e1]
  by_cases e2:j=q
  ·rw[if_pos e2,←e1,e2]
  ·rw[if_neg e2]
 ·rw[if_neg e1,if_neg e1]
  by_cases e2:j=q
  ·rw[if_pos e2,if_pos e2]
  ·rw[if_neg e2,if_neg e2]
section Z2
variable {L n m p:Nat}{O F G:Nat→Nat→Rat}{b c:Nat→Nat}
theorem US(hm:m≤128):ef true (n:Int) (mq p (fun _=>n) O) (bq m b) (mq m (fun _=>n+m+1) F)=some (bq m b):=by
 unfold ef
 refine bind_eq (ij n m p O F b)<|aE rfl<|bind_eq rfl<|bind_eq (pQ (by decide) (by rw[iU];omega)) ?_
 rw[J9]
theorem aaa(h:ny L n m p O F b)(hL:L≤4000000000):ez true (n:Int) (mq p (fun _=>n) O) (bq m b) (mq m (fun _=>n+m+1) F)=some (mq m (fun _=>n+m) F):=by
 have hm:=h.hm
 have hn:=h.hn
 have LM:=c9 m (fun _=>n+m+1) F
 have wd:dr (⟨true,(n:Int),mq p (fun _=>n) O,bq m b,mq m (fun _=>n+m+1) F⟩:Tb)=some ((n+m:Nat):Int):=ye hn hm
 unfold ez
 refine bind_eq (ij n m p O F b)<|aE rfl<|bind_eq (congrArg some (show((mq m (fun _=>n+m+1) F).length:Int)=(m:Int) by rw[c9])) ?_
 refine aW (fun k=>((k:Int),mq k (fun _=>n+m) F)) m (mq m (fun _=>n+m) F) rfl (fun k hk=>?_) ?_ rfl
 ·have g1:(mq m (fun _=>n+m+1) F)[k]? =some (vq (n+m+1) (F k)):=iz hk
  have rs:=HH (UJ h hk) (by omega) (by rw[cc];omega) ((n+m:Nat):Int)
  rw[show(min (((n+m:Nat):Int)) 65536).toNat=n+m by omega]at rs
  have ap:=Su (l:=mq k (fun _=>n+m) F) (x:=vq (n+m) (F k)) (by rw[c9];omega)
  rw[←zA]at ap
  generalize mq m (fun _=>n+m+1) F=rows at*
  refine bind_eq (dT (by omega))<|aV rfl<|bind_eq (bn (by omega))<|bind_eq g1<|bind_eq wd<|bind_eq rs<|bind_eq ap<|bind_eq (congrArg some (bk (by omega))) rfl
 ·exact bind_eq (dF (by omega))<|aE rfl rfl
theorem Od(h:ny L n m p O F b)(hL:L≤4000000000):∃r,kG true (n:Int) (mq p (fun _=>n) O) (bq m b) (mq m (fun _=>n+m+1) F)=some r∧∃π,HO m π∧r=(bq m (fun i=>b (π i)),mq m (fun _=>n+m) (fun i=>F (π i)),true):=by
 have hm:=h.hm
 unfold kG
 refine Z9 (US hm)<|Z9 (aaa h hL)<|Z9 rfl<|Z9 rfl<|Z9 (dF (by rw[iU,c9];simp)) ?_
 rw[jX]
 refine Ke (fun s=>∃(k:Nat) (π:Nat→Nat),s=((k:Int),bq m (fun i=>b (π i)),mq m (fun _=>n+m) (fun i=>F (π i)))∧HO m π) (fun e=>∃π,HO m π∧e=(bq m (fun i=>b (π i)),mq m (fun _=>n+m) (fun i=>F (π i)))) (fun s=>m-s.1.toNat) ?_ ⟨1,fun i=>i,rfl,UR m⟩ ?_
 ·rintro _ ⟨k,π,rfl,hπ⟩
  by_cases hk:k<m
  ·refine Z9 rfl<|Z9 (dT (by rw[iU];omega))<|exT rfl ?_
   refine Ke (fun s=>∃(t:Nat) (π:Nat→Nat),s=((t:Int),bq m (fun i=>b (π i)),mq m (fun _=>n+m) (fun i=>F (π i)))∧t<m∧HO m π) (fun e=>∃π,HO m π∧e=(bq m (fun i=>b (π i)),mq m (fun _=>n+m) (fun i=>F (π i)))) (fun s=>s.1.toNat) ?_ ⟨k,π,rfl,hk,hπ⟩ ?_
   ·rintro _ ⟨t,π,rfl,ht,hπ⟩
    by_cases h0:0<t
    ·have w1:IntKind.i64.wrap ((t:Int)-1)=((t-1:Nat):Int):=by rw[cx (by omega) (by omega)];omega
     have g1:(bq m (fun i=>b (π i)))[t]? =some ((b (π t):Nat):Int):=oE ht
     have g2:(bq m (fun i=>b (π i)))[t-1]? =some ((b (π (t-1)):Nat):Int):=oE (b:=fun i=>b (π i)) (by omega)
     have g3:(mq m (fun _=>n+m) (fun i=>F (π i)))[t]? =some (vq (n+m) (F (π t))):=iz ht
     have g4:(mq m (fun _=>n+m) (fun i=>F (π i)))[t-1]? =some (vq (n+m) (F (π (t-1)))):=iz (F:=fun i=>F (π i)) (ln:=fun _=>n+m) (by omega)
     have e1:=aex (b:=fun i=>b (π i)) ht (show t-1<m by omega)
     have e2:=Wr (w:=n+m) (F:=fun i=>F (π i)) ht (show t-1<m by omega)
     have l1:=iU m (fun i=>b (π i))
     have l2:=c9 m (fun _=>n+m) (fun i=>F (π i))
     have hs:=hπ.sw ht (show t-1<m by omega)
     have cond:∀{β:Type} {B:List Int} {f:Bool→Option β} {r:Option β},B[t]? =some ((b (π t):Nat):Int)→B[t-1]? =some ((b (π (t-1)):Nat):Int)→B.length=m→f (decide (((b (π t):Nat):Int)<((b (π (t-1)):Nat):Int)))=r→
       ((bif decide ((0:Int)<(t:Int))then(kQ B (t:Int)).bind fun uB=>(B[uB]?).bind fun rf=>(some (IntKind.i64.wrap ((t:Int)-1))).bind fun m8=>(kQ B m8).bind fun ow=>(B[ow]?).bind fun oP=>(some (decide ((rf:Int)<oP))).bind fun sK=>some sK else some false).bind f)=r:=fun p1 p2 p3 hf=>
      bind_eq (aV (decide_eq_true (by omega))<|bind_eq (bn (by omega))<|bind_eq p1<|bind_eq (congrArg some w1)<|bind_eq (bn (by omega))<|bind_eq p2<|bind_eq rfl rfl) hf
     by_cases q:((b (π t):Nat):Int)<((b (π (t-1)):Nat):Int)
     ·refine⟨.inl (((t-1:Nat):Int),bq m (fun r=>b (π (sp t (t-1) r))),mq m (fun _=>n+m) (fun r=>F (π (sp t (t-1) r)))),?_,.inl ⟨_,rfl,⟨t-1,_,rfl,by omega,hs⟩,by simp only[Int.toNat_natCast];omega⟩⟩
      rw[←e1,←e2]
      generalize bq m (fun i=>b (π i))=B at*
      generalize mq m (fun _=>n+m) (fun i=>F (π i))=W at*
      refine aZ<|bind_eq rfl<|cond g1 g2 l1 ?_
      refine aV (decide_eq_true q) ?_
      exact bind_eq (congrArg some w1)<|bind_eq (congrArg some w1)<|bind_eq (bn (by omega))<|bind_eq g2<|bind_eq (bn (by omega))<|bind_eq g1<|bind_eq (bn (by omega))<|bind_eq (ep (by omega))<|bind_eq (bn (by rw[List.length_set];omega))<|bind_eq (ep (by rw[List.length_set];omega))<|bind_eq (congrArg some w1)<|bind_eq (congrArg some w1)<|bind_eq (bn (by omega))<|bind_eq g4<|bind_eq (bn (by omega))<|bind_eq g3<|bind_eq (bn (by omega))<|bind_eq (ep (by omega))<|bind_eq (bn (by rw[List.length_set];omega))<|bind_eq (ep (by rw[List.length_set];omega))<|bind_eq (congrArg some w1) rfl
     ·refine⟨.inr (bq m (fun i=>b (π i)),mq m (fun _=>n+m) (fun i=>F (π i))),?_,.inr ⟨_,rfl,π,hπ,rfl⟩⟩
      generalize bq m (fun i=>b (π i))=B at*
      refine aZ<|bind_eq rfl<|cond g1 g2 l1 ?_
      exact aE (decide_eq_false q) rfl
    ·refine⟨.inr (bq m (fun i=>b (π i)),mq m (fun _=>n+m) (fun i=>F (π i))),?_,.inr ⟨_,rfl,π,hπ,rfl⟩⟩
     exact aZ<|bind_eq rfl<|bind_eq (aE (decide_eq_false (by omega)) rfl)<|aE rfl rfl
   ·rintro _ ⟨π,hπ,rfl⟩
    exact⟨_,bind_eq (congrArg some (bk (by omega))) rfl,.inl ⟨_,rfl,⟨k+1,π,rfl,hπ⟩,by simp only[Int.toNat_natCast];omega⟩⟩
  ·exact⟨_,bind_eq rfl<|bind_eq (dF (by rw[iU];omega))<|aE rfl rfl,.inr ⟨_,rfl,π,hπ,rfl⟩⟩
 ·rintro _ ⟨π,hπ,rfl⟩
  exact⟨_,rfl,π,hπ,rfl⟩
theorem aab(Kg:∀j,j<m→b j<n+m)(hbc:∀j,j<m→c j<n+m)(hu:Uc m F b)(hv:Uc m G c)(hs:∀z,tQ n m G z→tQ n m F z)(h1:∀s,s<m→∃j,j<m∧b j=c s)(h2:∀s,s<m→∃j,j<m∧c j=b s){l k:Nat}(hk:k≤n+m):c8 (fun j=>if c j=l then G j k else 0) m=c8 (fun j=>if b j=l then F j k else 0) m:=by
 by_cases e:∃i,i<m∧c i=l
 ·obtain⟨i,hi,rfl⟩:=e
  obtain⟨j,hj,ej⟩:=h1 i hi
  rw[lS hi (fun s hs' hne=>if_neg (fun q=>hne (yf hv hs' hi q))),if_pos rfl,lS hj (fun s hs' hne=>if_neg (fun q=>hne (yf hu hs' hj (q.trans ej.symm)))),if_pos ej]
  exact vI hbc hv hu hs h1 hi hj ej hk
 ·rw[eD (k:=fun _=>0) (fun s hs'=>if_neg (fun q=>e ⟨s,hs',q⟩)),eD (h:=fun j=>if b j=l then F j k else 0) (k:=fun _=>0) (fun s hs'=>if_neg (fun q=>by
   obtain⟨i,hi,ei⟩:=h2 s hs'
   exact e ⟨i,hi,ei.trans q⟩))]
theorem HP{w:Nat}(hf:∀i,i<m→∀k,k<w→FQ L (F i k))(h1:1≤L)(hL:L≤2000000000):eP (mq m (fun _=>w) F) (mq m (fun _=>w) F)=some true:=by
 have eF:mq m (fun _=>w) F=mq m (fun _=>w) (fun i k=>if i<m∧k<w then F i k else 0):=mN (fun i hi=>⟨rfl,fun k hk=>by rw[if_pos ⟨hi,hk⟩]⟩)
 rw[eF]
 have rF:pY L (mq m (fun _=>w) (fun i k=>if i<m∧k<w then F i k else 0)) (fun i k=>if i<m∧k<w then F i k else 0):=Sc (fun i hi k hk=>by
  show FQ L (if i<m∧k<w then F i k else 0)
  rw[if_pos ⟨hi,hk⟩];exact hf i hi k hk) (fun i hi k hk=>if_neg (by omega)) (fun i hi k=>if_neg (by omega)) h1
 exact UF rF rF (by omega) (fun _ _=>rfl)
end Z2
end Go.Proofs.YtningmnklfpfjaaGreat
namespace Go.Proofs.YtningmnklfpfjaaGreat
open Go.Fw
abbrev aey(_:Pv):Nat:=1+1+1
theorem EJ(q:Lr)(l:List Pv)(x:Pv)(op:OkL q)(ol:l.length≤9223372036854775807∧∀v∈l,aeq v)(ox:aeq x)(hs:szL q+aer l+aey x≤1048576):fI q l x=some true:=by
 obtain⟨n,ob,rw,bd⟩:=q
 obtain⟨on,oo,or_,ob_⟩:=op
 replace oo:OkM ob:=oo
 replace or_:OkM rw:=or_
 replace ob_:OkV bd:=ob_
 have z1:=M4 ob
 have z2:=M4 rw
 have z3:=UQ bd
 replace hs:1+szM ob+szM rw+szV bd+1+aer l+aey x≤1048576:=hs
 obtain⟨b1,e1,s1⟩:=Ss (n:=n) (ob:=ob) (rw:=rw) (bd:=bd) (by omega) (by omega) (by omega)
 obtain⟨x0,x1⟩:=x
 have v:=D0 (n:=n) (ob:=ob) (rw:=rw) (bd:=bd) (by omega) (by omega)
 unfold fI
 by_cases hv:HU n ob rw bd
 ·rw[decide_eq_true hv]at v
  rw[if_pos v]
  unfold fm
  refine aZ<|bind_eq e1<|HT (fun _=>bind_eq rfl<|bind_eq rfl rfl)<|J5 (fun _=>al7) (fun hb=>?_)
  simp only[Bool.or_eq_false_iff,decide_eq_false_iff_not]at hb
  obtain⟨zH,BA⟩:=hb
  obtain⟨s6,s7⟩:=s1 zH
  obtain⟨hr5,hn6⟩:=s7 hv
  obtain⟨v1,v2,v3,v4,v5,v6,v7,v8⟩:=id hv
  obtain⟨n,rfl⟩:∃k:Nat,n=(k:Int):=⟨n.toNat,by omega⟩
  have ro:=Wp oo s6.so
  have rr:=Wp or_ s6.sr
  have hbd:bd.take (min bd.length 20)=bd:=by rw[show min bd.length 20=bd.length by omega,List.take_length]
  have sb:=s6.sb
  rw[hbd]at sb
  have rb:=aeo ob_ sb
  have co:∀v∈ob,v.length≤n:=si.1 (by omega)
  have cr:∀v∈rw,v.length≤n:=si.1 (by omega)
  generalize LO ob=O at ro
  generalize LO rw=R at rr
  generalize HF bd=g at rb
  have eN:=aek (n:=n) ro rr rb (by decide) (by decide) (by decide) hv
  have k0:=HK (n:=n) ro rr rb (by decide) hv
  have Gv:l.length≤12:=by omega
  refine bind_eq eN<|aZ<|bind_eq (a:=false) (aE rfl rfl)<|aE rfl ?_
  refine Ob Gv k0 At ?_
  intro F b ht hu hz
  obtain⟨m,hm⟩:∃m,rw.length=m:=⟨_,rfl⟩
  obtain⟨p,hp⟩:∃p,ob.length=p:=⟨_,rfl⟩
  rw[hm,hp]at ht k0
  rw[hm]at hu hz
  rw[hm,hp]
  have m5:m≤5:=by omega
  have n6:n≤6:=by omega
  replace ht:=short ht hu k0 At hz m5
  obtain⟨K,hK⟩:∃K,K=6485:=⟨_,rfl⟩
  obtain⟨D,hD⟩:∃D,D=90:=⟨_,rfl⟩
  obtain⟨E,hE⟩:∃E,E=80000:=⟨_,rfl⟩
  rw[←hK]at ht
  have hX5:m*(K+K+1)≤5*(K+K+1):=Nat.mul_le_mul_right _ m5
  have hX:(m+1)*(K+K+1)≤2000000000:=by have:=Nat.mul_le_mul_right (K+K+1) (show m+1≤6 by omega);omega
  have akr:∀i,i<m→∀k,k<n+m→FQ K (F i k):=fun i hi k _=>ht.f i hi k
  have tR:=Ws ht (by omega)
  have tC:=Sv ht hX
  have tB:=Sl (n:=n) (m:=m) (p:=p) (O:=O) (F:=F) (b:=b) (by omega)
  have is:=FL (bq m b) (by rw[iU];omega)
  have eR:=HP (w:=n+m) akr (by omega) (by omega)
  have cq:∀i,i<n+m→∀k,k<p+n→FQ E (vG n m p O F b i k):=fun i hi k _=>((J7 ht hX hi).2.fq k).mono (by omega)
  have eC:=HP (w:=p+n) cq (by omega) (by omega)
  obtain⟨G1,f1,g1,u1,z1⟩:=FM (F:=F) (b:=b) (c:=b) hm hp ro rr rb hv (by omega) ht.hb (fun i j hi hj e=>yf hu hi hj e) hu hz (fun i hi=>⟨i,hi,rfl⟩)
  have q1:mq m (fun _=>n+m+1) G1=mq m (fun _=>n+m+1) F:=mN (fun i hi=>⟨rfl,fun k hk=>vI ht.hb u1 hu (fun z=>(z1 z).2) (fun s hs=>⟨s,hs,rfl⟩) hi hi rfl (by omega)⟩)
  rw[q1]at f1
  obtain⟨_,so,π,hπ,rfl⟩:=Od (p:=p) (O:=O) ht (by omega)
  obtain⟨G2,f2,g2,u2,z2⟩:=FM (F:=F) (b:=b) (c:=fun i=>b (π i)) hm hp ro rr rb hv (by omega) (fun i hi=>ht.hb _ (hπ.lt i hi)) (fun i j hi hj e=>hπ.inj i j hi hj (yf hu (hπ.lt i hi) (hπ.lt j hj) e)) hu hz (fun i hi=>⟨π i,hπ.lt i hi,rfl⟩)
  rw[←hK]at g2
  have wR:=Ws g2 (by omega)
  have wC:=Sv g2 hX
  have wS:=Ar g2 (by omega)
  have tS:=Ar ht (by omega)
  have hbc:∀j,j<m→b (π j)<n+m:=fun j hj=>ht.hb _ (hπ.lt j hj)
  have c1:∀s,s<m→∃j,j<m∧b j=(fun i=>b (π i)) s:=fun s hs=>⟨π s,hπ.lt s hs,rfl⟩
  have c2:∀s,s<m→∃j,j<m∧(fun i=>b (π i)) j=b s:=fun s hs=>by
   obtain⟨j,hj,e⟩:=hπ.sur s hs
   exact⟨j,hj,by show b (π j)=b s;rw[e]⟩
  have col:∀l k,k≤n+m→c8 (fun j=>if b (π j)=l then G2 j k else 0) m=c8 (fun j=>if b j=l then F j k else 0) m:=fun l k hk=>aab (c:=fun i=>b (π i)) ht.hb hbc hu u2 (fun z=>(z2 z).2) c1 c2 hk
  have q2:mq m (fun _=>n+m) G2=mq m (fun _=>n+m) (fun i=>F (π i)):=mN (fun i hi=>⟨rfl,fun k hk=>vI (c:=b) (b:=fun i=>b (π i)) hbc u2 hu (fun z=>(z2 z).2) c1 hi (hπ.lt i hi) rfl (by omega)⟩)
  have q3:vq n (qj n m G2 (fun i=>b (π i)) m)=vq n (qj n m F b m):=ig (fun k hk=>by
   rw[HM u2 m (Nat.le_refl m) k hk,HM hu m (Nat.le_refl m) k hk]
   exact col k (n+m) (Nat.le_refl _))
  have q4:mq (n+m) (fun _=>p+n) (vG n m p O G2 (fun i=>b (π i)))=mq (n+m) (fun _=>p+n) (vG n m p O F b):=mN (fun k hk=>⟨rfl,fun i _=>by
   have w:∀(H:Nat→Nat→Rat) (d:Nat→Nat),(∀j,j<m→d j<n+m)→sn n p O d (fun j=>H j k) m i=c8 (fun l=>q9 n p O l i*c8 (fun j=>if d j=l then H j k else 0) m) (n+m):=fun H d hd=>by
    rw[zC hd (fun l=>q9 n p O l i) (fun j=>H j k)]
    exact eD (fun j _=>Rat.mul_comm _ _)
   unfold vG
   rw[w G2 (fun i=>b (π i)) hbc,w F b ht.hb]
   congr 1
   exact eD (fun l _=>by rw[col l k (by omega)])⟩)
  rw[q2]at wR
  rw[q3]at wS
  rw[q4]at wC
  have aez:∀i,i<m→∀k,k<n+m→FQ K ((fun i=>F (π i)) i k):=fun i hi k _=>ht.f _ (hπ.lt i hi) k
  have eR2:=HP (w:=n+m) aez (by omega) (by omega)
  have ryS:eA K (vq n (qj n m F b m)) (qj n m F b m):=pW (fun i _=>M5 ht m (Nat.le_refl m) i) (fun i hi=>Kc m i hi) (by omega)
  have eS:=aeg ryS ryS (by omega) (fun _=>rfl)
  have tH:=LQ ht (by omega)
  have r3:=HI (L:=K) (n:=m) (f:=fun i=>F i (n+m)) (fun i hi=>ht.f i hi _) (by omega)
  have eH:=aeg r3 r3 (by omega) (fun _=>rfl)
  refine bind_eq tB<|bind_eq f1<|bind_eq so<|aZ<|bind_eq (a:=false) (aE rfl rfl)<|bind_eq (a:=false) (aE rfl<|bind_eq rfl rfl)<|bind_eq (a:=false) (aE rfl<|bind_eq tB<|bind_eq tB<|bind_eq is<|bind_eq rfl rfl)<|bind_eq (a:=false) (aE rfl<|bind_eq tR<|bind_eq tR<|bind_eq eR<|bind_eq rfl rfl)<|bind_eq (a:=false) (aE rfl<|bind_eq tC<|bind_eq tC<|bind_eq eC<|bind_eq rfl rfl)<|aE rfl ?_
  refine bind_eq f2<|aZ<|bind_eq (a:=false) (aE rfl rfl)<|bind_eq (a:=false) (aE rfl<|bind_eq wR<|bind_eq eR2<|bind_eq rfl rfl)<|bind_eq (a:=false) (aE rfl<|bind_eq wS<|bind_eq tS<|bind_eq eS<|bind_eq rfl rfl)<|bind_eq (a:=false) (aE rfl<|bind_eq wC<|bind_eq tC<|bind_eq eC<|bind_eq rfl rfl)<|aE rfl ?_
  refine bind_eq tB ?_
  rcases HN ht (by omega) x0 x1 with⟨e,he,hp1⟩|⟨r,c,rfl,rfl,hr,hc,h5,h6⟩
  ·refine bind_eq hp1<|bind_eq (dT he)<|aV rfl<|aZ<|bind_eq tB<|bind_eq is<|bind_eq (aV rfl<|bind_eq tR<|bind_eq tR<|bind_eq eR rfl)<|bind_eq (aV rfl al7) rfl
  ·have hp1:=D1 ht (by omega) hr hc h5 h6
   have t1:=As ht hr hc h6
   have v1:=vH hr h6 hu
   have hbr:∀j,j<m→(fun j=>if j=r then c else b j) j≠b r:=fun j hj=>by
    show(if j=r then c else b j)≠b r
    by_cases e:j=r
    ·rw[if_pos e];exact fun w=>h5 r hr w.symm
    ·rw[if_neg e];exact fun w=>e (yf hu hj hr w)
   have h7:lT F r c r (b r)≠0:=by
    unfold lT
    rw[if_pos rfl,hu r r hr hr,if_pos rfl,Rat.div_def,Rat.one_mul]
    intro w
    have:=Rat.mul_inv_cancel _ h6
    rw[w]at this
    exact absurd (show(1:Rat)=0 by rw[←this];grind) (by decide)
   have Us:=D1 t1 (by omega) hr (ht.hb r hr) hbr h7
   have v2:=vH hr h7 v1
   have BA:(fun j=>if j=r then b r else(fun j=>if j=r then c else b j) j)=b:=funext fun j=>by
    show(if j=r then b r else if j=r then c else b j)=b j
    by_cases e:j=r
    ·rw[if_pos e,e]
    ·rw[if_neg e,if_neg e]
   rw[BA]at Us v2
   have q5:mq m (fun _=>n+m+1) (lT (lT F r c) r (b r))=mq m (fun _=>n+m+1) F:=mN (fun i hi=>⟨rfl,fun k hk=>vI ht.hb v2 hu (fun z hz'=>(zB hr h6).1 ((zB hr h7).1 hz')) (fun s hs=>⟨s,hs,rfl⟩) hi hi rfl (by omega)⟩)
   rw[q5]at Us
   have gb:(bq m b)[r]? =some ((b r:Nat):Int):=oE hr
   have bl:=iU m b
   refine bind_eq hp1<|bind_eq rfl<|aE rfl<|aZ<|bind_eq (dF (by omega))<|bind_eq (a:=false) (aE rfl<|bind_eq rfl<|bind_eq (dF (by omega)) rfl)<|bind_eq (a:=(false,mq p (fun _=>n) O,bq m b,mq m (fun _=>n+m+1) F)) (aE rfl<|bind_eq (aP gb)<|bind_eq Us<|bind_eq rfl rfl) ?_
   refine aE rfl<|aZ<|bind_eq tB<|bind_eq is<|bind_eq (aV rfl<|bind_eq tR<|bind_eq tR<|bind_eq eR rfl)<|bind_eq (aV rfl<|bind_eq tH<|bind_eq tH<|bind_eq eH rfl)<|bind_eq (aV rfl al7) rfl
 ·rw[decide_eq_false hv]at v
  rw[if_neg (by rw[v];decide)]
  unfold fo
  refine aZ<|bind_eq e1<|HT (fun _=>bind_eq rfl<|bind_eq rfl rfl)<|J5 (fun _=>al7) (fun _=>?_)
  exact bind_eq (aet v)<|aZ<|bind_eq v<|bind_eq rfl<|bind_eq (aV rfl al7) rfl
end Go.Proofs.YtningmnklfpfjaaGreat
namespace Go.Proofs.YtningmnklfpfjaaGreat
open Go.Fw Go.RowKit Go.ChangeShapes Go.WideShapes Go.ChangeAt
set_option linter.unusedVariables false
set_option maxRecDepth 100000 in
theorem oF(H:Type)(enc:TypeId×Value→H)(W:World)(base:Nat)(args:Array Value)(ds gs:List (DataW H))(before:List MemPlace)
  (hval:∀(j:Nat) t v,Tryz.f7.params[j]? =some t→args[j]? =some v→Value.okWide Tryz.prog W .any base t v)
  (hW:DataW.Whole enc Tryz.prog Tryz.f7.params.toList Rows.tableauPathFreeSpec.vars false W args.toList ds gs before) (hk:Rows.uptoSmall H (ds++gs)=true):
  Calls Tryz.prog 7 args W fun e W'=>∃v,e=.returned v∧Rows.tableauPathFreeSpec.post enc Tryz.prog Tryz.f7 false true false false W args v W':=by
 have hW':=hW
 obtain⟨p,q,hA0,hV,rfl,hfz,hnd⟩:=hW
 have hA:DataW.TrodAll enc Tryz.prog W 0 (fun _=>true) true Tryz.f7.params.toList args.toList ds p:=hA0
 rw[Tryz.params7]at hA hval
 obtain⟨v0,Oh,d0,ds0,p0,q0,hargs,rfl,rfl,h0,r0⟩:=trodAll_cons hA
 obtain⟨v1,vs1,d1,ds1,p1,q1,rfl,rfl,rfl,h1,r1⟩:=trodAll_cons r0
 obtain⟨v2,vs2,d2,ds2,p2,q2,rfl,rfl,rfl,h2,r2⟩:=trodAll_cons r1
 obtain⟨rfl,rfl,rfl⟩:=trodAll_nil r2
 obtain rfl:args=#[v0,v1,v2]:=by cases args;simp_all
 obtain⟨rfl,rfl⟩:=trodVars_none hV
 have lt0:∀x∈p0,x.block<W.heap.size:=by obtain⟨m,hm⟩:=h0;exact DataW.trod_lt m _ _ _ hm
 obtain⟨x0,ok0,sz0,al0⟩:=Mc (P:=Tryz.prog) (T:=25) (e:=Kh) (hval 0 25 v0 rfl rfl) h0
 have lt1:∀x∈p1,x.block<W.heap.size:=by obtain⟨m,hm⟩:=h1;exact DataW.trod_lt m _ _ _ hm
 obtain⟨x1,ok1,sz1,al1⟩:=Th (P:=Tryz.prog) (T:=26) (e:=(eS 2 L8)) (hval 1 26 v1 rfl rfl) h1
 have lt2:∀x∈p2,x.block<W.heap.size:=by obtain⟨m,hm⟩:=h2;exact DataW.trod_lt m _ _ _ hm
 obtain⟨x2,ok2,sz2,al2⟩:=Mc (P:=Tryz.prog) (T:=38) (e:=L8) (hval 2 38 v2 rfl rfl) h2
 have hsz:Rows.uptoBulk d0+Rows.uptoBulk d1+Rows.uptoBulk d2≤1048576:=by
  have:=of_decide_eq_true hk;simp only[List.cons_append,List.nil_append,List.append_nil,Rows.uptoBulkAll]at this;omega
 clear hA0
 refine(Ti (qY (EJ x0 x1 x2 ok0 ok1 ok2 (Nat.le_trans (Nat.add_le_add (Nat.add_le_add sz0 sz1) sz2) hsz))) (W:=W) (vs:=[v0,v1,v2]) ⟨al0,al1.1,al2,trivial⟩).mono fun e W' ⟨he,bel⟩=>?_
 subst he
 exact⟨_,rfl,_,_,_,[],_,[],hW',trodAll_mk1 (shut_bool Tryz.underlying4 _),(trodAll_cons_mk (Below.trod Cm (by kernel_rfl) (of_decide_eq_true (by kernel_rfl)) h0 bel lt0) (trodAll_cons_mk (Below.trod Cm (by kernel_rfl) (of_decide_eq_true (by kernel_rfl)) h1 bel lt1) (trodAll_cons_mk (Below.trod Cm (by kernel_rfl) (of_decide_eq_true (by kernel_rfl)) h2 bel lt2) trodAll_mk0))),rfl,bel.frame _,fun h=>by cases h⟩
set_option maxRecDepth 100000 in
theorem pZ(os:Os)(started:os.Started)(H:Type)(enc:TypeId×Value→H)(F:Stop.Interp):
  ReturnsInHanded {} Tryz.checked os 7 .any ((Rows.OpenSpec.upto Rows.tableauPathFreeSpec).pre6 enc Tryz.prog Tryz.f7 Rows.tableauPathFreeUptoRow.domain false) (((Rows.OpenSpec.upto Rows.tableauPathFreeSpec).at F).post enc Tryz.prog Tryz.f7 false true false false):=by
 refine returnsInHanded_of_cond (C:=Tryz.checked) (s:=Rows.OpenSpec.upto Rows.tableauPathFreeSpec) (k:=Rows.uptoSmall) rfl af8 started (by kernel_rfl) Tryz.func7
  (OpenSpec.witness (enc:=enc) (C:=Tryz.checked) (s:=Rows.OpenSpec.upto Rows.tableauPathFreeSpec) (k:=Rows.uptoSmall) rfl false ⟨#[],#[.agg #[.int .i64 0,.slice none 0 0,.slice none 0 0,.slice none 0 0],.slice none 0 0,.agg #[.int .i64 0,.int .i64 0]],[]⟩ 8 (by kernel_rfl) (by kernel_rfl) (by kernel_rfl)
   (x:=([.agg [.lit (.int .i64 0),.nil,.nil,.nil],.nil,.agg [.lit (.int .i64 0),.lit (.int .i64 0)]],[],[])) (by kernel_rfl) rfl (by kernel_rfl)) ?_
 intro W base args ds gs before hval hW _ hk _
 exact oF H enc W base args ds gs before hval hW hk
theorem tableauPathFreeUpto_holds:Rows.TableauPathFreeUptoSaid:=
 OpenClaim.holds_of_cond 7 Tryz.f7 rfl rfl rfl rfl rfl rfl rfl ⟨rfl,rfl,rfl,rfl,rfl⟩ rfl rfl rfl rfl rfl (by kernel_rfl) Tryz.func7 (by kernel_rfl)
  (of_decide_eq_true (by kernel_rfl)) (by unfold Func.isWrapper;first|(rw[if_pos (by decide+kernel)];kernel_rfl)|(rw[if_neg (by decide+kernel)];exact⟨rfl,rfl⟩))
  (fun os started H enc _ F=>pZ os started H enc F)
end Go.Proofs.YtningmnklfpfjaaGreat
