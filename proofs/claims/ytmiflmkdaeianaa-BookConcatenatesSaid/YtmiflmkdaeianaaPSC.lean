/- The law BookConcatenates answers true for every input. -/
import Derived.Test.YtmiflmkdaeianaaPSC3
set_option linter.unusedVariables false
set_option linter.unusedSimpArgs false
set_option linter.unusedSectionVars false
namespace Go.Proofs.Ytmiflmkdaeianaa
section
open Go.Fw
def tw(x:Rat):Int:=if x-(x.floor:Rat)<1/2 then x.floor else if 1/2<x-(x.floor:Rat)then x.floor+1 else if x.floor%2=0 then x.floor else x.floor+1
theorem ZC(i:Int):Rat.divInt i 1=(i:Rat):=by rw[Rat.divInt_eq_div];show(i:Rat)/1=_;grind
theorem ZD:Fit 1 1:=by unfold Fit;decide
theorem ZE:Fit 1 2:=by unfold Fit;decide
theorem TM:Rat.divInt 1 2=1/2:=by rw[Rat.divInt_eq_div];simp
theorem Nt{L:Nat}{x:Rat}(h:FQ L x):Fit L 1:=Fit.le h.2 (by have:=Rat.den_pos x;omega)
theorem I0{L:Nat}{x:Rat}(h:FQ L x):Fit (L+1) (tw x):=by
 have h1:=(h.floor).mono (show L<=L+1 by omega);have h2:Fit (L+1) (x.floor+1):=h.floor.add (Nt h);unfold tw;split
 ·exact h1
 split
 ·exact h2
 split
 ·exact h1
 exact h2
theorem GL(i:Int):Fit 1 (i%2):=by
 have h1:=Int.emod_nonneg i (show(2:Int)≠0 by decide);have h2:=Int.emod_lt_of_pos i (show(0:Int)<2 by decide);unfold Fit;omega
theorem DW(i:Int):decide ((i%2).sign=0)=decide (i%2=0):=by
 congr 1;exact propext Int.sign_eq_zero_iff_zero
theorem jT.round{L:Nat}{a:Qr}{x:Rat}(ha:jT L a x)(h:L<=35184372088508):dP a=some (zn (tw x)):=by
 have hf:=ha.fq;have f1:=ha.floor (show L<=35184372088788 by omega);obtain⟨n1,r1⟩:=new_eq (n:=1) (d:=2) (by decide) (by decide) (by decide);have w1:=ef (x:=1) (by decide) (by decide);have a1:=add_eq (ec hf.floor (by omega)) (ec ZD (by decide));rw[cx,cx]at a1;obtain⟨i1,s1⟩:=tv hf.floor ha.l1 (by omega);have fi:=ZC x.floor;have fl1:=Rat.floor_le x;have fl2:=Rat.lt_floor_add_one x;rw[Rat.intCast_add,show((1:Int):Rat)=1 from rfl]at fl2;obtain⟨e,r⟩:=ha.Zx (hf.floor.mono (by omega)) (by omega) (by rw[fi];grind) (by rw[fi];grind);rw[fi]at e r;rw[<-GK]at e;generalize qn (x-(x.floor:Rat))=q at e r;rw[TM]at n1 r1;have c1:=r.cmp r1 (by omega);have w2:=ef (x:=2) (by decide) (by decide);have d1:=divMod_eq (ec hf.floor (show L<=35184372088788 by omega)) (ec ZE (by decide));rw[cx,cx]at d1;replace d1:b8 (zn x.floor) (zn 2)=some (zn (x.floor/2),zn (x.floor%2),0):=d1;have g1:=sign_eq (ec (GL x.floor) (by decide));rw[cx]at g1;have hr:zn (tw x)=if x-(x.floor:Rat)<1/2 then zn x.floor else if 1/2<x-(x.floor:Rat)then zn (x.floor+1)else if x.floor%2=0 then zn x.floor else zn (x.floor+1):=by
  unfold tw
  repeat' split
  all_goals rfl
 rw[hr];clear hr s1 r r1;generalize qn (1/2)=q1 at n1 c1;generalize qn (x.floor:Rat)=q2 at i1 e;generalize hz0:zn x.floor=z0 at*;generalize zn (x.floor+1)=z1 at*;generalize zn (x.floor/2)=z2 at*;generalize zn (x.floor%2)=z3 at*;generalize zn 1=z4 at*;generalize zn 2=z5 at*;unfold dP;refine aA n1<|aA f1<|aA w1<|aA a1<|aA i1<|aA e<|aA c1 ?_;rcases ZA (x-(x.floor:Rat)) (1/2)with k|k|k
 ·rw[IW k,if_pos k];exact aA (dT Y)<|dN Y Y
 ·rw[k,DT,if_neg Rat.lt_irrefl,if_neg Rat.lt_irrefl];refine aA (dF (by decide))<|bZ Y<|aA (dF (by decide))<|bZ Y<|aA w2<|aA d1<|aA g1<|aA (congrArg some (DW _)) ?_;by_cases h2:x.floor%2=0
  ·rw[if_pos h2];exact dN (decide_eq_true h2) Y
  rw[if_neg h2];exact bZ (decide_eq_false h2) Y
 rw[IX k,if_neg (by grind),if_pos k];exact aA (dF (by decide))<|bZ Y<|aA (dT Y)<|dN Y Y
def zh(n:Int)(len:Nat)(acc:Int)(kd:Nat)(hour:Int):Int:=if ¬(0<acc/\acc<n)then 1 else if kd<1\/4<kd then 12 else if hour< -1\/8<=hour then 1 else if 1024<=len then 5 else 0
theorem qG{n:Int}{es:List En}(h:n≠0):cu n es=some false:=by
 unfold cu;exact eN<|aA (a:=false) (bZ Y<|aA (dF h) Y) Y
theorem uf(n:Int)(es:List En)(a:Int):eV n es a=some (decide (0<a/\a<n)):=by
 unfold eV;refine eN<|aA Y ?_;by_cases h:0<a
 ·exact aA (a:=decide (0<a/\a<n)) (dN (decide_eq_true h)<|aA Y (by simp[h])) Y
 exact aA (a:=decide (0<a/\a<n)) (bZ (decide_eq_false h) (by simp[h])) Y
theorem check_eq(n:Int)(es:List En)(acc:Int)(kd:Nat)(hour:Int)(c:Zr)(len:Nat):∃e,iy ⟨acc,kd,hour,c⟩ n es=some e/\(e≠0->zh n len acc kd hour=e)/\(e=0->zh n len acc kd hour=if 1024<=len then 5 else 0):=by
 unfold iy zh;by_cases h1:0<acc/\acc<n
 ·by_cases h2:kd<1\/4<kd
  ·refine⟨12,aA (uf _ _ _)<|aA Y<|bZ (by simp[h1])<|eN<|aA Y<|aA (a:=true) ?_<|dN Y Y,λ_=>by rw[if_neg (by simpa using h1),if_pos h2],by simp⟩;by_cases h3:kd<1
   ·exact dN (decide_eq_true h3) Y
   exact bZ (decide_eq_false h3)<|aA (dT (by omega)) Y
  by_cases h3:hour< -1\/8<=hour
  ·refine⟨1,aA (uf _ _ _)<|aA Y<|bZ (by simp[h1])<|eN<|aA Y<|aA (a:=false) (bZ (decide_eq_false (by omega))<|aA (dF (by omega)) Y)<|bZ Y<|eN<|aA Y<|aA (a:=true) ?_<|dN Y Y,λ_=>by rw[if_neg (by simpa using h1),if_neg h2,if_pos h3],by simp⟩;by_cases h4:hour< -1
   ·exact dN (decide_eq_true h4) Y
   exact bZ (decide_eq_false h4)<|aA (dT (by omega)) Y
  exact⟨0,aA (uf _ _ _)<|aA Y<|bZ (by simp[h1])<|eN<|aA Y<|aA (a:=false) (bZ (decide_eq_false (by omega))<|aA (dF (by omega)) Y)<|bZ Y<|eN<|aA Y<|aA (a:=false) (bZ (decide_eq_false (by omega))<|aA (dF (by omega)) Y)<|bZ Y Y,by simp,λ_=>by rw[if_neg (by simpa using h1),if_neg h2,if_neg h3]⟩
 exact⟨1,aA (uf _ _ _)<|aA Y<|dN (by simp[h1]) Y,λ_=>by simp[h1],by simp⟩
def Nu(n:Int)(es:List En)(m:Mv)(c:Zr):List En:=if zh n es.length m.acc m.kd m.hour=0 then es++[⟨m.acc,m.kd,m.hour,c⟩]else es
theorem move_eq{n:Int}{es:List En}{acc:Int}{kd:Nat}{hour:Int}{a:Qr}{L:Nat}{x:Rat}(hn:n≠0)(ha:jT L a x)(hL:L<=35184372088508)(hl:es.length<=1000000):
  bP n es acc kd hour a=some (zh n es.length acc kd hour,Nu n es ⟨acc,kd,hour,a⟩ (zn (tw x))):=by
 obtain⟨e,he,h1,h2⟩:=check_eq n es acc kd hour ⟨false,[]⟩ es.length;have hr:=ha.round hL;unfold Nu bP;show(cu n es).bind _=some (zh n es.length acc kd hour,if zh n es.length acc kd hour=0 then es++[⟨acc,kd,hour,zn (tw x)⟩]else es);generalize zn (tw x)=z at hr⊢;refine aA (qG hn)<|bZ Y<|aA he<|?_;by_cases h0:e=0
 ·subst h0;rw[h2 rfl];refine aA (dF (by simp))<|bZ Y<|aA Y ?_;by_cases h3:1024<=es.length
  ·rw[if_pos h3,if_neg (by decide)];exact aA (dT (by omega))<|dN Y Y
  rw[if_neg h3,if_pos rfl];exact aA (dF (by omega))<|bZ Y<|aA hr<|aA (Ax (by decide) (by omega)) Y
 rw[h1 h0,if_neg h0];exact aA (dT h0)<|dN Y Y
structure tB (n:Int) (K:Nat) (e:En):Prop where
 a:1<=e.acc
 b:e.acc<n
 k:1<=e.kd/\e.kd<=4
 z:e.iH=zn (zi e.iH)
 f:Fit K (zi e.iH)
def ep(f:En->Int)(es:List En):Int:=(es.map f).sum
theorem nn(f:En->Int)(l k:List En):ep f (l++k)=ep f l+ep f k:=by simp[ep]
theorem xI(f:En->Int){es:List En}{k:Nat}(h:k<es.length):ep f (es.take (k+1))=ep f (es.take k)+f es[k]:=by
 rw[List.take_add_one,List.getElem?_eq_getElem h,nn];simp[ep]
theorem C6{K:Nat}:∀{l:List Int},(∀c∈l,Fit K c)->l.sum.natAbs<=l.length*(4294967296^K-1)
 |[],_=>by simp
 |c::l,h=>by
  have h1:=h c (by simp);have h2:=C6 (l:=l) (λc hc=>h c (by simp[hc]));rw[List.sum_cons,List.length_cons,Nat.succ_mul];have:=Int.natAbs_add_le c l.sum;unfold Fit at h1;omega
theorem I1{K:Nat}{l:List Int}(h:∀c∈l,Fit K c)(hl:l.length<=4294967296):Fit (K+1) l.sum:=by
 have h1:=C6 h;have h2:=Nat.mul_le_mul_right (4294967296^K-1) hl;have h3:=Nat.pow_pos (n:=K) (show 0<4294967296 by decide);unfold Fit;rw[Nat.pow_succ,Nat.mul_comm (4294967296^K)];generalize 4294967296^K=m at*;omega
theorem TN{K:Nat}:Fit K 0:=by unfold Fit;exact Nat.pow_pos (by decide)
theorem vK{K:Nat}{f:En->Int}{es:List En}(h:∀e∈es,Fit K (f e))(hl:es.length<=1000000):Fit (K+1) (ep f es):=
 I1 (λc hc=>by obtain⟨e,he,rfl⟩:=List.mem_map.1 hc;exact h e he) (by simp;omega)
theorem vL{K:Nat}{f:En->Int}{es:List En}(h:∀e∈es,Fit K (f e))(k:Nat)(hl:es.length<=1000000):Fit (K+1) (ep f (es.take k)):=
 vK (λe he=>h e (List.mem_of_mem_take he)) (by rw[List.length_take];omega)
def fP(i:Int)(e:En):Int:=if i=0 then-zi e.iH else if e.acc=i then zi e.iH else 0
theorem qH{n:Int}{K:Nat}{e:En}(h:tB n K e)(i:Int):Fit K (fP i e):=by
 unfold fP;split
 ·exact h.f.neg
 split
 ·exact h.f
 exact TN
def lj(n:Nat)(es:List En):List Zr:=(List.range n).map λ(i:Nat)=>zn (ep (fP (i:Int)) es)
theorem gG(n:Nat)(es:List En):(lj n es).length=n:=by simp[lj]
theorem fH{n i:Nat}(es:List En)(h:i<n):(lj n es)[i]? =some (zn (ep (fP (i:Int)) es)):=by simp[lj,h]
theorem GM{n:Nat}{es:List En}{k a:Nat}(hk:k<es.length)(hn:0<n)(ha:es[k].acc=(a:Int))(h1:1<=a)(h2:a<n):
  ((lj n (es.take k)).set a (zn (ep (fP a) (es.take k)+zi es[k].iH))).set 0 (zn (ep (fP 0) (es.take k)-zi es[k].iH))=lj n (es.take (k+1)):=by
 apply List.ext_getElem?;intro i;by_cases hi:i<n
 ·rw[fH _ hi,List.getElem?_set,List.getElem?_set,List.length_set,gG,fH _ hi,xI _ hk];by_cases e0:0=i
  ·subst e0;rw[if_pos Y,if_pos hn];rw[show fP ((0:Nat):Int) es[k]=-zi es[k].iH from if_pos rfl];rfl
  rw[if_neg e0];by_cases ea:a=i
  ·subst ea;rw[if_pos Y,if_pos hi];unfold fP;rw[if_neg (show ¬((a:Int)=0) by omega),if_pos ha]
  rw[if_neg ea];have:fP i es[k]=0:=by unfold fP;rw[if_neg (by omega),ha,if_neg (by omega)]
  rw[this,Int.add_zero]
 rw[List.getElem?_eq_none (by simp[gG];omega),List.getElem?_eq_none (by simp[gG];omega)]
theorem all_eq{n:Nat}{es:List En}{K:Nat}(hn:0<n)(hn2:n<=64)(he:∀e∈es,tB n K e)(hl:es.length<=1000000)(hK:K<=35184372088508):cP n es=some (lj n es):=by
 unfold cP;refine aA (qG (by omega))<|bZ Y<|aA (vz (by decide) (by omega))<|aA Y ?_;refine b7 (λk=>((k:Int),lj n (es.take k))) es.length (lj n es) ?_ (λk hk=>?_) ?_ Y
 ·simp only[List.take_zero];congr 1;apply List.ext_getElem?;intro i;by_cases hi:i<n
  ·rw[fH _ hi,List.getElem?_replicate,if_pos hi];rfl
  rw[List.getElem?_eq_none (by simp;omega),List.getElem?_eq_none (by simp[gG];omega)]
 ·have g:=List.getElem?_eq_getElem hk;have ho:=he _ (List.getElem_mem hk);obtain⟨a,ha⟩:∃a:Nat,es[k].acc=(a:Int):=⟨es[k].acc.toNat,by have:=ho.a;omega⟩;have h1:1<=a:=by have:=ho.a;omega
  have h2:a<n:=by have:=ho.b;omega
  have s:=GM hk hn ha h1 h2;have f1:Fit (K+1) (ep (fP a) (es.take k)):=vL (λe h=>qH (he e h) _) k hl;have f2:Fit (K+1) (ep (fP 0) (es.take k)):=vL (λe h=>qH (he e h) _) k hl;have a1:=add_eq (ec f1 (by omega)) (ec ho.f (by omega));have a2:=sub_eq (ec f2 (by omega)) (ec ho.f (by omega));rw[cx,cx,<-ho.z]at a1 a2;have g1:=fH (es.take k) h2;have g2:((lj n (es.take k)).set a (zn (ep (fP a) (es.take k)+zi es[k].iH)))[0]? =some (zn (ep (fP 0) (es.take k))):=by
   rw[List.getElem?_set,if_neg (by omega)];exact fH (es.take k) hn
  rw[<-s];generalize hq:lj n (es.take k)=q at*;have TD:q.length=n:=by rw[<-hq];exact gG _ _
  generalize zn (ep (fP a) (es.take k)+zi es[k].iH)=z1 at*;generalize zn (ep (fP 0) (es.take k)-zi es[k].iH)=z2 at*;generalize zn (ep (fP a) (es.take k))=z3 at*;generalize zn (ep (fP 0) (es.take k))=z4 at*;clear s ho f1 f2;generalize es[k]=e at*;obtain⟨acc,kd,hour,c⟩:=e;replace ha:acc=(a:Int):=ha;subst ha;refine aA (dT (by omega))<|dN Y<|aA (eo hk)<|aA g<|aA (eo (by omega))<|aA g1<|aA a1<|aA (eo (by omega))<|aA (jo (by omega))<|aA (eo (i:=0) (by simp;omega))<|aA g2<|aA a2<|aA (eo (i:=0) (by simp;omega))<|aA (jo (by simp;omega))<|aA (congrArg some (cL (by omega))) Y
 rw[List.take_length];exact aA (dF (by omega))<|bZ Y Y
theorem entries_eq{n:Nat}{es:List En}{K:Nat}(hn:0<n)(he:∀e∈es,tB n K e)(hl:es.length<=1000000)(hK:K<=35184372088508):cj n es=some es:=by
 unfold cj;refine aA (qG (by omega))<|bZ Y<|aA Y<|aA (vz (by decide) (by omega))<|aA Y ?_;refine b7 (λk=>((k:Int),es.take k++List.replicate (es.length-k) (⟨0,0,0,⟨false,[]⟩⟩:En))) es.length es (by simp) (λk hk=>?_) ?_ Y
 ·have g:=List.getElem?_eq_getElem hk;have ho:=he _ (List.getElem_mem hk);have a1:=add_eq (ec ho.f (show K<=35184372088788 by omega)) (show Wl ⟨false,[]⟩from C5);rw[cx,C4,Int.add_zero,<-ho.z]at a1;have s:(es.take k++List.replicate (es.length-k) (⟨0,0,0,⟨false,[]⟩⟩:En)).set k es[k]=es.take (k+1)++List.replicate (es.length-(k+1)) ⟨0,0,0,⟨false,[]⟩⟩:=by
   rw[List.set_append_right _ _ (by simp;omega),show k-(es.take k).length=0 by simp;omega,show es.length-k=(es.length-(k+1))+1 by omega,List.replicate_succ,List.set_cons_zero,List.take_add_one,g];simp only[Option.toList_some,List.append_assoc,List.singleton_append]
  rw[<-s];have TD:(es.take k++List.replicate (es.length-k) (⟨0,0,0,⟨false,[]⟩⟩:En)).length=es.length:=by simp;omega
  generalize (es.take k++List.replicate (es.length-k) (⟨0,0,0,⟨false,[]⟩⟩:En))=q at*;clear s ho;generalize es[k]=e at*;obtain⟨acc,kd,hour,c⟩:=e;refine aA (dT (by omega))<|dN Y<|aA (eo hk)<|aA g<|aA a1<|aA (eo (by omega))<|aA (jo (by omega))<|aA (congrArg some (cL (by omega))) Y
 simp only[List.take_length,Nat.sub_self,List.replicate_zero,List.append_nil];exact aA (dF (by omega))<|bZ Y Y
def D7(k:Nat)(e:En):Int:=if e.kd=k then zi e.iH else 0
theorem I2{n:Int}{K:Nat}{e:En}(h:tB n K e)(k:Nat):Fit K (D7 k e):=by
 unfold D7;split
 ·exact h.f
 exact TN
theorem TO{n:Nat}{es:List En}{K:Nat}(hn:0<n)(he:∀e∈es,tB n K e)(hl:es.length<=1000000)(hK:K<=35184372088508)(kind:Nat):gb n es kind=some (zn (ep (D7 kind) es)):=by
 unfold gb;refine aA (qG (by omega))<|bZ Y<|aA Y ?_;refine b7 (λk=>((k:Int),(zn (ep (D7 kind) (es.take k))).neg,(zn (ep (D7 kind) (es.take k))).w)) es.length ((zn (ep (D7 kind) es)).neg,(zn (ep (D7 kind) es)).w) Y (λk hk=>?_) ?_ Y
 ·have g:=List.getElem?_eq_getElem hk;have ho:=he _ (List.getElem_mem hk);have f1:Fit (K+1) (ep (D7 kind) (es.take k)):=vL (λe h=>I2 (he e h) _) k hl;have a1:=add_eq (ec f1 (by omega)) (ec ho.f (by omega));rw[cx,cx,<-ho.z]at a1;rw[xI _ hk];have hkd:D7 kind es[k]=if es[k].kd=kind then zi es[k].iH else 0:=rfl;generalize ep (D7 kind) (es.take k)=s at*;rw[hkd];clear f1 ho hkd;generalize es[k]=e at*;obtain⟨acc,kd,hour,c⟩:=e;refine aA (dT (by omega))<|dN Y<|aA (eo hk)<|aA g<|aA Y<|eN ?_;by_cases h:kd=kind
  ·rw[if_pos h];refine dN (decide_eq_true h) ?_;generalize zn (s+zi c)=z1 at*;generalize zn s=z0 at*;exact aA a1<|aA (congrArg some (cL (by omega))) Y
  rw[if_neg h,Int.add_zero];exact bZ (decide_eq_false h)<|aA (congrArg some (cL (by omega))) Y
 rw[List.take_length];exact aA (dF (by omega))<|bZ Y Y
theorem GN{n:Int}(h1:1<=n)(h2:n<=64):iT n=some (n,[]):=by
 unfold iT;exact eN<|aA (dF (by omega))<|aA (a:=false) (bZ Y<|aA (dF (by omega)) Y) Y
theorem Nv{n:Int}{K:Nat}{es:List En}(he:∀e∈es,tB n K e)(hl:es.length<=1000000)(hK:K<=35184372088508):iz es es=some true:=by
 unfold iz;refine aA Y<|aA Y<|aA (dF (by simp))<|bZ Y ?_;refine b7 (λk=>(k:Int)) es.length (.inl ()) Y (λk hk=>?_) ?_ Y
 ·have g:=List.getElem?_eq_getElem hk;have ho:=he _ (List.getElem_mem hk);have s:=rR (x:=es[k].iH) (by
   rw[ho.z];have:(can 4294967296 (zi es[k].iH).natAbs).length<=K:=(cD (by decide)).2 ho.f;show(can 4294967296 (zi es[k].iH).natAbs).length<=_;omega)
  clear ho;generalize es[k]=e at*;obtain⟨acc,kd,hour,c⟩:=e;refine aA Y<|aA (dT (by omega))<|dN Y<|eN<|aA (bq g)<|aA (bq g)<|aA (dF (by simp)) ?_;refine aA (a:=false) (bZ Y<|aA (bq g)<|aA (bq g)<|aA (dF (by simp)) Y) ?_;refine aA (a:=false) (bZ Y<|aA (bq g)<|aA (bq g)<|aA (dF (by simp)) Y) ?_;refine aA (a:=false) (bZ Y<|aA (bq g)<|aA (bq g)<|aA s<|aA Y Y) ?_;exact bZ Y<|aA (congrArg some (cL (by omega))) Y
 exact aA Y<|aA (dF (by omega))<|bZ Y Y
end
section
open Go.Fw
def C7(x:Rat)(r:Int):Prop:=(2*(x-(r:Rat))<1/\-1<2*(x-(r:Rat)))\/((2*(x-(r:Rat))=1\/2*(x-(r:Rat))=-1)/\r%2=0)
theorem AT(l:Int):((l+1:Int):Rat)=(l:Rat)+1:=by rw[Rat.intCast_add];rfl
theorem AU(x:Rat):C7 x (tw x):=by
 have h1:=Rat.floor_le x;have h2:=Rat.lt_floor_add_one x;rw[AT]at h2;have hh:(1:Rat)/2+1/2=1:=by grind
 unfold tw;generalize x.floor=l at*;split
 ·exact .inl (by constructor<;>grind)
 split
 ·exact .inl (by rw[AT];constructor<;>grind)
 have e:2*(x-(l:Rat))=1:=by grind
 split
 ·rename_i h;exact .inr ⟨.inl e,h⟩
 refine .inr ⟨.inr ?_,by omega⟩;rw[AT];grind
theorem C8{x y:Rat}{r s:Int}(h:C7 x r)(k:C7 y s)(e:x<=y):r<=s:=by
 by_cases JO:r<=s
 ·exact JO
 exfalso;have h2:((s+1:Int):Rat)<=(r:Rat):=Rat.intCast_le_intCast.2 (by omega);rw[AT]at h2;have a1: -1<=2*(x-(r:Rat)):=by rcases h with h|⟨h|h,_⟩<;>grind
 have a2:2*(y-(s:Rat))<=1:=by rcases k with h|⟨h|h,_⟩<;>grind
 have e1:(r:Rat)=((s+1:Int):Rat):=by rw[AT];grind
 have e2:r=s+1:=Rat.intCast_inj.1 e1;have b1:r%2=0:=by
  rcases h with⟨h,h'⟩|⟨_,h⟩
  ·exfalso;grind
  exact h
 have b2:s%2=0:=by
  rcases k with⟨h,h'⟩|⟨_,h⟩
  ·exfalso;grind
  exact h
 omega
theorem nq{x:Rat}{r:Int}(h:C7 x r):tw x=r:=Int.le_antisymm (C8 (AU x) h Rat.le_refl) (C8 h (AU x) Rat.le_refl)
theorem I3{i n:Int}{K:Nat}(hf:Fit K i)(hK:K<=35184372088788)(hn:dH n)(e:i=n):dw (zn i) n=some true:=by
 subst e;have h1:=ef hn.1 hn.2;have h2:=rR (x:=zn i) (Nat.le_trans (ec hf hK).2 (by decide));unfold dw;generalize zn i=z at*;exact aA h1<|aA h2 Y
theorem gS{n:Int}(hn:dH n):dw (zn n) n=some true:=I3 (K:=2) (Fit.i64 hn.1 hn.2) (by decide) hn Y
theorem jE{n d:Int}(hn:dH n)(hd:dH d)(h0:d≠0):∃q,cw n d=some q/\jT 2 q (Rat.divInt n d):=by
 obtain⟨h,r⟩:=new_eq hn hd h0;refine⟨_,?_,r⟩;unfold cw;generalize qn (Rat.divInt n d)=q at*;exact aA h Y
theorem qJ{n:Int}{es:List En}{acc:Int}{kd:Nat}{hour:Int}{a:Qr}{L:Nat}{x:Rat}(e:Int)(hn:n≠0)(ha:jT L a x)(hL:L<=35184372088508)(hl:es.length<=1000000)(he:zh n es.length acc kd hour=e)(h0:e≠0):bP n es acc kd hour a=some (e,es):=by
 rw[move_eq hn ha hL hl];unfold Nu;show some (zh n es.length acc kd hour,if zh n es.length acc kd hour=0 then es++[⟨acc,kd,hour,zn (tw x)⟩]else es)=_;rw[he,if_neg h0]
theorem xJ{n:Int}{es:List En}{acc:Int}{kd:Nat}{hour:Int}{a:Qr}{L:Nat}{x:Rat}(hn:n≠0)(ha:jT L a x)(hL:L<=35184372088508)(hl:es.length<=1000000)(he:zh n es.length acc kd hour=0)(r:Int)(hr:tw x=r):bP n es acc kd hour a=some (0,es++[⟨acc,kd,hour,zn r⟩]):=by
 rw[move_eq hn ha hL hl];unfold Nu;show some (zh n es.length acc kd hour,if zh n es.length acc kd hour=0 then es++[⟨acc,kd,hour,zn (tw x)⟩]else es)=_;rw[he,if_pos Y,hr]
theorem r52:tw (Rat.divInt 5 2)=2:=nq (.inr ⟨.inl (by rw[Rat.divInt_eq_div];show 2*((5:Rat)/2-2)=1;grind),Y⟩)
theorem r72:tw (Rat.divInt 7 2)=4:=nq (.inr ⟨.inr (by rw[Rat.divInt_eq_div];show 2*((7:Rat)/2-4)=-1;grind),Y⟩)
theorem ZF:tw (Rat.divInt (-5) 2)=-2:=nq (.inr ⟨.inr (by rw[Rat.divInt_eq_div];show 2*((-5:Rat)/2-(-2))=-1;grind),Y⟩)
theorem r83:tw (Rat.divInt 8 3)=3:=nq (.inl (by rw[Rat.divInt_eq_div];show 2*((8:Rat)/3-3)<1/\-1<2*((8:Rat)/3-3);constructor<;>grind))
theorem ZG:tw (Rat.divInt (-7) 1)=-7:=nq (.inl (by rw[Rat.divInt_eq_div];show 2*((-7:Rat)/1-(-7))<1/\-1<2*((-7:Rat)/1-(-7));constructor<;>grind))
theorem o5:fK=some true:=by
 obtain⟨q1,e1,s1⟩:=jE (n:=5) (d:=2) (by decide) (by decide) (by decide);obtain⟨q2,e2,s2⟩:=jE (n:=-7) (d:=1) (by decide) (by decide) (by decide);obtain⟨q3,e3,s3⟩:=jE (n:=1) (d:=1) (by decide) (by decide) (by decide);obtain⟨q4,e4,s4⟩:=jE (n:=7) (d:=2) (by decide) (by decide) (by decide);obtain⟨q5,e5,s5⟩:=jE (n:=-5) (d:=2) (by decide) (by decide) (by decide);obtain⟨q6,e6,s6⟩:=jE (n:=8) (d:=3) (by decide) (by decide) (by decide);have m1:=xJ (n:=3) (es:=[]) (acc:=1) (kd:=1) (hour:=0) (by decide) s1 (by decide) (by simp) (by decide) 2 r52;have m2:=xJ (n:=3) (es:=[]++[⟨1,1,0,zn 2⟩]) (acc:=2) (kd:=1) (hour:=0) (by decide) s2 (by decide) (by simp) (by decide) (-7) ZG;obtain⟨es,TP⟩:∃es,([]++[⟨1,1,0,zn 2⟩]++[⟨2,1,0,zn (-7)⟩]:List En)=es:=⟨_,Y⟩;have hlen:es.length=2:=by rw[<-TP];rfl
 have G4:tB (3:Nat) 1 ⟨1,1,0,zn 2⟩:=⟨by decide,by decide,by decide,by rw[cx],by rw[cx];unfold Fit;decide⟩;have G5:tB (3:Nat) 1 ⟨2,1,0,zn (-7)⟩:=⟨by decide,by decide,by decide,by rw[cx],by rw[cx];unfold Fit;decide⟩;have hok:∀e∈es,tB (3:Nat) 1 e:=by
  rw[<-TP];intro e he;simp only[List.nil_append,List.cons_append,List.mem_cons,List.not_mem_nil,or_false]at he;rcases he with rfl|rfl
  ·exact G4
  exact G5
 have TQ:∀f:En->Int,ep f es=f ⟨1,1,0,zn 2⟩+f ⟨2,1,0,zn (-7)⟩:=λf=>by rw[<-TP];simp[ep]
 have a1:=all_eq (n:=3) (by decide) (by decide) hok (by omega) (by decide);have g0:=fH (n:=3) (i:=0) es (by decide);have g1:=fH (n:=3) (i:=1) es (by decide);have g2:=fH (n:=3) (i:=2) es (by decide);have gl:=gG 3 es;have b0:ep (fP ((0:Nat):Int)) es=5:=by rw[TQ];unfold fP;simp only[cx];decide
 have b1:ep (fP ((1:Nat):Int)) es=2:=by rw[TQ];unfold fP;simp only[cx];decide
 have b2:ep (fP ((2:Nat):Int)) es=-7:=by rw[TQ];unfold fP;simp only[cx];decide
 have b3:ep (D7 1) es=-5:=by rw[TQ];unfold D7;simp only[cx];decide
 rw[b0]at g0;rw[b1]at g1;rw[b2]at g2;have y1:=TO (n:=3) (by decide) hok (by omega) (by decide) 1;rw[b3]at y1;have n1:=entries_eq (n:=3) (by decide) hok (by omega) (by decide);rw[TP]at m2;have m3:=qJ (n:=3) (es:=es) (acc:=3) (kd:=1) (hour:=0) 1 (by decide) s3 (by decide) (by omega) (by rw[hlen];decide) (by decide);have m4:=qJ (n:=3) (es:=es) (acc:=0) (kd:=1) (hour:=0) 1 (by decide) s3 (by decide) (by omega) (by rw[hlen];decide) (by decide);have m5:=qJ (n:=3) (es:=es) (acc:=1) (kd:=5) (hour:=0) 12 (by decide) s3 (by decide) (by omega) (by rw[hlen];decide) (by decide);have m6:=qJ (n:=3) (es:=es) (acc:=1) (kd:=4) (hour:=8) 1 (by decide) s3 (by decide) (by omega) (by rw[hlen];decide) (by decide);have o1:=s1.round (by decide);have o2:=s4.round (by decide);have o3:=s5.round (by decide);have o4:=s6.round (by decide);rw[r52]at o1;rw[r72]at o2;rw[ZF]at o3;rw[r83]at o4;have i1:=gS (n:=2) (by decide);have i2:=gS (n:=4) (by decide);have i3:=gS (n:=-2) (by decide);have i4:=gS (n:=3) (by decide);have i5:=gS (n:=5) (by decide);have i6:=gS (n:=-7) (by decide);have i7:=gS (n:=-5) (by decide);generalize lj 3 es=al at*;clear hok TQ G4 G5 TP b0 b1 b2 b3;generalize ([]++[⟨1,1,0,zn 2⟩]:List En)=es1 at*
 generalize zn 2=z2 at*;generalize zn 4=z4 at*;generalize zn (-2)=z2' at*;generalize zn 3=z3 at*;generalize zn 5=z5 at*;generalize zn (-7)=z7 at*;generalize zn (-5)=z5' at*;unfold fK;refine aA (GN (by decide) (by decide))<|aA e1<|aA m1<|aA e2<|aA m2<|aA e3<|aA m3<|aA e3<|aA m4<|aA e3<|aA m5<|aA e3<|aA m6<|aA a1<|eN ?_;refine aA e1<|aA o1<|aA i1<|oZ (aA e4<|aA o2<|aA i2 Y)<|oZ (aA e5<|aA o3<|aA i3 Y)<|oZ (aA e6<|aA o4<|aA i4 Y) ?_;refine oZ (aA (dT Y) Y)<|oZ (aA (dT Y) Y)<|oZ (aA (dT Y) Y)<|oZ (aA (dT Y) Y)<|oZ (aA (dT Y) Y)<|oZ (aA (dT Y) Y) ?_;refine oZ (aA Y<|aA (dT (by omega)) Y)<|oZ (aA (nH g0)<|aA i5 Y)<|oZ (aA (Aw g1)<|aA i1 Y)<|oZ (aA (bq (i:=2) g2)<|aA i6 Y) ?_;exact oZ (aA y1<|aA i7 Y)<|oZ (aA n1<|aA Y<|aA (dT (by omega)) Y) Y
end
section
open Go.Fw
theorem DX{i j:Int}{K:Nat}(hf:Fit K i)(hK:K<=35184372088788)(e:i=j):dA (zn i) (zn j)=some true:=by
 subst e;exact rR (x:=zn i) (Nat.le_trans (ec hf hK).2 (by decide))
abbrev Nw(m:Mv):Prop:=(-9223372036854775808<=m.acc/\m.acc<=9223372036854775807)/\m.kd<256/\(-9223372036854775808<=m.hour/\m.hour<=9223372036854775807)/\Zz m.fm
def GO(l:List Mv):Prop:=∀m∈l,jT 35184372087808 m.fm (qv m.fm)
theorem TS{l:List Mv}(h:∀m∈l,Nw m):GO l:=λm hm=>ZB (h m hm).2.2.2
def KM(n:Int)(es:List En)(m:Mv):List En:=Nu n es m (zn (tw (qv m.fm)))
def mk(n:Int)(l:List Mv):List En:=l.foldl (KM n) []
def N6(n:Int)(m:Mv):Option En:=if zh n 0 m.acc m.kd m.hour=0 then some ⟨m.acc,m.kd,m.hour,zn (tw (qv m.fm))⟩else none
theorem I4{n:Int}{k:Nat}{a:Int}{kd:Nat}{h:Int}(hk:k<1024):zh n k a kd h=zh n 0 a kd h:=by
 unfold zh;rw[if_neg (show ¬1024<=k by omega),if_neg (show ¬1024<=0 by omega)]
theorem I5(n:Int)(es:List En)(m:Mv):(KM n es m).length<=es.length+1:=by
 unfold KM Nu;split<;>simp
theorem fold_filter(n:Int):∀(l:List Mv) (es:List En),es.length+l.length<=1024->l.foldl (KM n) es=es++l.filterMap (N6 n)
 |[],es,_=>by simp
 |m::l,es,h=>by
  rw[List.length_cons]at h;have h1:=I5 n es m;rw[List.foldl_cons,fold_filter n l _ (by omega)];have e:KM n es m=es++(N6 n m).toList:=by
   unfold KM Nu N6;rw[I4 (by omega)];split<;>simp
  rw[e,List.filterMap_cons,List.append_assoc];congr 1;cases N6 n m<;>rfl
theorem g9{n:Int}{l:List Mv}(h:l.length<=1024):mk n l=l.filterMap (N6 n):=by
 unfold mk;rw[fold_filter n l [] (by simpa using h)];rfl
theorem BY{n:Int}{l:List Mv}(h:l.length<=1024):(mk n l).length<=l.length:=by
 rw[g9 h];exact List.length_filterMap_le _ _
theorem KN{n:Int}{l:List Mv}(h:l.length<=1024)(hr:GO l):∀e∈mk n l,tB n 35184372087809 e:=by
 rw[g9 h];intro e he;obtain⟨m,hm,hme⟩:=List.mem_filterMap.1 he;unfold N6 at hme;split at hme
 ·rename_i hv;cases hme;have hf:=I0 (hr m hm).fq;unfold zh at hv;have h1:0<m.acc/\m.acc<n:=by
   by_cases q:0<m.acc/\m.acc<n
   ·exact q
   rw[if_pos q]at hv;exact absurd hv (by decide)
  rw[if_neg (by simpa using h1)]at hv;have h2:¬(m.kd<1\/4<m.kd):=λq=>by rw[if_pos q]at hv;exact absurd hv (by decide)
  refine⟨by show 1<=m.acc;omega,h1.2,by show 1<=m.kd/\m.kd<=4;omega,?_,?_⟩
  ·show zn (tw (qv m.fm))=zn (zi (zn (tw (qv m.fm))));rw[cx]
  show Fit _ (zi (zn (tw (qv m.fm))));rw[cx];exact hf
 cases hme
theorem made_eq{x0:Nat}{l:List Mv}(h0:x0<256)(hl:l.length<=1024)(hr:GO l):eD x0 l=some (((1+x0%64:Nat):Int),mk ((1+x0%64:Nat):Int) l):=by
 unfold eD;have t:Int.tmod ((x0:Nat):Int) 64=((x0%64:Nat):Int):=rfl;have t2:IntKind.i64.wrap (1+((x0%64:Nat):Int))=((1+x0%64:Nat):Int):=by rw[eJ (by omega) (by omega)];simp
 refine aA (congrArg some (lT (by omega)))<|aA (congrArg some t)<|aA (congrArg some t2)<|aA (GN (by omega) (by omega)) ?_;refine b7 (λk=>((k:Int),mk ((1+x0%64:Nat):Int) (l.take k))) l.length (mk ((1+x0%64:Nat):Int) l) Y (λk hk=>?_) ?_ Y
 ·have g:=List.getElem?_eq_getElem hk;have hm:=hr _ (List.getElem_mem hk);have hlen:(mk ((1+x0%64:Nat):Int) (l.take k)).length<=1024:=Nat.le_trans (BY (by rw[List.length_take];omega)) (by rw[List.length_take];omega);have s:mk ((1+x0%64:Nat):Int) (l.take (k+1))=KM ((1+x0%64:Nat):Int) (mk ((1+x0%64:Nat):Int) (l.take k)) l[k]:=by
   unfold mk;rw[List.take_add_one,g,List.foldl_append];rfl
  rw[s];generalize mk ((1+x0%64:Nat):Int) (l.take k)=es at*;clear s;unfold KM;have mv:=move_eq (n:=((1+x0%64:Nat):Int)) (es:=es) (acc:=l[k].acc) (kd:=l[k].kd) (hour:=l[k].hour) (by omega) hm (by decide) (by omega);generalize zn (tw (qv l[k].fm))=z at*;clear hm;generalize l[k]=m at*;obtain⟨acc,kd,hour,q⟩:=m;exact aA Y<|aA (dT (by omega))<|dN Y<|aA (bq g)<|aA (bq g)<|aA (bq g)<|aA (bq g)<|aA mv<|aA (congrArg some (cL (by omega))) Y
 rw[List.take_length];exact aA Y<|aA (dF (by omega))<|bZ Y Y
theorem GP(i:Nat):Int.tmod (i:Int) 40=((i%40:Nat):Int):=rfl
theorem GQ(l:List Mv)(hl:l.length<=9223372036854775807):∃b,gp l=some b/\(b=false->l.length<=60):=by
 unfold gp;by_cases GY:60<l.length
 ·exact⟨true,aA Y<|aA (dT (by omega))<|dN Y Y,by simp⟩
 have step:∃r,(cK (λ(tR:Int×(List Qr))=>match tR with|⟨oU,yG⟩=>(show Option ((Int×(List Qr))⊕((Unit)⊕(Bool)))from(some (l.length:Int)).bind λfN=>(some (decide ((oU:Int)<fN))).bind λkI=>(bif kI then(cI l oU).bind λ⟨kx,kz,Au,⟨⟨qp,xp⟩,⟨xq,xu⟩⟩⟩=>(qK 64 yG [⟨⟨qp,xp⟩,⟨xq,xu⟩⟩]).bind λje=>cY (λ(vr:Bool)=>cY (λ(qt:(List Qr))=>(some (IntKind.i64.wrap (oU+1))).bind λig=>some (.inl (ig,qt))) λQi=>(bif vr then(eC [je]).bind λjW=>(bif jW then some (.inr (.inr true))else Qi [])else Qi je)) λYN=>(some (Int.tmod oU 40)).bind λiW=>(some (decide ((iW:Int)=39))).bind λeG=>(bif eG then some true else(some (l.length:Int)).bind λlq=>(some (IntKind.i64.wrap (lq-1))).bind λgJ=>(some (decide ((oU:Int)=gJ))).bind λoH=>some oH).bind λyH=>YN yH else some (.inr (.inl ()))))) (0,[])).bind (λBp=>match Bp with|.inr YO=>some YO|.inl _=>some false)=some r/\True:=by
  refine jA (λs=>∃(i:Nat) (r:List Qr),s=((i:Int),r)/\i<=l.length/\r.length<=i) (λ_=>True) (λs=>l.length-s.1.toNat) ?_ ⟨0,[],Y,by omega,by simp⟩ ?_
  ·rintro _ ⟨i,r,rfl,hi,hr⟩;by_cases hlt:i<l.length
   ·have g:=List.getElem?_eq_getElem hlt;generalize l[i]=m at g;obtain⟨acc,kd,hour,q⟩:=m;have ap:=Ax (b:=64) (l:=r) (x:=q) (by decide) (by omega);obtain⟨t,ht,-⟩:=Ns [r++[q]] (by simp);have fin:∀(c:Bool),((bif c then(eC [r++[q]]).bind λjW=>(bif jW then some (.inr (.inr true))else(some (IntKind.i64.wrap ((i:Int)+1))).bind λig=>some (.inl (ig,[])))else(some (IntKind.i64.wrap ((i:Int)+1))).bind λig=>some (.inl (ig,r++[q]))):Option ((Int×(List Qr))⊕((Unit)⊕(Bool))))=some (.inr (.inr true))\/∃r2:List Qr,r2.length<=i+1/\((bif c then(eC [r++[q]]).bind λjW=>(bif jW then some (.inr (.inr true))else(some (IntKind.i64.wrap ((i:Int)+1))).bind λig=>some (.inl (ig,[])))else(some (IntKind.i64.wrap ((i:Int)+1))).bind λig=>some (.inl (ig,r++[q]))):Option ((Int×(List Qr))⊕((Unit)⊕(Bool))))=some (.inl (((i+1:Nat):Int),r2)):=by
     intro c;cases c
     ·exact .inr ⟨r++[q],by simp;omega,bZ Y<|aA (congrArg some (cL (by omega))) Y⟩
     cases t
     ·exact .inr ⟨[],by simp,dN Y<|aA ht<|bZ Y<|aA (congrArg some (cL (by omega))) Y⟩
     exact .inl (dN Y<|aA ht<|dN Y Y)
    have cond:∃c:Bool,((bif decide (((i%40:Nat):Int)=39)then some true else(some (l.length:Int)).bind λlq=>(some (IntKind.i64.wrap (lq-1))).bind λgJ=>(some (decide ((i:Int)=gJ))).bind λoH=>some oH):Option Bool)=some c:=by
     cases decide (((i%40:Nat):Int)=39)
     ·exact⟨_,Y⟩
     exact⟨_,Y⟩
    obtain⟨c,hc⟩:=cond;rcases fin c with h|⟨r2,h2,h⟩
    ·exact .inr ⟨.inr true,aA Y<|aA (dT (by omega))<|dN Y<|aA (bq g)<|aA ap<|eN<|aA (congrArg some (GP i))<|aA Y<|aA hc h,aq⟩
    exact .inl ⟨_,aA Y<|aA (dT (by omega))<|dN Y<|aA (bq g)<|aA ap<|eN<|aA (congrArg some (GP i))<|aA Y<|aA hc h,⟨i+1,r2,Y,hlt,h2⟩,by simp only[Int.toNat_natCast];omega⟩
   exact .inr ⟨.inl (),aA Y<|aA (dF (by omega))<|bZ Y Y,aq⟩
  rintro e-;cases e
  ·exact⟨false,Y,aq⟩
  exact⟨_,Y,aq⟩
 obtain⟨r,hr,-⟩:=step;exact⟨r,aA Y<|aA (dF (by omega))<|bZ Y hr,λ_=>by omega⟩
end
section
open Go.Fw
theorem told_eq(es:List En)(h:es.length<=1000000):gu es=some es:=by
 unfold gu;refine b7 (λk=>((k:Int),es.take k)) es.length es Y (λk hk=>?_) ?_ Y
 ·have g:=List.getElem?_eq_getElem hk;rw[List.take_add_one,g];generalize es[k]=e at g;have ap:=Ax (b:=56) (l:=es.take k) (x:=e) (by decide) (by rw[List.length_take];omega);obtain⟨acc,kd,hour,c⟩:=e;exact aA Y<|aA (dT (by omega))<|dN Y<|aA (bq g)<|aA ap<|aA (congrArg some (cL (by omega))) Y
 rw[List.take_length];exact aA Y<|aA (dF (by omega))<|bZ Y Y
theorem GR(es:List En)(h:es.length<=1000000):iZ es=some es:=told_eq es h
theorem y7(x0:Nat)(l more:List Mv)(h0:x0<256)(ol:l.length*88<=140737488351232/\∀m∈l,Nw m)(om:more.length*88<=140737488351232/\∀m∈more,Nw m):dB x0 l more=some true:=by
 obtain⟨t1,Tu,KW⟩:=GQ l (by have:=ol.1;omega);obtain⟨t2,Tv,TV⟩:=GQ more (by have:=om.1;omega);have D6:=TS ol.2;have G0:=TS om.2;unfold dB;refine eN<|aA Tu<|orC (λ_=>aA Tv Y)<|orC (c:=false) (λ_=>aA o5 Y) ?_;cases t1
 case true=>exact dN Y<|aA o5 Y
 cases t2
 case true=>exact dN Y<|aA o5 Y
 have b1:=KW Y;have b2:=TV Y;have ZH:GO (l++more):=λm hm=>by rcases List.mem_append.1 hm with h|h;exact D6 m h;exact G0 m h
 have ZI:GO (more++l):=λm hm=>by rcases List.mem_append.1 hm with h|h;exact G0 m h;exact D6 m h
 have c1:l.length<=1024:=by omega
 have c2:more.length<=1024:=by omega
 have c12:(l++more).length<=1024:=by simp;omega
 have c21:(more++l).length<=1024:=by simp;omega
 have md1:=made_eq h0 c1 D6;have md2:=made_eq h0 c2 G0;have Nx:=made_eq h0 c12 ZH;have Ny:=made_eq h0 c21 ZI;have p1:=DO (b:=88) (l:=[]) (k:=l) (by decide) (by simp;omega);have p2:=DO (b:=88) (l:=[]++l) (k:=more) (by decide) (by simp;omega);have p3:=DO (b:=88) (l:=[]) (k:=more) (by decide) (by simp;omega);have p4:=DO (b:=88) (l:=[]++more) (k:=l) (by decide) (by simp;omega);rw[List.nil_append]at p1 p2 p3 p4;obtain⟨n,hn⟩:∃n,1+x0%64=n:=⟨_,Y⟩;rw[hn]at md1 md2 Nx Ny;have n1:0<n:=by omega
 have n2:n<=64:=by omega
 have G4:=KN (n:=(n:Int)) c1 D6;have G5:=KN (n:=(n:Int)) c2 G0;have l1:=BY (n:=(n:Int)) c1;have l2:=BY (n:=(n:Int)) c2;have Bp:mk (n:Int) (l++more)=mk (n:Int) l++mk (n:Int) more:=by rw[g9 c12,g9 c1,g9 c2,List.filterMap_append]
 have e21:mk (n:Int) (more++l)=mk (n:Int) more++mk (n:Int) l:=by rw[g9 c21,g9 c1,g9 c2,List.filterMap_append]
 rw[Bp]at Nx;rw[e21]at Ny;generalize mk (n:Int) l=u at*;generalize mk (n:Int) more=v at*;have Nz:∀e∈u++v,tB (n:Int) 35184372087809 e:=λe he=>by rcases List.mem_append.1 he with h|h;exact G4 e h;exact G5 e h
 have ZJ:∀e∈v++u,tB (n:Int) 35184372087809 e:=λe he=>by rcases List.mem_append.1 he with h|h;exact G5 e h;exact G4 e h
 have Jk:(u++v).length<=1000000:=by simp;omega
 have k21:(v++u).length<=1000000:=by simp;omega
 have en1:=entries_eq n1 G4 (by omega) (by decide);have en2:=entries_eq n1 G5 (by omega) (by decide);have ZK:=entries_eq n1 Nz Jk (by decide);have to1:=GR u (by omega);have to2:=told_eq v (by omega);have ZL:=told_eq (u++v) Jk;have ap:=DO (b:=56) (l:=u) (k:=v) (by decide) (by omega);have sm:=Nv Nz Jk (by decide);have a1:=all_eq n1 n2 G4 (by omega) (by decide);have a2:=all_eq n1 n2 G5 (by omega) (by decide);have a12:=all_eq n1 n2 Nz Jk (by decide);have a21:=all_eq n1 n2 ZJ k21 (by decide);have g1:∀i,i<n->(lj n u)[i]? =some (zn (ep (fP (i:Int)) u)):=λi hi=>fH u hi;have g2:∀i,i<n->(lj n v)[i]? =some (zn (ep (fP (i:Int)) v)):=λi hi=>fH v hi;have g12:∀i,i<n->(lj n (u++v))[i]? =some (zn (ep (fP (i:Int)) u+ep (fP (i:Int)) v)):=λi hi=>by rw[fH _ hi,nn]
 have g21:∀i,i<n->(lj n (v++u))[i]? =some (zn (ep (fP (i:Int)) u+ep (fP (i:Int)) v)):=λi hi=>by rw[fH _ hi,nn,Int.add_comm]
 have q1:=gG n u;have q2:=gG n v;have q12:=gG n (u++v);have q21:=gG n (v++u);have f1:∀i:Int,Fit (35184372087809+1) (ep (fP i) u):=λi=>vK (λe he=>qH (G4 e he) i) (by omega);have f2:∀i:Int,Fit (35184372087809+1) (ep (fP i) v):=λi=>vK (λe he=>qH (G5 e he) i) (by omega);refine bZ Y<|aA md1<|aA md2<|aA p1<|aA p2<|aA Nx<|aA p3<|aA p4<|aA Ny<|aA ZK<|aA ZL<|aA en1<|aA to1<|aA en2<|aA to2<|aA ap<|aA sm<|aA Y<|bZ Y<|aA a1<|aA a2<|aA a12<|aA a21<|eN ?_;generalize lj n u=w1 at*;generalize lj n v=w2 at*;generalize lj n (u++v)=w3 at*;generalize lj n (v++u)=w4 at*;refine aA Y<|aA Y<|aA (dF (by omega))<|aA (a:=false) (bZ Y<|aA Y<|aA Y<|aA (dF (by omega)) Y)<|aA (a:=false) (bZ Y<|aA Y<|aA Y<|aA (dF (by omega)) Y)<|bZ Y ?_;refine b7 (λk=>(k:Int)) n (.inl ()) Y (λk hk=>?_) ?_ Y
 ·have ad:=add_eq (ec (f1 k) (by decide)) (ec (f2 k) (by decide));rw[cx,cx]at ad;have s:=DX ((f1 k).add (f2 k)) (by decide) Y;have b1:=g1 k hk;have b2:=g2 k hk;have b3:=g12 k hk;have b4:=g21 k hk;generalize zn (ep (fP (k:Int)) u+ep (fP (k:Int)) v)=z3 at*;generalize zn (ep (fP (k:Int)) u)=z1 at*;generalize zn (ep (fP (k:Int)) v)=z2 at*;exact aA Y<|aA (dT (by omega))<|dN Y<|eN<|aA (bq b1)<|aA (bq b2)<|aA ad<|aA (bq b3)<|aA s<|aA Y<|aA (a:=false) (bZ Y<|aA (bq b3)<|aA (bq b4)<|aA s<|aA Y Y)<|bZ Y<|aA (congrArg some (cL (by omega))) Y
 exact aA Y<|aA (dF (by omega))<|bZ Y Y
end
section
open Go.Fw Go.RowKit Go.ChangeShapes Go.WideShapes Go.ChangeAt
set_option linter.unusedVariables false
set_option maxRecDepth 100000 in
theorem jZ(H:Type)(enc:TypeId×Value->H)(W:World)(base:Nat)(args:Array Value)(ds gs:List (DataW H))(before:List MemPlace)
  (hval:∀(j:Nat) t v,Try.f5.params[j]? =some t->args[j]? =some v->Value.okWide ah W .any base t v)
  (hW:DataW.Whole enc ah Try.f5.params.toList Rows.bookConcatenatesSpec.vars false W args.toList ds gs before) (hz:(DataW.weightsEach ah (Try.f5.params.toList++Rows.bookConcatenatesSpec.plain.varTypes ah) (ds++gs)).all (· <=reachBytes)=true):
  Calls ah 5 args W λe W'=>∃v,e=.returned v/\Rows.bookConcatenatesSpec.post enc ah Try.f5 false true false false W args v W':=by
 have hW':=hW;obtain⟨p,q,TA,hV,rfl,hfz,hnd⟩:=hW;have hA:DataW.TrodAll enc ah W 0 (λ_=>true) true Try.f5.params.toList args.toList ds p:=TA;rw[Try.params5]at hA hval hz;obtain⟨v0,GU,d0,ds0,p0,q0,hargs,rfl,rfl,h0,r0⟩:=trodAll_cons hA;obtain⟨v1,vs1,d1,ds1,p1,q1,rfl,rfl,rfl,h1,r1⟩:=trodAll_cons r0;obtain⟨v2,vs2,d2,ds2,p2,q2,rfl,rfl,rfl,h2,r2⟩:=trodAll_cons r1;obtain⟨rfl,rfl,rfl⟩:=trodAll_nil r2;obtain rfl:args=#[v0,v1,v2]:=by cases args;simp_all
 obtain⟨rfl,rfl⟩:=trodVars_none hV;have lt0:∀x∈p0,x.block<W.heap.size:=by obtain⟨m,hm⟩:=h0;exact DataW.trod_lt m _ _ _ hm
 obtain⟨x0,ok0,sz0,al0⟩:=yc (P:=ah) (T:=5) (e:=Wi) (hval 0 5 v0 Y Y) h0 (kj (t:=5) (d:=d0) 0 hz Y Y);have lt1:∀x∈p1,x.block<W.heap.size:=by obtain⟨m,hm⟩:=h1;exact DataW.trod_lt m _ _ _ hm
 obtain⟨x1,G4,sz1,al1⟩:=yc (P:=ah) (T:=33) (e:=(eS 7 wP)) (hval 1 33 v1 Y Y) h1 (kj (t:=33) (d:=d1) 1 hz Y Y);have lt2:∀x∈p2,x.block<W.heap.size:=by obtain⟨m,hm⟩:=h2;exact DataW.trod_lt m _ _ _ hm
 obtain⟨x2,G5,sz2,al2⟩:=yc (P:=ah) (T:=33) (e:=(eS 7 wP)) (hval 2 33 v2 Y Y) h2 (kj (t:=33) (d:=d2) 2 hz Y Y);clear TA;refine(HL (jY (y7 x0 x1 x2 ok0 G4 G5)) (W:=W) (vs:=[v0,v1,v2]) ⟨al0.1,al1.1,al2.1,aq⟩).mono λe W' ⟨he,VB⟩=>?_;subst he;exact⟨_,rfl,_,_,_,[],_,[],hW',trodAll_mk1 (shut_bool Try.underlying4 _),(trodAll_cons_mk (Below.trod uK (by kernel_rfl) (of_decide_eq_true (by kernel_rfl)) h0 VB lt0) (trodAll_cons_mk (Below.trod uK (by kernel_rfl) (of_decide_eq_true (by kernel_rfl)) h1 VB lt1) (trodAll_cons_mk (Below.trod uK (by kernel_rfl) (of_decide_eq_true (by kernel_rfl)) h2 VB lt2) trodAll_mk0))),rfl,VB.frame _,λh=>by cases h⟩
set_option maxRecDepth 100000 in
theorem lp(os:Os)(started:os.Started)(H:Type)(enc:TypeId×Value->H):
  ReturnsInHanded {} Try.checked os 5 .any (Rows.bookConcatenatesSpec.pre6 enc ah Try.f5 Rows.bookConcatenatesRow.domain false) (Rows.bookConcatenatesSpec.post enc ah Try.f5 false true false false):=by
 refine returnsInHanded_of_change_sized (C:=Try.checked) Ww started (by kernel_rfl) Try.func5
  (ChangeSpec.witness6 (enc:=enc) (C:=Try.checked) false ⟨#[],#[.int .u8 0,.slice none 0 0,.slice none 0 0],[]⟩ 8 (by kernel_rfl) (by kernel_rfl) (by kernel_rfl) (by kernel_rfl)) ?_
 intro W base args ds gs before hval hW _ hz _;exact jZ H enc W base args ds gs before hval hW hz
theorem bookConcatenates_holds:Rows.BookConcatenatesSaid:=
 OpenClaim.holds_of_wide 5 Try.f5 Y Y Y Y Y Y Y ⟨Y,Y,Y,Y,Y⟩ Y Y Y Y Y (by kernel_rfl) Try.func5 (by kernel_rfl)
  (of_decide_eq_true (by kernel_rfl)) (by unfold Func.isWrapper;first|(rw[if_pos (by decide+kernel)];kernel_rfl)|(rw[if_neg (by decide+kernel)];exact⟨Y,Y⟩))
  (λos started H enc _=>lp os started H enc)
end
end Go.Proofs.Ytmiflmkdaeianaa
