/- The law BookZeroSum answers true for every input. -/
import Derived.Test.YtmiflmkdaeianaaPSZ3
set_option linter.unusedVariables false
set_option linter.unusedSimpArgs false
set_option linter.unusedSectionVars false
namespace Go.Proofs.Ytmiflmkdaeianaa
section
open Go.Fw
def sY(x:Rat):Int:=if x-(x.floor:Rat)<1/2 then x.floor else if 1/2<x-(x.floor:Rat)then x.floor+1 else if x.floor%2=0 then x.floor else x.floor+1
theorem ZE(i:Int):Rat.divInt i 1=(i:Rat):=by rw[Rat.divInt_eq_div];show(i:Rat)/1=_;grind
theorem ZF:Fit 1 1:=by unfold Fit;decide
theorem ZG:Fit 1 2:=by unfold Fit;decide
theorem S9:Rat.divInt 1 2=1/2:=by rw[Rat.divInt_eq_div];simp
theorem M4{L:Nat}{x:Rat}(h:FQ L x):Fit L 1:=Fit.le h.2 (by have:=Rat.den_pos x;omega)
theorem IK{L:Nat}{x:Rat}(h:FQ L x):Fit (L+1) (sY x):=by
 have h1:=(h.floor).mono (show L<=L+1 by omega);have h2:Fit (L+1) (x.floor+1):=h.floor.add (M4 h);unfold sY;split
 ·exact h1
 split
 ·exact h2
 split
 ·exact h1
 exact h2
theorem Gu(i:Int):Fit 1 (i%2):=by
 have h1:=Int.emod_nonneg i (show(2:Int)≠0 by decide);have h2:=Int.emod_lt_of_pos i (show(0:Int)<2 by decide);unfold Fit;omega
theorem DP(i:Int):decide ((i%2).sign=0)=decide (i%2=0):=by
 congr 1;exact propext Int.sign_eq_zero_iff_zero
theorem jU.round{L:Nat}{a:Qr}{x:Rat}(ha:jU L a x)(h:L<=35184372088508):dQ a=some (zn (sY x)):=by
 have hf:=ha.fq;have f1:=ha.floor (show L<=35184372088788 by omega);obtain⟨n1,r1⟩:=new_eq (n:=1) (d:=2) (by decide) (by decide) (by decide);have w1:=ef (x:=1) (by decide) (by decide);have a1:=add_eq (dy hf.floor (by omega)) (dy ZF (by decide));rw[bZ,bZ]at a1;obtain⟨i1,s1⟩:=sX hf.floor ha.l1 (by omega);have fi:=ZE x.floor;have fl1:=Rat.floor_le x;have fl2:=Rat.lt_floor_add_one x;rw[Rat.intCast_add,show((1:Int):Rat)=1 from rfl]at fl2;obtain⟨e,r⟩:=ha.Zz (hf.floor.mono (by omega)) (by omega) (by rw[fi];grind) (by rw[fi];grind);rw[fi]at e r;rw[<-Gt]at e;generalize qn (x-(x.floor:Rat))=q at e r;rw[S9]at n1 r1;have c1:=r.cmp r1 (by omega);have w2:=ef (x:=2) (by decide) (by decide);have d1:=divMod_eq (dy hf.floor (show L<=35184372088788 by omega)) (dy ZG (by decide));rw[bZ,bZ]at d1;replace d1:cc (zn x.floor) (zn 2)=some (zn (x.floor/2),zn (x.floor%2),0):=d1;have g1:=sign_eq (dy (Gu x.floor) (by decide));rw[bZ]at g1;have hr:zn (sY x)=if x-(x.floor:Rat)<1/2 then zn x.floor else if 1/2<x-(x.floor:Rat)then zn (x.floor+1)else if x.floor%2=0 then zn x.floor else zn (x.floor+1):=by
  unfold sY
  repeat' split
  all_goals rfl
 rw[hr];clear hr s1 r r1;generalize qn (1/2)=q1 at n1 c1;generalize qn (x.floor:Rat)=q2 at i1 e;generalize hz0:zn x.floor=z0 at*;generalize zn (x.floor+1)=z1 at*;generalize zn (x.floor/2)=z2 at*;generalize zn (x.floor%2)=z3 at*;generalize zn 1=z4 at*;generalize zn 2=z5 at*;unfold dQ;refine aA n1<|aA f1<|aA w1<|aA a1<|aA i1<|aA e<|aA c1 ?_;rcases ZC (x-(x.floor:Rat)) (1/2)with k|k|k
 ·rw[IF k,if_pos k];exact aA (dT Y)<|dO Y Y
 ·rw[k,DM,if_neg Rat.lt_irrefl,if_neg Rat.lt_irrefl];refine aA (dF (by decide))<|cE Y<|aA (dF (by decide))<|cE Y<|aA w2<|aA d1<|aA g1<|aA (congrArg some (DP _)) ?_;by_cases h2:x.floor%2=0
  ·rw[if_pos h2];exact dO (decide_eq_true h2) Y
  rw[if_neg h2];exact cE (decide_eq_false h2) Y
 rw[IG k,if_neg (by grind),if_pos k];exact aA (dF (by decide))<|cE Y<|aA (dT Y)<|dO Y Y
def yX(n:Int)(len:Nat)(acc:Int)(kd:Nat)(hour:Int):Int:=if ¬(0<acc/\acc<n)then 1 else if kd<1\/4<kd then 12 else if hour< -1\/8<=hour then 1 else if 1024<=len then 5 else 0
theorem qp{n:Int}{es:List En}(h:n≠0):cw n es=some false:=by
 unfold cw;exact eN<|aA (a:=false) (cE Y<|aA (dF h) Y) Y
theorem ud(n:Int)(es:List En)(a:Int):eU n es a=some (decide (0<a/\a<n)):=by
 unfold eU;refine eN<|aA Y ?_;by_cases h:0<a
 ·exact aA (a:=decide (0<a/\a<n)) (dO (decide_eq_true h)<|aA Y (by simp[h])) Y
 exact aA (a:=decide (0<a/\a<n)) (cE (decide_eq_false h) (by simp[h])) Y
theorem check_eq(n:Int)(es:List En)(acc:Int)(kd:Nat)(hour:Int)(c:Zr)(len:Nat):∃e,ia ⟨acc,kd,hour,c⟩ n es=some e/\(e≠0->yX n len acc kd hour=e)/\(e=0->yX n len acc kd hour=if 1024<=len then 5 else 0):=by
 unfold ia yX;by_cases h1:0<acc/\acc<n
 ·by_cases h2:kd<1\/4<kd
  ·refine⟨12,aA (ud _ _ _)<|aA Y<|cE (by simp[h1])<|eN<|aA Y<|aA (a:=true) ?_<|dO Y Y,λ_=>by rw[if_neg (by simpa using h1),if_pos h2],by simp⟩;by_cases h3:kd<1
   ·exact dO (decide_eq_true h3) Y
   exact cE (decide_eq_false h3)<|aA (dT (by omega)) Y
  by_cases h3:hour< -1\/8<=hour
  ·refine⟨1,aA (ud _ _ _)<|aA Y<|cE (by simp[h1])<|eN<|aA Y<|aA (a:=false) (cE (decide_eq_false (by omega))<|aA (dF (by omega)) Y)<|cE Y<|eN<|aA Y<|aA (a:=true) ?_<|dO Y Y,λ_=>by rw[if_neg (by simpa using h1),if_neg h2,if_pos h3],by simp⟩;by_cases h4:hour< -1
   ·exact dO (decide_eq_true h4) Y
   exact cE (decide_eq_false h4)<|aA (dT (by omega)) Y
  exact⟨0,aA (ud _ _ _)<|aA Y<|cE (by simp[h1])<|eN<|aA Y<|aA (a:=false) (cE (decide_eq_false (by omega))<|aA (dF (by omega)) Y)<|cE Y<|eN<|aA Y<|aA (a:=false) (cE (decide_eq_false (by omega))<|aA (dF (by omega)) Y)<|cE Y Y,by simp,λ_=>by rw[if_neg (by simpa using h1),if_neg h2,if_neg h3]⟩
 exact⟨1,aA (ud _ _ _)<|aA Y<|dO (by simp[h1]) Y,λ_=>by simp[h1],by simp⟩
def M5(n:Int)(es:List En)(m:Mv)(c:Zr):List En:=if yX n es.length m.acc m.kd m.hour=0 then es++[⟨m.acc,m.kd,m.hour,c⟩]else es
theorem move_eq{n:Int}{es:List En}{acc:Int}{kd:Nat}{hour:Int}{a:Qr}{L:Nat}{x:Rat}(hn:n≠0)(ha:jU L a x)(hL:L<=35184372088508)(hl:es.length<=1000000):
  bQ n es acc kd hour a=some (yX n es.length acc kd hour,M5 n es ⟨acc,kd,hour,a⟩ (zn (sY x))):=by
 obtain⟨e,he,h1,h2⟩:=check_eq n es acc kd hour ⟨false,[]⟩ es.length;have hr:=ha.round hL;unfold M5 bQ;show(cw n es).bind _=some (yX n es.length acc kd hour,if yX n es.length acc kd hour=0 then es++[⟨acc,kd,hour,zn (sY x)⟩]else es);generalize zn (sY x)=z at hr⊢;refine aA (qp hn)<|cE Y<|aA he<|?_;by_cases h0:e=0
 ·subst h0;rw[h2 rfl];refine aA (dF (by simp))<|cE Y<|aA Y ?_;by_cases h3:1024<=es.length
  ·rw[if_pos h3,if_neg (by decide)];exact aA (dT (by omega))<|dO Y Y
  rw[if_neg h3,if_pos rfl];exact aA (dF (by omega))<|cE Y<|aA hr<|aA (BJ (by decide) (by omega)) Y
 rw[h1 h0,if_neg h0];exact aA (dT h0)<|dO Y Y
structure sZ (n:Int) (K:Nat) (e:En):Prop where
 a:1<=e.acc
 b:e.acc<n
 k:1<=e.kd/\e.kd<=4
 z:e.g9=zn (zi e.g9)
 f:Fit K (zi e.g9)
def b8(f:En->Int)(es:List En):Int:=(es.map f).sum
theorem AO(f:En->Int)(l k:List En):b8 f (l++k)=b8 f l+b8 f k:=by simp[b8]
theorem rL(f:En->Int){es:List En}{k:Nat}(h:k<es.length):b8 f (es.take (k+1))=b8 f (es.take k)+f es[k]:=by
 rw[List.take_add_one,List.getElem?_eq_getElem h,AO];simp[b8]
theorem CT{K:Nat}:∀{l:List Int},(∀c∈l,Fit K c)->l.sum.natAbs<=l.length*(4294967296^K-1)
 |[],_=>by simp
 |c::l,h=>by
  have h1:=h c (by simp);have h2:=CT (l:=l) (λc hc=>h c (by simp[hc]));rw[List.sum_cons,List.length_cons,Nat.succ_mul];have:=Int.natAbs_add_le c l.sum;unfold Fit at h1;omega
theorem CU{K:Nat}{l:List Int}(h:∀c∈l,Fit K c)(hl:l.length<=4294967296):Fit (K+1) l.sum:=by
 have h1:=CT h;have h2:=Nat.mul_le_mul_right (4294967296^K-1) hl;have h3:=Nat.pow_pos (n:=K) (show 0<4294967296 by decide);unfold Fit;rw[Nat.pow_succ,Nat.mul_comm (4294967296^K)];generalize 4294967296^K=m at*;omega
theorem M6{K:Nat}:Fit K 0:=by unfold Fit;exact Nat.pow_pos (by decide)
theorem qt{K:Nat}{f:En->Int}{es:List En}(h:∀e∈es,Fit K (f e))(hl:es.length<=1000000):Fit (K+1) (b8 f es):=
 CU (λc hc=>by obtain⟨e,he,rfl⟩:=List.mem_map.1 hc;exact h e he) (by simp;omega)
theorem qu{K:Nat}{f:En->Int}{es:List En}(h:∀e∈es,Fit K (f e))(k:Nat)(hl:es.length<=1000000):Fit (K+1) (b8 f (es.take k)):=
 qt (λe he=>h e (List.mem_of_mem_take he)) (by rw[List.length_take];omega)
def eo(i:Int)(e:En):Int:=if i=0 then-zi e.g9 else if e.acc=i then zi e.g9 else 0
theorem vJ{n:Int}{K:Nat}{e:En}(h:sZ n K e)(i:Int):Fit K (eo i e):=by
 unfold eo;split
 ·exact h.f.neg
 split
 ·exact h.f
 exact M6
def qw(n:Nat)(es:List En):List Zr:=(List.range n).map λ(i:Nat)=>zn (b8 (eo (i:Int)) es)
theorem jS(n:Nat)(es:List En):(qw n es).length=n:=by simp[qw]
theorem ir{n i:Nat}(es:List En)(h:i<n):(qw n es)[i]? =some (zn (b8 (eo (i:Int)) es)):=by simp[qw,h]
theorem Gv{n:Nat}{es:List En}{k a:Nat}(hk:k<es.length)(hn:0<n)(ha:es[k].acc=(a:Int))(h1:1<=a)(h2:a<n):
  ((qw n (es.take k)).set a (zn (b8 (eo a) (es.take k)+zi es[k].g9))).set 0 (zn (b8 (eo 0) (es.take k)-zi es[k].g9))=qw n (es.take (k+1)):=by
 apply List.ext_getElem?;intro i;by_cases hi:i<n
 ·rw[ir _ hi,List.getElem?_set,List.getElem?_set,List.length_set,jS,ir _ hi,rL _ hk];by_cases e0:0=i
  ·subst e0;rw[if_pos Y,if_pos hn];rw[show eo ((0:Nat):Int) es[k]=-zi es[k].g9 from if_pos rfl];rfl
  rw[if_neg e0];by_cases ea:a=i
  ·subst ea;rw[if_pos Y,if_pos hi];unfold eo;rw[if_neg (show ¬((a:Int)=0) by omega),if_pos ha]
  rw[if_neg ea];have:eo i es[k]=0:=by unfold eo;rw[if_neg (by omega),ha,if_neg (by omega)]
  rw[this,Int.add_zero]
 rw[List.getElem?_eq_none (by simp[jS];omega),List.getElem?_eq_none (by simp[jS];omega)]
theorem all_eq{n:Nat}{es:List En}{K:Nat}(hn:0<n)(hn2:n<=64)(he:∀e∈es,sZ n K e)(hl:es.length<=1000000)(hK:K<=35184372088508):eu n es=some (qw n es):=by
 unfold eu;refine aA (qp (by omega))<|cE Y<|aA (vw (by decide) (by omega))<|aA Y ?_;refine b9 (λk=>((k:Int),qw n (es.take k))) es.length (qw n es) ?_ (λk hk=>?_) ?_ Y
 ·simp only[List.take_zero];congr 1;apply List.ext_getElem?;intro i;by_cases hi:i<n
  ·rw[ir _ hi,List.getElem?_replicate,if_pos hi];rfl
  rw[List.getElem?_eq_none (by simp;omega),List.getElem?_eq_none (by simp[jS];omega)]
 ·have g:=List.getElem?_eq_getElem hk;have ho:=he _ (List.getElem_mem hk);obtain⟨a,ha⟩:∃a:Nat,es[k].acc=(a:Int):=⟨es[k].acc.toNat,by have:=ho.a;omega⟩;have h1:1<=a:=by have:=ho.a;omega
  have h2:a<n:=by have:=ho.b;omega
  have s:=Gv hk hn ha h1 h2;have f1:Fit (K+1) (b8 (eo a) (es.take k)):=qu (λe h=>vJ (he e h) _) k hl;have f2:Fit (K+1) (b8 (eo 0) (es.take k)):=qu (λe h=>vJ (he e h) _) k hl;have a1:=add_eq (dy f1 (by omega)) (dy ho.f (by omega));have a2:=sub_eq (dy f2 (by omega)) (dy ho.f (by omega));rw[bZ,bZ,<-ho.z]at a1 a2;have g1:=ir (es.take k) h2;have g2:((qw n (es.take k)).set a (zn (b8 (eo a) (es.take k)+zi es[k].g9)))[0]? =some (zn (b8 (eo 0) (es.take k))):=by
   rw[List.getElem?_set,if_neg (by omega)];exact ir (es.take k) hn
  rw[<-s];generalize hq:qw n (es.take k)=q at*;have SY:q.length=n:=by rw[<-hq];exact jS _ _
  generalize zn (b8 (eo a) (es.take k)+zi es[k].g9)=z1 at*;generalize zn (b8 (eo 0) (es.take k)-zi es[k].g9)=z2 at*;generalize zn (b8 (eo a) (es.take k))=z3 at*;generalize zn (b8 (eo 0) (es.take k))=z4 at*;clear s ho f1 f2;generalize es[k]=e at*;obtain⟨acc,kd,hour,c⟩:=e;replace ha:acc=(a:Int):=ha;subst ha;refine aA (dT (by omega))<|dO Y<|aA (ek hk)<|aA g<|aA (ek (by omega))<|aA g1<|aA a1<|aA (ek (by omega))<|aA (ji (by omega))<|aA (ek (i:=0) (by simp;omega))<|aA g2<|aA a2<|aA (ek (i:=0) (by simp;omega))<|aA (ji (by simp;omega))<|aA (congrArg some (cC (by omega))) Y
 rw[List.take_length];exact aA (dF (by omega))<|cE Y Y
theorem entries_eq{n:Nat}{es:List En}{K:Nat}(hn:0<n)(he:∀e∈es,sZ n K e)(hl:es.length<=1000000)(hK:K<=35184372088508):dc n es=some es:=by
 unfold dc;refine aA (qp (by omega))<|cE Y<|aA Y<|aA (vw (by decide) (by omega))<|aA Y ?_;refine b9 (λk=>((k:Int),es.take k++List.replicate (es.length-k) (⟨0,0,0,⟨false,[]⟩⟩:En))) es.length es (by simp) (λk hk=>?_) ?_ Y
 ·have g:=List.getElem?_eq_getElem hk;have ho:=he _ (List.getElem_mem hk);have a1:=add_eq (dy ho.f (show K<=35184372088788 by omega)) (show Wl ⟨false,[]⟩from CS);rw[bZ,CR,Int.add_zero,<-ho.z]at a1;have s:(es.take k++List.replicate (es.length-k) (⟨0,0,0,⟨false,[]⟩⟩:En)).set k es[k]=es.take (k+1)++List.replicate (es.length-(k+1)) ⟨0,0,0,⟨false,[]⟩⟩:=by
   rw[List.set_append_right _ _ (by simp;omega),show k-(es.take k).length=0 by simp;omega,show es.length-k=(es.length-(k+1))+1 by omega,List.replicate_succ,List.set_cons_zero,List.take_add_one,g];simp only[Option.toList_some,List.append_assoc,List.singleton_append]
  rw[<-s];have SY:(es.take k++List.replicate (es.length-k) (⟨0,0,0,⟨false,[]⟩⟩:En)).length=es.length:=by simp;omega
  generalize (es.take k++List.replicate (es.length-k) (⟨0,0,0,⟨false,[]⟩⟩:En))=q at*;clear s ho;generalize es[k]=e at*;obtain⟨acc,kd,hour,c⟩:=e;refine aA (dT (by omega))<|dO Y<|aA (ek hk)<|aA g<|aA a1<|aA (ek (by omega))<|aA (ji (by omega))<|aA (congrArg some (cC (by omega))) Y
 simp only[List.take_length,Nat.sub_self,List.replicate_zero,List.append_nil];exact aA (dF (by omega))<|cE Y Y
def tc(k:Nat)(e:En):Int:=if e.kd=k then zi e.g9 else 0
theorem CV{n:Int}{K:Nat}{e:En}(h:sZ n K e)(k:Nat):Fit K (tc k e):=by
 unfold tc;split
 ·exact h.f
 exact M6
theorem KH{n:Nat}{es:List En}{K:Nat}(hn:0<n)(he:∀e∈es,sZ n K e)(hl:es.length<=1000000)(hK:K<=35184372088508)(kind:Nat):eV n es kind=some (zn (b8 (tc kind) es)):=by
 unfold eV;refine aA (qp (by omega))<|cE Y<|aA Y ?_;refine b9 (λk=>((k:Int),(zn (b8 (tc kind) (es.take k))).neg,(zn (b8 (tc kind) (es.take k))).w)) es.length ((zn (b8 (tc kind) es)).neg,(zn (b8 (tc kind) es)).w) Y (λk hk=>?_) ?_ Y
 ·have g:=List.getElem?_eq_getElem hk;have ho:=he _ (List.getElem_mem hk);have f1:Fit (K+1) (b8 (tc kind) (es.take k)):=qu (λe h=>CV (he e h) _) k hl;have a1:=add_eq (dy f1 (by omega)) (dy ho.f (by omega));rw[bZ,bZ,<-ho.z]at a1;rw[rL _ hk];have Ta:tc kind es[k]=if es[k].kd=kind then zi es[k].g9 else 0:=rfl;generalize b8 (tc kind) (es.take k)=s at*;rw[Ta];clear f1 ho Ta;generalize es[k]=e at*;obtain⟨acc,kd,hour,c⟩:=e;refine aA (dT (by omega))<|dO Y<|aA (ek hk)<|aA g<|aA Y<|eN ?_;by_cases h:kd=kind
  ·rw[if_pos h];refine dO (decide_eq_true h) ?_;generalize zn (s+zi c)=z1 at*;generalize zn s=z0 at*;exact aA a1<|aA (congrArg some (cC (by omega))) Y
  rw[if_neg h,Int.add_zero];exact cE (decide_eq_false h)<|aA (congrArg some (cC (by omega))) Y
 rw[List.take_length];exact aA (dF (by omega))<|cE Y Y
theorem Gw{n:Int}(h1:1<=n)(h2:n<=64):iJ n=some (n,[]):=by
 unfold iJ;exact eN<|aA (dF (by omega))<|aA (a:=false) (cE Y<|aA (dF (by omega)) Y) Y
end
section
open Go.Fw
def CW(x:Rat)(r:Int):Prop:=(2*(x-(r:Rat))<1/\-1<2*(x-(r:Rat)))\/((2*(x-(r:Rat))=1\/2*(x-(r:Rat))=-1)/\r%2=0)
theorem AP(l:Int):((l+1:Int):Rat)=(l:Rat)+1:=by rw[Rat.intCast_add];rfl
theorem AQ(x:Rat):CW x (sY x):=by
 have h1:=Rat.floor_le x;have h2:=Rat.lt_floor_add_one x;rw[AP]at h2;have hh:(1:Rat)/2+1/2=1:=by grind
 unfold sY;generalize x.floor=l at*;split
 ·exact .inl (by constructor<;>grind)
 split
 ·exact .inl (by rw[AP];constructor<;>grind)
 have e:2*(x-(l:Rat))=1:=by grind
 split
 ·rename_i h;exact .inr ⟨.inl e,h⟩
 refine .inr ⟨.inr ?_,by omega⟩;rw[AP];grind
theorem CX{x y:Rat}{r s:Int}(h:CW x r)(k:CW y s)(e:x<=y):r<=s:=by
 by_cases JC:r<=s
 ·exact JC
 exfalso;have h2:((s+1:Int):Rat)<=(r:Rat):=Rat.intCast_le_intCast.2 (by omega);rw[AP]at h2;have a1: -1<=2*(x-(r:Rat)):=by rcases h with h|⟨h|h,_⟩<;>grind
 have a2:2*(y-(s:Rat))<=1:=by rcases k with h|⟨h|h,_⟩<;>grind
 have e1:(r:Rat)=((s+1:Int):Rat):=by rw[AP];grind
 have e2:r=s+1:=Rat.intCast_inj.1 e1;have b1:r%2=0:=by
  rcases h with⟨h,h'⟩|⟨_,h⟩
  ·exfalso;grind
  exact h
 have b2:s%2=0:=by
  rcases k with⟨h,h'⟩|⟨_,h⟩
  ·exfalso;grind
  exact h
 omega
theorem nv{x:Rat}{r:Int}(h:CW x r):sY x=r:=Int.le_antisymm (CX (AQ x) h Rat.le_refl) (CX h (AQ x) Rat.le_refl)
theorem IL{i n:Int}{K:Nat}(hf:Fit K i)(hK:K<=35184372088788)(hn:dH n)(e:i=n):da (zn i) n=some true:=by
 subst e;have h1:=ef hn.1 hn.2;have h2:=xA (x:=zn i) (Nat.le_trans (dy hf hK).2 (by decide));unfold da;generalize zn i=z at*;exact aA h1<|aA h2 Y
theorem fY{n:Int}(hn:dH n):da (zn n) n=some true:=IL (K:=2) (Fit.i64 hn.1 hn.2) (by decide) hn Y
theorem jz{n d:Int}(hn:dH n)(hd:dH d)(h0:d≠0):∃q,cx n d=some q/\jU 2 q (Rat.divInt n d):=by
 obtain⟨h,r⟩:=new_eq hn hd h0;refine⟨_,?_,r⟩;unfold cx;generalize qn (Rat.divInt n d)=q at*;exact aA h Y
theorem qx{n:Int}{es:List En}{acc:Int}{kd:Nat}{hour:Int}{a:Qr}{L:Nat}{x:Rat}(e:Int)(hn:n≠0)(ha:jU L a x)(hL:L<=35184372088508)(hl:es.length<=1000000)(he:yX n es.length acc kd hour=e)(h0:e≠0):bQ n es acc kd hour a=some (e,es):=by
 rw[move_eq hn ha hL hl];unfold M5;show some (yX n es.length acc kd hour,if yX n es.length acc kd hour=0 then es++[⟨acc,kd,hour,zn (sY x)⟩]else es)=_;rw[he,if_neg h0]
theorem xD{n:Int}{es:List En}{acc:Int}{kd:Nat}{hour:Int}{a:Qr}{L:Nat}{x:Rat}(hn:n≠0)(ha:jU L a x)(hL:L<=35184372088508)(hl:es.length<=1000000)(he:yX n es.length acc kd hour=0)(r:Int)(hr:sY x=r):bQ n es acc kd hour a=some (0,es++[⟨acc,kd,hour,zn r⟩]):=by
 rw[move_eq hn ha hL hl];unfold M5;show some (yX n es.length acc kd hour,if yX n es.length acc kd hour=0 then es++[⟨acc,kd,hour,zn (sY x)⟩]else es)=_;rw[he,if_pos Y,hr]
theorem r52:sY (Rat.divInt 5 2)=2:=nv (.inr ⟨.inl (by rw[Rat.divInt_eq_div];show 2*((5:Rat)/2-2)=1;grind),Y⟩)
theorem r72:sY (Rat.divInt 7 2)=4:=nv (.inr ⟨.inr (by rw[Rat.divInt_eq_div];show 2*((7:Rat)/2-4)=-1;grind),Y⟩)
theorem ZH:sY (Rat.divInt (-5) 2)=-2:=nv (.inr ⟨.inr (by rw[Rat.divInt_eq_div];show 2*((-5:Rat)/2-(-2))=-1;grind),Y⟩)
theorem r83:sY (Rat.divInt 8 3)=3:=nv (.inl (by rw[Rat.divInt_eq_div];show 2*((8:Rat)/3-3)<1/\-1<2*((8:Rat)/3-3);constructor<;>grind))
theorem ZI:sY (Rat.divInt (-7) 1)=-7:=nv (.inl (by rw[Rat.divInt_eq_div];show 2*((-7:Rat)/1-(-7))<1/\-1<2*((-7:Rat)/1-(-7));constructor<;>grind))
theorem vK:fI=some true:=by
 obtain⟨q1,e1,s1⟩:=jz (n:=5) (d:=2) (by decide) (by decide) (by decide);obtain⟨q2,e2,s2⟩:=jz (n:=-7) (d:=1) (by decide) (by decide) (by decide);obtain⟨q3,e3,s3⟩:=jz (n:=1) (d:=1) (by decide) (by decide) (by decide);obtain⟨q4,e4,s4⟩:=jz (n:=7) (d:=2) (by decide) (by decide) (by decide);obtain⟨q5,e5,s5⟩:=jz (n:=-5) (d:=2) (by decide) (by decide) (by decide);obtain⟨q6,e6,s6⟩:=jz (n:=8) (d:=3) (by decide) (by decide) (by decide);have m1:=xD (n:=3) (es:=[]) (acc:=1) (kd:=1) (hour:=0) (by decide) s1 (by decide) (by simp) (by decide) 2 r52;have m2:=xD (n:=3) (es:=[]++[⟨1,1,0,zn 2⟩]) (acc:=2) (kd:=1) (hour:=0) (by decide) s2 (by decide) (by simp) (by decide) (-7) ZI;obtain⟨es,Tb⟩:∃es,([]++[⟨1,1,0,zn 2⟩]++[⟨2,1,0,zn (-7)⟩]:List En)=es:=⟨_,Y⟩;have hlen:es.length=2:=by rw[<-Tb];rfl
 have UY:sZ (3:Nat) 1 ⟨1,1,0,zn 2⟩:=⟨by decide,by decide,by decide,by rw[bZ],by rw[bZ];unfold Fit;decide⟩;have ok2:sZ (3:Nat) 1 ⟨2,1,0,zn (-7)⟩:=⟨by decide,by decide,by decide,by rw[bZ],by rw[bZ];unfold Fit;decide⟩;have hok:∀e∈es,sZ (3:Nat) 1 e:=by
  rw[<-Tb];intro e he;simp only[List.nil_append,List.cons_append,List.mem_cons,List.not_mem_nil,or_false]at he;rcases he with rfl|rfl
  ·exact UY
  exact ok2
 have Tc:∀f:En->Int,b8 f es=f ⟨1,1,0,zn 2⟩+f ⟨2,1,0,zn (-7)⟩:=λf=>by rw[<-Tb];simp[b8]
 have a1:=all_eq (n:=3) (by decide) (by decide) hok (by omega) (by decide);have g0:=ir (n:=3) (i:=0) es (by decide);have g1:=ir (n:=3) (i:=1) es (by decide);have g2:=ir (n:=3) (i:=2) es (by decide);have gl:=jS 3 es;have b0:b8 (eo ((0:Nat):Int)) es=5:=by rw[Tc];unfold eo;simp only[bZ];decide
 have b1:b8 (eo ((1:Nat):Int)) es=2:=by rw[Tc];unfold eo;simp only[bZ];decide
 have b2:b8 (eo ((2:Nat):Int)) es=-7:=by rw[Tc];unfold eo;simp only[bZ];decide
 have b3:b8 (tc 1) es=-5:=by rw[Tc];unfold tc;simp only[bZ];decide
 rw[b0]at g0;rw[b1]at g1;rw[b2]at g2;have y1:=KH (n:=3) (by decide) hok (by omega) (by decide) 1;rw[b3]at y1;have n1:=entries_eq (n:=3) (by decide) hok (by omega) (by decide);rw[Tb]at m2;have m3:=qx (n:=3) (es:=es) (acc:=3) (kd:=1) (hour:=0) 1 (by decide) s3 (by decide) (by omega) (by rw[hlen];decide) (by decide);have m4:=qx (n:=3) (es:=es) (acc:=0) (kd:=1) (hour:=0) 1 (by decide) s3 (by decide) (by omega) (by rw[hlen];decide) (by decide);have m5:=qx (n:=3) (es:=es) (acc:=1) (kd:=5) (hour:=0) 12 (by decide) s3 (by decide) (by omega) (by rw[hlen];decide) (by decide);have m6:=qx (n:=3) (es:=es) (acc:=1) (kd:=4) (hour:=8) 1 (by decide) s3 (by decide) (by omega) (by rw[hlen];decide) (by decide);have o1:=s1.round (by decide);have o2:=s4.round (by decide);have o3:=s5.round (by decide);have o4:=s6.round (by decide);rw[r52]at o1;rw[r72]at o2;rw[ZH]at o3;rw[r83]at o4;have i1:=fY (n:=2) (by decide);have i2:=fY (n:=4) (by decide);have i3:=fY (n:=-2) (by decide);have i4:=fY (n:=3) (by decide);have i5:=fY (n:=5) (by decide);have i6:=fY (n:=-7) (by decide);have i7:=fY (n:=-5) (by decide);generalize qw 3 es=al at*;clear hok Tc UY ok2 Tb b0 b1 b2 b3;generalize ([]++[⟨1,1,0,zn 2⟩]:List En)=es1 at*
 generalize zn 2=z2 at*;generalize zn 4=z4 at*;generalize zn (-2)=z2' at*;generalize zn 3=z3 at*;generalize zn 5=z5 at*;generalize zn (-7)=z7 at*;generalize zn (-5)=z5' at*;unfold fI;refine aA (Gw (by decide) (by decide))<|aA e1<|aA m1<|aA e2<|aA m2<|aA e3<|aA m3<|aA e3<|aA m4<|aA e3<|aA m5<|aA e3<|aA m6<|aA a1<|eN ?_;refine aA e1<|aA o1<|aA i1<|nu (aA e4<|aA o2<|aA i2 Y)<|nu (aA e5<|aA o3<|aA i3 Y)<|nu (aA e6<|aA o4<|aA i4 Y) ?_;refine nu (aA (dT Y) Y)<|nu (aA (dT Y) Y)<|nu (aA (dT Y) Y)<|nu (aA (dT Y) Y)<|nu (aA (dT Y) Y)<|nu (aA (dT Y) Y) ?_;refine nu (aA Y<|aA (dT (by omega)) Y)<|nu (aA (k8 g0)<|aA i5 Y)<|nu (aA (At g1)<|aA i1 Y)<|nu (aA (bF (i:=2) g2)<|aA i6 Y) ?_;exact nu (aA y1<|aA i7 Y)<|nu (aA n1<|aA Y<|aA (dT (by omega)) Y) Y
end
section
open Go.Fw
theorem xE{i j:Int}{K:Nat}(hf:Fit K i)(hK:K<=35184372088788)(e:i=j):dB (zn i) (zn j)=some true:=by
 subst e;exact xA (x:=zn i) (Nat.le_trans (dy hf hK).2 (by decide))
abbrev Td(m:Mv):Prop:=(-9223372036854775808<=m.acc/\m.acc<=9223372036854775807)/\m.kd<256/\(-9223372036854775808<=m.hour/\m.hour<=9223372036854775807)/\ZB m.fj
def M7(l:List Mv):Prop:=∀m∈l,jU 35184372087808 m.fj (qv m.fj)
theorem ZJ{l:List Mv}(h:∀m∈l,Td m):M7 l:=λm hm=>ZD (h m hm).2.2.2
def KI(n:Int)(es:List En)(m:Mv):List En:=M5 n es m (zn (sY (qv m.fj)))
def mk(n:Int)(l:List Mv):List En:=l.foldl (KI n) []
def NF(n:Int)(m:Mv):Option En:=if yX n 0 m.acc m.kd m.hour=0 then some ⟨m.acc,m.kd,m.hour,zn (sY (qv m.fj))⟩else none
theorem IM{n:Int}{k:Nat}{a:Int}{kd:Nat}{h:Int}(hk:k<1024):yX n k a kd h=yX n 0 a kd h:=by
 unfold yX;rw[if_neg (show ¬1024<=k by omega),if_neg (show ¬1024<=0 by omega)]
theorem IN(n:Int)(es:List En)(m:Mv):(KI n es m).length<=es.length+1:=by
 unfold KI M5;split<;>simp
theorem fold_filter(n:Int):∀(l:List Mv) (es:List En),es.length+l.length<=1024->l.foldl (KI n) es=es++l.filterMap (NF n)
 |[],es,_=>by simp
 |m::l,es,h=>by
  rw[List.length_cons]at h;have h1:=IN n es m;rw[List.foldl_cons,fold_filter n l _ (by omega)];have e:KI n es m=es++(NF n m).toList:=by
   unfold KI M5 NF;rw[IM (by omega)];split<;>simp
  rw[e,List.filterMap_cons,List.append_assoc];congr 1;cases NF n m<;>rfl
theorem xF{n:Int}{l:List Mv}(h:l.length<=1024):mk n l=l.filterMap (NF n):=by
 unfold mk;rw[fold_filter n l [] (by simpa using h)];rfl
theorem Gx{n:Int}{l:List Mv}(h:l.length<=1024):(mk n l).length<=l.length:=by
 rw[xF h];exact List.length_filterMap_le _ _
theorem Te{n:Int}{l:List Mv}(h:l.length<=1024)(hr:M7 l):∀e∈mk n l,sZ n 35184372087809 e:=by
 rw[xF h];intro e he;obtain⟨m,hm,hme⟩:=List.mem_filterMap.1 he;unfold NF at hme;split at hme
 ·rename_i hv;cases hme;have hf:=IK (hr m hm).fq;unfold yX at hv;have h1:0<m.acc/\m.acc<n:=by
   by_cases q:0<m.acc/\m.acc<n
   ·exact q
   rw[if_pos q]at hv;exact absurd hv (by decide)
  rw[if_neg (by simpa using h1)]at hv;have h2:¬(m.kd<1\/4<m.kd):=λq=>by rw[if_pos q]at hv;exact absurd hv (by decide)
  refine⟨by show 1<=m.acc;omega,h1.2,by show 1<=m.kd/\m.kd<=4;omega,?_,?_⟩
  ·show zn (sY (qv m.fj))=zn (zi (zn (sY (qv m.fj))));rw[bZ]
  show Fit _ (zi (zn (sY (qv m.fj))));rw[bZ];exact hf
 cases hme
theorem made_eq{x0:Nat}{l:List Mv}(h0:x0<256)(hl:l.length<=1024)(hr:M7 l):ig x0 l=some (((1+x0%64:Nat):Int),mk ((1+x0%64:Nat):Int) l):=by
 unfold ig;have t:Int.tmod ((x0:Nat):Int) 64=((x0%64:Nat):Int):=rfl;have t2:IntKind.i64.wrap (1+((x0%64:Nat):Int))=((1+x0%64:Nat):Int):=by rw[ep (by omega) (by omega)];simp
 refine aA (congrArg some (kz (by omega)))<|aA (congrArg some t)<|aA (congrArg some t2)<|aA (Gw (by omega) (by omega)) ?_;refine b9 (λk=>((k:Int),mk ((1+x0%64:Nat):Int) (l.take k))) l.length (mk ((1+x0%64:Nat):Int) l) Y (λk hk=>?_) ?_ Y
 ·have g:=List.getElem?_eq_getElem hk;have hm:=hr _ (List.getElem_mem hk);have hlen:(mk ((1+x0%64:Nat):Int) (l.take k)).length<=1024:=Nat.le_trans (Gx (by rw[List.length_take];omega)) (by rw[List.length_take];omega);have s:mk ((1+x0%64:Nat):Int) (l.take (k+1))=KI ((1+x0%64:Nat):Int) (mk ((1+x0%64:Nat):Int) (l.take k)) l[k]:=by
   unfold mk;rw[List.take_add_one,g,List.foldl_append];rfl
  rw[s];generalize mk ((1+x0%64:Nat):Int) (l.take k)=es at*;clear s;unfold KI;have mv:=move_eq (n:=((1+x0%64:Nat):Int)) (es:=es) (acc:=l[k].acc) (kd:=l[k].kd) (hour:=l[k].hour) (by omega) hm (by decide) (by omega);generalize zn (sY (qv l[k].fj))=z at*;clear hm;generalize l[k]=m at*;obtain⟨acc,kd,hour,q⟩:=m;exact aA Y<|aA (dT (by omega))<|dO Y<|aA (bF g)<|aA (bF g)<|aA (bF g)<|aA (bF g)<|aA mv<|aA (congrArg some (cC (by omega))) Y
 rw[List.take_length];exact aA Y<|aA (dF (by omega))<|cE Y Y
theorem Gy(i:Nat):Int.tmod (i:Int) 40=((i%40:Nat):Int):=rfl
theorem M8(l:List Mv)(hl:l.length<=9223372036854775807):∃b,ic l=some b/\(b=false->l.length<=60):=by
 unfold ic;by_cases Hz:60<l.length
 ·exact⟨true,aA Y<|aA (dT (by omega))<|dO Y Y,by simp⟩
 have step:∃r,(cI (λ(tF:Int×(List Qr))=>match tF with|⟨oS,yy⟩=>(show Option ((Int×(List Qr))⊕((Unit)⊕(Bool)))from(some (l.length:Int)).bind λgO=>(some (decide ((oS:Int)<gO))).bind λkI=>(bif kI then(c7 l oS).bind λ⟨kq,ku,Ao,⟨⟨qe,xj⟩,⟨xk,xl⟩⟩⟩=>(vY 64 yy [⟨⟨qe,xj⟩,⟨xk,xl⟩⟩]).bind λiU=>cW (λ(vr:Bool)=>cW (λ(qf:(List Qr))=>(some (IntKind.i64.wrap (oS+1))).bind λiv=>some (.inl (iv,qf))) λPx=>(bif vr then(eC [iU]).bind λjX=>(bif jX then some (.inr (.inr true))else Px [])else Px iU)) λYA=>(some (Int.tmod oS 40)).bind λjd=>(some (decide ((jd:Int)=39))).bind λeK=>(bif eK then some true else(some (l.length:Int)).bind λlB=>(some (IntKind.i64.wrap (lB-1))).bind λgz=>(some (decide ((oS:Int)=gz))).bind λoE=>some oE).bind λyz=>YA yz else some (.inr (.inl ()))))) (0,[])).bind (λDh=>match Dh with|.inr YB=>some YB|.inl _=>some false)=some r/\True:=by
  refine jv (λs=>∃(i:Nat) (r:List Qr),s=((i:Int),r)/\i<=l.length/\r.length<=i) (λ_=>True) (λs=>l.length-s.1.toNat) ?_ ⟨0,[],Y,by omega,by simp⟩ ?_
  ·rintro _ ⟨i,r,rfl,hi,hr⟩;by_cases hlt:i<l.length
   ·have g:=List.getElem?_eq_getElem hlt;generalize l[i]=m at g;obtain⟨acc,kd,hour,q⟩:=m;have ap:=BJ (b:=64) (l:=r) (x:=q) (by decide) (by omega);obtain⟨t,ht,-⟩:=M3 [r++[q]] (by simp);have fin:∀(c:Bool),((bif c then(eC [r++[q]]).bind λjX=>(bif jX then some (.inr (.inr true))else(some (IntKind.i64.wrap ((i:Int)+1))).bind λiv=>some (.inl (iv,[])))else(some (IntKind.i64.wrap ((i:Int)+1))).bind λiv=>some (.inl (iv,r++[q]))):Option ((Int×(List Qr))⊕((Unit)⊕(Bool))))=some (.inr (.inr true))\/∃r2:List Qr,r2.length<=i+1/\((bif c then(eC [r++[q]]).bind λjX=>(bif jX then some (.inr (.inr true))else(some (IntKind.i64.wrap ((i:Int)+1))).bind λiv=>some (.inl (iv,[])))else(some (IntKind.i64.wrap ((i:Int)+1))).bind λiv=>some (.inl (iv,r++[q]))):Option ((Int×(List Qr))⊕((Unit)⊕(Bool))))=some (.inl (((i+1:Nat):Int),r2)):=by
     intro c;cases c
     ·exact .inr ⟨r++[q],by simp;omega,cE Y<|aA (congrArg some (cC (by omega))) Y⟩
     cases t
     ·exact .inr ⟨[],by simp,dO Y<|aA ht<|cE Y<|aA (congrArg some (cC (by omega))) Y⟩
     exact .inl (dO Y<|aA ht<|dO Y Y)
    have cond:∃c:Bool,((bif decide (((i%40:Nat):Int)=39)then some true else(some (l.length:Int)).bind λlB=>(some (IntKind.i64.wrap (lB-1))).bind λgz=>(some (decide ((i:Int)=gz))).bind λoE=>some oE):Option Bool)=some c:=by
     cases decide (((i%40:Nat):Int)=39)
     ·exact⟨_,Y⟩
     exact⟨_,Y⟩
    obtain⟨c,hc⟩:=cond;rcases fin c with h|⟨r2,h2,h⟩
    ·exact .inr ⟨.inr true,aA Y<|aA (dT (by omega))<|dO Y<|aA (bF g)<|aA ap<|eN<|aA (congrArg some (Gy i))<|aA Y<|aA hc h,aq⟩
    exact .inl ⟨_,aA Y<|aA (dT (by omega))<|dO Y<|aA (bF g)<|aA ap<|eN<|aA (congrArg some (Gy i))<|aA Y<|aA hc h,⟨i+1,r2,Y,hlt,h2⟩,by simp only[Int.toNat_natCast];omega⟩
   exact .inr ⟨.inl (),aA Y<|aA (dF (by omega))<|cE Y Y,aq⟩
  rintro e-;cases e
  ·exact⟨false,Y,aq⟩
  exact⟨_,Y,aq⟩
 obtain⟨r,hr,-⟩:=step;exact⟨r,aA Y<|aA (dF (by omega))<|cE Y hr,λ_=>by omega⟩
end
section
open Go.Fw
def gw(h:Nat->Int)(n:Nat):Int:=((List.range n).map h).sum
theorem iK(h:Nat->Int)(n:Nat):gw h (n+1)=gw h n+h n:=by simp[gw,List.range_succ]
theorem AR(h k:Nat->Int):∀n,gw (λi=>h i+k i) n=gw h n+gw k n
 |0=>rfl
 |n+1=>by rw[iK,iK,iK,AR h k n];omega
theorem BP{h k:Nat->Int}(e:∀i,h i=k i)(n:Nat):gw h n=gw k n:=by rw[show h=k from funext e]
theorem xG:∀n,gw (λ_=>0) n=0
 |0=>rfl
 |n+1=>by rw[iK,xG n];rfl
theorem AT{K:Nat}{h:Nat->Int}{n:Nat}(hf:∀i,Fit K (h i))(hn:n<=1000000):Fit (K+1) (gw h n):=
 CU (λc hc=>by obtain⟨i,_,rfl⟩:=List.mem_map.1 hc;exact hf i) (by simp;omega)
theorem iL(f:En->Int)(e:En)(l:List En):b8 f (e::l)=f e+b8 f l:=by simp[b8]
theorem l7{f g:En->Int}:∀{l:List En},(∀e∈l,f e=g e)->b8 f l=b8 g l
 |[],_=>rfl
 |e::l,h=>by rw[iL,iL,h e (by simp),l7 (λe he=>h e (by simp[he]))]
theorem AU(f:En->Int):∀l:List En,b8 (λe=>-f e) l=-b8 f l
 |[]=>rfl
 |e::l=>by rw[iL,iL,AU f l];omega
theorem vL(h:Nat->En->Int)(n:Nat):∀es:List En,gw (λi=>b8 (h i) es) n=b8 (λe=>gw (λi=>h i e) n) es
 |[]=>by show gw (λ_=>0) n=0;exact xG n
 |e::es=>by
  rw[iL,<-vL h n es,<-AR];exact BP (λi=>iL _ _ _) n
theorem DQ{f:En->Int}{l:List En}(h:∀e∈l,f e=0):b8 f l=0:=by
 rw[l7 (g:=λ_=>0) h]
 induction l with
 |nil=>rfl
 |cons e l ih=>rw[iL,ih (λe he=>h e (by simp[he]))];rfl
theorem CY{a:Nat}{u v:Int}(ha:1<=a):∀m,gw (λi=>if(i:Int)=0 then u else if(a:Int)=(i:Int)then v else 0) m=(if 0<m then u else 0)+(if a<m then v else 0)
 |0=>by simp[gw]
 |m+1=>by
  rw[iK,CY ha m];by_cases h0:m=0
  ·subst h0;simp[show ¬a<1 by omega]
  by_cases h1:a=m
  ·subst h1;simp[show 0<a by omega,show ¬a=0 by omega]
  have e:(if a<m+1 then v else 0)=if a<m then v else 0:=by
   by_cases h2:a<m
   ·rw[if_pos h2,if_pos (by omega)]
   rw[if_neg h2,if_neg (by omega)]
  rw[if_neg (show ¬(m:Int)=0 by omega),if_neg (show ¬(a:Int)=(m:Int) by omega),e,if_pos (show 0<m by omega),if_pos (show 0<m+1 by omega)];omega
theorem Gz{n:Nat}{K:Nat}{es:List En}(he:∀e∈es,sZ n K e):gw (λi=>b8 (eo (i:Int)) es) n=0:=by
 rw[vL (λi=>eo (i:Int))];refine DQ (λe hm=>?_);have ho:=he e hm;obtain⟨a,ha⟩:∃a:Nat,e.acc=(a:Int):=⟨e.acc.toNat,by have:=ho.a;omega⟩;have h1:1<=a:=by have:=ho.a;omega
 have h2:a<n:=by have:=ho.b;omega
 have:=CY (u:=-zi e.g9) (v:=zi e.g9) h1 n;rw[if_pos (show 0<n by omega),if_pos h2]at this;unfold eo;rw[ha,this];omega
theorem DR{n:Int}{K:Nat}{es:List En}(he:∀e∈es,sZ n K e):gw (λj=>b8 (tc (j+1)) es) 4=-b8 (eo 0) es:=by
 rw[vL (λj=>tc (j+1)),<-AU];refine l7 (λe hm=>?_);have⟨h1,h2⟩:=(he e hm).k;unfold eo tc;rw[if_pos rfl];have h4:e.kd=1\/e.kd=2\/e.kd=3\/e.kd=4:=by omega
 rcases h4 with h|h|h|h<;>rw[h]<;>simp[gw,List.range_succ]
def rM(i:Int)(e:En):Int:=if e.acc=i then zi e.g9 else 0
theorem AW{n:Int}{K:Nat}{e:En}(h:sZ n K e)(i:Int):Fit K (rM i e):=by
 unfold rM;split
 ·exact h.f
 exact M6
theorem IP{i:Int}(h:i≠0)(e:En):rM i e=eo i e:=by unfold rM eo;rw[if_neg h]
theorem wG(x0:Nat)(l:List Mv)(h0:x0<256)(ol:l.length*88<=140737488351232/\∀m∈l,Td m):eM x0 l=some true:=by
 obtain⟨t,ht,hl⟩:=M8 l (by have:=ol.1;omega);have hr:=ZJ ol.2;unfold eM;refine eN<|aA ht<|orC (c:=false) (λ_=>aA vK Y) ?_;cases t
 case true=>exact dO Y<|aA vK Y
 have Hz:=hl Y;have md:=made_eq h0 (show l.length<=1024 by omega) hr;have ok:=Te (n:=((1+x0%64:Nat):Int)) (show l.length<=1024 by omega) hr;have len:=Gx (n:=((1+x0%64:Nat):Int)) (show l.length<=1024 by omega);have tm:Int.tmod ((x0:Nat):Int) 64=((x0%64:Nat):Int):=rfl;have t2:IntKind.i64.wrap (1+((x0%64:Nat):Int))=((1+x0%64:Nat):Int):=by rw[ep (by omega) (by omega)];simp
 obtain⟨n,hn⟩:∃n,1+x0%64=n:=⟨_,Y⟩;rw[hn]at md ok len t2;generalize mk (n:Int) l=es at*;have n1:0<n:=by omega
 have n2:n<=64:=by omega
 have al:=all_eq n1 n2 ok (by omega) (by decide);have en:=entries_eq n1 ok (by omega) (by decide);have gl:=jS n es;have gg:∀i,i<n->(qw n es)[i]? =some (zn (b8 (eo (i:Int)) es)):=λi hi=>ir es hi;have bf:∀i:Int,Fit (35184372087809+1) (b8 (eo i) es):=λi=>qt (λe he=>vJ (ok e he) i) (by omega);have kf:∀i:Nat,Fit (35184372087809+1) (b8 (tc i) es):=λi=>qt (λe he=>CV (ok e he) i) (by omega);have zs:=Gz ok;have ks:=DR ok;have by':=λk=>KH n1 ok (show es.length<=1000000 by omega) (show 35184372087809<=35184372088508 by decide) k;refine cE Y<|aA md<|aA al<|aA en ?_;generalize qw n es=qs at*;refine b9 (λk=>((k:Int),(zn (gw (λi=>b8 (eo (i:Int)) es) k)).neg,(zn (gw (λi=>b8 (eo (i:Int)) es) k)).w)) n (.inl ((zn (gw (λi=>b8 (eo (i:Int)) es) n)).neg,(zn (gw (λi=>b8 (eo (i:Int)) es) n)).w)) Y (λk hk=>?_) ?_ ?_
 ·have g:=gg k hk;have sf:Fit (35184372087809+1+1) (gw (λi=>b8 (eo (i:Int)) es) k):=AT (λi=>bf i) (by omega);have a1:=add_eq (dy sf (by decide)) (dy (bf k) (by decide));rw[bZ,bZ,<-iK (λi=>b8 (eo (i:Int)) es)]at a1;generalize gw (λi=>b8 (eo (i:Int)) es) k=s1 at*;generalize gw (λi=>b8 (eo (i:Int)) es) (k+1)=s2 at*;generalize BX:zn s1=z1 at*;generalize zn s2=z2 at*;have same:0<k->dB (zn (b8 (rM (k:Int)) es)) (zn (b8 (eo (k:Int)) es))=some true:=λh=>xE (K:=35184372087809+1) (qt (λe he=>AW (ok e he) _) (by omega)) (by decide) (l7 (λe _=>IP (by omega) e));generalize zn (b8 (eo (k:Int)) es)=z3 at*;refine aA Y<|aA (dT (by omega))<|dO Y<|aA (bF g)<|aA a1 ?_;refine b9 (λj=>((j:Int),(zn (b8 (rM (k:Int)) (es.take j))).neg,(zn (b8 (rM (k:Int)) (es.take j))).w)) es.length ((zn (b8 (rM (k:Int)) es)).neg,(zn (b8 (rM (k:Int)) es)).w) Y (λj hj=>?_) ?_ ?_
  ·have g2:=List.getElem?_eq_getElem hj;have ho:=ok _ (List.getElem_mem hj);have f1:Fit (35184372087809+1) (b8 (rM (k:Int)) (es.take j)):=qu (λe h=>AW (ok e h) _) j (by omega);have a2:=add_eq (dy f1 (by decide)) (dy ho.f (by decide));rw[bZ,bZ,<-ho.z]at a2;rw[rL _ hj];have Ta:rM (k:Int) es[j]=if es[j].acc=(k:Int)then zi es[j].g9 else 0:=rfl;rw[Ta];generalize b8 (rM (k:Int)) (es.take j)=s at*;clear f1 ho Ta same;generalize es[j]=e at*;obtain⟨acc,kd,hour,c⟩:=e;refine aA Y<|aA (dT (by omega))<|dO Y<|aA (bF g2)<|aA Y<|eN ?_;by_cases h:acc=(k:Int)
   ·rw[if_pos h];refine dO (decide_eq_true h) ?_;generalize zn (s+zi c)=z5 at*;generalize zn s=z4 at*;exact aA (bF g2)<|aA a2<|aA (congrArg some (cC (by omega))) Y
   rw[if_neg h,Int.add_zero];exact cE (decide_eq_false h)<|aA (congrArg some (cC (by omega))) Y
  ·rw[List.take_length];exact aA Y<|aA (dF (by omega))<|cE Y Y
  refine eN ?_;by_cases hk0:0<k
  ·have sm:=same hk0;generalize zn (b8 (rM (k:Int)) es)=z6 at*;exact aA (dT (by omega))<|aA (a:=false) (dO Y<|aA (bF g)<|aA sm<|aA Y Y)<|cE Y<|aA (congrArg some (cC (by omega))) Y
  exact aA (dF (by omega))<|aA (a:=false) (cE Y Y)<|cE Y<|aA (congrArg some (cC (by omega))) Y
 ·exact aA Y<|aA (dF (by omega))<|cE Y Y
 rw[zs];refine b9 (λk=>(k+1,(zn (gw (λj=>b8 (tc (j+1)) es) k)).neg,(zn (gw (λj=>b8 (tc (j+1)) es) k)).w)) 4 ((zn (gw (λj=>b8 (tc (j+1)) es) 4)).neg,(zn (gw (λj=>b8 (tc (j+1)) es) 4)).w) Y (λk hk=>?_) ?_ ?_
 ·have sf:Fit (35184372087809+1+1) (gw (λj=>b8 (tc (j+1)) es) k):=AT (λi=>kf (i+1)) (by omega);have a1:=add_eq (dy sf (by decide)) (dy (kf (k+1)) (by decide));rw[bZ,bZ,<-iK (λj=>b8 (tc (j+1)) es)]at a1;have b1:=by' (k+1);have hm:(k+1+1)%256=k+1+1:=by omega
  generalize gw (λj=>b8 (tc (j+1)) es) k=s1 at*;generalize gw (λj=>b8 (tc (j+1)) es) (k+1)=s2 at*;generalize zn s1=z1 at*;generalize zn s2=z2 at*;generalize zn (b8 (tc (k+1)) es)=z3 at*;exact aA (dT (by omega))<|dO Y<|aA b1<|aA a1<|aA (congrArg some hm) Y
 ·exact aA (dF (by decide))<|cE Y Y
 rw[ks];have ng:=neg_eq (dy (bf 0).neg (by decide));rw[bZ,Int.neg_neg]at ng;have g0:=gg 0 n1;have sm:=xE (bf 0) (by decide) Y;have i0:=fY (n:=0) (by decide);replace g0:qs[0]? =some (zn (b8 (eo 0) es)):=g0;generalize zn (b8 (eo 0) es)=z1 at*;generalize zn (-b8 (eo 0) es)=z2 at*;generalize zn 0=z3 at*;exact eN<|aA Y<|aA (congrArg some (kz (by omega)))<|aA (congrArg some tm)<|aA (congrArg some t2)<|aA (dT (by omega))<|nu (aA i0 Y)<|nu (aA ng<|aA (k8 g0)<|aA sm Y) Y
end
section
open Go.Fw Go.RowKit Go.ChangeShapes Go.WideShapes Go.ChangeAt
set_option linter.unusedVariables false
set_option maxRecDepth 100000 in
theorem nx(H:Type)(enc:TypeId×Value->H)(W:World)(base:Nat)(args:Array Value)(ds gs:List (DataW H))(before:List MemPlace)
  (hval:∀(j:Nat) t v,Try.f4.params[j]? =some t->args[j]? =some v->Value.okWide ah W .any base t v)
  (hW:DataW.Whole enc ah Try.f4.params.toList Rows.bookZeroSumSpec.vars false W args.toList ds gs before) (hz:(DataW.weightsEach ah (Try.f4.params.toList++Rows.bookZeroSumSpec.plain.varTypes ah) (ds++gs)).all (· <=reachBytes)=true):
  Calls ah 4 args W λe W'=>∃v,e=.returned v/\Rows.bookZeroSumSpec.post enc ah Try.f4 false true false false W args v W':=by
 have hW':=hW;obtain⟨p,q,SU,hV,rfl,hfz,hnd⟩:=hW;have hA:DataW.TrodAll enc ah W 0 (λ_=>true) true Try.f4.params.toList args.toList ds p:=SU;rw[Try.params4]at hA hval hz;obtain⟨v0,GB,d0,ds0,p0,q0,hargs,rfl,rfl,h0,r0⟩:=trodAll_cons hA;obtain⟨v1,vs1,d1,ds1,p1,q1,rfl,rfl,rfl,h1,r1⟩:=trodAll_cons r0;obtain⟨rfl,rfl,rfl⟩:=trodAll_nil r1;obtain rfl:args=#[v0,v1]:=by cases args;simp_all
 obtain⟨rfl,rfl⟩:=trodVars_none hV;have lt0:∀x∈p0,x.block<W.heap.size:=by obtain⟨m,hm⟩:=h0;exact DataW.trod_lt m _ _ _ hm
 obtain⟨x0,ok0,sz0,al0⟩:=Cc (P:=ah) (T:=5) (e:=VG) (hval 0 5 v0 Y Y) h0 (mL (t:=5) (d:=d0) 0 hz Y Y);have lt1:∀x∈p1,x.block<W.heap.size:=by obtain⟨m,hm⟩:=h1;exact DataW.trod_lt m _ _ _ hm
 obtain⟨x1,UY,sz1,al1⟩:=Cc (P:=ah) (T:=33) (e:=(eS 7 EC)) (hval 1 33 v1 Y Y) h1 (mL (t:=33) (d:=d1) 1 hz Y Y);clear SU;refine(Hs (nj (wG x0 x1 ok0 UY)) (W:=W) (vs:=[v0,v1]) ⟨al0.1,al1.1,aq⟩).mono λe W' ⟨he,ZK⟩=>?_;subst he;exact⟨_,rfl,_,_,_,[],_,[],hW',trodAll_mk1 (shut_bool Try.underlying4 _),(trodAll_cons_mk (Below.trod zE (by kernel_rfl) (of_decide_eq_true (by kernel_rfl)) h0 ZK lt0) (trodAll_cons_mk (Below.trod zE (by kernel_rfl) (of_decide_eq_true (by kernel_rfl)) h1 ZK lt1) trodAll_mk0)),rfl,ZK.frame _,λh=>by cases h⟩
set_option maxRecDepth 100000 in
theorem oW(os:Os)(started:os.Started)(H:Type)(enc:TypeId×Value->H):
  ReturnsInHanded {} Try.checked os 4 .any (Rows.bookZeroSumSpec.pre6 enc ah Try.f4 Rows.bookZeroSumRow.domain false) (Rows.bookZeroSumSpec.post enc ah Try.f4 false true false false):=by
 refine returnsInHanded_of_change_sized (C:=Try.checked) VU started (by kernel_rfl) Try.func4
  (ChangeSpec.witness6 (enc:=enc) (C:=Try.checked) false ⟨#[],#[.int .u8 0,.slice none 0 0],[]⟩ 8 (by kernel_rfl) (by kernel_rfl) (by kernel_rfl) (by kernel_rfl)) ?_
 intro W base args ds gs before hval hW _ hz _;exact nx H enc W base args ds gs before hval hW hz
theorem bookZeroSum_holds:Rows.BookZeroSumSaid:=
 OpenClaim.holds_of_wide 4 Try.f4 Y Y Y Y Y Y Y ⟨Y,Y,Y,Y,Y⟩ Y Y Y Y Y (by kernel_rfl) Try.func4 (by kernel_rfl)
  (of_decide_eq_true (by kernel_rfl)) (by unfold Func.isWrapper;first|(rw[if_pos (by decide+kernel)];kernel_rfl)|(rw[if_neg (by decide+kernel)];exact⟨Y,Y⟩))
  (λos started H enc _=>oW os started H enc)
end
end Go.Proofs.Ytmiflmkdaeianaa
