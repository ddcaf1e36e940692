/- A part of the proof: the framework, the plain functions, the followed functions, the plain laws. -/
import Derived.Test.YtmiflmkdaeianaaPBI1
set_option linter.unusedVariables false
set_option linter.unusedSimpArgs false
namespace Go.Fw
open Go.RowKit
theorem IC{a:Nat}:IntKind.u64.wrap (a:Int)=((a%18446744073709551616:Nat):Int):=by
 simp[IntKind.wrap,IntKind.signed,IntKind.bits]
section steps
variable {P:Program}{C:Ctx}{ops:Array Oper}{S:AS}{nd:Bool}{K:List Ac→AS→Prop}{rest:List Oper}{acc:List Ac}
variable {gd:Option (Nat×Bool)}{rg:List Nat}{d:Nat}{ty:TypeId}{pos:String}{aft:Array Edge}{x y z:Operand}{T U E0 E1:TypeId}
theorem RT.Kj{R:AS→Prop}(hg:Gd ops S gd rg){n:Nat}[tS:cK P T E0 n]{s:SV}{rows:List (List SV)}[hs:Io s n rows]{n' c':Nat}(hx:S.ev x=.sv s)(hd:d<S.n)
  (next:∀b:Bool,(b=true→rows=[])→RunT P C ops true (fun _ S=>R S) rest [] (S.set d (.sv (.v (.bool b))))):RunT P C ops true (fun _ S=>R S) (⟨some d,.binOp .eql T x (.const (.slice none n' c')) U,ty,pos,aft,gd⟩::rest) acc S:=by
 refine .inr ⟨rfl,fun S'=>∃b:Bool,(b=true→rows=[])∧S'=S.set d (.sv (.v (.bool b))),?_,?_⟩
 ·rintro i a w L Q ho ⟨E,h⟩ hL
  refine aX (C:=C) ho (hg.wanted h (fun _ _=>rfl) rfl) ?_
  have h1:=h.ev x
  rw[hx]at h1
  obtain⟨ad,n0,c0,hv,X0⟩:∃ad n0 c0,a.eval x=.slice ad n0 c0∧(ad.isNone=true→rows=[]):=by
   rcases hs.h _ _ h1 with⟨_,e,e2⟩|⟨b,o,c,e,_⟩
   ·exact⟨_,_,_,e,fun _=>e2⟩
   ·exact⟨_,_,_,e,fun h=>by cases h⟩
  have hrun:(execOp a.eval ⟨some d,.binOp .eql T x (.const (.slice none n' c')) U,ty,pos,aft,gd⟩).run P w=.ok (.value (.bool ad.isNone)) w:=by
   have e1:=Lib.run_eql_slice_nil (P:=P) w T E0 ad n0 c0 n' c' tS.u
   have e2:(eqGuard .eql T x (.const (.slice none n' c')) (.slice ad n0 c0) (.slice none n' c')).run P w=.ok () w:=by simp[eqGuard]
   have e0:a.eval (.const (.slice none n' c'))=.slice none n' c':=rfl
   simp only[execOp,hv,e0]
   simp only[Sem.run_bind,e2,e1,Result.andThen_ok,Sem.run_pure]
  exact aY (C:=C) (by intro c h;cases h) hrun (hL _ _ _ ⟨_,X0,rfl⟩ ⟨E,h.put (x:=.sv (.v (.bool ad.isNone))) rfl hd cS⟩)
 ·rintro S' ⟨b,hb,rfl⟩
  exact next b hb
theorem RT.field(hg:Gd ops S gd rg){f off:Nat}[hf:dR P T f off U][tV:bY P U]{cs:List SV}{s:SV}(hx:S.ev x=.sv (.agg cs))(hs:cs[off]? =some s)(hd:d<S.n)
  (next:RunT P C ops nd K rest (⟨rg++af x,[],[],⟨some (d,.sv s),[],[]⟩⟩::acc) (S.set d (.sv s))):RunT P C ops nd K (⟨some d,.field T x f,ty,pos,aft,gd⟩::rest) acc S:=
 RT.value hg (af x) [] [] (.sv s) hd (by intro c h;cases h) (fun S' ht _ _ E a w h=>by
  have h1:=h.ev x
  rw[az (fun _ h=>h) ht,hx]at h1
  obtain⟨vs,hv,hall⟩:=h1
  obtain⟨u,hu,hs⟩:=hall.get hs
  refine⟨u,?_,hs,cS⟩
  have hF:=hf.h
  cases hT:P.underlying T with
  |none=>rw[hT]at hF;cases hF
  |some ut=>
   rw[hT]at hF
   cases ut with
   |struct fs=>
    simp only at hF
    cases X1:fs[f]? with
    |none=>rw[X1]at hF;cases hF
    |some F=>
     rw[X1]at hF
     simp only[Option.map_some,Option.some.injEq,Prod.mk.injEq]at hF
     obtain⟨q1,q2⟩:=hF
     simp[execOp,Instr.field,underlying,hT,X1,hv,asAgg,part,q1,q2,tV.isAgg,hu]
   |_=>cases hF) next
end steps
theorem fI{S:AS}(s k:Nat)(E0:TypeId)(sz:Nat)(hs:S.t s=.sv (.v (.slice none 0 0)))(hk:S.r k=.un)(PW:k<1000):kK S ((AS.aH [(k,.live ⟨E0,sz,0,[]⟩)] S).set s (.row k)):=by
 rintro C a w ⟨E,h⟩
 have h1:=h.newRow hk PW [] none (.inl ⟨rfl,rfl⟩) (R':=⟨E0,sz,0,[]⟩) (World.ownsRow_nil w 0 E0 sz) (vs':=[]) trivial (.inl rfl) (jJ w none)
 refine⟨_,{h1 with wf:=?_,tm:=fun t=>?_}⟩
 ·refine⟨fun t j hj=>?_,fun t j hj=>?_,h1.wf.bb,h1.wf.br⟩
  ·by_cases e:t=s
   ·subst e;rw[AS.fk]at hj;exact hj.elim
   ·rw[AS.dW _ _ _ _ e]at hj;exact h1.wf.tb t j hj
  ·by_cases e:t=s
   ·subst e;rw[AS.fk]at hj;cases hj
    show(AS.kz S k _).r k≠_
    rw[AS.dX];simp
   ·rw[AS.dW _ _ _ _ e]at hj;exact h1.wf.tr t j hj
 ·by_cases e:t=s
  ·subst e
   rw[AS.fk]
   have:=h.tm t
   rw[hs]at this
   show a.tmps.getD t undef=if k=k then _ else _
   rw[if_pos rfl];exact this
  ·rw[AS.dW _ _ _ _ e];exact h1.tm t
theorem Mz{S:AS}(s:Nat)(X:SV)(hx:∀E v,(S.t s).holds E v→X.h E.M v):kK S (S.set s (.sv X)):=by
 rintro C a w ⟨E,h⟩
 refine⟨E,{h with wf:=?_,tm:=fun t=>?_}⟩
 ·refine⟨fun t j hj=>?_,fun t j hj=>?_,h.wf.bb,h.wf.br⟩
  ·by_cases e:t=s
   ·subst e;rw[AS.fk]at hj;exact hj.elim
   ·rw[AS.dW _ _ _ _ e]at hj;exact h.wf.tb t j hj
  ·by_cases e:t=s
   ·subst e;rw[AS.fk]at hj;exact hj.elim
   ·rw[AS.dW _ _ _ _ e]at hj;exact h.wf.tr t j hj
 ·by_cases e:t=s
  ·subst e;rw[AS.fk];exact hx E _ (h.tm t)
  ·rw[AS.dW _ _ _ _ e];exact h.tm t
theorem MA{g:FuncId}{caps:List SV}{E:Env}{v:Value}(h:(AV.dV g (caps.map lG.val)).holds E v):(uZ g caps).h E.M v:=by
 obtain⟨vs,rfl,h⟩:=h
 refine⟨vs,rfl,?_⟩
 have key:∀(l:List SV) (vs:List Value),tF E (l.map lG.val) vs→SV.cG E.M l vs:=by
  intro l
  induction l with
  |nil=>intro vs h;cases vs with|nil=>trivial|cons _ _=>exact h.elim
  |cons c l ih=>
   intro vs h
   cases vs with
   |nil=>exact h.elim
   |cons x xs=>exact⟨h.1,ih xs h.2⟩
 exact key caps vs h
def AV.rt(pb:List Nat):AV→Bool
 |.sv _=>true
 |.ptr i _=>pb.any (Nat.beq i)
 |.ya i _ _ _=>pb.any (Nat.beq i)
 |.dV _ js=>js.all fun c=>match c with|.box i=>pb.any (Nat.beq i)|.val _=>true
 |_=>false
theorem P1{pb:List Nat}{x:AV}(h:x.rt pb=true):(∀j,x.mb j→j∈pb)∧∀j,¬x.mr j:=by
 cases x<;>first|cases h|skip
 ·exact⟨fun j e=>e.elim,fun j e=>e⟩
 ·exact⟨fun j e=>by cases e;exact qo.1 h,fun j e=>e⟩
 ·exact⟨fun j e=>by cases e;exact qo.1 h,fun j e=>e⟩
 ·refine⟨fun j e=>?_,fun j e=>e⟩
  exact qo.1 (List.all_eq_true.1 h _ e)
theorem yq{n:Nat}{ts:List (Nat×AV)}{bs:List (Nat×iP)}{rs:List (Nat×Row)}{pb:List Nat}(h:(ts.all fun p=>p.2.rt pb)=true)(s:Nat):(∀j,((AS.cm n ts bs rs).t s).mb j→j∈pb)∧∀j,¬((AS.cm n ts bs rs).t s).mr j:=by
 show(∀j,(zS ts s).mb j→j∈pb)∧∀j,¬(zS ts s).mr j
 rcases nQ (ts:=ts) (s:=s)with e|⟨p,hp,_,e⟩
 ·rw[e];exact⟨fun j e=>e.elim,fun j e=>e⟩
 ·rw[e];exact P1 (List.all_eq_true.1 h p hp)
theorem yt{ps:List Nat}{n:Nat}(h:(ps.all fun p=>Nat.ble (p+1) n)=true):∀p∈ps,p<n:=fun p hp=>Nat.le_of_ble_eq_true (List.all_eq_true.1 h p hp)
end Go.Fw
namespace Go.Fw
open Go.RowKit
inductive Src (S:AS) (E0:TypeId) (n:Nat):Operand→List (Nat×gG)→List Nat→Nat→List SV→Prop
 |nil {x:Operand} (h:S.ev x=.sv (.v (.slice none 0 0))):Src S E0 n x [] [] 0 []
 |row {x:Operand} {i m:Nat} {cs:List SV} (h:S.ev x=.row i) (hR:S.r i=.live ⟨E0,n,m,cs⟩):Src S E0 n x [(i,.dead)] [i] m cs
theorem FH{i:Nat}{X:SV}{x:AV}(h:¬x.mr i):x.jo i X=x:=by
 cases x with
 |row k=>simp only[AV.jo];rw[bB (fun e=>h e.symm)];rfl
 |eK k o=>simp only[AV.jo];rw[bB (fun e=>h e.symm)];rfl
 |jg k o l=>simp only[AV.jo];rw[bB (fun e=>h e.symm)];rfl
 |cmp t js=>
  simp only[AV.jo]
  have:js.any (Fc.sy i)=false:=by
   cases e:js.any (Fc.sy i)with
   |false=>rfl
   |true=>
    obtain⟨c,hc,hi⟩:=List.any_eq_true.1 e
    cases c with
    |row j=>have hi:Nat.beq j i=true:=hi;obtain rfl:=Nat.eq_of_beq_eq_true hi;exact absurd hc h
    |_=>cases hi
  rw[this];rfl
 |_=>rfl
section steps
variable {P:Program}{C:Ctx}{ops:Array Oper}{S:AS}{nd:Bool}{K:List Ac→AS→Prop}{rest:List Oper}{acc:List Ac}
variable {gd:Option (Nat×Bool)}{rg:List Nat}{d:Nat}{ty:TypeId}{pos:String}{aft:Array Edge}{x y z:Operand}{T U E0:TypeId}
theorem Src.val{E:Env}{a:Act}{w:World}{S':AS}{n m:Nat}{old:List (Nat×gG)}{rr:List Nat}{cs:List SV}(h:ai C S' E a w)(hx:Src S E0 n x old rr m cs)(ht:∀s∈af x,S'.t s=S.t s)(hr:∀i∈rr,S'.r i=S.r i):
  (∃vs,w.ownsRow 0 E0 n (a.eval x) m vs∧SV.cG E.M cs vs)∧((old=[]∧(a.eval x).ownBlock=none)∨∃i R,old=[(i,.dead)]∧S'.r i=.live R∧(a.eval x).ownBlock=(E.ν i).ownBlock):=by
 cases hx with
 |nil hx=>
  have h1:a.eval x=.slice none 0 0:=by have h1:=h.ev x;rw[az (fun _ h=>h) ht,hx]at h1;exact h1
  rw[h1]
  exact⟨⟨[],World.ownsRow_nil _ _ _ _,trivial⟩,.inl ⟨rfl,rfl⟩⟩
 | @row i _ _ hx hR=>
  have h1:a.eval x=E.ν i:=by have h1:=h.ev x;rw[az (fun _ h=>h) ht,hx]at h1;exact h1
  have iQ:=(hr i (by simp)).trans hR
  rw[h1]
  obtain⟨⟨vs,h2,h3⟩,_⟩:=h.rx i _ iQ
  exact⟨⟨vs,h2,h3⟩,.inr ⟨i,_,rfl,iQ,rfl⟩⟩
theorem RT.CQ(hg:Gd ops S gd rg){n by_:Nat}{zv:Value}[tS:cK P T E0 n][tE:aB P E0 n by_ zv]{old:List (Nat×gG)}{rr:List Nat}{m:Nat}{cs:List SV}{s:SV}{rows:List (List SV)}[hs:Io s n rows]
  (hx:Src S E0 n x old rr m cs) (hy:S.ev y=.sv s) (hd:d<S.n) (qg:S.r d=.un) (oB:d<1000) (hroom:(m+rows.length)*by_≤140737488355328) (mX:m+rows.length≤140737488355328)
  (X:SV) {rows':List (List SV)} (hX:∀M v,(slc n rows').h M v→(∀g,v.ownBlock=some g→(C.w0.heap.size≤g∨C.mO g)∧∃o,M g o=some (.agg #[]))→X.h M v) (gZ:Rows n rows' (cs++rows.flatten)) (hlen:rows'.length=m+rows.length) (hone:∀M vs,SV.cG M (cs++rows.flatten) vs→∀v∈vs,v.oneCell'=true)
  (next:RunT P C ops nd K rest (⟨rg++(af x++af y),[],d::rr,⟨some (d,.sv X),[],old++[(d,.dead)]⟩⟩::acc) ((AS.aH (old++[(d,.dead)]) S).set d (.sv X))):RunT P C ops nd K (⟨some d,.call ⟨.builtin .append,#[x,y],#[T,T]⟩,ty,pos,aft,gd⟩::rest) acc S:=by
 refine .inl ⟨_,[],d::rr,_,?_,next⟩
 rintro S' hn ht _ hr i a w L Q ho ⟨E,h⟩ hL
 refine aX (C:=C) ho (hg.wanted h (fun s hs=>ht s (List.mem_append_left _ hs)) rfl) ?_
 obtain⟨⟨vs,hown,hvs⟩,hold⟩:=hx.val h (fun s hs=>ht s (List.mem_append_right _ (List.mem_append_left _ hs))) (fun i hi=>hr i (List.mem_cons_of_mem _ hi))
 have h2:=h.ev y
 rw[az (fun _ h=>List.mem_append_right _ (List.mem_append_right _ h)) ht,hy]at h2
 obtain⟨info,hi,hsz,hby,hz⟩:=aB.info (P:=P) (E:=E0) (n:=n) (by_:=by_) (z:=zv)
 have BI:S'.r d=.un:=by rw[hr d (by simp)];exact qg
 have run:∃v' w' vs',(Builtin.append_ #[T,T] ty #[a.eval x,a.eval y]).run P w=.ok v' w'∧w'.ownsRow 0 E0 n v' (m+rows.length) vs'∧SV.cG E.M (cs++rows.flatten) vs'∧w.grownBy w' (a.eval x).ownBlock∧(v'.ownBlock=(a.eval x).ownBlock∨v'.ownBlock=some w.heap.size∨v'.ownBlock=none):=by
  rcases hs.h _ _ h2 with⟨a0,e,e2⟩|⟨b,o,c,e,hc,BD,hrow⟩
  ·rw[e,e2]
   cases a0 with
   |none=>exact⟨_,_,vs,run_append_owned_none w 0 T ty E0 info n tS.u hi _ m vs hown,by simpa using hown,by simpa using hvs,⟨rfl,rfl,rfl,Nat.le_refl _,fun _ _ _=>rfl⟩,.inl rfl⟩
   |some a0=>
    rw[e2,List.length_nil]at hroom mX
    obtain⟨v',w',q1,q2,q3,_,q4⟩:=run_append_own_at (P:=P) w 0 T ty E0 info zv n by_ tS.u hi hz hsz hby tE.z tE.p _ m vs hown a0 0 0 [] (by simp) (by simp) (by simp) (by unfold maxLen;omega) hroom (Nat.zero_le _)
    exact⟨v',w',vs,q1,by simpa using q2,by simpa using hvs,q3,q4.imp id .inl⟩
  ·obtain⟨us,g1,g2,g3,g4⟩:=uW rows o hrow
   rw[e]
   obtain⟨v',w',q1,q2,q3,_,q4⟩:=run_append_own_at (P:=P) w 0 T ty E0 info zv n by_ tS.u hi hz hsz hby tE.z tE.p _ m vs hown ⟨b,o,none⟩ rows.length c us g2 (fun j u hj=>by rw[dM];exact(h.bu _ _ _ (g4 j u hj)).cell (g3 u (List.mem_of_getElem? hj))) g3 (by unfold maxLen;omega) hroom (Nat.zero_le _)
   exact⟨v',w',vs++us,q1,q2,SV.cG.append hvs g1,q3,q4.imp id .inl⟩
 obtain⟨v',w',vs',q1,q2,q3,q4,q5⟩:=run
 have hr':(execOp a.eval ⟨some d,.call ⟨.builtin .append,#[x,y],#[T,T]⟩,ty,pos,aft,gd⟩).run P w=.ok (.value v') w':=by
  simp[execOp,resolve,invoke,builtin,q1]
 have CR:∀(l:List (Nat×gG)) (R:gG) (j:Nat),b9 (l++[(d,R)]) j=if j=d then some R else b9 l j:=by
  intro l R j
  induction l with
  |nil=>rfl
  |cons p l ih=>
   obtain⟨i,R'⟩:=p
   rw[List.cons_append,b9,b9,ih]
   by_cases e:j=d
   ·simp[e]
   ·simp[e]
 have h3:=(h.newRow BI oB old (a.eval x).ownBlock hold (R':=⟨E0,n,m+rows.length,cs++rows.flatten⟩) q2 q3 q5 q4).put (d:=d) (x:=.row d) (v:=v') (by simp[AV.holds]) (by rw[(cu _ _).1];omega) ⟨fun _ e=>e.elim,fun j e=>by
  cases e
  rw[fE,CR];simp⟩
 have hRd:(AS.set (AS.aH (old++[(d,gG.live ⟨E0,n,m+rows.length,cs++rows.flatten⟩)]) S') d (.row d)).r d=.live ⟨E0,n,m+rows.length,cs++rows.flatten⟩:=by
  show(AS.aH _ S').r d=_
  rw[fE,CR];simp
 obtain⟨E',h4⟩:=h3.jo hRd gZ hlen (Nat.le_trans mX (by decide)) hone hX
 have e:(AS.set (AS.aH (old++[(d,gG.live ⟨E0,n,m+rows.length,cs++rows.flatten⟩)]) S') d (.row d)).jo d X=S'.app ⟨some (d,.sv X),[],old++[(d,.dead)]⟩:=by
  have n1:=cu (old++[(d,gG.live ⟨E0,n,m+rows.length,cs++rows.flatten⟩)]) S'
  have n2:=cu (old++[(d,gG.dead)]) S'
  refine AS.ext' ?_ (fun t=>?_) (fun j=>?_) (fun j=>?_) ?_ ?_
  ·show(AS.aH _ S').n=(AS.aH _ S').n
   rw[n1.1,n2.1]
  ·rw[AS.E7]
   show((AS.set (AS.aH _ S') d (.row d)).t t).jo d X=_
   by_cases e:t=d
   ·subst e;rw[AS.fk];simp[AV.jo,wT]
   ·rw[AS.dW _ _ _ _ e,n1.2.1,FH (fun hm=>h.wf.tr t d hm BI)];simp[wT,e]
  ·rw[AS.E8]
   show((AS.aH _ S').b j).map _=_
   rw[n1.2.2.1]
   simp only[mP,Option.getD_none]
   cases hb:S'.b j with
   |none=>rfl
   |some B=>
    rw[Option.map_some]
    have:B.cells.map (AV.jo d X)=B.cells:=by
     conv=>rhs;rw[←List.map_id B.cells]
     exact List.map_congr_left fun c hc=>FH (fun hm=>h.wf.br j B hb c hc d hm BI)
    rw[this]
  ·rw[AS.E9]
   show(bif Nat.beq j d then gG.dead else(AS.aH _ S').r j)=_
   rw[fE,CR,CR]
   by_cases e:j=d
   ·subst e;simp
   ·simp[bB e,e]
  ·rw[(AS.CI _ _).1];exact n1.2.2.2.1
  ·rw[(AS.CI _ _).2];exact n1.2.2.2.2
 exact aY (C:=C) (by intro c h;cases h) hr' (hL _ _ ⟨E',e▸h4⟩)
end steps
end Go.Fw
namespace Go.Fw
open Go.RowKit
def cz{J R:Type}(k:J→Option R)(f:(J→Option R)→Option R):Option R:=f k
theorem bind_some{α β:Type}{x:Option α}{f:α→Option β}{r:β}(h:Option.bind x f=some r):∃a,x=some a∧f a=some r:=by
 cases x with
 |none=>cases h
 |some a=>exact⟨a,rfl,h⟩
theorem sk{b w:Bool}(h:(b==w)=false):b≠w:=by cases b<;>cases w<;>simp_all
def bJ{α:Type}(l:List α)(i:Int):Option α:=if 0≤i then l[i.toNat]? else none
def pY{α:Type}(l:List α)(i:Int):Option Nat:=if 0≤i∧i<l.length then some i.toNat else none
def yu{α:Type}(l:List α)(lo hi:Int):Option (List α):=if 0≤lo∧lo≤hi∧hi≤l.length then some (cut l lo.toNat hi.toNat)else none
def wH{α:Type}(by_:Nat)(l k:List α):Option (List α):=if(l.length+k.length)*by_≤140737488355328∧l.length+k.length≤140737488355328 then some (l++k)else none
def EY{α:Type}(by_:Nat)(c:Int)(z:α):Option (List α):=if 0≤c∧by_*c≤281474976710656∧c≤140737488355328 then some (List.replicate c.toNat z)else none
def ID{α:Type}(by_:Nat)(c:Int):Option (List α):=if 0≤c∧by_*c≤281474976710656∧c≤140737488355328 then some []else none
def stM{α:Type}(l:List α)(n:Nat)(y:α):Option (List α):=if n<l.length then some (l.set n y)else none
def qp(a b:Int):Option Int:=if b=0 then none else some (IntKind.i64.wrap (a.tdiv b))
def D8(a b:Int):Option Int:=if b=0 then none else some (a.tmod b)
def yw(M a b:Nat):Option Nat:=if b=0 then none else some (a/b%M)
def wQ(a b:Nat):Option Nat:=if b=0 then none else some (a%b)
def j0(M a b:Nat):Nat:=(((a:Int)-b)%M).toNat
theorem kM{α:Type}{l:List α}{i:Int}{a:α}(h:bJ l i=some a):0≤i∧l[i.toNat]? =some a:=by
 unfold bJ at h;split at h
 ·exact⟨by assumption,h⟩
 ·cases h
theorem FI{α:Type}{l:List α}{i:Int}{k:Nat}(h:pY l i=some k):0≤i∧i<l.length∧i.toNat=k:=by
 unfold pY at h;split at h
 ·rename_i hh;exact⟨hh.1,hh.2,Option.some.inj h⟩
 ·cases h
theorem xk{α:Type}{l l':List α}{a b:Int}(h:yu l a b=some l'):0≤a∧a≤b∧b≤l.length∧cut l a.toNat b.toNat=l':=by
 unfold yu at h;split at h
 ·rename_i hh;exact⟨hh.1,hh.2.1,hh.2.2,Option.some.inj h⟩
 ·cases h
theorem mZ{α:Type}{by_:Nat}{l k l':List α}(h:wH by_ l k=some l'):(l.length+k.length)*by_≤140737488355328∧l.length+k.length≤140737488355328∧l++k=l':=by
 unfold wH at h;split at h
 ·rename_i hh;exact⟨hh.1,hh.2,Option.some.inj h⟩
 ·cases h
theorem FJ{α:Type}{by_:Nat}{c:Int}{z:α}{l':List α}(h:EY by_ c z=some l'):0≤c∧by_*c≤281474976710656∧c≤140737488355328∧List.replicate c.toNat z=l':=by
 unfold EY at h;split at h
 ·rename_i hh;exact⟨hh.1,hh.2.1,hh.2.2,Option.some.inj h⟩
 ·cases h
theorem FK{α:Type}{by_:Nat}{c:Int}{l':List α}(h:ID by_ c=some l'):0≤c∧by_*c≤281474976710656∧c≤140737488355328∧[]=l':=by
 unfold ID at h;split at h
 ·rename_i hh;exact⟨hh.1,hh.2.1,hh.2.2,Option.some.inj h⟩
 ·cases h
theorem z8{α:Type}{l l':List α}{n:Nat}{y:α}(h:stM l n y=some l'):n<l.length∧l.set n y=l':=by
 unfold stM at h;split at h
 ·rename_i hh;exact⟨hh,Option.some.inj h⟩
 ·cases h
def jr{S E:Type}(body:S→Option (S⊕E)):Nat→S→Option E
 |0,_=>none
 |n+1,s=>match body s with
  |some (.inl s')=>jr body n s'
  |some (.inr e)=>some e
  |none=>none
theorem oY{S E:Type}{body:S→Option (S⊕E)}:∀{n m:Nat} {s:S} {e:E},n≤m→jr body n s=some e→jr body m s=some e
 |0,_,_,_,_,h=>by cases h
 |n+1,0,_,_,hm,_=>by omega
 |n+1,m+1,s,e,hm,h=>by
  unfold jr at h⊢
  cases hb:body s with
  |none=>rw[hb]at h;cases h
  |some y=>
   rw[hb]at h
   cases y with
   |inl s'=>exact oY (by omega) h
   |inr e'=>exact h
open Classical in
noncomputable def bR{S E:Type}(body:S→Option (S⊕E))(s:S):Option E:=if h:∃n e,jr body n s=some e then some (Classical.choose (Classical.choose_spec h))else none
theorem oZ{S E:Type}{body:S→Option (S⊕E)}{s:S}{e:E}(h:bR body s=some e):∃n,jr body n s=some e:=by
 unfold bR at h
 split at h
 ·rename_i hh
  exact⟨_,by rw[←Option.some.inj h];exact Classical.choose_spec (Classical.choose_spec hh)⟩
 ·cases h
theorem vn{S E:Type}{body:S→Option (S⊕E)}{s:S}{e:E}{n:Nat}(h:jr body n s=some e):bR body s=some e:=by
 have hh:∃n e,jr body n s=some e:=⟨n,e,h⟩
 unfold bR
 rw[dif_pos hh]
 have h2:=Classical.choose_spec (Classical.choose_spec hh)
 have h3:=oY (Nat.le_max_left n (Classical.choose hh)) h
 have h4:=oY (Nat.le_max_right n (Classical.choose hh)) h2
 rw[h3]at h4
 exact h4.symm
theorem o5{S E:Type}{body:S→Option (S⊕E)}{s:S}{e:E}(h:body s=some (.inr e)):bR body s=some e:=vn (n:=1) (by simp[jr,h])
theorem vo{S E:Type}{body:S→Option (S⊕E)}{s s':S}(h:body s=some (.inl s')):bR body s=bR body s':=by
 cases hl:bR body s' with
 |some e=>obtain⟨n,hn⟩:=oZ hl;exact vn (n:=n+1) (by simp[jr,h,hn])
 |none=>
  cases VJ:bR body s with
  |none=>rfl
  |some e=>
   obtain⟨n,hn⟩:=oZ VJ
   cases n with
   |zero=>cases hn
   |succ n=>simp only[jr,h]at hn;rw[vn hn]at hl;cases hl
theorem rM{S E:Type}{body:S→Option (S⊕E)}(I:S→Prop)(Post:E→Prop)(μ:S→Nat)
  (step:∀s,I s→(∃s',body s=some (.inl s')∧I s'∧μ s'<μ s)∨(∃e,body s=some (.inr e)∧Post e)) {s:S} (h:I s):∃e,bR body s=some e∧Post e:=by
 have key:∀(n:Nat) (s:S),μ s≤n→I s→∃e,bR body s=some e∧Post e:=by
  intro n
  induction n with
  |zero=>
   intro s hn hs
   rcases step s hs with⟨s',_,_,h3⟩|⟨e,h1,h2⟩
   ·omega
   ·exact⟨e,o5 h1,h2⟩
  |succ n ih=>
   intro s hn hs
   rcases step s hs with⟨s',h1,h2,h3⟩|⟨e,h1,h2⟩
   ·obtain⟨e,q1,q2⟩:=ih s' (by omega) h2
    exact⟨e,by rw[vo h1];exact q1,q2⟩
   ·exact⟨e,o5 h1,h2⟩
 exact key _ s (Nat.le_refl _) h
theorem FL{S E:Type}{body:S→Option (S⊕E)}(st:Nat→S)(n:Nat){e:E}(hs:∀k,k<n→body (st k)=some (.inl (st (k+1))))(he:body (st n)=some (.inr e)):bR body (st 0)=some e:=by
 have key:∀k,k≤n→bR body (st (n-k))=some e:=by
  intro k
  induction k with
  |zero=>intro _;exact o5 he
  |succ k ih=>
   intro hk
   rw[vo (hs (n-(k+1)) (by omega)),show n-(k+1)+1=n-k by omega]
   exact ih (by omega)
 have:=key n (Nat.le_refl _)
 rwa[Nat.sub_self]at this
theorem o6{p q:Int}{c:Bool}(h:decide (p=q)=c):(p==q)=c:=by rw[←h];exact Bool.beq_eq_decide_eq p q
theorem IE{p q:Int}{c:Bool}(h:decide (p≠q)=c):(p != q)=c:=by rw[←h,bne,Bool.beq_eq_decide_eq p q];simp
theorem MB{p q:Nat}{c:Bool}(h:decide (p=q)=c):((p:Int)==(q:Int))=c:=o6 (by rw[←h];simp[Int.natCast_inj])
theorem O7{p q:Nat}{c:Bool}(h:decide (p≠q)=c):((p:Int) != (q:Int))=c:=IE (by rw[←h];simp[Int.natCast_inj])
theorem O8{p q:Nat}{c:Bool}(h:decide (p<q)=c):decide ((p:Int)<(q:Int))=c:=by rw[←h];simp
theorem X2{p q:Nat}{c:Bool}(h:decide (p≤q)=c):decide ((p:Int)≤(q:Int))=c:=by rw[←h];simp
theorem P2{p q c:Int}(h:max p q=c):(if q>p then q else p)=c:=by rw[←h];split<;>omega
theorem P3{p q c:Int}(h:min p q=c):(if q<p then q else p)=c:=by rw[←h];split<;>omega
class UK (k:IntKind) (b:outParam Nat) (M:outParam Nat):Prop where
 w:∀x:Int,k.wrap x=x%M
 hb:k.bits=b
 hm:2^b=M
instance:UK .u8 8 256:=⟨fun x=>by simp[IntKind.wrap,IntKind.signed,IntKind.bits],rfl,by decide⟩
instance:UK .u16 16 65536:=⟨fun x=>by simp[IntKind.wrap,IntKind.signed,IntKind.bits],rfl,by decide⟩
instance:UK .u32 32 4294967296:=⟨fun x=>by simp[IntKind.wrap,IntKind.signed,IntKind.bits],rfl,by decide⟩
instance:UK .u64 64 18446744073709551616:=⟨fun x=>by simp[IntKind.wrap,IntKind.signed,IntKind.bits],rfl,by decide⟩
section uk
variable {k:IntKind}{bi M a b c:Nat}[u:UK k bi M]
include u
theorem UK.pos:0<M:=by rw[←u.hm];exact Nat.two_pow_pos _
theorem UK.nat(h:a%M=c):k.wrap (a:Int)=(c:Int):=by rw[u.w,←h,Int.natCast_emod]
theorem UK.add(h:(a+b)%M=c):k.wrap ((a:Int)+(b:Int))=(c:Int):=by rw[←Int.natCast_add];exact UK.nat h
theorem UK.mul(h:(a*b)%M=c):k.wrap ((a:Int)*(b:Int))=(c:Int):=by rw[←Int.natCast_mul];exact UK.nat h
theorem UK.sub(h:j0 M a b=c):k.wrap ((a:Int)-(b:Int))=(c:Int):=by
 rw[u.w,←h,j0,Int.toNat_of_nonneg];exact Int.emod_nonneg _ (by have:=UK.pos (k:=k) (bi:=bi) (M:=M);omega)
theorem UK.neg(h:j0 M 0 a=c):k.wrap (0-(a:Int))=(c:Int):=UK.sub h
theorem UK.conv{p:Int}(h:(p%M).toNat=c):k.wrap p=(c:Int):=by
 rw[u.w,←h,Int.toNat_of_nonneg];exact Int.emod_nonneg _ (by have:=UK.pos (k:=k) (bi:=bi) (M:=M);omega)
theorem UK.quo(h:yw M a b=some c):k.wrap ((a:Int).tdiv (b:Int))=(c:Int):=by
 unfold yw at h;split at h
 ·cases h
 ·rw[Int.tdiv_eq_ediv_of_nonneg (by omega),←Int.natCast_ediv];exact UK.nat (Option.some.inj h)
theorem UK.shl{q:Int}{s:Nat}(hs:min q.toNat k.bits=s)(h:a*2^s%M=c):k.wrap ((a:Int)*2^(min q.toNat k.bits))=(c:Int):=by
 rw[hs,show(a:Int)*2^s=((a*2^s:Nat):Int) by rw[Int.natCast_mul,Int.natCast_pow];rfl];exact UK.nat h
theorem UK.ofInt(a:Nat):(BitVec.ofInt k.bits (a:Int)).toNat=a%M:=by
 rw[BitVec.ofInt_natCast,BitVec.toNat_ofNat,u.hb,u.hm]
theorem UK.and(h:(a &&& b)%M=c):k.wrap ((BitVec.ofInt k.bits (a:Int) &&& BitVec.ofInt k.bits (b:Int)).toNat)=(c:Int):=by
 rw[BitVec.toNat_and,UK.ofInt,UK.ofInt,←u.hm,←Nat.and_mod_two_pow,u.hm,h,UK.nat (a:=c) (c:=c)]
 rw[←h,Nat.mod_mod]
theorem UK.or(h:(a ||| b)%M=c):k.wrap ((BitVec.ofInt k.bits (a:Int) ||| BitVec.ofInt k.bits (b:Int)).toNat)=(c:Int):=by
 rw[BitVec.toNat_or,UK.ofInt,UK.ofInt,←u.hm,←Nat.or_mod_two_pow,u.hm,h,UK.nat (a:=c) (c:=c)]
 rw[←h,Nat.mod_mod]
theorem UK.xor(h:(a ^^^ b)%M=c):k.wrap ((BitVec.ofInt k.bits (a:Int) ^^^ BitVec.ofInt k.bits (b:Int)).toNat)=(c:Int):=by
 rw[BitVec.toNat_xor,UK.ofInt,UK.ofInt,←u.hm,←Nat.xor_mod_two_pow,u.hm,h,UK.nat (a:=c) (c:=c)]
 rw[←h,Nat.mod_mod]
end uk
theorem vp{k:IntKind}{a c s:Nat}{q:Int}(hs:min q.toNat k.bits=s)(h:a/2^s=c):(a:Int).fdiv (2^(min q.toNat k.bits))=(c:Int):=by
 rw[hs,Int.fdiv_eq_ediv_of_nonneg _ (Int.le_of_lt (Int.pow_pos (by decide))),←h,Int.natCast_ediv,Int.natCast_pow];rfl
theorem IF{a b c:Nat}(h:wQ a b=some c):(a:Int).tmod (b:Int)=(c:Int):=by
 unfold wQ at h;split at h
 ·cases h
 ·rw[Int.tmod_eq_emod_of_nonneg (by omega),←Option.some.inj h];rfl
theorem X3{M a b c:Nat}(h:yw M a b=some c):(b:Int)≠0:=by
 unfold yw at h;split at h
 ·cases h
 ·omega
theorem VO{a b c:Nat}(h:wQ a b=some c):(b:Int)≠0:=by
 unfold wQ at h;split at h
 ·cases h
 ·omega
theorem X5{a b c:Int}(h:qp a b=some c):b≠0:=by unfold qp at h;split at h<;>simp_all
theorem X6{a b c:Int}(h:D8 a b=some c):b≠0:=by unfold D8 at h;split at h<;>simp_all
theorem MC{a b c:Int}(h:qp a b=some c):IntKind.i64.wrap (a.tdiv b)=c:=by
 unfold qp at h;split at h
 ·cases h
 ·exact Option.some.inj h
theorem X7{a b c:Int}(h:D8 a b=some c):a.tmod b=c:=by
 unfold D8 at h;split at h
 ·cases h
 ·exact Option.some.inj h
abbrev Kk(x:Nat):List SV:=[.v (.int .u8 (x:Nat))]
abbrev aj(x:Nat):List SV:=[.v (.int .u32 (x:Nat))]
abbrev vq(x:Int):List SV:=[.v (.int .i64 x)]
abbrev eB(x:Bool):List SV:=[.v (.bool x)]
abbrev eS{α:Type}(n:Nat)(e:α→List SV)(l:List α):List SV:=[slc n (l.map e)]
structure Zr where
 neg:Bool
 w:List Nat
structure Qr where
 num:Zr
 den:Zr
abbrev eZ(z:Zr):List SV:=[.v (.bool z.neg),slc 1 (z.w.map aj)]
abbrev eQ(q:Qr):List SV:=[.v (.bool q.num.neg),slc 1 (q.num.w.map aj),.v (.bool q.den.neg),slc 1 (q.den.w.map aj)]
class EL {α:Type} (e:α→List SV) (n:outParam Nat):Prop where
 len:∀x,(e x).length=n
 one:∀x,rH (e x)
instance:EL Kk 1:=⟨fun _=>rfl,fun _=>inferInstance⟩
instance:EL aj 1:=⟨fun _=>rfl,fun _=>inferInstance⟩
instance:EL vq 1:=⟨fun _=>rfl,fun _=>inferInstance⟩
instance:EL eB 1:=⟨fun _=>rfl,fun _=>inferInstance⟩
instance{α:Type}{n:Nat}{e:α→List SV}:EL (eS n e) 1:=⟨fun _=>rfl,fun _=>inferInstance⟩
instance:EL eZ 2:=⟨fun _=>rfl,fun _=>inferInstance⟩
instance:EL eQ 4:=⟨fun _=>rfl,fun _=>inferInstance⟩
structure Sd where
 X8:List Qr
 gen:List Qr
 take:List Qr
structure En where
 acc:Int
 kd:Nat
 hour:Int
 dB:Zr
abbrev dj(x:En):List SV:=[.v (.int .i64 x.acc),.v (.int .u8 ((x.kd:Nat):Int)),.v (.int .i64 x.hour),.v (.bool x.dB.neg),slc 1 (x.dB.w.map aj)]
instance:EL dj 5:=⟨fun _=>rfl,fun _=>inferInstance⟩
structure A3 where
 a:Int
 b:Int
 c:Int
structure X4 where
 acc:Int
 kd:Nat
 hour:Int
 e:Int
structure Mv where
 acc:Int
 kd:Nat
 hour:Int
 dS:Qr
abbrev z9(x:Mv):List SV:=[.v (.int .i64 x.acc),.v (.int .u8 ((x.kd:Nat):Int)),.v (.int .i64 x.hour),.v (.bool x.dS.num.neg),slc 1 (x.dS.num.w.map aj),.v (.bool x.dS.den.neg),slc 1 (x.dS.den.w.map aj)]
instance:EL z9 7:=⟨fun _=>rfl,fun _=>inferInstance⟩
structure Bk where
 n:Int
 l:List En
abbrev P4(x:Bk):List SV:=[.v (.int .i64 x.n),slc 5 (x.l.map dj)]
instance:EL P4 2:=⟨fun _=>rfl,fun _=>inferInstance⟩
structure Lr where
 vars:Int
 X9:List (List Qr)
 rows:List (List Qr)
 bounds:List Qr
structure Sz where
 vars:Int
 X9:Int
 rows:Int
 bounds:Int
structure Cn where
 row:List Qr
 most:Qr
abbrev TR(E:TypeId)(sz:Nat){α:Type}(e:α→List SV)(l:List α):Row:=⟨E,sz,l.length,l.flatMap e⟩
theorem imp_nil{α:Type}{n:Nat}{e:α→List SV}:SV.imp (.v (.slice none 0 0)) (slc n (([]:List α).map e)):=fun _ _ h=>.inl ⟨none,h,rfl⟩
theorem m7{α:Type}(e:α→List SV)(l:List α):(l.map e).flatten=l.flatMap e:=by rw[List.flatMap_def]
theorem qt{α:Type}{e:α→List SV}{n:Nat}[h:EL e n](l:List α):Rows n (l.map e) (l.flatMap e):=⟨m7 e l,fun r hr=>by obtain⟨x,_,rfl⟩:=List.mem_map.1 hr;exact h.len x⟩
theorem xl{M:Mem}:∀{l k:List SV} {vs:List Value},SV.cG M (l++k) vs→∃us ws,vs=us++ws∧SV.cG M l us∧SV.cG M k ws
 |[],_,vs,h=>⟨[],vs,rfl,trivial,h⟩
 |_::_,_,[],h=>h.elim
 |_::l,_,v::vs,h=>by
  obtain⟨us,ws,rfl,h1,h2⟩:=xl (l:=l) h.2
  exact⟨v::us,ws,rfl,⟨h.1,h1⟩,h2⟩
theorem nU{α:Type}{e:α→List SV}{n:Nat}[h:EL e n](l:List α):∀M vs,SV.cG M (l.flatMap e) vs→∀v∈vs,v.oneCell'=true:=by
 intro M
 induction l with
 |nil=>intro vs hv;cases vs with|nil=>simp|cons _ _=>exact hv.elim
 |cons x l ih=>
  intro vs hv
  rw[List.flatMap_cons]at hv
  obtain⟨us,ws,rfl,h1,h2⟩:=xl hv
  intro v hv
  rcases List.mem_append.1 hv with hv|hv
  ·exact(h.one x).h M us h1 v hv
  ·exact ih ws h2 v hv
theorem vr{α:Type}{e:α→List SV}{n:Nat}[h:EL e n]:∀{l:List α} {k:Nat} {a:α},l[k]? =some a→((l.flatMap e).drop (k*n)).take n=e a
 |[],_,_,hh=>by simp at hh
 |x::l,0,a,hh=>by
  simp only[List.getElem?_cons_zero,Option.some.injEq]at hh
  subst hh
  rw[List.flatMap_cons,Nat.zero_mul,List.drop_zero,←h.len x,List.take_left']
  rfl
 |x::l,k+1,a,hh=>by
  rw[List.getElem?_cons_succ]at hh
  rw[List.flatMap_cons,show(k+1)*n=(e x).length+k*n by rw[h.len,Nat.add_mul];omega,←List.drop_drop,List.drop_left']
  ·exact vr hh
  ·rfl
theorem Aa{α:Type}{e:α→List SV}{n:Nat}[h:EL e n]{y:α}:∀{l:List α} {k:Nat},k<l.length→gh (l.flatMap e) (k*n) (e y)=(l.set k y).flatMap e:=by
 have Ya:∀(u:List SV) (a b:List SV) (j:Nat),j+u.length≤a.length→gh (a++b) j u=gh a j u++b:=by
  intro u
  induction u with
  |nil=>intro a b j _;rfl
  |cons s u ih=>
   intro a b j hj
   simp only[List.length_cons]at hj
   simp only[gh]
   rw[List.set_append_left _ _ (by omega),ih _ _ _ (by rw[List.length_set];omega)]
 have Yb:∀(u:List SV) (a b:List SV) (j:Nat),gh (a++b) (a.length+j) u=a++gh b j u:=by
  intro u
  induction u with
  |nil=>intro a b j;rfl
  |cons s u ih=>
   intro a b j
   simp only[gh]
   rw[List.set_append_right _ _ (by omega),show a.length+j-a.length=j by omega,show a.length+j+1=a.length+(j+1) by omega,ih]
 have Yc:∀(u a:List SV),u.length=a.length→gh a 0 u=u:=by
  have gen:∀(u a p:List SV),u.length=a.length→gh (p++a) p.length u=p++u:=by
   intro u
   induction u with
   |nil=>intro a p ha;have:a=[]:=List.eq_nil_of_length_eq_zero ha.symm;subst this;rfl
   |cons s u ih=>
    intro a p ha
    cases a with
    |nil=>cases ha
    |cons t a=>
     simp only[gh]
     rw[List.set_append_right _ _ (Nat.le_refl _),Nat.sub_self,List.set_cons_zero,show p++s::a=(p++[s])++a by simp,show p.length+1=(p++[s]).length by simp,ih a _ (by simpa using ha)]
     simp
  intro u a ha
  exact gen u a [] ha
 intro l
 induction l with
 |nil=>intro k hk;simp at hk
 |cons x l ih=>
  intro k hk
  cases k with
  |zero=>
   rw[List.set_cons_zero,List.flatMap_cons,List.flatMap_cons,Nat.zero_mul,Ya _ _ _ _ (by rw[h.len,h.len];omega),Yc _ _ (by rw[h.len,h.len])]
  |succ k=>
   simp only[List.length_cons]at hk
   rw[List.set_cons_succ,List.flatMap_cons,List.flatMap_cons,show(k+1)*n=(e x).length+k*n by rw[h.len,Nat.add_mul];omega,Yb,ih (by omega)]
end Go.Fw
namespace Go.Fw
open Go.RowKit
section steps
variable {P:Program}{C:Ctx}{ops:Array Oper}{S:AS}{nd:Bool}{K:List Ac→AS→Prop}{rest:List Oper}{acc:List Ac}
variable {gd:Option (Nat×Bool)}{rg:List Nat}{d:Nat}{ty:TypeId}{pos:String}{aft:Array Edge}{x y z:Operand}{T U E0:TypeId}
variable {α:Type}{l l' k:List α}{e:α→List SV}{n by_:Nat}{zv:Value}
theorem RT.Yd(hg:Gd ops S gd rg){s X:SV}(hx:S.ev x=.sv s)(hi:SV.imp s X)(hd:d<S.n)
  (next:RunT P C ops nd K rest (⟨rg++af x,[],[],⟨some (d,.sv X),[],[]⟩⟩::acc) (S.set d (.sv X))):RunT P C ops nd K (⟨some d,.assign x,ty,pos,aft,gd⟩::rest) acc S:=
 RT.value hg (af x) [] [] (.sv X) hd (by intro c h;cases h) (fun S' ht _ _ E a w h=>by
  have hx':S'.ev x=.sv s:=by rw[az (fun _ h=>h) ht,hx]
  exact⟨a.eval x,rfl,by have:=h.ev x;rw[hx']at this;exact hi _ _ this,cS⟩) next
theorem D9{E:Env}:∀{l l':List SV} {vs:List Value},cc l l'→SV.cG E.M l vs→bz E (l'.map AV.sv) vs:=fun hi h=>bz.pZ (hi.holds h)
theorem yx(M:Mem):∀l:List Value,SV.cG M (l.map SV.v) l
 |[]=>trivial
 |_::l=>⟨rfl,yx M l⟩
theorem RT.MD(hg:Gd ops S gd rg)[tz:au P T zv]{cs:List SV}(hi:cc (zv.cells.toList.map SV.v) cs){av:List AV}(Ye:cs.map AV.sv=av)(hd:d<S.n)(hb:S.b d=none)(hp:C.dL d=none)
  (next:RunT P C ops nd K rest (⟨rg++[],[d],[],⟨some (d,.ptr d 0),[(d,⟨T,av⟩)],[]⟩⟩::acc) ((S.fY d ⟨T,av⟩).set d (.ptr d 0))):RunT P C ops nd K (⟨some d,.alloc T,ty,pos,aft,gd⟩::rest) acc S:=by
 subst Ye
 exact RT.zP hg (by intro c h;cases h) [] hd hb hp (fun S' _ E a w h=>⟨zv.cells.toList,by simp[execOp,Instr.alloc,newVar,newRow,tz.run],D9 hi (yx _ _),fun y hy=>by
  obtain⟨s,_,rfl⟩:=List.mem_map.1 hy
  exact cS⟩) next
theorem RT.ME(hg:Gd ops S gd rg){pl:List (Nat×Nat)}{zc:List Value}[tP:bf P T pl zc]{parts:Array (Nat×Operand)}{qs:List (Nat×List SV)}(hp:g9 S parts.toList qs){cs cs':List SV}(hf:mY (fun i=>pl[i]?) (zc.map SV.v) qs=some cs)(hi:cc cs cs')(hd:d<S.n)
  (next:RunT P C ops nd K rest (⟨rg++ew parts.toList,[],[],⟨some (d,.sv (.agg cs')),[],[]⟩⟩::acc) (S.set d (.sv (.agg cs')))):RunT P C ops nd K (⟨some d,.build T parts,ty,pos,aft,gd⟩::rest) acc S:=by
 refine RT.value hg (ew parts.toList) [] [] (.sv (.agg cs')) hd (by intro c h;cases h) (fun S' ht _ _ E a w h=>?_) next
 have hu:=tP.h
 cases hT:P.underlying T with
 |none=>rw[hT]at hu;cases hu
 |some u=>
  rw[hT]at hu
  cases u with
  |struct fs=>
   simp only at hu
   have hz:(zeroValue T).run P w=.ok (.agg ⟨zc⟩) w:=au.run (t:=⟨tP.hz⟩) w
   obtain⟨us,h1,h2,_⟩:=qi h (fun i=>pl[i]?) hp ht (cells:=zc.map SV.v) (vs:=zc) (yx _ zc) (List.all_eq_true.1 tP.o) hf
   refine⟨.agg ⟨us⟩,?_,⟨us,rfl,hi.holds h2⟩,cS⟩
   have hm:(fs.mapM (fun f=>do pure (f.offset,←sizeOf f.type):Field→Sem (Nat×Nat))).run P w=.ok pl.toArray w:=by
    have:=kf (P:=P) (w:=w) hu
    rw[←Array.toArray_toList (xs:=fs),List.mapM_toArray]
    rw[Sem.run_map,this];rfl
   have h1':Instr.fill (fun i=>pl.toArray[i]?) ⟨zc⟩ (parts.toList.map fun p=>(p.1,a.eval p.2))=some ⟨us⟩:=by simpa using h1
   simp only[execOp,Instr.build,underlying]
   simp only[Sem.run_bind,hz,Result.andThen_ok,run_program,hT,Sem.run_pure,Value.cells]
   have hm':(Array.mapM (fun f=>do
     let __do_lift←sizeOf f.type
     pure (f.offset,__do_lift)) fs:Sem _).run P w=.ok pl.toArray w:=hm
   simp only[hm',Result.andThen_ok]
   have e4:(Array.map (fun x=>match x with|(i,x)=>(i,a.eval x)) parts).toList=parts.toList.map fun p=>(p.1,a.eval p.2):=by simp
   simp only[e4,h1',Sem.run_pure,Result.andThen_ok]
  |_=>cases hu
theorem Pure.w{f:FuncId}{args args':List SV}{r:SV}(h:Pure P f args r)(hi:cc args' args):Pure P f args' r:=fun M w vs hM hv=>h M w vs hM (hi.holds hv)
theorem Pure.r{f:FuncId}{args:List SV}{r r':SV}(h:Pure P f args r)(hi:SV.imp r r'):Pure P f args r':=fun M w vs hM hv=>(h M w vs hM hv).mono fun _ _ ⟨v,M',h1,h2,h3,h4,h5,h6⟩=>⟨v,M',h1,h2,h3,h4,hi _ _ h5,h6⟩
theorem z6.w{f:FuncId}{args args':List SV}{R:Row}(h:z6 P f args R)(hi:cc args' args):z6 P f args' R:=fun M w vs hM hv=>h M w vs hM (hi.holds hv)
theorem RT.P5(hg:Gd ops S gd rg){m:Nat}[tS:cK P T E0 m]{c:Int}(hx:S.ev x=.sv (slc n (l.map e)))(hd:d<S.n)(hc:(l.length:Int)=c)
  (next:RunT P C ops nd K rest (⟨rg++af x,[],[],⟨some (d,.sv (.v (.int .i64 c))),[],[]⟩⟩::acc) (S.set d (.sv (.v (.int .i64 c))))):RunT P C ops nd K (⟨some d,.call ⟨.builtin .len,#[x],#[T]⟩,ty,pos,aft,gd⟩::rest) acc S:=
 RT.len hg hx hd (by rw[List.length_map,hc];exact next)
theorem RT.P6(hg:Gd ops S gd rg){m:Nat}[tS:cK P T E0 m]{i:Nat}{E1:TypeId}{c:Int}(hx:S.ev x=.row i)(hR:S.r i=.live (TR E1 n e l))(hd:d<S.n)(hc:(l.length:Int)=c)
  (next:RunT P C ops nd K rest (⟨rg++af x,[],[i],⟨some (d,.sv (.v (.int .i64 c))),[],[]⟩⟩::acc) (S.set d (.sv (.v (.int .i64 c))))):RunT P C ops nd K (⟨some d,.call ⟨.builtin .len,#[x],#[T]⟩,ty,pos,aft,gd⟩::rest) acc S:=
 RT.XA hg hx hR hd (by show RunT _ _ _ _ _ _ (⟨_,_,_,⟨some (d,.sv (.v (.int .i64 (l.length:Int)))),_,_⟩⟩::_) (S.set d (.sv (.v (.int .i64 (l.length:Int)))));rw[hc];exact next)
theorem RT.FM(hg:Gd ops S gd rg)[tS:cK P T E0 n]{kk:IntKind}{i:Int}{a:α}(hx:S.ev x=.sv (slc n (l.map e)))(hy:S.ev y=.sv (.v (.int kk i)))(hd:d<S.n)(ha:bJ l i=some a)
  (next:RunT P C ops nd K rest (⟨rg++(af x++af y),[],[],⟨some (d,.sv (ref (e a))),[],[]⟩⟩::acc) (S.set d (.sv (ref (e a))))):RunT P C ops nd K (⟨some d,.indexAddr T x y,ty,pos,aft,gd⟩::rest) acc S:=
 RT.indexAddr hg (e a) hx hy hd (kM ha).1 (by rw[List.getElem?_map,(kM ha).2];rfl) next
theorem RT.FN(hg:Gd ops S gd rg)[tS:cK P T E0 n]{lo hi:Option Operand}(a b:Int)(hx:S.ev x=.sv (slc n (l.map e)))(hlo:va S 0 lo a)(hhi:va S l.length hi b)(hd:d<S.n)(h:yu l a b=some l')
  (next:RunT P C ops nd K rest (⟨rg++(af x++(jq lo++jq hi)),[],[],⟨some (d,.sv (slc n (l'.map e))),[],[]⟩⟩::acc) (S.set d (.sv (slc n (l'.map e))))):RunT P C ops nd K (⟨some d,.slice T x lo hi none,ty,pos,aft,gd⟩::rest) acc S:=by
 obtain⟨h0,h1,h2,h3⟩:=xk h
 exact RT.slice hg hx a b hlo (by rw[List.length_map];exact hhi) hd h0 h1 (by rw[List.length_map];exact h2) _ (by rw[CM,h3]) next
theorem RT.IG(hg:Gd ops S gd rg)[tS:cK P T E0 n][tE:aB P E0 n by_ zv]{len:Nat}{parts:Array (Nat×Operand)}{qs:List (Nat×List SV)}(hp:g9 S parts.toList qs)(hd:d<S.n)
  (hc:kA 0 qs=true) (hl:qs.length=len) (hsz:(qs.all fun q=>Nat.beq q.2.length n)=true) (hlen:Nat.ble (len*n) 16777216=true) (D3:(zv.cells.toList.all fun v=>v.oneCell')=true) (gZ:qs.map (·.2)=l.map e)
  (next:RunT P C ops nd K rest (⟨rg++ew parts.toList,[],[],⟨some (d,.sv (slc n (l.map e))),[],[]⟩⟩::acc) (S.set d (.sv (slc n (l.map e))))):RunT P C ops nd K (⟨some d,.buildSlice T len parts,ty,pos,aft,gd⟩::rest) acc S:=
 RT.buildSlice hg hp hd hc hl hsz (Nat.le_of_ble_eq_true hlen) (List.all_eq_true.1 D3) gZ next
theorem RT.CS(hg:Gd ops S gd rg)[tS:cK P T E0 n][tE:aB P E0 n by_ zv]{len:Nat}{parts:Array (Nat×Operand)}{qs:List (Nat×List SV)}(hp:g9 S parts.toList qs)(hd:d<S.n)(qg:S.r d=.un)(oB:d<1000)
  (hc:kA 0 qs=true) (hl:qs.length=len) (hsz:(qs.all fun q=>Nat.beq q.2.length n)=true) (hlen:Nat.ble (len*n) 16777216=true) (D3:(zv.cells.toList.all fun v=>v.oneCell')=true) (gZ:qs.map (·.2)=l.map e)
  (next:RunT P C ops nd K rest (⟨rg++ew parts.toList,[],[d],⟨some (d,.row d),[],[(d,.live (TR E0 n e l))]⟩⟩::acc) ((AS.aH [(d,.live (TR E0 n e l))] S).set d (.row d))):RunT P C ops nd K (⟨some d,.buildSlice T len parts,ty,pos,aft,gd⟩::rest) acc S:=by
 refine RT.zX hg hp hd qg oB hc hl hsz (Nat.le_of_ble_eq_true hlen) (List.all_eq_true.1 D3) (cells:=l.flatMap e) (by rw[gZ,m7]) ?_
 have:len=l.length:=by have h0:=congrArg List.length gZ;simpa[hl]using h0
 rw[this];exact next
theorem RT.apR(hg:Gd ops S gd rg)[tS:cK P T E0 n][tE:aB P E0 n by_ zv]{i:Nat}(hx:S.ev x=.row i)(hR:S.r i=.live (TR E0 n e l))(hy:S.ev y=.sv (slc n (k.map e)))(hd:d<S.n)(qg:S.r d=.un)(oB:d<1000)(h:wH by_ l k=some l')
  (next:RunT P C ops nd K rest (⟨rg++(af x++af y),[],[i,d],⟨some (d,.row d),[],[(i,.dead),(d,.live (TR E0 n e l'))]⟩⟩::acc) ((AS.aH [(i,.dead),(d,.live (TR E0 n e l'))] S).set d (.row d))):RunT P C ops nd K (⟨some d,.call ⟨.builtin .append,#[x,y],#[T,T]⟩,ty,pos,aft,gd⟩::rest) acc S:=by
 obtain⟨h1,h2,rfl⟩:=mZ h
 exact RT.Ir hg hx hR hy hd qg oB (by simpa using h1) (by simpa using h2) _ (by simp[m7]) next
theorem RT.MF(hg:Gd ops S gd rg)[tS:cK P T E0 n][tE:aB P E0 n by_ zv][el:EL e n]{i:Nat}(hx:S.ev x=.row i)(hR:S.r i=.live (TR E0 n e l))(hy:S.ev y=.sv (slc n (k.map e)))(hd:d<S.n)(qg:S.r d=.un)(oB:d<1000)(h:wH by_ l k=some l')
  (next:RunT P C ops nd K rest (⟨rg++(af x++af y),[],[d,i],⟨some (d,.sv (slc n (l'.map e))),[],[(i,.dead),(d,.dead)]⟩⟩::acc) ((AS.aH [(i,.dead),(d,.dead)] S).set d (.sv (slc n (l'.map e))))):RunT P C ops nd K (⟨some d,.call ⟨.builtin .append,#[x,y],#[T,T]⟩,ty,pos,aft,gd⟩::rest) acc S:=by
 obtain⟨h1,h2,rfl⟩:=mZ h
 have hf:l.flatMap e++(k.map e).flatten=(l++k).flatMap e:=by simp[m7]
 exact RT.CQ hg (.row hx hR) hy hd qg oB (by simpa using h1) (by simpa using h2) _ (rows':=(l++k).map e) (fun _ _ h _=>h) (by rw[hf];exact qt _) (by simp) (by rw[hf];exact nU _) next
theorem xm(zc:Array Value)(n:Nat)(hz:zc.size=n)(hn:0<n):∀m:Nat,(madeCells zc (m*n)).toList=(List.replicate m zc.toList).flatten
 |0=>by simp[madeCells]
 |m+1=>by
  have ih:=xm zc n hz hn m
  rw[List.replicate_succ',List.flatten_append,←ih]
  simp only[madeCells,Array.toList_map,Array.toList_range,List.flatten_cons,List.flatten_nil,List.append_nil]
  rw[show(m+1)*n=m*n+n by rw[Nat.add_mul];omega,List.range_add,List.map_append,List.map_map]
  congr 1
  apply List.ext_getElem?
  intro i
  rw[List.getElem?_map]
  rcases Nat.lt_or_ge i n with hi|hi
  ·rw[List.getElem?_range hi]
   simp only[Option.map_some,Function.comp]
   rw[hz,Nat.mul_comm m n,Nat.mul_add_mod,Nat.mod_eq_of_lt hi]
   rw[getElem!_pos zc i (by omega),Array.getElem?_toList,Array.getElem?_eq_getElem (by omega)]
  ·rw[List.getElem?_eq_none (by simpa using hi),List.getElem?_eq_none (by simp;omega)];rfl
theorem Ab:∀{a b c d:List SV},cc a c→cc b d→cc (a++b) (c++d)
 |[],_,[],_,_,h=>h
 |_::_,_,_::_,_,h,h'=>⟨h.1,Ab h.2 h'⟩
 |[],_,_::_,_,h,_=>h.elim
 |_::_,_,[],_,h,_=>h.elim
theorem Ad{zl:List Value}{zz:α}(hi:cc (zl.map SV.v) (e zz)):∀m:Nat,cc ((List.replicate m zl).flatten.map SV.v) ((List.replicate m zz).flatMap e)
 |0=>trivial
 |m+1=>by
  rw[List.replicate_succ,List.replicate_succ,List.flatten_cons,List.map_append,List.flatMap_cons]
  exact Ab hi (Ad hi m)
theorem RT.sK(hg:Gd ops S gd rg)[tS:cK P T E0 n][tE:aB P E0 n by_ zv]{kl kc:IntKind}{c:Int}{zz:α}(hx:S.ev x=.sv (.v (.int kl c)))(hy:S.ev y=.sv (.v (.int kc c)))(hd:d<S.n)(qg:S.r d=.un)(oB:d<1000)(hz:zv.cells.size=n)(hn:0<n)(hi:cc (zv.cells.toList.map SV.v) (e zz))(hm:EY by_ c zz=some l')
  (next:RunT P C ops nd K rest (⟨rg++(af x++af y),[],[d],⟨some (d,.row d),[],[(d,.live (TR E0 n e l'))]⟩⟩::acc) ((AS.aH [(d,.live (TR E0 n e l'))] S).set d (.row d))):RunT P C ops nd K (⟨some d,.makeSlice T x y,ty,pos,aft,gd⟩::rest) acc S:=by
 obtain⟨h0,hroom,mX,rfl⟩:=FJ hm
 refine .inl ⟨_,[],[d],_,?_,next⟩
 rintro S' hn' ht _ hr i a w L Q ho ⟨E,h⟩ hL
 refine aX (C:=C) ho (hg.wanted h (fun s hs=>ht s (List.mem_append_left _ hs)) rfl) ?_
 have h1:a.eval x=.int kl c:=by have h1:=h.ev x;rw[az (fun _ h=>List.mem_append_right _ (List.mem_append_left _ h)) ht,hx]at h1;exact h1
 have h2:a.eval y=.int kc c:=by have h2:=h.ev y;rw[az (fun _ h=>List.mem_append_right _ (List.mem_append_right _ h)) ht,hy]at h2;exact h2
 obtain⟨info,hii,hsz,hby,XF⟩:=aB.info (P:=P) (E:=E0) (n:=n) (by_:=by_) (z:=zv)
 obtain⟨m,rfl⟩:=Int.eq_ofNat_of_zero_le h0
 have hb':info.bytes*m≤281474976710656:=by
  rw[hby]
  have:((by_*m:Nat):Int)≤281474976710656:=by rw[Int.natCast_mul];exact hroom
  omega
 obtain⟨w',q1,q2,q3⟩:=run_make_full (P:=P) w 0 T E0 info zv n tS.u hii XF hsz kl kc m hb' (by unfold maxLen;omega) (Nat.zero_le _)
 have hr':(execOp a.eval ⟨some d,.makeSlice T x y,ty,pos,aft,gd⟩).run P w=.ok (.value (.slice (some ⟨w.heap.size,0,none⟩) m m)) w':=by
  simp only[execOp,h1,h2]
  simp[q1]
 have BI:S'.r d=.un:=by rw[hr d (by simp)];exact qg
 have e0:(m:Int).toNat=m:=by simp
 have hall:SV.cG E.M ((List.replicate m zz).flatMap e) (madeCells zv.cells (m*n)).toList:=by
  rw[xm zv.cells n hz hn]
  exact cc.holds (l:=((List.replicate m zv.cells.toList).flatten.map SV.v)) (Ad hi m) (yx _ _)
 have hlen:(List.replicate (m:Int).toNat zz).length=m:=by simp
 refine aY (C:=C) (by intro c h;cases h) hr' (hL _ _ ⟨_,(h.newRow BI oB [] none (.inl ⟨rfl,rfl⟩) (R':=TR E0 n e (List.replicate (m:Int).toNat zz)) (by show w'.ownsRow 0 E0 n _ (List.replicate (m:Int).toNat zz).length _;rw[hlen];exact q2) (by rw[e0];exact hall) (.inr (.inl rfl)) q3).put (d:=d) (x:=.row d) (v:=.slice (some ⟨w.heap.size,0,none⟩) m m) (by simp[AV.holds]) (by show d<S'.n;omega) ⟨fun _ e=>e.elim,fun j e=>?_⟩⟩)
 cases e
 show(AS.kz S' d _).r d≠_
 rw[AS.dX];simp
theorem RT.xn(hg:Gd ops S gd rg)[tS:cK P T E0 n][tE:aB P E0 n by_ zv]{kl kc:IntKind}{c:Int}(hx:S.ev x=.sv (.v (.int kl 0)))(hy:S.ev y=.sv (.v (.int kc c)))(hd:d<S.n)(qg:S.r d=.un)(oB:d<1000)(h:ID (α:=α) by_ c=some l')
  (next:RunT P C ops nd K rest (⟨rg++(af x++af y),[],[d],⟨some (d,.row d),[],[(d,.live (TR E0 n e l'))]⟩⟩::acc) ((AS.aH [(d,.live (TR E0 n e l'))] S).set d (.row d))):RunT P C ops nd K (⟨some d,.makeSlice T x y,ty,pos,aft,gd⟩::rest) acc S:=by
 obtain⟨h0,h1,h2,rfl⟩:=FK h
 exact RT.PC hg hx hy hd qg oB h0 h1 h2 next
theorem RT.Yf(hg:Gd ops S gd rg)[tS:cK P T E0 n]{i j:Nat}{E1:TypeId}{kk:IntKind}{v:Int}(hx:S.ev x=.row i)(hR:S.r i=.live (TR E1 n e l))(hy:S.ev y=.sv (.v (.int kk v)))(hd:d<S.n)(h:pY l v=some j)
  (next:RunT P C ops nd K rest (⟨rg++(af x++af y),[],[i],⟨some (d,.eK i (j*n)),[],[]⟩⟩::acc) (S.set d (.eK i (j*n)))):RunT P C ops nd K (⟨some d,.indexAddr T x y,ty,pos,aft,gd⟩::rest) acc S:=by
 obtain⟨h0,h1,h2⟩:=FI h
 exact RT.ixR hg (.row hx hR) hy hd h0 h1 (j*n) (by rw[h2];omega) next
theorem RT.P7(hg:Gd ops S gd rg)[tV:bY P T][el:EL e 1]{i j:Nat}{E1:TypeId}{a:α}{s:SV}(hx:S.ev x=.eK i (j*1))(hR:S.r i=.live (TR E1 1 e l))(ha:l[j]? =some a)(hs:e a=[s])(hd:d<S.n)
  (next:RunT P C ops nd K rest (⟨rg++af x,[],[i],⟨some (d,.sv s),[],[]⟩⟩::acc) (S.set d (.sv s))):RunT P C ops nd K (⟨some d,.load T x,ty,pos,aft,gd⟩::rest) acc S:=by
 refine RT.ldR hg hx hR (s:=s) ?_ hd next
 have:=vr (e:=e) ha
 rw[hs]at this
 have h2:=congrArg (·[0]?) this
 simpa[List.getElem?_take]using h2
theorem RT.P8(hg:Gd ops S gd rg)[tA:fm P T n][el:EL e n]{i j:Nat}{E1:TypeId}{a:α}(hx:S.ev x=.eK i (j*n))(hR:S.r i=.live (TR E1 n e l))(ha:l[j]? =some a)(hd:d<S.n)
  (next:RunT P C ops nd K rest (⟨rg++af x,[],[i],⟨some (d,.sv (.agg (e a))),[],[]⟩⟩::acc) (S.set d (.sv (.agg (e a))))):RunT P C ops nd K (⟨some d,.load T x,ty,pos,aft,gd⟩::rest) acc S:=
 RT.XI hg hx hR (vr ha) (el.len a) hd next
theorem II(a:List SV)(k:Nat)(s:SV):a.set k s=gh a k [s]:=rfl
theorem RT.Yg(hg:Gd ops S gd rg)[tV:bY P T][el:EL e 1]{i j:Nat}{E1:TypeId}{s:SV}[o1:One s](a:α)(hs:e a=[s])(hx:S.ev x=.eK i (j*1))(hR:S.r i=.live (TR E1 1 e l))(hy:S.ev y=.sv s)(h:stM l j a=some l')
  (next:RunT P C ops nd K rest (⟨rg++(af x++af y),[],[i],⟨none,[],[(i,.live (TR E1 1 e l'))]⟩⟩::acc) (AS.aH [(i,.live (TR E1 1 e l'))] S)):RunT P C ops nd K (⟨none,.store T x y,ty,pos,aft,gd⟩::rest) acc S:=by
 obtain⟨h1,rfl⟩:=z8 h
 refine RT.stR hg hx hR hy (by show j*1+1≤l.length*1;omega) ((l.set j a).flatMap e) (by rw[II,←hs];exact Aa h1) ?_
 have:(TR E1 1 e (l.set j a))=⟨E1,1,l.length,(l.set j a).flatMap e⟩:=by show Row.mk _ _ _ _=_;rw[List.length_set]
 rw[←this];exact next
theorem RT.P9(hg:Gd ops S gd rg)[tA:fm P T n][el:EL e n]{i j:Nat}{E1:TypeId}(a:α)(hx:S.ev x=.eK i (j*n))(hR:S.r i=.live (TR E1 n e l))(hy:S.ev y=.sv (.agg (e a)))(h:stM l j a=some l')
  (next:RunT P C ops nd K rest (⟨rg++(af x++af y),[],[i],⟨none,[],[(i,.live (TR E1 n e l'))]⟩⟩::acc) (AS.aH [(i,.live (TR E1 n e l'))] S)):RunT P C ops nd K (⟨none,.store T x y,ty,pos,aft,gd⟩::rest) acc S:=by
 obtain⟨h1,rfl⟩:=z8 h
 have o1:=el.one a
 refine RT.XJ hg hx hR hy (el.len a) (by show j*n+n≤l.length*n;have:=Nat.mul_le_mul_right n h1;rw[Nat.succ_mul]at this;exact this) ((l.set j a).flatMap e) (Aa h1) ?_
 have:(TR E1 n e (l.set j a))=⟨E1,n,l.length,(l.set j a).flatMap e⟩:=by show Row.mk _ _ _ _=_;rw[List.length_set]
 rw[←this];exact next
end steps
theorem dH{S:AS}{i n:Nat}{E1:TypeId}{α:Type}{e:α→List SV}{l:List α}[el:EL e n](hR:S.r i=.live (TR E1 n e l)):kK S (S.jo i (slc n (l.map e))):=by
 rintro C a w ⟨E,h⟩
 have hlen:l.length≤9223372036854775807:=by
  obtain⟨⟨vs,ho,hv⟩,_⟩:=h.rx i _ hR
  rcases ho.2 with⟨_,q2⟩|⟨g',cap,cur,q1,_,q2,q3,q4,q5,q6⟩
  ·have q2:l.length=0:=q2
   omega
  ·have q3:l.length≤cap:=q3
   have:maxLen=9223372036854775807:=by decide
   omega
 exact h.jo hR (qt l) (by rw[List.length_map]) hlen (nU l) (fun _ _ h _=>h)
section control
variable {P:Program}{C:Ctx}{S:AS}{Q:Exit→AS→Prop}
theorem aN{A:Code}{J R:Type}{kB:J→Option R}{fA:(J→Option R)→Option R}{r:R}(h:cz kB fA=some r)(I:J→AS)
  (hA:fA kB=some r→Ok P C A S (ae (fun S'=>∃j,kB j=some r∧kK S' (I j)) Q)) (hQ:∀j,kB j=some r→Q .normal (I j)):Ok P C A S Q:=fun a w hs=>by
 refine wpIn_mono (hA h a w hs) ?_
 rintro e a' w' ⟨S',q,hh⟩
 cases e with
 |normal=>obtain⟨j,h1,h2⟩:=q;exact⟨_,hQ j h1,h2 C a' w' hh⟩
 |_=>exact⟨S',q,hh⟩
theorem bg{A:Code}{X:Type}(I:X→AS)(p:X→Prop)(hA:Ok P C A S (ae (fun S'=>∃j,p j∧kK S' (I j)) Q))(hQ:∀j,p j→Q .normal (I j)):Ok P C A S Q:=fun a w hs=>by
 refine wpIn_mono (hA a w hs) ?_
 rintro e a' w' ⟨S',q,hh⟩
 cases e with
 |normal=>obtain⟨j,h1,h2⟩:=q;exact⟨_,hQ j h1,h2 C a' w' hh⟩
 |_=>exact⟨S',q,hh⟩
theorem bh{c:Code}{T E:Type}{body:T→Option (T⊕E)}{s0:T}{e:E}(h:bR body s0=some e)(I:T→AS)(h0:kK S (I s0))
  (round:∀(s:T) (y:T⊕E) (G:T→Prop),body s=some y→(∀s',y=.inl s'→G s')→(∀e',y=.inr e'→e'=e)→Ok P C c (I s) (ae (fun S'=>∃s',G s'∧kK S' (I s')) Q)):Ok P C (.loop c) S Q:=by
 obtain⟨n,hn⟩:=oZ h
 refine uh (ι:={x:T×Nat//jr body x.2 x.1=some e}) (fun x=>I x.1.1) (fun x=>x.1.2) ⟨(s0,n),hn⟩ h0 ?_
 rintro⟨⟨s,m⟩,hm⟩
 cases m with
 |zero=>cases hm
 |succ m=>
  cases hb:body s with
  |none=>simp only[jr,hb]at hm;cases hm
  |some y=>
   refine ye (round s y (fun s'=>jr body m s'=some e) hb ?_ ?_) ?_
   ·rintro s' rfl;simpa only[jr,hb]using hm
   ·rintro e' rfl;simp only[jr,hb]at hm;exact Option.some.inj hm
   ·intro ex S' q
    cases ex with
    |normal=>obtain⟨s',h1,h2⟩:=q;exact⟨⟨(s',m),h1⟩,Nat.lt_succ_self m,h2⟩
    |_=>exact q
end control
end Go.Fw
namespace Go.Fw
open Go.RowKit
abbrev IJ:=List UInt8
def bs(l:IJ):ByteArray:=⟨⟨l⟩⟩
def oE(l:IJ)(i:Int):Option Nat:=(bJ l i).map UInt8.toNat
theorem IK(l:IJ):(bs l).size=l.length:=rfl
theorem MG(l:IJ)(i:Nat):(bs l)[i]? =l[i]? :=by
 rcases Nat.lt_or_ge i l.length with h|h
 ·rw[getElem?_pos (bs l) i h,List.getElem?_eq_getElem h];rfl
 ·rw[getElem?_neg (bs l) i (by rw[IK];omega),List.getElem?_eq_none h]
section steps
variable {P:Program}{C:Ctx}{ops:Array Oper}{S:AS}{nd:Bool}{K:List Ac→AS→Prop}{rest:List Oper}{acc:List Ac}
variable {gd:Option (Nat×Bool)}{rg:List Nat}{d:Nat}{ty:TypeId}{pos:String}{aft:Array Edge}{x y z:Operand}{T U E0:TypeId}
variable {l l' k:IJ}
theorem RT.skV{op:Op}{j g:Nat}{b want:Bool}(h1:(ops[j]?).bind (·.dst)=some g)(h2:S.t g=.sv (.v (.bool b)))(hb:b≠want)(hd:d<S.n)
  (next:RunT P C ops nd K rest (⟨[g],[],[],⟨some (d,.sv (.v undef)),[],[]⟩⟩::acc) (S.set d (.sv (.v undef)))):RunT P C ops nd K (⟨some d,op,ty,pos,aft,some (j,want)⟩::rest) acc S:=by
 refine .inl ⟨[g],[],[],⟨some (d,.sv (.v undef)),[],[]⟩,?_,next⟩
 rintro S' hn ht _ _ i a w L Q ho ⟨E,h⟩ hL
 have hv:=h.tm g
 rw[ht g (by simp),h2]at hv
 have hv:a.tmps.getD g undef=.bool b:=hv
 have xh:a.tmps[g]? =some (.bool b):=by
  rw[Array.getD_eq_getD_getElem?]at hv
  cases e:a.tmps[g]? with
  |none=>rw[e]at hv;simp[undef]at hv
  |some x=>rw[e]at hv;simp at hv;rw[hv]
 have hw:Region.wanted ⟨some d,op,ty,pos,aft,some (j,want)⟩ (yielded ops a.tmps)=false:=by
  simp[Region.wanted,yielded,h1,xh,hb]
 simp only[wpOpIn,ho,hw]
 exact⟨fun _ _=>trivial,hL _ _ ⟨E,h.put (x:=.sv (.v undef)) (v:=undef) rfl (by omega) ⟨fun _ h=>h.elim,fun _ h=>h.elim⟩⟩⟩
theorem RT.Qa{op:Op}{j g:Nat}{want:Bool}(h1:(ops[j]?).bind (·.dst)=some g)(h2:S.t g=.sv (.v undef))(hd:d<S.n)
  (next:RunT P C ops nd K rest (⟨[g],[],[],⟨some (d,.sv (.v undef)),[],[]⟩⟩::acc) (S.set d (.sv (.v undef)))):RunT P C ops nd K (⟨some d,op,ty,pos,aft,some (j,want)⟩::rest) acc S:=by
 refine .inl ⟨[g],[],[],⟨some (d,.sv (.v undef)),[],[]⟩,?_,next⟩
 rintro S' hn ht _ _ i a w L Q ho ⟨E,h⟩ hL
 have hv:=h.tm g
 rw[ht g (by simp),h2]at hv
 have hv:a.tmps.getD g undef=undef:=hv
 rw[Array.getD_eq_getD_getElem?]at hv
 have hw:Region.wanted ⟨some d,op,ty,pos,aft,some (j,want)⟩ (yielded ops a.tmps)=false:=by
  cases e:a.tmps[g]? with
  |none=>simp[Region.wanted,yielded,h1,e]
  |some x=>
   rw[e]at hv
   simp only[Option.getD_some]at hv
   subst hv
   simp[Region.wanted,yielded,h1,e,undef]
 simp only[wpOpIn,ho,hw]
 exact⟨fun _ _=>trivial,hL _ _ ⟨E,h.put (x:=.sv (.v undef)) (v:=undef) rfl (by omega) ⟨fun _ h=>h.elim,fun _ h=>h.elim⟩⟩⟩
theorem RT.six(hg:Gd ops S gd rg)[tS:zO P T]{kk:IntKind}{i:Int}{c:Nat}(hx:S.ev x=.sv (.v (.string (bs l))))(hy:S.ev y=.sv (.v (.int kk i)))(hd:d<S.n)(h:oE l i=some c)
  (next:RunT P C ops nd K rest (⟨rg++(af x++af y),[],[],⟨some (d,.sv (.v (.int .u8 (c:Nat)))),[],[]⟩⟩::acc) (S.set d (.sv (.v (.int .u8 (c:Nat)))))):RunT P C ops nd K (⟨some d,.index T x y,ty,pos,aft,gd⟩::rest) acc S:=
 RT.Bz hg (by intro c h;cases h) hx hy hd (fun ρ w h1 h2=>by
  unfold oE at h
  cases hh:bJ l i with
  |none=>rw[hh]at h;cases h
  |some b=>
   rw[hh]at h
   obtain⟨q1,q2⟩:=kM hh
   have q3:b.toNat=c:=Option.some.inj h
   have q4:(bs l)[i.toNat]? =some b:=by rw[MG];exact q2
   simp[execOp,h1,h2,Instr.index,asIntOf,underlying,tS.h,q1,q4,q3]) next
end steps
section rows
variable {P:Program}{C:Ctx}{ops:Array Oper}{S:AS}{nd:Bool}{K:List Ac→AS→Prop}{rest:List Oper}{acc:List Ac}
variable {gd:Option (Nat×Bool)}{rg:List Nat}{d:Nat}{ty:TypeId}{pos:String}{aft:Array Edge}{x y z:Operand}{T U E0:TypeId}
variable {α:Type}{l l' k:List α}{e:α→List SV}{n by_:Nat}{zv:Value}
end rows
end Go.Fw
namespace Go.Fw
open Go.RowKit
def oF{α:Type}(l l':List α):Option Unit:=if l'.length=l.length then some ()else none
theorem iG{α:Type}{l l':List α}{u:Unit}(h:oF l l'=some u):l'.length=l.length:=by
 unfold oF at h;split at h
 ·assumption
 ·cases h
def MH{α:Type}(l:List α)(lo hi:Int):Option (Nat×Nat):=if 0≤lo∧lo<l.length∧lo≤hi∧hi≤l.length then some (lo.toNat,(hi-lo).toNat)else none
theorem FO{α:Type}{l:List α}{lo hi:Int}{o n:Nat}(h:MH l lo hi=some (o,n)):0≤lo∧lo<l.length∧lo≤hi∧hi≤l.length∧lo.toNat=o∧(hi-lo).toNat=n:=by
 unfold MH at h;split at h
 ·rename_i hh
  obtain⟨q1,q2⟩:=Prod.mk.inj (Option.some.inj h)
  exact⟨hh.1,hh.2.1,hh.2.2.1,hh.2.2.2,q1,q2⟩
 ·cases h
def H6(o n:Nat)(i:Int):Option Nat:=if 0≤i∧i<n then some (o+i.toNat)else none
theorem FP{o n j:Nat}{i:Int}(h:H6 o n i=some j):0≤i∧i<n∧o+i.toNat=j:=by
 unfold H6 at h;split at h
 ·rename_i hh;exact⟨hh.1,hh.2,Option.some.inj h⟩
 ·cases h
def lO:List (List SV)→List (List SV)→Prop
 |[],[]=>True
 |r::l,r'::l'=>cc r r'∧lO l l'
 |_,_=>False
theorem cc.get:∀{l l':List SV} {k:Nat} {s':SV},cc l l'→l'[k]? =some s'→∃s,l[k]? =some s∧SV.imp s s'
 |x::_,y::_,0,_,h,e=>⟨x,rfl,by simp at e;subst e;exact h.1⟩
 |_::l,_::l',k+1,_,h,e=>by simpa using cc.get (l:=l) (l':=l') h.2 (by simpa using e)
 |[],[],_,_,_,e=>by simp at e
 |[],_::_,_,_,h,_=>h.elim
 |_::_,[],_,_,h,_=>h.elim
theorem cc.len:∀{l l':List SV},cc l l'→l'.length=l.length
 |[],[],_=>rfl
 |_::_,_::_,h=>congrArg (· +1) (cc.len h.2)
 |[],_::_,h=>h.elim
 |_::_,[],h=>h.elim
theorem lO.len:∀{l l':List (List SV)},lO l l'→l'.length=l.length
 |[],[],_=>rfl
 |_::_,_::_,h=>congrArg (· +1) (lO.len h.2)
 |[],_::_,h=>h.elim
 |_::_,[],h=>h.elim
theorem lO.get:∀{l l':List (List SV)} {k:Nat} {s':List SV},lO l l'→l'[k]? =some s'→∃s,l[k]? =some s∧cc s s'
 |x::_,y::_,0,_,h,e=>⟨x,rfl,by simp at e;subst e;exact h.1⟩
 |_::l,_::l',k+1,_,h,e=>by simpa using lO.get (l:=l) (l':=l') h.2 (by simpa using e)
 |[],[],_,_,_,e=>by simp at e
 |[],_::_,_,_,h,_=>h.elim
 |_::_,[],_,_,h,_=>h.elim
class PV {α:Type} (e:α→List SV):Prop where
 h:∀x,∃v:Value,e x=[.v v]
instance:PV Kk:=⟨fun _=>⟨_,rfl⟩⟩
instance:PV aj:=⟨fun _=>⟨_,rfl⟩⟩
instance:PV vq:=⟨fun _=>⟨_,rfl⟩⟩
theorem IL{α:Type}{e:α→List SV}{l:List α}{n:Nat}{M:Mem}{v:Value}(h:(slc n (l.map e)).h M v):l.length≤9223372036854775807:=by
 rcases h with⟨_,_,h⟩|⟨b,o,c,_,_,h,_⟩
 ·have:l=[]:=by simpa using h
  subst this;simp
 ·rwa[List.length_map]at h
theorem CT{α:Type}{e:α→List SV}{l:List α}{n:Nat}{M:Mem}{v:Value}(h:(ref [slc n (l.map e)]).h M v):l.length≤9223372036854775807:=by
 obtain⟨b,o,_,h⟩:=h
 obtain⟨y,_,_,h⟩:=h 0 _ rfl
 exact IL h
theorem o7{l:List Nat}{i:Nat}(h:l.length≤i):l.getD i 0=0:=by simp[List.getD,List.getElem?_eq_none h]
theorem m8{l:List Nat}{i:Nat}(h:i<l.length):l[i]? =some (l.getD i 0):=by simp[List.getD,h]
theorem BS{α β:Type}(a:List α)(b:List β)(i:Nat)(h:i≤max a.length b.length):(i<max a.length b.length∧i<a.length∧i<b.length)∨(i<max a.length b.length∧i<a.length∧b.length≤i)∨(i<max a.length b.length∧a.length≤i∧i<b.length)∨i=max a.length b.length:=by omega
section steps
variable {P:Program}{C:Ctx}{ops:Array Oper}{S:AS}{nd:Bool}{K:List Ac→AS→Prop}{rest:List Oper}{acc:List Ac}
variable {gd:Option (Nat×Bool)}{rg:List Nat}{d:Nat}{ty:TypeId}{pos:String}{aft:Array Edge}{x y z:Operand}{T U E0:TypeId}
variable {α:Type}{l l' k:List α}{e:α→List SV}{n by_:Nat}{zv:Value}
theorem MI{E1:TypeId}(h:l'.length=l.length):(⟨E1,n,l.length,l'.flatMap e⟩:Row)=TR E1 n e l':=by show _=Row.mk _ _ _ _;rw[h]
theorem RT.MJ(hg:Gd ops S gd rg){f:FuncId}[bM P f]{g:Operand}{xs:Array Operand}{at_:Array TypeId}{args:List AV}{E1:TypeId}{res:AV}(hp:BL P f args (TR E1 n e l) res (l'.flatMap e))(hlen:l'.length=l.length)(i:Nat)(hR:S.r i=.live (TR E1 n e l))(hrow:args.all AV.rJ=true)(hres:res.rJ=true)
  (hf:S.ev g=.sv (.v (.func (.func f) #[] #[]))) (hargs:lM S xs.toList (args.map (AV.sI i))) (hd:d<S.n)
  (next:RunT P C ops nd K rest (⟨rg++(af g++xs.toList.flatMap af),[],[i],⟨some (d,res.sI i),[],[(i,.live (TR E1 n e l'))]⟩⟩::acc) ((AS.aH [(i,.live (TR E1 n e l'))] S).set d (res.sI i))):RunT P C ops nd K (⟨some d,.call ⟨.value g,xs,at_⟩,ty,pos,aft,gd⟩::rest) acc S:=
 RT.PM hg hp i hR hrow hres hf hargs hd (by rw[MI hlen];exact next)
theorem RT.Qb(hg:Gd ops S gd rg)[tS:cK P T E0 n]{i o m:Nat}{E1:TypeId}{lo hi:Option Operand}(a b:Int)(hx:S.ev x=.row i)(hR:S.r i=.live (TR E1 n e l))(hlo:va S 0 lo a)(hhi:va S l.length hi b)(hd:d<S.n)(h:MH l a b=some (o,m))
  (next:RunT P C ops nd K rest (⟨rg++(af x++(jq lo++jq hi)),[],[i],⟨some (d,.jg i (o*n) m),[],[]⟩⟩::acc) (S.set d (.jg i (o*n) m))):RunT P C ops nd K (⟨some d,.slice T x lo hi none,ty,pos,aft,gd⟩::rest) acc S:=by
 obtain⟨h0,h1,h2,h3,h4,h5⟩:=FO h
 exact RT.Mm hg (.row hx hR) a b hlo hhi hd h0 h1 h2 h3 (o*n) m (by rw[h4];omega) h5 next
theorem RT.MK(hg:Gd ops S gd rg){m:Nat}[tS:cK P T E0 m]{i o q:Nat}{c:Int}(hx:S.ev x=.jg i o q)(hd:d<S.n)(hc:(q:Int)=c)
  (next:RunT P C ops nd K rest (⟨rg++af x,[],[],⟨some (d,.sv (.v (.int .i64 c))),[],[]⟩⟩::acc) (S.set d (.sv (.v (.int .i64 c))))):RunT P C ops nd K (⟨some d,.call ⟨.builtin .len,#[x],#[T]⟩,ty,pos,aft,gd⟩::rest) acc S:=
 RT.PL hg hx hd (by rw[hc];exact next)
theorem RT.Ae(hg:Gd ops S gd rg)[tS:cK P T E0 n]{i o q j:Nat}{kk:IntKind}{v:Int}(hx:S.ev x=.jg i (o*n) q)(hy:S.ev y=.sv (.v (.int kk v)))(hd:d<S.n)(h:H6 o q v=some j)
  (next:RunT P C ops nd K rest (⟨rg++(af x++af y),[],[],⟨some (d,.eK i (j*n)),[],[]⟩⟩::acc) (S.set d (.eK i (j*n)))):RunT P C ops nd K (⟨some d,.indexAddr T x y,ty,pos,aft,gd⟩::rest) acc S:=by
 obtain⟨h0,h1,h2⟩:=FP h
 exact RT.ixR hg (.jg hx) hy hd h0 h1 (j*n) (by rw[←h2,Nat.add_mul]) next
end steps
def m9{S:Type}(body:Nat→S→Option S):Nat→S→Option S
 |0,s=>some s
 |n+1,s=>(m9 body n s).bind (body n)
theorem kN{S:Type}{body:Nat→S→Option S}:∀{n:Nat} {s e:S},m9 body n s=some e→∃st:Nat→S,st 0=s∧(∀k,k<n→body k (st k)=some (st (k+1)))∧st n=e
 |0,s,e,h=>⟨fun _=>s,rfl,fun _ h=>by omega,Option.some.inj h⟩
 |n+1,s,e,h=>by
  obtain⟨e1,h1,h2⟩:=bind_some (x:=m9 body n s) h
  obtain⟨st,q1,q2,q3⟩:=kN h1
  refine⟨fun k=>if k=n+1 then e else st k,by simpa using q1,fun k hk=>?_,by simp⟩
  rcases Nat.lt_or_ge k n with hkn|hkn
  ·simpa[show k≠n+1 by omega,show k≠n by omega]using q2 k hkn
  ·obtain rfl:k=n:=by omega
   simpa[q3]using h2
theorem xo{S:Type}{body:Nat→S→Option S}(st:Nat→S):∀(n:Nat),(∀k,k<n→body k (st k)=some (st (k+1)))→m9 body n (st 0)=some (st n)
 |0,_=>rfl
 |n+1,h=>by
  rw[m9,xo st n (fun k hk=>h k (by omega))]
  exact h n (by omega)
end Go.Fw
namespace Go.Fw
open Go.RowKit
def FR(es:List (Value×Value)):SV where
 h M v:=∃b,v=.map (some b)∧M b 0=some (.tuple ⟨es.map fun p=>.tuple #[p.1,p.2]⟩)
 mono hM h:=by obtain⟨b,e,h⟩:=h;exact⟨b,e,hM _ _ _ h⟩
class CU (P:Program) (T:TypeId) (k:outParam TypeId) (e:outParam TypeId):Prop where
 u:P.underlying T=some (.map k e)
def xp(k:IntKind)(n:Int):List (Value×Value)→Option Value
 |[]=>none
 |(.int k' m,v)::l=>if k=k' then(if n=m then some v else xp k n l)else none
 |_::_=>none
theorem oG{k:IntKind}{n:Int}{v:Value}:∀(es:List MapEntry) (i:Nat),xp k n (es.map fun e=>(e.key,e.val))=some v→∃j,Instr.findNow (.int k) (.int k n) es i=some (some (j,v))
 |[],_,h=>by simp[xp]at h
 |⟨key,val,born⟩::es,i,h=>by
  cases key with
  |int k' m=>
   simp only[List.map_cons,xp]at h
   by_cases hk:k=k'
   ·subst hk
    rw[if_pos rfl]at h
    by_cases hn:n=m
    ·subst hn
     rw[if_pos rfl]at h
     cases h
     exact⟨i,by simp[Instr.findNow,Instr.sameNow]⟩
    ·rw[if_neg hn]at h
     obtain⟨j,hj⟩:=oG es (i+1) h
     have hb:(n==m)=false:=by simp[hn]
     exact⟨j,by simp[Instr.findNow,Instr.sameNow,hb,hj]⟩
   ·rw[if_neg hk]at h;cases h
  |_=>simp[xp]at h
theorem CV:∀(l:List (Value×Value)) (m:List MapEntry),l.map (fun p=>Value.tuple #[p.1,p.2])=m.map (fun e=>Value.tuple #[e.key,e.val])→m.map (fun e=>(e.key,e.val))=l
 |[],[],_=>rfl
 |[],_::_,h=>by simp at h
 |_::_,[],h=>by simp at h
 |(p,q)::l,e::m,h=>by
  simp only[List.map_cons,List.cons.injEq,Value.tuple.injEq]at h⊢
  refine⟨?_,CV l m h.2⟩
  have:=h.1
  simp at this
  rw[this.1,this.2]
theorem FU{es:Array MapEntry}{l:List (Value×Value)}(h:(⟨l.map fun p=>.tuple #[p.1,p.2]⟩:Array Value)=Ii es):es.toList.map (fun e=>(e.key,e.val))=l:=
 CV l es.toList (congrArg Array.toList h)
theorem getM{P:Program}{w:World}{r:Nat}{es:Array MapEntry}{ck:Nat}(hb:w.heap[r]? =some (.map es ck)):(getObj r).run P w=.ok (.map es ck) w:=by simp[getObj,Sem.run,hb]
theorem Yh{P:Program}{w:World}{r:Nat}{es:Array MapEntry}{ck:Nat}(o:Obj)(hb:w.heap[r]? =some (.map es ck)):(setObj r o).run P w=.ok () {w with heap:=w.heap.setIfInBounds r o}:=by simp[setObj,Sem.run,hb]
theorem ckM{P:Program}{w:World}{kt:TypeId}{k:IntKind}[tI:eE P kt k]{n:Int}(bb:Bool):(Instr.checkKey bb 10000 kt (.int k n)).run P w=.ok () w:=by
 rw[show(10000:Nat)=9999+1 from rfl,Instr.checkKey]
 simp[underlying,tI.h]
theorem FV{M:Mem}:∀l:List Value,SV.cG M (l.map SV.v) l
 |[]=>trivial
 |_::l=>⟨rfl,FV l⟩
section steps
variable {P:Program}{C:Ctx}{ops:Array Oper}{S:AS}{nd:Bool}{K:List Ac→AS→Prop}{rest:List Oper}{acc:List Ac}
variable {gd:Option (Nat×Bool)}{rg:List Nat}{d:Nat}{ty:TypeId}{pos:String}{aft:Array Edge}{x y z:Operand}{T U E0:TypeId}
theorem RT.look(hg:Gd ops S gd rg){kt et:TypeId}[tM:CU P T kt et]{k:IntKind}[tI:eE P kt k]{es:List (Value×Value)}{n:Int}(cs:List Value)(hx:S.ev x=.sv (FR es))(hy:S.ev y=.sv (.v (.int k n)))(hl:xp k n es=some (.agg ⟨cs⟩))(hd:d<S.n)
  (next:RunT P C ops nd K rest (⟨rg++(af x++af y),[],[],⟨some (d,.sv (.agg (cs.map SV.v))),[],[]⟩⟩::acc) (S.set d (.sv (.agg (cs.map SV.v))))):RunT P C ops nd K (⟨some d,.lookup T x y false,ty,pos,aft,gd⟩::rest) acc S:=
 RT.value hg (af x++af y) [] [] (.sv (.agg (cs.map SV.v))) hd (by intro c h;cases h) (fun S' ht _ _ E a w h=>by
  have h1:=h.ev x
  rw[az (fun _ h=>List.mem_append_left _ h) ht,hx]at h1
  have h2:a.eval y=.int k n:=by have h2:=h.ev y;rw[az (fun _ h=>List.mem_append_right _ h) ht,hy]at h2;exact h2
  obtain⟨b,e,hb⟩:=h1
  obtain⟨ms,ck,hm,he⟩:=h.bu _ _ _ hb
  have he:=FU he
  rw[←he]at hl
  obtain⟨j,hj⟩:=oG ms.toList 0 hl
  refine⟨.agg ⟨cs⟩,?_,⟨cs,rfl,?_⟩,cS⟩
  ·have Yi:(Instr.findKey kt (.int k n) ms.toList).run P w=.ok (some (j,.agg ⟨cs⟩)) w:=by
    simp[Instr.findKey,underlying,tI.h,hj]
   simp[execOp,e,h2,Instr.lookup,underlying,tM.u,getM hm,ckM,Yi]
  ·exact FV cs) next
def nc(w:World)(ms:Array MapEntry)(ck:Nat):World:=w.alloc (.map ms ck)
theorem rN(w:World)(ms:Array MapEntry)(ck:Nat):(nc w ms ck).heap[w.heap.size]? =some (.map ms ck):=by show(w.heap.push _)[w.heap.size]? =_;simp
theorem run_make{d:Option Nat}{ρ:Operand→Value}{w:World}:(execOp ρ ⟨d,.makeMap T none,ty,pos,aft,none⟩).run P w=.ok (.value (.map (some w.heap.size))) (nc w #[] 0):=by
 simp[execOp,Instr.makeMap,nc]
theorem ur{d:Option Nat}{kt et:TypeId}[tM:CU P T kt et]{k:IntKind}[tI:eE P kt k]{ρ:Operand→Value}{w:World}{ms:Array MapEntry}{ck:Nat}{n:Int}{v:Value}(hx:ρ x=.map (some w.heap.size))(hy:ρ y=.int k n)(hz:ρ z=v)
  (hf:Instr.findNow (.int k) (.int k n) ms.toList 0=some none):(execOp ρ ⟨d,.insert T x y z,ty,pos,aft,none⟩).run P (nc w ms ck)=.ok .skip (nc w (ms.push ⟨.int k n,v,ck⟩) (ck+1)):=by
 have Yi:(Instr.findKey kt (.int k n) ms.toList).run P (nc w ms ck)=.ok none (nc w ms ck):=by
  simp[Instr.findKey,underlying,tI.h,hf]
 have Yj:∀o:Obj,{nc w ms ck with heap:=(nc w ms ck).heap.setIfInBounds w.heap.size o}=w.alloc o:=by
  intro o
  simp only[nc,World.alloc]
  congr 1
  apply Array.ext'
  simp
 simp[execOp,hx,hy,hz,Instr.mapUpdate,underlying,tM.u,getM (rN w ms ck),ckM,Yi,Yh _ (rN w ms ck)]
 exact Yj _
theorem uu{d:Option Nat}{z0:Value}[tP:bf P U [(0,1)] [z0]]{ρ:Operand→Value}{w:World}{v:Value}(hx:ρ x=v)(hv:v.oneCell'=true):(execOp ρ ⟨d,.build U #[(0,x)],ty,pos,aft,none⟩).run P w=.ok (.value (.agg #[v])) w:=by
 have hu:=tP.h
 cases hT:P.underlying U with
 |none=>rw[hT]at hu;cases hu
 |some u=>
  rw[hT]at hu
  cases u with
  |struct fs=>
   simp only at hu
   have hz:(zeroValue U).run P w=.ok (.agg ⟨[z0]⟩) w:=au.run (t:=⟨tP.hz⟩) w
   have hm:(fs.mapM (fun f=>do pure (f.offset,←sizeOf f.type):Field→Sem (Nat×Nat))).run P w=.ok #[(0,1)] w:=by
    have:=kf (P:=P) (w:=w) hu
    rw[←Array.toArray_toList (xs:=fs),List.mapM_toArray]
    rw[Sem.run_map,this];rfl
   simp only[execOp,Instr.build,underlying]
   simp only[Sem.run_bind,hz,Result.andThen_ok,run_program,hT,Sem.run_pure,Value.cells]
   have hm':(Array.mapM (fun f=>do
     let __do_lift←sizeOf f.type
     pure (f.offset,__do_lift)) fs:Sem _).run P w=.ok #[(0,1)] w:=hm
   simp only[hm',Result.andThen_ok]
   have h1':Instr.fill (fun i=>(#[(0,1)]:Array (Nat×Nat))[i]?) ⟨[z0]⟩ [(0,v)]=some ⟨[v]⟩:=by
    simp[Instr.fill,fz hv]
    try rfl
   have e4:(Array.map (fun x=>match x with|(i,x)=>(i,ρ x)) #[(0,x)]).toList=[(0,v)]:=by simp[hx]
   simp only[e4,h1',Sem.run_pure,Result.andThen_ok]
  |_=>cases hu
theorem IM{Q:Exit→AS→Prop}{id:Nat}{T U kt et t0:TypeId}[tM:CU P T kt et]{k:IntKind}[tI:eE P kt k]{z0:Value}[tP:bf P U [(0,1)] [z0]]{f1 f2 f3 f4:FuncId}{n1 n2 n3 n4:Int}
  {p0 p1 p2 p3 p4 p5 p6 p7 p8 p9 p10:String} {a0 a1 a2 a3 a4 a5 a6 a7 a8 a9 a10:Array Edge} {u1 u2 u3 u4 u5 u6 u7 u8 u9:TypeId} (hn:7≤S.n)
  (h2:Instr.findNow (.int k) (.int k n2) [⟨.int k n1,.agg #[.func (.func f1) #[] #[]],0⟩] 0=some none)
  (h3:Instr.findNow (.int k) (.int k n3) [⟨.int k n1,.agg #[.func (.func f1) #[] #[]],0⟩,⟨.int k n2,.agg #[.func (.func f2) #[] #[]],1⟩] 0=some none)
  (h4:Instr.findNow (.int k) (.int k n4) [⟨.int k n1,.agg #[.func (.func f1) #[] #[]],0⟩,⟨.int k n2,.agg #[.func (.func f2) #[] #[]],1⟩,⟨.int k n3,.agg #[.func (.func f3) #[] #[]],2⟩] 0=some none)
  (hQ:∀S',S'.t 0=.sv (FR [(.int k n1,.agg #[.func (.func f1) #[] #[]]),(.int k n2,.agg #[.func (.func f2) #[] #[]]),(.int k n3,.agg #[.func (.func f3) #[] #[]]),(.int k n4,.agg #[.func (.func f4) #[] #[]])])→Q .normal S'):
  Ok P C (.region id #[⟨some 1,.makeMap T none,t0,p0,a0,none⟩,⟨some 2,.build U #[(0,.func f1)],u1,p1,a1,none⟩,⟨none,.insert T (.tmp 1) (.const (.int k n1)) (.tmp 2),u2,p2,a2,none⟩,
   ⟨some 3,.build U #[(0,.func f2)],u3,p3,a3,none⟩,⟨none,.insert T (.tmp 1) (.const (.int k n2)) (.tmp 3),u4,p4,a4,none⟩,⟨some 4,.build U #[(0,.func f3)],u5,p5,a5,none⟩,⟨none,.insert T (.tmp 1) (.const (.int k n3)) (.tmp 4),u6,p6,a6,none⟩,
   ⟨some 5,.build U #[(0,.func f4)],u7,p7,a7,none⟩,⟨none,.insert T (.tmp 1) (.const (.int k n4)) (.tmp 5),u8,p8,a8,none⟩,⟨some 6,.move (.tmp 1),u9,p9,a9,none⟩,⟨some 0,.assign (.tmp 6),u9,p10,a10,none⟩] false) S Q:=by
 rintro a w ⟨E,h⟩
 refine wpIn_region ?_
 show wpOpsIn _ _ _ _ _ [0,1,2,3,4,5,6,7,8,9,10] a w
 have hS:∀(S:AS) (d:Nat) (x:AV),(S.set d x).n=S.n:=fun _ _ _=>rfl
 rw[wpOpsIn_cons]
 refine aX (C:=C) rfl rfl (aY (C:=C) (by intro c h;cases h) run_make ?_)
 have g1:=h.put (d:=1) (x:=.sv (.v (.map (some w.heap.size)))) (v:=.map (some w.heap.size)) rfl (by omega) cS
 show wpOpsIn _ _ _ _ _ _ (a.put (some 1) _) _
 generalize a.put (some 1) (.map (some w.heap.size))=b1 at g1⊢
 rw[wpOpsIn_cons]
 refine aX (C:=C) rfl rfl (aY (C:=C) (by intro c h;cases h) (uu rfl rfl) ?_)
 have g2:=g1.put (d:=2) (x:=.sv (.v (.agg #[.func (.func f1) #[] #[]]))) (v:=.agg #[.func (.func f1) #[] #[]]) rfl (by rw[hS];omega) cS
 show wpOpsIn _ _ _ _ _ _ (b1.put (some 2) (.agg #[.func (.func f1) #[] #[]])) _
 generalize b1.put (some 2) (.agg #[.func (.func f1) #[] #[]])=b2 at g2⊢
 rw[wpOpsIn_cons]
 refine aX (C:=C) rfl rfl (aY (C:=C) (by intro c h;cases h) (ur (k:=k) (n:=n1) (v:=.agg #[.func (.func f1) #[] #[]]) (g2.ev (.tmp 1)) rfl (g2.ev (.tmp 2)) rfl) ?_)
 show wpOpsIn _ _ _ _ _ _ (b2.put none undef) _
 rw[show b2.put none undef=b2 from rfl,wpOpsIn_cons]
 refine aX (C:=C) rfl rfl (aY (C:=C) (by intro c h;cases h) (uu rfl rfl) ?_)
 have g3:=g2.put (d:=3) (x:=.sv (.v (.agg #[.func (.func f2) #[] #[]]))) (v:=.agg #[.func (.func f2) #[] #[]]) rfl (by rw[hS,hS];omega) cS
 show wpOpsIn _ _ _ _ _ _ (b2.put (some 3) (.agg #[.func (.func f2) #[] #[]])) _
 generalize b2.put (some 3) (.agg #[.func (.func f2) #[] #[]])=b3 at g3⊢
 rw[wpOpsIn_cons]
 refine aX (C:=C) rfl rfl (aY (C:=C) (by intro c h;cases h) (ur (k:=k) (n:=n2) (v:=.agg #[.func (.func f2) #[] #[]]) (g3.ev (.tmp 1)) rfl (g3.ev (.tmp 3)) (by simpa using h2)) ?_)
 show wpOpsIn _ _ _ _ _ _ (b3.put none undef) _
 rw[show b3.put none undef=b3 from rfl,wpOpsIn_cons]
 refine aX (C:=C) rfl rfl (aY (C:=C) (by intro c h;cases h) (uu rfl rfl) ?_)
 have g4:=g3.put (d:=4) (x:=.sv (.v (.agg #[.func (.func f3) #[] #[]]))) (v:=.agg #[.func (.func f3) #[] #[]]) rfl (by rw[hS,hS,hS];omega) cS
 show wpOpsIn _ _ _ _ _ _ (b3.put (some 4) (.agg #[.func (.func f3) #[] #[]])) _
 generalize b3.put (some 4) (.agg #[.func (.func f3) #[] #[]])=b4 at g4⊢
 rw[wpOpsIn_cons]
 refine aX (C:=C) rfl rfl (aY (C:=C) (by intro c h;cases h) (ur (k:=k) (n:=n3) (v:=.agg #[.func (.func f3) #[] #[]]) (g4.ev (.tmp 1)) rfl (g4.ev (.tmp 4)) (by simpa using h3)) ?_)
 show wpOpsIn _ _ _ _ _ _ (b4.put none undef) _
 rw[show b4.put none undef=b4 from rfl,wpOpsIn_cons]
 refine aX (C:=C) rfl rfl (aY (C:=C) (by intro c h;cases h) (uu rfl rfl) ?_)
 have g5:=g4.put (d:=5) (x:=.sv (.v (.agg #[.func (.func f4) #[] #[]]))) (v:=.agg #[.func (.func f4) #[] #[]]) rfl (by rw[hS,hS,hS,hS];omega) cS
 show wpOpsIn _ _ _ _ _ _ (b4.put (some 5) (.agg #[.func (.func f4) #[] #[]])) _
 generalize b4.put (some 5) (.agg #[.func (.func f4) #[] #[]])=b5 at g5⊢
 rw[wpOpsIn_cons]
 refine aX (C:=C) rfl rfl (aY (C:=C) (by intro c h;cases h) (ur (k:=k) (n:=n4) (v:=.agg #[.func (.func f4) #[] #[]]) (g5.ev (.tmp 1)) rfl (g5.ev (.tmp 5)) (by simpa using h4)) ?_)
 show wpOpsIn _ _ _ _ _ _ (b5.put none undef) _
 have e1:b5.eval (.tmp 1)=.map (some w.heap.size):=g5.ev (.tmp 1)
 obtain⟨ms,hms⟩:∃ms:Array MapEntry,(((((#[]:Array MapEntry).push ⟨.int k n1,.agg #[.func (.func f1) #[] #[]],0⟩).push ⟨.int k n2,.agg #[.func (.func f2) #[] #[]],0+1⟩).push ⟨.int k n3,.agg #[.func (.func f3) #[] #[]],0+1+1⟩).push ⟨.int k n4,.agg #[.func (.func f4) #[] #[]],0+1+1+1⟩)=ms:=⟨_,rfl⟩
 rw[hms]
 have hno:∀o,E.M w.heap.size o=none:=fun o=>by
  cases e:E.M w.heap.size o with
  |none=>rfl
  |some v=>have:=ga h.bu e;omega
 have g6:=g5.grow (M':=fun b o=>if b=w.heap.size∧o=0 then some (.tuple (Ii ms))else E.M b o) (w':=nc w ms (0+1+1+1+1)) (fun b o v e=>by
   have:b≠w.heap.size:=by rintro rfl;rw[hno o]at e;cases e
   simp[this,e]) (fun b o v e=>by
   by_cases hb:b=w.heap.size∧o=0
   ·exact .inr (by omega)
   ·simp only[if_neg hb]at e;exact .inl e) (fun b o v e=>by
   by_cases hb:b=w.heap.size∧o=0
   ·simp only[if_pos hb]at e
    obtain⟨rfl,rfl⟩:=hb
    cases e
    exact⟨ms,_,rN w ms _,rfl⟩
   ·simp only[if_neg hb]at e
    have hlt:=ga h.bu e
    refine(h.bu b o v e).same ?_
    show(w.heap.push _)[b]? =_
    rw[Array.getElem?_push,if_neg (by omega)]) ((Below.refl _ _).alloc (Nat.le_refl _) _)
 have hm:∀X:Env,X.M w.heap.size 0=some (.tuple (Ii ms))→(FR [(.int k n1,.agg #[.func (.func f1) #[] #[]]),(.int k n2,.agg #[.func (.func f2) #[] #[]]),(.int k n3,.agg #[.func (.func f3) #[] #[]]),(.int k n4,.agg #[.func (.func f4) #[] #[]])]).h X.M (.map (some w.heap.size)):=fun X hX=>by
  refine⟨_,rfl,?_⟩
  rw[hX,←hms];rfl
 have g7:=g6.put (d:=6) (x:=.sv (.v (.map (some w.heap.size)))) (v:=.map (some w.heap.size)) rfl (by rw[hS,hS,hS,hS,hS];omega) cS
 rw[show b5.put none undef=b5 from rfl,wpOpsIn_cons]
 refine aX (C:=C) rfl rfl (aY (C:=C) (by intro c h;cases h) (r:=.ok (.value (.map (some w.heap.size))) _) (by show Result.ok (Next.value (b5.eval (.tmp 1))) _=_;rw[e1]) ?_)
 show wpOpsIn _ _ _ _ _ _ (b5.put (some 6) (.map (some w.heap.size))) _
 generalize b5.put (some 6) (.map (some w.heap.size))=b6 at g7⊢
 have e6:b6.eval (.tmp 6)=.map (some w.heap.size):=g7.ev (.tmp 6)
 have g8:=g7.put (d:=0) (x:=.sv (FR [(.int k n1,.agg #[.func (.func f1) #[] #[]]),(.int k n2,.agg #[.func (.func f2) #[] #[]]),(.int k n3,.agg #[.func (.func f3) #[] #[]]),(.int k n4,.agg #[.func (.func f4) #[] #[]])])) (v:=.map (some w.heap.size)) (hm _ (by simp)) (by rw[hS,hS,hS,hS,hS,hS];omega) cS
 rw[wpOpsIn_cons]
 refine aX (C:=C) rfl rfl (aY (C:=C) (by intro c h;cases h) (r:=.ok (.value (.map (some w.heap.size))) _) (by show Result.ok (Next.value (b6.eval (.tmp 6))) _=_;rw[e6]) ?_)
 show wpOpsIn _ _ _ _ _ _ (b6.put (some 0) (.map (some w.heap.size))) _
 rw[wpOpsIn]
 exact⟨_,hQ _ rfl,_,g8⟩
end steps
def O9(Q:Exit→AS→Prop):Exit→AS→Prop
 |.goto _,_=>False
 |e,S=>Q e S
section scope
variable {P:Program}{C:Ctx}{S:AS}{Q:Exit→AS→Prop}
theorem O9.n(h:Q .normal S):O9 Q .normal S:=h
theorem O9.r(h:Q .ret S):O9 Q .ret S:=h
theorem O9.x{id:Nat}(h:Q (.exit id) S):O9 Q (.exit id) S:=h
end scope
end Go.Fw
namespace Go.Fw
open Go.RowKit
class FW (P:Program) (T:TypeId) (n:outParam Nat) (E:outParam TypeId) (sz:outParam Nat) (z:outParam (List Value)):Prop where
 u:P.underlying T=some (.array n E)
 s:(P.info? E).map (·.size)=some sz
 hz:(P.info? T).bind (·.zero)=some (.agg ⟨z⟩)
 o:z.all (fun v=>v.oneCell')=true
theorem FW.size{P:Program}{T E:TypeId}{n sz:Nat}{z:List Value}[t:FW P T n E sz z](w:World):(sizeOf E).run P w=.ok sz w:=by
 have h:=t.s
 unfold Go.sizeOf typeInfo
 cases hi:P.info? E with
 |none=>rw[hi]at h;simp at h
 |some i=>rw[hi]at h;simp at h;simp[hi,h]
section
variable {P:Program}{C:Ctx}{ops:Array Oper}{S:AS}{nd:Bool}{K:List Ac→AS→Prop}{rest:List Oper}{acc:List Ac}
variable {gd:Option (Nat×Bool)}{rg:List Nat}{d:Nat}{ty:TypeId}{pos:String}{aft:Array Edge}{x y z:Operand}{T U E0:TypeId}
end
end Go.Fw
namespace Go.Proofs.Ytmiflmkdaeianaa
open Go.Fw
open Go.Proofs
instance:bY Try.prog 1:=⟨by kernel_rfl,by kernel_rfl⟩
instance:au Try.prog 1 (.nilFunc):=⟨by kernel_rfl⟩
instance:aB Try.prog 1 1 8 (.nilFunc):=⟨by kernel_rfl,by rfl,by decide,by decide⟩
instance:eE Try.prog 2 .i64:=⟨by kernel_rfl⟩
instance:bY Try.prog 2:=⟨by kernel_rfl,by kernel_rfl⟩
instance:au Try.prog 2 (.int .i64 0):=⟨by kernel_rfl⟩
instance:aB Try.prog 2 1 8 (.int .i64 0):=⟨by kernel_rfl,by rfl,by decide,by decide⟩
instance:eE Try.prog 3 .i64:=⟨by kernel_rfl⟩
instance:bY Try.prog 3:=⟨by kernel_rfl,by kernel_rfl⟩
instance:au Try.prog 3 (.int .i64 0):=⟨by kernel_rfl⟩
instance:aB Try.prog 3 1 8 (.int .i64 0):=⟨by kernel_rfl,by rfl,by decide,by decide⟩
instance:uR Try.prog 4:=⟨by kernel_rfl⟩
instance:bY Try.prog 4:=⟨by kernel_rfl,by kernel_rfl⟩
instance:au Try.prog 4 (.bool false):=⟨by kernel_rfl⟩
instance:aB Try.prog 4 1 1 (.bool false):=⟨by kernel_rfl,by rfl,by decide,by decide⟩
instance:eE Try.prog 5 .u8:=⟨by kernel_rfl⟩
instance:bY Try.prog 5:=⟨by kernel_rfl,by kernel_rfl⟩
instance:au Try.prog 5 (.int .u8 0):=⟨by kernel_rfl⟩
instance:aB Try.prog 5 1 1 (.int .u8 0):=⟨by kernel_rfl,by rfl,by decide,by decide⟩
instance:eE Try.prog 6 .u8:=⟨by kernel_rfl⟩
instance:bY Try.prog 6:=⟨by kernel_rfl,by kernel_rfl⟩
instance:au Try.prog 6 (.int .u8 0):=⟨by kernel_rfl⟩
instance:aB Try.prog 6 1 1 (.int .u8 0):=⟨by kernel_rfl,by rfl,by decide,by decide⟩
instance:fm Try.prog 7 4:=⟨by kernel_rfl,by kernel_rfl⟩
instance:dN Try.prog 7:=⟨fun w=>⟨3,fm.size (T:=7) (n:=4) w⟩⟩
instance:au Try.prog 7 (.agg #[.int .i64 0,.int .i64 0,.bool false,.int .u8 0]):=⟨by kernel_rfl⟩
instance:aB Try.prog 7 4 24 (.agg #[.int .i64 0,.int .i64 0,.bool false,.int .u8 0]):=⟨by kernel_rfl,by rfl,by decide,by decide⟩
instance:bf Try.prog 7 [(0,1),(1,1),(2,1),(3,1)] [.int .i64 0,.int .i64 0,.bool false,.int .u8 0]:=⟨by kernel_rfl,by kernel_rfl,by rfl⟩
instance:dR Try.prog 7 0 0 2:=⟨by kernel_rfl⟩
instance:dR Try.prog 7 1 1 3:=⟨by kernel_rfl⟩
instance:dR Try.prog 7 2 2 4:=⟨by kernel_rfl⟩
instance:dR Try.prog 7 3 3 6:=⟨by kernel_rfl⟩
instance:fm Try.prog 8 4:=⟨by kernel_rfl,by kernel_rfl⟩
instance:dN Try.prog 8:=⟨fun w=>⟨3,fm.size (T:=8) (n:=4) w⟩⟩
instance:au Try.prog 8 (.agg #[.int .i64 0,.int .i64 0,.bool false,.int .u8 0]):=⟨by kernel_rfl⟩
instance:aB Try.prog 8 4 24 (.agg #[.int .i64 0,.int .i64 0,.bool false,.int .u8 0]):=⟨by kernel_rfl,by rfl,by decide,by decide⟩
instance:bf Try.prog 8 [(0,1),(1,1),(2,1),(3,1)] [.int .i64 0,.int .i64 0,.bool false,.int .u8 0]:=⟨by kernel_rfl,by kernel_rfl,by rfl⟩
instance:dR Try.prog 8 0 0 2:=⟨by kernel_rfl⟩
instance:dR Try.prog 8 1 1 3:=⟨by kernel_rfl⟩
instance:dR Try.prog 8 2 2 4:=⟨by kernel_rfl⟩
instance:dR Try.prog 8 3 3 6:=⟨by kernel_rfl⟩
instance:zO Try.prog 9:=⟨by kernel_rfl⟩
instance:bY Try.prog 9:=⟨by kernel_rfl,by kernel_rfl⟩
instance:au Try.prog 9 (.string (ByteArray.mk #[])):=⟨by kernel_rfl⟩
instance:aB Try.prog 9 1 16 (.string (ByteArray.mk #[])):=⟨by kernel_rfl,by rfl,by decide,by decide⟩
instance:zO Try.prog 10:=⟨by kernel_rfl⟩
instance:bY Try.prog 10:=⟨by kernel_rfl,by kernel_rfl⟩
instance:au Try.prog 10 (.string (ByteArray.mk #[])):=⟨by kernel_rfl⟩
instance:aB Try.prog 10 1 16 (.string (ByteArray.mk #[])):=⟨by kernel_rfl,by rfl,by decide,by decide⟩
instance:zO Try.prog 11:=⟨by kernel_rfl⟩
instance:bY Try.prog 11:=⟨by kernel_rfl,by kernel_rfl⟩
instance:au Try.prog 11 (.string (ByteArray.mk #[])):=⟨by kernel_rfl⟩
instance:aB Try.prog 11 1 16 (.string (ByteArray.mk #[])):=⟨by kernel_rfl,by rfl,by decide,by decide⟩
instance:eE Try.prog 12 .u64:=⟨by kernel_rfl⟩
instance:bY Try.prog 12:=⟨by kernel_rfl,by kernel_rfl⟩
instance:au Try.prog 12 (.int .u64 0):=⟨by kernel_rfl⟩
instance:aB Try.prog 12 1 8 (.int .u64 0):=⟨by kernel_rfl,by rfl,by decide,by decide⟩
instance:fm Try.prog 13 2:=⟨by kernel_rfl,by kernel_rfl⟩
instance:dN Try.prog 13:=⟨fun w=>⟨1,fm.size (T:=13) (n:=2) w⟩⟩
instance:au Try.prog 13 (.agg #[.string (ByteArray.mk #[]),.int .u64 0]):=⟨by kernel_rfl⟩
instance:aB Try.prog 13 2 24 (.agg #[.string (ByteArray.mk #[]),.int .u64 0]):=⟨by kernel_rfl,by rfl,by decide,by decide⟩
instance:bf Try.prog 13 [(0,1),(1,1)] [.string (ByteArray.mk #[]),.int .u64 0]:=⟨by kernel_rfl,by kernel_rfl,by rfl⟩
instance:dR Try.prog 13 0 0 9:=⟨by kernel_rfl⟩
instance:dR Try.prog 13 1 1 12:=⟨by kernel_rfl⟩
instance:fm Try.prog 14 2:=⟨by kernel_rfl,by kernel_rfl⟩
instance:dN Try.prog 14:=⟨fun w=>⟨1,fm.size (T:=14) (n:=2) w⟩⟩
instance:au Try.prog 14 (.agg #[.string (ByteArray.mk #[]),.int .u64 0]):=⟨by kernel_rfl⟩
instance:aB Try.prog 14 2 24 (.agg #[.string (ByteArray.mk #[]),.int .u64 0]):=⟨by kernel_rfl,by rfl,by decide,by decide⟩
instance:bf Try.prog 14 [(0,1),(1,1)] [.string (ByteArray.mk #[]),.int .u64 0]:=⟨by kernel_rfl,by kernel_rfl,by rfl⟩
instance:dR Try.prog 14 0 0 9:=⟨by kernel_rfl⟩
instance:dR Try.prog 14 1 1 12:=⟨by kernel_rfl⟩
instance:bY Try.prog 15:=⟨by kernel_rfl,by kernel_rfl⟩
instance:au Try.prog 15 (.pointer none):=⟨by kernel_rfl⟩
instance:aB Try.prog 15 1 8 (.pointer none):=⟨by kernel_rfl,by rfl,by decide,by decide⟩
instance:bY Try.prog 16:=⟨by kernel_rfl,by kernel_rfl⟩
instance:au Try.prog 16 (.pointer none):=⟨by kernel_rfl⟩
instance:aB Try.prog 16 1 8 (.pointer none):=⟨by kernel_rfl,by rfl,by decide,by decide⟩
instance:bY Try.prog 17:=⟨by kernel_rfl,by kernel_rfl⟩
instance:au Try.prog 17 (.pointer none):=⟨by kernel_rfl⟩
instance:aB Try.prog 17 1 8 (.pointer none):=⟨by kernel_rfl,by rfl,by decide,by decide⟩
instance:fm Try.prog 18 1:=⟨by kernel_rfl,by kernel_rfl⟩
instance:dN Try.prog 18:=⟨fun w=>⟨0,fm.size (T:=18) (n:=1) w⟩⟩
instance:au Try.prog 18 (.agg #[.pointer none]):=⟨by kernel_rfl⟩
instance:aB Try.prog 18 1 8 (.agg #[.pointer none]):=⟨by kernel_rfl,by rfl,by decide,by decide⟩
instance:bf Try.prog 18 [(0,1)] [.pointer none]:=⟨by kernel_rfl,by kernel_rfl,by rfl⟩
instance:dR Try.prog 18 0 0 17:=⟨by kernel_rfl⟩
instance:fm Try.prog 19 1:=⟨by kernel_rfl,by kernel_rfl⟩
instance:dN Try.prog 19:=⟨fun w=>⟨0,fm.size (T:=19) (n:=1) w⟩⟩
instance:au Try.prog 19 (.agg #[.pointer none]):=⟨by kernel_rfl⟩
instance:aB Try.prog 19 1 8 (.agg #[.pointer none]):=⟨by kernel_rfl,by rfl,by decide,by decide⟩
instance:bf Try.prog 19 [(0,1)] [.pointer none]:=⟨by kernel_rfl,by kernel_rfl,by rfl⟩
instance:dR Try.prog 19 0 0 17:=⟨by kernel_rfl⟩
instance:bY Try.prog 20:=⟨by kernel_rfl,by kernel_rfl⟩
instance:au Try.prog 20 (.nilIface):=⟨by kernel_rfl⟩
instance:aB Try.prog 20 1 16 (.nilIface):=⟨by kernel_rfl,by rfl,by decide,by decide⟩
instance:eE Try.prog 21 .i32:=⟨by kernel_rfl⟩
instance:bY Try.prog 21:=⟨by kernel_rfl,by kernel_rfl⟩
instance:au Try.prog 21 (.int .i32 0):=⟨by kernel_rfl⟩
instance:aB Try.prog 21 1 4 (.int .i32 0):=⟨by kernel_rfl,by rfl,by decide,by decide⟩
instance:bY Try.prog 22:=⟨by kernel_rfl,by kernel_rfl⟩
instance:au Try.prog 22 (.slice none 0 0):=⟨by kernel_rfl⟩
instance:aB Try.prog 22 1 24 (.slice none 0 0):=⟨by kernel_rfl,by rfl,by decide,by decide⟩
instance:cK Try.prog 22 80 1:=⟨by kernel_rfl,by kernel_rfl⟩
instance:fm Try.prog 23 2:=⟨by kernel_rfl,by kernel_rfl⟩
instance:dN Try.prog 23:=⟨fun w=>⟨1,fm.size (T:=23) (n:=2) w⟩⟩
instance:au Try.prog 23 (.agg #[.bool false,.slice none 0 0]):=⟨by kernel_rfl⟩
instance:aB Try.prog 23 2 32 (.agg #[.bool false,.slice none 0 0]):=⟨by kernel_rfl,by rfl,by decide,by decide⟩
instance:bf Try.prog 23 [(0,1),(1,1)] [.bool false,.slice none 0 0]:=⟨by kernel_rfl,by kernel_rfl,by rfl⟩
instance:dR Try.prog 23 0 0 4:=⟨by kernel_rfl⟩
instance:dR Try.prog 23 1 1 22:=⟨by kernel_rfl⟩
instance:fm Try.prog 24 2:=⟨by kernel_rfl,by kernel_rfl⟩
instance:dN Try.prog 24:=⟨fun w=>⟨1,fm.size (T:=24) (n:=2) w⟩⟩
instance:au Try.prog 24 (.agg #[.bool false,.slice none 0 0]):=⟨by kernel_rfl⟩
instance:aB Try.prog 24 2 32 (.agg #[.bool false,.slice none 0 0]):=⟨by kernel_rfl,by rfl,by decide,by decide⟩
instance:bf Try.prog 24 [(0,1),(1,1)] [.bool false,.slice none 0 0]:=⟨by kernel_rfl,by kernel_rfl,by rfl⟩
instance:dR Try.prog 24 0 0 4:=⟨by kernel_rfl⟩
instance:dR Try.prog 24 1 1 22:=⟨by kernel_rfl⟩
instance:fm Try.prog 25 4:=⟨by kernel_rfl,by kernel_rfl⟩
instance:dN Try.prog 25:=⟨fun w=>⟨3,fm.size (T:=25) (n:=4) w⟩⟩
instance:au Try.prog 25 (.agg #[.bool false,.slice none 0 0,.bool false,.slice none 0 0]):=⟨by kernel_rfl⟩
instance:aB Try.prog 25 4 64 (.agg #[.bool false,.slice none 0 0,.bool false,.slice none 0 0]):=⟨by kernel_rfl,by rfl,by decide,by decide⟩
instance:bf Try.prog 25 [(0,2),(2,2)] [.bool false,.slice none 0 0,.bool false,.slice none 0 0]:=⟨by kernel_rfl,by kernel_rfl,by rfl⟩
instance:dR Try.prog 25 0 0 24:=⟨by kernel_rfl⟩
instance:dR Try.prog 25 1 2 24:=⟨by kernel_rfl⟩
instance:fm Try.prog 26 4:=⟨by kernel_rfl,by kernel_rfl⟩
instance:dN Try.prog 26:=⟨fun w=>⟨3,fm.size (T:=26) (n:=4) w⟩⟩
instance:au Try.prog 26 (.agg #[.bool false,.slice none 0 0,.bool false,.slice none 0 0]):=⟨by kernel_rfl⟩
instance:aB Try.prog 26 4 64 (.agg #[.bool false,.slice none 0 0,.bool false,.slice none 0 0]):=⟨by kernel_rfl,by rfl,by decide,by decide⟩
instance:bf Try.prog 26 [(0,2),(2,2)] [.bool false,.slice none 0 0,.bool false,.slice none 0 0]:=⟨by kernel_rfl,by kernel_rfl,by rfl⟩
instance:dR Try.prog 26 0 0 24:=⟨by kernel_rfl⟩
instance:dR Try.prog 26 1 2 24:=⟨by kernel_rfl⟩
instance:bY Try.prog 27:=⟨by kernel_rfl,by kernel_rfl⟩
instance:au Try.prog 27 (.nilFunc):=⟨by kernel_rfl⟩
instance:aB Try.prog 27 1 8 (.nilFunc):=⟨by kernel_rfl,by rfl,by decide,by decide⟩
instance:bY Try.prog 28:=⟨by kernel_rfl,by kernel_rfl⟩
instance:au Try.prog 28 (.slice none 0 0):=⟨by kernel_rfl⟩
instance:aB Try.prog 28 1 24 (.slice none 0 0):=⟨by kernel_rfl,by rfl,by decide,by decide⟩
instance:cK Try.prog 28 26 4:=⟨by kernel_rfl,by kernel_rfl⟩
instance:bY Try.prog 29:=⟨by kernel_rfl,by kernel_rfl⟩
instance:au Try.prog 29 (.nilFunc):=⟨by kernel_rfl⟩
instance:aB Try.prog 29 1 8 (.nilFunc):=⟨by kernel_rfl,by rfl,by decide,by decide⟩
instance:bY Try.prog 30:=⟨by kernel_rfl,by kernel_rfl⟩
instance:au Try.prog 30 (.nilFunc):=⟨by kernel_rfl⟩
instance:aB Try.prog 30 1 8 (.nilFunc):=⟨by kernel_rfl,by rfl,by decide,by decide⟩
instance:bY Try.prog 31:=⟨by kernel_rfl,by kernel_rfl⟩
instance:au Try.prog 31 (.nilFunc):=⟨by kernel_rfl⟩
instance:aB Try.prog 31 1 8 (.nilFunc):=⟨by kernel_rfl,by rfl,by decide,by decide⟩
instance:bY Try.prog 32:=⟨by kernel_rfl,by kernel_rfl⟩
instance:au Try.prog 32 (.nilFunc):=⟨by kernel_rfl⟩
instance:aB Try.prog 32 1 8 (.nilFunc):=⟨by kernel_rfl,by rfl,by decide,by decide⟩
instance:bY Try.prog 33:=⟨by kernel_rfl,by kernel_rfl⟩
instance:au Try.prog 33 (.slice none 0 0):=⟨by kernel_rfl⟩
instance:aB Try.prog 33 1 24 (.slice none 0 0):=⟨by kernel_rfl,by rfl,by decide,by decide⟩
instance:cK Try.prog 33 56 7:=⟨by kernel_rfl,by kernel_rfl⟩
instance:bY Try.prog 34:=⟨by kernel_rfl,by kernel_rfl⟩
instance:au Try.prog 34 (.nilFunc):=⟨by kernel_rfl⟩
instance:aB Try.prog 34 1 8 (.nilFunc):=⟨by kernel_rfl,by rfl,by decide,by decide⟩
instance:bY Try.prog 35:=⟨by kernel_rfl,by kernel_rfl⟩
instance:au Try.prog 35 (.pointer none):=⟨by kernel_rfl⟩
instance:aB Try.prog 35 1 8 (.pointer none):=⟨by kernel_rfl,by rfl,by decide,by decide⟩
instance:bY Try.prog 36:=⟨by kernel_rfl,by kernel_rfl⟩
instance:au Try.prog 36 (.nilFunc):=⟨by kernel_rfl⟩
instance:aB Try.prog 36 1 8 (.nilFunc):=⟨by kernel_rfl,by rfl,by decide,by decide⟩
instance:bY Try.prog 37:=⟨by kernel_rfl,by kernel_rfl⟩
instance:au Try.prog 37 (.slice none 0 0):=⟨by kernel_rfl⟩
instance:aB Try.prog 37 1 24 (.slice none 0 0):=⟨by kernel_rfl,by rfl,by decide,by decide⟩
instance:cK Try.prog 37 24 2:=⟨by kernel_rfl,by kernel_rfl⟩
instance:bY Try.prog 38:=⟨by kernel_rfl,by kernel_rfl⟩
instance:au Try.prog 38 (.nilFunc):=⟨by kernel_rfl⟩
instance:aB Try.prog 38 1 8 (.nilFunc):=⟨by kernel_rfl,by rfl,by decide,by decide⟩
instance:bY Try.prog 39:=⟨by kernel_rfl,by kernel_rfl⟩
instance:au Try.prog 39 (.slice none 0 0):=⟨by kernel_rfl⟩
instance:aB Try.prog 39 1 24 (.slice none 0 0):=⟨by kernel_rfl,by rfl,by decide,by decide⟩
instance:cK Try.prog 39 43 5:=⟨by kernel_rfl,by kernel_rfl⟩
instance:bY Try.prog 40:=⟨by kernel_rfl,by kernel_rfl⟩
instance:au Try.prog 40 (.nilFunc):=⟨by kernel_rfl⟩
instance:aB Try.prog 40 1 8 (.nilFunc):=⟨by kernel_rfl,by rfl,by decide,by decide⟩
instance:bY Try.prog 41:=⟨by kernel_rfl,by kernel_rfl⟩
instance:au Try.prog 41 (.nilFunc):=⟨by kernel_rfl⟩
instance:aB Try.prog 41 1 8 (.nilFunc):=⟨by kernel_rfl,by rfl,by decide,by decide⟩
instance:fm Try.prog 42 5:=⟨by kernel_rfl,by kernel_rfl⟩
instance:dN Try.prog 42:=⟨fun w=>⟨4,fm.size (T:=42) (n:=5) w⟩⟩
instance:au Try.prog 42 (.agg #[.int .i64 0,.int .u8 0,.int .i64 0,.bool false,.slice none 0 0]):=⟨by kernel_rfl⟩
instance:aB Try.prog 42 5 56 (.agg #[.int .i64 0,.int .u8 0,.int .i64 0,.bool false,.slice none 0 0]):=⟨by kernel_rfl,by rfl,by decide,by decide⟩
instance:bf Try.prog 42 [(0,1),(1,1),(2,1),(3,2)] [.int .i64 0,.int .u8 0,.int .i64 0,.bool false,.slice none 0 0]:=⟨by kernel_rfl,by kernel_rfl,by rfl⟩
instance:dR Try.prog 42 0 0 3:=⟨by kernel_rfl⟩
instance:dR Try.prog 42 1 1 5:=⟨by kernel_rfl⟩
instance:dR Try.prog 42 2 2 3:=⟨by kernel_rfl⟩
instance:dR Try.prog 42 3 3 24:=⟨by kernel_rfl⟩
instance:fm Try.prog 43 5:=⟨by kernel_rfl,by kernel_rfl⟩
instance:dN Try.prog 43:=⟨fun w=>⟨4,fm.size (T:=43) (n:=5) w⟩⟩
instance:au Try.prog 43 (.agg #[.int .i64 0,.int .u8 0,.int .i64 0,.bool false,.slice none 0 0]):=⟨by kernel_rfl⟩
instance:aB Try.prog 43 5 56 (.agg #[.int .i64 0,.int .u8 0,.int .i64 0,.bool false,.slice none 0 0]):=⟨by kernel_rfl,by rfl,by decide,by decide⟩
instance:bf Try.prog 43 [(0,1),(1,1),(2,1),(3,2)] [.int .i64 0,.int .u8 0,.int .i64 0,.bool false,.slice none 0 0]:=⟨by kernel_rfl,by kernel_rfl,by rfl⟩
instance:dR Try.prog 43 0 0 3:=⟨by kernel_rfl⟩
instance:dR Try.prog 43 1 1 5:=⟨by kernel_rfl⟩
instance:dR Try.prog 43 2 2 3:=⟨by kernel_rfl⟩
instance:dR Try.prog 43 3 3 24:=⟨by kernel_rfl⟩
instance:bY Try.prog 44:=⟨by kernel_rfl,by kernel_rfl⟩
instance:au Try.prog 44 (.nilFunc):=⟨by kernel_rfl⟩
instance:aB Try.prog 44 1 8 (.nilFunc):=⟨by kernel_rfl,by rfl,by decide,by decide⟩
instance:bY Try.prog 45:=⟨by kernel_rfl,by kernel_rfl⟩
instance:au Try.prog 45 (.nilFunc):=⟨by kernel_rfl⟩
instance:aB Try.prog 45 1 8 (.nilFunc):=⟨by kernel_rfl,by rfl,by decide,by decide⟩
instance:bY Try.prog 46:=⟨by kernel_rfl,by kernel_rfl⟩
instance:au Try.prog 46 (.nilFunc):=⟨by kernel_rfl⟩
instance:aB Try.prog 46 1 8 (.nilFunc):=⟨by kernel_rfl,by rfl,by decide,by decide⟩
instance:bY Try.prog 47:=⟨by kernel_rfl,by kernel_rfl⟩
instance:au Try.prog 47 (.nilFunc):=⟨by kernel_rfl⟩
instance:aB Try.prog 47 1 8 (.nilFunc):=⟨by kernel_rfl,by rfl,by decide,by decide⟩
instance:bY Try.prog 48:=⟨by kernel_rfl,by kernel_rfl⟩
instance:au Try.prog 48 (.nilFunc):=⟨by kernel_rfl⟩
instance:aB Try.prog 48 1 8 (.nilFunc):=⟨by kernel_rfl,by rfl,by decide,by decide⟩
instance:bY Try.prog 49:=⟨by kernel_rfl,by kernel_rfl⟩
instance:au Try.prog 49 (.slice none 0 0):=⟨by kernel_rfl⟩
instance:aB Try.prog 49 1 24 (.slice none 0 0):=⟨by kernel_rfl,by rfl,by decide,by decide⟩
instance:cK Try.prog 49 88 5:=⟨by kernel_rfl,by kernel_rfl⟩
instance:bY Try.prog 50:=⟨by kernel_rfl,by kernel_rfl⟩
instance:au Try.prog 50 (.nilFunc):=⟨by kernel_rfl⟩
instance:aB Try.prog 50 1 8 (.nilFunc):=⟨by kernel_rfl,by rfl,by decide,by decide⟩
instance:bY Try.prog 51:=⟨by kernel_rfl,by kernel_rfl⟩
instance:au Try.prog 51 (.nilFunc):=⟨by kernel_rfl⟩
instance:aB Try.prog 51 1 8 (.nilFunc):=⟨by kernel_rfl,by rfl,by decide,by decide⟩
instance:bY Try.prog 52:=⟨by kernel_rfl,by kernel_rfl⟩
instance:au Try.prog 52 (.nilFunc):=⟨by kernel_rfl⟩
instance:aB Try.prog 52 1 8 (.nilFunc):=⟨by kernel_rfl,by rfl,by decide,by decide⟩
instance:eE Try.prog 53 .i64:=⟨by kernel_rfl⟩
instance:bY Try.prog 53:=⟨by kernel_rfl,by kernel_rfl⟩
instance:au Try.prog 53 (.int .i64 0):=⟨by kernel_rfl⟩
instance:aB Try.prog 53 1 8 (.int .i64 0):=⟨by kernel_rfl,by rfl,by decide,by decide⟩
instance:bY Try.prog 54:=⟨by kernel_rfl,by kernel_rfl⟩
instance:au Try.prog 54 (.nilFunc):=⟨by kernel_rfl⟩
instance:aB Try.prog 54 1 8 (.nilFunc):=⟨by kernel_rfl,by rfl,by decide,by decide⟩
instance:fm Try.prog 55 7:=⟨by kernel_rfl,by kernel_rfl⟩
instance:dN Try.prog 55:=⟨fun w=>⟨6,fm.size (T:=55) (n:=7) w⟩⟩
instance:au Try.prog 55 (.agg #[.int .i64 0,.int .u8 0,.int .i64 0,.bool false,.slice none 0 0,.bool false,.slice none 0 0]):=⟨by kernel_rfl⟩
instance:aB Try.prog 55 7 88 (.agg #[.int .i64 0,.int .u8 0,.int .i64 0,.bool false,.slice none 0 0,.bool false,.slice none 0 0]):=⟨by kernel_rfl,by rfl,by decide,by decide⟩
instance:bf Try.prog 55 [(0,1),(1,1),(2,1),(3,4)] [.int .i64 0,.int .u8 0,.int .i64 0,.bool false,.slice none 0 0,.bool false,.slice none 0 0]:=⟨by kernel_rfl,by kernel_rfl,by rfl⟩
instance:dR Try.prog 55 0 0 3:=⟨by kernel_rfl⟩
instance:dR Try.prog 55 1 1 5:=⟨by kernel_rfl⟩
instance:dR Try.prog 55 2 2 3:=⟨by kernel_rfl⟩
instance:dR Try.prog 55 3 3 26:=⟨by kernel_rfl⟩
instance:fm Try.prog 56 7:=⟨by kernel_rfl,by kernel_rfl⟩
instance:dN Try.prog 56:=⟨fun w=>⟨6,fm.size (T:=56) (n:=7) w⟩⟩
instance:au Try.prog 56 (.agg #[.int .i64 0,.int .u8 0,.int .i64 0,.bool false,.slice none 0 0,.bool false,.slice none 0 0]):=⟨by kernel_rfl⟩
instance:aB Try.prog 56 7 88 (.agg #[.int .i64 0,.int .u8 0,.int .i64 0,.bool false,.slice none 0 0,.bool false,.slice none 0 0]):=⟨by kernel_rfl,by rfl,by decide,by decide⟩
instance:bf Try.prog 56 [(0,1),(1,1),(2,1),(3,4)] [.int .i64 0,.int .u8 0,.int .i64 0,.bool false,.slice none 0 0,.bool false,.slice none 0 0]:=⟨by kernel_rfl,by kernel_rfl,by rfl⟩
instance:dR Try.prog 56 0 0 3:=⟨by kernel_rfl⟩
instance:dR Try.prog 56 1 1 5:=⟨by kernel_rfl⟩
instance:dR Try.prog 56 2 2 3:=⟨by kernel_rfl⟩
instance:dR Try.prog 56 3 3 26:=⟨by kernel_rfl⟩
instance:bY Try.prog 57:=⟨by kernel_rfl,by kernel_rfl⟩
instance:au Try.prog 57 (.nilFunc):=⟨by kernel_rfl⟩
instance:aB Try.prog 57 1 8 (.nilFunc):=⟨by kernel_rfl,by rfl,by decide,by decide⟩
instance:fm Try.prog 58 3:=⟨by kernel_rfl,by kernel_rfl⟩
instance:dN Try.prog 58:=⟨fun w=>⟨2,fm.size (T:=58) (n:=3) w⟩⟩
instance:au Try.prog 58 (.agg #[.int .i64 0,.int .i64 0,.int .i64 0]):=⟨by kernel_rfl⟩
instance:aB Try.prog 58 3 24 (.agg #[.int .i64 0,.int .i64 0,.int .i64 0]):=⟨by kernel_rfl,by rfl,by decide,by decide⟩
instance:FW Try.prog 58 3 2 1 [.int .i64 0,.int .i64 0,.int .i64 0]:=⟨by kernel_rfl,by kernel_rfl,by kernel_rfl,by rfl⟩
instance:bY Try.prog 59:=⟨by kernel_rfl,by kernel_rfl⟩
instance:au Try.prog 59 (.slice none 0 0):=⟨by kernel_rfl⟩
instance:aB Try.prog 59 1 24 (.slice none 0 0):=⟨by kernel_rfl,by rfl,by decide,by decide⟩
instance:cK Try.prog 59 58 3:=⟨by kernel_rfl,by kernel_rfl⟩
instance:bY Try.prog 60:=⟨by kernel_rfl,by kernel_rfl⟩
instance:au Try.prog 60 (.nilFunc):=⟨by kernel_rfl⟩
instance:aB Try.prog 60 1 8 (.nilFunc):=⟨by kernel_rfl,by rfl,by decide,by decide⟩
instance:bY Try.prog 62:=⟨by kernel_rfl,by kernel_rfl⟩
instance:au Try.prog 62 (.nilFunc):=⟨by kernel_rfl⟩
instance:aB Try.prog 62 1 8 (.nilFunc):=⟨by kernel_rfl,by rfl,by decide,by decide⟩
instance:fm Try.prog 63 4:=⟨by kernel_rfl,by kernel_rfl⟩
instance:dN Try.prog 63:=⟨fun w=>⟨3,fm.size (T:=63) (n:=4) w⟩⟩
instance:au Try.prog 63 (.agg #[.int .i64 0,.int .u8 0,.int .i64 0,.int .i64 0]):=⟨by kernel_rfl⟩
instance:aB Try.prog 63 4 32 (.agg #[.int .i64 0,.int .u8 0,.int .i64 0,.int .i64 0]):=⟨by kernel_rfl,by rfl,by decide,by decide⟩
instance:bf Try.prog 63 [(0,1),(1,1),(2,1),(3,1)] [.int .i64 0,.int .u8 0,.int .i64 0,.int .i64 0]:=⟨by kernel_rfl,by kernel_rfl,by rfl⟩
instance:dR Try.prog 63 0 0 3:=⟨by kernel_rfl⟩
instance:dR Try.prog 63 1 1 5:=⟨by kernel_rfl⟩
instance:dR Try.prog 63 2 2 3:=⟨by kernel_rfl⟩
instance:dR Try.prog 63 3 3 53:=⟨by kernel_rfl⟩
instance:bY Try.prog 64:=⟨by kernel_rfl,by kernel_rfl⟩
instance:au Try.prog 64 (.slice none 0 0):=⟨by kernel_rfl⟩
instance:aB Try.prog 64 1 24 (.slice none 0 0):=⟨by kernel_rfl,by rfl,by decide,by decide⟩
instance:cK Try.prog 64 63 4:=⟨by kernel_rfl,by kernel_rfl⟩
instance:fm Try.prog 65 2:=⟨by kernel_rfl,by kernel_rfl⟩
instance:dN Try.prog 65:=⟨fun w=>⟨1,fm.size (T:=65) (n:=2) w⟩⟩
instance:au Try.prog 65 (.agg #[.int .i64 0,.slice none 0 0]):=⟨by kernel_rfl⟩
instance:aB Try.prog 65 2 32 (.agg #[.int .i64 0,.slice none 0 0]):=⟨by kernel_rfl,by rfl,by decide,by decide⟩
instance:bf Try.prog 65 [(0,1),(1,1)] [.int .i64 0,.slice none 0 0]:=⟨by kernel_rfl,by kernel_rfl,by rfl⟩
instance:dR Try.prog 65 0 0 3:=⟨by kernel_rfl⟩
instance:dR Try.prog 65 1 1 39:=⟨by kernel_rfl⟩
instance:fm Try.prog 66 2:=⟨by kernel_rfl,by kernel_rfl⟩
instance:dN Try.prog 66:=⟨fun w=>⟨1,fm.size (T:=66) (n:=2) w⟩⟩
instance:au Try.prog 66 (.agg #[.int .i64 0,.slice none 0 0]):=⟨by kernel_rfl⟩
instance:aB Try.prog 66 2 32 (.agg #[.int .i64 0,.slice none 0 0]):=⟨by kernel_rfl,by rfl,by decide,by decide⟩
instance:bf Try.prog 66 [(0,1),(1,1)] [.int .i64 0,.slice none 0 0]:=⟨by kernel_rfl,by kernel_rfl,by rfl⟩
instance:dR Try.prog 66 0 0 3:=⟨by kernel_rfl⟩
instance:dR Try.prog 66 1 1 39:=⟨by kernel_rfl⟩
instance:bY Try.prog 68:=⟨by kernel_rfl,by kernel_rfl⟩
instance:au Try.prog 68 (.nilFunc):=⟨by kernel_rfl⟩
instance:aB Try.prog 68 1 8 (.nilFunc):=⟨by kernel_rfl,by rfl,by decide,by decide⟩
instance:bY Try.prog 69:=⟨by kernel_rfl,by kernel_rfl⟩
instance:au Try.prog 69 (.nilFunc):=⟨by kernel_rfl⟩
instance:aB Try.prog 69 1 8 (.nilFunc):=⟨by kernel_rfl,by rfl,by decide,by decide⟩
instance:bY Try.prog 70:=⟨by kernel_rfl,by kernel_rfl⟩
instance:au Try.prog 70 (.nilFunc):=⟨by kernel_rfl⟩
instance:aB Try.prog 70 1 8 (.nilFunc):=⟨by kernel_rfl,by rfl,by decide,by decide⟩
instance:bY Try.prog 71:=⟨by kernel_rfl,by kernel_rfl⟩
instance:au Try.prog 71 (.nilFunc):=⟨by kernel_rfl⟩
instance:aB Try.prog 71 1 8 (.nilFunc):=⟨by kernel_rfl,by rfl,by decide,by decide⟩
instance:bY Try.prog 72:=⟨by kernel_rfl,by kernel_rfl⟩
instance:au Try.prog 72 (.nilFunc):=⟨by kernel_rfl⟩
instance:aB Try.prog 72 1 8 (.nilFunc):=⟨by kernel_rfl,by rfl,by decide,by decide⟩
instance:bY Try.prog 74:=⟨by kernel_rfl,by kernel_rfl⟩
instance:au Try.prog 74 (.nilFunc):=⟨by kernel_rfl⟩
instance:aB Try.prog 74 1 8 (.nilFunc):=⟨by kernel_rfl,by rfl,by decide,by decide⟩
instance:bY Try.prog 75:=⟨by kernel_rfl,by kernel_rfl⟩
instance:au Try.prog 75 (.nilFunc):=⟨by kernel_rfl⟩
instance:aB Try.prog 75 1 8 (.nilFunc):=⟨by kernel_rfl,by rfl,by decide,by decide⟩
instance:bY Try.prog 76:=⟨by kernel_rfl,by kernel_rfl⟩
instance:au Try.prog 76 (.nilFunc):=⟨by kernel_rfl⟩
instance:aB Try.prog 76 1 8 (.nilFunc):=⟨by kernel_rfl,by rfl,by decide,by decide⟩
instance:bY Try.prog 77:=⟨by kernel_rfl,by kernel_rfl⟩
instance:au Try.prog 77 (.nilFunc):=⟨by kernel_rfl⟩
instance:aB Try.prog 77 1 8 (.nilFunc):=⟨by kernel_rfl,by rfl,by decide,by decide⟩
instance:bY Try.prog 78:=⟨by kernel_rfl,by kernel_rfl⟩
instance:au Try.prog 78 (.nilFunc):=⟨by kernel_rfl⟩
instance:aB Try.prog 78 1 8 (.nilFunc):=⟨by kernel_rfl,by rfl,by decide,by decide⟩
instance:bY Try.prog 79:=⟨by kernel_rfl,by kernel_rfl⟩
instance:au Try.prog 79 (.slice none 0 0):=⟨by kernel_rfl⟩
instance:aB Try.prog 79 1 24 (.slice none 0 0):=⟨by kernel_rfl,by rfl,by decide,by decide⟩
instance:cK Try.prog 79 28 1:=⟨by kernel_rfl,by kernel_rfl⟩
instance:eE Try.prog 80 .u32:=⟨by kernel_rfl⟩
instance:bY Try.prog 80:=⟨by kernel_rfl,by kernel_rfl⟩
instance:au Try.prog 80 (.int .u32 0):=⟨by kernel_rfl⟩
instance:aB Try.prog 80 1 4 (.int .u32 0):=⟨by kernel_rfl,by rfl,by decide,by decide⟩
instance:bY Try.prog 82:=⟨by kernel_rfl,by kernel_rfl⟩
instance:au Try.prog 82 (.nilFunc):=⟨by kernel_rfl⟩
instance:aB Try.prog 82 1 8 (.nilFunc):=⟨by kernel_rfl,by rfl,by decide,by decide⟩
instance:bY Try.prog 84:=⟨by kernel_rfl,by kernel_rfl⟩
instance:au Try.prog 84 (.nilFunc):=⟨by kernel_rfl⟩
instance:aB Try.prog 84 1 8 (.nilFunc):=⟨by kernel_rfl,by rfl,by decide,by decide⟩
instance:bY Try.prog 85:=⟨by kernel_rfl,by kernel_rfl⟩
instance:au Try.prog 85 (.nilFunc):=⟨by kernel_rfl⟩
instance:aB Try.prog 85 1 8 (.nilFunc):=⟨by kernel_rfl,by rfl,by decide,by decide⟩
instance:bY Try.prog 86:=⟨by kernel_rfl,by kernel_rfl⟩
instance:au Try.prog 86 (.nilFunc):=⟨by kernel_rfl⟩
instance:aB Try.prog 86 1 8 (.nilFunc):=⟨by kernel_rfl,by rfl,by decide,by decide⟩
instance:bY Try.prog 87:=⟨by kernel_rfl,by kernel_rfl⟩
instance:au Try.prog 87 (.nilFunc):=⟨by kernel_rfl⟩
instance:aB Try.prog 87 1 8 (.nilFunc):=⟨by kernel_rfl,by rfl,by decide,by decide⟩
instance:fm Try.prog 88 5:=⟨by kernel_rfl,by kernel_rfl⟩
instance:dN Try.prog 88:=⟨fun w=>⟨4,fm.size (T:=88) (n:=5) w⟩⟩
instance:au Try.prog 88 (.agg #[.int .i64 0,.int .u8 0,.int .i64 0,.bool false,.slice none 0 0]):=⟨by kernel_rfl⟩
instance:aB Try.prog 88 5 56 (.agg #[.int .i64 0,.int .u8 0,.int .i64 0,.bool false,.slice none 0 0]):=⟨by kernel_rfl,by rfl,by decide,by decide⟩
instance:bf Try.prog 88 [(0,1),(1,1),(2,1),(3,2)] [.int .i64 0,.int .u8 0,.int .i64 0,.bool false,.slice none 0 0]:=⟨by kernel_rfl,by kernel_rfl,by rfl⟩
instance:dR Try.prog 88 0 0 3:=⟨by kernel_rfl⟩
instance:dR Try.prog 88 1 1 5:=⟨by kernel_rfl⟩
instance:dR Try.prog 88 2 2 3:=⟨by kernel_rfl⟩
instance:dR Try.prog 88 3 3 24:=⟨by kernel_rfl⟩
instance:bY Try.prog 89:=⟨by kernel_rfl,by kernel_rfl⟩
instance:au Try.prog 89 (.nilFunc):=⟨by kernel_rfl⟩
instance:aB Try.prog 89 1 8 (.nilFunc):=⟨by kernel_rfl,by rfl,by decide,by decide⟩
instance:bY Try.prog 90:=⟨by kernel_rfl,by kernel_rfl⟩
instance:au Try.prog 90 (.nilFunc):=⟨by kernel_rfl⟩
instance:aB Try.prog 90 1 8 (.nilFunc):=⟨by kernel_rfl,by rfl,by decide,by decide⟩
instance:bY Try.prog 92:=⟨by kernel_rfl,by kernel_rfl⟩
instance:au Try.prog 92 (.nilFunc):=⟨by kernel_rfl⟩
instance:aB Try.prog 92 1 8 (.nilFunc):=⟨by kernel_rfl,by rfl,by decide,by decide⟩
instance:bY Try.prog 93:=⟨by kernel_rfl,by kernel_rfl⟩
instance:au Try.prog 93 (.nilFunc):=⟨by kernel_rfl⟩
instance:aB Try.prog 93 1 8 (.nilFunc):=⟨by kernel_rfl,by rfl,by decide,by decide⟩
instance:bY Try.prog 95:=⟨by kernel_rfl,by kernel_rfl⟩
instance:au Try.prog 95 (.nilFunc):=⟨by kernel_rfl⟩
instance:aB Try.prog 95 1 8 (.nilFunc):=⟨by kernel_rfl,by rfl,by decide,by decide⟩
instance:bY Try.prog 96:=⟨by kernel_rfl,by kernel_rfl⟩
instance:au Try.prog 96 (.nilFunc):=⟨by kernel_rfl⟩
instance:aB Try.prog 96 1 8 (.nilFunc):=⟨by kernel_rfl,by rfl,by decide,by decide⟩
instance:bY Try.prog 98:=⟨by kernel_rfl,by kernel_rfl⟩
instance:au Try.prog 98 (.nilFunc):=⟨by kernel_rfl⟩
instance:aB Try.prog 98 1 8 (.nilFunc):=⟨by kernel_rfl,by rfl,by decide,by decide⟩
instance:bY Try.prog 99:=⟨by kernel_rfl,by kernel_rfl⟩
instance:au Try.prog 99 (.nilFunc):=⟨by kernel_rfl⟩
instance:aB Try.prog 99 1 8 (.nilFunc):=⟨by kernel_rfl,by rfl,by decide,by decide⟩
instance:eE Try.prog 100 .u64:=⟨by kernel_rfl⟩
instance:bY Try.prog 100:=⟨by kernel_rfl,by kernel_rfl⟩
instance:au Try.prog 100 (.int .u64 0):=⟨by kernel_rfl⟩
instance:aB Try.prog 100 1 8 (.int .u64 0):=⟨by kernel_rfl,by rfl,by decide,by decide⟩
instance:bY Try.prog 101:=⟨by kernel_rfl,by kernel_rfl⟩
instance:au Try.prog 101 (.nilFunc):=⟨by kernel_rfl⟩
instance:aB Try.prog 101 1 8 (.nilFunc):=⟨by kernel_rfl,by rfl,by decide,by decide⟩
instance:bY Try.prog 102:=⟨by kernel_rfl,by kernel_rfl⟩
instance:au Try.prog 102 (.nilFunc):=⟨by kernel_rfl⟩
instance:aB Try.prog 102 1 8 (.nilFunc):=⟨by kernel_rfl,by rfl,by decide,by decide⟩
instance:bY Try.prog 103:=⟨by kernel_rfl,by kernel_rfl⟩
instance:au Try.prog 103 (.nilFunc):=⟨by kernel_rfl⟩
instance:aB Try.prog 103 1 8 (.nilFunc):=⟨by kernel_rfl,by rfl,by decide,by decide⟩
instance:bY Try.prog 104:=⟨by kernel_rfl,by kernel_rfl⟩
instance:au Try.prog 104 (.slice none 0 0):=⟨by kernel_rfl⟩
instance:aB Try.prog 104 1 24 (.slice none 0 0):=⟨by kernel_rfl,by rfl,by decide,by decide⟩
instance:cK Try.prog 104 3 1:=⟨by kernel_rfl,by kernel_rfl⟩
instance:bY Try.prog 105:=⟨by kernel_rfl,by kernel_rfl⟩
instance:au Try.prog 105 (.nilFunc):=⟨by kernel_rfl⟩
instance:aB Try.prog 105 1 8 (.nilFunc):=⟨by kernel_rfl,by rfl,by decide,by decide⟩
instance:bY Try.prog 106:=⟨by kernel_rfl,by kernel_rfl⟩
instance:au Try.prog 106 (.nilFunc):=⟨by kernel_rfl⟩
instance:aB Try.prog 106 1 8 (.nilFunc):=⟨by kernel_rfl,by rfl,by decide,by decide⟩
instance:bY Try.prog 107:=⟨by kernel_rfl,by kernel_rfl⟩
instance:au Try.prog 107 (.nilFunc):=⟨by kernel_rfl⟩
instance:aB Try.prog 107 1 8 (.nilFunc):=⟨by kernel_rfl,by rfl,by decide,by decide⟩
instance:bY Try.prog 108:=⟨by kernel_rfl,by kernel_rfl⟩
instance:au Try.prog 108 (.nilFunc):=⟨by kernel_rfl⟩
instance:aB Try.prog 108 1 8 (.nilFunc):=⟨by kernel_rfl,by rfl,by decide,by decide⟩
instance:bY Try.prog 109:=⟨by kernel_rfl,by kernel_rfl⟩
instance:au Try.prog 109 (.nilFunc):=⟨by kernel_rfl⟩
instance:aB Try.prog 109 1 8 (.nilFunc):=⟨by kernel_rfl,by rfl,by decide,by decide⟩
instance:bY Try.prog 111:=⟨by kernel_rfl,by kernel_rfl⟩
instance:au Try.prog 111 (.nilFunc):=⟨by kernel_rfl⟩
instance:aB Try.prog 111 1 8 (.nilFunc):=⟨by kernel_rfl,by rfl,by decide,by decide⟩
instance:bY Try.prog 112:=⟨by kernel_rfl,by kernel_rfl⟩
instance:au Try.prog 112 (.nilFunc):=⟨by kernel_rfl⟩
instance:aB Try.prog 112 1 8 (.nilFunc):=⟨by kernel_rfl,by rfl,by decide,by decide⟩
instance:bY Try.prog 113:=⟨by kernel_rfl,by kernel_rfl⟩
instance:au Try.prog 113 (.nilFunc):=⟨by kernel_rfl⟩
instance:aB Try.prog 113 1 8 (.nilFunc):=⟨by kernel_rfl,by rfl,by decide,by decide⟩
instance:fm Try.prog 114 1:=⟨by kernel_rfl,by kernel_rfl⟩
instance:dN Try.prog 114:=⟨fun w=>⟨0,fm.size (T:=114) (n:=1) w⟩⟩
instance:au Try.prog 114 (.agg #[.nilFunc]):=⟨by kernel_rfl⟩
instance:aB Try.prog 114 1 8 (.agg #[.nilFunc]):=⟨by kernel_rfl,by rfl,by decide,by decide⟩
instance:bf Try.prog 114 [(0,1)] [.nilFunc]:=⟨by kernel_rfl,by kernel_rfl,by rfl⟩
instance:dR Try.prog 114 0 0 113:=⟨by kernel_rfl⟩
instance:fm Try.prog 115 1:=⟨by kernel_rfl,by kernel_rfl⟩
instance:dN Try.prog 115:=⟨fun w=>⟨0,fm.size (T:=115) (n:=1) w⟩⟩
instance:au Try.prog 115 (.agg #[.nilFunc]):=⟨by kernel_rfl⟩
instance:aB Try.prog 115 1 8 (.agg #[.nilFunc]):=⟨by kernel_rfl,by rfl,by decide,by decide⟩
instance:bf Try.prog 115 [(0,1)] [.nilFunc]:=⟨by kernel_rfl,by kernel_rfl,by rfl⟩
instance:dR Try.prog 115 0 0 113:=⟨by kernel_rfl⟩
instance:bY Try.prog 116:=⟨by kernel_rfl,by kernel_rfl⟩
instance:au Try.prog 116 (.map none):=⟨by kernel_rfl⟩
instance:aB Try.prog 116 1 8 (.map none):=⟨by kernel_rfl,by rfl,by decide,by decide⟩
instance:CU Try.prog 116 5 115:=⟨by kernel_rfl⟩
instance:bY Try.prog 117:=⟨by kernel_rfl,by kernel_rfl⟩
instance:au Try.prog 117 (.nilFunc):=⟨by kernel_rfl⟩
instance:aB Try.prog 117 1 8 (.nilFunc):=⟨by kernel_rfl,by rfl,by decide,by decide⟩
instance:bY Try.prog 118:=⟨by kernel_rfl,by kernel_rfl⟩
instance:au Try.prog 118 (.nilFunc):=⟨by kernel_rfl⟩
instance:aB Try.prog 118 1 8 (.nilFunc):=⟨by kernel_rfl,by rfl,by decide,by decide⟩
instance:bY Try.prog 119:=⟨by kernel_rfl,by kernel_rfl⟩
instance:au Try.prog 119 (.nilFunc):=⟨by kernel_rfl⟩
instance:aB Try.prog 119 1 8 (.nilFunc):=⟨by kernel_rfl,by rfl,by decide,by decide⟩
instance:bY Try.prog 120:=⟨by kernel_rfl,by kernel_rfl⟩
instance:au Try.prog 120 (.nilFunc):=⟨by kernel_rfl⟩
instance:aB Try.prog 120 1 8 (.nilFunc):=⟨by kernel_rfl,by rfl,by decide,by decide⟩
instance:bY Try.prog 121:=⟨by kernel_rfl,by kernel_rfl⟩
instance:au Try.prog 121 (.nilFunc):=⟨by kernel_rfl⟩
instance:aB Try.prog 121 1 8 (.nilFunc):=⟨by kernel_rfl,by rfl,by decide,by decide⟩
instance:bY Try.prog 122:=⟨by kernel_rfl,by kernel_rfl⟩
instance:au Try.prog 122 (.nilFunc):=⟨by kernel_rfl⟩
instance:aB Try.prog 122 1 8 (.nilFunc):=⟨by kernel_rfl,by rfl,by decide,by decide⟩
instance:bY Try.prog 123:=⟨by kernel_rfl,by kernel_rfl⟩
instance:au Try.prog 123 (.nilFunc):=⟨by kernel_rfl⟩
instance:aB Try.prog 123 1 8 (.nilFunc):=⟨by kernel_rfl,by rfl,by decide,by decide⟩
instance:eE Try.prog 124 .u64:=⟨by kernel_rfl⟩
instance:bY Try.prog 124:=⟨by kernel_rfl,by kernel_rfl⟩
instance:au Try.prog 124 (.int .u64 0):=⟨by kernel_rfl⟩
instance:aB Try.prog 124 1 8 (.int .u64 0):=⟨by kernel_rfl,by rfl,by decide,by decide⟩
instance:bY Try.prog 125:=⟨by kernel_rfl,by kernel_rfl⟩
instance:au Try.prog 125 (.nilFunc):=⟨by kernel_rfl⟩
instance:aB Try.prog 125 1 8 (.nilFunc):=⟨by kernel_rfl,by rfl,by decide,by decide⟩
instance:bY Try.prog 126:=⟨by kernel_rfl,by kernel_rfl⟩
instance:au Try.prog 126 (.nilFunc):=⟨by kernel_rfl⟩
instance:aB Try.prog 126 1 8 (.nilFunc):=⟨by kernel_rfl,by rfl,by decide,by decide⟩
instance:bY Try.prog 127:=⟨by kernel_rfl,by kernel_rfl⟩
instance:au Try.prog 127 (.nilFunc):=⟨by kernel_rfl⟩
instance:aB Try.prog 127 1 8 (.nilFunc):=⟨by kernel_rfl,by rfl,by decide,by decide⟩
instance:bY Try.prog 128:=⟨by kernel_rfl,by kernel_rfl⟩
instance:au Try.prog 128 (.nilFunc):=⟨by kernel_rfl⟩
instance:aB Try.prog 128 1 8 (.nilFunc):=⟨by kernel_rfl,by rfl,by decide,by decide⟩
instance:bY Try.prog 129:=⟨by kernel_rfl,by kernel_rfl⟩
instance:au Try.prog 129 (.nilFunc):=⟨by kernel_rfl⟩
instance:aB Try.prog 129 1 8 (.nilFunc):=⟨by kernel_rfl,by rfl,by decide,by decide⟩
instance:bY Try.prog 130:=⟨by kernel_rfl,by kernel_rfl⟩
instance:au Try.prog 130 (.nilFunc):=⟨by kernel_rfl⟩
instance:aB Try.prog 130 1 8 (.nilFunc):=⟨by kernel_rfl,by rfl,by decide,by decide⟩
instance:bY Try.prog 131:=⟨by kernel_rfl,by kernel_rfl⟩
instance:au Try.prog 131 (.nilFunc):=⟨by kernel_rfl⟩
instance:aB Try.prog 131 1 8 (.nilFunc):=⟨by kernel_rfl,by rfl,by decide,by decide⟩
instance:bY Try.prog 132:=⟨by kernel_rfl,by kernel_rfl⟩
instance:au Try.prog 132 (.nilFunc):=⟨by kernel_rfl⟩
instance:aB Try.prog 132 1 8 (.nilFunc):=⟨by kernel_rfl,by rfl,by decide,by decide⟩
instance:bY Try.prog 133:=⟨by kernel_rfl,by kernel_rfl⟩
instance:au Try.prog 133 (.nilFunc):=⟨by kernel_rfl⟩
instance:aB Try.prog 133 1 8 (.nilFunc):=⟨by kernel_rfl,by rfl,by decide,by decide⟩
instance:bY Try.prog 134:=⟨by kernel_rfl,by kernel_rfl⟩
instance:au Try.prog 134 (.nilFunc):=⟨by kernel_rfl⟩
instance:aB Try.prog 134 1 8 (.nilFunc):=⟨by kernel_rfl,by rfl,by decide,by decide⟩
instance:bY Try.prog 135:=⟨by kernel_rfl,by kernel_rfl⟩
instance:au Try.prog 135 (.nilFunc):=⟨by kernel_rfl⟩
instance:aB Try.prog 135 1 8 (.nilFunc):=⟨by kernel_rfl,by rfl,by decide,by decide⟩
instance:bY Try.prog 136:=⟨by kernel_rfl,by kernel_rfl⟩
instance:au Try.prog 136 (.nilFunc):=⟨by kernel_rfl⟩
instance:aB Try.prog 136 1 8 (.nilFunc):=⟨by kernel_rfl,by rfl,by decide,by decide⟩
instance:fm Try.prog 137 4:=⟨by kernel_rfl,by kernel_rfl⟩
instance:dN Try.prog 137:=⟨fun w=>⟨3,fm.size (T:=137) (n:=4) w⟩⟩
instance:au Try.prog 137 (.agg #[.pointer none,.pointer none,.pointer none,.string (ByteArray.mk #[])]):=⟨by kernel_rfl⟩
instance:aB Try.prog 137 4 40 (.agg #[.pointer none,.pointer none,.pointer none,.string (ByteArray.mk #[])]):=⟨by kernel_rfl,by rfl,by decide,by decide⟩
instance:bf Try.prog 137 [(0,1),(1,1),(2,1),(3,1)] [.pointer none,.pointer none,.pointer none,.string (ByteArray.mk #[])]:=⟨by kernel_rfl,by kernel_rfl,by rfl⟩
instance:dR Try.prog 137 0 0 17:=⟨by kernel_rfl⟩
instance:dR Try.prog 137 1 1 17:=⟨by kernel_rfl⟩
instance:dR Try.prog 137 2 2 17:=⟨by kernel_rfl⟩
instance:dR Try.prog 137 3 3 9:=⟨by kernel_rfl⟩
instance:fm Try.prog 138 4:=⟨by kernel_rfl,by kernel_rfl⟩
instance:dN Try.prog 138:=⟨fun w=>⟨3,fm.size (T:=138) (n:=4) w⟩⟩
instance:au Try.prog 138 (.agg #[.pointer none,.pointer none,.pointer none,.string (ByteArray.mk #[])]):=⟨by kernel_rfl⟩
instance:aB Try.prog 138 4 40 (.agg #[.pointer none,.pointer none,.pointer none,.string (ByteArray.mk #[])]):=⟨by kernel_rfl,by rfl,by decide,by decide⟩
instance:bf Try.prog 138 [(0,1),(1,1),(2,1),(3,1)] [.pointer none,.pointer none,.pointer none,.string (ByteArray.mk #[])]:=⟨by kernel_rfl,by kernel_rfl,by rfl⟩
instance:dR Try.prog 138 0 0 17:=⟨by kernel_rfl⟩
instance:dR Try.prog 138 1 1 17:=⟨by kernel_rfl⟩
instance:dR Try.prog 138 2 2 17:=⟨by kernel_rfl⟩
instance:dR Try.prog 138 3 3 9:=⟨by kernel_rfl⟩
instance:fm Try.prog 139 0:=⟨by kernel_rfl,by kernel_rfl⟩
instance:au Try.prog 139 (.agg #[]):=⟨by kernel_rfl⟩
instance:fm Try.prog 140 0:=⟨by kernel_rfl,by kernel_rfl⟩
instance:au Try.prog 140 (.agg #[]):=⟨by kernel_rfl⟩
instance:bf Try.prog 140 [(0,0)] []:=⟨by kernel_rfl,by kernel_rfl,by rfl⟩
instance:dR Try.prog 140 0 0 139:=⟨by kernel_rfl⟩
instance:fm Try.prog 141 0:=⟨by kernel_rfl,by kernel_rfl⟩
instance:au Try.prog 141 (.agg #[]):=⟨by kernel_rfl⟩
instance:bf Try.prog 141 [(0,0)] []:=⟨by kernel_rfl,by kernel_rfl,by rfl⟩
instance:dR Try.prog 141 0 0 139:=⟨by kernel_rfl⟩
instance:bY Try.prog 142:=⟨by kernel_rfl,by kernel_rfl⟩
instance:au Try.prog 142 (.nilFunc):=⟨by kernel_rfl⟩
instance:aB Try.prog 142 1 8 (.nilFunc):=⟨by kernel_rfl,by rfl,by decide,by decide⟩
instance:eE Try.prog 143 .u8:=⟨by kernel_rfl⟩
instance:bY Try.prog 143:=⟨by kernel_rfl,by kernel_rfl⟩
instance:au Try.prog 143 (.int .u8 0):=⟨by kernel_rfl⟩
instance:aB Try.prog 143 1 1 (.int .u8 0):=⟨by kernel_rfl,by rfl,by decide,by decide⟩
instance:eE Try.prog 144 .u8:=⟨by kernel_rfl⟩
instance:bY Try.prog 144:=⟨by kernel_rfl,by kernel_rfl⟩
instance:au Try.prog 144 (.int .u8 0):=⟨by kernel_rfl⟩
instance:aB Try.prog 144 1 1 (.int .u8 0):=⟨by kernel_rfl,by rfl,by decide,by decide⟩
instance:bY Try.prog 145:=⟨by kernel_rfl,by kernel_rfl⟩
instance:au Try.prog 145 (.nilFunc):=⟨by kernel_rfl⟩
instance:aB Try.prog 145 1 8 (.nilFunc):=⟨by kernel_rfl,by rfl,by decide,by decide⟩
instance:bY Try.prog 146:=⟨by kernel_rfl,by kernel_rfl⟩
instance:au Try.prog 146 (.pointer none):=⟨by kernel_rfl⟩
instance:aB Try.prog 146 1 8 (.pointer none):=⟨by kernel_rfl,by rfl,by decide,by decide⟩
instance:eE Try.prog 147 .i32:=⟨by kernel_rfl⟩
instance:bY Try.prog 147:=⟨by kernel_rfl,by kernel_rfl⟩
instance:au Try.prog 147 (.int .i32 0):=⟨by kernel_rfl⟩
instance:aB Try.prog 147 1 4 (.int .i32 0):=⟨by kernel_rfl,by rfl,by decide,by decide⟩
instance:eE Try.prog 148 .i32:=⟨by kernel_rfl⟩
instance:bY Try.prog 148:=⟨by kernel_rfl,by kernel_rfl⟩
instance:au Try.prog 148 (.int .i32 0):=⟨by kernel_rfl⟩
instance:aB Try.prog 148 1 4 (.int .i32 0):=⟨by kernel_rfl,by rfl,by decide,by decide⟩
instance:fm Try.prog 149 11:=⟨by kernel_rfl,by kernel_rfl⟩
instance:dN Try.prog 149:=⟨fun w=>⟨10,fm.size (T:=149) (n:=11) w⟩⟩
instance:au Try.prog 149 (.agg #[.int .u64 0,.int .u64 0,.int .u32 0,.int .u8 0,.int .u8 0,.int .u8 0,.int .u8 0,.nilFunc,.pointer none,.int .i32 0,.int .i32 0]):=⟨by kernel_rfl⟩
instance:aB Try.prog 149 11 48 (.agg #[.int .u64 0,.int .u64 0,.int .u32 0,.int .u8 0,.int .u8 0,.int .u8 0,.int .u8 0,.nilFunc,.pointer none,.int .i32 0,.int .i32 0]):=⟨by kernel_rfl,by rfl,by decide,by decide⟩
instance:bf Try.prog 149 [(0,1),(1,1),(2,1),(3,1),(4,1),(5,1),(6,1),(7,1),(8,1),(9,1),(10,1)] [.int .u64 0,.int .u64 0,.int .u32 0,.int .u8 0,.int .u8 0,.int .u8 0,.int .u8 0,.nilFunc,.pointer none,.int .i32 0,.int .i32 0]:=⟨by kernel_rfl,by kernel_rfl,by rfl⟩
instance:dR Try.prog 149 0 0 12:=⟨by kernel_rfl⟩
instance:dR Try.prog 149 1 1 12:=⟨by kernel_rfl⟩
instance:dR Try.prog 149 2 2 80:=⟨by kernel_rfl⟩
instance:dR Try.prog 149 3 3 143:=⟨by kernel_rfl⟩
instance:dR Try.prog 149 4 4 5:=⟨by kernel_rfl⟩
instance:dR Try.prog 149 5 5 5:=⟨by kernel_rfl⟩
instance:dR Try.prog 149 6 6 144:=⟨by kernel_rfl⟩
instance:dR Try.prog 149 7 7 145:=⟨by kernel_rfl⟩
instance:dR Try.prog 149 8 8 146:=⟨by kernel_rfl⟩
instance:dR Try.prog 149 9 9 147:=⟨by kernel_rfl⟩
instance:dR Try.prog 149 10 10 148:=⟨by kernel_rfl⟩
instance:fm Try.prog 150 11:=⟨by kernel_rfl,by kernel_rfl⟩
instance:dN Try.prog 150:=⟨fun w=>⟨10,fm.size (T:=150) (n:=11) w⟩⟩
instance:au Try.prog 150 (.agg #[.int .u64 0,.int .u64 0,.int .u32 0,.int .u8 0,.int .u8 0,.int .u8 0,.int .u8 0,.nilFunc,.pointer none,.int .i32 0,.int .i32 0]):=⟨by kernel_rfl⟩
instance:aB Try.prog 150 11 48 (.agg #[.int .u64 0,.int .u64 0,.int .u32 0,.int .u8 0,.int .u8 0,.int .u8 0,.int .u8 0,.nilFunc,.pointer none,.int .i32 0,.int .i32 0]):=⟨by kernel_rfl,by rfl,by decide,by decide⟩
instance:bf Try.prog 150 [(0,1),(1,1),(2,1),(3,1),(4,1),(5,1),(6,1),(7,1),(8,1),(9,1),(10,1)] [.int .u64 0,.int .u64 0,.int .u32 0,.int .u8 0,.int .u8 0,.int .u8 0,.int .u8 0,.nilFunc,.pointer none,.int .i32 0,.int .i32 0]:=⟨by kernel_rfl,by kernel_rfl,by rfl⟩
instance:dR Try.prog 150 0 0 12:=⟨by kernel_rfl⟩
instance:dR Try.prog 150 1 1 12:=⟨by kernel_rfl⟩
instance:dR Try.prog 150 2 2 80:=⟨by kernel_rfl⟩
instance:dR Try.prog 150 3 3 143:=⟨by kernel_rfl⟩
instance:dR Try.prog 150 4 4 5:=⟨by kernel_rfl⟩
instance:dR Try.prog 150 5 5 5:=⟨by kernel_rfl⟩
instance:dR Try.prog 150 6 6 144:=⟨by kernel_rfl⟩
instance:dR Try.prog 150 7 7 145:=⟨by kernel_rfl⟩
instance:dR Try.prog 150 8 8 146:=⟨by kernel_rfl⟩
instance:dR Try.prog 150 9 9 147:=⟨by kernel_rfl⟩
instance:dR Try.prog 150 10 10 148:=⟨by kernel_rfl⟩
instance:bY Try.prog 151:=⟨by kernel_rfl,by kernel_rfl⟩
instance:au Try.prog 151 (.pointer none):=⟨by kernel_rfl⟩
instance:aB Try.prog 151 1 8 (.pointer none):=⟨by kernel_rfl,by rfl,by decide,by decide⟩
instance:bM Try.prog 3:=⟨by kernel_rfl⟩
instance:bM Try.prog 4:=⟨by kernel_rfl⟩
instance:bM Try.prog 5:=⟨by kernel_rfl⟩
instance:bM Try.prog 6:=⟨by kernel_rfl⟩
instance:bM Try.prog 7:=⟨by kernel_rfl⟩
instance:bM Try.prog 8:=⟨by kernel_rfl⟩
instance:bM Try.prog 9:=⟨by kernel_rfl⟩
instance:bM Try.prog 10:=⟨by kernel_rfl⟩
instance:bM Try.prog 11:=⟨by kernel_rfl⟩
instance:bM Try.prog 12:=⟨by kernel_rfl⟩
instance:bM Try.prog 13:=⟨by kernel_rfl⟩
instance:bM Try.prog 14:=⟨by kernel_rfl⟩
instance:bM Try.prog 15:=⟨by kernel_rfl⟩
instance:bM Try.prog 16:=⟨by kernel_rfl⟩
instance:bM Try.prog 17:=⟨by kernel_rfl⟩
instance:bM Try.prog 18:=⟨by kernel_rfl⟩
instance:bM Try.prog 19:=⟨by kernel_rfl⟩
instance:bM Try.prog 20:=⟨by kernel_rfl⟩
instance:bM Try.prog 21:=⟨by kernel_rfl⟩
instance:bM Try.prog 22:=⟨by kernel_rfl⟩
instance:bM Try.prog 23:=⟨by kernel_rfl⟩
instance:bM Try.prog 24:=⟨by kernel_rfl⟩
instance:bM Try.prog 25:=⟨by kernel_rfl⟩
instance:bM Try.prog 26:=⟨by kernel_rfl⟩
instance:bM Try.prog 27:=⟨by kernel_rfl⟩
instance:bM Try.prog 28:=⟨by kernel_rfl⟩
instance:bM Try.prog 29:=⟨by kernel_rfl⟩
instance:bM Try.prog 30:=⟨by kernel_rfl⟩
instance:bM Try.prog 31:=⟨by kernel_rfl⟩
instance:bM Try.prog 32:=⟨by kernel_rfl⟩
instance:bM Try.prog 33:=⟨by kernel_rfl⟩
instance:bM Try.prog 34:=⟨by kernel_rfl⟩
instance:bM Try.prog 35:=⟨by kernel_rfl⟩
instance:bM Try.prog 36:=⟨by kernel_rfl⟩
instance:bM Try.prog 37:=⟨by kernel_rfl⟩
instance:bM Try.prog 38:=⟨by kernel_rfl⟩
instance:bM Try.prog 39:=⟨by kernel_rfl⟩
instance:bM Try.prog 40:=⟨by kernel_rfl⟩
instance:bM Try.prog 41:=⟨by kernel_rfl⟩
instance:bM Try.prog 42:=⟨by kernel_rfl⟩
instance:bM Try.prog 43:=⟨by kernel_rfl⟩
instance:bM Try.prog 44:=⟨by kernel_rfl⟩
instance:bM Try.prog 45:=⟨by kernel_rfl⟩
instance:bM Try.prog 46:=⟨by kernel_rfl⟩
instance:bM Try.prog 47:=⟨by kernel_rfl⟩
instance:bM Try.prog 48:=⟨by kernel_rfl⟩
instance:bM Try.prog 49:=⟨by kernel_rfl⟩
instance:bM Try.prog 50:=⟨by kernel_rfl⟩
instance:bM Try.prog 51:=⟨by kernel_rfl⟩
instance:bM Try.prog 52:=⟨by kernel_rfl⟩
instance:bM Try.prog 53:=⟨by kernel_rfl⟩
instance:bM Try.prog 54:=⟨by kernel_rfl⟩
instance:bM Try.prog 55:=⟨by kernel_rfl⟩
instance:bM Try.prog 56:=⟨by kernel_rfl⟩
instance:bM Try.prog 57:=⟨by kernel_rfl⟩
instance:bM Try.prog 58:=⟨by kernel_rfl⟩
instance:bM Try.prog 59:=⟨by kernel_rfl⟩
instance:bM Try.prog 60:=⟨by kernel_rfl⟩
instance:bM Try.prog 61:=⟨by kernel_rfl⟩
instance:bM Try.prog 62:=⟨by kernel_rfl⟩
instance:bM Try.prog 63:=⟨by kernel_rfl⟩
instance:bM Try.prog 64:=⟨by kernel_rfl⟩
instance:bM Try.prog 65:=⟨by kernel_rfl⟩
instance:bM Try.prog 66:=⟨by kernel_rfl⟩
instance:bM Try.prog 67:=⟨by kernel_rfl⟩
instance:bM Try.prog 68:=⟨by kernel_rfl⟩
instance:bM Try.prog 69:=⟨by kernel_rfl⟩
instance:bM Try.prog 70:=⟨by kernel_rfl⟩
instance:bM Try.prog 71:=⟨by kernel_rfl⟩
instance:bM Try.prog 72:=⟨by kernel_rfl⟩
instance:bM Try.prog 73:=⟨by kernel_rfl⟩
instance:bM Try.prog 74:=⟨by kernel_rfl⟩
instance:bM Try.prog 75:=⟨by kernel_rfl⟩
instance:bM Try.prog 76:=⟨by kernel_rfl⟩
instance:bM Try.prog 77:=⟨by kernel_rfl⟩
instance:bM Try.prog 78:=⟨by kernel_rfl⟩
instance:bM Try.prog 79:=⟨by kernel_rfl⟩
instance:bM Try.prog 80:=⟨by kernel_rfl⟩
instance:bM Try.prog 81:=⟨by kernel_rfl⟩
instance:bM Try.prog 82:=⟨by kernel_rfl⟩
instance:bM Try.prog 83:=⟨by kernel_rfl⟩
instance:bM Try.prog 84:=⟨by kernel_rfl⟩
instance:bM Try.prog 85:=⟨by kernel_rfl⟩
instance:bM Try.prog 86:=⟨by kernel_rfl⟩
instance:bM Try.prog 87:=⟨by kernel_rfl⟩
instance:bM Try.prog 88:=⟨by kernel_rfl⟩
instance:bM Try.prog 89:=⟨by kernel_rfl⟩
instance:bM Try.prog 90:=⟨by kernel_rfl⟩
instance:bM Try.prog 91:=⟨by kernel_rfl⟩
instance:bM Try.prog 92:=⟨by kernel_rfl⟩
instance:bM Try.prog 93:=⟨by kernel_rfl⟩
instance:bM Try.prog 94:=⟨by kernel_rfl⟩
instance:bM Try.prog 95:=⟨by kernel_rfl⟩
instance:bM Try.prog 96:=⟨by kernel_rfl⟩
instance:bM Try.prog 97:=⟨by kernel_rfl⟩
instance:bM Try.prog 98:=⟨by kernel_rfl⟩
instance:bM Try.prog 99:=⟨by kernel_rfl⟩
instance:bM Try.prog 100:=⟨by kernel_rfl⟩
instance:bM Try.prog 101:=⟨by kernel_rfl⟩
instance:bM Try.prog 102:=⟨by kernel_rfl⟩
instance:bM Try.prog 103:=⟨by kernel_rfl⟩
instance:bM Try.prog 104:=⟨by kernel_rfl⟩
instance:bM Try.prog 105:=⟨by kernel_rfl⟩
instance:bM Try.prog 106:=⟨by kernel_rfl⟩
instance:bM Try.prog 107:=⟨by kernel_rfl⟩
instance:bM Try.prog 108:=⟨by kernel_rfl⟩
instance:bM Try.prog 109:=⟨by kernel_rfl⟩
instance:bM Try.prog 110:=⟨by kernel_rfl⟩
instance:bM Try.prog 111:=⟨by kernel_rfl⟩
instance:bM Try.prog 112:=⟨by kernel_rfl⟩
instance:bM Try.prog 113:=⟨by kernel_rfl⟩
instance:bM Try.prog 114:=⟨by kernel_rfl⟩
instance:bM Try.prog 115:=⟨by kernel_rfl⟩
instance:bM Try.prog 116:=⟨by kernel_rfl⟩
instance:bM Try.prog 117:=⟨by kernel_rfl⟩
instance:bM Try.prog 118:=⟨by kernel_rfl⟩
theorem mixed:Try.prog.follows .mixedOrders=true:=by kernel_rfl
end Go.Proofs.Ytmiflmkdaeianaa
namespace Go.Proofs.Ytmiflmkdaeianaa
open Go.Fw Go.RowKit
def snap(W:World):Mem:=fun b o=>(W.cell? ⟨b,o,none⟩).filter Value.oneCell'
theorem IN(W:World):(snap W).bu W:=fun _ _ _ e=>by
 obtain⟨e1,e2⟩:=Option.filter_eq_some_iff.1 e
 exact .of e1 e2
theorem IP{W:World}{b o:Nat}{v:Value}(h:W.cell? ⟨b,o,none⟩=some v)(h1:v.oneCell'=true):snap W b o=some v:=Option.filter_eq_some_iff.2 ⟨h,h1⟩
class oH (P:Program) (T:TypeId) {α:Type} (e:α→List SV) (ok:outParam (α→Prop)) (sz:outParam (α→Nat)):Prop where
 h:∀{H:Type} (enc:TypeId×Value→H) (W:World) (fuel:Nat) (cs:List Value) (d:DataW H) (p:List MemPlace),DataW.trod enc P W 0 (fun _=>true) true fuel T cs=some (d,p)→
  ∃x:α,ok x∧SV.cG (snap W) (e x) cs∧(∀v∈cs,v.oneCell'=true)∧sz x≤Rows.uptoBulk d
section opn
variable {P:Program}{T:TypeId}
theorem FX{k:IntKind}{n:Int}(h:(Lit.int k n).wf=true):k.min≤n∧n≤k.max:=by simpa[Lit.wf]using h
instance[t:eE P T .i64]:oH P T vq (fun x=>-9223372036854775808≤x∧x≤9223372036854775807) (fun _=>1):=⟨fun enc W fuel cs d p h=>by
 obtain⟨n,rfl,hx,hw⟩:=DataW.trod_int t.h h
 cases hx
 have:=FX hw
 exact⟨n,by simpa[IntKind.min,IntKind.max,IntKind.signed,IntKind.bits]using this,⟨rfl,trivial⟩,by simp[Value.oneCell'],by simp[Rows.uptoBulk]⟩⟩
theorem Kl{k:IntKind}{M:Nat}{e:Nat→List SV}(t:eE P T k)(hk:k.min=0∧k.max=(M:Int)-1)(he:∀n:Nat,e n=[.v (.int k (n:Int))]):oH P T e (fun x=>x<M) (fun _=>1):=⟨fun enc W fuel cs d p h=>by
 obtain⟨n,rfl,hx,hw⟩:=DataW.trod_int t.h h
 cases hx
 have:=FX hw
 rw[hk.1,hk.2]at this
 obtain⟨m,rfl⟩:=Int.eq_ofNat_of_zero_le this.1
 exact⟨m,by omega,by rw[he];exact⟨rfl,trivial⟩,by simp[Value.oneCell'],by simp[Rows.uptoBulk]⟩⟩
instance[t:eE P T .u8]:oH P T Kk (fun x=>x<256) (fun _=>1):=Kl t (by decide) (fun _=>rfl)
instance[t:eE P T .u32]:oH P T aj (fun x=>x<4294967296) (fun _=>1):=Kl t (by decide) (fun _=>rfl)
instance[t:uR P T]:oH P T eB (fun _=>True) (fun _=>1):=⟨fun enc W fuel cs d p h=>by
 obtain⟨b,rfl,hx⟩:=DataW.trod_bool t.h h
 cases hx
 exact⟨b,trivial,⟨rfl,trivial⟩,by simp[Value.oneCell'],by simp[Rows.uptoBulk]⟩⟩
theorem Af{H α:Type}(sz:α→Nat):∀(xs:List α) (ds:List (DataW H)),xs.length=ds.length→(∀(i:Nat) (x:α) (d:DataW H),xs[i]? =some x→ds[i]? =some d→sz x≤Rows.uptoBulk d)→(xs.map sz).sum≤Rows.uptoBulkAll ds
 |[],[],_,_=>by simp
 |x::xs,d::ds,hl,h=>by
  have h1:=h 0 x d rfl rfl
  have h2:=Af sz xs ds (by simpa using hl) (fun i x d e1 e2=>h (i+1) x d (by simpa using e1) (by simpa using e2))
  simp only[List.map_cons,List.sum_cons,Rows.uptoBulkAll];omega
 |[],_::_,hl,_=>by simp at hl
 |_::_,[],hl,_=>by simp at hl
instance{E:TypeId}{n:Nat}{α:Type}{e:α→List SV}{ok:α→Prop}{sz:α→Nat}{by_:Nat}{zv:Value}[t:cK P T E n][tE:aB P E n by_ zv][el:EL e n][o:oH P E e ok sz]:oH P T (eS n e) (fun l=>l.length≤9223372036854775807∧∀x∈l,ok x) (fun l=>(l.map sz).sum+1):=⟨fun{H} enc W fuel cs d p h=>by
 have hcell:P.cellsOf E=n:=by
  have h1:=t.size W
  simp only[sizeOf,typeInfo]at h1
  cases hi:P.info? E with
  |none=>simp[hi]at h1
  |some i=>simp[hi]at h1;simp[Program.cellsOf,hi,h1]
 have hml:maxLen=9223372036854775807:=by decide
 rcases Deep.open_slice t.u h with⟨rfl,hx⟩|⟨a,len,cap,m,n',D,Pl,rfl,_,hl,hm,hmm,hx,hel⟩
 ·cases hx
  exact⟨[],⟨by simp,by simp⟩,⟨.inl ⟨none,rfl,rfl⟩,trivial⟩,by simp[Value.oneCell'],by simp[Rows.uptoBulk]⟩
 ·cases hx
  rw[if_pos rfl]at hmm
  subst hmm
  have one:∀i,i<m→∃x,ok x∧sz x≤Rows.uptoBulk (D i)∧∃cs',W.cells? 0 (a.add (i*n)) n=some cs'∧SV.cG (snap W) (e x) cs'∧(∀v∈cs',v.oneCell'=true):=by
   intro i hi
   obtain⟨cs',h1,h2⟩:=hel i hi
   obtain⟨x,q1,q2,q3,q4⟩:=o.h enc W n' cs' (D i) (Pl i) h2
   rw[hcell]at h1
   exact⟨x,q1,q4,cs',h1,q2,q3⟩
  obtain⟨xs,VP,hxs⟩:∃xs:List α,xs.length=len∧∀(i:Nat) (x:α),xs[i]? =some x→ok x∧sz x≤Rows.uptoBulk (D i)∧∃cs',W.cells? 0 (a.add (i*n)) n=some cs'∧SV.cG (snap W) (e x) cs'∧(∀v∈cs',v.oneCell'=true):=by
   clear h hm hel
   have:∀k,k≤len→∃xs:List α,xs.length=k∧∀(i:Nat) (x:α),xs[i]? =some x→ok x∧sz x≤Rows.uptoBulk (D i)∧∃cs',W.cells? 0 (a.add (i*n)) n=some cs'∧SV.cG (snap W) (e x) cs'∧(∀v∈cs',v.oneCell'=true):=by
    intro k
    induction k with
    |zero=>intro _;exact⟨[],rfl,by simp⟩
    |succ k ih=>
     intro hk
     obtain⟨xs,h1,h2⟩:=ih (by omega)
     obtain⟨x,hx⟩:=one k (by omega)
     refine⟨xs++[x],by simp[h1],fun i y hy=>?_⟩
     rcases Nat.lt_or_ge i k with hi|hi
     ·exact h2 i y (by rwa[List.getElem?_append_left (by omega)]at hy)
     ·rw[List.getElem?_append_right (by omega)]at hy
      have XH:i=k:=by
       rcases Nat.lt_or_ge (i-xs.length) 1 with q|q
       ·omega
       ·rw[List.getElem?_eq_none (by simpa using q)]at hy;cases hy
      subst XH
      rw[h1,Nat.sub_self]at hy
      simp at hy;subst hy;exact hx
   exact this len (Nat.le_refl _)
  refine⟨xs,⟨by omega,fun x hx=>?_⟩,⟨?_,trivial⟩,by simp[Value.oneCell'],?_⟩
  ·obtain⟨i,hi,rfl⟩:=List.getElem_of_mem hx
   exact(hxs i _ (List.getElem?_eq_getElem hi)).1
  ·by_cases h0:xs=[]
   ·subst h0
    simp at VP
    subst VP
    by_cases hc0:m=0
    ·subst hc0;exact .inl ⟨_,rfl,rfl⟩
    ·
     obtain⟨x,_,_,cs',g1,g2,_⟩:=one 0 (by omega)
     obtain⟨_,g3,g4⟩:=World.cells?_some g1
     have hn:0<n:=tE.p
     have g5:=g4 0 hn
     obtain⟨b,o',spot⟩:=a
     have FY:spot=none:=by
      have:∃v,W.cell? (((⟨b,o',spot⟩:Addr).add (0*n)).add 0)=some v:=by
       rw[g5];exact⟨_,List.getElem?_eq_getElem (by omega)⟩
      obtain⟨v,hv⟩:=this
      simpa[Addr.add]using World.cell?_spot hv
     subst FY
     refine .inr ⟨b,o',m,rfl,by simp,by simp,fun i row hr=>by simp at hr⟩
   ·have sL:0<len:=by
     rcases Nat.eq_zero_or_pos len with hz|hz
     ·exact absurd (List.eq_nil_of_length_eq_zero (by omega)) h0
     ·exact hz
    have hn:0<n:=tE.p
    obtain⟨x,_,_,cs',g1,g2,_⟩:=one 0 (by omega)
    obtain⟨_,g3,g4⟩:=World.cells?_some g1
    have g5:=g4 0 hn
    obtain⟨b,o',spot⟩:=a
    have FY:spot=none:=by
     have:∃v,W.cell? (((⟨b,o',spot⟩:Addr).add (0*n)).add 0)=some v:=by
      rw[g5];exact⟨_,List.getElem?_eq_getElem (by omega)⟩
     obtain⟨v,hv⟩:=this
     simpa[Addr.add]using World.cell?_spot hv
    subst FY
    refine .inr ⟨b,o',m,by rw[List.length_map,VP],by rw[List.length_map];omega,by rw[List.length_map];omega,fun i row hr=>?_⟩
    rw[List.getElem?_map]at hr
    cases hx:xs[i]? with
    |none=>rw[hx]at hr;cases hr
    |some y=>
     rw[hx]at hr
     have hr:e y=row:=Option.some.inj hr
     subst hr
     obtain⟨_,_,cs2,k1,k2,k3⟩:=hxs i y hx
     obtain⟨_,k4,k5⟩:=World.cells?_some k1
     refine⟨el.len y,fun k s hk=>?_⟩
     obtain⟨u,hu,hs⟩:=k2.get hk
     have hkn:k<n:=by have:=(List.getElem?_eq_some_iff.1 hu).1;omega
     have k6:=k5 k hkn
     rw[dM,dM,hu]at k6
     exact⟨u,IP k6 (k3 u (List.mem_of_getElem? hu)),k3 u (List.mem_of_getElem? hu),hs⟩
  ·have hb:Rows.uptoBulk (DataW.slice ((List.range len).map D) ((List.range (m-len)).map fun j=>D (len+j)))=Rows.uptoBulkAll ((List.range len).map D)+Rows.uptoBulkAll ((List.range (m-len)).map fun j=>D (len+j))+1:=rfl
   rw[hb]
   have:=Af sz xs ((List.range len).map D) (by simp[VP]) (fun i x d e1 e2=>by
    have hi:i<len:=by have:=(List.getElem?_eq_some_iff.1 e1).1;omega
    simp[hi]at e2;subst e2
    exact(hxs i x e1).2.1)
   omega⟩
class Km (P:Program) (T:TypeId) (k:outParam Nat):Prop where
 h:(match P.underlying T with|some (.struct fs)=>some fs.size|_=>none)=some k
theorem nV{k:Nat}[s:Km P T k]{H:Type}{enc:TypeId×Value→H}{W:World}{fuel:Nat}{cs:List Value}{d:DataW H}{p:List MemPlace}(h:DataW.trod enc P W 0 (fun _=>true) true fuel T cs=some (d,p)):
  ∃(xs:List (DataW H×List MemPlace)) (n:Nat),d=.agg (xs.map (·.1))∧cs.length=P.cellsOf T∧xs.length=k∧∀(i off:Nat) (U:TypeId),dR P T i off U→DataW.trod enc P W 0 (fun _=>true) true n U ((cs.drop off).take (P.cellsOf U))=xs[i]? :=by
 have hs:=s.h
 cases hT:P.underlying T with
 |none=>rw[hT]at hs;cases hs
 |some u=>
  rw[hT]at hs
  cases u with
  |struct fs=>
   have hk:fs.size=k:=Option.some.inj hs
   obtain⟨xs,n,_,hx,hl,hn,hf⟩:=DataW.trod_struct hT h
   refine⟨xs,n,(Prod.mk.inj hx).1,hl,by omega,fun i off U F=>?_⟩
   have hF:=F.h
   rw[hT]at hF
   simp only at hF
   cases hg:fs[i]? with
   |none=>rw[hg]at hF;cases hF
   |some f=>
    rw[hg]at hF
    simp only[Option.map_some,Option.some.injEq,Prod.mk.injEq]at hF
    have:=hf i f hg
    rw[hF.1,hF.2]at this
    exact this
  |_=>cases hs
class FZ (P:Program) (T:TypeId):Prop where
 h:∀(w:World) (r:Reach) (base:Nat) (v:Value),Value.okWide P w r base T v→v.cells.toList=[v]
instance{k:IntKind}[t:eE P T k]:FZ P T:=⟨fun w r base v h=>by
 simp only[Value.okWide,t.h,Cell.okWide,Cell.ok]at h
 cases v<;>first|rfl|cases h⟩
instance[t:uR P T]:FZ P T:=⟨fun w r base v h=>by
 simp only[Value.okWide,t.h,Cell.okWide,Cell.ok]at h
 cases v<;>first|rfl|cases h⟩
instance[t:zO P T]:FZ P T:=⟨fun w r base v h=>by
 simp only[Value.okWide,t.h,Cell.okWide,Cell.ok]at h
 cases v<;>first|rfl|cases h⟩
instance{E:TypeId}{n:Nat}[t:cK P T E n]:FZ P T:=⟨fun w r base v h=>by
 obtain⟨a,l,c,rfl⟩:=WideShapes.okWide_slice t.u h
 rfl⟩
theorem yy{α:Type}{e:α→List SV}{ok:α→Prop}{sz:α→Nat}[o1:FZ P T][o:oH P T e ok sz]{H:Type}{enc:TypeId×Value→H}{W:World}{r:Reach}{base:Nat}{v:Value}{d:DataW H}{p:List MemPlace}
  (hv:Value.okWide P W r base T v) (h:DataW.Trod enc P W 0 (fun _=>true) true T v d p):∃x,ok x∧sz x≤Rows.uptoBulk d∧SV.cG (snap W) (e x) [v]:=by
 obtain⟨fuel,h⟩:=h
 rw[o1.h W r base v hv]at h
 obtain⟨x,h1,h2,_,h4⟩:=o.h enc W fuel _ d p h
 exact⟨x,h1,h4,h2⟩
end opn
theorem IQ{f:FuncId}{vs:List Value}{svs:List SV}{W:World}(hp:Pure Try.prog f svs (.v (.bool true)))(h:SV.cG (snap W) svs vs):
  Calls Try.prog f ⟨vs⟩ W fun e w'=>e=.returned (.bool true)∧Below W.heap.size W w':=
 (hp (snap W) W vs (IN W) h).mono fun _ _ ⟨v,_,h1,_,_,_,h2,h3⟩=>by
  have h2:v=.bool true:=h2
  exact⟨by rw[h1,h2],h3⟩
end Go.Proofs.Ytmiflmkdaeianaa
namespace Go.Proofs.Ytmiflmkdaeianaa
open Go.Fw Go.RowKit Go.ChangeShapes Go.WideShapes Go.ChangeAt
theorem Yk:ownKnob Try.prog.godebug=none:=by kernel_rfl
theorem vu:laidOutB Try.prog=true:=by kernel_rfl
instance:Km Try.prog 24 2:=⟨by kernel_rfl⟩
set_option maxRecDepth 100000 in
instance:oH Try.prog 24 eZ (fun(z:Zr)=>(True∧(z.w.length≤9223372036854775807∧∀x1∈z.w,x1<4294967296))) (fun(z:Zr)=>(1+((z.w.map fun x1=>1).sum+1)+1)):=⟨fun enc W fuel cs d p h=>by
 obtain⟨xs,n,rfl,hl,hn,hf⟩:=nV h
 have hl:cs.length=2:=hl.trans (by kernel_rfl)
 match xs,hn with
 |[⟨d0,p0⟩,⟨d1,p1⟩],_=>
 match cs,hl with
 |[c0,c1],_=>
 have t0:DataW.trod enc Try.prog W 0 (fun _=>true) true n 4 [c0]=some (d0,p0):=(by have q:=hf 0 _ _ inferInstance;rw[show Try.prog.cellsOf 4=1 by kernel_rfl]at q;exact q)
 obtain⟨x0,a0,b0,e0,s0⟩:=oH.h (P:=Try.prog) (T:=4) (e:=eB) enc W n _ d0 p0 t0
 have t1:DataW.trod enc Try.prog W 0 (fun _=>true) true n 22 [c1]=some (d1,p1):=(by have q:=hf 1 _ _ inferInstance;rw[show Try.prog.cellsOf 22=1 by kernel_rfl]at q;exact q)
 obtain⟨x1,a1,b1,e1,s1⟩:=oH.h (P:=Try.prog) (T:=22) (e:=(eS 1 aj)) enc W n _ d1 p1 t1
 refine⟨⟨x0,x1⟩,⟨a0,a1⟩,⟨b0.1,b1.1,trivial⟩,?_,?_⟩
 ·intro v hv;simp only[List.mem_cons,List.not_mem_nil,or_false]at hv;rcases hv with rfl|rfl
  ·exact e0 _ (by simp)
  ·exact e1 _ (by simp)
 ·simp only[List.map_cons,List.map_nil,Rows.uptoBulk,Rows.uptoBulkAll];omega⟩
instance:Km Try.prog 26 2:=⟨by kernel_rfl⟩
set_option maxRecDepth 100000 in
instance:oH Try.prog 26 eQ (fun(z:Qr)=>((True∧(z.num.w.length≤9223372036854775807∧∀x1∈z.num.w,x1<4294967296))∧(True∧(z.den.w.length≤9223372036854775807∧∀x1∈z.den.w,x1<4294967296)))) (fun(z:Qr)=>((1+((z.num.w.map fun x1=>1).sum+1)+1)+(1+((z.den.w.map fun x1=>1).sum+1)+1)+1)):=⟨fun enc W fuel cs d p h=>by
 obtain⟨xs,n,rfl,hl,hn,hf⟩:=nV h
 have hl:cs.length=4:=hl.trans (by kernel_rfl)
 match xs,hn with
 |[⟨d0,p0⟩,⟨d1,p1⟩],_=>
 match cs,hl with
 |[c0,c1,c2,c3],_=>
 have t0:DataW.trod enc Try.prog W 0 (fun _=>true) true n 24 [c0,c1]=some (d0,p0):=(by have q:=hf 0 _ _ inferInstance;rw[show Try.prog.cellsOf 24=2 by kernel_rfl]at q;exact q)
 obtain⟨x0,a0,b0,e0,s0⟩:=oH.h (P:=Try.prog) (T:=24) (e:=eZ) enc W n _ d0 p0 t0
 have t1:DataW.trod enc Try.prog W 0 (fun _=>true) true n 24 [c2,c3]=some (d1,p1):=(by have q:=hf 1 _ _ inferInstance;rw[show Try.prog.cellsOf 24=2 by kernel_rfl]at q;exact q)
 obtain⟨x1,a1,b1,e1,s1⟩:=oH.h (P:=Try.prog) (T:=24) (e:=eZ) enc W n _ d1 p1 t1
 refine⟨⟨x0,x1⟩,⟨a0,a1⟩,⟨b0.1,b0.2.1,b1.1,b1.2.1,trivial⟩,?_,?_⟩
 ·intro v hv;simp only[List.mem_cons,List.not_mem_nil,or_false]at hv;rcases hv with rfl|rfl|rfl|rfl
  ·exact e0 _ (by simp)
  ·exact e0 _ (by simp)
  ·exact e1 _ (by simp)
  ·exact e1 _ (by simp)
 ·simp only[List.map_cons,List.map_nil,Rows.uptoBulk,Rows.uptoBulkAll];omega⟩
instance:Km Try.prog 56 4:=⟨by kernel_rfl⟩
set_option maxRecDepth 100000 in
instance:oH Try.prog 56 z9 (fun(z:Mv)=>((-9223372036854775808≤z.acc∧z.acc≤9223372036854775807)∧z.kd<256∧(-9223372036854775808≤z.hour∧z.hour≤9223372036854775807)∧((True∧(z.dS.num.w.length≤9223372036854775807∧∀x1∈z.dS.num.w,x1<4294967296))∧(True∧(z.dS.den.w.length≤9223372036854775807∧∀x1∈z.dS.den.w,x1<4294967296))))) (fun(z:Mv)=>(1+1+1+((1+((z.dS.num.w.map fun x1=>1).sum+1)+1)+(1+((z.dS.den.w.map fun x1=>1).sum+1)+1)+1)+1)):=⟨fun enc W fuel cs d p h=>by
 obtain⟨xs,n,rfl,hl,hn,hf⟩:=nV h
 have hl:cs.length=7:=hl.trans (by kernel_rfl)
 match xs,hn with
 |[⟨d0,p0⟩,⟨d1,p1⟩,⟨d2,p2⟩,⟨d3,p3⟩],_=>
 match cs,hl with
 |[c0,c1,c2,c3,c4,c5,c6],_=>
 have t0:DataW.trod enc Try.prog W 0 (fun _=>true) true n 3 [c0]=some (d0,p0):=(by have q:=hf 0 _ _ inferInstance;rw[show Try.prog.cellsOf 3=1 by kernel_rfl]at q;exact q)
 obtain⟨x0,a0,b0,e0,s0⟩:=oH.h (P:=Try.prog) (T:=3) (e:=vq) enc W n _ d0 p0 t0
 have t1:DataW.trod enc Try.prog W 0 (fun _=>true) true n 5 [c1]=some (d1,p1):=(by have q:=hf 1 _ _ inferInstance;rw[show Try.prog.cellsOf 5=1 by kernel_rfl]at q;exact q)
 obtain⟨x1,a1,b1,e1,s1⟩:=oH.h (P:=Try.prog) (T:=5) (e:=Kk) enc W n _ d1 p1 t1
 have t2:DataW.trod enc Try.prog W 0 (fun _=>true) true n 3 [c2]=some (d2,p2):=(by have q:=hf 2 _ _ inferInstance;rw[show Try.prog.cellsOf 3=1 by kernel_rfl]at q;exact q)
 obtain⟨x2,a2,b2,e2,s2⟩:=oH.h (P:=Try.prog) (T:=3) (e:=vq) enc W n _ d2 p2 t2
 have t3:DataW.trod enc Try.prog W 0 (fun _=>true) true n 26 [c3,c4,c5,c6]=some (d3,p3):=(by have q:=hf 3 _ _ inferInstance;rw[show Try.prog.cellsOf 26=4 by kernel_rfl]at q;exact q)
 obtain⟨x3,a3,b3,e3,s3⟩:=oH.h (P:=Try.prog) (T:=26) (e:=eQ) enc W n _ d3 p3 t3
 refine⟨⟨x0,x1,x2,x3⟩,⟨a0,a1,a2,a3⟩,⟨b0.1,b1.1,b2.1,b3.1,b3.2.1,b3.2.2.1,b3.2.2.2.1,trivial⟩,?_,?_⟩
 ·intro v hv;simp only[List.mem_cons,List.not_mem_nil,or_false]at hv;rcases hv with rfl|rfl|rfl|rfl|rfl|rfl|rfl
  ·exact e0 _ (by simp)
  ·exact e1 _ (by simp)
  ·exact e2 _ (by simp)
  ·exact e3 _ (by simp)
  ·exact e3 _ (by simp)
  ·exact e3 _ (by simp)
  ·exact e3 _ (by simp)
 ·simp only[List.map_cons,List.map_nil,Rows.uptoBulk,Rows.uptoBulkAll];omega⟩
instance:Km Try.prog 43 4:=⟨by kernel_rfl⟩
set_option maxRecDepth 100000 in
instance:oH Try.prog 43 dj (fun(z:En)=>((-9223372036854775808≤z.acc∧z.acc≤9223372036854775807)∧z.kd<256∧(-9223372036854775808≤z.hour∧z.hour≤9223372036854775807)∧(True∧(z.dB.w.length≤9223372036854775807∧∀x1∈z.dB.w,x1<4294967296)))) (fun(z:En)=>(1+1+1+(1+((z.dB.w.map fun x1=>1).sum+1)+1)+1)):=⟨fun enc W fuel cs d p h=>by
 obtain⟨xs,n,rfl,hl,hn,hf⟩:=nV h
 have hl:cs.length=5:=hl.trans (by kernel_rfl)
 match xs,hn with
 |[⟨d0,p0⟩,⟨d1,p1⟩,⟨d2,p2⟩,⟨d3,p3⟩],_=>
 match cs,hl with
 |[c0,c1,c2,c3,c4],_=>
 have t0:DataW.trod enc Try.prog W 0 (fun _=>true) true n 3 [c0]=some (d0,p0):=(by have q:=hf 0 _ _ inferInstance;rw[show Try.prog.cellsOf 3=1 by kernel_rfl]at q;exact q)
 obtain⟨x0,a0,b0,e0,s0⟩:=oH.h (P:=Try.prog) (T:=3) (e:=vq) enc W n _ d0 p0 t0
 have t1:DataW.trod enc Try.prog W 0 (fun _=>true) true n 5 [c1]=some (d1,p1):=(by have q:=hf 1 _ _ inferInstance;rw[show Try.prog.cellsOf 5=1 by kernel_rfl]at q;exact q)
 obtain⟨x1,a1,b1,e1,s1⟩:=oH.h (P:=Try.prog) (T:=5) (e:=Kk) enc W n _ d1 p1 t1
 have t2:DataW.trod enc Try.prog W 0 (fun _=>true) true n 3 [c2]=some (d2,p2):=(by have q:=hf 2 _ _ inferInstance;rw[show Try.prog.cellsOf 3=1 by kernel_rfl]at q;exact q)
 obtain⟨x2,a2,b2,e2,s2⟩:=oH.h (P:=Try.prog) (T:=3) (e:=vq) enc W n _ d2 p2 t2
 have t3:DataW.trod enc Try.prog W 0 (fun _=>true) true n 24 [c3,c4]=some (d3,p3):=(by have q:=hf 3 _ _ inferInstance;rw[show Try.prog.cellsOf 24=2 by kernel_rfl]at q;exact q)
 obtain⟨x3,a3,b3,e3,s3⟩:=oH.h (P:=Try.prog) (T:=24) (e:=eZ) enc W n _ d3 p3 t3
 refine⟨⟨x0,x1,x2,x3⟩,⟨a0,a1,a2,a3⟩,⟨b0.1,b1.1,b2.1,b3.1,b3.2.1,trivial⟩,?_,?_⟩
 ·intro v hv;simp only[List.mem_cons,List.not_mem_nil,or_false]at hv;rcases hv with rfl|rfl|rfl|rfl|rfl
  ·exact e0 _ (by simp)
  ·exact e1 _ (by simp)
  ·exact e2 _ (by simp)
  ·exact e3 _ (by simp)
  ·exact e3 _ (by simp)
 ·simp only[List.map_cons,List.map_nil,Rows.uptoBulk,Rows.uptoBulkAll];omega⟩
instance:Km Try.prog 88 4:=⟨by kernel_rfl⟩
set_option maxRecDepth 100000 in
instance:oH Try.prog 88 dj (fun(z:En)=>((-9223372036854775808≤z.acc∧z.acc≤9223372036854775807)∧z.kd<256∧(-9223372036854775808≤z.hour∧z.hour≤9223372036854775807)∧(True∧(z.dB.w.length≤9223372036854775807∧∀x1∈z.dB.w,x1<4294967296)))) (fun(z:En)=>(1+1+1+(1+((z.dB.w.map fun x1=>1).sum+1)+1)+1)):=⟨fun enc W fuel cs d p h=>by
 obtain⟨xs,n,rfl,hl,hn,hf⟩:=nV h
 have hl:cs.length=5:=hl.trans (by kernel_rfl)
 match xs,hn with
 |[⟨d0,p0⟩,⟨d1,p1⟩,⟨d2,p2⟩,⟨d3,p3⟩],_=>
 match cs,hl with
 |[c0,c1,c2,c3,c4],_=>
 have t0:DataW.trod enc Try.prog W 0 (fun _=>true) true n 3 [c0]=some (d0,p0):=(by have q:=hf 0 _ _ inferInstance;rw[show Try.prog.cellsOf 3=1 by kernel_rfl]at q;exact q)
 obtain⟨x0,a0,b0,e0,s0⟩:=oH.h (P:=Try.prog) (T:=3) (e:=vq) enc W n _ d0 p0 t0
 have t1:DataW.trod enc Try.prog W 0 (fun _=>true) true n 5 [c1]=some (d1,p1):=(by have q:=hf 1 _ _ inferInstance;rw[show Try.prog.cellsOf 5=1 by kernel_rfl]at q;exact q)
 obtain⟨x1,a1,b1,e1,s1⟩:=oH.h (P:=Try.prog) (T:=5) (e:=Kk) enc W n _ d1 p1 t1
 have t2:DataW.trod enc Try.prog W 0 (fun _=>true) true n 3 [c2]=some (d2,p2):=(by have q:=hf 2 _ _ inferInstance;rw[show Try.prog.cellsOf 3=1 by kernel_rfl]at q;exact q)
 obtain⟨x2,a2,b2,e2,s2⟩:=oH.h (P:=Try.prog) (T:=3) (e:=vq) enc W n _ d2 p2 t2
 have t3:DataW.trod enc Try.prog W 0 (fun _=>true) true n 24 [c3,c4]=some (d3,p3):=(by have q:=hf 3 _ _ inferInstance;rw[show Try.prog.cellsOf 24=2 by kernel_rfl]at q;exact q)
 obtain⟨x3,a3,b3,e3,s3⟩:=oH.h (P:=Try.prog) (T:=24) (e:=eZ) enc W n _ d3 p3 t3
 refine⟨⟨x0,x1,x2,x3⟩,⟨a0,a1,a2,a3⟩,⟨b0.1,b1.1,b2.1,b3.1,b3.2.1,trivial⟩,?_,?_⟩
 ·intro v hv;simp only[List.mem_cons,List.not_mem_nil,or_false]at hv;rcases hv with rfl|rfl|rfl|rfl|rfl
  ·exact e0 _ (by simp)
  ·exact e1 _ (by simp)
  ·exact e2 _ (by simp)
  ·exact e3 _ (by simp)
  ·exact e3 _ (by simp)
 ·simp only[List.map_cons,List.map_nil,Rows.uptoBulk,Rows.uptoBulkAll];omega⟩
instance:Km Try.prog 63 4:=⟨by kernel_rfl⟩
instance:Km Try.prog 66 2:=⟨by kernel_rfl⟩
set_option maxRecDepth 100000 in
instance:oH Try.prog 66 P4 (fun(z:Bk)=>((-9223372036854775808≤z.n∧z.n≤9223372036854775807)∧(z.l.length≤9223372036854775807∧∀x1∈z.l,((-9223372036854775808≤x1.acc∧x1.acc≤9223372036854775807)∧x1.kd<256∧(-9223372036854775808≤x1.hour∧x1.hour≤9223372036854775807)∧(True∧(x1.dB.w.length≤9223372036854775807∧∀x2∈x1.dB.w,x2<4294967296)))))) (fun(z:Bk)=>(1+((z.l.map fun x1=>(1+1+1+(1+((x1.dB.w.map fun x2=>1).sum+1)+1)+1)).sum+1)+1)):=⟨fun enc W fuel cs d p h=>by
 obtain⟨xs,n,rfl,hl,hn,hf⟩:=nV h
 have hl:cs.length=2:=hl.trans (by kernel_rfl)
 match xs,hn with
 |[⟨d0,p0⟩,⟨d1,p1⟩],_=>
 match cs,hl with
 |[c0,c1],_=>
 have t0:DataW.trod enc Try.prog W 0 (fun _=>true) true n 3 [c0]=some (d0,p0):=(by have q:=hf 0 _ _ inferInstance;rw[show Try.prog.cellsOf 3=1 by kernel_rfl]at q;exact q)
 obtain⟨x0,a0,b0,e0,s0⟩:=oH.h (P:=Try.prog) (T:=3) (e:=vq) enc W n _ d0 p0 t0
 have t1:DataW.trod enc Try.prog W 0 (fun _=>true) true n 39 [c1]=some (d1,p1):=(by have q:=hf 1 _ _ inferInstance;rw[show Try.prog.cellsOf 39=1 by kernel_rfl]at q;exact q)
 obtain⟨x1,a1,b1,e1,s1⟩:=oH.h (P:=Try.prog) (T:=39) (e:=(eS 5 dj)) enc W n _ d1 p1 t1
 refine⟨⟨x0,x1⟩,⟨a0,a1⟩,⟨b0.1,b1.1,trivial⟩,?_,?_⟩
 ·intro v hv;simp only[List.mem_cons,List.not_mem_nil,or_false]at hv;rcases hv with rfl|rfl
  ·exact e0 _ (by simp)
  ·exact e1 _ (by simp)
 ·simp only[List.map_cons,List.map_nil,Rows.uptoBulk,Rows.uptoBulkAll];omega⟩
end Go.Proofs.Ytmiflmkdaeianaa
namespace Go.Fw
open Go.RowKit
theorem BT{A B C:AS}(h:kK A B)(k:kK B C):kK A C:=fun c a w x=>k c a w (h c a w x)
theorem Ea{S:AS}(i o k:Nat)(E0:TypeId)(sz:Nat){T:TypeId}{cells:List AV}(hb:S.b i=some ⟨T,cells⟩)(hc:cells[o]? =some (.sv (.v (.slice none 0 0))))(hk:S.r k=.un)(PW:k<1000):
  kK S ((AS.aH [(k,.live ⟨E0,sz,0,[]⟩)] S).fY i ⟨T,cells.set o (.row k)⟩):=by
 rintro C a w ⟨E,h⟩
 have h1:=h.newRow hk PW [] none (.inl ⟨rfl,rfl⟩) (R':=⟨E0,sz,0,[]⟩) (World.ownsRow_nil w 0 E0 sz) (vs':=[]) trivial (.inl rfl) (jJ w none)
 have yn:(AS.aH [(k,.live ⟨E0,sz,0,[]⟩)] S).b i=some ⟨T,cells⟩:=hb
 have hrk:(AS.aH [(k,.live ⟨E0,sz,0,[]⟩)] S).r k≠ .un:=by
  show(AS.kz S k _).r k≠_
  rw[AS.dX];simp
 refine⟨_,{h1 with wf:=?_,bx:=fun j B hB=>?_,inj:=fun j j' B B' hB cX e=>?_,rx:=fun j R hR=>?_}⟩
 ·refine⟨fun t j hj=>?_,h1.wf.tr,fun j B hB x hx m hm=>?_,fun j B hB x hx m hm=>?_⟩
  ·obtain⟨B,hB⟩:=h1.wf.tb t j hj
   by_cases e:j=i
   ·subst e;exact⟨_,AS.bD _ _ _⟩
   ·exact⟨B,by rw[AS.aO _ _ _ _ e];exact hB⟩
  ·have key:∃B',(AS.aH [(k,.live ⟨E0,sz,0,[]⟩)] S).b m=some B':=by
    by_cases e:j=i
    ·subst e;rw[AS.bD]at hB;cases hB
     rcases List.mem_or_eq_of_mem_set hx with hx|rfl
     ·exact h1.wf.bb j _ yn x hx m hm
     ·exact hm.elim
    ·rw[AS.aO _ _ _ _ e]at hB;exact h1.wf.bb j B hB x hx m hm
   obtain⟨B',cX⟩:=key
   by_cases e:m=i
   ·subst e;exact⟨_,AS.bD _ _ _⟩
   ·exact⟨B',by rw[AS.aO _ _ _ _ e];exact cX⟩
  ·by_cases e:j=i
   ·subst e;rw[AS.bD]at hB;cases hB
    rcases List.mem_or_eq_of_mem_set hx with hx|rfl
    ·exact h1.wf.br j _ yn x hx m hm
    ·cases hm;exact hrk
   ·rw[AS.aO _ _ _ _ e]at hB;exact h1.wf.br j B hB x hx m hm
 ·by_cases e:j=i
  ·subst e;rw[AS.bD]at hB;cases hB
   obtain⟨q1,q2,q3,vs,q4,q5⟩:=h1.bx j _ yn
   refine⟨q1,q2,q3,vs,q4,?_⟩
   obtain⟨x,hx,hv⟩:=q5.get hc
   have hv:x=.slice none 0 0:=hv
   have:=bz.set (i:=o) (s:=.row k) (x:=x) q5 (by
    show x=if k=k then _ else _
    rw[if_pos rfl];exact hv)
   have he:vs.set o x=vs:=by
    apply List.ext_getElem?
    intro n
    rw[List.getElem?_set]
    split
    ·rename_i hn;subst hn;rw[hx];split<;>rename_i hl
     ·rfl
     ·have:=(List.getElem?_eq_some_iff.1 hx).1;exact absurd this hl
    ·rfl
   rwa[he]at this
  ·rw[AS.aO _ _ _ _ e]at hB;exact h1.bx j B hB
 ·have old:∀n B,((AS.aH [(k,.live ⟨E0,sz,0,[]⟩)] S).fY i ⟨T,cells.set o (.row k)⟩).b n=some B→∃B',(AS.aH [(k,.live ⟨E0,sz,0,[]⟩)] S).b n=some B':=fun n B hn=>by
   by_cases e:n=i
   ·subst e;exact⟨_,yn⟩
   ·rw[AS.aO _ _ _ _ e]at hn;exact⟨B,hn⟩
  obtain⟨B1,p1⟩:=old j B hB
  obtain⟨B2,p2⟩:=old j' B' cX
  exact h1.inj j j' B1 B2 p1 p2 e
 ·obtain⟨p1,p2⟩:=h1.rx j R hR
  refine⟨p1,fun g hg=>?_⟩
  obtain⟨p3,p4,p5,p6⟩:=p2 g hg
  refine⟨p3,p4,p5,fun n B hn=>?_⟩
  by_cases e:n=i
  ·subst e;exact p6 n _ yn
  ·rw[AS.aO _ _ _ _ e]at hn;exact p6 n B hn
end Go.Fw
namespace Go.Fw
open Go.RowKit
section part
variable {P:Program}{C:Ctx}{ops:Array Oper}{acts:List Ac}{S:AS}
theorem qb(listed:Array Bool)(i:Nat)(hs:listed.size=ops.size)(hi:i<ops.size):listed.getD i true=listed.getD i false:=by
 rw[Array.getD_eq_getD_getElem?,Array.getD_eq_getD_getElem?]
 rw[Array.getElem?_eq_getElem (by omega)];rfl
end part
end Go.Fw
namespace Go.Fw
open Go.RowKit
instance{g:FuncId}{caps:List SV}:One (uZ g caps):=⟨fun _ _ h=>by obtain⟨vs,rfl,_⟩:=h;rfl⟩
section steps
variable {P:Program}{C:Ctx}{ops:Array Oper}{S:AS}{nd:Bool}{K:List Ac→AS→Prop}{rest:List Oper}{acc:List Ac}
variable {gd:Option (Nat×Bool)}{rg:List Nat}{d:Nat}{ty:TypeId}{pos:String}{aft:Array Edge}{x y z:Operand}{T U E0:TypeId}
end steps
end Go.Fw
namespace Go.Fw.Z
open Go.Fw
theorem T{d n:Nat}(h:Nat.ble (d+1) n=true:=by exact rfl):d<n:=tl h
theorem bE{α β:Type}{x:Option α}{f:α→Option β}{r:β}{G:Prop}(h:Option.bind x f=some r)(k:∀a,x=some a→f a=some r→G):G:=by obtain⟨a,h1,h2⟩:=bind_some h;exact k a h1 h2
theorem lE{α β:Type}{v:α}{f:α→Option β}{r:β}{G:Prop}(h:Option.bind (some v) f=some r)(k:∀a,v=a→f a=some r→G):G:=k v rfl h
theorem bS{α β:Type}{x:Option α}{f:α→Option β}{r:β}(h:Option.bind x f=some r):∃a,x=some a∧f a=some r:=bind_some h
theorem F{α:Type}{x y:Option α}{r:α}(h:(bif false then x else y)=some r):y=some r:=h
theorem V{α:Type}{x y:Option α}{r:α}(h:(bif true then x else y)=some r):x=some r:=h
theorem O{α:Type}{a b:α}(h:some a=some b):a=b:=Option.some.inj h
def sI(l:List (Nat×Nat))(i:Nat):Nat:=((l.find? fun p=>Nat.beq p.1 i).map (·.2)).getD i
def VQ(l:List (Nat×Nat)):AV→AV
 |.row i=>.row (sI l i)
 |.jg i o n=>.jg (sI l i) o n
 |x=>x
def VR:AV→Bool
 |.eK _ _=>false
 |.cmp _ _=>false
 |_=>true
theorem avi(l:List (Nat×Nat)){x:AV}(h:VR x=true):D0 (sI l) (VQ l x) x:=by
 cases x with
 |sv s=>exact .sv (SV.aa _)
 |ptr i o=>exact .ptr
 |ya i o n c=>exact .ya
 |row i=>exact .row rfl
 |eK i k=>cases h
 |jg i o n=>exact .jg rfl
 |dV g js=>exact .dV
 |cmp t js=>cases h
theorem Qc(l:List (Nat×Nat)):∀{xs:List AV},(xs.all VR)=true→BF (sI l) (xs.map (VQ l)) xs
 |[],_=>trivial
 |x::xs,h=>by simp only[List.all_cons,Bool.and_eq_true]at h;exact⟨avi l h.1,Qc l h.2⟩
theorem wR(l:List (Nat×Nat)){S:AS}{n:Nat}{ts:List (Nat×AV)}{bs:List (Nat×iP)}{rs:List (Nat×Row)}{g:Nat}{go:Bool}
  (ht:ts.map (fun p=>S.t p.1)=ts.map (fun p=>VQ l p.2):=by exact rfl) (hb:bs.map (fun p=>S.b p.1)=bs.map (fun p=>some ⟨p.2.T,p.2.cells.map (VQ l)⟩):=by exact rfl) (hr:rs.map (fun p=>S.r (sI l p.1))=rs.map (fun p=>.live p.2):=by exact rfl)
  (hn:S.n=n:=by exact rfl) (hg:S.g=g:=by exact rfl) (Ip:S.go=go:=by exact rfl)
  (hwf:((ts.all fun p=>p.2.gX bs rs)&&(bs.all fun p=>p.2.cells.all fun x=>x.gX bs rs))=true:=by exact rfl) (hσ:((rs.all fun p=>rs.all fun q=>!(Nat.beq (sI l p.1) (sI l q.1))||Nat.beq p.1 q.1))=true:=by exact rfl)
  (hno:((ts.all fun p=>VR p.2)&&(bs.all fun p=>p.2.cells.all VR))=true:=by exact rfl) (hl:(l.all fun p=>Nat.ble (p.1+1) 1000)=true:=by exact rfl):kK S (AS.cm n ts bs rs g go):=by
 simp only[Bool.and_eq_true,List.all_eq_true]at hno
 refine dz (sI l) hn hg Ip hwf hσ ?_ ?_ ?_ ?_
 ·clear hwf hb hr
  obtain⟨h,-⟩:=hno
  induction ts with
  |nil=>trivial
  |cons p ts ih=>
   obtain⟨k,x⟩:=p
   simp only[List.map_cons,List.cons.injEq]at ht
   refine⟨?_,ih ht.2 (fun q hq=>h q (by simp[hq]))⟩
   show D0 _ (S.t k) x
   rw[ht.1];exact avi l (h (k,x) (by simp))
 ·clear hwf ht hr
  obtain⟨-,h⟩:=hno
  induction bs with
  |nil=>trivial
  |cons p bs ih=>
   obtain⟨k,x⟩:=p
   simp only[List.map_cons,List.cons.injEq]at hb
   exact⟨⟨_,hb.1,Qc l (List.all_eq_true.2 (h (k,x) (by simp)))⟩,ih hb.2 (fun q hq=>h q (by simp[hq]))⟩
 ·clear hwf ht hb hσ
  induction rs with
  |nil=>trivial
  |cons p rs ih=>
   obtain⟨k,x⟩:=p
   simp only[List.map_cons,List.cons.injEq]at hr
   exact⟨⟨_,hr.1,cc.refl _⟩,ih hr.2⟩
 ·intro i hi
  unfold sI
  have:l.find? (fun p=>Nat.beq p.1 i)=none:=by
   rw[List.find?_eq_none]
   intro p hp e
   have h1:=Nat.le_of_ble_eq_true (List.all_eq_true.1 hl p hp)
   have h2:=Nat.eq_of_beq_eq_true e
   omega
  rw[this];rfl
section
variable {P:Program}{C:Ctx}{S:AS}{Q:Exit→AS→Prop}
theorem qq{x y:Code}(h:Ok P C x S (ae (fun S'=>Ok P C y S' Q) Q)):Ok P C (.seq x y) S Q:=aZ h
theorem sr{id:Nat}{ops:Array Oper}{y:Code}(h:RunT P C ops true (fun _ S=>ae (fun S'=>Ok P C y S' Q) Q .normal S) ops.toList [] S):Ok P C (.seq (.region id ops false) y) S Q:=aZ (ah h)
theorem dn{ops:Array Oper}{acc:List Ac}{next:AS→Prop}(h:next S):RunT P C ops true (fun _ S=>ae next Q .normal S) [] acc S:=h
theorem cF{c:Operand}{x y:Code}(hf:Ok P C y S Q)(hc:S.ev c=.sv (.v (.bool false)):=by exact rfl):Ok P C (.cond c x y) S Q:=gj hc hf
theorem cT{c:Operand}{x y:Code}(ht:Ok P C x S Q)(hc:S.ev c=.sv (.v (.bool true)):=by exact rfl):Ok P C (.cond c x y) S Q:=eD hc ht
theorem fs{c:Operand}{x:Code}{next:AS→Prop}(h:next S)(hc:S.ev c=.sv (.v (.bool false)):=by exact rfl):Ok P C (.cond c x .skip) S (ae next Q):=gj hc (aG h)
theorem R1{A:Prop}{e:Exit}{t:Nat}{s:SV}(h:S.t t=.sv s):(A∨e=e)∧EV P S [.tmp t] s:=⟨.inr rfl,cE (.tmp h .nil) (SV.aa _)⟩
theorem R2{A:Prop}{e:Exit}{t u:Nat}{s s':SV}(h:S.t t=.sv s)(h':S.t u=.sv s'):(A∨e=e)∧EV P S [.tmp t,.tmp u] (.wL [s,s']):=⟨.inr rfl,cE (.tmp h (.tmp h' .nil)) (SV.aa _)⟩
theorem RZ{A:Prop}{e:Exit}{rs:List ResultVar}{ss:List SV}{r:SV}(h:EX P S rs ss)(h':SV.imp (Fz ss) r:=by exact SV.aa _):(A∨e=e)∧EV P S rs r:=⟨.inr rfl,cE h h'⟩
end
section
variable {P:Program}{C:Ctx}{ops:Array Oper}{S:AS}{nd:Bool}{K:List Ac→AS→Prop}{rest:List Oper}{acc:List Ac}
variable {gd:Option (Nat×Bool)}{rg:List Nat}{d:Nat}{ty:TypeId}{pos:String}{aft:Array Edge}{x y z:Operand}{T U:TypeId}{k:IntKind}{p q:Int}
theorem pF{s:SV}(hz:S.ev z=.sv s)(next:RunT P C ops nd K rest (⟨[]++(af x++af z),[],[],⟨some (d,.sv s),[],[]⟩⟩::acc) (S.set d (.sv s)))(hx:S.ev x=.sv (.v (.bool false)):=by exact rfl)(hd:d<S.n:=by exact tl rfl):RunT P C ops nd K (⟨some d,.pick x y z,ty,pos,aft,none⟩::rest) acc S:=
 RT.Ka .none hx hz hd next
theorem pT{s:SV}(hy:S.ev y=.sv s)(next:RunT P C ops nd K rest (⟨[]++(af x++af y),[],[],⟨some (d,.sv s),[],[]⟩⟩::acc) (S.set d (.sv s)))(hx:S.ev x=.sv (.v (.bool true)):=by exact rfl)(hd:d<S.n:=by exact tl rfl):RunT P C ops nd K (⟨some d,.pick x y z,ty,pos,aft,none⟩::rest) acc S:=
 RT.J9 .none hx hy hd next
theorem mo{s:AV}(hx:S.ev x=s)(next:RunT P C ops nd K rest (⟨[]++af x,[],[],⟨some (d,s),[],[]⟩⟩::acc) (S.set d s))(hd:d<S.n:=by exact tl rfl):RunT P C ops nd K (⟨some d,.move x,ty,pos,aft,none⟩::rest) acc S:=
 RT.move .none hx hd next
theorem ad(c:Int)(hx:S.ev x=.sv (.v (.int k p)))(hy:S.ev y=.sv (.v (.int k q)))(hc:k.wrap (p+q)=c)(next:RunT P C ops nd K rest (⟨[]++(af x++af y),[],[],⟨some (d,.sv (.v (.int k c))),[],[]⟩⟩::acc) (S.set d (.sv (.v (.int k c)))))(hd:d<S.n:=by exact tl rfl):RunT P C ops nd K (⟨some d,.binOp .add T x y U,ty,pos,aft,none⟩::rest) acc S:=
 RT.add .none c hx hy hd hc next
theorem cv{j:IntKind}[tT:eE P T j][tU:eE P U k](c:Int){k':IntKind}(hx:S.ev x=.sv (.v (.int k' p)))(hc:k.wrap p=c)(next:RunT P C ops nd K rest (⟨[]++af x,[],[],⟨some (d,.sv (.v (.int k c))),[],[]⟩⟩::acc) (S.set d (.sv (.v (.int k c)))))(hd:d<S.n:=by exact tl rfl):RunT P C ops nd K (⟨some d,.convert T U x,ty,pos,aft,none⟩::rest) acc S:=
 RT.conv .none c hx hd hc next
theorem ls(c:Bool)(hx:S.ev x=.sv (.v (.int k p)))(hy:S.ev y=.sv (.v (.int k q)))(hc:decide (p<q)=c)(next:RunT P C ops nd K rest (⟨[]++(af x++af y),[],[],⟨some (d,.sv (.v (.bool c))),[],[]⟩⟩::acc) (S.set d (.sv (.v (.bool c)))))(hd:d<S.n:=by exact tl rfl):RunT P C ops nd K (⟨some d,.binOp .lss T x y U,ty,pos,aft,none⟩::rest) acc S:=
 RT.lss .none c hx hy hd hc next
theorem sb(c:Int)(hx:S.ev x=.sv (.v (.int k p)))(hy:S.ev y=.sv (.v (.int k q)))(hc:k.wrap (p-q)=c)(next:RunT P C ops nd K rest (⟨[]++(af x++af y),[],[],⟨some (d,.sv (.v (.int k c))),[],[]⟩⟩::acc) (S.set d (.sv (.v (.int k c)))))(hd:d<S.n:=by exact tl rfl):RunT P C ops nd K (⟨some d,.binOp .sub T x y U,ty,pos,aft,none⟩::rest) acc S:=
 RT.sub .none c hx hy hd hc next
theorem an{s:AV}(hx:S.ev x=s)(next:RunT P C ops nd K rest (⟨[]++af x,[],[],⟨some (d,s),[],[]⟩⟩::acc) (S.set d s))(hd:d<S.n:=by exact tl rfl):RunT P C ops nd K (⟨some d,.assign x,ty,pos,aft,none⟩::rest) acc S:=
 RT.assign .none hx hd next
theorem gt(c:Bool)(hx:S.ev x=.sv (.v (.int k p)))(hy:S.ev y=.sv (.v (.int k q)))(hc:decide (q<p)=c)(next:RunT P C ops nd K rest (⟨[]++(af x++af y),[],[],⟨some (d,.sv (.v (.bool c))),[],[]⟩⟩::acc) (S.set d (.sv (.v (.bool c)))))(hd:d<S.n:=by exact tl rfl):RunT P C ops nd K (⟨some d,.binOp .gtr T x y U,ty,pos,aft,none⟩::rest) acc S:=
 RT.gtr .none c hx hy hd hc next
theorem eq(c:Bool)(hx:S.ev x=.sv (.v (.int k p)))(hy:S.ev y=.sv (.v (.int k q)))(hc:(p==q)=c)(next:RunT P C ops nd K rest (⟨[]++(af x++af y),[],[],⟨some (d,.sv (.v (.bool c))),[],[]⟩⟩::acc) (S.set d (.sv (.v (.bool c)))))(hd:d<S.n:=by exact tl rfl):RunT P C ops nd K (⟨some d,.binOp .eql T x y U,ty,pos,aft,none⟩::rest) acc S:=
 RT.eql .none c hx hy hd hc next
theorem ne(c:Bool)(hx:S.ev x=.sv (.v (.int k p)))(hy:S.ev y=.sv (.v (.int k q)))(hc:(p != q)=c)(next:RunT P C ops nd K rest (⟨[]++(af x++af y),[],[],⟨some (d,.sv (.v (.bool c))),[],[]⟩⟩::acc) (S.set d (.sv (.v (.bool c)))))(hd:d<S.n:=by exact tl rfl):RunT P C ops nd K (⟨some d,.binOp .neq T x y U,ty,pos,aft,none⟩::rest) acc S:=
 RT.neq .none c hx hy hd hc next
theorem ge(c:Bool)(hx:S.ev x=.sv (.v (.int k p)))(hy:S.ev y=.sv (.v (.int k q)))(hc:decide (q≤p)=c)(next:RunT P C ops nd K rest (⟨[]++(af x++af y),[],[],⟨some (d,.sv (.v (.bool c))),[],[]⟩⟩::acc) (S.set d (.sv (.v (.bool c)))))(hd:d<S.n:=by exact tl rfl):RunT P C ops nd K (⟨some d,.binOp .geq T x y U,ty,pos,aft,none⟩::rest) acc S:=
 RT.geq .none c hx hy hd hc next
theorem nt{b:Bool}(hx:S.ev x=.sv (.v (.bool b)))(c:Bool)(hc:(!b)=c)(next:RunT P C ops nd K rest (⟨[]++af x,[],[],⟨some (d,.sv (.v (.bool c))),[],[]⟩⟩::acc) (S.set d (.sv (.v (.bool c)))))(hd:d<S.n:=by exact tl rfl):RunT P C ops nd K (⟨some d,.unOp .not T x,ty,pos,aft,none⟩::rest) acc S:=
 RT.not .none hx hd c hc next
theorem gF{j_ g_:Nat}{dD:Bool}{s:SV}(hz:S.ev z=.sv s)(next:RunT P C ops nd K rest (⟨[g_]++(af x++af z),[],[],⟨some (d,.sv s),[],[]⟩⟩::acc) (S.set d (.sv s)))(wS:(ops[j_]?).bind (·.dst)=some g_:=by exact rfl)(wU:S.t g_=.sv (.v (.bool dD)):=by exact rfl)(hx:S.ev x=.sv (.v (.bool false)):=by exact rfl)(hd:d<S.n:=by exact tl rfl):RunT P C ops nd K (⟨some d,.pick x y z,ty,pos,aft,some (j_,dD)⟩::rest) acc S:=
 RT.Ka (.some wS wU) hx hz hd next
theorem gT{j_ g_:Nat}{dD:Bool}{s:SV}(hy:S.ev y=.sv s)(next:RunT P C ops nd K rest (⟨[g_]++(af x++af y),[],[],⟨some (d,.sv s),[],[]⟩⟩::acc) (S.set d (.sv s)))(wS:(ops[j_]?).bind (·.dst)=some g_:=by exact rfl)(wU:S.t g_=.sv (.v (.bool dD)):=by exact rfl)(hx:S.ev x=.sv (.v (.bool true)):=by exact rfl)(hd:d<S.n:=by exact tl rfl):RunT P C ops nd K (⟨some d,.pick x y z,ty,pos,aft,some (j_,dD)⟩::rest) acc S:=
 RT.J9 (.some wS wU) hx hy hd next
theorem gq{j_ g_:Nat}{dD:Bool}(c:Bool)(hx:S.ev x=.sv (.v (.int k p)))(hy:S.ev y=.sv (.v (.int k q)))(hc:(p != q)=c)(next:RunT P C ops nd K rest (⟨[g_]++(af x++af y),[],[],⟨some (d,.sv (.v (.bool c))),[],[]⟩⟩::acc) (S.set d (.sv (.v (.bool c)))))(wS:(ops[j_]?).bind (·.dst)=some g_:=by exact rfl)(wU:S.t g_=.sv (.v (.bool dD)):=by exact rfl)(hd:d<S.n:=by exact tl rfl):RunT P C ops nd K (⟨some d,.binOp .neq T x y U,ty,pos,aft,some (j_,dD)⟩::rest) acc S:=
 RT.neq (.some wS wU) c hx hy hd hc next
theorem gg{j_ g_:Nat}{dD:Bool}(c:Bool)(hx:S.ev x=.sv (.v (.int k p)))(hy:S.ev y=.sv (.v (.int k q)))(hc:decide (q<p)=c)(next:RunT P C ops nd K rest (⟨[g_]++(af x++af y),[],[],⟨some (d,.sv (.v (.bool c))),[],[]⟩⟩::acc) (S.set d (.sv (.v (.bool c)))))(wS:(ops[j_]?).bind (·.dst)=some g_:=by exact rfl)(wU:S.t g_=.sv (.v (.bool dD)):=by exact rfl)(hd:d<S.n:=by exact tl rfl):RunT P C ops nd K (⟨some d,.binOp .gtr T x y U,ty,pos,aft,some (j_,dD)⟩::rest) acc S:=
 RT.gtr (.some wS wU) c hx hy hd hc next
theorem BU{j_ g_:Nat}{dD:Bool}(c:Bool)(hx:S.ev x=.sv (.v (.int k p)))(hy:S.ev y=.sv (.v (.int k q)))(hc:(p==q)=c)(next:RunT P C ops nd K rest (⟨[g_]++(af x++af y),[],[],⟨some (d,.sv (.v (.bool c))),[],[]⟩⟩::acc) (S.set d (.sv (.v (.bool c)))))(wS:(ops[j_]?).bind (·.dst)=some g_:=by exact rfl)(wU:S.t g_=.sv (.v (.bool dD)):=by exact rfl)(hd:d<S.n:=by exact tl rfl):RunT P C ops nd K (⟨some d,.binOp .eql T x y U,ty,pos,aft,some (j_,dD)⟩::rest) acc S:=
 RT.eql (.some wS wU) c hx hy hd hc next
theorem Yl{j_ g_:Nat}{dD:Bool}{b:Bool}(hx:S.ev x=.sv (.v (.bool b)))(c:Bool)(hc:(!b)=c)(next:RunT P C ops nd K rest (⟨[g_]++af x,[],[],⟨some (d,.sv (.v (.bool c))),[],[]⟩⟩::acc) (S.set d (.sv (.v (.bool c)))))(wS:(ops[j_]?).bind (·.dst)=some g_:=by exact rfl)(wU:S.t g_=.sv (.v (.bool dD)):=by exact rfl)(hd:d<S.n:=by exact tl rfl):RunT P C ops nd K (⟨some d,.unOp .not T x,ty,pos,aft,some (j_,dD)⟩::rest) acc S:=
 RT.not (.some wS wU) hx hd c hc next
end
section
variable {P:Program}{C:Ctx}{ops:Array Oper}{S:AS}{nd:Bool}{K:List Ac→AS→Prop}{rest:List Oper}{acc:List Ac}
variable {gd:Option (Nat×Bool)}{rg:List Nat}{d:Nat}{ty:TypeId}{pos:String}{aft:Array Edge}{x y z:Operand}{T U E0:TypeId}
theorem mv{s:SV}(hx:S.ev x=.sv s)(next:RunT P C ops nd K rest (⟨[]++af x,[],[],⟨some (d,.sv s),[],[]⟩⟩::acc) (S.set d (.sv s)))(hd:d<S.n:=by exact tl rfl):RunT P C ops nd K (⟨some d,.move x,ty,pos,aft,none⟩::rest) acc S:=
 RT.mv .none hx hd next
theorem ag{s:SV}(hx:S.ev x=.sv s)(next:RunT P C ops nd K rest (⟨[]++af x,[],[],⟨some (d,.sv s),[],[]⟩⟩::acc) (S.set d (.sv s)))(hd:d<S.n:=by exact tl rfl):RunT P C ops nd K (⟨some d,.assign x,ty,pos,aft,none⟩::rest) acc S:=
 RT.yo .none hx hd next
theorem cl{f:FuncId}[bM P f]{g:Operand}{xs:Array Operand}{at_:Array TypeId}{args:List SV}{r:SV}(hp:Pure P f args r)(hargs:eM S xs.toList args)(next:RunT P C ops nd K rest (⟨[]++(af g++xs.toList.flatMap af),[],[],⟨some (d,.sv r),[],[]⟩⟩::acc) (S.set d (.sv r)))(hf:S.ev g=.sv (.v (.func (.func f) #[] #[])):=by exact rfl)(hd:d<S.n:=by exact tl rfl):RunT P C ops nd K (⟨some d,.call ⟨.value g,xs,at_⟩,ty,pos,aft,none⟩::rest) acc S:=
 RT.call .none hp hf hargs hd next
theorem ld{n:Nat}[tA:fm P T n]{j off:Nat}{B:iP}{cs:List SV}(hx:S.ev x=.ptr j off)(hB:S.b j=some B)(hcs:EU B.cells off cs)(next:RunT P C ops nd K rest (⟨[]++af x,[j],[],⟨some (d,.sv (.agg cs)),[],[]⟩⟩::acc) (S.set d (.sv (.agg cs))))(hn:cs.length=n:=by exact rfl)(hd:d<S.n:=by exact tl rfl):RunT P C ops nd K (⟨some d,.load T x,ty,pos,aft,none⟩::rest) acc S:=
 RT.load .none hx hB hcs hn hd next
theorem lV[tV:bY P T]{j off:Nat}{B:iP}{s:SV}(hx:S.ev x=.ptr j off)(hB:S.b j=some B)(hn:B.cells[off]? =some (.sv s))(next:RunT P C ops nd K rest (⟨[]++af x,[j],[],⟨some (d,.sv s),[],[]⟩⟩::acc) (S.set d (.sv s)))(hd:d<S.n:=by exact tl rfl):RunT P C ops nd K (⟨some d,.load T x,ty,pos,aft,none⟩::rest) acc S:=
 RT.Mk .none hx hB hn hd next
theorem fa{f off:Nat}[hf:dR P T f off U][sU:dN P U]{j o:Nat}(hx:S.ev x=.ptr j o){o':Nat}(ho':o+off=o')(next:RunT P C ops nd K rest (⟨[]++af x,[],[],⟨some (d,.ptr j o'),[],[]⟩⟩::acc) (S.set d (.ptr j o')))(hd:d<S.n:=by exact tl rfl):RunT P C ops nd K (⟨some d,.fieldAddr T x f,ty,pos,aft,none⟩::rest) acc S:=
 RT.fieldAddr .none hx hd ho' next
theorem so{n:Nat}[tA:fm P T n]{j:Nat}{B:iP}{cs:List SV}[o1:rH cs](hx:S.ev x=.ptr j 0)(hB:S.b j=some B)(hy:S.ev y=.sv (.agg cs))(next:RunT P C ops nd K rest (⟨[]++(af x++af y),[j],[],⟨none,[(j,⟨B.T,cs.map AV.sv⟩)],[]⟩⟩::acc) (S.fY j ⟨B.T,cs.map AV.sv⟩))(tH:cs.length=n:=by exact rfl)(hn:B.cells.length=n:=by exact rfl):RunT P C ops nd K (⟨none,.store T x y,ty,pos,aft,none⟩::rest) acc S:=
 RT.store .none hx hB hy tH hn next
theorem ex{i:Nat}{ss:List SV}{s:SV}(hx:S.ev x=.sv (.wL ss))(hi:ss[i]? =some s)(next:RunT P C ops nd K rest (⟨[]++af x,[],[],⟨some (d,.sv s),[],[]⟩⟩::acc) (S.set d (.sv s)))(hd:d<S.n:=by exact tl rfl):RunT P C ops nd K (⟨some d,.extract x i,ty,pos,aft,none⟩::rest) acc S:=
 RT.extract .none hx hi hd next
theorem bx{cells:List SV}(hx:S.ev x=.sv (.agg cells))(next:RunT P C ops nd K rest (⟨[]++af x,[d],[],⟨some (d,.ptr d 0),[(d,⟨T,cells.map AV.sv⟩)],[]⟩⟩::acc) ((S.fY d ⟨T,cells.map AV.sv⟩).set d (.ptr d 0)))(hd:d<S.n:=by exact tl rfl)(hb:S.b d=none:=by exact rfl)(hp:C.dL d=none:=by exact rfl):RunT P C ops nd K (⟨some d,.box T x,ty,pos,aft,none⟩::rest) acc S:=
 RT.box .none hx hd hb hp next
theorem lr[tV:bY P T]{cells:List SV}{s:SV}(hx:S.ev x=.sv (ref cells))(hn:cells[0]? =some s)(next:RunT P C ops nd K rest (⟨[]++af x,[],[],⟨some (d,.sv s),[],[]⟩⟩::acc) (S.set d (.sv s)))(hd:d<S.n:=by exact tl rfl):RunT P C ops nd K (⟨some d,.load T x,ty,pos,aft,none⟩::rest) acc S:=
 RT.fC .none hx hn hd next
theorem cB{f:FuncId}[bM P f]{g:Operand}{xs:Array Operand}{at_:Array TypeId}{args:List SV}{T:TypeId}{c0 c1:List SV}{res:SV}(hp:Iw P f args T c0 res c1)(j:Nat)(hB:S.b j=some ⟨T,c0.map AV.sv⟩)(hargs:eM S xs.toList args)(next:RunT P C ops nd K rest (⟨[]++(af g++xs.toList.flatMap af),[j],[],⟨some (d,.sv res),[(j,⟨T,c1.map AV.sv⟩)],[]⟩⟩::acc) ((AS.cP [(j,⟨T,c1.map AV.sv⟩)] S).set d (.sv res)))(hf:S.ev g=.dV f [.box j]:=by exact rfl)(hd:d<S.n:=by exact tl rfl):RunT P C ops nd K (⟨some d,.call ⟨.value g,xs,at_⟩,ty,pos,aft,none⟩::rest) acc S:=
 RT.PS .none hp j hB hf hargs hd next
theorem cN{f:FuncId}[bM P f]{g:Operand}{xs:Array Operand}{at_:Array TypeId}{args:List SV}{R:Row}(hp:z6 P f args R)(hargs:eM S xs.toList args)(next:RunT P C ops nd K rest (⟨[]++(af g++xs.toList.flatMap af),[],[d],⟨some (d,.row d),[],[(d,.live R)]⟩⟩::acc) ((AS.aH [(d,.live R)] S).set d (.row d)))(hf:S.ev g=.sv (.v (.func (.func f) #[] #[])):=by exact rfl)(hd:d<S.n:=by exact tl rfl)(qg:S.r d=.un:=by exact rfl)(oB:d<1000:=by exact tl rfl):RunT P C ops nd K (⟨some d,.call ⟨.value g,xs,at_⟩,ty,pos,aft,none⟩::rest) acc S:=
 RT.PR .none hp hf hargs hd qg oB next
theorem gm{j_ g_:Nat}{dD:Bool}{s:SV}(hx:S.ev x=.sv s)(next:RunT P C ops nd K rest (⟨[g_]++af x,[],[],⟨some (d,.sv s),[],[]⟩⟩::acc) (S.set d (.sv s)))(wS:(ops[j_]?).bind (·.dst)=some g_:=by exact rfl)(wU:S.t g_=.sv (.v (.bool dD)):=by exact rfl)(hd:d<S.n:=by exact tl rfl):RunT P C ops nd K (⟨some d,.move x,ty,pos,aft,some (j_,dD)⟩::rest) acc S:=
 RT.mv (.some wS wU) hx hd next
theorem gl{j_ g_:Nat}{dD:Bool}{n:Nat}[tA:fm P T n]{j off:Nat}{B:iP}{cs:List SV}(hx:S.ev x=.ptr j off)(hB:S.b j=some B)(hcs:EU B.cells off cs)(next:RunT P C ops nd K rest (⟨[g_]++af x,[j],[],⟨some (d,.sv (.agg cs)),[],[]⟩⟩::acc) (S.set d (.sv (.agg cs))))(wS:(ops[j_]?).bind (·.dst)=some g_:=by exact rfl)(wU:S.t g_=.sv (.v (.bool dD)):=by exact rfl)(hn:cs.length=n:=by exact rfl)(hd:d<S.n:=by exact tl rfl):RunT P C ops nd K (⟨some d,.load T x,ty,pos,aft,some (j_,dD)⟩::rest) acc S:=
 RT.load (.some wS wU) hx hB hcs hn hd next
theorem gc{j_ g_:Nat}{dD:Bool}{f:FuncId}[bM P f]{g:Operand}{xs:Array Operand}{at_:Array TypeId}{args:List SV}{r:SV}(hp:Pure P f args r)(hargs:eM S xs.toList args)(next:RunT P C ops nd K rest (⟨[g_]++(af g++xs.toList.flatMap af),[],[],⟨some (d,.sv r),[],[]⟩⟩::acc) (S.set d (.sv r)))(wS:(ops[j_]?).bind (·.dst)=some g_:=by exact rfl)(wU:S.t g_=.sv (.v (.bool dD)):=by exact rfl)(hf:S.ev g=.sv (.v (.func (.func f) #[] #[])):=by exact rfl)(hd:d<S.n:=by exact tl rfl):RunT P C ops nd K (⟨some d,.call ⟨.value g,xs,at_⟩,ty,pos,aft,some (j_,dD)⟩::rest) acc S:=
 RT.call (.some wS wU) hp hf hargs hd next
theorem gr{j_ g_:Nat}{dD:Bool}[tV:bY P T]{cells:List SV}{s:SV}(hx:S.ev x=.sv (ref cells))(hn:cells[0]? =some s)(next:RunT P C ops nd K rest (⟨[g_]++af x,[],[],⟨some (d,.sv s),[],[]⟩⟩::acc) (S.set d (.sv s)))(wS:(ops[j_]?).bind (·.dst)=some g_:=by exact rfl)(wU:S.t g_=.sv (.v (.bool dD)):=by exact rfl)(hd:d<S.n:=by exact tl rfl):RunT P C ops nd K (⟨some d,.load T x,ty,pos,aft,some (j_,dD)⟩::rest) acc S:=
 RT.fC (.some wS wU) hx hn hd next
end
section
variable {P:Program}{C:Ctx}{ops:Array Oper}{S:AS}{nd:Bool}{K:List Ac→AS→Prop}{rest:List Oper}{acc:List Ac}
variable {gd:Option (Nat×Bool)}{rg:List Nat}{d:Nat}{ty:TypeId}{pos:String}{aft:Array Edge}{x y z:Operand}{T U E0:TypeId}
variable {l l' k:IJ}
theorem ww{op:Op}{j g:Nat}{b want:Bool}(next:RunT P C ops nd K rest (⟨[g],[],[],⟨some (d,.sv (.v undef)),[],[]⟩⟩::acc) (S.set d (.sv (.v undef))))(h1:(ops[j]?).bind (·.dst)=some g:=by exact rfl)(h2:S.t g=.sv (.v (.bool b)):=by exact rfl)(hb:b≠want:=by exact sk rfl)(hd:d<S.n:=by exact tl rfl):RunT P C ops nd K (⟨some d,op,ty,pos,aft,some (j,want)⟩::rest) acc S:=
 RT.skV h1 h2 hb hd next
theorem wu{op:Op}{j g:Nat}{want:Bool}(next:RunT P C ops nd K rest (⟨[g],[],[],⟨some (d,.sv (.v undef)),[],[]⟩⟩::acc) (S.set d (.sv (.v undef))))(h1:(ops[j]?).bind (·.dst)=some g:=by exact rfl)(h2:S.t g=.sv (.v undef):=by exact rfl)(hd:d<S.n:=by exact tl rfl):RunT P C ops nd K (⟨some d,op,ty,pos,aft,some (j,want)⟩::rest) acc S:=
 RT.Qa h1 h2 hd next
end
section
variable {P:Program}{C:Ctx}{ops:Array Oper}{S:AS}{nd:Bool}{K:List Ac→AS→Prop}{rest:List Oper}{acc:List Ac}
variable {gd:Option (Nat×Bool)}{rg:List Nat}{d:Nat}{ty:TypeId}{pos:String}{aft:Array Edge}{x y z:Operand}{T U E0:TypeId}
variable {α:Type}{l l' k:List α}{e:α→List SV}{n by_:Nat}{zv:Value}
theorem ln{m:Nat}[tS:cK P T E0 m]{c:Int}(hx:S.ev x=.sv (slc n (l.map e)))(hc:(l.length:Int)=c)(next:RunT P C ops nd K rest (⟨[]++af x,[],[],⟨some (d,.sv (.v (.int .i64 c))),[],[]⟩⟩::acc) (S.set d (.sv (.v (.int .i64 c)))))(hd:d<S.n:=by exact tl rfl):RunT P C ops nd K (⟨some d,.call ⟨.builtin .len,#[x],#[T]⟩,ty,pos,aft,none⟩::rest) acc S:=
 RT.P5 .none hx hd hc next
theorem al[tz:au P T zv]{cs:List SV}(hi:cc (zv.cells.toList.map SV.v) cs){av:List AV}(Ye:cs.map AV.sv=av)(next:RunT P C ops nd K rest (⟨[]++[],[d],[],⟨some (d,.ptr d 0),[(d,⟨T,av⟩)],[]⟩⟩::acc) ((S.fY d ⟨T,av⟩).set d (.ptr d 0)))(hd:d<S.n:=by exact tl rfl)(hb:S.b d=none:=by exact rfl)(hp:C.dL d=none:=by exact rfl):RunT P C ops nd K (⟨some d,.alloc T,ty,pos,aft,none⟩::rest) acc S:=
 RT.MD .none hi Ye hd hb hp next
theorem ix[tS:cK P T E0 n]{kk:IntKind}{i:Int}{a:α}(hx:S.ev x=.sv (slc n (l.map e)))(hy:S.ev y=.sv (.v (.int kk i)))(ha:bJ l i=some a)(next:RunT P C ops nd K rest (⟨[]++(af x++af y),[],[],⟨some (d,.sv (ref (e a))),[],[]⟩⟩::acc) (S.set d (.sv (ref (e a)))))(hd:d<S.n:=by exact tl rfl):RunT P C ops nd K (⟨some d,.indexAddr T x y,ty,pos,aft,none⟩::rest) acc S:=
 RT.FM .none hx hy hd ha next
theorem bl[tS:cK P T E0 n][tE:aB P E0 n by_ zv]{len:Nat}{parts:Array (Nat×Operand)}{qs:List (Nat×List SV)}(hp:g9 S parts.toList qs)(hc:kA 0 qs=true)(hl:qs.length=len)(hsz:(qs.all fun q=>Nat.beq q.2.length n)=true)(hlen:Nat.ble (len*n) 16777216=true)(D3:(zv.cells.toList.all fun v=>v.oneCell')=true)(gZ:qs.map (·.2)=l.map e)(next:RunT P C ops nd K rest (⟨[]++ew parts.toList,[],[],⟨some (d,.sv (slc n (l.map e))),[],[]⟩⟩::acc) (S.set d (.sv (slc n (l.map e)))))(hd:d<S.n:=by exact tl rfl):RunT P C ops nd K (⟨some d,.buildSlice T len parts,ty,pos,aft,none⟩::rest) acc S:=
 RT.IG .none hp hd hc hl hsz hlen D3 gZ next
theorem iR[tS:cK P T E0 n]{i j:Nat}{E1:TypeId}{kk:IntKind}{v:Int}(hx:S.ev x=.row i)(hR:S.r i=.live (TR E1 n e l))(hy:S.ev y=.sv (.v (.int kk v)))(h:pY l v=some j)(next:RunT P C ops nd K rest (⟨[]++(af x++af y),[],[i],⟨some (d,.eK i (j*n)),[],[]⟩⟩::acc) (S.set d (.eK i (j*n))))(hd:d<S.n:=by exact tl rfl):RunT P C ops nd K (⟨some d,.indexAddr T x y,ty,pos,aft,none⟩::rest) acc S:=
 RT.Yf .none hx hR hy hd h next
theorem aI{s X:SV}(hx:S.ev x=.sv s)(hi:SV.imp s X)(next:RunT P C ops nd K rest (⟨[]++af x,[],[],⟨some (d,.sv X),[],[]⟩⟩::acc) (S.set d (.sv X)))(hd:d<S.n:=by exact tl rfl):RunT P C ops nd K (⟨some d,.assign x,ty,pos,aft,none⟩::rest) acc S:=
 RT.Yd .none hx hi hd next
theorem bI{pl:List (Nat×Nat)}{zc:List Value}[tP:bf P T pl zc]{parts:Array (Nat×Operand)}{qs:List (Nat×List SV)}(hp:g9 S parts.toList qs){cs cs':List SV}(hi:cc cs cs')(next:RunT P C ops nd K rest (⟨[]++ew parts.toList,[],[],⟨some (d,.sv (.agg cs')),[],[]⟩⟩::acc) (S.set d (.sv (.agg cs'))))(hf:mY (fun i=>pl[i]?) (zc.map SV.v) qs=some cs:=by exact rfl)(hd:d<S.n:=by exact tl rfl):RunT P C ops nd K (⟨some d,.build T parts,ty,pos,aft,none⟩::rest) acc S:=
 RT.ME .none hp hf hi hd next
theorem lR[tV:bY P T][el:EL e 1]{i j:Nat}{E1:TypeId}{a:α}{s:SV}(hx:S.ev x=.eK i (j*1))(hR:S.r i=.live (TR E1 1 e l))(ha:l[j]? =some a)(hs:e a=[s])(next:RunT P C ops nd K rest (⟨[]++af x,[],[i],⟨some (d,.sv s),[],[]⟩⟩::acc) (S.set d (.sv s)))(hd:d<S.n:=by exact tl rfl):RunT P C ops nd K (⟨some d,.load T x,ty,pos,aft,none⟩::rest) acc S:=
 RT.P7 .none hx hR ha hs hd next
theorem aR[tS:cK P T E0 n][tE:aB P E0 n by_ zv]{i:Nat}(hx:S.ev x=.row i)(hR:S.r i=.live (TR E0 n e l))(hy:S.ev y=.sv (slc n (k.map e)))(h:wH by_ l k=some l')(next:RunT P C ops nd K rest (⟨[]++(af x++af y),[],[i,d],⟨some (d,.row d),[],[(i,.dead),(d,.live (TR E0 n e l'))]⟩⟩::acc) ((AS.aH [(i,.dead),(d,.live (TR E0 n e l'))] S).set d (.row d)))(hd:d<S.n:=by exact tl rfl)(qg:S.r d=.un:=by exact rfl)(oB:d<1000:=by exact tl rfl):RunT P C ops nd K (⟨some d,.call ⟨.builtin .append,#[x,y],#[T,T]⟩,ty,pos,aft,none⟩::rest) acc S:=
 RT.apR .none hx hR hy hd qg oB h next
theorem lA[tA:fm P T n][el:EL e n]{i j:Nat}{E1:TypeId}{a:α}(hx:S.ev x=.eK i (j*n))(hR:S.r i=.live (TR E1 n e l))(ha:l[j]? =some a)(next:RunT P C ops nd K rest (⟨[]++af x,[],[i],⟨some (d,.sv (.agg (e a))),[],[]⟩⟩::acc) (S.set d (.sv (.agg (e a)))))(hd:d<S.n:=by exact tl rfl):RunT P C ops nd K (⟨some d,.load T x,ty,pos,aft,none⟩::rest) acc S:=
 RT.P8 .none hx hR ha hd next
theorem sR[tV:bY P T][el:EL e 1]{i j:Nat}{E1:TypeId}{s:SV}[o1:One s](a:α)(hs:e a=[s])(hx:S.ev x=.eK i (j*1))(hR:S.r i=.live (TR E1 1 e l))(hy:S.ev y=.sv s)(h:stM l j a=some l')(next:RunT P C ops nd K rest (⟨[]++(af x++af y),[],[i],⟨none,[],[(i,.live (TR E1 1 e l'))]⟩⟩::acc) (AS.aH [(i,.live (TR E1 1 e l'))] S)):RunT P C ops nd K (⟨none,.store T x y,ty,pos,aft,none⟩::rest) acc S:=
 RT.Yg .none a hs hx hR hy h next
theorem sA[tA:fm P T n][el:EL e n]{i j:Nat}{E1:TypeId}(a:α)(hx:S.ev x=.eK i (j*n))(hR:S.r i=.live (TR E1 n e l))(hy:S.ev y=.sv (.agg (e a)))(h:stM l j a=some l')(next:RunT P C ops nd K rest (⟨[]++(af x++af y),[],[i],⟨none,[],[(i,.live (TR E1 n e l'))]⟩⟩::acc) (AS.aH [(i,.live (TR E1 n e l'))] S)):RunT P C ops nd K (⟨none,.store T x y,ty,pos,aft,none⟩::rest) acc S:=
 RT.P9 .none a hx hR hy h next
theorem lL{m:Nat}[tS:cK P T E0 m]{i:Nat}{E1:TypeId}{c:Int}(hx:S.ev x=.row i)(hR:S.r i=.live (TR E1 n e l))(hc:(l.length:Int)=c)(next:RunT P C ops nd K rest (⟨[]++af x,[],[i],⟨some (d,.sv (.v (.int .i64 c))),[],[]⟩⟩::acc) (S.set d (.sv (.v (.int .i64 c)))))(hd:d<S.n:=by exact tl rfl):RunT P C ops nd K (⟨some d,.call ⟨.builtin .len,#[x],#[T]⟩,ty,pos,aft,none⟩::rest) acc S:=
 RT.P6 .none hx hR hd hc next
theorem cR{f:FuncId}[bM P f]{g:Operand}{xs:Array Operand}{at_:Array TypeId}{args:List AV}{E1:TypeId}{res:AV}(hp:BL P f args (TR E1 n e l) res (l'.flatMap e))(hlen:l'.length=l.length)(i:Nat)(hR:S.r i=.live (TR E1 n e l))(hargs:lM S xs.toList (args.map (AV.sI i)))(next:RunT P C ops nd K rest (⟨[]++(af g++xs.toList.flatMap af),[],[i],⟨some (d,res.sI i),[],[(i,.live (TR E1 n e l'))]⟩⟩::acc) ((AS.aH [(i,.live (TR E1 n e l'))] S).set d (res.sI i)))(hrow:args.all AV.rJ=true:=by exact rfl)(hres:res.rJ=true:=by exact rfl)(hf:S.ev g=.sv (.v (.func (.func f) #[] #[])):=by exact rfl)(hd:d<S.n:=by exact tl rfl):RunT P C ops nd K (⟨some d,.call ⟨.value g,xs,at_⟩,ty,pos,aft,none⟩::rest) acc S:=
 RT.MJ .none hp hlen i hR hrow hres hf hargs hd next
theorem gn{j_ g_:Nat}{dD:Bool}{m:Nat}[tS:cK P T E0 m]{c:Int}(hx:S.ev x=.sv (slc n (l.map e)))(hc:(l.length:Int)=c)(next:RunT P C ops nd K rest (⟨[g_]++af x,[],[],⟨some (d,.sv (.v (.int .i64 c))),[],[]⟩⟩::acc) (S.set d (.sv (.v (.int .i64 c)))))(wS:(ops[j_]?).bind (·.dst)=some g_:=by exact rfl)(wU:S.t g_=.sv (.v (.bool dD)):=by exact rfl)(hd:d<S.n:=by exact tl rfl):RunT P C ops nd K (⟨some d,.call ⟨.builtin .len,#[x],#[T]⟩,ty,pos,aft,some (j_,dD)⟩::rest) acc S:=
 RT.P5 (.some wS wU) hx hd hc next
end
section
variable {P:Program}{C:Ctx}{ops:Array Oper}{S:AS}{nd:Bool}{K:List Ac→AS→Prop}{rest:List Oper}{acc:List Ac}
variable {gd:Option (Nat×Bool)}{rg:List Nat}{d:Nat}{ty:TypeId}{pos:String}{aft:Array Edge}{x y z:Operand}{T U E0 E1:TypeId}
theorem fl{f off:Nat}[hf:dR P T f off U][tV:bY P U]{cs:List SV}{s:SV}(hx:S.ev x=.sv (.agg cs))(hs:cs[off]? =some s)(next:RunT P C ops nd K rest (⟨[]++af x,[],[],⟨some (d,.sv s),[],[]⟩⟩::acc) (S.set d (.sv s)))(hd:d<S.n:=by exact tl rfl):RunT P C ops nd K (⟨some d,.field T x f,ty,pos,aft,none⟩::rest) acc S:=
 RT.field .none hx hs hd next
end
end Go.Fw.Z
namespace Go.Proofs.Ytmiflmkdaeianaa
open Go.Fw
noncomputable def cq(x0:List Nat):Option (List Nat):=wH 4 [] x0
noncomputable def aJ(x0:Nat)(c0:Nat):Option (Nat×Nat):=(some ((x0+c0)%18446744073709551616)).bind fun x6=>(some (x6/2^32)).bind fun x8=>(some (x6%4294967296)).bind fun eN=>some (eN,x8)
noncomputable def ay(x0:List Nat):Option (List Nat):=(bR (fun(tL:(List Nat))=>(show Option (((List Nat))⊕((List Nat)))from cz (fun(vv:Bool)=>(bif vv then(some (tL.length:Int)).bind fun gi=>(some (IntKind.i64.wrap (gi-1))).bind fun eT=>(yu tL 0 eT).bind fun mB=>some (.inl mB)else some (.inr tL))) fun Ym=>(some (tL.length:Int)).bind fun x4=>(some (decide ((0:Int)<x4))).bind fun x5=>(bif x5 then(some (tL.length:Int)).bind fun x9=>(some (IntKind.i64.wrap (x9-1))).bind fun eN=>(bJ tL eN).bind fun jE=>(some (decide ((jE:Nat)=0))).bind fun fW=>some fW else some false).bind fun BV=>Ym BV)) x0).bind fun vw=>some vw
noncomputable def aV(x0:Bool)(x1:List Nat):Option (Zr):=(ay x1).bind fun x6=>(some (x6.length:Int)).bind fun x8=>(some (decide ((x8:Int)=0))).bind fun x9=>(bif x9 then some ⟨false,[]⟩else some ⟨x0,x6⟩)
noncomputable def cr(x0:Bool)(x1:Nat):Option (Zr):=(some (decide ((x1:Nat)=0))).bind fun x7=>(bif x7 then some ⟨false,[]⟩else(some (x1/2^32)).bind fun jE=>(some (decide ((jE:Nat)=0))).bind fun fF=>(bif fF then(some (x1%4294967296)).bind fun kD=>some ⟨x0,[kD]⟩else(some (x1%4294967296)).bind fun fX=>(some (x1/2^32)).bind fun iV=>(some (iV%4294967296)).bind fun iy=>some ⟨x0,[fX,iy]⟩))
noncomputable def cf(x0:List Nat):Option (Nat):=(some (x0.length:Int)).bind fun x4=>(some (decide ((x4:Int)=0))).bind fun x6=>(bif x6 then some 0 else(some (decide ((x4:Int)=1))).bind fun x8=>(bif x8 then(bJ x0 0).bind fun eN=>(some (eN%18446744073709551616)).bind fun fF=>some fF else(bJ x0 0).bind fun jh=>(some (jh%18446744073709551616)).bind fun ji=>(bJ x0 1).bind fun eT=>(some (eT%18446744073709551616)).bind fun fX=>(some (fX*2^32%18446744073709551616)).bind fun iz=>(some ((ji ||| iz)%18446744073709551616)).bind fun iV=>some iV))
noncomputable def bC(x0:List Nat)(x1:List Nat):Option (Int):=(some (x0.length:Int)).bind fun x7=>(some (x1.length:Int)).bind fun x9=>(some (decide ((x7:Int)≠x9))).bind fun eN=>(bif eN then(some (x0.length:Int)).bind fun fF=>(some (x1.length:Int)).bind fun jh=>(some (decide ((fF:Int)<jh))).bind fun kD=>(bif kD then some (-1)else some 1)else(some (x0.length:Int)).bind fun gi=>(some (IntKind.i64.wrap (gi-1))).bind fun eT=>(bR (fun(tN:Int)=>(show Option ((Int)⊕((Unit)⊕(Int)))from(some (decide ((0:Int)≤tN))).bind fun fX=>(bif fX then(bJ x0 tN).bind fun BA=>(bJ x1 tN).bind fun fR=>(some (decide ((BA:Nat)≠fR))).bind fun mD=>(bif mD then(bJ x0 tN).bind fun jF=>(bJ x1 tN).bind fun uw=>(some (decide ((jF:Nat)<uw))).bind fun nW=>(bif nW then some (.inr (.inr (-1)))else some (.inr (.inr 1)))else(some (IntKind.i64.wrap (tN-1))).bind fun iV=>some (.inl iV))else some (.inr (.inl ()))))) eT).bind fun e6=>match e6 with|.inr v6=>some v6|.inl _=>some 0)
noncomputable def bZ(x0:List Nat)(x1:List Nat):Option (List Nat):=(some (x0.length:Int)).bind fun eN=>(some (x1.length:Int)).bind fun fF=>(some (max (eN:Int) fF)).bind fun fW=>(some (IntKind.i64.wrap (fW+1))).bind fun jh=>(ID (α:=Nat) 4 jh).bind fun kD=>(m9 (fun(k:Nat) (s7:Nat×(List Nat))=>match s7 with|⟨lP,dU⟩=>(show Option (Nat×(List Nat))from(some (x0.getD k 0%18446744073709551616)).bind fun Qd=>(some (x1.getD k 0%18446744073709551616)).bind fun Qe=>(some ((Qd+Qe)%18446744073709551616)).bind fun iH=>(aJ iH lP).bind fun⟨lB,k9⟩=>(wH 4 dU [lB]).bind fun fR=>some (k9,fR))) (max x0.length x1.length) (0,kD)).bind fun e7=>match e7 with|⟨lP,dU⟩=>(aJ 0 lP).bind fun⟨iA,k11⟩=>(wH 4 dU [iA]).bind fun jF=>some jF
noncomputable def bp(x0:List Nat)(x1:List Nat):Option (List Nat):=(some (x0.length:Int)).bind fun eN=>(ID (α:=Nat) 4 eN).bind fun jE=>(m9 (fun(k:Nat) (s7:Nat×(List Nat))=>match s7 with|⟨nX,dU⟩=>(show Option (Nat×(List Nat))from(some (x0.getD k 0%18446744073709551616)).bind fun Qf=>(some (x1.getD k 0%18446744073709551616)).bind fun Qg=>(some (j0 18446744073709551616 4294967295 Qg)).bind fun iV=>(some ((Qf+iV)%18446744073709551616)).bind fun iy=>(aJ iy nX).bind fun⟨eo,k9⟩=>(wH 4 dU [eo]).bind fun iH=>some (k9,iH))) (max x0.length x1.length) (1,jE)).bind fun e7=>match e7 with|⟨nX,dU⟩=>some dU
noncomputable def dI(x0:List Nat)(x1:List Nat):Option (List Nat):=(some (x0.length:Int)).bind fun fF=>(some (x1.length:Int)).bind fun jh=>(some (IntKind.i64.wrap (fF+jh))).bind fun kD=>(EY 4 kD (0:Nat)).bind fun ji=>(some (x0.length:Int)).bind fun eT=>(bR (fun(Pa:Int×(List Nat))=>match Pa with|⟨jK,yz⟩=>(show Option ((Int×(List Nat))⊕((List Nat)))from(some (decide ((jK:Int)<eT))).bind fun fX=>(bif fX then(bJ x0 jK).bind fun iV=>(some (x1.length:Int)).bind fun iH=>(bR (fun(ML:Int×Nat×(List Nat))=>match ML with|⟨rO,qu,o8⟩=>(show Option ((Int×Nat×(List Nat))⊕(Nat×(List Nat)))from(some (decide ((rO:Int)<iH))).bind fun lC=>(bif lC then(bJ x1 rO).bind fun nY=>(some (IntKind.i64.wrap (jK+rO))).bind fun qw=>(some (IntKind.i64.wrap (jK+rO))).bind fun nW=>(pY o8 nW).bind fun wI=>(o8[wI]?).bind fun rC=>(some (rC%18446744073709551616)).bind fun zI=>(some (iV%18446744073709551616)).bind fun BW=>(some (nY%18446744073709551616)).bind fun Ag=>(some ((BW*Ag)%18446744073709551616)).bind fun zJ=>(some ((zI+zJ)%18446744073709551616)).bind fun x49=>(aJ x49 qu).bind fun⟨ux,Yn⟩=>(pY o8 qw).bind fun H7=>(stM o8 H7 ux).bind fun Yo=>(some (IntKind.i64.wrap (rO+1))).bind fun tO=>some (.inl (tO,Yn,Yo))else some (.inr (qu,o8))))) (0,0,yz)).bind fun Yp=>match Yp with|⟨Ah,BX⟩=>(some (x1.length:Int)).bind fun IS=>(some (IntKind.i64.wrap (jK+IS))).bind fun Qh=>(aJ 0 Ah).bind fun⟨MM,k45⟩=>(pY BX Qh).bind fun Eb=>(stM BX Eb MM).bind fun Yq=>(some (IntKind.i64.wrap (jK+1))).bind fun H8=>some (.inl (H8,Yq))else some (.inr yz)))) (0,ji)).bind fun o9=>some o9
noncomputable def eG(x0:List Nat)(x1:Nat):Option (Nat×List Nat):=(some (x0.length:Int)).bind fun x9=>(some (IntKind.i64.wrap (x9-1))).bind fun eN=>(bR (fun(s8:Nat×Int×(List Nat))=>match s8 with|⟨F0,F1,lQ⟩=>(show Option ((Nat×Int×(List Nat))⊕(Nat×(List Nat)))from(some (decide ((0:Int)≤F1))).bind fun fF=>(bif fF then(some (F0*2^32%18446744073709551616)).bind fun ji=>(pY lQ F1).bind fun mB=>(lQ[mB]?).bind fun fX=>(some (fX%18446744073709551616)).bind fun iz=>(some ((ji ||| iz)%18446744073709551616)).bind fun iV=>(yw 18446744073709551616 iV x1).bind fun lB=>(some (lB%4294967296)).bind fun lC=>(pY lQ F1).bind fun fR=>(stM lQ fR lC).bind fun uy=>(wQ iV x1).bind fun iA=>(some (IntKind.i64.wrap (F1-1))).bind fun jh=>some (.inl (iA,jh,uy))else some (.inr (F0,lQ))))) (0,eN,x0)).bind fun e8=>match e8 with|⟨Qi,uz⟩=>(oF x0 uz).bind fun _=>some (Qi,uz)
noncomputable def c9(x0:List Nat)(x1:Nat):Option (List Nat):=(some (x0.length:Int)).bind fun jE=>(some (IntKind.i64.wrap (jE+1))).bind fun fF=>(ID (α:=Nat) 4 fF).bind fun fW=>(some (x0.length:Int)).bind fun kD=>(bR (fun(s8:Int×Nat×(List Nat))=>match s8 with|⟨qx,lS,dU⟩=>(show Option ((Int×Nat×(List Nat))⊕(Nat×(List Nat)))from(some (decide ((qx:Int)<kD))).bind fun gi=>(bif gi then(bJ x0 qx).bind fun eT=>(some (eT%18446744073709551616)).bind fun iy=>(some (iy*2^(min x1 64)%18446744073709551616)).bind fun BA=>(aJ BA lS).bind fun⟨iH,MN⟩=>(wH 4 dU [iH]).bind fun lC=>(some (IntKind.i64.wrap (qx+1))).bind fun fR=>some (.inl (fR,MN,lC))else some (.inr (lS,dU))))) (0,0,fW)).bind fun e8=>match e8 with|⟨vz,F2⟩=>(aJ 0 vz).bind fun⟨iA,Yr⟩=>(wH 4 F2 [iA]).bind fun jF=>some jF
noncomputable def eU(x0:List Nat)(x1:Nat):Option (List Nat):=(some (x0.length:Int)).bind fun jE=>(some (IntKind.i64.wrap (jE+1))).bind fun fF=>(ID (α:=Nat) 4 fF).bind fun fW=>(some (x0.length:Int)).bind fun kD=>(bR (fun(s8:Int×Nat×(List Nat))=>match s8 with|⟨qx,lS,yA⟩=>(show Option ((Int×Nat×(List Nat))⊕(Nat×(List Nat)))from(some (decide ((qx:Int)<kD))).bind fun gi=>(bif gi then(bJ x0 qx).bind fun eT=>(some (eT%18446744073709551616)).bind fun iy=>(some (iy*2^(min x1 64)%18446744073709551616)).bind fun BA=>(aJ BA lS).bind fun⟨iH,MN⟩=>(wH 4 yA [iH]).bind fun lC=>(some (IntKind.i64.wrap (qx+1))).bind fun fR=>some (.inl (fR,MN,lC))else some (.inr (lS,yA))))) (0,0,fW)).bind fun e8=>match e8 with|⟨vz,F3⟩=>(aJ 0 vz).bind fun⟨iA,Yr⟩=>(wH 4 F3 [iA]).bind fun jF=>some jF
noncomputable def dY(x0:Nat):Option (Int):=(some (decide ((65536:Nat)≤x0))).bind fun x4=>cz (fun(j2:Nat×Int)=>match j2 with|⟨BY,IT⟩=>(some (decide ((256:Nat)≤BY))).bind fun x8=>cz (fun(j4:Nat×Int)=>match j4 with|⟨Qj,Qk⟩=>(some (Qj%256)).bind fun kD=>(oE [0,1,2,2,3,3,3,3,4,4,4,4,4,4,4,4,5,5,5,5,5,5,5,5,5,5,5,5,5,5,5,5,6,6,6,6,6,6,6,6,6,6,6,6,6,6,6,6,6,6,6,6,6,6,6,6,6,6,6,6,6,6,6,6,7,7,7,7,7,7,7,7,7,7,7,7,7,7,7,7,7,7,7,7,7,7,7,7,7,7,7,7,7,7,7,7,7,7,7,7,7,7,7,7,7,7,7,7,7,7,7,7,7,7,7,7,7,7,7,7,7,7,7,7,7,7,7,7,8,8,8,8,8,8,8,8,8,8,8,8,8,8,8,8,8,8,8,8,8,8,8,8,8,8,8,8,8,8,8,8,8,8,8,8,8,8,8,8,8,8,8,8,8,8,8,8,8,8,8,8,8,8,8,8,8,8,8,8,8,8,8,8,8,8,8,8,8,8,8,8,8,8,8,8,8,8,8,8,8,8,8,8,8,8,8,8,8,8,8,8,8,8,8,8,8,8,8,8,8,8,8,8,8,8,8,8,8,8,8,8,8,8,8,8,8,8,8,8,8,8,8,8,8,8,8,8] ((kD:Nat):Int)).bind fun ji=>(some (IntKind.i64.wrap (ji:Int))).bind fun gi=>(some (IntKind.i64.wrap (Qk+gi))).bind fun eT=>some eT) fun K4=>(bif x8 then(some (BY/2^8)).bind fun eN=>(some (IntKind.i64.wrap (IT+8))).bind fun fF=>K4 (eN,fF)else K4 (BY,IT))) fun K2=>(bif x4 then(some (x0/2^16)).bind fun x6=>K2 (x6,16)else K2 (x0,0))
noncomputable def bT(x0:Nat):Option (Int):=(dY x0).bind fun x4=>(some (IntKind.i64.wrap (32-x4))).bind fun x5=>some x5
noncomputable def eH(x0:List Nat)(o0:Nat)(n0:Nat)(x1:List Nat):Option (Nat×List Nat):=(some (x1.length:Int)).bind fun fF=>(H6 o0 n0 fF).bind fun kD=>(x0[kD]?).bind fun ji=>(some (ji%18446744073709551616)).bind fun gi=>(some (gi*2^32%18446744073709551616)).bind fun eT=>(some (IntKind.i64.wrap (fF-1))).bind fun iz=>(H6 o0 n0 iz).bind fun iV=>(x0[iV]?).bind fun iy=>(some (iy%18446744073709551616)).bind fun eo=>(some ((eT ||| eo)%18446744073709551616)).bind fun BA=>(some (IntKind.i64.wrap (fF-1))).bind fun lC=>(bJ x1 lC).bind fun fR=>(some (fR%18446744073709551616)).bind fun mD=>(some (IntKind.i64.wrap (fF-2))).bind fun jF=>(bJ x1 jF).bind fun qw=>(some (qw%18446744073709551616)).bind fun sM=>(yw 18446744073709551616 BA mD).bind fun nW=>(wQ BA mD).bind fun zI=>(bR (fun(Ai:Nat×Nat)=>match Ai with|⟨wV,xq⟩=>(show Option ((Nat×Nat)⊕(Nat))from cz (fun(BZ:Bool)=>(bif BZ then(some (j0 18446744073709551616 wV 1)).bind fun Kn=>(some ((xq+mD)%18446744073709551616)).bind fun EZ=>(some (EZ/2^32)).bind fun MO=>(some (decide ((MO:Nat)≠0))).bind fun Ys=>(bif Ys then some (.inr Kn)else some (.inl (Kn,EZ)))else some (.inr wV))) fun Ym=>(some (wV/2^32)).bind fun BW=>(some (decide ((BW:Nat)≠0))).bind fun uA=>(bif uA then some true else(some ((wV*sM)%18446744073709551616)).bind fun ux=>(some (xq*2^32%18446744073709551616)).bind fun tO=>(some (IntKind.i64.wrap (fF-2))).bind fun IU=>(H6 o0 n0 IU).bind fun IS=>(x0[IS]?).bind fun Qh=>(some (Qh%18446744073709551616)).bind fun Yt=>(some ((tO ||| Yt)%18446744073709551616)).bind fun MM=>(some (decide ((MM:Nat)<ux))).bind fun Eb=>some Eb).bind fun F4=>Ym F4)) (nW,zI)).bind fun Ec=>(oF x0 x0).bind fun _=>some (Ec,x0)
noncomputable def bK(x0:List Nat)(o0:Nat)(n0:Nat)(x1:List Nat)(x2:Nat):Option (Bool×List Nat):=(some (n0:Int)).bind fun jh=>(bR (fun(uB:Nat×Int×Nat×(List Nat))=>match uB with|⟨Ed,qy,yB,nZ⟩=>(show Option ((Nat×Int×Nat×(List Nat))⊕(Nat×(List Nat)))from(some (decide ((qy:Int)<jh))).bind fun ji=>(bif ji then(some (x1.length:Int)).bind fun fX=>(some (decide ((qy:Int)<fX))).bind fun iz=>cz (fun(F5:Nat)=>(H6 o0 n0 qy).bind fun mD=>(nZ[mD]?).bind fun iA=>(some (iA%18446744073709551616)).bind fun kO=>(aJ F5 yB).bind fun⟨tQ,Yu⟩=>(some (tQ%18446744073709551616)).bind fun sM=>(some (j0 18446744073709551616 kO sM)).bind fun uw=>(some (j0 18446744073709551616 uw Ed)).bind fun nW=>(some (nW%4294967296)).bind fun Ee=>(H6 o0 n0 qy).bind fun BW=>(stM nZ BW Ee).bind fun Yv=>(some (nW/2^63)).bind fun Ag=>(some (IntKind.i64.wrap (qy+1))).bind fun zJ=>some (.inl (Ag,zJ,Yu,Yv))) fun K14=>(bif iz then(bJ x1 qy).bind fun eo=>(some (eo%18446744073709551616)).bind fun iH=>(some ((iH*x2)%18446744073709551616)).bind fun lC=>K14 lC else K14 0)else some (.inr (Ed,nZ))))) (0,0,0,x0)).bind fun Ef=>match Ef with|⟨F6,qz⟩=>(some (decide ((F6:Nat)≠0))).bind fun ux=>(oF x0 qz).bind fun _=>some (ux,qz)
noncomputable def fo(x0:List Nat)(x1:List Nat):Option ((List Nat)×(List Nat)):=(some (x1.length:Int)).bind fun gi=>(some (IntKind.i64.wrap (gi-1))).bind fun fX=>(bJ x1 fX).bind fun iz=>(bT iz).bind fun iy=>(some ((iy%18446744073709551616).toNat)).bind fun eo=>(eU x0 eo).bind fun lB=>(c9 x1 eo).bind fun nY=>(yu nY 0 gi).bind fun iA=>(some (x0.length:Int)).bind fun jF=>(some (IntKind.i64.wrap (jF-gi))).bind fun tQ=>(some (IntKind.i64.wrap (tQ+1))).bind fun sM=>(EY 4 sM (0:Nat)).bind fun uw=>(some (x0.length:Int)).bind fun nW=>(some (IntKind.i64.wrap (nW-gi))).bind fun rC=>(bR (fun(MP:Int×(List Nat)×(List Nat))=>match MP with|⟨fJ,nf,pg⟩=>(show Option ((Int×(List Nat)×(List Nat))⊕((List Nat)×(List Nat)))from(some (decide ((0:Int)≤fJ))).bind fun Ee=>(bif Ee then(some (IntKind.i64.wrap (fJ+gi))).bind fun H7=>(some (IntKind.i64.wrap (H7+1))).bind fun tO=>(MH pg fJ tO).bind fun⟨o53,n53⟩=>(eH pg o53 n53 iA).bind fun⟨IU,MQ⟩=>(oF pg MQ).bind fun _=>(some (IntKind.i64.wrap (fJ+gi))).bind fun Eb=>(some (IntKind.i64.wrap (Eb+1))).bind fun H8=>(MH MQ fJ H8).bind fun⟨o62,n62⟩=>(bK MQ o62 n62 iA IU).bind fun⟨Pb,Pc⟩=>(oF MQ Pc).bind fun _=>cz (fun(Pd:Nat×(List Nat))=>match Pd with|⟨F7,B3⟩=>(some (F7%4294967296)).bind fun Eg=>(pY nf fJ).bind fun Ql=>(stM nf Ql Eg).bind fun Yw=>(some (IntKind.i64.wrap (fJ-1))).bind fun uA=>some (.inl (uA,Yw,B3))) fun K53=>(bif Pb then(some (j0 18446744073709551616 IU 1)).bind fun IV=>(some (iA.length:Int)).bind fun Pe=>(bR (fun(MR:Int×Nat×(List Nat))=>match MR with|⟨rP,qA,pq⟩=>(show Option ((Int×Nat×(List Nat))⊕(Nat×(List Nat)))from(some (decide ((rP:Int)<Pe))).bind fun MS=>(bif MS then(bJ iA rP).bind fun Qm=>(some (IntKind.i64.wrap (fJ+rP))).bind fun x79=>(some (IntKind.i64.wrap (fJ+rP))).bind fun x84=>(pY pq x84).bind fun x85=>(pq[x85]?).bind fun x86=>(some (x86%18446744073709551616)).bind fun MT=>(some (Qm%18446744073709551616)).bind fun Yx=>(some ((MT+Yx)%18446744073709551616)).bind fun x90=>(aJ x90 qA).bind fun⟨Yy,Yz⟩=>(pY pq x79).bind fun x92=>(stM pq x92 Yy).bind fun YA=>(some (IntKind.i64.wrap (rP+1))).bind fun MU=>some (.inl (MU,Yz,YA))else some (.inr (qA,pq))))) (0,0,Pc)).bind fun YB=>match YB with|⟨Aj,vA⟩=>(some (IntKind.i64.wrap (fJ+gi))).bind fun x97=>(some (IntKind.i64.wrap (fJ+gi))).bind fun Qn=>(pY vA Qn).bind fun Qo=>(vA[Qo]?).bind fun yC=>(some (yC%18446744073709551616)).bind fun F8=>(aJ F8 Aj).bind fun⟨MV,k72⟩=>(pY vA x97).bind fun Eh=>(stM vA Eh MV).bind fun YC=>K53 (IV,YC)else K53 (IU,Pc))else some (.inr (nf,pg))))) (rC,uw,lB)).bind fun YD=>match YD with|⟨vB,rQ⟩=>(EY 4 gi (0:Nat)).bind fun Qp=>(bR (fun(Pf:Int×(List Nat))=>match Pf with|⟨n6,qB⟩=>(show Option ((Int×(List Nat))⊕((List Nat)))from(some (decide ((n6:Int)<gi))).bind fun MW=>(bif MW then(pY rQ n6).bind fun Qq=>(rQ[Qq]?).bind fun Qs=>(some (Qs%18446744073709551616)).bind fun MX=>(some (IntKind.i64.wrap (n6+1))).bind fun Qt=>(pY rQ Qt).bind fun Qu=>(rQ[Qu]?).bind fun Qv=>(some (Qv%18446744073709551616)).bind fun MY=>(some (MY*2^32%18446744073709551616)).bind fun MZ=>(some ((MX ||| MZ)%18446744073709551616)).bind fun M1=>(some (M1/2^(min eo 64))).bind fun Qw=>(some (Qw%4294967296)).bind fun M3=>(pY qB n6).bind fun Qx=>(stM qB Qx M3).bind fun YE=>(some (IntKind.i64.wrap (n6+1))).bind fun M4=>some (.inl (M4,YE))else some (.inr qB)))) (0,Qp)).bind fun lT=>some (vB,lT)
noncomputable def dJ(x0:List Nat)(x1:List Nat):Option ((List Nat)×(List Nat)):=(bC x0 x1).bind fun fF=>(some (decide ((fF:Int)<0))).bind fun fW=>(bif fW then(cq x0).bind fun kD=>some ([],kD)else(some (x0.length:Int)).bind fun eT=>(some (decide ((eT:Int)≤2))).bind fun mB=>(bif mB then(cf x0).bind fun iz=>(cf x1).bind fun iy=>(yw 18446744073709551616 iz iy).bind fun iH=>(cr false iH).bind fun⟨iB,iC⟩=>(wQ iz iy).bind fun mD=>(cr false mD).bind fun⟨jL,iW⟩=>some (iC,iW)else(some (x1.length:Int)).bind fun tQ=>(some (decide ((tQ:Int)=1))).bind fun sM=>(bif sM then(cq x0).bind fun mE=>(bJ x1 0).bind fun rC=>(some (rC%18446744073709551616)).bind fun Ee=>(eG mE Ee).bind fun⟨BW,l5⟩=>(oF mE l5).bind fun _=>(some (BW%4294967296)).bind fun zJ=>some (l5,[zJ])else(fo x0 x1).bind fun⟨Qy,Qz⟩=>some (Qy,Qz))))
noncomputable def aC(x0:Int):Option (Zr):=(some ((x0%18446744073709551616).toNat)).bind fun x5=>(some (decide ((x0:Int)<0))).bind fun x7=>cz (fun(M5:Nat)=>(some (decide ((x0:Int)<0))).bind fun jE=>(cr jE M5).bind fun⟨mF,qC⟩=>some ⟨mF,qC⟩) fun K2=>(bif x7 then(some (j0 18446744073709551616 0 x5)).bind fun x9=>K2 x9 else K2 x5)
noncomputable def bW(x0:Zr):Option (Int×Bool):=match x0 with|⟨aW,aU⟩=>(ay aU).bind fun x8=>(some (x8.length:Int)).bind fun eN=>(some (decide ((2:Int)<eN))).bind fun jE=>(bif jE then some (0,false)else(cf x8).bind fun fW=>(bif aW then(some (decide ((9223372036854775808:Nat)<fW))).bind fun gi=>(bif gi then some (0,false)else(some (j0 18446744073709551616 0 fW)).bind fun mB=>(some (IntKind.i64.wrap (mB:Int))).bind fun fX=>some (fX,true))else(some (decide ((9223372036854775808:Nat)≤fW))).bind fun iV=>(bif iV then some (0,false)else(some (IntKind.i64.wrap (fW:Int))).bind fun eo=>some (eo,true))))
noncomputable def bt(x0:Bool)(x1:List Nat)(x2:Bool)(x3:List Nat):Option (Zr):=(some (x0==x2)).bind fun jE=>(bif jE then(bZ x1 x3).bind fun kD=>(aV x0 kD).bind fun⟨ng,nh⟩=>some ⟨ng,nh⟩else(bC x1 x3).bind fun mB=>(some (decide ((mB:Int)<0))).bind fun fX=>(bif fX then(bp x3 x1).bind fun eo=>(aV x2 eo).bind fun⟨vC,vD⟩=>some ⟨vC,vD⟩else(bp x1 x3).bind fun fR=>(aV x0 fR).bind fun⟨vE,vF⟩=>some ⟨vE,vF⟩))
noncomputable def cg(x0:Zr)(x1:Zr):Option (Zr):=match x0 with|⟨aW,aU⟩=>match x1 with|⟨cA,cn⟩=>(bW ⟨aW,aU⟩).bind fun⟨tR,yD⟩=>(bW ⟨cA,cn⟩).bind fun⟨vG,yE⟩=>cz (fun(qD:Bool)=>cz (fun(j5:Unit)=>(ay aU).bind fun wI=>(ay cn).bind fun uA=>(bt aW wI cA uA).bind fun⟨F9,Ga⟩=>some ⟨F9,Ga⟩) fun K5=>(bif qD then(some (IntKind.i64.wrap (tR+vG))).bind fun iH=>(some (IntKind.i64.wrap ((BitVec.ofInt 64 tR ^^^ BitVec.ofInt 64 iH).toNat))).bind fun fR=>(some (IntKind.i64.wrap ((BitVec.ofInt 64 vG ^^^ BitVec.ofInt 64 iH).toNat))).bind fun iA=>(some (IntKind.i64.wrap ((BitVec.ofInt 64 fR &&& BitVec.ofInt 64 iA).toNat))).bind fun kO=>(some (decide ((0:Int)≤kO))).bind fun jF=>(bif jF then(aC iH).bind fun⟨ni,kP⟩=>some ⟨ni,kP⟩else K5 ())else K5 ())) fun K3=>(bif yD then some yE else some false).bind fun xu=>K3 xu
noncomputable def gQ(x0:Zr)(x1:Zr):Option (Zr):=match x0 with|⟨aW,aU⟩=>match x1 with|⟨cA,cn⟩=>(bW ⟨aW,aU⟩).bind fun⟨tR,yD⟩=>(bW ⟨cA,cn⟩).bind fun⟨vG,yE⟩=>cz (fun(qD:Bool)=>cz (fun(j5:Unit)=>(ay aU).bind fun wI=>(some (!cA)).bind fun Ee=>(ay cn).bind fun Ag=>(bt aW wI Ee Ag).bind fun⟨Ak,vH⟩=>some ⟨Ak,vH⟩) fun K5=>(bif qD then(some (IntKind.i64.wrap (tR-vG))).bind fun iH=>(some (IntKind.i64.wrap ((BitVec.ofInt 64 tR ^^^ BitVec.ofInt 64 vG).toNat))).bind fun fR=>(some (IntKind.i64.wrap ((BitVec.ofInt 64 tR ^^^ BitVec.ofInt 64 iH).toNat))).bind fun iA=>(some (IntKind.i64.wrap ((BitVec.ofInt 64 fR &&& BitVec.ofInt 64 iA).toNat))).bind fun kO=>(some (decide ((0:Int)≤kO))).bind fun jF=>(bif jF then(aC iH).bind fun⟨ni,kP⟩=>some ⟨ni,kP⟩else K5 ())else K5 ())) fun K3=>(bif yD then some yE else some false).bind fun xu=>K3 xu
noncomputable def cL(x0:Zr)(x1:Zr):Option (Zr):=match x0 with|⟨aW,aU⟩=>match x1 with|⟨cA,cn⟩=>(ay aU).bind fun x9=>(ay cn).bind fun fF=>cz (fun(Gb:Bool)=>(bif Gb then(some (!(aW==cA))).bind fun BA=>(cf x9).bind fun lB=>(cf fF).bind fun fR=>(some ((lB*fR)%18446744073709551616)).bind fun nY=>(cr BA nY).bind fun⟨CW,xw⟩=>some ⟨CW,xw⟩else(some (!(aW==cA))).bind fun tQ=>(dI x9 fF).bind fun mE=>(aV tQ mE).bind fun⟨kg,kj⟩=>some ⟨kg,kj⟩)) fun K3=>(some (x9.length:Int)).bind fun jh=>(some (decide ((jh:Int)≤1))).bind fun kD=>(bif kD then(some (fF.length:Int)).bind fun eT=>(some (decide ((eT:Int)≤1))).bind fun mB=>some mB else some false).bind fun Ko=>K3 Ko
noncomputable def dZ(x0:Zr):Option (Zr):=match x0 with|⟨aW,aU⟩=>(some (!aW)).bind fun x5=>(ay aU).bind fun x8=>(cq x8).bind fun x9=>(aV x5 x9).bind fun⟨Al,Am⟩=>some ⟨Al,Am⟩
noncomputable def b7(x0:Zr):Option (Int):=match x0 with|⟨aW,aU⟩=>(ay aU).bind fun x6=>(some (x6.length:Int)).bind fun x7=>(some (decide ((x7:Int)=0))).bind fun x8=>(bif x8 then some 0 else(bif aW then some (-1)else some 1))
noncomputable def iX(x0:Zr)(x1:Zr):Option (Int):=match x0 with|⟨aW,aU⟩=>match x1 with|⟨cA,cn⟩=>(b7 ⟨aW,aU⟩).bind fun x8=>(b7 ⟨cA,cn⟩).bind fun eN=>(some (decide ((x8:Int)<eN))).bind fun jh=>(bif jh then some (-1)else(some (decide ((eN:Int)<x8))).bind fun eT=>(bif eT then some 1 else(some (decide ((x8:Int)<0))).bind fun iz=>(bif iz then(ay cn).bind fun eo=>(ay aU).bind fun lB=>(bC eo lB).bind fun lC=>some lC else(ay aU).bind fun mD=>(ay cn).bind fun jF=>(bC mD jF).bind fun qw=>some qw)))
noncomputable def bU(x0:Zr)(x1:Zr):Option (Zr×Zr×Int):=match x0 with|⟨aW,aU⟩=>match x1 with|⟨cA,cn⟩=>(ay aU).bind fun fW=>(ay cn).bind fun ji=>(some (ji.length:Int)).bind fun eT=>(some (decide ((eT:Int)=0))).bind fun mB=>(bif mB then some (⟨false,[]⟩,⟨false,[]⟩,7)else(dJ fW ji).bind fun⟨Gc,QA⟩=>(ay QA).bind fun fR=>cz (fun(j3:Bool×Bool)=>match j3 with|⟨Ge,B4⟩=>cz (fun(j5:(List Nat)×(List Nat))=>match j5 with|⟨QB,Kp⟩=>(some (!(B4==cA))).bind fun Ag=>(aV Ag QB).bind fun⟨CX,CY⟩=>(aV false Kp).bind fun⟨An,Ao⟩=>some (⟨CX,CY⟩,⟨An,Ao⟩,0)) fun K5=>(bif Ge then(bZ Gc [1]).bind fun mE=>(bp ji fR).bind fun rC=>K5 (mE,rC)else K5 (Gc,fR))) fun K3=>(bif aW then(some (fR.length:Int)).bind fun jF=>(some (decide ((0:Int)<jF))).bind fun qw=>some qw else some false).bind fun Kq=>K3 (Kq,aW))
noncomputable def gR(x0:Zr)(x1:Zr):Option (Zr):=match x0 with|⟨aW,aU⟩=>match x1 with|⟨cA,cn⟩=>(ay aU).bind fun fW=>(ay cn).bind fun ji=>(bR (fun(uB:(List Nat)×(List Nat))=>match uB with|⟨tW,yF⟩=>(show Option (((List Nat)×(List Nat))⊕((List Nat)×(List Nat)))from cz (fun(B5:Bool)=>(bif B5 then(dJ tW yF).bind fun⟨YF,QC⟩=>(ay QC).bind fun uw=>some (.inl (yF,uw))else some (.inr (tW,yF)))) fun K16=>(some (yF.length:Int)).bind fun eT=>(some (decide ((0:Int)<eT))).bind fun mB=>(bif mB then(some (tW.length:Int)).bind fun iV=>(some (decide ((2:Int)<iV))).bind fun iy=>(bif iy then some true else(some (yF.length:Int)).bind fun iH=>(some (decide ((2:Int)<iH))).bind fun lB=>some lB).bind fun Gf=>some Gf else some false).bind fun Gg=>K16 Gg)) (fW,ji)).bind fun Ef=>match Ef with|⟨Gh,Gi⟩=>(some (Gi.length:Int)).bind fun nW=>(some (decide ((nW:Int)=0))).bind fun wI=>(bif wI then(cq Gh).bind fun zI=>(aV false zI).bind fun⟨CZ,C0⟩=>some ⟨CZ,C0⟩else(cf Gh).bind fun uA=>(cf Gi).bind fun zJ=>(bR (fun(B6:Nat×Nat)=>match B6 with|⟨C1,rR⟩=>(show Option ((Nat×Nat)⊕(Nat))from(some (decide ((0:Nat)<rR))).bind fun ux=>(bif ux then(wQ C1 rR).bind fun M6=>some (.inl (rR,M6))else some (.inr C1)))) (uA,zJ)).bind fun xx=>(cr false xx).bind fun⟨Kr,Ks⟩=>some ⟨Kr,Ks⟩)
end Go.Proofs.Ytmiflmkdaeianaa
namespace Go.Proofs.Ytmiflmkdaeianaa
open Go.Fw Go.Fw.Z Go.RowKit
theorem b8(c:Nat):Mp Try.prog 92 [.v (.int .u64 (c:Nat))] 113 100 [.v (.int .u64 (c:Nat))]:=by
 refine BN Try.func92 rfl (Nat.le_of_ble_eq_true rfl) (fun eV M vs hvs=>?_)
 exact sr<|RT.Mf .none (s:=.sv _) rfl T rfl rfl<|ag rfl<|dn<|sr<|RT.makeFunc .none (.box rfl (.nil)) T<|an (s:=.dV _ _) rfl<|dn<|aq<|⟨.inr rfl,_,.tmp rfl,rfl⟩
theorem hG(a b:List Nat):Pure Try.prog 93 [(slc 1 (List.map aj a)),(slc 1 (List.map aj b))] (uZ 114 [ref [(slc 1 (List.map aj a))],ref [(slc 1 (List.map aj b))]]):=by
 refine aA Try.func93 rfl (Nat.le_of_ble_eq_true rfl) (fun eV M vs hvs=>?_)
 refine sr<|RT.Mf .none (s:=.sv _) rfl T rfl rfl<|RT.Mf .none (s:=.sv _) rfl T rfl rfl<|ag rfl<|dn<|sr<|RT.makeFunc .none (.box rfl (.box rfl (.nil))) T<|an (s:=.dV _ _) rfl<|dn<|bH (nR (i:=2) rfl [(slc 1 (List.map aj a))] (.cons rfl .nil) .any 0 [(4,.dV 114 [.val (ref [(slc 1 (List.map aj a))]),.box 3])] (fun _ _ _=>trivial) (rH.h (l:=[(slc 1 (List.map aj a))])) ⟨@FT.dV _ _ _ _ _ 4 114 [.box 2,.box 3] rfl,trivial⟩) ?_
 exact bH (nR (i:=3) rfl [(slc 1 (List.map aj b))] (.cons rfl .nil) .any 0 [(4,.dV 114 [.val (ref [(slc 1 (List.map aj a))]),.val (ref [(slc 1 (List.map aj b))])])] (fun _ _ _=>trivial) (rH.h (l:=[(slc 1 (List.map aj b))])) ⟨@FT.dV _ _ _ _ _ 4 114 [.val (ref [(slc 1 (List.map aj a))]),.box 3] rfl,trivial⟩)<|bH (Mz 4 (uZ 114 [ref [(slc 1 (List.map aj a))],ref [(slc 1 (List.map aj b))]]) (fun _ _ h=>MA h))<|aq<|⟨.inr rfl,Ml (.tmp rfl (.nil)) rfl⟩
theorem hH(a b:List Nat):Iter Try.prog 114 [ref [(slc 1 (List.map aj a))],ref [(slc 1 (List.map aj b))]] (max a.length b.length) (fun k=>[.v (.int .u64 ((a.getD k 0%18446744073709551616:Nat):Int)),.v (.int .u64 ((b.getD k 0%18446744073709551616:Nat):Int))]):=by
 refine BP Try.func114 rfl rfl (Nat.le_of_ble_eq_true rfl) (fun eV M O l J hJ M7 hr=>?_)
 obtain⟨wG,M7⟩:=M7
 have hla:a.length≤9223372036854775807:=by cases wG with|nil=>exact M7.elim|cons _ wG=>exact CT M7.1
 have hlb:b.length≤9223372036854775807:=by cases wG with|nil=>exact M7.elim|cons _ wG=>cases wG with|nil=>exact M7.2.elim|cons _ _=>exact CT M7.2.1
 refine aZ ?_
 refine ah ?_
 refine RT.fC .none rfl rfl (tl rfl) ?_
 refine RT.len .none rfl (tl rfl) ?_
 refine RT.fC .none rfl rfl (tl rfl) ?_
 refine RT.len .none rfl (tl rfl) ?_
 refine RT.max .none (((max a.length b.length:Nat):Int)) rfl rfl (tl rfl) (by simp only[List.length_map];split<;>omega) ?_
 refine RT.mv .none rfl (tl rfl) ?_
 refine RT.done ?_
 refine ae.n ?_
 refine ax ?_
 refine uh (I:=fun x:{i:Nat//i≤max a.length b.length}=>AS.cm 39 [(0,.sv (.v (.func (.yield l) #[] #[]))),(1,.sv (ref [(slc 1 (List.map aj a))])),(2,.sv (ref [(slc 1 (List.map aj b))])),(11,.sv (.v (.int .i64 ((max a.length b.length:Nat):Int)))),(12,.sv (.v (.int .i64 ((x.1:Nat):Int))))] [] [] (x.1)) (μ:=fun x=>max a.length b.length-x.1) ⟨0,by omega⟩ (by(try dsimp only);exact dz id rfl rfl rfl rfl rfl ⟨.sv (by first|exact SV.aa _|exact SV.aD (by omega)|exact SV.aD (by push_cast;omega)|exact SV.aD (by dsimp only;omega)|exact SV.imp_eq (by simp)),.sv (by first|exact SV.aa _|exact SV.aD (by omega)|exact SV.aD (by push_cast;omega)|exact SV.aD (by dsimp only;omega)|exact SV.imp_eq (by simp)),.sv (by first|exact SV.aa _|exact SV.aD (by omega)|exact SV.aD (by push_cast;omega)|exact SV.aD (by dsimp only;omega)|exact SV.imp_eq (by simp)),.sv (by first|exact SV.aa _|exact SV.aD (by omega)|exact SV.aD (by push_cast;omega)|exact SV.aD (by dsimp only;omega)|exact SV.imp_eq (by simp)),.sv (by first|exact SV.aa _|exact SV.aD (by omega)|exact SV.aD (by push_cast;omega)|exact SV.aD (by dsimp only;omega)|exact SV.imp_eq (by simp)),trivial⟩ trivial trivial (fun _ _=>rfl)) ?_
 rintro⟨i,QD⟩
 try dsimp only
 rcases BS a b i QD with⟨hi,yn,Fv⟩|⟨hi,yn,Fv⟩|⟨hi,yn,Fv⟩|hi
 ·
  refine aZ ?_
  refine ah ?_
  refine RT.lss .none (true) rfl rfl (tl rfl) (by simp;omega) ?_
  refine RT.done ?_
  refine ae.n ?_
  refine aZ ?_
  refine eD rfl ?_
  refine aG ?_
  refine ae.n ?_
  refine aZ ?_
  refine ax ?_
  refine aZ ?_
  refine ah ?_
  refine RT.mv .none rfl (tl rfl) ?_
  refine RT.yo .none rfl (tl rfl) ?_
  refine RT.done ?_
  refine ae.n ?_
  refine aZ ?_
  refine ah ?_
  refine RT.yo .none rfl (tl rfl) ?_
  refine RT.yo .none rfl (tl rfl) ?_
  refine RT.done ?_
  refine ae.n ?_
  refine aZ ?_
  refine aZ ?_
  refine ah ?_
  refine RT.mv .none rfl (tl rfl) ?_
  refine RT.fC .none rfl rfl (tl rfl) ?_
  refine RT.len .none rfl (tl rfl) ?_
  refine RT.lss .none (true) rfl rfl (tl rfl) (by simp only[List.length_map];simp;omega) ?_
  refine RT.done ?_
  refine ae.n ?_
  refine eD rfl ?_
  refine ah ?_
  refine RT.fC .none rfl rfl (tl rfl) ?_
  refine RT.mv .none rfl (tl rfl) ?_
  refine RT.VL .none [.v (.int .u32 ((a.getD i 0:Nat):Int))] (Int.natCast_nonneg i) (by rw[Int.toNat_natCast,List.getElem?_map,m8 yn];rfl) rfl rfl (tl rfl) ?_
  refine RT.fC .none rfl rfl (tl rfl) ?_
  refine RT.conv .none (((a.getD i 0%18446744073709551616:Nat):Int)) rfl (tl rfl) IC ?_
  refine RT.yo .none rfl (tl rfl) ?_
  refine RT.done ?_
  refine ae.n ?_
  refine aZ ?_
  refine aZ ?_
  refine ah ?_
  refine RT.mv .none rfl (tl rfl) ?_
  refine RT.fC .none rfl rfl (tl rfl) ?_
  refine RT.len .none rfl (tl rfl) ?_
  refine RT.lss .none (true) rfl rfl (tl rfl) (by simp only[List.length_map];simp;omega) ?_
  refine RT.done ?_
  refine ae.n ?_
  refine eD rfl ?_
  refine ah ?_
  refine RT.fC .none rfl rfl (tl rfl) ?_
  refine RT.mv .none rfl (tl rfl) ?_
  refine RT.VL .none [.v (.int .u32 ((b.getD i 0:Nat):Int))] (Int.natCast_nonneg i) (by rw[Int.toNat_natCast,List.getElem?_map,m8 Fv];rfl) rfl rfl (tl rfl) ?_
  refine RT.fC .none rfl rfl (tl rfl) ?_
  refine RT.conv .none (((b.getD i 0%18446744073709551616:Nat):Int)) rfl (tl rfl) IC ?_
  refine RT.yo .none rfl (tl rfl) ?_
  refine RT.done ?_
  refine ae.n ?_
  refine aZ ?_
  refine ah ?_
  refine RT.mv .none rfl (tl rfl) ?_
  refine RT.mv .none rfl (tl rfl) ?_
  refine RT.mv .none rfl (tl rfl) ?_
  refine RT.yield .none hr rfl (fun _ h=>h) rfl (i) rfl rfl hi (by exact⟨rfl,rfl,trivial⟩) (tl rfl) (fun yb=>?_)
  cases yb
  ·
   refine RT.not .none rfl (tl rfl) true rfl ?_
   refine RT.done ?_
   refine ae.n ?_
   refine eD rfl ?_
   refine aq ?_
   refine aF.r ?_
   refine ae.r ?_
   refine ae.r ?_
   refine aF.r ?_
   exact⟨.inr rfl,(fun h=>by cases h)⟩
  ·
   refine RT.not .none rfl (tl rfl) false rfl ?_
   refine RT.done ?_
   refine ae.n ?_
   refine gj rfl ?_
   refine aG ?_
   refine aF.n ?_
   refine ae.n ?_
   refine ah ?_
   refine RT.add .none (((i:Nat):Int)+1) rfl rfl (tl rfl) (kC (by omega)) ?_
   refine RT.mv .none rfl (tl rfl) ?_
   refine RT.done ?_
   refine ae.n ?_
   refine⟨⟨i+1,by omega⟩,(by dsimp only;omega),?_⟩
   try dsimp only
   exact dz id rfl rfl rfl rfl rfl ⟨.sv (by first|exact SV.aa _|exact SV.aD (by omega)|exact SV.aD (by push_cast;omega)|exact SV.aD (by dsimp only;omega)|exact SV.imp_eq (by simp)),.sv (by first|exact SV.aa _|exact SV.aD (by omega)|exact SV.aD (by push_cast;omega)|exact SV.aD (by dsimp only;omega)|exact SV.imp_eq (by simp)),.sv (by first|exact SV.aa _|exact SV.aD (by omega)|exact SV.aD (by push_cast;omega)|exact SV.aD (by dsimp only;omega)|exact SV.imp_eq (by simp)),.sv (by first|exact SV.aa _|exact SV.aD (by omega)|exact SV.aD (by push_cast;omega)|exact SV.aD (by dsimp only;omega)|exact SV.imp_eq (by simp)),.sv (by first|exact SV.aa _|exact SV.aD (by omega)|exact SV.aD (by push_cast;omega)|exact SV.aD (by dsimp only;omega)|exact SV.imp_eq (by simp)),trivial⟩ trivial trivial (fun _ _=>rfl)
 ·
  refine aZ ?_
  refine ah ?_
  refine RT.lss .none (true) rfl rfl (tl rfl) (by simp;omega) ?_
  refine RT.done ?_
  refine ae.n ?_
  refine aZ ?_
  refine eD rfl ?_
  refine aG ?_
  refine ae.n ?_
  refine aZ ?_
  refine ax ?_
  refine aZ ?_
  refine ah ?_
  refine RT.mv .none rfl (tl rfl) ?_
  refine RT.yo .none rfl (tl rfl) ?_
  refine RT.done ?_
  refine ae.n ?_
  refine aZ ?_
  refine ah ?_
  refine RT.yo .none rfl (tl rfl) ?_
  refine RT.yo .none rfl (tl rfl) ?_
  refine RT.done ?_
  refine ae.n ?_
  refine aZ ?_
  refine aZ ?_
  refine ah ?_
  refine RT.mv .none rfl (tl rfl) ?_
  refine RT.fC .none rfl rfl (tl rfl) ?_
  refine RT.len .none rfl (tl rfl) ?_
  refine RT.lss .none (true) rfl rfl (tl rfl) (by simp only[List.length_map];simp;omega) ?_
  refine RT.done ?_
  refine ae.n ?_
  refine eD rfl ?_
  refine ah ?_
  refine RT.fC .none rfl rfl (tl rfl) ?_
  refine RT.mv .none rfl (tl rfl) ?_
  refine RT.VL .none [.v (.int .u32 ((a.getD i 0:Nat):Int))] (Int.natCast_nonneg i) (by rw[Int.toNat_natCast,List.getElem?_map,m8 yn];rfl) rfl rfl (tl rfl) ?_
  refine RT.fC .none rfl rfl (tl rfl) ?_
  refine RT.conv .none (((a.getD i 0%18446744073709551616:Nat):Int)) rfl (tl rfl) IC ?_
  refine RT.yo .none rfl (tl rfl) ?_
  refine RT.done ?_
  refine ae.n ?_
  refine aZ ?_
  refine aZ ?_
  refine ah ?_
  refine RT.mv .none rfl (tl rfl) ?_
  refine RT.fC .none rfl rfl (tl rfl) ?_
  refine RT.len .none rfl (tl rfl) ?_
  refine RT.lss .none (false) rfl rfl (tl rfl) (by simp only[List.length_map];simp;omega) ?_
  refine RT.done ?_
  refine ae.n ?_
  refine gj rfl ?_
  refine aG ?_
  refine ae.n ?_
  refine aZ ?_
  refine ah ?_
  refine RT.mv .none rfl (tl rfl) ?_
  refine RT.mv .none rfl (tl rfl) ?_
  refine RT.mv .none rfl (tl rfl) ?_
  refine RT.yield .none hr rfl (fun _ h=>h) rfl (i) rfl rfl hi (by exact⟨rfl,(by show AV.sv _=AV.sv _;rw[o7 Fv];rfl),trivial⟩) (tl rfl) (fun yb=>?_)
  cases yb
  ·
   refine RT.not .none rfl (tl rfl) true rfl ?_
   refine RT.done ?_
   refine ae.n ?_
   refine eD rfl ?_
   refine aq ?_
   refine aF.r ?_
   refine ae.r ?_
   refine ae.r ?_
   refine aF.r ?_
   exact⟨.inr rfl,(fun h=>by cases h)⟩
  ·
   refine RT.not .none rfl (tl rfl) false rfl ?_
   refine RT.done ?_
   refine ae.n ?_
   refine gj rfl ?_
   refine aG ?_
   refine aF.n ?_
   refine ae.n ?_
   refine ah ?_
   refine RT.add .none (((i:Nat):Int)+1) rfl rfl (tl rfl) (kC (by omega)) ?_
   refine RT.mv .none rfl (tl rfl) ?_
   refine RT.done ?_
   refine ae.n ?_
   refine⟨⟨i+1,by omega⟩,(by dsimp only;omega),?_⟩
   try dsimp only
   exact dz id rfl rfl rfl rfl rfl ⟨.sv (by first|exact SV.aa _|exact SV.aD (by omega)|exact SV.aD (by push_cast;omega)|exact SV.aD (by dsimp only;omega)|exact SV.imp_eq (by simp)),.sv (by first|exact SV.aa _|exact SV.aD (by omega)|exact SV.aD (by push_cast;omega)|exact SV.aD (by dsimp only;omega)|exact SV.imp_eq (by simp)),.sv (by first|exact SV.aa _|exact SV.aD (by omega)|exact SV.aD (by push_cast;omega)|exact SV.aD (by dsimp only;omega)|exact SV.imp_eq (by simp)),.sv (by first|exact SV.aa _|exact SV.aD (by omega)|exact SV.aD (by push_cast;omega)|exact SV.aD (by dsimp only;omega)|exact SV.imp_eq (by simp)),.sv (by first|exact SV.aa _|exact SV.aD (by omega)|exact SV.aD (by push_cast;omega)|exact SV.aD (by dsimp only;omega)|exact SV.imp_eq (by simp)),trivial⟩ trivial trivial (fun _ _=>rfl)
 ·
  refine aZ ?_
  refine ah ?_
  refine RT.lss .none (true) rfl rfl (tl rfl) (by simp;omega) ?_
  refine RT.done ?_
  refine ae.n ?_
  refine aZ ?_
  refine eD rfl ?_
  refine aG ?_
  refine ae.n ?_
  refine aZ ?_
  refine ax ?_
  refine aZ ?_
  refine ah ?_
  refine RT.mv .none rfl (tl rfl) ?_
  refine RT.yo .none rfl (tl rfl) ?_
  refine RT.done ?_
  refine ae.n ?_
  refine aZ ?_
  refine ah ?_
  refine RT.yo .none rfl (tl rfl) ?_
  refine RT.yo .none rfl (tl rfl) ?_
  refine RT.done ?_
  refine ae.n ?_
  refine aZ ?_
  refine aZ ?_
  refine ah ?_
  refine RT.mv .none rfl (tl rfl) ?_
  refine RT.fC .none rfl rfl (tl rfl) ?_
  refine RT.len .none rfl (tl rfl) ?_
  refine RT.lss .none (false) rfl rfl (tl rfl) (by simp only[List.length_map];simp;omega) ?_
  refine RT.done ?_
  refine ae.n ?_
  refine gj rfl ?_
  refine aG ?_
  refine ae.n ?_
  refine aZ ?_
  refine aZ ?_
  refine ah ?_
  refine RT.mv .none rfl (tl rfl) ?_
  refine RT.fC .none rfl rfl (tl rfl) ?_
  refine RT.len .none rfl (tl rfl) ?_
  refine RT.lss .none (true) rfl rfl (tl rfl) (by simp only[List.length_map];simp;omega) ?_
  refine RT.done ?_
  refine ae.n ?_
  refine eD rfl ?_
  refine ah ?_
  refine RT.fC .none rfl rfl (tl rfl) ?_
  refine RT.mv .none rfl (tl rfl) ?_
  refine RT.VL .none [.v (.int .u32 ((b.getD i 0:Nat):Int))] (Int.natCast_nonneg i) (by rw[Int.toNat_natCast,List.getElem?_map,m8 Fv];rfl) rfl rfl (tl rfl) ?_
  refine RT.fC .none rfl rfl (tl rfl) ?_
  refine RT.conv .none (((b.getD i 0%18446744073709551616:Nat):Int)) rfl (tl rfl) IC ?_
  refine RT.yo .none rfl (tl rfl) ?_
  refine RT.done ?_
  refine ae.n ?_
  refine aZ ?_
  refine ah ?_
  refine RT.mv .none rfl (tl rfl) ?_
  refine RT.mv .none rfl (tl rfl) ?_
  refine RT.mv .none rfl (tl rfl) ?_
  refine RT.yield .none hr rfl (fun _ h=>h) rfl (i) rfl rfl hi (by exact⟨(by show AV.sv _=AV.sv _;rw[o7 yn];rfl),rfl,trivial⟩) (tl rfl) (fun yb=>?_)
  cases yb
  ·
   refine RT.not .none rfl (tl rfl) true rfl ?_
   refine RT.done ?_
   refine ae.n ?_
   refine eD rfl ?_
   refine aq ?_
   refine aF.r ?_
   refine ae.r ?_
   refine ae.r ?_
   refine aF.r ?_
   exact⟨.inr rfl,(fun h=>by cases h)⟩
  ·
   refine RT.not .none rfl (tl rfl) false rfl ?_
   refine RT.done ?_
   refine ae.n ?_
   refine gj rfl ?_
   refine aG ?_
   refine aF.n ?_
   refine ae.n ?_
   refine ah ?_
   refine RT.add .none (((i:Nat):Int)+1) rfl rfl (tl rfl) (kC (by omega)) ?_
   refine RT.mv .none rfl (tl rfl) ?_
   refine RT.done ?_
   refine ae.n ?_
   refine⟨⟨i+1,by omega⟩,(by dsimp only;omega),?_⟩
   try dsimp only
   exact dz id rfl rfl rfl rfl rfl ⟨.sv (by first|exact SV.aa _|exact SV.aD (by omega)|exact SV.aD (by push_cast;omega)|exact SV.aD (by dsimp only;omega)|exact SV.imp_eq (by simp)),.sv (by first|exact SV.aa _|exact SV.aD (by omega)|exact SV.aD (by push_cast;omega)|exact SV.aD (by dsimp only;omega)|exact SV.imp_eq (by simp)),.sv (by first|exact SV.aa _|exact SV.aD (by omega)|exact SV.aD (by push_cast;omega)|exact SV.aD (by dsimp only;omega)|exact SV.imp_eq (by simp)),.sv (by first|exact SV.aa _|exact SV.aD (by omega)|exact SV.aD (by push_cast;omega)|exact SV.aD (by dsimp only;omega)|exact SV.imp_eq (by simp)),.sv (by first|exact SV.aa _|exact SV.aD (by omega)|exact SV.aD (by push_cast;omega)|exact SV.aD (by dsimp only;omega)|exact SV.imp_eq (by simp)),trivial⟩ trivial trivial (fun _ _=>rfl)
 ·
  subst hi
  refine aZ ?_
  refine ah ?_
  refine RT.lss .none (false) rfl rfl (tl rfl) (by simp) ?_
  refine RT.done ?_
  refine ae.n ?_
  refine aZ ?_
  refine gj rfl ?_
  refine bq ?_
  refine ae.x ?_
  refine ae.x ?_
  refine aF.x ?_
  exact⟨.inl rfl,(fun _=>rfl)⟩
theorem jk{x0 r:List Nat}(h:cq x0=some r):Pure Try.prog 56 [slc 1 (List.map aj x0)] (slc 1 (List.map aj r)):=by
 refine aA Try.func56 rfl (Nat.le_of_ble_eq_true rfl) (fun eV M vs hvs=>?_)
 unfold cq at h
 refine sr<|aI rfl (imp_nil (n:=1) (e:=aj))<|dn<|qq<|sr<|mv rfl ?_
 refine RT.Kj .none rfl T (fun nb hnb=>?_)
 cases nb
 exact dn<|fs<|sr<|RT.CS (l:=([]:List Nat)) (e:=aj) .none .nil T rfl T rfl rfl rfl rfl rfl rfl<|mv rfl<|RT.MF (k:=x0) (e:=aj) .none rfl rfl rfl T rfl T h<|ag rfl<|dn<|aq<|RZ (.tmp rfl .nil)
 have hx:x0=[]:=by simpa using hnb rfl
 subst hx
 obtain⟨_,_,rfl⟩:=mZ h
 exact dn<|cT<|sr<|aI rfl (imp_nil (n:=1) (e:=aj))<|dn<|aq<|ae.r<|RZ (.tmp rfl .nil)
theorem rS{x0 r:List Nat}(h:cq x0=some r):z6 Try.prog 56 [slc 1 (List.map aj x0)] (TR 80 1 aj r):=by
 refine vf Try.func56 rfl (Nat.le_of_ble_eq_true rfl) (fun eV M vs hvs=>?_)
 unfold cq at h
 refine sr<|ag rfl<|dn<|qq<|sr<|mv rfl ?_
 refine RT.Kj .none rfl T (fun nb hnb=>?_)
 cases nb
 exact dn<|fs<|sr<|RT.CS (l:=([]:List Nat)) (e:=aj) .none .nil T rfl T rfl rfl rfl rfl rfl rfl<|mv rfl<|aR (k:=x0) (e:=aj) rfl rfl rfl h<|an (s:=.row _) rfl<|dn<|aq<|⟨.inr rfl,_,.tmp rfl,rfl⟩
 have hx:x0=[]:=by simpa using hnb rfl
 subst hx
 obtain⟨_,_,rfl⟩:=mZ h
 exact dn<|cT<|sr<|ag rfl<|dn<|bH (fI 2 300 80 1 rfl rfl T)<|aq<|ae.r<|⟨.inr rfl,_,.tmp rfl,rfl⟩
theorem aP{x0:Nat}{c0:Nat}{r:Nat×Nat}(h:aJ x0 c0=some r):Iw Try.prog 113 [.v (.int .u64 ((x0:Nat):Int))] 100 [.v (.int .u64 ((c0:Nat):Int))] (.v (.int .u32 ((r.1:Nat):Int))) [.v (.int .u64 ((r.2:Nat):Int))]:=by
 refine BM Try.func113 rfl (Nat.le_of_ble_eq_true rfl) (fun eV M β=>?_)
 unfold aJ at h
 refine sr<|ag rfl<|dn<|sr<|mv rfl<|lV rfl rfl rfl<|lE h fun x6 h6 h=>ad _ rfl rfl (UK.add (a:=x0) (b:=c0) h6)<|ag rfl<|dn<|sr<|mv rfl<|lE h fun x8 h8 h=>RT.shr .none _ rfl rfl T (by decide) (vp (k:=.u64) (a:=x6) (q:=32) (s:=32) rfl h8)<|RT.uT (cells:=[_]) .none (s:=.sv _) rfl rfl rfl T rfl<|dn<|sr<|mv rfl<|lE h fun eN gL h=>cv _ rfl (UK.nat gL)<|ag rfl ?_
 refine dn<|aq ?_
 obtain rfl:=O h
 exact⟨.inr rfl,cE (.tmp rfl (.nil)) (SV.aa _),rfl⟩
theorem aQ{x0:List Nat}{r:List Nat}(h:ay x0=some r):Pure Try.prog 54 [slc 1 (List.map aj x0)] (slc 1 (List.map aj r)):=by
 refine aA Try.func54 rfl (Nat.le_of_ble_eq_true rfl) (fun eV M vs hvs=>?_)
 unfold ay at h
 refine sr<|aI rfl (imp_nil (n:=1) (e:=aj))<|dn<|qq<|bE h fun M8 B7 yG=>?_
 refine bg (fun(vw:(List Nat))=>AS.cm 21 [(0,.sv (slc 1 (List.map aj vw)))] [] []) (fun vw=>vw=M8) ?_ (fun vw B8=>?_)
 refine ax ?_
 refine bh B7 (fun Ai=>AS.cm 21 [(0,.sv (slc 1 (List.map aj Ai)))] [] []) (wR []) (fun tL YG YH h B9 Ap=>?_)
 try dsimp only
 refine qq<|qq ?_
 refine aN h (fun QE=>AS.cm 21 [(0,.sv (slc 1 (List.map aj tL))),(14,.sv (.v (.bool QE)))] [] []) (fun h=>?_) (fun vv h=>?_)
 refine ah<|mv rfl<|lE h fun x4 h4 h=>ln rfl h4<|lE h fun x5 h5 h=>gt _ rfl rfl h5<|mv rfl<|bE h fun BV eL h=>?_
 cases x5
 obtain rfl:=O (F eL)
 exact ww<|ww<|ww<|ww<|ww<|ww<|ww<|pF rfl<|dn<|⟨false,h,wR []⟩
 refine gm rfl<|gm rfl<|lE (V eL) fun x9 h9 eL=>gn rfl h9<|lE eL fun eN gL eL=>RT.sub (.some rfl rfl) _ rfl rfl T gL<|bE eL fun jE lU eL=>RT.FM (.some rfl rfl) rfl rfl T lU<|gr rfl rfl<|lE eL fun fW jw eL=>BU _ rfl rfl (MB (p:=jE) (q:=0) jw) ?_
 obtain rfl:=O eL
 exact pT rfl<|dn<|⟨fW,h,wR []⟩
 try dsimp only
 refine ae.n ?_
 cases vv
 refine cF<|bq<|ae.x<|ae.x<|aF.x<|ae.n ?_
 obtain rfl:=O (F h)
 exact⟨tL,Ap _ rfl,wR []⟩
 refine cT<|aG<|ae.n<|ax<|ah<|mv rfl<|mv rfl<|lE (V h) fun gi kQ h=>ln rfl kQ<|lE h fun eT jx h=>sb _ rfl rfl jx<|bE h fun mB pz h=>RT.FN .none 0 eT rfl rfl ⟨_,rfl⟩ T pz<|ag rfl<|RT.done<|aF.n ?_
 obtain rfl:=O h
 exact ae.n ⟨mB,B9 _ rfl,wR []⟩
 subst B8
 try dsimp only
 refine ae.n<|sr<|mv rfl<|ag rfl<|dn<|aq ?_
 obtain rfl:=O yG
 exact R1 rfl
theorem cY{x0:Bool}{x1:List Nat}{r:Zr}(h:aV x0 x1=some r):Pure Try.prog 55 [.v (.bool x0),slc 1 (List.map aj x1)] (.agg (eZ r)):=by
 refine aA Try.func55 rfl (Nat.le_of_ble_eq_true rfl) (fun eV M vs hvs=>?_)
 unfold aV at h
 refine sr<|al (cs:=[.v (.bool false),slc 1 (List.map aj [])]) (by exact⟨SV.aa _,imp_nil,trivial⟩) rfl<|dn<|sr<|mv rfl<|bE h fun x6 h6 h=>cl (aQ h6) ⟨rfl,trivial⟩<|ag rfl<|dn<|qq<|sr<|mv rfl<|lE h fun x8 h8 h=>ln rfl h8<|lE h fun x9 h9 h=>eq _ rfl rfl (o6 (p:=x8) (q:=0) h9)<|dn ?_
 cases x9
 refine fs<|sr<|mv rfl<|mv rfl<|bI (cs:=[_,_]) (cs':=[.v (.bool x0),slc 1 (List.map aj x6)]) (.one rfl (.one rfl (.nil))) ⟨SV.aa _,SV.aa _,trivial⟩<|so rfl rfl rfl<|dn<|aq ?_
 obtain rfl:=O (F h)
 exact RZ (.agg rfl rfl (.cons rfl (.cons rfl (.nil))) rfl (.nil))
 refine cT<|sr<|bI (cs:=[_,_]) (cs':=[.v (.bool false),slc 1 (List.map aj [])]) (.nil) ⟨SV.aa _,imp_nil,trivial⟩<|so rfl rfl rfl<|dn<|aq<|ae.r ?_
 obtain rfl:=O (V h)
 exact RZ (.agg rfl rfl (.cons rfl (.cons rfl (.nil))) rfl (.nil))
theorem fK{x0:Bool}{x1:Nat}{r:Zr}(h:cr x0 x1=some r):Pure Try.prog 71 [.v (.bool x0),.v (.int .u64 ((x1:Nat):Int))] (.agg (eZ r)):=by
 refine aA Try.func71 rfl (Nat.le_of_ble_eq_true rfl) (fun eV M vs hvs=>?_)
 unfold cr at h
 refine sr<|al (cs:=[.v (.bool false),slc 1 (List.map aj [])]) (by exact⟨SV.aa _,imp_nil,trivial⟩) rfl<|dn<|qq<|ax<|sr<|mv rfl<|lE h fun x7 h7 h=>eq _ rfl rfl (MB (p:=x1) (q:=0) h7)<|ag rfl<|dn ?_
 cases x7
 refine cF<|sr<|mv rfl<|lE (F h) fun jE lU h=>RT.shr .none _ rfl rfl T (by decide) (vp (k:=.u64) (a:=x1) (q:=32) (s:=32) rfl lU)<|lE h fun fF iY h=>eq _ rfl rfl (MB (p:=jE) (q:=0) iY)<|ag rfl<|dn ?_
 cases fF
 refine cF<|aG<|aF.n<|ae.n<|sr<|mv rfl<|mv rfl<|lE (F h) fun fX kE h=>cv _ rfl (UK.nat kE)<|mv rfl<|lE h fun iV nj h=>RT.shr .none _ rfl rfl T (by decide) (vp (k:=.u64) (a:=x1) (q:=32) (s:=32) rfl nj)<|lE h fun iy mM h=>cv _ rfl (UK.nat mM)<|bl (l:=[fX,iy]) (e:=aj) (.one rfl (.one rfl (.nil))) rfl rfl rfl rfl rfl rfl<|bI (cs:=[_,_]) (cs':=[.v (.bool x0),slc 1 (List.map aj [fX,iy])]) (.one rfl (.one rfl (.nil))) ⟨SV.aa _,SV.aa _,trivial⟩ ?_
 refine so rfl rfl rfl<|dn<|aq ?_
 obtain rfl:=O h
 exact RZ (.agg rfl rfl (.cons rfl (.cons rfl (.nil))) rfl (.nil))
 refine cT<|sr<|mv rfl<|mv rfl<|lE (V h) fun kD pA h=>cv _ rfl (UK.nat pA)<|bl (l:=[kD]) (e:=aj) (.one rfl (.nil)) rfl rfl rfl rfl rfl rfl<|bI (cs:=[_,_]) (cs':=[.v (.bool x0),slc 1 (List.map aj [kD])]) (.one rfl (.one rfl (.nil))) ⟨SV.aa _,SV.aa _,trivial⟩<|so rfl rfl rfl<|dn<|aq<|aF.r<|ae.r ?_
 obtain rfl:=O h
 exact RZ (.agg rfl rfl (.cons rfl (.cons rfl (.nil))) rfl (.nil))
 refine cT<|sr<|bI (cs:=[_,_]) (cs':=[.v (.bool false),slc 1 (List.map aj [])]) (.nil) ⟨SV.aa _,imp_nil,trivial⟩<|so rfl rfl rfl<|dn<|aq<|aF.r<|ae.r ?_
 obtain rfl:=O (V h)
 exact RZ (.agg rfl rfl (.cons rfl (.cons rfl (.nil))) rfl (.nil))
theorem eW{x0:List Nat}{r:Nat}(h:cf x0=some r):Pure Try.prog 87 [slc 1 (List.map aj x0)] (.v (.int .u64 ((r:Nat):Int))):=by
 refine aA Try.func87 rfl (Nat.le_of_ble_eq_true rfl) (fun eV M vs hvs=>?_)
 unfold cf at h
 refine sr<|ag rfl<|dn<|qq<|sr<|mv rfl<|lE h fun x4 h4 h=>ln rfl h4<|dn<|ax<|sr<|lE h fun x6 h6 h=>eq _ rfl rfl (o6 (p:=x4) (q:=0) h6)<|ag rfl<|dn ?_
 cases x6
 refine cF<|sr<|lE (F h) fun x8 h8 h=>eq _ rfl rfl (o6 (p:=x4) (q:=1) h8)<|ag rfl<|dn ?_
 cases x8
 refine cF<|aG<|aF.n<|ae.n<|qq<|ak mixed<|mv rfl<|bE (F h) fun jh n7 h=>ix rfl rfl n7<|lr rfl rfl<|lE h fun ji nk h=>cv _ rfl (UK.nat nk)<|mv rfl<|bE h fun eT jx h=>ix rfl rfl jx<|lr rfl rfl<|lE h fun fX kE h=>cv _ rfl (UK.nat kE)<|lE h fun iz pB h=>RT.shl .none _ rfl rfl T (by decide) (UK.shl (a:=fX) (q:=32) (s:=32) rfl pB)<|lE h fun iV nj h=>RT.or .none _ rfl rfl T (UK.or (a:=ji) (b:=iz) nj) ?_
 refine ag rfl ?_
 refine RT.done ⟨by kernel_rfl,?_⟩
 refine ae.n<|aq ?_
 obtain rfl:=O h
 exact R1 rfl
 refine cT<|sr<|mv rfl<|bE (V h) fun eN gL h=>ix rfl rfl gL<|lr rfl rfl<|lE h fun fF iY h=>cv _ rfl (UK.nat iY)<|ag rfl<|dn<|aq<|aF.r<|ae.r ?_
 obtain rfl:=O h
 exact R1 rfl
 refine cT<|sr<|ag rfl<|dn<|aq<|aF.r<|ae.r ?_
 obtain rfl:=O (V h)
 exact R1 rfl
theorem cQ{x0:List Nat}{x1:List Nat}{r:Int}(h:bC x0 x1=some r):Pure Try.prog 72 [slc 1 (List.map aj x0),slc 1 (List.map aj x1)] (.v (.int .i64 r)):=by
 refine aA Try.func72 rfl (Nat.le_of_ble_eq_true rfl) (fun eV M vs hvs=>?_)
 unfold bC at h
 refine sr<|ag rfl<|dn<|qq<|sr<|mv rfl<|lE h fun x7 h7 h=>ln rfl h7<|mv rfl<|lE h fun x9 h9 h=>ln rfl h9<|lE h fun eN gL h=>ne _ rfl rfl (IE (p:=x7) (q:=x9) gL)<|dn ?_
 cases eN
 refine fs<|qq<|sr<|mv rfl<|lE (F h) fun gi kQ h=>ln rfl kQ<|lE h fun eT jx h=>sb _ rfl rfl jx<|ag rfl<|dn<|bE h fun e6 QF pC=>?_
 refine bg (fun(YI:Unit)=>AS.cm 41 [] [] []) (fun YI=>.inl YI=e6) ?_ (fun YI QG=>?_)
 refine ax ?_
 refine bh QF (fun s6=>AS.cm 41 [(0,.sv (slc 1 (List.map aj x0))),(1,.sv (slc 1 (List.map aj x1))),(5,.sv (.v (.int .i64 s6)))] [] []) (wR []) (fun tN y6 G6 h QH M9=>?_)
 try dsimp only
 refine qq<|sr<|mv rfl<|lE h fun fX kE h=>ge _ rfl rfl kE<|dn ?_
 cases fX
 refine cF<|bq<|ae.x<|ae.x<|aF.x<|ae.n ?_
 obtain rfl:=O (F h)
 exact⟨(),M9 _ rfl,wR []⟩
 refine cT<|aG<|ae.n<|qq<|ax<|qq<|ak mixed<|mv rfl<|mv rfl<|bE (V h) fun BA Aq h=>ix rfl rfl Aq<|lr rfl rfl<|mv rfl<|mv rfl<|bE h fun fR jZ h=>ix rfl rfl jZ<|lr rfl rfl<|lE h fun mD wJ h=>ne _ rfl rfl (O7 (p:=BA) (q:=fR) wJ) ?_
 refine RT.done ⟨by kernel_rfl,?_⟩
 refine ae.n ?_
 cases mD
 refine cF<|aG<|aF.n<|ae.n<|ah<|mv rfl<|lE (F h) fun iV nj h=>sb _ rfl rfl nj<|ag rfl<|RT.done ?_
 obtain rfl:=O h
 exact ae.n ⟨iV,QH _ rfl,wR []⟩
 refine cT<|qq<|qq<|ak mixed<|mv rfl<|mv rfl<|bE (V h) fun jF nm h=>ix rfl rfl nm<|lr rfl rfl<|mv rfl<|mv rfl<|bE h fun uw Ei h=>ix rfl rfl Ei<|lr rfl rfl<|lE h fun nW sN h=>ls _ rfl rfl (O8 (p:=jF) (q:=uw) sN) ?_
 refine RT.done ⟨by kernel_rfl,?_⟩
 refine ae.n ?_
 cases nW
 refine fs<|sr<|ag rfl<|dn<|aq<|aF.r<|ae.r ?_
 obtain rfl:=O (F h)
 have YJ:=M9 _ rfl
 subst YJ
 refine ae.r<|aF.r<|ae.r<|ae.r ?_
 obtain rfl:=O pC
 exact R1 rfl
 refine cT<|sr<|ag rfl<|dn<|aq<|ae.r<|aF.r<|ae.r ?_
 obtain rfl:=O (V h)
 have YJ:=M9 _ rfl
 subst YJ
 refine ae.r<|aF.r<|ae.r<|ae.r ?_
 obtain rfl:=O pC
 exact R1 rfl
 subst QG
 try dsimp only
 refine ae.n<|sr<|ag rfl<|dn<|aq ?_
 obtain rfl:=O pC
 exact R1 rfl
 refine cT<|qq<|sr<|mv rfl<|lE (V h) fun fF iY h=>ln rfl iY<|mv rfl<|lE h fun jh n7 h=>ln rfl n7<|lE h fun kD pA h=>ls _ rfl rfl pA<|dn ?_
 cases kD
 refine fs<|sr<|ag rfl<|dn<|aq<|ae.r ?_
 obtain rfl:=O (F h)
 exact R1 rfl
 refine cT<|sr<|ag rfl<|dn<|aq<|ae.r<|ae.r ?_
 obtain rfl:=O (V h)
 exact R1 rfl
theorem kn{x0:List Nat}{x1:List Nat}{r:List Nat}(h:bZ x0 x1=some r):Pure Try.prog 69 [slc 1 (List.map aj x0),slc 1 (List.map aj x1)] (slc 1 (List.map aj r)):=by
 refine aA Try.func69 rfl (Nat.le_of_ble_eq_true rfl) (fun eV M vs hvs=>?_)
 unfold bZ at h
 refine sr<|aI rfl (imp_nil (n:=1) (e:=aj))<|dn<|sr<|mv rfl<|lE h fun eN gL h=>ln rfl gL<|mv rfl<|lE h fun fF iY h=>ln rfl iY<|lE h fun fW jw h=>RT.max .none _ rfl rfl T (P2 (p:=eN) (q:=fF) jw)<|lE h fun jh n7 h=>ad _ rfl rfl n7<|bE h fun kD pA h=>RT.xn (e:=aj) .none rfl rfl T rfl T pA<|RT.alloc .none T rfl rfl<|RT.lJ (cells:=[_]) .none rfl rfl rfl rfl T rfl<|dn<|sr<|RT.qm .none (b8 0) rfl ⟨rfl,trivial⟩ T rfl rfl ?_
 refine RT.alloc .none T rfl rfl<|RT.uT (cells:=[_]) .none (s:=.dV _ _) rfl rfl rfl T rfl<|dn<|qq<|sr<|mv rfl<|mv rfl<|cl (hG x0 x1) ⟨rfl,rfl,trivial⟩<|dn<|ax<|bE h fun e7 Na Ca=>?_
 obtain⟨Cb,Nb,Nc,Nd⟩:=kN Na
 refine jv (hH x0 x1) (fun _ _ _ _ _=>trivial) rfl (fun k=>AS.cm 35 [(5,.ptr 5 0),(6,.ptr 6 0),(19,.sv (uZ 114 [ref [slc 1 (List.map aj x0)],ref [slc 1 (List.map aj x1)]]))] [(6,⟨119,[.dV 113 [.box 16]]⟩),(16,⟨100,[.sv (.v (.int .u64 (((Cb k).1:Nat):Int)))]⟩),(5,⟨22,[.row 302]⟩)] [(302,TR 80 1 aj (Cb k).2)]) [6,16,5] rfl (fun _=>⟨rfl,rfl⟩) (yq rfl) (fun _=>rfl) (yt rfl) (by(try dsimp only);rw[Nb];(try dsimp only);exact dz (fun i=>bif Nat.beq i 302 then 15 else i) rfl rfl rfl rfl rfl ⟨.ptr,.ptr,.sv (SV.aa _),trivial⟩ ⟨⟨_,rfl,⟨.dV,trivial⟩⟩,⟨_,rfl,⟨.sv (SV.aa _),trivial⟩⟩,⟨_,rfl,⟨.row rfl,trivial⟩⟩,trivial⟩ ⟨⟨_,rfl,cc.refl _⟩,trivial⟩ (fun i hi=>by rw[bB (show i≠302 by omega)];rfl)) (fun k hk D hD=>?_) ?_
 have h:=Nc k hk
 obtain⟨sk,Nf⟩:∃q,Cb k=q:=⟨_,rfl⟩
 rw[Nf]at h⊢
 obtain⟨lP,dU⟩:=sk
 dsimp only[AS.O5,vk]
 try dsimp only at h
 refine lE h fun Qd Ng h=>?_
 rw[Ng]
 refine lE h fun Qe Nh h=>?_
 rw[Nh]
 refine sr<|ag rfl<|dn<|ah<|ag rfl<|RT.done ?_
 refine ae.n ⟨rfl,?_⟩
 dsimp only[AS.D6]
 refine ax<|ak mixed<|RT.fH .none (s:=.row _) rfl rfl rfl T<|RT.fH .none (s:=.dV _ _) rfl rfl rfl T<|mv rfl<|mv rfl<|lE h fun iH mN h=>ad _ rfl rfl (UK.add (a:=Qd) (b:=Qe) mN) ?_
 obtain⟨⟨lB,k9⟩,n8,h⟩:=bS h
 refine cB (aP n8) 16 rfl ⟨rfl,trivial⟩<|bl (l:=[lB]) (e:=aj) (.one rfl (.nil)) rfl rfl rfl rfl rfl rfl<|bE h fun fR jZ h=>aR (k:=[lB]) (e:=aj) rfl rfl rfl jZ<|RT.lJ (cells:=[_]) .none rfl rfl rfl rfl T rfl ?_
 refine RT.done ⟨by kernel_rfl,?_⟩
 refine aF.n ?_
 replace h:=Option.some.inj h
 refine⟨trivial,rfl,rfl,?_⟩
 try dsimp only
 rw[←h]
 try dsimp only
 exact dz (fun i=>bif Nat.beq i 302 then 29 else i) rfl rfl rfl rfl rfl ⟨.ptr,.ptr,.sv (SV.aa _),trivial⟩ ⟨⟨_,rfl,⟨.dV,trivial⟩⟩,⟨_,rfl,⟨.sv (SV.aa _),trivial⟩⟩,⟨_,rfl,⟨.row rfl,trivial⟩⟩,trivial⟩ ⟨⟨_,rfl,cc.refl _⟩,trivial⟩ (fun i hi=>by rw[bB (show i≠302 by omega)];rfl)
 rw[Nd]
 obtain⟨lP,dU⟩:=e7
 try dsimp only
 refine aF.n<|ae.n<|qq<|ak mixed<|RT.fH .none (s:=.row _) rfl rfl rfl T<|RT.fH .none (s:=.dV _ _) rfl rfl rfl T ?_
 obtain⟨⟨iA,k11⟩,lD,Ca⟩:=bS Ca
 refine cB (aP lD) 16 rfl ⟨rfl,trivial⟩<|bl (l:=[iA]) (e:=aj) (.one rfl (.nil)) rfl rfl rfl rfl rfl rfl<|bE Ca fun jF nm Ca=>RT.MF (k:=[iA]) (e:=aj) .none rfl rfl rfl T rfl T nm<|ag rfl ?_
 refine RT.done ⟨by kernel_rfl,?_⟩
 refine ae.n<|aq ?_
 obtain rfl:=O Ca
 exact R1 rfl
theorem ia{x0:List Nat}{x1:List Nat}{r:List Nat}(h:bp x0 x1=some r):Pure Try.prog 70 [slc 1 (List.map aj x0),slc 1 (List.map aj x1)] (slc 1 (List.map aj r)):=by
 refine aA Try.func70 rfl (Nat.le_of_ble_eq_true rfl) (fun eV M vs hvs=>?_)
 unfold bp at h
 refine sr<|aI rfl (imp_nil (n:=1) (e:=aj))<|dn<|sr<|mv rfl<|lE h fun eN gL h=>ln rfl gL<|bE h fun jE lU h=>RT.xn (e:=aj) .none rfl rfl T rfl T lU<|RT.alloc .none T rfl rfl<|RT.lJ (cells:=[_]) .none rfl rfl rfl rfl T rfl<|dn<|sr<|RT.qm .none (b8 1) rfl ⟨rfl,trivial⟩ T rfl rfl<|RT.alloc .none T rfl rfl<|RT.uT (cells:=[_]) .none (s:=.dV _ _) rfl rfl rfl T rfl<|dn<|qq<|sr<|mv rfl ?_
 refine mv rfl<|cl (hG x0 x1) ⟨rfl,rfl,trivial⟩<|dn<|ax<|bE h fun e7 Na Ca=>?_
 obtain⟨Cb,Nb,Nc,Nd⟩:=kN Na
 refine jv (hH x0 x1) (fun _ _ _ _ _=>trivial) rfl (fun k=>AS.cm 28 [(5,.ptr 5 0),(6,.ptr 6 0),(15,.sv (uZ 114 [ref [slc 1 (List.map aj x0)],ref [slc 1 (List.map aj x1)]]))] [(6,⟨119,[.dV 113 [.box 12]]⟩),(12,⟨100,[.sv (.v (.int .u64 (((Cb k).1:Nat):Int)))]⟩),(5,⟨22,[.row 302]⟩)] [(302,TR 80 1 aj (Cb k).2)]) [6,12,5] rfl (fun _=>⟨rfl,rfl⟩) (yq rfl) (fun _=>rfl) (yt rfl) (by(try dsimp only);rw[Nb];(try dsimp only);exact dz (fun i=>bif Nat.beq i 302 then 11 else i) rfl rfl rfl rfl rfl ⟨.ptr,.ptr,.sv (SV.aa _),trivial⟩ ⟨⟨_,rfl,⟨.dV,trivial⟩⟩,⟨_,rfl,⟨.sv (SV.aa _),trivial⟩⟩,⟨_,rfl,⟨.row rfl,trivial⟩⟩,trivial⟩ ⟨⟨_,rfl,cc.refl _⟩,trivial⟩ (fun i hi=>by rw[bB (show i≠302 by omega)];rfl)) (fun k hk D hD=>?_) ?_
 have h:=Nc k hk
 obtain⟨sk,Nf⟩:∃q,Cb k=q:=⟨_,rfl⟩
 rw[Nf]at h⊢
 obtain⟨nX,dU⟩:=sk
 dsimp only[AS.O5,vk]
 try dsimp only at h
 refine lE h fun Qf Ni h=>?_
 rw[Ni]
 refine lE h fun Qg Nj h=>?_
 rw[Nj]
 refine sr<|ag rfl<|dn<|ah<|ag rfl<|RT.done ?_
 refine ae.n ⟨rfl,?_⟩
 dsimp only[AS.D6]
 refine ax<|ak mixed<|RT.fH .none (s:=.row _) rfl rfl rfl T<|RT.fH .none (s:=.dV _ _) rfl rfl rfl T<|mv rfl<|mv rfl<|lE h fun iV nj h=>sb _ rfl rfl (UK.sub (a:=4294967295) (b:=Qg) nj)<|lE h fun iy mM h=>ad _ rfl rfl (UK.add (a:=Qf) (b:=iV) mM) ?_
 obtain⟨⟨eo,k9⟩,lF,h⟩:=bS h
 refine cB (aP lF) 12 rfl ⟨rfl,trivial⟩<|bl (l:=[eo]) (e:=aj) (.one rfl (.nil)) rfl rfl rfl rfl rfl rfl<|bE h fun iH mN h=>aR (k:=[eo]) (e:=aj) rfl rfl rfl mN<|RT.lJ (cells:=[_]) .none rfl rfl rfl rfl T rfl ?_
 refine RT.done ⟨by kernel_rfl,?_⟩
 refine aF.n ?_
 replace h:=Option.some.inj h
 refine⟨trivial,rfl,rfl,?_⟩
 try dsimp only
 rw[←h]
 try dsimp only
 exact dz (fun i=>bif Nat.beq i 302 then 26 else i) rfl rfl rfl rfl rfl ⟨.ptr,.ptr,.sv (SV.aa _),trivial⟩ ⟨⟨_,rfl,⟨.dV,trivial⟩⟩,⟨_,rfl,⟨.sv (SV.aa _),trivial⟩⟩,⟨_,rfl,⟨.row rfl,trivial⟩⟩,trivial⟩ ⟨⟨_,rfl,cc.refl _⟩,trivial⟩ (fun i hi=>by rw[bB (show i≠302 by omega)];rfl)
 rw[Nd]
 obtain⟨nX,dU⟩:=e7
 try dsimp only
 refine aF.n<|ae.n<|sr<|RT.fH .none (s:=.row _) rfl rfl rfl T<|an (s:=.row _) rfl<|dn<|bH (dH (i:=302) (E1:=80) (n:=1) (e:=aj) (l:=dU) rfl)<|aq ?_
 obtain rfl:=O Ca
 exact R1 rfl
theorem qE{x0:List Nat}{x1:List Nat}{r:List Nat}(h:dI x0 x1=some r):Pure Try.prog 89 [slc 1 (List.map aj x0),slc 1 (List.map aj x1)] (slc 1 (List.map aj r)):=by
 refine aA Try.func89 rfl (Nat.le_of_ble_eq_true rfl) (fun eV M vs hvs=>?_)
 unfold dI at h
 refine sr<|aI rfl (imp_nil (n:=1) (e:=aj))<|dn<|sr<|mv rfl<|lE h fun fF iY h=>ln rfl iY<|mv rfl<|lE h fun jh n7 h=>ln rfl n7<|lE h fun kD pA h=>ad _ rfl rfl pA<|bE h fun ji nk h=>RT.sK (n:=1) (e:=aj) .none rfl rfl T rfl T (by rfl) (by decide) (by exact⟨SV.aa _,trivial⟩) nk<|an (s:=.row _) rfl<|dn<|qq<|sr<|mv rfl<|lE h fun eT jx h=>ln rfl jx ?_
 refine mv rfl<|dn<|bE h fun e28 YK YL=>?_
 refine bg (fun(o9:(List Nat))=>AS.cm 63 [(5,.row 16)] [] [(16,TR 80 1 aj o9)]) (fun o9=>o9=e28) ?_ (fun o9 YM=>?_)
 refine ax ?_
 refine bh YK (fun Pa=>AS.cm 63 [(1,.sv (slc 1 (List.map aj x1))),(5,.row 16),(17,.sv (slc 1 (List.map aj x0))),(18,.sv (.v (.int .i64 eT))),(19,.sv (.v (.int .i64 Pa.1)))] [] [(16,TR 80 1 aj Pa.2)]) (wR []) (fun Pa y28 G28 h YN YO=>?_)
 obtain⟨jK,yz⟩:=Pa
 try dsimp only
 refine sr<|lE h fun fX kE h=>ls _ rfl rfl kE<|dn<|qq ?_
 cases fX
 refine cF<|bq<|ae.x<|ae.x<|aF.x<|ae.n ?_
 obtain rfl:=O (F h)
 exact⟨yz,YO _ rfl,wR []⟩
 refine cT<|aG<|ae.n<|qq<|ax<|sr<|mv rfl<|bE (V h) fun iV nj h=>ix rfl rfl nj<|lr rfl rfl<|ag rfl<|ag rfl<|dn<|sr<|RT.qm .none (b8 0) rfl ⟨rfl,trivial⟩ T rfl rfl<|an (s:=.dV _ _) rfl<|dn<|qq<|sr<|mv rfl<|lE h fun iH mN h=>ln rfl mN<|mv rfl<|dn<|bE h fun Yp YP rT=>?_
 refine bg (fun(Ej:Nat×(List Nat))=>AS.cm 63 [(1,.sv (slc 1 (List.map aj x1))),(5,.row 16),(6,.sv (.v (.int .i64 jK))),(8,.dV 113 [.box 24]),(17,.sv (slc 1 (List.map aj x0))),(18,.sv (.v (.int .i64 eT))),(19,.sv (.v (.int .i64 jK)))] [(24,⟨100,[.sv (.v (.int .u64 ((Ej.1:Nat):Int)))]⟩)] [(16,TR 80 1 aj Ej.2)]) (fun Ej=>Ej=Yp) ?_ (fun Ej YQ=>?_)
 refine ax ?_
 refine bh YP (fun ML=>AS.cm 63 [(1,.sv (slc 1 (List.map aj x1))),(5,.row 16),(6,.sv (.v (.int .i64 jK))),(7,.sv (.v (.int .u32 ((iV:Nat):Int)))),(8,.dV 113 [.box 24]),(17,.sv (slc 1 (List.map aj x0))),(18,.sv (.v (.int .i64 eT))),(19,.sv (.v (.int .i64 jK))),(25,.sv (slc 1 (List.map aj x1))),(26,.sv (.v (.int .i64 iH))),(27,.sv (.v (.int .i64 ML.1)))] [(24,⟨100,[.sv (.v (.int .u64 ((ML.2.1:Nat):Int)))]⟩)] [(16,TR 80 1 aj ML.2.2)]) (wR []) (fun ML y38 G38 h YR YS=>?_)
 obtain⟨rO,qu,o8⟩:=ML
 try dsimp only
 refine sr<|lE h fun lC vI h=>ls _ rfl rfl vI<|dn<|qq ?_
 cases lC
 refine cF<|bq<|ae.x<|ae.x<|aF.x<|ae.n ?_
 obtain rfl:=O (F h)
 exact⟨(qu,o8),YS _ rfl,wR []⟩
 refine cT<|aG<|ae.n<|qq<|ax<|sr<|mv rfl<|bE (V h) fun nY vJ h=>ix rfl rfl vJ<|lr rfl rfl<|ag rfl<|ag rfl<|dn<|ah<|mo (s:=.row _) rfl<|mv rfl<|mv rfl<|lE h fun qw Cc h=>ad _ rfl rfl Cc<|mo (s:=.dV _ _) rfl<|mo (s:=.row _) rfl<|mv rfl<|mv rfl<|lE h fun nW sN h=>ad _ rfl rfl sN<|bE h fun wI Cd h=>iR rfl rfl rfl Cd ?_
 refine bE h fun rC Ar h=>lR rfl rfl Ar rfl<|lE h fun zI E4 h=>cv _ rfl (UK.nat E4)<|mv rfl<|lE h fun BW Gj h=>cv _ rfl (UK.nat Gj)<|mv rfl<|lE h fun Ag Ek h=>cv _ rfl (UK.nat Ek)<|lE h fun zJ h48 h=>RT.mul .none _ rfl rfl T (UK.mul (a:=BW) (b:=Ag) h48)<|lE h fun x49 QI h=>ad _ rfl rfl (UK.add (a:=zI) (b:=zJ) QI) ?_
 obtain⟨⟨ux,Yn⟩,El,h⟩:=bS h
 refine cB (aP El) 24 rfl ⟨rfl,trivial⟩<|bE h fun H7 IW h=>iR rfl rfl rfl IW<|bE h fun Yo QJ h=>sR ux rfl rfl rfl rfl QJ<|RT.done<|aF.n<|ae.n<|ah<|lE h fun tO Em h=>ad _ rfl rfl Em<|mv rfl<|RT.done ?_
 obtain rfl:=O h
 exact ae.n ⟨(tO,Yn,Yo),YR _ rfl,wR []⟩
 subst YQ
 obtain⟨Ah,BX⟩:=Ej
 try dsimp only
 refine ae.n<|ah<|mo (s:=.row _) rfl<|mv rfl<|mv rfl<|lE rT fun IS Nk rT=>ln rfl Nk<|lE rT fun Qh QK rT=>ad _ rfl rfl QK<|mo (s:=.dV _ _) rfl ?_
 obtain⟨⟨MM,k45⟩,YT,rT⟩:=bS rT
 refine cB (aP YT) 24 rfl ⟨rfl,trivial⟩<|bE rT fun Eb Kt rT=>iR rfl rfl rfl Kt<|bE rT fun Yq QL rT=>sR MM rfl rfl rfl rfl QL<|RT.done<|aF.n<|ae.n<|ah<|lE rT fun H8 QM rT=>ad _ rfl rfl QM<|mv rfl<|RT.done ?_
 obtain rfl:=O rT
 exact ae.n ⟨(H8,Yq),YN _ rfl,wR []⟩
 subst YM
 try dsimp only
 refine ae.n<|sr<|mo (s:=.row _) rfl<|an (s:=.row _) rfl<|dn<|bH (dH (i:=16) (E1:=80) (n:=1) (e:=aj) (l:=o9) rfl)<|aq ?_
 obtain rfl:=O YL
 exact R1 rfl
end Go.Proofs.Ytmiflmkdaeianaa
namespace Go.Proofs.Ytmiflmkdaeianaa
open Go.Fw Go.Fw.Z Go.RowKit
theorem qF{x0:List Nat}{x1:Nat}{r:Nat×List Nat}(h:eG x0 x1=some r):BL Try.prog 90 [.row 1000,.sv (.v (.int .u64 ((x1:Nat):Int)))] (TR 80 1 aj x0) (.sv (.v (.int .u64 ((r.1:Nat):Int)))) (List.flatMap aj r.2):=by
 refine oX Try.func90 rfl (Nat.le_of_ble_eq_true rfl) rfl rfl (fun eV M v0=>?_)
 unfold eG at h
 refine sr<|ag rfl<|dn<|sr<|ag rfl<|dn<|qq<|sr<|mo (s:=.row _) rfl<|lE h fun x9 h9 h=>lL rfl rfl h9<|lE h fun eN gL h=>sb _ rfl rfl gL<|ag rfl<|dn<|bE h fun e8 As rU=>?_
 refine bg (fun(rV:Nat×(List Nat))=>AS.cm 34 [(5,.sv (.v (.int .u64 ((rV.1:Nat):Int))))] [] [(1000,TR 80 1 aj rV.2)]) (fun rV=>rV=e8) ?_ (fun rV At=>?_)
 refine ax ?_
 refine bh As (fun s8=>AS.cm 34 [(0,.row 1000),(1,.sv (.v (.int .u64 ((x1:Nat):Int)))),(5,.sv (.v (.int .u64 ((s8.1:Nat):Int)))),(6,.sv (.v (.int .i64 s8.2.1)))] [] [(1000,TR 80 1 aj s8.2.2)]) (wR []) (fun s8 y8 G8 h Au Av=>?_)
 obtain⟨F0,F1,lQ⟩:=s8
 try dsimp only
 refine qq<|sr<|mv rfl<|lE h fun fF iY h=>ge _ rfl rfl iY<|dn ?_
 cases fF
 refine cF<|bq<|ae.x<|ae.x<|aF.x<|ae.n ?_
 obtain rfl:=O (F h)
 exact⟨(F0,lQ),Av _ rfl,wR []⟩
 refine cT<|aG<|ae.n<|qq<|ax<|sr<|mv rfl<|lE (V h) fun ji nk h=>RT.shl .none _ rfl rfl T (by decide) (UK.shl (a:=F0) (q:=32) (s:=32) rfl nk)<|mo (s:=.row _) rfl<|mv rfl<|bE h fun mB pz h=>iR rfl rfl rfl pz<|bE h fun fX kE h=>lR rfl rfl kE rfl<|lE h fun iz pB h=>cv _ rfl (UK.nat pB)<|lE h fun iV nj h=>RT.or .none _ rfl rfl T (UK.or (a:=ji) (b:=iz) nj)<|ag rfl<|dn<|sr<|mo (s:=.row _) rfl ?_
 refine mv rfl<|mv rfl<|mv rfl<|bE h fun lB n8 h=>RT.quo .none _ rfl rfl T (X3 n8) (UK.quo n8)<|lE h fun lC vI h=>cv _ rfl (UK.nat vI)<|bE h fun fR jZ h=>iR rfl rfl rfl jZ<|bE h fun uy qG h=>sR lC rfl rfl rfl rfl qG<|dn<|ah<|mv rfl<|mv rfl<|bE h fun iA lD h=>RT.rem .none _ rfl rfl T (VO lD) (IF lD)<|ag rfl<|RT.done<|aF.n<|ae.n<|ah<|mv rfl<|lE h fun jh n7 h=>sb _ rfl rfl n7 ?_
 refine ag rfl<|RT.done ?_
 obtain rfl:=O h
 exact ae.n ⟨(iA,jh,uy),Au _ rfl,wR []⟩
 subst At
 obtain⟨Qi,uz⟩:=rV
 try dsimp only
 refine ae.n<|sr<|mv rfl<|ag rfl<|dn<|aq<|bE rU fun _ hle rU=>?_
 obtain rfl:=O rU
 exact⟨.inr rfl,.sv (cE (.tmp rfl (.nil)) (SV.aa _)),(by show _=gG.live ⟨80,1,x0.length,List.flatMap aj uz⟩;rw[←iG hle];rfl)⟩
theorem pD{x0:List Nat}{x1:Nat}{r:List Nat}(h:c9 x0 x1=some r):Pure Try.prog 110 [slc 1 (List.map aj x0),.v (.int .u64 ((x1:Nat):Int))] (slc 1 (List.map aj r)):=by
 refine aA Try.func110 rfl (Nat.le_of_ble_eq_true rfl) (fun eV M vs hvs=>?_)
 unfold c9 at h
 refine sr<|aI rfl (imp_nil (n:=1) (e:=aj))<|dn<|sr<|RT.qm .none (b8 0) rfl ⟨rfl,trivial⟩ T rfl rfl<|an (s:=.dV _ _) rfl<|dn<|sr<|mv rfl<|lE h fun jE lU h=>ln rfl lU<|lE h fun fF iY h=>ad _ rfl rfl iY<|bE h fun fW jw h=>RT.xn (e:=aj) .none rfl rfl T rfl T jw<|an (s:=.row _) rfl<|dn<|qq<|sr<|mv rfl<|lE h fun kD pA h=>ln rfl pA ?_
 refine mv rfl<|dn<|bE h fun e8 As rU=>?_
 refine bg (fun(rV:Nat×(List Nat))=>AS.cm 35 [(5,.dV 113 [.box 9]),(6,.row 302)] [(9,⟨100,[.sv (.v (.int .u64 ((rV.1:Nat):Int)))]⟩)] [(302,TR 80 1 aj rV.2)]) (fun rV=>rV=e8) ?_ (fun rV At=>?_)
 refine ax ?_
 refine bh As (fun s8=>AS.cm 35 [(1,.sv (.v (.int .u64 ((x1:Nat):Int)))),(5,.dV 113 [.box 9]),(6,.row 302),(14,.sv (slc 1 (List.map aj x0))),(15,.sv (.v (.int .i64 kD))),(16,.sv (.v (.int .i64 s8.1)))] [(9,⟨100,[.sv (.v (.int .u64 ((s8.2.1:Nat):Int)))]⟩)] [(302,TR 80 1 aj s8.2.2)]) (dz (fun i=>bif Nat.beq i 302 then 13 else i) rfl rfl rfl rfl rfl ⟨.sv (SV.aa _),.dV,.row rfl,.sv (SV.aa _),.sv (SV.aa _),.sv (SV.aa _),trivial⟩ ⟨⟨_,rfl,⟨.sv (SV.aa _),trivial⟩⟩,trivial⟩ ⟨⟨_,rfl,cc.refl _⟩,trivial⟩ (fun i hi=>by rw[bB (show i≠302 by omega)];rfl)) (fun s8 y8 G8 h Au Av=>?_)
 obtain⟨qx,lS,dU⟩:=s8
 try dsimp only
 refine sr<|lE h fun gi kQ h=>ls _ rfl rfl kQ<|dn<|qq ?_
 cases gi
 refine cF<|bq<|ae.x<|ae.x<|aF.x<|ae.n ?_
 obtain rfl:=O (F h)
 exact⟨(lS,dU),Av _ rfl,wR []⟩
 refine cT<|aG<|ae.n<|qq<|ax<|sr<|bE (V h) fun eT jx h=>ix rfl rfl jx<|lr rfl rfl<|ag rfl<|dn<|ah<|mo (s:=.row _) rfl<|mo (s:=.dV _ _) rfl<|mv rfl<|lE h fun iy mM h=>cv _ rfl (UK.nat mM)<|mv rfl<|lE h fun BA Aq h=>RT.shl .none _ rfl rfl T (Int.natCast_nonneg _) (UK.shl (a:=iy) (q:=((x1:Nat):Int)) (s:=min x1 64) rfl Aq) ?_
 obtain⟨⟨iH,MN⟩,mN,h⟩:=bS h
 refine cB (aP mN) 9 rfl ⟨rfl,trivial⟩<|bl (l:=[iH]) (e:=aj) (.one rfl (.nil)) rfl rfl rfl rfl rfl rfl<|bE h fun lC vI h=>aR (k:=[iH]) (e:=aj) rfl rfl rfl vI<|an (s:=.row _) rfl<|RT.done<|aF.n<|ae.n<|ah<|lE h fun fR jZ h=>ad _ rfl rfl jZ<|mv rfl<|RT.done ?_
 obtain rfl:=O h
 exact ae.n ⟨(fR,MN,lC),Au _ rfl,dz (fun i=>bif Nat.beq i 302 then 28 else i) rfl rfl rfl rfl rfl ⟨.sv (SV.aa _),.dV,.row rfl,.sv (SV.aa _),.sv (SV.aa _),.sv (SV.aa _),trivial⟩ ⟨⟨_,rfl,⟨.sv (SV.aa _),trivial⟩⟩,trivial⟩ ⟨⟨_,rfl,cc.refl _⟩,trivial⟩ (fun i hi=>by rw[bB (show i≠302 by omega)];rfl)⟩
 subst At
 obtain⟨vz,F2⟩:=rV
 try dsimp only
 refine ae.n<|sr<|mo (s:=.row _) rfl<|mo (s:=.dV _ _) rfl ?_
 obtain⟨⟨iA,Yr⟩,lD,rU⟩:=bS rU
 refine cB (aP lD) 9 rfl ⟨rfl,trivial⟩<|bl (l:=[iA]) (e:=aj) (.one rfl (.nil)) rfl rfl rfl rfl rfl rfl<|bE rU fun jF nm rU=>RT.MF (k:=[iA]) (e:=aj) .none rfl rfl rfl T rfl T nm<|ag rfl<|dn<|aq ?_
 obtain rfl:=O rU
 exact R1 rfl
theorem ou{x0:List Nat}{x1:Nat}{r:List Nat}(h:eU x0 x1=some r):z6 Try.prog 110 [slc 1 (List.map aj x0),.v (.int .u64 ((x1:Nat):Int))] (TR 80 1 aj r):=by
 refine vf Try.func110 rfl (Nat.le_of_ble_eq_true rfl) (fun eV M vs hvs=>?_)
 unfold eU at h
 refine sr<|ag rfl<|dn<|bH (fI 4 304 80 1 rfl rfl T)<|sr<|RT.qm .none (b8 0) rfl ⟨rfl,trivial⟩ T rfl rfl<|an (s:=.dV _ _) rfl<|dn<|sr<|mv rfl<|lE h fun jE lU h=>ln rfl lU<|lE h fun fF iY h=>ad _ rfl rfl iY<|bE h fun fW jw h=>RT.xn (e:=aj) .none rfl rfl T rfl T jw<|an (s:=.row _) rfl<|dn<|qq<|sr<|mv rfl<|lE h fun kD pA h=>ln rfl pA ?_
 refine mv rfl<|dn<|bE h fun e8 As rU=>?_
 refine bg (fun(rV:Nat×(List Nat))=>AS.cm 35 [(5,.dV 113 [.box 9]),(6,.row 306)] [(9,⟨100,[.sv (.v (.int .u64 ((rV.1:Nat):Int)))]⟩)] [(306,TR 80 1 aj rV.2)]) (fun rV=>rV=e8) ?_ (fun rV At=>?_)
 refine ax ?_
 refine bh As (fun s8=>AS.cm 35 [(1,.sv (.v (.int .u64 ((x1:Nat):Int)))),(5,.dV 113 [.box 9]),(6,.row 306),(14,.sv (slc 1 (List.map aj x0))),(15,.sv (.v (.int .i64 kD))),(16,.sv (.v (.int .i64 s8.1)))] [(9,⟨100,[.sv (.v (.int .u64 ((s8.2.1:Nat):Int)))]⟩)] [(306,TR 80 1 aj s8.2.2)]) (dz (fun i=>bif Nat.beq i 306 then 13 else i) rfl rfl rfl rfl rfl ⟨.sv (SV.aa _),.dV,.row rfl,.sv (SV.aa _),.sv (SV.aa _),.sv (SV.aa _),trivial⟩ ⟨⟨_,rfl,⟨.sv (SV.aa _),trivial⟩⟩,trivial⟩ ⟨⟨_,rfl,cc.refl _⟩,trivial⟩ (fun i hi=>by rw[bB (show i≠306 by omega)];rfl)) (fun s8 y8 G8 h Au Av=>?_)
 obtain⟨qx,lS,yA⟩:=s8
 try dsimp only
 refine sr<|lE h fun gi kQ h=>ls _ rfl rfl kQ<|dn<|qq ?_
 cases gi
 refine cF<|bq<|ae.x<|ae.x<|aF.x<|ae.n ?_
 obtain rfl:=O (F h)
 exact⟨(lS,yA),Av _ rfl,wR []⟩
 refine cT<|aG<|ae.n<|qq<|ax<|sr<|bE (V h) fun eT jx h=>ix rfl rfl jx<|lr rfl rfl<|ag rfl<|dn<|ah<|mo (s:=.row _) rfl<|mo (s:=.dV _ _) rfl<|mv rfl<|lE h fun iy mM h=>cv _ rfl (UK.nat mM)<|mv rfl<|lE h fun BA Aq h=>RT.shl .none _ rfl rfl T (Int.natCast_nonneg _) (UK.shl (a:=iy) (q:=((x1:Nat):Int)) (s:=min x1 64) rfl Aq) ?_
 obtain⟨⟨iH,MN⟩,mN,h⟩:=bS h
 refine cB (aP mN) 9 rfl ⟨rfl,trivial⟩<|bl (l:=[iH]) (e:=aj) (.one rfl (.nil)) rfl rfl rfl rfl rfl rfl<|bE h fun lC vI h=>aR (k:=[iH]) (e:=aj) rfl rfl rfl vI<|an (s:=.row _) rfl<|RT.done<|aF.n<|ae.n<|ah<|lE h fun fR jZ h=>ad _ rfl rfl jZ<|mv rfl<|RT.done ?_
 obtain rfl:=O h
 exact ae.n ⟨(fR,MN,lC),Au _ rfl,dz (fun i=>bif Nat.beq i 306 then 28 else i) rfl rfl rfl rfl rfl ⟨.sv (SV.aa _),.dV,.row rfl,.sv (SV.aa _),.sv (SV.aa _),.sv (SV.aa _),trivial⟩ ⟨⟨_,rfl,⟨.sv (SV.aa _),trivial⟩⟩,trivial⟩ ⟨⟨_,rfl,cc.refl _⟩,trivial⟩ (fun i hi=>by rw[bB (show i≠306 by omega)];rfl)⟩
 subst At
 obtain⟨vz,F3⟩:=rV
 try dsimp only
 refine ae.n<|sr<|mo (s:=.row _) rfl<|mo (s:=.dV _ _) rfl ?_
 obtain⟨⟨iA,Yr⟩,lD,rU⟩:=bS rU
 refine cB (aP lD) 9 rfl ⟨rfl,trivial⟩<|bl (l:=[iA]) (e:=aj) (.one rfl (.nil)) rfl rfl rfl rfl rfl rfl<|bE rU fun jF nm rU=>aR (k:=[iA]) (e:=aj) rfl rfl rfl nm<|an (s:=.row _) rfl<|dn<|aq ?_
 obtain rfl:=O rU
 exact⟨.inr rfl,_,.tmp rfl,rfl⟩
theorem pE{x0:Nat}{r:Int}(h:dY x0=some r):Pure Try.prog 118 [.v (.int .u32 ((x0:Nat):Int))] (.v (.int .i64 r)):=by
 refine aA Try.func118 rfl (Nat.le_of_ble_eq_true rfl) (fun eV M vs hvs=>?_)
 unfold dY at h
 refine sr<|ag rfl<|dn<|qq<|sr<|mv rfl<|lE h fun x4 h4 h=>ge _ rfl rfl (X2 (p:=65536) (q:=x0) h4)<|dn ?_
 refine aN h (fun j2=>AS.cm 19 [(0,.sv (.v (.int .u32 ((j2.1:Nat):Int)))),(2,.sv (.v (.int .i64 j2.2)))] [] []) (fun h=>?_) (fun j2 h=>?_)
 cases x4
 exact fs<|⟨(x0,0),(F h),wR []⟩
 exact cT<|sr<|mv rfl<|lE (V h) fun x6 h6 h=>RT.shr .none _ rfl rfl T (by decide) (vp (k:=.u32) (a:=x0) (q:=16) (s:=16) rfl h6)<|ag rfl<|dn<|ah<|ag rfl<|dn<|⟨(x6,16),h,wR []⟩
 obtain⟨BY,IT⟩:=j2
 try dsimp only
 refine ae.n<|qq<|sr<|mv rfl<|lE h fun x8 h8 h=>ge _ rfl rfl (X2 (p:=256) (q:=BY) h8)<|dn ?_
 refine aN h (fun j4=>AS.cm 19 [(0,.sv (.v (.int .u32 ((j4.1:Nat):Int)))),(2,.sv (.v (.int .i64 j4.2)))] [] []) (fun h=>?_) (fun j4 h=>?_)
 cases x8
 exact fs<|⟨(BY,IT),(F h),wR []⟩
 exact cT<|sr<|mv rfl<|lE (V h) fun eN gL h=>RT.shr .none _ rfl rfl T (by decide) (vp (k:=.u32) (a:=BY) (q:=8) (s:=8) rfl gL)<|ag rfl<|dn<|ah<|mv rfl<|lE h fun fF iY h=>ad _ rfl rfl iY<|ag rfl<|dn<|⟨(eN,fF),h,wR []⟩
 obtain⟨Qj,Qk⟩:=j4
 try dsimp only
 refine ae.n<|sr<|mv rfl<|mv rfl<|lE h fun kD pA h=>cv _ rfl (UK.nat pA)<|bE h fun ji nk h=>?_
 refine RT.six (l:=[0,1,2,2,3,3,3,3,4,4,4,4,4,4,4,4,5,5,5,5,5,5,5,5,5,5,5,5,5,5,5,5,6,6,6,6,6,6,6,6,6,6,6,6,6,6,6,6,6,6,6,6,6,6,6,6,6,6,6,6,6,6,6,6,7,7,7,7,7,7,7,7,7,7,7,7,7,7,7,7,7,7,7,7,7,7,7,7,7,7,7,7,7,7,7,7,7,7,7,7,7,7,7,7,7,7,7,7,7,7,7,7,7,7,7,7,7,7,7,7,7,7,7,7,7,7,7,7,8,8,8,8,8,8,8,8,8,8,8,8,8,8,8,8,8,8,8,8,8,8,8,8,8,8,8,8,8,8,8,8,8,8,8,8,8,8,8,8,8,8,8,8,8,8,8,8,8,8,8,8,8,8,8,8,8,8,8,8,8,8,8,8,8,8,8,8,8,8,8,8,8,8,8,8,8,8,8,8,8,8,8,8,8,8,8,8,8,8,8,8,8,8,8,8,8,8,8,8,8,8,8,8,8,8,8,8,8,8,8,8,8,8,8,8,8,8,8,8,8,8,8,8,8,8,8,8]) .none rfl rfl T nk ?_
 refine lE h fun gi kQ h=>cv _ rfl kQ<|lE h fun eT jx h=>ad _ rfl rfl jx<|ag rfl<|dn<|aq ?_
 obtain rfl:=O h
 exact R1 rfl
theorem jy{x0:Nat}{r:Int}(h:bT x0=some r):Pure Try.prog 109 [.v (.int .u32 ((x0:Nat):Int))] (.v (.int .i64 r)):=by
 refine aA Try.func109 rfl (Nat.le_of_ble_eq_true rfl) (fun eV M vs hvs=>?_)
 unfold bT at h
 refine sr<|ag rfl<|dn<|sr<|mv rfl<|bE h fun x4 h4 h=>cl (pE h4) ⟨rfl,trivial⟩<|lE h fun x5 h5 h=>sb _ rfl rfl h5<|ag rfl<|dn<|aq ?_
 obtain rfl:=O h
 exact R1 rfl
theorem qH{x0:List Nat}{o0:Nat}{n0:Nat}{x1:List Nat}{r:Nat×List Nat}(h:eH x0 o0 n0 x1=some r):BL Try.prog 111 [.jg 1000 (o0*1) n0,.sv (slc 1 (List.map aj x1))] (TR 80 1 aj x0) (.sv (.v (.int .u64 ((r.1:Nat):Int)))) (List.flatMap aj r.2):=by
 refine oX Try.func111 rfl (Nat.le_of_ble_eq_true rfl) rfl rfl (fun eV M v0=>?_)
 unfold eH at h
 refine sr<|ag rfl<|dn<|sr<|mv rfl<|lE h fun fF iY h=>ln rfl iY<|ag rfl<|dn<|qq<|ak mixed<|mo (s:=.jg _ _ _) rfl<|mv rfl<|bE h fun kD pA h=>RT.Ae .none rfl rfl T pA<|bE h fun ji nk h=>lR rfl rfl nk rfl<|lE h fun gi kQ h=>cv _ rfl (UK.nat kQ)<|lE h fun eT jx h=>RT.shl .none _ rfl rfl T (by decide) (UK.shl (a:=gi) (q:=32) (s:=32) rfl jx)<|mo (s:=.jg _ _ _) rfl ?_
 refine mv rfl<|lE h fun iz pB h=>sb _ rfl rfl pB<|bE h fun iV nj h=>RT.Ae .none rfl rfl T nj<|bE h fun iy mM h=>lR rfl rfl mM rfl<|lE h fun eo lF h=>cv _ rfl (UK.nat lF)<|lE h fun BA Aq h=>RT.or .none _ rfl rfl T (UK.or (a:=eT) (b:=eo) Aq)<|ag rfl ?_
 refine RT.done ⟨by kernel_rfl,?_⟩
 refine ae.n<|qq<|ak mixed<|mv rfl<|mv rfl<|lE h fun lC vI h=>sb _ rfl rfl vI<|bE h fun fR jZ h=>ix rfl rfl jZ<|lr rfl rfl<|lE h fun mD wJ h=>cv _ rfl (UK.nat wJ)<|mv rfl<|mv rfl<|lE h fun jF nm h=>sb _ rfl rfl nm<|bE h fun qw Cc h=>ix rfl rfl Cc<|lr rfl rfl<|lE h fun sM yH h=>cv _ rfl (UK.nat yH)<|ag rfl<|ag rfl ?_
 refine RT.done ⟨by kernel_rfl,?_⟩
 refine ae.n<|qq<|ak mixed<|mv rfl<|mv rfl<|bE h fun nW sN h=>RT.quo .none _ rfl rfl T (X3 sN) (UK.quo sN)<|mv rfl<|mv rfl<|bE h fun zI E4 h=>RT.rem .none _ rfl rfl T (VO E4) (IF E4)<|ag rfl<|ag rfl ?_
 refine RT.done ⟨by kernel_rfl,?_⟩
 refine ae.n<|qq<|bE h fun M8 B7 yG=>?_
 refine bg (fun(Ec:Nat)=>AS.cm 71 [(9,.sv (.v (.int .u64 ((Ec:Nat):Int))))] [] [(1000,TR 80 1 aj x0)]) (fun Ec=>Ec=M8) ?_ (fun Ec B8=>?_)
 refine ax ?_
 refine bh B7 (fun Ai=>AS.cm 71 [(0,.jg 1000 (o0*1) n0),(5,.sv (.v (.int .i64 fF))),(7,.sv (.v (.int .u64 ((mD:Nat):Int)))),(8,.sv (.v (.int .u64 ((sM:Nat):Int)))),(9,.sv (.v (.int .u64 ((Ai.1:Nat):Int)))),(10,.sv (.v (.int .u64 ((Ai.2:Nat):Int))))] [] [(1000,TR 80 1 aj x0)]) (wR []) (fun Ai YG YH h B9 Ap=>?_)
 obtain⟨wV,xq⟩:=Ai
 try dsimp only
 refine qq<|qq ?_
 refine aN h (fun QE=>AS.cm 71 [(0,.jg 1000 (o0*1) n0),(5,.sv (.v (.int .i64 fF))),(7,.sv (.v (.int .u64 ((mD:Nat):Int)))),(8,.sv (.v (.int .u64 ((sM:Nat):Int)))),(9,.sv (.v (.int .u64 ((wV:Nat):Int)))),(10,.sv (.v (.int .u64 ((xq:Nat):Int)))),(61,.sv (.v (.bool QE)))] [] [(1000,TR 80 1 aj x0)]) (fun h=>?_) (fun BZ h=>?_)
 refine ah<|mv rfl<|lE h fun BW Gj h=>RT.shr .none _ rfl rfl T (by decide) (vp (k:=.u64) (a:=wV) (q:=32) (s:=32) rfl Gj)<|lE h fun uA h46 h=>ne _ rfl rfl (O7 (p:=BW) (q:=0) h46)<|mv rfl<|bE h fun F4 eL h=>?_
 cases uA
 refine gm rfl<|gm rfl<|lE (F eL) fun ux El eL=>RT.mul (.some rfl rfl) _ rfl rfl T (UK.mul (a:=wV) (b:=sM) El)<|gm rfl<|lE eL fun tO Em eL=>RT.shl (.some rfl rfl) _ rfl rfl T (by decide) (UK.shl (a:=xq) (q:=32) (s:=32) rfl Em)<|RT.move (.some rfl rfl) (s:=.jg _ _ _) rfl T<|gm rfl<|lE eL fun IU YU eL=>RT.sub (.some rfl rfl) _ rfl rfl T YU<|bE eL fun IS Nk eL=>RT.Ae (.some rfl rfl) rfl rfl T Nk<|bE eL fun Qh QK eL=>RT.P7 (.some rfl rfl) rfl rfl QK rfl T ?_
 refine lE eL fun Yt YV eL=>RT.conv (.some rfl rfl) _ rfl T (UK.nat YV)<|lE eL fun MM YT eL=>RT.or (.some rfl rfl) _ rfl rfl T (UK.or (a:=tO) (b:=Yt) YT)<|lE eL fun Eb Kt eL=>gg _ rfl rfl (O8 (p:=MM) (q:=ux) Kt) ?_
 obtain rfl:=O eL
 exact pF rfl<|dn<|⟨Eb,h,wR []⟩
 obtain rfl:=O (V eL)
 exact ww<|ww<|ww<|ww<|ww<|ww<|ww<|ww<|ww<|ww<|ww<|ww<|ww<|pT rfl<|dn<|⟨true,h,wR []⟩
 try dsimp only
 refine ae.n ?_
 cases BZ
 refine cF<|bq<|ae.x<|ae.x<|aF.x<|ae.n ?_
 obtain rfl:=O (F h)
 exact⟨wV,Ap _ rfl,wR []⟩
 refine cT<|aG<|ae.n<|ax<|sr<|mv rfl<|lE (V h) fun Kn h63 h=>sb _ rfl rfl (UK.sub (a:=wV) (b:=1) h63)<|ag rfl<|dn<|sr<|mv rfl<|mv rfl<|lE h fun EZ QN h=>ad _ rfl rfl (UK.add (a:=xq) (b:=mD) QN)<|ag rfl<|dn<|sr<|mv rfl<|lE h fun MO YW h=>RT.shr .none _ rfl rfl T (by decide) (vp (k:=.u64) (a:=EZ) (q:=32) (s:=32) rfl YW)<|lE h fun Ys YX h=>ne _ rfl rfl (O7 (p:=MO) (q:=0) YX) ?_
 refine dn ?_
 cases Ys
 refine cF<|aG<|aF.n ?_
 obtain rfl:=O (F h)
 exact ae.n ⟨(Kn,EZ),B9 _ rfl,wR []⟩
 refine cT<|bq<|aF.y (by decide)<|ae.x<|aF.x<|ae.n ?_
 obtain rfl:=O (V h)
 exact⟨Kn,Ap _ rfl,wR []⟩
 subst B8
 try dsimp only
 refine ae.n<|sr<|mv rfl<|ag rfl<|dn<|aq<|bE yG fun _ hle yG=>?_
 obtain rfl:=O yG
 exact⟨.inr rfl,.sv (cE (.tmp rfl (.nil)) (SV.aa _)),(by show _=gG.live ⟨80,1,x0.length,List.flatMap aj x0⟩;rw[←iG hle];rfl)⟩
theorem j1{x0:List Nat}{o0:Nat}{n0:Nat}{x1:List Nat}{x2:Nat}{r:Bool×List Nat}(h:bK x0 o0 n0 x1 x2=some r):BL Try.prog 112 [.jg 1000 (o0*1) n0,.sv (slc 1 (List.map aj x1)),.sv (.v (.int .u64 ((x2:Nat):Int)))] (TR 80 1 aj x0) (.sv (.v (.bool r.1))) (List.flatMap aj r.2):=by
 refine oX Try.func112 rfl (Nat.le_of_ble_eq_true rfl) rfl rfl (fun eV M v0=>?_)
 unfold bK at h
 refine sr<|ag rfl<|dn<|sr<|ag rfl<|dn<|sr<|RT.qm .none (b8 0) rfl ⟨rfl,trivial⟩ T rfl rfl<|an (s:=.dV _ _) rfl<|dn<|qq<|sr<|mo (s:=.jg _ _ _) rfl<|lE h fun jh n7 h=>RT.MK .none rfl T n7<|mv rfl<|dn<|bE h fun Ef Gk jM=>?_
 refine bg (fun(nn:Nat×(List Nat))=>AS.cm 51 [(7,.sv (.v (.int .u64 ((nn.1:Nat):Int))))] [] [(1000,TR 80 1 aj nn.2)]) (fun nn=>nn=Ef) ?_ (fun nn Gl=>?_)
 refine ax ?_
 refine bh Gk (fun uB=>AS.cm 51 [(0,.jg 1000 (o0*1) n0),(1,.sv (slc 1 (List.map aj x1))),(2,.sv (.v (.int .u64 ((x2:Nat):Int)))),(7,.sv (.v (.int .u64 ((uB.1:Nat):Int)))),(8,.dV 113 [.box 12]),(14,.sv (.v (.int .i64 jh))),(15,.sv (.v (.int .i64 uB.2.1)))] [(12,⟨100,[.sv (.v (.int .u64 ((uB.2.2.1:Nat):Int)))]⟩)] [(1000,TR 80 1 aj uB.2.2.2)]) (wR []) (fun uB y12 G12 h Gm Eo=>?_)
 obtain⟨Ed,qy,yB,nZ⟩:=uB
 try dsimp only
 refine sr<|lE h fun ji nk h=>ls _ rfl rfl nk<|dn<|qq ?_
 cases ji
 refine cF<|bq<|ae.x<|ae.x<|aF.x<|ae.n ?_
 obtain rfl:=O (F h)
 exact⟨(Ed,nZ),Eo _ rfl,wR []⟩
 refine cT<|aG<|ae.n<|qq<|ax<|sr<|mv rfl<|ag rfl<|dn<|sr<|ag rfl<|dn<|qq<|sr<|mv rfl<|mv rfl<|lE (V h) fun fX kE h=>ln rfl kE<|lE h fun iz pB h=>ls _ rfl rfl pB<|dn ?_
 refine aN h (fun j14=>AS.cm 51 [(0,.jg 1000 (o0*1) n0),(1,.sv (slc 1 (List.map aj x1))),(2,.sv (.v (.int .u64 ((x2:Nat):Int)))),(7,.sv (.v (.int .u64 ((Ed:Nat):Int)))),(8,.dV 113 [.box 12]),(9,.sv (.v (.int .i64 qy))),(10,.sv (.v (.int .u64 ((j14:Nat):Int)))),(14,.sv (.v (.int .i64 jh))),(15,.sv (.v (.int .i64 qy)))] [(12,⟨100,[.sv (.v (.int .u64 ((yB:Nat):Int)))]⟩)] [(1000,TR 80 1 aj nZ)]) (fun h=>?_) (fun F5 h=>?_)
 cases iz
 exact fs<|⟨0,(F h),wR []⟩
 exact cT<|ah<|mv rfl<|mv rfl<|bE (V h) fun eo lF h=>ix rfl rfl lF<|lr rfl rfl<|lE h fun iH mN h=>cv _ rfl (UK.nat mN)<|mv rfl<|lE h fun lC vI h=>RT.mul .none _ rfl rfl T (UK.mul (a:=iH) (b:=x2) vI)<|ag rfl<|dn<|⟨lC,h,wR []⟩
 try dsimp only
 refine ae.n<|qq<|ak mixed<|mo (s:=.jg _ _ _) rfl<|mv rfl<|bE h fun mD wJ h=>RT.Ae .none rfl rfl T wJ<|bE h fun iA lD h=>lR rfl rfl lD rfl<|lE h fun kO oI h=>cv _ rfl (UK.nat oI)<|mo (s:=.dV _ _) rfl<|mv rfl ?_
 obtain⟨⟨tQ,Yu⟩,vK,h⟩:=bS h
 refine cB (aP vK) 12 rfl ⟨rfl,trivial⟩<|lE h fun sM yH h=>cv _ rfl (UK.nat yH)<|lE h fun uw Ei h=>sb _ rfl rfl (UK.sub (a:=kO) (b:=sM) Ei)<|mv rfl<|lE h fun nW sN h=>sb _ rfl rfl (UK.sub (a:=uw) (b:=Ed) sN)<|ag rfl ?_
 refine RT.done ⟨by kernel_rfl,?_⟩
 refine ae.n<|sr<|mo (s:=.jg _ _ _) rfl<|mv rfl<|mv rfl<|lE h fun Ee Gn h=>cv _ rfl (UK.nat Gn)<|bE h fun BW Gj h=>RT.Ae .none rfl rfl T Gj<|bE h fun Yv QO h=>sR Ee rfl rfl rfl rfl QO<|dn<|ah<|mv rfl<|lE h fun Ag Ek h=>RT.shr .none _ rfl rfl T (by decide) (vp (k:=.u64) (a:=nW) (q:=63) (s:=63) rfl Ek)<|ag rfl<|RT.done<|aF.n<|ae.n<|ah<|lE h fun zJ h48 h=>ad _ rfl rfl h48<|mv rfl<|RT.done ?_
 obtain rfl:=O h
 exact ae.n ⟨(Ag,zJ,Yu,Yv),Gm _ rfl,wR []⟩
 subst Gl
 obtain⟨F6,qz⟩:=nn
 try dsimp only
 refine ae.n<|sr<|mv rfl<|lE jM fun ux El jM=>ne _ rfl rfl (O7 (p:=F6) (q:=0) El)<|ag rfl<|dn<|aq<|bE jM fun _ hle jM=>?_
 obtain rfl:=O jM
 exact⟨.inr rfl,.sv (cE (.tmp rfl (.nil)) (SV.aa _)),(by show _=gG.live ⟨80,1,x0.length,List.flatMap aj qz⟩;rw[←iG hle];rfl)⟩
set_option maxHeartbeats 4000000 in
theorem rW{x0:List Nat}{x1:List Nat}{r:(List Nat)×(List Nat)}(h:fo x0 x1=some r):Pure Try.prog 91 [slc 1 (List.map aj x0),slc 1 (List.map aj x1)] (.wL [slc 1 (List.map aj r.1),slc 1 (List.map aj r.2)]):=by
 refine aA Try.func91 rfl (Nat.le_of_ble_eq_true rfl) (fun eV M vs hvs=>?_)
 unfold fo at h
 refine sr<|ag rfl<|ag rfl<|dn<|bH (fI 4 306 80 1 rfl rfl T)<|bH (fI 5 308 80 1 rfl rfl T)<|sr<|mv rfl<|lE h fun gi kQ h=>ln rfl kQ<|ag rfl<|dn<|sr<|mv rfl<|mv rfl<|lE h fun fX kE h=>sb _ rfl rfl kE<|bE h fun iz pB h=>ix rfl rfl pB<|lr rfl rfl<|bE h fun iy mM h=>cl (jy mM) ⟨rfl,trivial⟩ ?_
 refine lE h fun eo lF h=>cv _ rfl (UK.conv lF)<|ag rfl<|dn<|qq<|ak mixed<|mv rfl<|mv rfl<|bE h fun lB n8 h=>cN (ou n8) ⟨rfl,rfl,trivial⟩<|mv rfl<|mv rfl<|bE h fun nY vJ h=>cl (pD vJ) ⟨rfl,rfl,trivial⟩<|mv rfl<|bE h fun iA lD h=>RT.FN .none 0 gi rfl rfl ⟨_,rfl⟩ T lD<|an (s:=.row _) rfl<|ag rfl ?_
 refine RT.done ⟨by kernel_rfl,?_⟩
 refine ae.n<|sr<|mv rfl<|lE h fun jF nm h=>ln rfl nm<|mv rfl<|lE h fun tQ vK h=>sb _ rfl rfl vK<|lE h fun sM yH h=>ad _ rfl rfl yH<|bE h fun uw Ei h=>RT.sK (n:=1) (e:=aj) .none rfl rfl T rfl T (by rfl) (by decide) (by exact⟨SV.aa _,trivial⟩) Ei<|an (s:=.row _) rfl<|dn<|qq<|sr<|mv rfl<|lE h fun nW sN h=>ln rfl sN<|mv rfl<|lE h fun rC Ar h=>sb _ rfl rfl Ar ?_
 refine ag rfl<|dn<|bE h fun YD YY Nl=>?_
 refine bg (fun(Ep:(List Nat)×(List Nat))=>AS.cm 141 [(4,.row 38),(6,.sv (.v (.int .i64 gi))),(7,.sv (.v (.int .u64 ((eo:Nat):Int)))),(8,.row 27)] [] [(38,TR 80 1 aj Ep.1),(27,TR 80 1 aj Ep.2)]) (fun Ep=>Ep=YD) ?_ (fun Ep YZ=>?_)
 refine ax ?_
 refine bh YY (fun MP=>AS.cm 141 [(4,.row 38),(6,.sv (.v (.int .i64 gi))),(7,.sv (.v (.int .u64 ((eo:Nat):Int)))),(8,.row 27),(9,.sv (slc 1 (List.map aj iA))),(10,.sv (.v (.int .i64 MP.1)))] [] [(38,TR 80 1 aj MP.2.1),(27,TR 80 1 aj MP.2.2)]) (wR []) (fun MP y36 G36 h Y0 Y1=>?_)
 obtain⟨fJ,nf,pg⟩:=MP
 try dsimp only
 refine qq<|sr<|mv rfl<|lE h fun Ee Gn h=>ge _ rfl rfl Gn<|dn ?_
 cases Ee
 refine cF<|bq<|ae.x<|ae.x<|aF.x<|ae.n ?_
 obtain rfl:=O (F h)
 exact⟨(nf,pg),Y1 _ rfl,wR []⟩
 refine cT<|aG<|ae.n<|qq<|ax<|sr<|mo (s:=.row _) rfl<|mv rfl<|mv rfl<|mv rfl<|lE (V h) fun H7 IW h=>ad _ rfl rfl IW<|lE h fun tO Em h=>ad _ rfl rfl Em ?_
 obtain⟨⟨o53,n53⟩,Y2,h⟩:=bS h
 refine RT.Qb .none fJ tO rfl rfl ⟨_,rfl⟩ ⟨_,rfl⟩ T Y2<|mv rfl ?_
 obtain⟨⟨IU,MQ⟩,YU,h⟩:=bS h
 refine bE h fun _ Y3 h=>cR (l:=pg) (l':=MQ) (e:=aj) (qH YU) (iG Y3) 27 rfl (.cons rfl (.cons rfl (.nil)))<|ag rfl<|dn<|qq<|sr<|mo (s:=.row _) rfl<|mv rfl<|mv rfl<|mv rfl<|lE h fun Eb Kt h=>ad _ rfl rfl Kt<|lE h fun H8 QM h=>ad _ rfl rfl QM ?_
 obtain⟨⟨o62,n62⟩,Y4,h⟩:=bS h
 refine RT.Qb .none fJ H8 rfl rfl ⟨_,rfl⟩ ⟨_,rfl⟩ T Y4<|mv rfl<|mv rfl ?_
 obtain⟨⟨Pb,Pc⟩,Y5,h⟩:=bS h
 refine bE h fun _ Y6 h=>cR (l:=MQ) (l':=Pc) (e:=aj) (j1 Y5) (iG Y6) 27 rfl (.cons rfl (.cons rfl (.cons rfl (.nil))))<|dn ?_
 refine aN h (fun Pd=>AS.cm 141 [(4,.row 38),(6,.sv (.v (.int .i64 gi))),(7,.sv (.v (.int .u64 ((eo:Nat):Int)))),(8,.row 27),(9,.sv (slc 1 (List.map aj iA))),(10,.sv (.v (.int .i64 fJ))),(11,.sv (.v (.int .u64 ((Pd.1:Nat):Int))))] [] [(38,TR 80 1 aj nf),(27,TR 80 1 aj Pd.2)]) (fun h=>?_) (fun Pd h=>?_)
 cases Pb
 exact fs<|⟨(IU,Pc),(F h),wR []⟩
 refine cT<|sr<|mv rfl<|lE (V h) fun IV Y7 h=>sb _ rfl rfl (UK.sub (a:=IU) (b:=1) Y7)<|ag rfl<|dn<|sr<|RT.qm .none (b8 0) rfl ⟨rfl,trivial⟩ T rfl rfl<|an (s:=.dV _ _) rfl<|dn<|qq<|sr<|mv rfl<|lE h fun Pe Y8 h=>ln rfl Y8<|mv rfl<|dn<|bE h fun YB Y9 nq=>?_
 refine bg (fun(Er:Nat×(List Nat))=>AS.cm 141 [(4,.row 38),(6,.sv (.v (.int .i64 gi))),(7,.sv (.v (.int .u64 ((eo:Nat):Int)))),(8,.row 27),(9,.sv (slc 1 (List.map aj iA))),(10,.sv (.v (.int .i64 fJ))),(11,.sv (.v (.int .u64 ((IV:Nat):Int)))),(12,.dV 113 [.box 68])] [(68,⟨100,[.sv (.v (.int .u64 ((Er.1:Nat):Int)))]⟩)] [(38,TR 80 1 aj nf),(27,TR 80 1 aj Er.2)]) (fun Er=>Er=YB) ?_ (fun Er Za=>?_)
 refine ax ?_
 refine bh Y9 (fun MR=>AS.cm 141 [(4,.row 38),(6,.sv (.v (.int .i64 gi))),(7,.sv (.v (.int .u64 ((eo:Nat):Int)))),(8,.row 27),(9,.sv (slc 1 (List.map aj iA))),(10,.sv (.v (.int .i64 fJ))),(11,.sv (.v (.int .u64 ((IV:Nat):Int)))),(12,.dV 113 [.box 68]),(69,.sv (slc 1 (List.map aj iA))),(70,.sv (.v (.int .i64 Pe))),(71,.sv (.v (.int .i64 MR.1)))] [(68,⟨100,[.sv (.v (.int .u64 ((MR.2.1:Nat):Int)))]⟩)] [(38,TR 80 1 aj nf),(27,TR 80 1 aj MR.2.2)]) (wR []) (fun MR y65 G65 h Zb Zc=>?_)
 obtain⟨rP,qA,pq⟩:=MR
 try dsimp only
 refine sr<|lE h fun MS Zd h=>ls _ rfl rfl Zd<|dn<|qq ?_
 cases MS
 refine cF<|bq<|ae.x<|ae.x<|aF.x<|ae.n ?_
 obtain rfl:=O (F h)
 exact⟨(qA,pq),Zc _ rfl,wR []⟩
 refine cT<|aG<|ae.n<|qq<|ax<|sr<|mv rfl<|bE (V h) fun Qm Ze h=>ix rfl rfl Ze<|lr rfl rfl<|ag rfl<|ag rfl<|dn<|ah<|mo (s:=.row _) rfl<|mv rfl<|mv rfl<|lE h fun x79 h79 h=>ad _ rfl rfl h79<|mo (s:=.dV _ _) rfl<|mo (s:=.row _) rfl<|mv rfl<|mv rfl<|lE h fun x84 h84 h=>ad _ rfl rfl h84<|bE h fun x85 Zf h=>iR rfl rfl rfl Zf ?_
 refine bE h fun x86 Zg h=>lR rfl rfl Zg rfl<|lE h fun MT Zh h=>cv _ rfl (UK.nat Zh)<|mv rfl<|lE h fun Yx h89 h=>cv _ rfl (UK.nat h89)<|lE h fun x90 h90 h=>ad _ rfl rfl (UK.add (a:=MT) (b:=Yx) h90) ?_
 obtain⟨⟨Yy,Yz⟩,QS,h⟩:=bS h
 refine cB (aP QS) 68 rfl ⟨rfl,trivial⟩<|bE h fun x92 h92 h=>iR rfl rfl rfl h92<|bE h fun YA QT h=>sR Yy rfl rfl rfl rfl QT<|RT.done<|aF.n<|ae.n<|ah<|lE h fun MU Zi h=>ad _ rfl rfl Zi<|mv rfl<|RT.done ?_
 obtain rfl:=O h
 exact ae.n ⟨(MU,Yz,YA),Zb _ rfl,wR []⟩
 subst Za
 obtain⟨Aj,vA⟩:=Er
 try dsimp only
 refine ae.n<|ah<|mo (s:=.row _) rfl<|mv rfl<|mv rfl<|lE nq fun x97 Zj nq=>ad _ rfl rfl Zj<|mo (s:=.dV _ _) rfl<|mo (s:=.row _) rfl<|mv rfl<|mv rfl<|lE nq fun Qn Zk nq=>ad _ rfl rfl Zk<|bE nq fun Qo Nm nq=>iR rfl rfl rfl Nm<|bE nq fun yC Gp nq=>lR rfl rfl Gp rfl<|lE nq fun F8 Nn nq=>cv _ rfl (UK.nat Nn) ?_
 obtain⟨⟨MV,k72⟩,Zl,nq⟩:=bS nq
 exact cB (aP Zl) 68 rfl ⟨rfl,trivial⟩<|bE nq fun Eh No nq=>iR rfl rfl rfl No<|bE nq fun YC QU nq=>sR MV rfl rfl rfl rfl QU<|dn<|⟨(IV,YC),nq,wR []⟩
 obtain⟨F7,B3⟩:=Pd
 try dsimp only
 refine ae.n<|ah<|mo (s:=.row _) rfl<|mv rfl<|mv rfl<|lE h fun Eg Np h=>cv _ rfl (UK.nat Np)<|bE h fun Ql Zm h=>iR rfl rfl rfl Zm<|bE h fun Yw QV h=>sR Eg rfl rfl rfl rfl QV<|RT.done<|aF.n<|ae.n<|ah<|mv rfl<|lE h fun uA h46 h=>sb _ rfl rfl h46<|ag rfl<|RT.done ?_
 obtain rfl:=O h
 exact ae.n ⟨(uA,Yw,B3),Y0 _ rfl,wR []⟩
 subst YZ
 obtain⟨vB,rQ⟩:=Ep
 try dsimp only
 refine ae.n<|sr<|mv rfl<|bE Nl fun Qp Zn Nl=>RT.sK (n:=1) (e:=aj) .none rfl rfl T rfl T (by rfl) (by decide) (by exact⟨SV.aa _,trivial⟩) Zn<|an (s:=.row _) rfl<|dn<|qq<|sr<|mv rfl<|mv rfl<|dn<|bE Nl fun e81 Zo Zp=>?_
 refine bg (fun(lT:(List Nat))=>AS.cm 141 [(4,.row 38),(5,.row 114)] [] [(38,TR 80 1 aj vB),(114,TR 80 1 aj lT)]) (fun lT=>lT=e81) ?_ (fun lT Zq=>?_)
 refine ax ?_
 refine bh Zo (fun Pf=>AS.cm 141 [(4,.row 38),(5,.row 114),(7,.sv (.v (.int .u64 ((eo:Nat):Int)))),(8,.row 27),(115,.sv (.v (.int .i64 gi))),(116,.sv (.v (.int .i64 Pf.1)))] [] [(38,TR 80 1 aj vB),(114,TR 80 1 aj Pf.2),(27,TR 80 1 aj rQ)]) (wR []) (fun Pf y81 G81 h Zs Zt=>?_)
 obtain⟨n6,qB⟩:=Pf
 try dsimp only
 refine sr<|lE h fun MW Zu h=>ls _ rfl rfl Zu<|dn<|qq ?_
 cases MW
 refine cF<|bq<|ae.x<|ae.x<|aF.x<|ae.n ?_
 obtain rfl:=O (F h)
 exact⟨qB,Zt _ rfl,wR []⟩
 refine cT<|aG<|ae.n<|qq<|ax<|sr<|mv rfl<|ag rfl<|dn<|ak mixed<|mo (s:=.row _) rfl<|mv rfl<|mo (s:=.row _) rfl<|mv rfl<|bE (V h) fun Qq Zv h=>iR rfl rfl rfl Zv<|bE h fun Qs Zw h=>lR rfl rfl Zw rfl<|lE h fun MX Zx h=>cv _ rfl (UK.nat Zx)<|mo (s:=.row _) rfl<|mv rfl<|lE h fun Qt h128 h=>ad _ rfl rfl h128<|bE h fun Qu Zy h=>?_
 refine iR rfl rfl rfl Zy<|bE h fun Qv Zz h=>lR rfl rfl Zz rfl<|lE h fun MY ZA h=>cv _ rfl (UK.nat ZA)<|lE h fun MZ ZB h=>RT.shl .none _ rfl rfl T (by decide) (UK.shl (a:=MY) (q:=32) (s:=32) rfl ZB)<|lE h fun M1 ZC h=>RT.or .none _ rfl rfl T (UK.or (a:=MX) (b:=MZ) ZC)<|mv rfl<|lE h fun Qw ZD h=>RT.shr .none _ rfl rfl T (Int.natCast_nonneg _) (vp (k:=.u64) (a:=M1) (q:=((eo:Nat):Int)) (s:=min eo 64) rfl ZD)<|lE h fun M3 ZE h=>cv _ rfl (UK.nat ZE) ?_
 refine bE h fun Qx ZF h=>iR rfl rfl rfl ZF<|bE h fun YE QW h=>sR M3 rfl rfl rfl rfl QW ?_
 refine RT.done ⟨by kernel_rfl,?_⟩
 refine aF.n<|ae.n<|ah<|lE h fun M4 ZG h=>ad _ rfl rfl ZG<|mv rfl<|RT.done ?_
 obtain rfl:=O h
 exact ae.n ⟨(M4,YE),Zs _ rfl,wR []⟩
 subst Zq
 try dsimp only
 refine ae.n<|sr<|mo (s:=.row _) rfl<|mo (s:=.row _) rfl<|an (s:=.row _) rfl<|an (s:=.row _) rfl<|dn<|bH (dH (i:=38) (E1:=80) (n:=1) (e:=aj) (l:=vB) rfl)<|bH (dH (i:=114) (E1:=80) (n:=1) (e:=aj) (l:=lT) rfl)<|aq ?_
 obtain rfl:=O Zp
 exact R2 rfl rfl
theorem ko{x0:List Nat}{x1:List Nat}{r:(List Nat)×(List Nat)}(h:dJ x0 x1=some r):Pure Try.prog 68 [slc 1 (List.map aj x0),slc 1 (List.map aj x1)] (.wL [slc 1 (List.map aj r.1),slc 1 (List.map aj r.2)]):=by
 refine aA Try.func68 rfl (Nat.le_of_ble_eq_true rfl) (fun eV M vs hvs=>?_)
 unfold dJ at h
 refine sr<|ag rfl<|aI rfl (imp_nil (n:=1) (e:=aj))<|dn<|bH (fI 4 304 80 1 rfl rfl T)<|qq<|ax<|sr<|mv rfl<|mv rfl<|bE h fun fF iY h=>cl (cQ iY) ⟨rfl,rfl,trivial⟩<|lE h fun fW jw h=>ls _ rfl rfl jw<|ag rfl<|dn ?_
 cases fW
 refine cF<|sr<|mv rfl<|lE (F h) fun eT jx h=>ln rfl jx<|lE h fun mB pz h=>RT.leq .none _ rfl rfl T pz<|ag rfl<|dn ?_
 cases mB
 refine cF<|sr<|mv rfl<|lE (F h) fun tQ vK h=>ln rfl vK<|lE h fun sM yH h=>eq _ rfl rfl (o6 (p:=tQ) (q:=1) yH)<|ag rfl<|dn ?_
 cases sM
 refine cF<|aG<|aF.n<|ae.n<|sr<|mv rfl<|mv rfl ?_
 obtain⟨⟨Qy,Qz⟩,Em,h⟩:=bS (F h)
 refine cl (rW Em) ⟨rfl,rfl,trivial⟩<|ex rfl rfl<|ex rfl rfl<|ag rfl<|ag rfl<|dn<|aq ?_
 obtain rfl:=O h
 exact R2 rfl rfl
 refine cT<|sr<|mv rfl<|bE (V h) fun mE Ce h=>cN (rS Ce) ⟨rfl,trivial⟩<|an (s:=.row _) rfl<|dn<|sr<|mo (s:=.row _) rfl<|mv rfl<|bE h fun rC Ar h=>ix rfl rfl Ar<|lr rfl rfl<|lE h fun Ee Gn h=>cv _ rfl (UK.nat Gn) ?_
 obtain⟨⟨BW,l5⟩,Gj,h⟩:=bS h
 refine bE h fun _ he5 h=>cR (l:=mE) (l':=l5) (e:=aj) (qF Gj) (iG he5) 39 rfl (.cons rfl (.cons rfl (.nil)))<|ag rfl<|dn<|sr<|mo (s:=.row _) rfl<|mv rfl<|lE h fun zJ h48 h=>cv _ rfl (UK.nat h48)<|bl (l:=[zJ]) (e:=aj) (.one rfl (.nil)) rfl rfl rfl rfl rfl rfl<|an (s:=.row _) rfl<|ag rfl<|dn<|bH (dH (i:=39) (E1:=80) (n:=1) (e:=aj) (l:=l5) rfl)<|aq ?_
 refine aF.r<|ae.r ?_
 obtain rfl:=O h
 exact R2 rfl rfl
 refine cT<|sr<|mv rfl<|bE (V h) fun iz pB h=>cl (eW pB) ⟨rfl,trivial⟩<|mv rfl<|bE h fun iy mM h=>cl (eW mM) ⟨rfl,trivial⟩<|ag rfl<|ag rfl<|dn<|qq<|ak mixed<|mv rfl<|mv rfl<|bE h fun iH mN h=>RT.quo .none _ rfl rfl T (X3 mN) (UK.quo mN) ?_
 obtain⟨⟨iB,iC⟩,n8,h⟩:=bS h
 refine cl (fK n8) ⟨rfl,rfl,trivial⟩<|fl rfl rfl<|mv rfl<|mv rfl<|bE h fun mD wJ h=>RT.rem .none _ rfl rfl T (VO wJ) (IF wJ) ?_
 obtain⟨⟨jL,iW⟩,lD,h⟩:=bS h
 refine cl (fK lD) ⟨rfl,rfl,trivial⟩<|fl rfl rfl<|ag rfl<|ag rfl ?_
 refine RT.done ⟨by kernel_rfl,?_⟩
 refine ae.n<|aq<|aF.r<|ae.r ?_
 obtain rfl:=O h
 exact R2 rfl rfl
 refine cT<|sr<|mv rfl<|bE (V h) fun kD pA h=>cl (jk pA) ⟨rfl,trivial⟩<|ag rfl<|ag rfl<|dn<|bH (fI 4 310 80 1 rfl rfl T)<|bH (dH (i:=310) (E1:=80) (n:=1) (e:=aj) (l:=[]) rfl)<|aq<|aF.r<|ae.r ?_
 obtain rfl:=O h
 exact R2 rfl rfl
end Go.Proofs.Ytmiflmkdaeianaa
