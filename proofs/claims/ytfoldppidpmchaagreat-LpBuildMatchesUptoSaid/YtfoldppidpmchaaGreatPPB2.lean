/- A part of the proof: the framework, the plain functions, the followed functions, the plain laws. -/
import Derived.Test.YtfoldppidpmchaaGreatPPB1
set_option linter.unusedVariables false
set_option linter.unusedSimpArgs false
namespace Go.Fw
open Go.RowKit
theorem bB.of_eq{l l':List SV}(h:l=l'):bB l l':=by subst h;exact bB.refl _
theorem Sf{a:Nat}:IntKind.u64.wrap (a:Int)=((a%18446744073709551616:Nat):Int):=by
 simp[IntKind.wrap,IntKind.signed,IntKind.bits]
section steps
variable {P:Program}{C:Ctx}{ops:Array Oper}{S:AS}{nd:Bool}{K:List Ac→AS→Prop}{rest:List Oper}{acc:List Ac}
variable {gd:Option (Nat×Bool)}{rg:List Nat}{d:Nat}{ty:TypeId}{pos:String}{aft:Array Edge}{x y z:Operand}{T U E0 E1:TypeId}
theorem RT.T6{R:AS→Prop}(hg:Gd ops S gd rg){n:Nat}[tS:eR P T E0 n]{s:SV}{rows:List (List SV)}[hs:VW s n rows]{n' c':Nat}(hx:S.ev x=.sv s)(hd:d<S.n)
  (next:∀b:Bool,(b=true→rows=[])→RunT P C ops true (fun _ S=>R S) rest [] (S.set d (.sv (.v (.bool b))))):RunT P C ops true (fun _ S=>R S) (⟨some d,.binOp .eql T x (.const (.slice none n' c')) U,ty,pos,aft,gd⟩::rest) acc S:=by
 refine .inr ⟨rfl,fun S'=>∃b:Bool,(b=true→rows=[])∧S'=S.set d (.sv (.v (.bool b))),?_,?_⟩
 ·rintro i a w L Q ho ⟨E,h⟩ hL
  refine cA (C:=C) ho (hg.wanted h (fun _ _=>rfl) rfl) ?_
  have h1:=h.ev x
  rw[hx]at h1
  obtain⟨ad,n0,c0,hv,ade⟩:∃ad n0 c0,a.eval x=.slice ad n0 c0∧(ad.isNone=true→rows=[]):=by
   rcases hs.h _ _ h1 with⟨_,e,e2⟩|⟨b,o,c,e,_⟩
   ·exact⟨_,_,_,e,fun _=>e2⟩
   ·exact⟨_,_,_,e,fun h=>by cases h⟩
  have hrun:(execOp a.eval ⟨some d,.binOp .eql T x (.const (.slice none n' c')) U,ty,pos,aft,gd⟩).run P w=.ok (.value (.bool ad.isNone)) w:=by
   have e1:=Lib.run_eql_slice_nil (P:=P) w T E0 ad n0 c0 n' c' tS.u
   have e2:(eqGuard .eql T x (.const (.slice none n' c')) (.slice ad n0 c0) (.slice none n' c')).run P w=.ok () w:=by simp[eqGuard]
   have e0:a.eval (.const (.slice none n' c'))=.slice none n' c':=rfl
   simp only[execOp,hv,e0]
   simp only[Sem.run_bind,e2,e1,Result.andThen_ok,Sem.run_pure]
  exact cC (C:=C) (by intro c h;cases h) hrun (hL _ _ _ ⟨_,ade,rfl⟩ ⟨E,h.put (x:=.sv (.v (.bool ad.isNone))) rfl hd gB⟩)
 ·rintro S' ⟨b,hb,rfl⟩
  exact next b hb
theorem RT.field(hg:Gd ops S gd rg){f off:Nat}[hf:gU P T f off U][tV:bY P U]{cs:List SV}{s:SV}(hx:S.ev x=.sv (.agg cs))(hs:cs[off]? =some s)(hd:d<S.n)
  (next:RunT P C ops nd K rest (⟨rg++ax x,[],[],⟨some (d,.sv s),[],[]⟩⟩::acc) (S.set d (.sv s))):RunT P C ops nd K (⟨some d,.field T x f,ty,pos,aft,gd⟩::rest) acc S:=
 RT.value hg (ax x) [] [] (.sv s) hd (by intro c h;cases h) (fun S' ht _ _ E a w h=>by
  have h1:=h.ev x
  rw[aN (fun _ h=>h) ht,hx]at h1
  obtain⟨vs,hv,hall⟩:=h1
  obtain⟨u,hu,hs⟩:=hall.get hs
  refine⟨u,?_,hs,gB⟩
  have hF:=hf.h
  cases hT:P.underlying T with
  |none=>rw[hT]at hF;cases hF
  |some ut=>
   rw[hT]at hF
   cases ut with
   |struct fs=>
    simp only at hF
    cases hFf:fs[f]? with
    |none=>rw[hFf]at hF;cases hF
    |some F=>
     rw[hFf]at hF
     simp only[Option.map_some,Option.some.injEq,Prod.mk.injEq]at hF
     obtain⟨q1,q2⟩:=hF
     simp[execOp,Instr.field,underlying,hT,hFf,hv,asAgg,part,q1,q2,tV.isAgg,hu]
   |_=>cases hF) next
end steps
theorem cY{S:AS}(s k:Nat)(E0:TypeId)(sz:Nat)(hs:S.t s=.sv (.v (.slice none 0 0)))(hk:S.r k=.un)(Zu:k<1000):tQ S ((AS.bN [(k,.live ⟨E0,sz,0,[]⟩)] S).set s (.row k)):=by
 rintro C a w ⟨E,h⟩
 have h1:=h.newRow hk Zu [] none (.inl ⟨rfl,rfl⟩) (R':=⟨E0,sz,0,[]⟩) (World.ownsRow_nil w 0 E0 sz) (vs':=[]) trivial (.inl rfl) (r7 w none)
 refine⟨_,{h1 with wf:=?_,tm:=fun t=>?_}⟩
 ·refine⟨fun t j hj=>?_,fun t j hj=>?_,h1.wf.bb,h1.wf.br⟩
  ·by_cases e:t=s
   ·subst e;rw[AS.jt]at hj;exact hj.elim
   ·rw[AS.gR _ _ _ _ e]at hj;exact h1.wf.tb t j hj
  ·by_cases e:t=s
   ·subst e;rw[AS.jt]at hj;cases hj
    show(AS.rX S k _).r k≠_
    rw[AS.gS];simp
   ·rw[AS.gR _ _ _ _ e]at hj;exact h1.wf.tr t j hj
 ·by_cases e:t=s
  ·subst e
   rw[AS.jt]
   have:=h.tm t
   rw[hs]at this
   show a.tmps.getD t undef=if k=k then _ else _
   rw[if_pos rfl];exact this
  ·rw[AS.gR _ _ _ _ e];exact h1.tm t
theorem Fm{S:AS}(s:Nat)(X:SV)(hx:∀E v,(S.t s).holds E v→X.h E.M v):tQ S (S.set s (.sv X)):=by
 rintro C a w ⟨E,h⟩
 refine⟨E,{h with wf:=?_,tm:=fun t=>?_}⟩
 ·refine⟨fun t j hj=>?_,fun t j hj=>?_,h.wf.bb,h.wf.br⟩
  ·by_cases e:t=s
   ·subst e;rw[AS.jt]at hj;exact hj.elim
   ·rw[AS.gR _ _ _ _ e]at hj;exact h.wf.tb t j hj
  ·by_cases e:t=s
   ·subst e;rw[AS.jt]at hj;exact hj.elim
   ·rw[AS.gR _ _ _ _ e]at hj;exact h.wf.tr t j hj
 ·by_cases e:t=s
  ·subst e;rw[AS.jt];exact hx E _ (h.tm t)
  ·rw[AS.gR _ _ _ _ e];exact h.tm t
theorem Fo{g:FuncId}{caps:List SV}{E:Env}{v:Value}(h:(AV.fE g (caps.map rW.val)).holds E v):(rC g caps).h E.M v:=by
 obtain⟨vs,rfl,h⟩:=h
 refine⟨vs,rfl,?_⟩
 have key:∀(l:List SV) (vs:List Value),A7 E (l.map rW.val) vs→SV.dK E.M l vs:=by
  intro l
  induction l with
  |nil=>intro vs h;cases vs with|nil=>trivial|cons _ _=>exact h.elim
  |cons c l ih=>
   intro vs h
   cases vs with
   |nil=>exact h.elim
   |cons x xs=>exact⟨h.1,ih xs h.2⟩
 exact key caps vs h
def AV.rt(pb:List Nat):AV→Bool
 |.sv _=>true
 |.ptr i _=>pb.any (Nat.beq i)
 |.EY i _ _ _=>pb.any (Nat.beq i)
 |.fE _ js=>js.all fun c=>match c with|.box i=>pb.any (Nat.beq i)|.val _=>true
 |_=>false
theorem Zz{pb:List Nat}{x:AV}(h:x.rt pb=true):(∀j,x.mb j→j∈pb)∧∀j,¬x.mr j:=by
 cases x<;>first|cases h|skip
 ·exact⟨fun j e=>e.elim,fun j e=>e⟩
 ·exact⟨fun j e=>by cases e;exact yf.1 h,fun j e=>e⟩
 ·exact⟨fun j e=>by cases e;exact yf.1 h,fun j e=>e⟩
 ·refine⟨fun j e=>?_,fun j e=>e⟩
  exact yf.1 (List.all_eq_true.1 h _ e)
theorem wY{n:Nat}{ts:List (Nat×AV)}{bs:List (Nat×pZ)}{rs:List (Nat×Row)}{pb:List Nat}(h:(ts.all fun p=>p.2.rt pb)=true)(s:Nat):(∀j,((AS.bw n ts bs rs).t s).mb j→j∈pb)∧∀j,¬((AS.bw n ts bs rs).t s).mr j:=by
 show(∀j,(Lg ts s).mb j→j∈pb)∧∀j,¬(Lg ts s).mr j
 rcases Br (ts:=ts) (s:=s)with e|⟨p,hp,_,e⟩
 ·rw[e];exact⟨fun j e=>e.elim,fun j e=>e⟩
 ·rw[e];exact Zz (List.all_eq_true.1 h p hp)
theorem wZ{ps:List Nat}{n:Nat}(h:(ps.all fun p=>Nat.ble (p+1) n)=true):∀p∈ps,p<n:=fun p hp=>Nat.le_of_ble_eq_true (List.all_eq_true.1 h p hp)
end Go.Fw
namespace Go.Fw
open Go.RowKit
inductive Src (S:AS) (E0:TypeId) (n:Nat):Operand→List (Nat×ow)→List Nat→Nat→List SV→Prop
 |nil {x:Operand} (h:S.ev x=.sv (.v (.slice none 0 0))):Src S E0 n x [] [] 0 []
 |row {x:Operand} {i m:Nat} {cs:List SV} (h:S.ev x=.row i) (hR:S.r i=.live ⟨E0,n,m,cs⟩):Src S E0 n x [(i,.dead)] [i] m cs
theorem Oo{i:Nat}{X:SV}{x:AV}(h:¬x.mr i):x.oT i X=x:=by
 cases x with
 |row k=>simp only[AV.oT];rw[bf (fun e=>h e.symm)];rfl
 |ic k o=>simp only[AV.oT];rw[bf (fun e=>h e.symm)];rfl
 |nq k o l=>simp only[AV.oT];rw[bf (fun e=>h e.symm)];rfl
 |cmp t js=>
  simp only[AV.oT]
  have:js.any (Fc.As i)=false:=by
   cases e:js.any (Fc.As i)with
   |false=>rfl
   |true=>
    obtain⟨c,hc,hi⟩:=List.any_eq_true.1 e
    cases c with
    |row j=>have hi:Nat.beq j i=true:=hi;obtain rfl:=Nat.eq_of_beq_eq_true hi;exact absurd hc h
    |_=>cases hi
  rw[this];rfl
 |_=>rfl
section steps
variable {P:Program}{C:Ctx}{ops:Array Oper}{S:AS}{nd:Bool}{K:List Ac→AS→Prop}{rest:List Oper}{acc:List Ac}
variable {gd:Option (Nat×Bool)}{rg:List Nat}{d:Nat}{ty:TypeId}{pos:String}{aft:Array Edge}{x y z:Operand}{T U E0:TypeId}
theorem Src.val{E:Env}{a:Act}{w:World}{S':AS}{n m:Nat}{old:List (Nat×ow)}{rr:List Nat}{cs:List SV}(h:aB C S' E a w)(hx:Src S E0 n x old rr m cs)(ht:∀s∈ax x,S'.t s=S.t s)(hr:∀i∈rr,S'.r i=S.r i):
  (∃vs,w.ownsRow 0 E0 n (a.eval x) m vs∧SV.dK E.M cs vs)∧((old=[]∧(a.eval x).ownBlock=none)∨∃i R,old=[(i,.dead)]∧S'.r i=.live R∧(a.eval x).ownBlock=(E.ν i).ownBlock):=by
 cases hx with
 |nil hx=>
  have h1:a.eval x=.slice none 0 0:=by have h1:=h.ev x;rw[aN (fun _ h=>h) ht,hx]at h1;exact h1
  rw[h1]
  exact⟨⟨[],World.ownsRow_nil _ _ _ _,trivial⟩,.inl ⟨rfl,rfl⟩⟩
 | @row i _ _ hx hR=>
  have h1:a.eval x=E.ν i:=by have h1:=h.ev x;rw[aN (fun _ h=>h) ht,hx]at h1;exact h1
  have xZ:=(hr i (by simp)).trans hR
  rw[h1]
  obtain⟨⟨vs,h2,h3⟩,_⟩:=h.rx i _ xZ
  exact⟨⟨vs,h2,h3⟩,.inr ⟨i,_,rfl,xZ,rfl⟩⟩
theorem RT.Sg(hg:Gd ops S gd rg){n by_:Nat}{zv:Value}[tS:eR P T E0 n][tE:aP P E0 n by_ zv]{old:List (Nat×ow)}{rr:List Nat}{m:Nat}{cs:List SV}{s:SV}{rows:List (List SV)}[hs:VW s n rows]
  (hx:Src S E0 n x old rr m cs) (hy:S.ev y=.sv s) (hd:d<S.n) (A9:S.r d=.un) (zy:d<1000) (hroom:(m+rows.length)*by_≤140737488355328) (tW:m+rows.length≤140737488355328)
  (X:SV) {rows':List (List SV)} (hX:∀M v,(slc n rows').h M v→(∀g,v.ownBlock=some g→(C.w0.heap.size≤g∨C.zx g)∧∃o,M g o=some (.agg #[]))→X.h M v) (rz:Rows n rows' (cs++rows.flatten)) (hlen:rows'.length=m+rows.length) (hone:∀M vs,SV.dK M (cs++rows.flatten) vs→∀v∈vs,v.oneCell'=true)
  (next:RunT P C ops nd K rest (⟨rg++(ax x++ax y),[],d::rr,⟨some (d,.sv X),[],old++[(d,.dead)]⟩⟩::acc) ((AS.bN (old++[(d,.dead)]) S).set d (.sv X))):RunT P C ops nd K (⟨some d,.call ⟨.builtin .append,#[x,y],#[T,T]⟩,ty,pos,aft,gd⟩::rest) acc S:=by
 refine .inl ⟨_,[],d::rr,_,?_,next⟩
 rintro S' hn ht _ hr i a w L Q ho ⟨E,h⟩ hL
 refine cA (C:=C) ho (hg.wanted h (fun s hs=>ht s (List.mem_append_left _ hs)) rfl) ?_
 obtain⟨⟨vs,hown,hvs⟩,hold⟩:=hx.val h (fun s hs=>ht s (List.mem_append_right _ (List.mem_append_left _ hs))) (fun i hi=>hr i (List.mem_cons_of_mem _ hi))
 have h2:=h.ev y
 rw[aN (fun _ h=>List.mem_append_right _ (List.mem_append_right _ h)) ht,hy]at h2
 obtain⟨info,hi,hsz,hby,hz⟩:=aP.info (P:=P) (E:=E0) (n:=n) (by_:=by_) (z:=zv)
 have MQ:S'.r d=.un:=by rw[hr d (by simp)];exact A9
 have run:∃v' w' vs',(Builtin.append_ #[T,T] ty #[a.eval x,a.eval y]).run P w=.ok v' w'∧w'.ownsRow 0 E0 n v' (m+rows.length) vs'∧SV.dK E.M (cs++rows.flatten) vs'∧w.grownBy w' (a.eval x).ownBlock∧(v'.ownBlock=(a.eval x).ownBlock∨v'.ownBlock=some w.heap.size∨v'.ownBlock=none):=by
  rcases hs.h _ _ h2 with⟨a0,e,e2⟩|⟨b,o,c,e,hc,Jz,hrow⟩
  ·rw[e,e2]
   cases a0 with
   |none=>exact⟨_,_,vs,run_append_owned_none w 0 T ty E0 info n tS.u hi _ m vs hown,by simpa using hown,by simpa using hvs,⟨rfl,rfl,rfl,Nat.le_refl _,fun _ _ _=>rfl⟩,.inl rfl⟩
   |some a0=>
    rw[e2,List.length_nil]at hroom tW
    obtain⟨v',w',q1,q2,q3,_,q4⟩:=run_append_own_at (P:=P) w 0 T ty E0 info zv n by_ tS.u hi hz hsz hby tE.z tE.p _ m vs hown a0 0 0 [] (by simp) (by simp) (by simp) (by unfold maxLen;omega) hroom (Nat.zero_le _)
    exact⟨v',w',vs,q1,by simpa using q2,by simpa using hvs,q3,q4.imp id .inl⟩
  ·obtain⟨us,g1,g2,g3,g4⟩:=BQ rows o hrow
   rw[e]
   obtain⟨v',w',q1,q2,q3,_,q4⟩:=run_append_own_at (P:=P) w 0 T ty E0 info zv n by_ tS.u hi hz hsz hby tE.z tE.p _ m vs hown ⟨b,o,none⟩ rows.length c us g2 (fun j u hj=>by rw[fU];exact(h.dm _ _ _ (g4 j u hj)).cell (g3 u (List.mem_of_getElem? hj))) g3 (by unfold maxLen;omega) hroom (Nat.zero_le _)
   exact⟨v',w',vs++us,q1,q2,SV.dK.append hvs g1,q3,q4.imp id .inl⟩
 obtain⟨v',w',vs',q1,q2,q3,q4,q5⟩:=run
 have hr':(execOp a.eval ⟨some d,.call ⟨.builtin .append,#[x,y],#[T,T]⟩,ty,pos,aft,gd⟩).run P w=.ok (.value v') w':=by
  simp[execOp,resolve,invoke,builtin,q1]
 have Lm:∀(l:List (Nat×ow)) (R:ow) (j:Nat),ek (l++[(d,R)]) j=if j=d then some R else ek l j:=by
  intro l R j
  induction l with
  |nil=>rfl
  |cons p l ih=>
   obtain⟨i,R'⟩:=p
   rw[List.cons_append,ek,ek,ih]
   by_cases e:j=d
   ·simp[e]
   ·simp[e]
 have h3:=(h.newRow MQ zy old (a.eval x).ownBlock hold (R':=⟨E0,n,m+rows.length,cs++rows.flatten⟩) q2 q3 q5 q4).put (d:=d) (x:=.row d) (v:=v') (by simp[AV.holds]) (by rw[(jg _ _).1];omega) ⟨fun _ e=>e.elim,fun j e=>by
  cases e
  rw[oE,Lm];simp⟩
 have hRd:(AS.set (AS.bN (old++[(d,ow.live ⟨E0,n,m+rows.length,cs++rows.flatten⟩)]) S') d (.row d)).r d=.live ⟨E0,n,m+rows.length,cs++rows.flatten⟩:=by
  show(AS.bN _ S').r d=_
  rw[oE,Lm];simp
 obtain⟨E',h4⟩:=h3.oT hRd rz hlen (Nat.le_trans tW (by decide)) hone hX
 have e:(AS.set (AS.bN (old++[(d,ow.live ⟨E0,n,m+rows.length,cs++rows.flatten⟩)]) S') d (.row d)).oT d X=S'.app ⟨some (d,.sv X),[],old++[(d,.dead)]⟩:=by
  have n1:=jg (old++[(d,ow.live ⟨E0,n,m+rows.length,cs++rows.flatten⟩)]) S'
  have n2:=jg (old++[(d,ow.dead)]) S'
  refine AS.ext' ?_ (fun t=>?_) (fun j=>?_) (fun j=>?_) ?_ ?_
  ·show(AS.bN _ S').n=(AS.bN _ S').n
   rw[n1.1,n2.1]
  ·rw[AS.GY]
   show((AS.set (AS.bN _ S') d (.row d)).t t).oT d X=_
   by_cases e:t=d
   ·subst e;rw[AS.jt];simp[AV.oT,wT]
   ·rw[AS.gR _ _ _ _ e,n1.2.1,Oo (fun hm=>h.wf.tr t d hm MQ)];simp[wT,e]
  ·rw[AS.GZ]
   show((AS.bN _ S').b j).map _=_
   rw[n1.2.2.1]
   simp only[rf,Option.getD_none]
   cases hb:S'.b j with
   |none=>rfl
   |some B=>
    rw[Option.map_some]
    have:B.cells.map (AV.oT d X)=B.cells:=by
     conv=>rhs;rw[←List.map_id B.cells]
     exact List.map_congr_left fun c hc=>Oo (fun hm=>h.wf.br j B hb c hc d hm MQ)
    rw[this]
  ·rw[AS.G0]
   show(bif Nat.beq j d then ow.dead else(AS.bN _ S').r j)=_
   rw[oE,Lm,Lm]
   by_cases e:j=d
   ·subst e;simp
   ·simp[bf e,e]
  ·rw[(AS.El _ _).1];exact n1.2.2.2.1
  ·rw[(AS.El _ _).2];exact n1.2.2.2.2
 exact cC (C:=C) (by intro c h;cases h) hr' (hL _ _ ⟨E',e▸h4⟩)
end steps
end Go.Fw
namespace Go.Fw
open Go.RowKit
def bD{J R:Type}(k:J→Option R)(f:(J→Option R)→Option R):Option R:=f k
theorem bind_some{α β:Type}{x:Option α}{f:α→Option β}{r:β}(h:Option.bind x f=some r):∃a,x=some a∧f a=some r:=by
 cases x with
 |none=>cases h
 |some a=>exact⟨a,rfl,h⟩
theorem sk{b w:Bool}(h:(b==w)=false):b≠w:=by cases b<;>cases w<;>simp_all
def bR{α:Type}(l:List α)(i:Int):Option α:=if 0≤i then l[i.toNat]? else none
def wC{α:Type}(l:List α)(i:Int):Option Nat:=if 0≤i∧i<l.length then some i.toNat else none
def vX{α:Type}(l:List α)(lo hi:Int):Option (List α):=if 0≤lo∧lo≤hi∧hi≤l.length then some (cut l lo.toNat hi.toNat)else none
def mH{α:Type}(by_:Nat)(l k:List α):Option (List α):=if(l.length+k.length)*by_≤140737488355328∧l.length+k.length≤140737488355328 then some (l++k)else none
def Ep{α:Type}(by_:Nat)(c:Int)(z:α):Option (List α):=if 0≤c∧by_*c≤281474976710656∧c≤140737488355328 then some (List.replicate c.toNat z)else none
def Sh{α:Type}(by_:Nat)(c:Int):Option (List α):=if 0≤c∧by_*c≤281474976710656∧c≤140737488355328 then some []else none
def stM{α:Type}(l:List α)(n:Nat)(y:α):Option (List α):=if n<l.length then some (l.set n y)else none
def tG(a b:Int):Option Int:=if b=0 then none else some (IntKind.i64.wrap (a.tdiv b))
def DQ(a b:Int):Option Int:=if b=0 then none else some (a.tmod b)
def Fp(M a b:Nat):Option Nat:=if b=0 then none else some (a/b%M)
def DR(a b:Nat):Option Nat:=if b=0 then none else some (a%b)
def o5(M a b:Nat):Nat:=(((a:Int)-b)%M).toNat
theorem zK{α:Type}{l:List α}{i:Int}{a:α}(h:bR l i=some a):0≤i∧l[i.toNat]? =some a:=by
 unfold bR at h;split at h
 ·exact⟨by assumption,h⟩
 ·cases h
theorem Oq{α:Type}{l:List α}{i:Int}{k:Nat}(h:wC l i=some k):0≤i∧i<l.length∧i.toNat=k:=by
 unfold wC at h;split at h
 ·rename_i hh;exact⟨hh.1,hh.2,Option.some.inj h⟩
 ·cases h
theorem MV{α:Type}{l l':List α}{a b:Int}(h:vX l a b=some l'):0≤a∧a≤b∧b≤l.length∧cut l a.toNat b.toNat=l':=by
 unfold vX at h;split at h
 ·rename_i hh;exact⟨hh.1,hh.2.1,hh.2.2,Option.some.inj h⟩
 ·cases h
theorem yg{α:Type}{by_:Nat}{l k l':List α}(h:mH by_ l k=some l'):(l.length+k.length)*by_≤140737488355328∧l.length+k.length≤140737488355328∧l++k=l':=by
 unfold mH at h;split at h
 ·rename_i hh;exact⟨hh.1,hh.2,Option.some.inj h⟩
 ·cases h
theorem Ot{α:Type}{by_:Nat}{c:Int}{z:α}{l':List α}(h:Ep by_ c z=some l'):0≤c∧by_*c≤281474976710656∧c≤140737488355328∧List.replicate c.toNat z=l':=by
 unfold Ep at h;split at h
 ·rename_i hh;exact⟨hh.1,hh.2.1,hh.2.2,Option.some.inj h⟩
 ·cases h
theorem Ou{α:Type}{by_:Nat}{c:Int}{l':List α}(h:Sh by_ c=some l'):0≤c∧by_*c≤281474976710656∧c≤140737488355328∧[]=l':=by
 unfold Sh at h;split at h
 ·rename_i hh;exact⟨hh.1,hh.2.1,hh.2.2,Option.some.inj h⟩
 ·cases h
theorem Hs{α:Type}{l l':List α}{n:Nat}{y:α}(h:stM l n y=some l'):n<l.length∧l.set n y=l':=by
 unfold stM at h;split at h
 ·rename_i hh;exact⟨hh,Option.some.inj h⟩
 ·cases h
def oz{S E:Type}(body:S→Option (S⊕E)):Nat→S→Option E
 |0,_=>none
 |n+1,s=>match body s with
  |some (.inl s')=>oz body n s'
  |some (.inr e)=>some e
  |none=>none
theorem w5{S E:Type}{body:S→Option (S⊕E)}:∀{n m:Nat} {s:S} {e:E},n≤m→oz body n s=some e→oz body m s=some e
 |0,_,_,_,_,h=>by cases h
 |n+1,0,_,_,hm,_=>by omega
 |n+1,m+1,s,e,hm,h=>by
  unfold oz at h⊢
  cases hb:body s with
  |none=>rw[hb]at h;cases h
  |some y=>
   rw[hb]at h
   cases y with
   |inl s'=>exact w5 (by omega) h
   |inr e'=>exact h
open Classical in
noncomputable def bk{S E:Type}(body:S→Option (S⊕E))(s:S):Option E:=if h:∃n e,oz body n s=some e then some (Classical.choose (Classical.choose_spec h))else none
theorem w6{S E:Type}{body:S→Option (S⊕E)}{s:S}{e:E}(h:bk body s=some e):∃n,oz body n s=some e:=by
 unfold bk at h
 split at h
 ·rename_i hh
  exact⟨_,by rw[←Option.some.inj h];exact Classical.choose_spec (Classical.choose_spec hh)⟩
 ·cases h
theorem B8{S E:Type}{body:S→Option (S⊕E)}{s:S}{e:E}{n:Nat}(h:oz body n s=some e):bk body s=some e:=by
 have hh:∃n e,oz body n s=some e:=⟨n,e,h⟩
 unfold bk
 rw[dif_pos hh]
 have h2:=Classical.choose_spec (Classical.choose_spec hh)
 have h3:=w5 (Nat.le_max_left n (Classical.choose hh)) h
 have h4:=w5 (Nat.le_max_right n (Classical.choose hh)) h2
 rw[h3]at h4
 exact h4.symm
theorem w7{S E:Type}{body:S→Option (S⊕E)}{s:S}{e:E}(h:body s=some (.inr e)):bk body s=some e:=B8 (n:=1) (by simp[oz,h])
theorem B9{S E:Type}{body:S→Option (S⊕E)}{s s':S}(h:body s=some (.inl s')):bk body s=bk body s':=by
 cases hl:bk body s' with
 |some e=>obtain⟨n,hn⟩:=w6 hl;exact B8 (n:=n+1) (by simp[oz,h,hn])
 |none=>
  cases hl2:bk body s with
  |none=>rfl
  |some e=>
   obtain⟨n,hn⟩:=w6 hl2
   cases n with
   |zero=>cases hn
   |succ n=>simp only[oz,h]at hn;rw[B8 hn]at hl;cases hl
theorem zL{S E:Type}{body:S→Option (S⊕E)}(I:S→Prop)(Post:E→Prop)(μ:S→Nat)
  (step:∀s,I s→(∃s',body s=some (.inl s')∧I s'∧μ s'<μ s)∨(∃e,body s=some (.inr e)∧Post e)) {s:S} (h:I s):∃e,bk body s=some e∧Post e:=by
 have key:∀(n:Nat) (s:S),μ s≤n→I s→∃e,bk body s=some e∧Post e:=by
  intro n
  induction n with
  |zero=>
   intro s hn hs
   rcases step s hs with⟨s',_,_,h3⟩|⟨e,h1,h2⟩
   ·omega
   ·exact⟨e,w7 h1,h2⟩
  |succ n ih=>
   intro s hn hs
   rcases step s hs with⟨s',h1,h2,h3⟩|⟨e,h1,h2⟩
   ·obtain⟨e,q1,q2⟩:=ih s' (by omega) h2
    exact⟨e,by rw[B9 h1];exact q1,q2⟩
   ·exact⟨e,w7 h1,h2⟩
 exact key _ s (Nat.le_refl _) h
theorem Ov{S E:Type}{body:S→Option (S⊕E)}(st:Nat→S)(n:Nat){e:E}(hs:∀k,k<n→body (st k)=some (.inl (st (k+1))))(he:body (st n)=some (.inr e)):bk body (st 0)=some e:=by
 have key:∀k,k≤n→bk body (st (n-k))=some e:=by
  intro k
  induction k with
  |zero=>intro _;exact w7 he
  |succ k ih=>
   intro hk
   rw[B9 (hs (n-(k+1)) (by omega)),show n-(k+1)+1=n-k by omega]
   exact ih (by omega)
 have:=key n (Nat.le_refl _)
 rwa[Nat.sub_self]at this
theorem Bb{p q:Int}{c:Bool}(h:decide (p=q)=c):(p==q)=c:=by rw[←h];exact Bool.beq_eq_decide_eq p q
theorem DJ{p q:Int}{c:Bool}(h:decide (p≠q)=c):(p != q)=c:=by rw[←h,bne,Bool.beq_eq_decide_eq p q];simp
theorem YR{p q:Nat}{c:Bool}(h:decide (p=q)=c):((p:Int)==(q:Int))=c:=Bb (by rw[←h];simp[Int.natCast_inj])
theorem ZA{p q:Nat}{c:Bool}(h:decide (p≠q)=c):((p:Int) != (q:Int))=c:=DJ (by rw[←h];simp[Int.natCast_inj])
theorem ltN{p q:Nat}{c:Bool}(h:decide (p<q)=c):decide ((p:Int)<(q:Int))=c:=by rw[←h];simp
theorem leN{p q:Nat}{c:Bool}(h:decide (p≤q)=c):decide ((p:Int)≤(q:Int))=c:=by rw[←h];simp
theorem Ow{p q c:Int}(h:max p q=c):(if q>p then q else p)=c:=by rw[←h];split<;>omega
theorem MW{p q c:Int}(h:min p q=c):(if q<p then q else p)=c:=by rw[←h];split<;>omega
class UK (k:IntKind) (b:outParam Nat) (M:outParam Nat):Prop where
 w:∀x:Int,k.wrap x=x%M
 hb:k.bits=b
 hm:2^b=M
instance:UK .u8 8 256:=⟨fun x=>by simp[IntKind.wrap,IntKind.signed,IntKind.bits],rfl,by decide⟩
instance:UK .u16 16 65536:=⟨fun x=>by simp[IntKind.wrap,IntKind.signed,IntKind.bits],rfl,by decide⟩
instance:UK .u32 32 4294967296:=⟨fun x=>by simp[IntKind.wrap,IntKind.signed,IntKind.bits],rfl,by decide⟩
instance:UK .u64 64 18446744073709551616:=⟨fun x=>by simp[IntKind.wrap,IntKind.signed,IntKind.bits],rfl,by decide⟩
section uk
variable {k:IntKind}{bi M a b c:Nat}[u:UK k bi M]
include u
theorem UK.pos:0<M:=by rw[←u.hm];exact Nat.two_pow_pos _
theorem UK.nat(h:a%M=c):k.wrap (a:Int)=(c:Int):=by rw[u.w,←h,Int.natCast_emod]
theorem UK.add(h:(a+b)%M=c):k.wrap ((a:Int)+(b:Int))=(c:Int):=by rw[←Int.natCast_add];exact UK.nat h
theorem UK.mul(h:(a*b)%M=c):k.wrap ((a:Int)*(b:Int))=(c:Int):=by rw[←Int.natCast_mul];exact UK.nat h
theorem UK.sub(h:o5 M a b=c):k.wrap ((a:Int)-(b:Int))=(c:Int):=by
 rw[u.w,←h,o5,Int.toNat_of_nonneg];exact Int.emod_nonneg _ (by have:=UK.pos (k:=k) (bi:=bi) (M:=M);omega)
theorem UK.neg(h:o5 M 0 a=c):k.wrap (0-(a:Int))=(c:Int):=UK.sub h
theorem UK.conv{p:Int}(h:(p%M).toNat=c):k.wrap p=(c:Int):=by
 rw[u.w,←h,Int.toNat_of_nonneg];exact Int.emod_nonneg _ (by have:=UK.pos (k:=k) (bi:=bi) (M:=M);omega)
theorem UK.quo(h:Fp M a b=some c):k.wrap ((a:Int).tdiv (b:Int))=(c:Int):=by
 unfold Fp at h;split at h
 ·cases h
 ·rw[Int.tdiv_eq_ediv_of_nonneg (by omega),←Int.natCast_ediv];exact UK.nat (Option.some.inj h)
theorem UK.ZB(h:a/b%M=c):k.wrap ((a:Int).tdiv (b:Int))=(c:Int):=by
 rw[Int.tdiv_eq_ediv_of_nonneg (by omega),←Int.natCast_ediv];exact UK.nat h
theorem UK.shl{q:Int}{s:Nat}(hs:min q.toNat k.bits=s)(h:a*2^s%M=c):k.wrap ((a:Int)*2^(min q.toNat k.bits))=(c:Int):=by
 rw[hs,show(a:Int)*2^s=((a*2^s:Nat):Int) by rw[Int.natCast_mul,Int.natCast_pow];rfl];exact UK.nat h
theorem UK.ofInt(a:Nat):(BitVec.ofInt k.bits (a:Int)).toNat=a%M:=by
 rw[BitVec.ofInt_natCast,BitVec.toNat_ofNat,u.hb,u.hm]
theorem UK.and(h:(a &&& b)%M=c):k.wrap ((BitVec.ofInt k.bits (a:Int) &&& BitVec.ofInt k.bits (b:Int)).toNat)=(c:Int):=by
 rw[BitVec.toNat_and,UK.ofInt,UK.ofInt,←u.hm,←Nat.and_mod_two_pow,u.hm,h,UK.nat (a:=c) (c:=c)]
 rw[←h,Nat.mod_mod]
theorem UK.or(h:(a ||| b)%M=c):k.wrap ((BitVec.ofInt k.bits (a:Int) ||| BitVec.ofInt k.bits (b:Int)).toNat)=(c:Int):=by
 rw[BitVec.toNat_or,UK.ofInt,UK.ofInt,←u.hm,←Nat.or_mod_two_pow,u.hm,h,UK.nat (a:=c) (c:=c)]
 rw[←h,Nat.mod_mod]
theorem UK.xor(h:(a ^^^ b)%M=c):k.wrap ((BitVec.ofInt k.bits (a:Int) ^^^ BitVec.ofInt k.bits (b:Int)).toNat)=(c:Int):=by
 rw[BitVec.toNat_xor,UK.ofInt,UK.ofInt,←u.hm,←Nat.xor_mod_two_pow,u.hm,h,UK.nat (a:=c) (c:=c)]
 rw[←h,Nat.mod_mod]
end uk
theorem Fq{k:IntKind}{a c s:Nat}{q:Int}(hs:min q.toNat k.bits=s)(h:a/2^s=c):(a:Int).fdiv (2^(min q.toNat k.bits))=(c:Int):=by
 rw[hs,Int.fdiv_eq_ediv_of_nonneg _ (Int.le_of_lt (Int.pow_pos (by decide))),←h,Int.natCast_ediv,Int.natCast_pow];rfl
theorem Si{a b c:Nat}(h:DR a b=some c):(a:Int).tmod (b:Int)=(c:Int):=by
 unfold DR at h;split at h
 ·cases h
 ·rw[Int.tmod_eq_emod_of_nonneg (by omega),←Option.some.inj h];rfl
theorem T7{a b c:Nat}(h:a%b=c):(a:Int).tmod (b:Int)=(c:Int):=by
 rw[Int.tmod_eq_emod_of_nonneg (by omega),←h];rfl
theorem nzU{M a b c:Nat}(h:Fp M a b=some c):(b:Int)≠0:=by
 unfold Fp at h;split at h
 ·cases h
 ·omega
theorem nzR{a b c:Nat}(h:DR a b=some c):(b:Int)≠0:=by
 unfold DR at h;split at h
 ·cases h
 ·omega
theorem ZC{a b c:Int}(h:tG a b=some c):b≠0:=by unfold tG at h;split at h<;>simp_all
theorem Wd{a b c:Int}(h:DQ a b=some c):b≠0:=by unfold DQ at h;split at h<;>simp_all
theorem Ox{a b c:Int}(h:tG a b=some c):IntKind.i64.wrap (a.tdiv b)=c:=by
 unfold tG at h;split at h
 ·cases h
 ·exact Option.some.inj h
theorem We{a b c:Int}(h:DQ a b=some c):a.tmod b=c:=by
 unfold DQ at h;split at h
 ·cases h
 ·exact Option.some.inj h
abbrev ak(x:Nat):List SV:=[.v (.int .u32 (x:Nat))]
abbrev aV(x:Int):List SV:=[.v (.int .i64 x)]
abbrev eB(x:Bool):List SV:=[.v (.bool x)]
abbrev eS{α:Type}(n:Nat)(e:α→List SV)(l:List α):List SV:=[slc n (l.map e)]
structure Zr where
 neg:Bool
 w:List Nat
structure Qr where
 num:Zr
 den:Zr
abbrev eZ(z:Zr):List SV:=[.v (.bool z.neg),slc 1 (z.w.map ak)]
abbrev eQ(q:Qr):List SV:=[.v (.bool q.num.neg),slc 1 (q.num.w.map ak),.v (.bool q.den.neg),slc 1 (q.den.w.map ak)]
class EL {α:Type} (e:α→List SV) (n:outParam Nat):Prop where
 len:∀x,(e x).length=n
 one:∀x,wV (e x)
instance:EL ak 1:=⟨fun _=>rfl,fun _=>inferInstance⟩
instance:EL aV 1:=⟨fun _=>rfl,fun _=>inferInstance⟩
instance:EL eB 1:=⟨fun _=>rfl,fun _=>inferInstance⟩
instance{α:Type}{n:Nat}{e:α→List SV}:EL (eS n e) 1:=⟨fun _=>rfl,fun _=>inferInstance⟩
instance:EL eZ 2:=⟨fun _=>rfl,fun _=>inferInstance⟩
instance:EL eQ 4:=⟨fun _=>rfl,fun _=>inferInstance⟩
structure Sd where
 adi:List Qr
 gen:List Qr
 take:List Qr
structure En where
 acc:Int
 kd:Nat
 hour:Int
 aiV:Zr
structure A3 where
 a:Int
 b:Int
 c:Int
structure X4 where
 acc:Int
 kd:Nat
 hour:Int
 e:Int
structure Mv where
 acc:Int
 kd:Nat
 hour:Int
 adj:Qr
structure Lr where
 vars:Int
 tH:List (List Qr)
 rows:List (List Qr)
 bounds:List Qr
abbrev qO(x:Lr):List SV:=[.v (.int .i64 x.vars),slc 1 (x.tH.map (eS 4 eQ)),slc 1 (x.rows.map (eS 4 eQ)),slc 4 (x.bounds.map eQ)]
instance:EL qO 4:=⟨fun _=>rfl,fun _=>inferInstance⟩
structure Sz where
 vars:Int
 tH:Int
 rows:Int
 bounds:Int
abbrev eSz(x:Sz):List SV:=[.v (.int .i64 x.vars),.v (.int .i64 x.tH),.v (.int .i64 x.rows),.v (.int .i64 x.bounds)]
instance:EL eSz 4:=⟨fun _=>rfl,fun _=>inferInstance⟩
structure Cn where
 row:List Qr
 most:Qr
abbrev RH(x:Cn):List SV:=[slc 4 (x.row.map eQ),.v (.bool x.most.num.neg),slc 1 (x.most.num.w.map ak),.v (.bool x.most.den.neg),slc 1 (x.most.den.w.map ak)]
instance:EL RH 5:=⟨fun _=>rfl,fun _=>inferInstance⟩
abbrev TR(E:TypeId)(sz:Nat){α:Type}(e:α→List SV)(l:List α):Row:=⟨E,sz,l.length,l.flatMap e⟩
theorem imp_nil{α:Type}{n:Nat}{e:α→List SV}:SV.imp (.v (.slice none 0 0)) (slc n (([]:List α).map e)):=fun _ _ h=>.inl ⟨none,h,rfl⟩
theorem yh{α:Type}(e:α→List SV)(l:List α):(l.map e).flatten=l.flatMap e:=by rw[List.flatMap_def]
theorem Ht{α:Type}{e:α→List SV}{n:Nat}[h:EL e n](l:List α):Rows n (l.map e) (l.flatMap e):=⟨yh e l,fun r hr=>by obtain⟨x,_,rfl⟩:=List.mem_map.1 hr;exact h.len x⟩
theorem Er{M:Mem}:∀{l k:List SV} {vs:List Value},SV.dK M (l++k) vs→∃us ws,vs=us++ws∧SV.dK M l us∧SV.dK M k ws
 |[],_,vs,h=>⟨[],vs,rfl,trivial,h⟩
 |_::_,_,[],h=>h.elim
 |_::l,_,v::vs,h=>by
  obtain⟨us,ws,rfl,h1,h2⟩:=Er (l:=l) h.2
  exact⟨v::us,ws,rfl,⟨h.1,h1⟩,h2⟩
theorem Es{α:Type}{e:α→List SV}{n:Nat}[h:EL e n](l:List α):∀M vs,SV.dK M (l.flatMap e) vs→∀v∈vs,v.oneCell'=true:=by
 intro M
 induction l with
 |nil=>intro vs hv;cases vs with|nil=>simp|cons _ _=>exact hv.elim
 |cons x l ih=>
  intro vs hv
  rw[List.flatMap_cons]at hv
  obtain⟨us,ws,rfl,h1,h2⟩:=Er hv
  intro v hv
  rcases List.mem_append.1 hv with hv|hv
  ·exact(h.one x).h M us h1 v hv
  ·exact ih ws h2 v hv
theorem Ca{α:Type}{e:α→List SV}{n:Nat}[h:EL e n]:∀{l:List α} {k:Nat} {a:α},l[k]? =some a→((l.flatMap e).drop (k*n)).take n=e a
 |[],_,_,hh=>by simp at hh
 |x::l,0,a,hh=>by
  simp only[List.getElem?_cons_zero,Option.some.injEq]at hh
  subst hh
  rw[List.flatMap_cons,Nat.zero_mul,List.drop_zero,←h.len x,List.take_left']
  rfl
 |x::l,k+1,a,hh=>by
  rw[List.getElem?_cons_succ]at hh
  rw[List.flatMap_cons,show(k+1)*n=(e x).length+k*n by rw[h.len,Nat.add_mul];omega,←List.drop_drop,List.drop_left']
  ·exact Ca hh
  ·rfl
theorem Hu{α:Type}{e:α→List SV}{n:Nat}[h:EL e n]{y:α}:∀{l:List α} {k:Nat},k<l.length→mK (l.flatMap e) (k*n) (e y)=(l.set k y).flatMap e:=by
 have adl:∀(u:List SV) (a b:List SV) (j:Nat),j+u.length≤a.length→mK (a++b) j u=mK a j u++b:=by
  intro u
  induction u with
  |nil=>intro a b j _;rfl
  |cons s u ih=>
   intro a b j hj
   simp only[List.length_cons]at hj
   simp only[mK]
   rw[List.set_append_left _ _ (by omega),ih _ _ _ (by rw[List.length_set];omega)]
 have adm:∀(u:List SV) (a b:List SV) (j:Nat),mK (a++b) (a.length+j) u=a++mK b j u:=by
  intro u
  induction u with
  |nil=>intro a b j;rfl
  |cons s u ih=>
   intro a b j
   simp only[mK]
   rw[List.set_append_right _ _ (by omega),show a.length+j-a.length=j by omega,show a.length+j+1=a.length+(j+1) by omega,ih]
 have adn:∀(u a:List SV),u.length=a.length→mK a 0 u=u:=by
  have gen:∀(u a p:List SV),u.length=a.length→mK (p++a) p.length u=p++u:=by
   intro u
   induction u with
   |nil=>intro a p ha;have:a=[]:=List.eq_nil_of_length_eq_zero ha.symm;subst this;rfl
   |cons s u ih=>
    intro a p ha
    cases a with
    |nil=>cases ha
    |cons t a=>
     simp only[mK]
     rw[List.set_append_right _ _ (Nat.le_refl _),Nat.sub_self,List.set_cons_zero,show p++s::a=(p++[s])++a by simp,show p.length+1=(p++[s]).length by simp,ih a _ (by simpa using ha)]
     simp
  intro u a ha
  exact gen u a [] ha
 intro l
 induction l with
 |nil=>intro k hk;simp at hk
 |cons x l ih=>
  intro k hk
  cases k with
  |zero=>
   rw[List.set_cons_zero,List.flatMap_cons,List.flatMap_cons,Nat.zero_mul,adl _ _ _ _ (by rw[h.len,h.len];omega),adn _ _ (by rw[h.len,h.len])]
  |succ k=>
   simp only[List.length_cons]at hk
   rw[List.set_cons_succ,List.flatMap_cons,List.flatMap_cons,show(k+1)*n=(e x).length+k*n by rw[h.len,Nat.add_mul];omega,adm,ih (by omega)]
end Go.Fw
namespace Go.Fw
open Go.RowKit
section steps
variable {P:Program}{C:Ctx}{ops:Array Oper}{S:AS}{nd:Bool}{K:List Ac→AS→Prop}{rest:List Oper}{acc:List Ac}
variable {gd:Option (Nat×Bool)}{rg:List Nat}{d:Nat}{ty:TypeId}{pos:String}{aft:Array Edge}{x y z:Operand}{T U E0:TypeId}
variable {α:Type}{l l' k:List α}{e:α→List SV}{n by_:Nat}{zv:Value}
theorem RT.ado(hg:Gd ops S gd rg){s X:SV}(hx:S.ev x=.sv s)(hi:SV.imp s X)(hd:d<S.n)
  (next:RunT P C ops nd K rest (⟨rg++ax x,[],[],⟨some (d,.sv X),[],[]⟩⟩::acc) (S.set d (.sv X))):RunT P C ops nd K (⟨some d,.assign x,ty,pos,aft,gd⟩::rest) acc S:=
 RT.value hg (ax x) [] [] (.sv X) hd (by intro c h;cases h) (fun S' ht _ _ E a w h=>by
  have hx':S'.ev x=.sv s:=by rw[aN (fun _ h=>h) ht,hx]
  exact⟨a.eval x,rfl,by have:=h.ev x;rw[hx']at this;exact hi _ _ this,gB⟩) next
theorem MX{E:Env}:∀{l l':List SV} {vs:List Value},bB l l'→SV.dK E.M l vs→cQ E (l'.map AV.sv) vs:=fun hi h=>cQ.At (hi.holds h)
theorem Fs(M:Mem):∀l:List Value,SV.dK M (l.map SV.v) l
 |[]=>trivial
 |_::l=>⟨rfl,Fs M l⟩
theorem RT.r9(hg:Gd ops S gd rg)[tz:ay P T zv]{cs:List SV}(hi:bB (zv.cells.toList.map SV.v) cs){av:List AV}(hav:cs.map AV.sv=av)(hd:d<S.n)(hb:S.b d=none)(hp:C.kf d=none)
  (next:RunT P C ops nd K rest (⟨rg++[],[d],[],⟨some (d,.ptr d 0),[(d,⟨T,av⟩)],[]⟩⟩::acc) ((S.mJ d ⟨T,av⟩).set d (.ptr d 0))):RunT P C ops nd K (⟨some d,.alloc T,ty,pos,aft,gd⟩::rest) acc S:=by
 subst hav
 exact RT.Ld hg (by intro c h;cases h) [] hd hb hp (fun S' _ E a w h=>⟨zv.cells.toList,by simp[execOp,Instr.alloc,newVar,newRow,tz.run],MX hi (Fs _ _),fun y hy=>by
  obtain⟨s,_,rfl⟩:=List.mem_map.1 hy
  exact gB⟩) next
theorem RT.Wf(hg:Gd ops S gd rg){pl:List (Nat×Nat)}{zc:List Value}[tP:bU P T pl zc]{parts:Array (Nat×Operand)}{qs:List (Nat×List SV)}(hp:mQ S parts.toList qs){cs cs':List SV}(hf:tX (fun i=>pl[i]?) (zc.map SV.v) qs=some cs)(hi:bB cs cs')(hd:d<S.n)
  (next:RunT P C ops nd K rest (⟨rg++gW parts.toList,[],[],⟨some (d,.sv (.agg cs')),[],[]⟩⟩::acc) (S.set d (.sv (.agg cs')))):RunT P C ops nd K (⟨some d,.build T parts,ty,pos,aft,gd⟩::rest) acc S:=by
 refine RT.value hg (gW parts.toList) [] [] (.sv (.agg cs')) hd (by intro c h;cases h) (fun S' ht _ _ E a w h=>?_) next
 have hu:=tP.h
 cases hT:P.underlying T with
 |none=>rw[hT]at hu;cases hu
 |some u=>
  rw[hT]at hu
  cases u with
  |struct fs=>
   simp only at hu
   have hz:(zeroValue T).run P w=.ok (.agg ⟨zc⟩) w:=ay.run (t:=⟨tP.hz⟩) w
   obtain⟨us,h1,h2,_⟩:=yc h (fun i=>pl[i]?) hp ht (cells:=zc.map SV.v) (vs:=zc) (Fs _ zc) (List.all_eq_true.1 tP.o) hf
   refine⟨.agg ⟨us⟩,?_,⟨us,rfl,hi.holds h2⟩,gB⟩
   have hm:(fs.mapM (fun f=>do pure (f.offset,←sizeOf f.type):Field→Sem (Nat×Nat))).run P w=.ok pl.toArray w:=by
    have:=qk (P:=P) (w:=w) hu
    rw[←Array.toArray_toList (xs:=fs),List.mapM_toArray]
    rw[Sem.run_map,this];rfl
   have h1':Instr.fill (fun i=>pl.toArray[i]?) ⟨zc⟩ (parts.toList.map fun p=>(p.1,a.eval p.2))=some ⟨us⟩:=by simpa using h1
   simp only[execOp,Instr.build,underlying]
   simp only[Sem.run_bind,hz,Result.andThen_ok,run_program,hT,Sem.run_pure,Value.cells]
   have hm':(Array.mapM (fun f=>do
     let __do_lift←sizeOf f.type
     pure (f.offset,__do_lift)) fs:Sem _).run P w=.ok pl.toArray w:=hm
   simp only[hm',Result.andThen_ok]
   have e4:(Array.map (fun x=>match x with|(i,x)=>(i,a.eval x)) parts).toList=parts.toList.map fun p=>(p.1,a.eval p.2):=by simp
   simp only[e4,h1',Sem.run_pure,Result.andThen_ok]
  |_=>cases hu
theorem Pure.w{f:FuncId}{args args':List SV}{r:SV}(h:Pure P f args r)(hi:bB args' args):Pure P f args' r:=fun M w vs hM hv=>h M w vs hM (hi.holds hv)
theorem Pure.r{f:FuncId}{args:List SV}{r r':SV}(h:Pure P f args r)(hi:SV.imp r r'):Pure P f args r':=fun M w vs hM hv=>(h M w vs hM hv).mono fun _ _ ⟨v,M',h1,h2,h3,h4,h5,h6⟩=>⟨v,M',h1,h2,h3,h4,hi _ _ h5,h6⟩
theorem B0.w{f:FuncId}{args args':List SV}{R:Row}(h:B0 P f args R)(hi:bB args' args):B0 P f args' R:=fun M w vs hM hv=>h M w vs hM (hi.holds hv)
theorem RT.ZD(hg:Gd ops S gd rg){m:Nat}[tS:eR P T E0 m]{c:Int}(hx:S.ev x=.sv (slc n (l.map e)))(hd:d<S.n)(hc:(l.length:Int)=c)
  (next:RunT P C ops nd K rest (⟨rg++ax x,[],[],⟨some (d,.sv (.v (.int .i64 c))),[],[]⟩⟩::acc) (S.set d (.sv (.v (.int .i64 c))))):RunT P C ops nd K (⟨some d,.call ⟨.builtin .len,#[x],#[T]⟩,ty,pos,aft,gd⟩::rest) acc S:=
 RT.len hg hx hd (by rw[List.length_map,hc];exact next)
theorem RT.ZE(hg:Gd ops S gd rg){m:Nat}[tS:eR P T E0 m]{i:Nat}{E1:TypeId}{c:Int}(hx:S.ev x=.row i)(hR:S.r i=.live (TR E1 n e l))(hd:d<S.n)(hc:(l.length:Int)=c)
  (next:RunT P C ops nd K rest (⟨rg++ax x,[],[i],⟨some (d,.sv (.v (.int .i64 c))),[],[]⟩⟩::acc) (S.set d (.sv (.v (.int .i64 c))))):RunT P C ops nd K (⟨some d,.call ⟨.builtin .len,#[x],#[T]⟩,ty,pos,aft,gd⟩::rest) acc S:=
 RT.acK hg hx hR hd (by show RunT _ _ _ _ _ _ (⟨_,_,_,⟨some (d,.sv (.v (.int .i64 (l.length:Int)))),_,_⟩⟩::_) (S.set d (.sv (.v (.int .i64 (l.length:Int)))));rw[hc];exact next)
theorem RT.T8(hg:Gd ops S gd rg)[tS:eR P T E0 n]{kk:IntKind}{i:Int}{a:α}(hx:S.ev x=.sv (slc n (l.map e)))(hy:S.ev y=.sv (.v (.int kk i)))(hd:d<S.n)(ha:bR l i=some a)
  (next:RunT P C ops nd K rest (⟨rg++(ax x++ax y),[],[],⟨some (d,.sv (ref (e a))),[],[]⟩⟩::acc) (S.set d (.sv (ref (e a))))):RunT P C ops nd K (⟨some d,.indexAddr T x y,ty,pos,aft,gd⟩::rest) acc S:=
 RT.indexAddr hg (e a) hx hy hd (zK ha).1 (by rw[List.getElem?_map,(zK ha).2];rfl) next
theorem RT.ua(hg:Gd ops S gd rg)[tS:eR P T E0 n]{lo hi:Option Operand}(a b:Int)(hx:S.ev x=.sv (slc n (l.map e)))(hlo:Fg S 0 lo a)(hhi:Fg S l.length hi b)(hd:d<S.n)(h:vX l a b=some l')
  (next:RunT P C ops nd K rest (⟨rg++(ax x++(ql lo++ql hi)),[],[],⟨some (d,.sv (slc n (l'.map e))),[],[]⟩⟩::acc) (S.set d (.sv (slc n (l'.map e))))):RunT P C ops nd K (⟨some d,.slice T x lo hi none,ty,pos,aft,gd⟩::rest) acc S:=by
 obtain⟨h0,h1,h2,h3⟩:=MV h
 exact RT.slice hg hx a b hlo (by rw[List.length_map];exact hhi) hd h0 h1 (by rw[List.length_map];exact h2) _ (by rw[R5,h3]) next
theorem RT.gK(hg:Gd ops S gd rg)[tS:eR P T E0 n][tE:aP P E0 n by_ zv]{len:Nat}{parts:Array (Nat×Operand)}{qs:List (Nat×List SV)}(hp:mQ S parts.toList qs)(hd:d<S.n)
  (hc:r6 0 qs=true) (hl:qs.length=len) (hsz:(qs.all fun q=>Nat.beq q.2.length n)=true) (hlen:Nat.ble (len*n) 16777216=true) (Ob:(zv.cells.toList.all fun v=>v.oneCell')=true) (rz:qs.map (·.2)=l.map e)
  (next:RunT P C ops nd K rest (⟨rg++gW parts.toList,[],[],⟨some (d,.sv (slc n (l.map e))),[],[]⟩⟩::acc) (S.set d (.sv (slc n (l.map e))))):RunT P C ops nd K (⟨some d,.buildSlice T len parts,ty,pos,aft,gd⟩::rest) acc S:=
 RT.buildSlice hg hp hd hc hl hsz (Nat.le_of_ble_eq_true hlen) (List.all_eq_true.1 Ob) rz next
theorem RT.Bt(hg:Gd ops S gd rg)[tS:eR P T E0 n][tE:aP P E0 n by_ zv]{len:Nat}{parts:Array (Nat×Operand)}{qs:List (Nat×List SV)}(hp:mQ S parts.toList qs)(hd:d<S.n)(A9:S.r d=.un)(zy:d<1000)
  (hc:r6 0 qs=true) (hl:qs.length=len) (hsz:(qs.all fun q=>Nat.beq q.2.length n)=true) (hlen:Nat.ble (len*n) 16777216=true) (Ob:(zv.cells.toList.all fun v=>v.oneCell')=true) (rz:qs.map (·.2)=l.map e)
  (next:RunT P C ops nd K rest (⟨rg++gW parts.toList,[],[d],⟨some (d,.row d),[],[(d,.live (TR E0 n e l))]⟩⟩::acc) ((AS.bN [(d,.live (TR E0 n e l))] S).set d (.row d))):RunT P C ops nd K (⟨some d,.buildSlice T len parts,ty,pos,aft,gd⟩::rest) acc S:=by
 refine RT.Hp hg hp hd A9 zy hc hl hsz (Nat.le_of_ble_eq_true hlen) (List.all_eq_true.1 Ob) (cells:=l.flatMap e) (by rw[rz,yh]) ?_
 have:len=l.length:=by have h0:=congrArg List.length rz;simpa[hl]using h0
 rw[this];exact next
theorem RT.apR(hg:Gd ops S gd rg)[tS:eR P T E0 n][tE:aP P E0 n by_ zv]{i:Nat}(hx:S.ev x=.row i)(hR:S.r i=.live (TR E0 n e l))(hy:S.ev y=.sv (slc n (k.map e)))(hd:d<S.n)(A9:S.r d=.un)(zy:d<1000)(h:mH by_ l k=some l')
  (next:RunT P C ops nd K rest (⟨rg++(ax x++ax y),[],[i,d],⟨some (d,.row d),[],[(i,.dead),(d,.live (TR E0 n e l'))]⟩⟩::acc) ((AS.bN [(i,.dead),(d,.live (TR E0 n e l'))] S).set d (.row d))):RunT P C ops nd K (⟨some d,.call ⟨.builtin .append,#[x,y],#[T,T]⟩,ty,pos,aft,gd⟩::rest) acc S:=by
 obtain⟨h1,h2,rfl⟩:=yg h
 exact RT.RX hg hx hR hy hd A9 zy (by simpa using h1) (by simpa using h2) _ (by simp[yh]) next
theorem RT.Oy(hg:Gd ops S gd rg)[tS:eR P T E0 n][tE:aP P E0 n by_ zv][el:EL e n]{i:Nat}(hx:S.ev x=.row i)(hR:S.r i=.live (TR E0 n e l))(hy:S.ev y=.sv (slc n (k.map e)))(hd:d<S.n)(A9:S.r d=.un)(zy:d<1000)(h:mH by_ l k=some l')
  (next:RunT P C ops nd K rest (⟨rg++(ax x++ax y),[],[d,i],⟨some (d,.sv (slc n (l'.map e))),[],[(i,.dead),(d,.dead)]⟩⟩::acc) ((AS.bN [(i,.dead),(d,.dead)] S).set d (.sv (slc n (l'.map e))))):RunT P C ops nd K (⟨some d,.call ⟨.builtin .append,#[x,y],#[T,T]⟩,ty,pos,aft,gd⟩::rest) acc S:=by
 obtain⟨h1,h2,rfl⟩:=yg h
 have hf:l.flatMap e++(k.map e).flatten=(l++k).flatMap e:=by simp[yh]
 exact RT.Sg hg (.row hx hR) hy hd A9 zy (by simpa using h1) (by simpa using h2) _ (rows':=(l++k).map e) (fun _ _ h _=>h) (by rw[hf];exact Ht _) (by simp) (by rw[hf];exact Es _) next
theorem Et(zc:Array Value)(n:Nat)(hz:zc.size=n)(hn:0<n):∀m:Nat,(madeCells zc (m*n)).toList=(List.replicate m zc.toList).flatten
 |0=>by simp[madeCells]
 |m+1=>by
  have ih:=Et zc n hz hn m
  rw[List.replicate_succ',List.flatten_append,←ih]
  simp only[madeCells,Array.toList_map,Array.toList_range,List.flatten_cons,List.flatten_nil,List.append_nil]
  rw[show(m+1)*n=m*n+n by rw[Nat.add_mul];omega,List.range_add,List.map_append,List.map_map]
  congr 1
  apply List.ext_getElem?
  intro i
  rw[List.getElem?_map]
  rcases Nat.lt_or_ge i n with hi|hi
  ·rw[List.getElem?_range hi]
   simp only[Option.map_some,Function.comp]
   rw[hz,Nat.mul_comm m n,Nat.mul_add_mod,Nat.mod_eq_of_lt hi]
   rw[getElem!_pos zc i (by omega),Array.getElem?_toList,Array.getElem?_eq_getElem (by omega)]
  ·rw[List.getElem?_eq_none (by simpa using hi),List.getElem?_eq_none (by simp;omega)];rfl
theorem Hv:∀{a b c d:List SV},bB a c→bB b d→bB (a++b) (c++d)
 |[],_,[],_,_,h=>h
 |_::_,_,_::_,_,h,h'=>⟨h.1,Hv h.2 h'⟩
 |[],_,_::_,_,h,_=>h.elim
 |_::_,_,[],_,h,_=>h.elim
theorem Hw{zl:List Value}{zz:α}(hi:bB (zl.map SV.v) (e zz)):∀m:Nat,bB ((List.replicate m zl).flatten.map SV.v) ((List.replicate m zz).flatMap e)
 |0=>trivial
 |m+1=>by
  rw[List.replicate_succ,List.replicate_succ,List.flatten_cons,List.map_append,List.flatMap_cons]
  exact Hv hi (Hw hi m)
theorem RT.rD(hg:Gd ops S gd rg)[tS:eR P T E0 n][tE:aP P E0 n by_ zv]{kl kc:IntKind}{c:Int}{zz:α}(hx:S.ev x=.sv (.v (.int kl c)))(hy:S.ev y=.sv (.v (.int kc c)))(hd:d<S.n)(A9:S.r d=.un)(zy:d<1000)(hz:zv.cells.size=n)(hn:0<n)(hi:bB (zv.cells.toList.map SV.v) (e zz))(hm:Ep by_ c zz=some l')
  (next:RunT P C ops nd K rest (⟨rg++(ax x++ax y),[],[d],⟨some (d,.row d),[],[(d,.live (TR E0 n e l'))]⟩⟩::acc) ((AS.bN [(d,.live (TR E0 n e l'))] S).set d (.row d))):RunT P C ops nd K (⟨some d,.makeSlice T x y,ty,pos,aft,gd⟩::rest) acc S:=by
 obtain⟨h0,hroom,tW,rfl⟩:=Ot hm
 refine .inl ⟨_,[],[d],_,?_,next⟩
 rintro S' hn' ht _ hr i a w L Q ho ⟨E,h⟩ hL
 refine cA (C:=C) ho (hg.wanted h (fun s hs=>ht s (List.mem_append_left _ hs)) rfl) ?_
 have h1:a.eval x=.int kl c:=by have h1:=h.ev x;rw[aN (fun _ h=>List.mem_append_right _ (List.mem_append_left _ h)) ht,hx]at h1;exact h1
 have h2:a.eval y=.int kc c:=by have h2:=h.ev y;rw[aN (fun _ h=>List.mem_append_right _ (List.mem_append_right _ h)) ht,hy]at h2;exact h2
 obtain⟨info,hii,hsz,hby,hzz⟩:=aP.info (P:=P) (E:=E0) (n:=n) (by_:=by_) (z:=zv)
 obtain⟨m,rfl⟩:=Int.eq_ofNat_of_zero_le h0
 have hb':info.bytes*m≤281474976710656:=by
  rw[hby]
  have:((by_*m:Nat):Int)≤281474976710656:=by rw[Int.natCast_mul];exact hroom
  omega
 obtain⟨w',q1,q2,q3⟩:=run_make_full (P:=P) w 0 T E0 info zv n tS.u hii hzz hsz kl kc m hb' (by unfold maxLen;omega) (Nat.zero_le _)
 have hr':(execOp a.eval ⟨some d,.makeSlice T x y,ty,pos,aft,gd⟩).run P w=.ok (.value (.slice (some ⟨w.heap.size,0,none⟩) m m)) w':=by
  simp only[execOp,h1,h2]
  simp[q1]
 have MQ:S'.r d=.un:=by rw[hr d (by simp)];exact A9
 have e0:(m:Int).toNat=m:=by simp
 have hall:SV.dK E.M ((List.replicate m zz).flatMap e) (madeCells zv.cells (m*n)).toList:=by
  rw[Et zv.cells n hz hn]
  exact bB.holds (l:=((List.replicate m zv.cells.toList).flatten.map SV.v)) (Hw hi m) (Fs _ _)
 have hlen:(List.replicate (m:Int).toNat zz).length=m:=by simp
 refine cC (C:=C) (by intro c h;cases h) hr' (hL _ _ ⟨_,(h.newRow MQ zy [] none (.inl ⟨rfl,rfl⟩) (R':=TR E0 n e (List.replicate (m:Int).toNat zz)) (by show w'.ownsRow 0 E0 n _ (List.replicate (m:Int).toNat zz).length _;rw[hlen];exact q2) (by rw[e0];exact hall) (.inr (.inl rfl)) q3).put (d:=d) (x:=.row d) (v:=.slice (some ⟨w.heap.size,0,none⟩) m m) (by simp[AV.holds]) (by show d<S'.n;omega) ⟨fun _ e=>e.elim,fun j e=>?_⟩⟩)
 cases e
 show(AS.rX S' d _).r d≠_
 rw[AS.gS];simp
theorem RT.Ln(hg:Gd ops S gd rg)[tS:eR P T E0 n][tE:aP P E0 n by_ zv]{kl kc:IntKind}{c:Int}(hx:S.ev x=.sv (.v (.int kl 0)))(hy:S.ev y=.sv (.v (.int kc c)))(hd:d<S.n)(A9:S.r d=.un)(zy:d<1000)(h:Sh (α:=α) by_ c=some l')
  (next:RunT P C ops nd K rest (⟨rg++(ax x++ax y),[],[d],⟨some (d,.row d),[],[(d,.live (TR E0 n e l'))]⟩⟩::acc) ((AS.bN [(d,.live (TR E0 n e l'))] S).set d (.row d))):RunT P C ops nd K (⟨some d,.makeSlice T x y,ty,pos,aft,gd⟩::rest) acc S:=by
 obtain⟨h0,h1,h2,rfl⟩:=Ou h
 exact RT.Zb hg hx hy hd A9 zy h0 h1 h2 next
theorem RT.adq(hg:Gd ops S gd rg)[tS:eR P T E0 n]{i j:Nat}{E1:TypeId}{kk:IntKind}{v:Int}(hx:S.ev x=.row i)(hR:S.r i=.live (TR E1 n e l))(hy:S.ev y=.sv (.v (.int kk v)))(hd:d<S.n)(h:wC l v=some j)
  (next:RunT P C ops nd K rest (⟨rg++(ax x++ax y),[],[i],⟨some (d,.ic i (j*n)),[],[]⟩⟩::acc) (S.set d (.ic i (j*n)))):RunT P C ops nd K (⟨some d,.indexAddr T x y,ty,pos,aft,gd⟩::rest) acc S:=by
 obtain⟨h0,h1,h2⟩:=Oq h
 exact RT.ixR hg (.row hx hR) hy hd h0 h1 (j*n) (by rw[h2];omega) next
theorem RT.ZF(hg:Gd ops S gd rg)[tV:bY P T][el:EL e 1]{i j:Nat}{E1:TypeId}{a:α}{s:SV}(hx:S.ev x=.ic i (j*1))(hR:S.r i=.live (TR E1 1 e l))(ha:l[j]? =some a)(hs:e a=[s])(hd:d<S.n)
  (next:RunT P C ops nd K rest (⟨rg++ax x,[],[i],⟨some (d,.sv s),[],[]⟩⟩::acc) (S.set d (.sv s))):RunT P C ops nd K (⟨some d,.load T x,ty,pos,aft,gd⟩::rest) acc S:=by
 refine RT.ldR hg hx hR (s:=s) ?_ hd next
 have:=Ca (e:=e) ha
 rw[hs]at this
 have h2:=congrArg (·[0]?) this
 simpa[List.getElem?_take]using h2
theorem RT.ZG(hg:Gd ops S gd rg)[tA:jq P T n][el:EL e n]{i j:Nat}{E1:TypeId}{a:α}(hx:S.ev x=.ic i (j*n))(hR:S.r i=.live (TR E1 n e l))(ha:l[j]? =some a)(hd:d<S.n)
  (next:RunT P C ops nd K rest (⟨rg++ax x,[],[i],⟨some (d,.sv (.agg (e a))),[],[]⟩⟩::acc) (S.set d (.sv (.agg (e a))))):RunT P C ops nd K (⟨some d,.load T x,ty,pos,aft,gd⟩::rest) acc S:=
 RT.acT hg hx hR (Ca ha) (el.len a) hd next
theorem Sj(a:List SV)(k:Nat)(s:SV):a.set k s=mK a k [s]:=rfl
theorem RT.adr(hg:Gd ops S gd rg)[tV:bY P T][el:EL e 1]{i j:Nat}{E1:TypeId}{s:SV}[o1:One s](a:α)(hs:e a=[s])(hx:S.ev x=.ic i (j*1))(hR:S.r i=.live (TR E1 1 e l))(hy:S.ev y=.sv s)(h:stM l j a=some l')
  (next:RunT P C ops nd K rest (⟨rg++(ax x++ax y),[],[i],⟨none,[],[(i,.live (TR E1 1 e l'))]⟩⟩::acc) (AS.bN [(i,.live (TR E1 1 e l'))] S)):RunT P C ops nd K (⟨none,.store T x y,ty,pos,aft,gd⟩::rest) acc S:=by
 obtain⟨h1,rfl⟩:=Hs h
 refine RT.stR hg hx hR hy (by show j*1+1≤l.length*1;omega) ((l.set j a).flatMap e) (by rw[Sj,←hs];exact Hu h1) ?_
 have:(TR E1 1 e (l.set j a))=⟨E1,1,l.length,(l.set j a).flatMap e⟩:=by show Row.mk _ _ _ _=_;rw[List.length_set]
 rw[←this];exact next
theorem RT.ZH(hg:Gd ops S gd rg)[tA:jq P T n][el:EL e n]{i j:Nat}{E1:TypeId}(a:α)(hx:S.ev x=.ic i (j*n))(hR:S.r i=.live (TR E1 n e l))(hy:S.ev y=.sv (.agg (e a)))(h:stM l j a=some l')
  (next:RunT P C ops nd K rest (⟨rg++(ax x++ax y),[],[i],⟨none,[],[(i,.live (TR E1 n e l'))]⟩⟩::acc) (AS.bN [(i,.live (TR E1 n e l'))] S)):RunT P C ops nd K (⟨none,.store T x y,ty,pos,aft,gd⟩::rest) acc S:=by
 obtain⟨h1,rfl⟩:=Hs h
 have o1:=el.one a
 refine RT.acU hg hx hR hy (el.len a) (by show j*n+n≤l.length*n;have:=Nat.mul_le_mul_right n h1;rw[Nat.succ_mul]at this;exact this) ((l.set j a).flatMap e) (Hu h1) ?_
 have:(TR E1 n e (l.set j a))=⟨E1,n,l.length,(l.set j a).flatMap e⟩:=by show Row.mk _ _ _ _=_;rw[List.length_set]
 rw[←this];exact next
end steps
theorem bh{S:AS}{i n:Nat}{E1:TypeId}{α:Type}{e:α→List SV}{l:List α}[el:EL e n](hR:S.r i=.live (TR E1 n e l)):tQ S (S.oT i (slc n (l.map e))):=by
 rintro C a w ⟨E,h⟩
 have hlen:l.length≤9223372036854775807:=by
  obtain⟨⟨vs,ho,hv⟩,_⟩:=h.rx i _ hR
  rcases ho.2 with⟨_,q2⟩|⟨g',cap,cur,q1,_,q2,q3,q4,q5,q6⟩
  ·have q2:l.length=0:=q2
   omega
  ·have q3:l.length≤cap:=q3
   have:maxLen=9223372036854775807:=by decide
   omega
 exact h.oT hR (Ht l) (by rw[List.length_map]) hlen (Es l) (fun _ _ h _=>h)
section control
variable {P:Program}{C:Ctx}{S:AS}{Q:Exit→AS→Prop}
theorem aH{A:Code}{J R:Type}{kB:J→Option R}{fA:(J→Option R)→Option R}{r:R}(h:bD kB fA=some r)(I:J→AS)
  (hA:fA kB=some r→Ok P C A S (ae (fun S'=>∃j,kB j=some r∧tQ S' (I j)) Q)) (hQ:∀j,kB j=some r→Q .normal (I j)):Ok P C A S Q:=fun a w hs=>by
 refine wpIn_mono (hA h a w hs) ?_
 rintro e a' w' ⟨S',q,hh⟩
 cases e with
 |normal=>obtain⟨j,h1,h2⟩:=q;exact⟨_,hQ j h1,h2 C a' w' hh⟩
 |_=>exact⟨S',q,hh⟩
theorem aL{A:Code}{X:Type}(I:X→AS)(p:X→Prop)(hA:Ok P C A S (ae (fun S'=>∃j,p j∧tQ S' (I j)) Q))(hQ:∀j,p j→Q .normal (I j)):Ok P C A S Q:=fun a w hs=>by
 refine wpIn_mono (hA a w hs) ?_
 rintro e a' w' ⟨S',q,hh⟩
 cases e with
 |normal=>obtain⟨j,h1,h2⟩:=q;exact⟨_,hQ j h1,h2 C a' w' hh⟩
 |_=>exact⟨S',q,hh⟩
theorem aM{c:Code}{T E:Type}{body:T→Option (T⊕E)}{s0:T}{e:E}(h:bk body s0=some e)(I:T→AS)(h0:tQ S (I s0))
  (round:∀(s:T) (y:T⊕E) (G:T→Prop),body s=some y→(∀s',y=.inl s'→G s')→(∀e',y=.inr e'→e'=e)→Ok P C c (I s) (ae (fun S'=>∃s',G s'∧tQ S' (I s')) Q)):Ok P C (.loop c) S Q:=by
 obtain⟨n,hn⟩:=w6 h
 refine xX (ι:={x:T×Nat//oz body x.2 x.1=some e}) (fun x=>I x.1.1) (fun x=>x.1.2) ⟨(s0,n),hn⟩ h0 ?_
 rintro⟨⟨s,m⟩,hm⟩
 cases m with
 |zero=>cases hm
 |succ m=>
  cases hb:body s with
  |none=>simp only[oz,hb]at hm;cases hm
  |some y=>
   refine E7 (round s y (fun s'=>oz body m s'=some e) hb ?_ ?_) ?_
   ·rintro s' rfl;simpa only[oz,hb]using hm
   ·rintro e' rfl;simp only[oz,hb]at hm;exact Option.some.inj hm
   ·intro ex S' q
    cases ex with
    |normal=>obtain⟨s',h1,h2⟩:=q;exact⟨⟨(s',m),h1⟩,Nat.lt_succ_self m,h2⟩
    |_=>exact q
end control
end Go.Fw
namespace Go.Fw
open Go.RowKit
abbrev RI:=List UInt8
def bs(l:RI):ByteArray:=⟨⟨l⟩⟩
def wD(l:RI)(i:Int):Option Nat:=(bR l i).map UInt8.toNat
theorem Sk(l:RI):(bs l).size=l.length:=rfl
theorem Wg(l:RI)(i:Nat):(bs l)[i]? =l[i]? :=by
 rcases Nat.lt_or_ge i l.length with h|h
 ·rw[getElem?_pos (bs l) i h,List.getElem?_eq_getElem h];rfl
 ·rw[getElem?_neg (bs l) i (by rw[Sk];omega),List.getElem?_eq_none h]
section steps
variable {P:Program}{C:Ctx}{ops:Array Oper}{S:AS}{nd:Bool}{K:List Ac→AS→Prop}{rest:List Oper}{acc:List Ac}
variable {gd:Option (Nat×Bool)}{rg:List Nat}{d:Nat}{ty:TypeId}{pos:String}{aft:Array Edge}{x y z:Operand}{T U E0:TypeId}
variable {l l' k:RI}
theorem RT.skV{op:Op}{j g:Nat}{b want:Bool}(h1:(ops[j]?).bind (·.dst)=some g)(h2:S.t g=.sv (.v (.bool b)))(hb:b≠want)(hd:d<S.n)
  (next:RunT P C ops nd K rest (⟨[g],[],[],⟨some (d,.sv (.v undef)),[],[]⟩⟩::acc) (S.set d (.sv (.v undef)))):RunT P C ops nd K (⟨some d,op,ty,pos,aft,some (j,want)⟩::rest) acc S:=by
 refine .inl ⟨[g],[],[],⟨some (d,.sv (.v undef)),[],[]⟩,?_,next⟩
 rintro S' hn ht _ _ i a w L Q ho ⟨E,h⟩ hL
 have hv:=h.tm g
 rw[ht g (by simp),h2]at hv
 have hv:a.tmps.getD g undef=.bool b:=hv
 have Jo:a.tmps[g]? =some (.bool b):=by
  rw[Array.getD_eq_getD_getElem?]at hv
  cases e:a.tmps[g]? with
  |none=>rw[e]at hv;simp[undef]at hv
  |some x=>rw[e]at hv;simp at hv;rw[hv]
 have hw:Region.wanted ⟨some d,op,ty,pos,aft,some (j,want)⟩ (yielded ops a.tmps)=false:=by
  simp[Region.wanted,yielded,h1,Jo,hb]
 simp only[wpOpIn,ho,hw]
 exact⟨fun _ _=>trivial,hL _ _ ⟨E,h.put (x:=.sv (.v undef)) (v:=undef) rfl (by omega) ⟨fun _ h=>h.elim,fun _ h=>h.elim⟩⟩⟩
theorem RT.ZI{op:Op}{j g:Nat}{want:Bool}(h1:(ops[j]?).bind (·.dst)=some g)(h2:S.t g=.sv (.v undef))(hd:d<S.n)
  (next:RunT P C ops nd K rest (⟨[g],[],[],⟨some (d,.sv (.v undef)),[],[]⟩⟩::acc) (S.set d (.sv (.v undef)))):RunT P C ops nd K (⟨some d,op,ty,pos,aft,some (j,want)⟩::rest) acc S:=by
 refine .inl ⟨[g],[],[],⟨some (d,.sv (.v undef)),[],[]⟩,?_,next⟩
 rintro S' hn ht _ _ i a w L Q ho ⟨E,h⟩ hL
 have hv:=h.tm g
 rw[ht g (by simp),h2]at hv
 have hv:a.tmps.getD g undef=undef:=hv
 rw[Array.getD_eq_getD_getElem?]at hv
 have hw:Region.wanted ⟨some d,op,ty,pos,aft,some (j,want)⟩ (yielded ops a.tmps)=false:=by
  cases e:a.tmps[g]? with
  |none=>simp[Region.wanted,yielded,h1,e]
  |some x=>
   rw[e]at hv
   simp only[Option.getD_some]at hv
   subst hv
   simp[Region.wanted,yielded,h1,e,undef]
 simp only[wpOpIn,ho,hw]
 exact⟨fun _ _=>trivial,hL _ _ ⟨E,h.put (x:=.sv (.v undef)) (v:=undef) rfl (by omega) ⟨fun _ h=>h.elim,fun _ h=>h.elim⟩⟩⟩
theorem RT.six(hg:Gd ops S gd rg)[tS:G3 P T]{kk:IntKind}{i:Int}{c:Nat}(hx:S.ev x=.sv (.v (.string (bs l))))(hy:S.ev y=.sv (.v (.int kk i)))(hd:d<S.n)(h:wD l i=some c)
  (next:RunT P C ops nd K rest (⟨rg++(ax x++ax y),[],[],⟨some (d,.sv (.v (.int .u8 (c:Nat)))),[],[]⟩⟩::acc) (S.set d (.sv (.v (.int .u8 (c:Nat)))))):RunT P C ops nd K (⟨some d,.index T x y,ty,pos,aft,gd⟩::rest) acc S:=
 RT.Jp hg (by intro c h;cases h) hx hy hd (fun ρ w h1 h2=>by
  unfold wD at h
  cases hh:bR l i with
  |none=>rw[hh]at h;cases h
  |some b=>
   rw[hh]at h
   obtain⟨q1,q2⟩:=zK hh
   have q3:b.toNat=c:=Option.some.inj h
   have q4:(bs l)[i.toNat]? =some b:=by rw[Wg];exact q2
   simp[execOp,h1,h2,Instr.index,asIntOf,underlying,tS.h,q1,q4,q3]) next
end steps
section rows
variable {P:Program}{C:Ctx}{ops:Array Oper}{S:AS}{nd:Bool}{K:List Ac→AS→Prop}{rest:List Oper}{acc:List Ac}
variable {gd:Option (Nat×Bool)}{rg:List Nat}{d:Nat}{ty:TypeId}{pos:String}{aft:Array Edge}{x y z:Operand}{T U E0:TypeId}
variable {α:Type}{l l' k:List α}{e:α→List SV}{n by_:Nat}{zv:Value}
end rows
end Go.Fw
namespace Go.Fw
open Go.RowKit
def wE{α:Type}(l l':List α):Option Unit:=if l'.length=l.length then some ()else none
theorem mX{α:Type}{l l':List α}{u:Unit}(h:wE l l'=some u):l'.length=l.length:=by
 unfold wE at h;split at h
 ·assumption
 ·cases h
def Wh{α:Type}(l:List α)(lo hi:Int):Option (Nat×Nat):=if 0≤lo∧lo<l.length∧lo≤hi∧hi≤l.length then some (lo.toNat,(hi-lo).toNat)else none
theorem Oz{α:Type}{l:List α}{lo hi:Int}{o n:Nat}(h:Wh l lo hi=some (o,n)):0≤lo∧lo<l.length∧lo≤hi∧hi≤l.length∧lo.toNat=o∧(hi-lo).toNat=n:=by
 unfold Wh at h;split at h
 ·rename_i hh
  obtain⟨q1,q2⟩:=Prod.mk.inj (Option.some.inj h)
  exact⟨hh.1,hh.2.1,hh.2.2.1,hh.2.2.2,q1,q2⟩
 ·cases h
def RJ(o n:Nat)(i:Int):Option Nat:=if 0≤i∧i<n then some (o+i.toNat)else none
theorem OA{o n j:Nat}{i:Int}(h:RJ o n i=some j):0≤i∧i<n∧o+i.toNat=j:=by
 unfold RJ at h;split at h
 ·rename_i hh;exact⟨hh.1,hh.2,Option.some.inj h⟩
 ·cases h
def sg:List (List SV)→List (List SV)→Prop
 |[],[]=>True
 |r::l,r'::l'=>bB r r'∧sg l l'
 |_,_=>False
theorem bB.get:∀{l l':List SV} {k:Nat} {s':SV},bB l l'→l'[k]? =some s'→∃s,l[k]? =some s∧SV.imp s s'
 |x::_,y::_,0,_,h,e=>⟨x,rfl,by simp at e;subst e;exact h.1⟩
 |_::l,_::l',k+1,_,h,e=>by simpa using bB.get (l:=l) (l':=l') h.2 (by simpa using e)
 |[],[],_,_,_,e=>by simp at e
 |[],_::_,_,_,h,_=>h.elim
 |_::_,[],_,_,h,_=>h.elim
theorem bB.len:∀{l l':List SV},bB l l'→l'.length=l.length
 |[],[],_=>rfl
 |_::_,_::_,h=>congrArg (· +1) (bB.len h.2)
 |[],_::_,h=>h.elim
 |_::_,[],h=>h.elim
theorem sg.len:∀{l l':List (List SV)},sg l l'→l'.length=l.length
 |[],[],_=>rfl
 |_::_,_::_,h=>congrArg (· +1) (sg.len h.2)
 |[],_::_,h=>h.elim
 |_::_,[],h=>h.elim
theorem sg.get:∀{l l':List (List SV)} {k:Nat} {s':List SV},sg l l'→l'[k]? =some s'→∃s,l[k]? =some s∧bB s s'
 |x::_,y::_,0,_,h,e=>⟨x,rfl,by simp at e;subst e;exact h.1⟩
 |_::l,_::l',k+1,_,h,e=>by simpa using sg.get (l:=l) (l':=l') h.2 (by simpa using e)
 |[],[],_,_,_,e=>by simp at e
 |[],_::_,_,_,h,_=>h.elim
 |_::_,[],_,_,h,_=>h.elim
class PV {α:Type} (e:α→List SV):Prop where
 h:∀x,∃v:Value,e x=[.v v]
instance:PV ak:=⟨fun _=>⟨_,rfl⟩⟩
instance:PV aV:=⟨fun _=>⟨_,rfl⟩⟩
theorem Lo{α:Type}{e:α→List SV}{l:List α}{n:Nat}{M:Mem}{v:Value}(h:(slc n (l.map e)).h M v):l.length≤9223372036854775807:=by
 rcases h with⟨_,_,h⟩|⟨b,o,c,_,_,h,_⟩
 ·have:l=[]:=by simpa using h
  subst this;simp
 ·rwa[List.length_map]at h
theorem vA{α:Type}{e:α→List SV}{l:List α}{n:Nat}{M:Mem}{v:Value}(h:(ref [slc n (l.map e)]).h M v):l.length≤9223372036854775807:=by
 obtain⟨b,o,_,h⟩:=h
 obtain⟨y,_,_,h⟩:=h 0 _ rfl
 exact Lo h
theorem w8{l:List Nat}{i:Nat}(h:l.length≤i):l.getD i 0=0:=by simp[List.getD,List.getElem?_eq_none h]
theorem uc{l:List Nat}{i:Nat}(h:i<l.length):l[i]? =some (l.getD i 0):=by simp[List.getD,h]
theorem dB{α:Type}{l:List α}{d:α}{i:Nat}(h:l.length≤i):l.getD i d=d:=by simp[List.getD,List.getElem?_eq_none h]
theorem bz{α:Type}{l:List α}{d:α}{i:Nat}(h:i<l.length):l[i]? =some (l.getD i d):=by simp[List.getD,h]
theorem Cb{α β:Type}(a:List α)(b:List β)(i:Nat)(h:i≤max a.length b.length):(i<max a.length b.length∧i<a.length∧i<b.length)∨(i<max a.length b.length∧i<a.length∧b.length≤i)∨(i<max a.length b.length∧a.length≤i∧i<b.length)∨i=max a.length b.length:=by omega
section steps
variable {P:Program}{C:Ctx}{ops:Array Oper}{S:AS}{nd:Bool}{K:List Ac→AS→Prop}{rest:List Oper}{acc:List Ac}
variable {gd:Option (Nat×Bool)}{rg:List Nat}{d:Nat}{ty:TypeId}{pos:String}{aft:Array Edge}{x y z:Operand}{T U E0:TypeId}
variable {α:Type}{l l' k:List α}{e:α→List SV}{n by_:Nat}{zv:Value}
theorem Wi{E1:TypeId}(h:l'.length=l.length):(⟨E1,n,l.length,l'.flatMap e⟩:Row)=TR E1 n e l':=by show _=Row.mk _ _ _ _;rw[h]
theorem RT.Wj(hg:Gd ops S gd rg){f:FuncId}[bQ P f]{g:Operand}{xs:Array Operand}{at_:Array TypeId}{args:List AV}{E1:TypeId}{res:AV}(hp:JF P f args (TR E1 n e l) res (l'.flatMap e))(hlen:l'.length=l.length)(i:Nat)(hR:S.r i=.live (TR E1 n e l))(hrow:args.all AV.zH=true)(hres:res.zH=true)
  (hf:S.ev g=.sv (.v (.func (.func f) #[] #[]))) (hargs:Fj S xs.toList (args.map (AV.Az i))) (hd:d<S.n)
  (next:RunT P C ops nd K rest (⟨rg++(ax g++xs.toList.flatMap ax),[],[i],⟨some (d,res.Az i),[],[(i,.live (TR E1 n e l'))]⟩⟩::acc) ((AS.bN [(i,.live (TR E1 n e l'))] S).set d (res.Az i))):RunT P C ops nd K (⟨some d,.call ⟨.value g,xs,at_⟩,ty,pos,aft,gd⟩::rest) acc S:=
 RT.Zl hg hp i hR hrow hres hf hargs hd (by rw[Wi hlen];exact next)
theorem RT.ZJ(hg:Gd ops S gd rg)[tS:eR P T E0 n]{i o m:Nat}{E1:TypeId}{lo hi:Option Operand}(a b:Int)(hx:S.ev x=.row i)(hR:S.r i=.live (TR E1 n e l))(hlo:Fg S 0 lo a)(hhi:Fg S l.length hi b)(hd:d<S.n)(h:Wh l a b=some (o,m))
  (next:RunT P C ops nd K rest (⟨rg++(ax x++(ql lo++ql hi)),[],[i],⟨some (d,.nq i (o*n) m),[],[]⟩⟩::acc) (S.set d (.nq i (o*n) m))):RunT P C ops nd K (⟨some d,.slice T x lo hi none,ty,pos,aft,gd⟩::rest) acc S:=by
 obtain⟨h0,h1,h2,h3,h4,h5⟩:=Oz h
 exact RT.V1 hg (.row hx hR) a b hlo hhi hd h0 h1 h2 h3 (o*n) m (by rw[h4];omega) h5 next
theorem RT.Wk(hg:Gd ops S gd rg){m:Nat}[tS:eR P T E0 m]{i o q:Nat}{c:Int}(hx:S.ev x=.nq i o q)(hd:d<S.n)(hc:(q:Int)=c)
  (next:RunT P C ops nd K rest (⟨rg++ax x,[],[],⟨some (d,.sv (.v (.int .i64 c))),[],[]⟩⟩::acc) (S.set d (.sv (.v (.int .i64 c))))):RunT P C ops nd K (⟨some d,.call ⟨.builtin .len,#[x],#[T]⟩,ty,pos,aft,gd⟩::rest) acc S:=
 RT.Zk hg hx hd (by rw[hc];exact next)
theorem RT.Hx(hg:Gd ops S gd rg)[tS:eR P T E0 n]{i o q j:Nat}{kk:IntKind}{v:Int}(hx:S.ev x=.nq i (o*n) q)(hy:S.ev y=.sv (.v (.int kk v)))(hd:d<S.n)(h:RJ o q v=some j)
  (next:RunT P C ops nd K rest (⟨rg++(ax x++ax y),[],[],⟨some (d,.ic i (j*n)),[],[]⟩⟩::acc) (S.set d (.ic i (j*n)))):RunT P C ops nd K (⟨some d,.indexAddr T x y,ty,pos,aft,gd⟩::rest) acc S:=by
 obtain⟨h0,h1,h2⟩:=OA h
 exact RT.ixR hg (.nq hx) hy hd h0 h1 (j*n) (by rw[←h2,Nat.add_mul]) next
end steps
def qP{S:Type}(body:Nat→S→Option S):Nat→S→Option S
 |0,s=>some s
 |n+1,s=>(qP body n s).bind (body n)
theorem rE{S:Type}{body:Nat→S→Option S}:∀{n:Nat} {s e:S},qP body n s=some e→∃st:Nat→S,st 0=s∧(∀k,k<n→body k (st k)=some (st (k+1)))∧st n=e
 |0,s,e,h=>⟨fun _=>s,rfl,fun _ h=>by omega,Option.some.inj h⟩
 |n+1,s,e,h=>by
  obtain⟨e1,h1,h2⟩:=bind_some (x:=qP body n s) h
  obtain⟨st,q1,q2,q3⟩:=rE h1
  refine⟨fun k=>if k=n+1 then e else st k,by simpa using q1,fun k hk=>?_,by simp⟩
  rcases Nat.lt_or_ge k n with hkn|hkn
  ·simpa[show k≠n+1 by omega,show k≠n by omega]using q2 k hkn
  ·obtain rfl:k=n:=by omega
   simpa[q3]using h2
theorem Eu{S:Type}{body:Nat→S→Option S}(st:Nat→S):∀(n:Nat),(∀k,k<n→body k (st k)=some (st (k+1)))→qP body n (st 0)=some (st n)
 |0,_=>rfl
 |n+1,h=>by
  rw[qP,Eu st n (fun k hk=>h k (by omega))]
  exact h n (by omega)
def n9{S E:Type}(body:Nat→S→Option (S⊕E)):Nat→S→Option (S⊕E)
 |0,s=>some (.inl s)
 |n+1,s=>(n9 body n s).bind fun r=>match r with|.inl s'=>body n s'|.inr e=>some (.inr e)
theorem Ev{S E:Type}{body:Nat→S→Option (S⊕E)}:∀{n:Nat} {s:S} {r:S⊕E},n9 body n s=some r→∃(m:Nat) (st:Nat→S),st 0=s∧m≤n∧(∀k,k<m→body k (st k)=some (.inl (st (k+1))))∧((m=n∧r=.inl (st n))∨(m<n∧∃e,r=.inr e∧body m (st m)=some (.inr e)))
 |0,s,r,h=>⟨0,fun _=>s,rfl,Nat.le_refl _,fun _ h=>by omega,.inl ⟨rfl,(Option.some.inj h).symm⟩⟩
 |n+1,s,r,h=>by
  obtain⟨r1,h1,h2⟩:=bind_some (x:=n9 body n s) h
  obtain⟨m,st,q1,q2,q3,q4⟩:=Ev h1
  rcases q4 with⟨rfl,rfl⟩|⟨q4,e,rfl,q5⟩
  ·simp only at h2
   cases r with
   |inr e=>exact⟨m,st,q1,by omega,q3,.inr ⟨by omega,e,rfl,h2⟩⟩
   |inl s'=>
    refine⟨m+1,fun k=>if k=m+1 then s' else st k,by simpa using q1,Nat.le_refl _,fun k hk=>?_,.inl ⟨rfl,by simp⟩⟩
    rcases Nat.lt_or_ge k m with hkn|hkn
    ·simpa[show k≠m+1 by omega,show k≠m by omega]using q3 k hkn
    ·obtain rfl:k=m:=by omega
     simpa using h2
  ·simp only at h2
   cases h2
   exact⟨m,st,q1,by omega,q3,.inr ⟨by omega,e,rfl,q5⟩⟩
theorem Ft{S E:Type}{body:Nat→S→Option (S⊕E)}{n m:Nat}{st:Nat→S}{r:S⊕E}(h:∀k,k<m→body k (st k)=some (.inl (st (k+1))))(hr:(m=n∧r=.inl (st n))∨(m<n∧∃e,r=.inr e∧body m (st m)=some (.inr e))){k:Nat}(hk:k<n)(hkm:k≤m):
  ∃y,body k (st k)=some y∧(∀s',y=.inl s'→k+1≤m∧s'=st (k+1))∧∀e',y=.inr e'→r=.inr e':=by
 rcases Nat.lt_or_ge k m with q|q
 ·exact⟨_,h k q,(fun s' e=>⟨q,by cases e;rfl⟩),(fun e' e=>by cases e)⟩
 ·obtain rfl:k=m:=by omega
  rcases hr with⟨rfl,_⟩|⟨_,e,rfl,he⟩
  ·omega
  ·exact⟨_,he,(fun s' e=>by cases e),(fun e' q=>by cases q;rfl)⟩
theorem Hy{S E:Type}{body:Nat→S→Option (S⊕E)}{n m:Nat}{st:Nat→S}{r:S⊕E}(hr:(m=n∧r=.inl (st n))∨(m<n∧∃e,r=.inr e∧body m (st m)=some (.inr e)))(h:n≤m):r=.inl (st n):=by
 rcases hr with⟨_,q⟩|⟨q,_⟩
 ·exact q
 ·omega
theorem zM{S E:Type}{body:Nat→S→Option (S⊕E)}{n:Nat}{s:S}{r:S⊕E}(h:n9 body n s=some r):∃(m:Nat) (st:Nat→S),st 0=s∧(∀k,k<n→k≤m→∃y,body k (st k)=some y∧(∀s',y=.inl s'→k+1≤m∧s'=st (k+1))∧∀e',y=.inr e'→r=.inr e')∧(n≤m→r=.inl (st n)):=by
 obtain⟨m,st,q1,q2,q3,q4⟩:=Ev h
 exact⟨m,st,q1,fun k hk hm=>Ft q3 q4 hk hm,fun hn=>Hy q4 hn⟩
end Go.Fw
namespace Go.Fw
open Go.RowKit
def OB(es:List (Value×Value)):SV where
 h M v:=∃b,v=.map (some b)∧M b 0=some (.tuple ⟨es.map fun p=>.tuple #[p.1,p.2]⟩)
 mono hM h:=by obtain⟨b,e,h⟩:=h;exact⟨b,e,hM _ _ _ h⟩
class Lp (P:Program) (T:TypeId) (k:outParam TypeId) (e:outParam TypeId):Prop where
 u:P.underlying T=some (.map k e)
def Ew(k:IntKind)(n:Int):List (Value×Value)→Option Value
 |[]=>none
 |(.int k' m,v)::l=>if k=k' then(if n=m then some v else Ew k n l)else none
 |_::_=>none
theorem wF{k:IntKind}{n:Int}{v:Value}:∀(es:List MapEntry) (i:Nat),Ew k n (es.map fun e=>(e.key,e.val))=some v→∃j,Instr.findNow (.int k) (.int k n) es i=some (some (j,v))
 |[],_,h=>by simp[Ew]at h
 |⟨key,val,born⟩::es,i,h=>by
  cases key with
  |int k' m=>
   simp only[List.map_cons,Ew]at h
   by_cases hk:k=k'
   ·subst hk
    rw[if_pos rfl]at h
    by_cases hn:n=m
    ·subst hn
     rw[if_pos rfl]at h
     cases h
     exact⟨i,by simp[Instr.findNow,Instr.sameNow]⟩
    ·rw[if_neg hn]at h
     obtain⟨j,hj⟩:=wF es (i+1) h
     have hb:(n==m)=false:=by simp[hn]
     exact⟨j,by simp[Instr.findNow,Instr.sameNow,hb,hj]⟩
   ·rw[if_neg hk]at h;cases h
  |_=>simp[Ew]at h
theorem Lq:∀(l:List (Value×Value)) (m:List MapEntry),l.map (fun p=>Value.tuple #[p.1,p.2])=m.map (fun e=>Value.tuple #[e.key,e.val])→m.map (fun e=>(e.key,e.val))=l
 |[],[],_=>rfl
 |[],_::_,h=>by simp at h
 |_::_,[],h=>by simp at h
 |(p,q)::l,e::m,h=>by
  simp only[List.map_cons,List.cons.injEq,Value.tuple.injEq]at h⊢
  refine⟨?_,Lq l m h.2⟩
  have:=h.1
  simp at this
  rw[this.1,this.2]
theorem OC{es:Array MapEntry}{l:List (Value×Value)}(h:(⟨l.map fun p=>.tuple #[p.1,p.2]⟩:Array Value)=RO es):es.toList.map (fun e=>(e.key,e.val))=l:=
 Lq l es.toList (congrArg Array.toList h)
theorem getM{P:Program}{w:World}{r:Nat}{es:Array MapEntry}{ck:Nat}(hb:w.heap[r]? =some (.map es ck)):(getObj r).run P w=.ok (.map es ck) w:=by simp[getObj,Sem.run,hb]
theorem ads{P:Program}{w:World}{r:Nat}{es:Array MapEntry}{ck:Nat}(o:Obj)(hb:w.heap[r]? =some (.map es ck)):(setObj r o).run P w=.ok () {w with heap:=w.heap.setIfInBounds r o}:=by simp[setObj,Sem.run,hb]
theorem ckM{P:Program}{w:World}{kt:TypeId}{k:IntKind}[tI:ij P kt k]{n:Int}(bb:Bool):(Instr.checkKey bb 10000 kt (.int k n)).run P w=.ok () w:=by
 rw[show(10000:Nat)=9999+1 from rfl,Instr.checkKey]
 simp[underlying,tI.h]
theorem OD{M:Mem}:∀l:List Value,SV.dK M (l.map SV.v) l
 |[]=>trivial
 |_::l=>⟨rfl,OD l⟩
section steps
variable {P:Program}{C:Ctx}{ops:Array Oper}{S:AS}{nd:Bool}{K:List Ac→AS→Prop}{rest:List Oper}{acc:List Ac}
variable {gd:Option (Nat×Bool)}{rg:List Nat}{d:Nat}{ty:TypeId}{pos:String}{aft:Array Edge}{x y z:Operand}{T U E0:TypeId}
theorem RT.look(hg:Gd ops S gd rg){kt et:TypeId}[tM:Lp P T kt et]{k:IntKind}[tI:ij P kt k]{es:List (Value×Value)}{n:Int}(cs:List Value)(hx:S.ev x=.sv (OB es))(hy:S.ev y=.sv (.v (.int k n)))(hl:Ew k n es=some (.agg ⟨cs⟩))(hd:d<S.n)
  (next:RunT P C ops nd K rest (⟨rg++(ax x++ax y),[],[],⟨some (d,.sv (.agg (cs.map SV.v))),[],[]⟩⟩::acc) (S.set d (.sv (.agg (cs.map SV.v))))):RunT P C ops nd K (⟨some d,.lookup T x y false,ty,pos,aft,gd⟩::rest) acc S:=
 RT.value hg (ax x++ax y) [] [] (.sv (.agg (cs.map SV.v))) hd (by intro c h;cases h) (fun S' ht _ _ E a w h=>by
  have h1:=h.ev x
  rw[aN (fun _ h=>List.mem_append_left _ h) ht,hx]at h1
  have h2:a.eval y=.int k n:=by have h2:=h.ev y;rw[aN (fun _ h=>List.mem_append_right _ h) ht,hy]at h2;exact h2
  obtain⟨b,e,hb⟩:=h1
  obtain⟨ms,ck,hm,he⟩:=h.dm _ _ _ hb
  have he:=OC he
  rw[←he]at hl
  obtain⟨j,hj⟩:=wF ms.toList 0 hl
  refine⟨.agg ⟨cs⟩,?_,⟨cs,rfl,?_⟩,gB⟩
  ·have hfk:(Instr.findKey kt (.int k n) ms.toList).run P w=.ok (some (j,.agg ⟨cs⟩)) w:=by
    simp[Instr.findKey,underlying,tI.h,hj]
   simp[execOp,e,h2,Instr.lookup,underlying,tM.u,getM hm,ckM,hfk]
  ·exact OD cs) next
def ud(w:World)(ms:Array MapEntry)(ck:Nat):World:=w.alloc (.map ms ck)
theorem zN(w:World)(ms:Array MapEntry)(ck:Nat):(ud w ms ck).heap[w.heap.size]? =some (.map ms ck):=by show(w.heap.push _)[w.heap.size]? =_;simp
theorem run_make{d:Option Nat}{ρ:Operand→Value}{w:World}:(execOp ρ ⟨d,.makeMap T none,ty,pos,aft,none⟩).run P w=.ok (.value (.map (some w.heap.size))) (ud w #[] 0):=by
 simp[execOp,Instr.makeMap,ud]
theorem Bu{d:Option Nat}{kt et:TypeId}[tM:Lp P T kt et]{k:IntKind}[tI:ij P kt k]{ρ:Operand→Value}{w:World}{ms:Array MapEntry}{ck:Nat}{n:Int}{v:Value}(hx:ρ x=.map (some w.heap.size))(hy:ρ y=.int k n)(hz:ρ z=v)
  (hf:Instr.findNow (.int k) (.int k n) ms.toList 0=some none):(execOp ρ ⟨d,.insert T x y z,ty,pos,aft,none⟩).run P (ud w ms ck)=.ok .skip (ud w (ms.push ⟨.int k n,v,ck⟩) (ck+1)):=by
 have hfk:(Instr.findKey kt (.int k n) ms.toList).run P (ud w ms ck)=.ok none (ud w ms ck):=by
  simp[Instr.findKey,underlying,tI.h,hf]
 have adu:∀o:Obj,{ud w ms ck with heap:=(ud w ms ck).heap.setIfInBounds w.heap.size o}=w.alloc o:=by
  intro o
  simp only[ud,World.alloc]
  congr 1
  apply Array.ext'
  simp
 simp[execOp,hx,hy,hz,Instr.mapUpdate,underlying,tM.u,getM (zN w ms ck),ckM,hfk,ads _ (zN w ms ck)]
 exact adu _
theorem Bv{d:Option Nat}{z0:Value}[tP:bU P U [(0,1)] [z0]]{ρ:Operand→Value}{w:World}{v:Value}(hx:ρ x=v)(hv:v.oneCell'=true):(execOp ρ ⟨d,.build U #[(0,x)],ty,pos,aft,none⟩).run P w=.ok (.value (.agg #[v])) w:=by
 have hu:=tP.h
 cases hT:P.underlying U with
 |none=>rw[hT]at hu;cases hu
 |some u=>
  rw[hT]at hu
  cases u with
  |struct fs=>
   simp only at hu
   have hz:(zeroValue U).run P w=.ok (.agg ⟨[z0]⟩) w:=ay.run (t:=⟨tP.hz⟩) w
   have hm:(fs.mapM (fun f=>do pure (f.offset,←sizeOf f.type):Field→Sem (Nat×Nat))).run P w=.ok #[(0,1)] w:=by
    have:=qk (P:=P) (w:=w) hu
    rw[←Array.toArray_toList (xs:=fs),List.mapM_toArray]
    rw[Sem.run_map,this];rfl
   simp only[execOp,Instr.build,underlying]
   simp only[Sem.run_bind,hz,Result.andThen_ok,run_program,hT,Sem.run_pure,Value.cells]
   have hm':(Array.mapM (fun f=>do
     let __do_lift←sizeOf f.type
     pure (f.offset,__do_lift)) fs:Sem _).run P w=.ok #[(0,1)] w:=hm
   simp only[hm',Result.andThen_ok]
   have h1':Instr.fill (fun i=>(#[(0,1)]:Array (Nat×Nat))[i]?) ⟨[z0]⟩ [(0,v)]=some ⟨[v]⟩:=by
    simp[Instr.fill,iV hv]
    try rfl
   have e4:(Array.map (fun x=>match x with|(i,x)=>(i,ρ x)) #[(0,x)]).toList=[(0,v)]:=by simp[hx]
   simp only[e4,h1',Sem.run_pure,Result.andThen_ok]
  |_=>cases hu
theorem Sl{Q:Exit→AS→Prop}{id:Nat}{T U kt et t0:TypeId}[tM:Lp P T kt et]{k:IntKind}[tI:ij P kt k]{z0:Value}[tP:bU P U [(0,1)] [z0]]{f1 f2 f3 f4:FuncId}{n1 n2 n3 n4:Int}
  {p0 p1 p2 p3 p4 p5 p6 p7 p8 p9 Wm:String} {a0 a1 a2 a3 a4 a5 a6 a7 a8 a9 a10:Array Edge} {u1 u2 u3 u4 u5 u6 u7 u8 u9:TypeId} (hn:7≤S.n)
  (h2:Instr.findNow (.int k) (.int k n2) [⟨.int k n1,.agg #[.func (.func f1) #[] #[]],0⟩] 0=some none)
  (h3:Instr.findNow (.int k) (.int k n3) [⟨.int k n1,.agg #[.func (.func f1) #[] #[]],0⟩,⟨.int k n2,.agg #[.func (.func f2) #[] #[]],1⟩] 0=some none)
  (h4:Instr.findNow (.int k) (.int k n4) [⟨.int k n1,.agg #[.func (.func f1) #[] #[]],0⟩,⟨.int k n2,.agg #[.func (.func f2) #[] #[]],1⟩,⟨.int k n3,.agg #[.func (.func f3) #[] #[]],2⟩] 0=some none)
  (hQ:∀S',S'.t 0=.sv (OB [(.int k n1,.agg #[.func (.func f1) #[] #[]]),(.int k n2,.agg #[.func (.func f2) #[] #[]]),(.int k n3,.agg #[.func (.func f3) #[] #[]]),(.int k n4,.agg #[.func (.func f4) #[] #[]])])→Q .normal S'):
  Ok P C (.region id #[⟨some 1,.makeMap T none,t0,p0,a0,none⟩,⟨some 2,.build U #[(0,.func f1)],u1,p1,a1,none⟩,⟨none,.insert T (.tmp 1) (.const (.int k n1)) (.tmp 2),u2,p2,a2,none⟩,
   ⟨some 3,.build U #[(0,.func f2)],u3,p3,a3,none⟩,⟨none,.insert T (.tmp 1) (.const (.int k n2)) (.tmp 3),u4,p4,a4,none⟩,⟨some 4,.build U #[(0,.func f3)],u5,p5,a5,none⟩,⟨none,.insert T (.tmp 1) (.const (.int k n3)) (.tmp 4),u6,p6,a6,none⟩,
   ⟨some 5,.build U #[(0,.func f4)],u7,p7,a7,none⟩,⟨none,.insert T (.tmp 1) (.const (.int k n4)) (.tmp 5),u8,p8,a8,none⟩,⟨some 6,.move (.tmp 1),u9,p9,a9,none⟩,⟨some 0,.assign (.tmp 6),u9,Wm,a10,none⟩] false) S Q:=by
 rintro a w ⟨E,h⟩
 refine wpIn_region ?_
 show wpOpsIn _ _ _ _ _ [0,1,2,3,4,5,6,7,8,9,10] a w
 have hS:∀(S:AS) (d:Nat) (x:AV),(S.set d x).n=S.n:=fun _ _ _=>rfl
 rw[wpOpsIn_cons]
 refine cA (C:=C) rfl rfl (cC (C:=C) (by intro c h;cases h) run_make ?_)
 have g1:=h.put (d:=1) (x:=.sv (.v (.map (some w.heap.size)))) (v:=.map (some w.heap.size)) rfl (by omega) gB
 show wpOpsIn _ _ _ _ _ _ (a.put (some 1) _) _
 generalize a.put (some 1) (.map (some w.heap.size))=b1 at g1⊢
 rw[wpOpsIn_cons]
 refine cA (C:=C) rfl rfl (cC (C:=C) (by intro c h;cases h) (Bv rfl rfl) ?_)
 have g2:=g1.put (d:=2) (x:=.sv (.v (.agg #[.func (.func f1) #[] #[]]))) (v:=.agg #[.func (.func f1) #[] #[]]) rfl (by rw[hS];omega) gB
 show wpOpsIn _ _ _ _ _ _ (b1.put (some 2) (.agg #[.func (.func f1) #[] #[]])) _
 generalize b1.put (some 2) (.agg #[.func (.func f1) #[] #[]])=b2 at g2⊢
 rw[wpOpsIn_cons]
 refine cA (C:=C) rfl rfl (cC (C:=C) (by intro c h;cases h) (Bu (k:=k) (n:=n1) (v:=.agg #[.func (.func f1) #[] #[]]) (g2.ev (.tmp 1)) rfl (g2.ev (.tmp 2)) rfl) ?_)
 show wpOpsIn _ _ _ _ _ _ (b2.put none undef) _
 rw[show b2.put none undef=b2 from rfl,wpOpsIn_cons]
 refine cA (C:=C) rfl rfl (cC (C:=C) (by intro c h;cases h) (Bv rfl rfl) ?_)
 have g3:=g2.put (d:=3) (x:=.sv (.v (.agg #[.func (.func f2) #[] #[]]))) (v:=.agg #[.func (.func f2) #[] #[]]) rfl (by rw[hS,hS];omega) gB
 show wpOpsIn _ _ _ _ _ _ (b2.put (some 3) (.agg #[.func (.func f2) #[] #[]])) _
 generalize b2.put (some 3) (.agg #[.func (.func f2) #[] #[]])=b3 at g3⊢
 rw[wpOpsIn_cons]
 refine cA (C:=C) rfl rfl (cC (C:=C) (by intro c h;cases h) (Bu (k:=k) (n:=n2) (v:=.agg #[.func (.func f2) #[] #[]]) (g3.ev (.tmp 1)) rfl (g3.ev (.tmp 3)) (by simpa using h2)) ?_)
 show wpOpsIn _ _ _ _ _ _ (b3.put none undef) _
 rw[show b3.put none undef=b3 from rfl,wpOpsIn_cons]
 refine cA (C:=C) rfl rfl (cC (C:=C) (by intro c h;cases h) (Bv rfl rfl) ?_)
 have g4:=g3.put (d:=4) (x:=.sv (.v (.agg #[.func (.func f3) #[] #[]]))) (v:=.agg #[.func (.func f3) #[] #[]]) rfl (by rw[hS,hS,hS];omega) gB
 show wpOpsIn _ _ _ _ _ _ (b3.put (some 4) (.agg #[.func (.func f3) #[] #[]])) _
 generalize b3.put (some 4) (.agg #[.func (.func f3) #[] #[]])=b4 at g4⊢
 rw[wpOpsIn_cons]
 refine cA (C:=C) rfl rfl (cC (C:=C) (by intro c h;cases h) (Bu (k:=k) (n:=n3) (v:=.agg #[.func (.func f3) #[] #[]]) (g4.ev (.tmp 1)) rfl (g4.ev (.tmp 4)) (by simpa using h3)) ?_)
 show wpOpsIn _ _ _ _ _ _ (b4.put none undef) _
 rw[show b4.put none undef=b4 from rfl,wpOpsIn_cons]
 refine cA (C:=C) rfl rfl (cC (C:=C) (by intro c h;cases h) (Bv rfl rfl) ?_)
 have g5:=g4.put (d:=5) (x:=.sv (.v (.agg #[.func (.func f4) #[] #[]]))) (v:=.agg #[.func (.func f4) #[] #[]]) rfl (by rw[hS,hS,hS,hS];omega) gB
 show wpOpsIn _ _ _ _ _ _ (b4.put (some 5) (.agg #[.func (.func f4) #[] #[]])) _
 generalize b4.put (some 5) (.agg #[.func (.func f4) #[] #[]])=b5 at g5⊢
 rw[wpOpsIn_cons]
 refine cA (C:=C) rfl rfl (cC (C:=C) (by intro c h;cases h) (Bu (k:=k) (n:=n4) (v:=.agg #[.func (.func f4) #[] #[]]) (g5.ev (.tmp 1)) rfl (g5.ev (.tmp 5)) (by simpa using h4)) ?_)
 show wpOpsIn _ _ _ _ _ _ (b5.put none undef) _
 have e1:b5.eval (.tmp 1)=.map (some w.heap.size):=g5.ev (.tmp 1)
 obtain⟨ms,hms⟩:∃ms:Array MapEntry,(((((#[]:Array MapEntry).push ⟨.int k n1,.agg #[.func (.func f1) #[] #[]],0⟩).push ⟨.int k n2,.agg #[.func (.func f2) #[] #[]],0+1⟩).push ⟨.int k n3,.agg #[.func (.func f3) #[] #[]],0+1+1⟩).push ⟨.int k n4,.agg #[.func (.func f4) #[] #[]],0+1+1+1⟩)=ms:=⟨_,rfl⟩
 rw[hms]
 have hno:∀o,E.M w.heap.size o=none:=fun o=>by
  cases e:E.M w.heap.size o with
  |none=>rfl
  |some v=>have:=qM h.dm e;omega
 have g6:=g5.grow (M':=fun b o=>if b=w.heap.size∧o=0 then some (.tuple (RO ms))else E.M b o) (w':=ud w ms (0+1+1+1+1)) (fun b o v e=>by
   have:b≠w.heap.size:=by rintro rfl;rw[hno o]at e;cases e
   simp[this,e]) (fun b o v e=>by
   by_cases hb:b=w.heap.size∧o=0
   ·exact .inr (by omega)
   ·simp only[if_neg hb]at e;exact .inl e) (fun b o v e=>by
   by_cases hb:b=w.heap.size∧o=0
   ·simp only[if_pos hb]at e
    obtain⟨rfl,rfl⟩:=hb
    cases e
    exact⟨ms,_,zN w ms _,rfl⟩
   ·simp only[if_neg hb]at e
    have hlt:=qM h.dm e
    refine(h.dm b o v e).same ?_
    show(w.heap.push _)[b]? =_
    rw[Array.getElem?_push,if_neg (by omega)]) ((Below.refl _ _).alloc (Nat.le_refl _) _)
 have hm:∀X:Env,X.M w.heap.size 0=some (.tuple (RO ms))→(OB [(.int k n1,.agg #[.func (.func f1) #[] #[]]),(.int k n2,.agg #[.func (.func f2) #[] #[]]),(.int k n3,.agg #[.func (.func f3) #[] #[]]),(.int k n4,.agg #[.func (.func f4) #[] #[]])]).h X.M (.map (some w.heap.size)):=fun X hX=>by
  refine⟨_,rfl,?_⟩
  rw[hX,←hms];rfl
 have g7:=g6.put (d:=6) (x:=.sv (.v (.map (some w.heap.size)))) (v:=.map (some w.heap.size)) rfl (by rw[hS,hS,hS,hS,hS];omega) gB
 rw[show b5.put none undef=b5 from rfl,wpOpsIn_cons]
 refine cA (C:=C) rfl rfl (cC (C:=C) (by intro c h;cases h) (r:=.ok (.value (.map (some w.heap.size))) _) (by show Result.ok (Next.value (b5.eval (.tmp 1))) _=_;rw[e1]) ?_)
 show wpOpsIn _ _ _ _ _ _ (b5.put (some 6) (.map (some w.heap.size))) _
 generalize b5.put (some 6) (.map (some w.heap.size))=b6 at g7⊢
 have e6:b6.eval (.tmp 6)=.map (some w.heap.size):=g7.ev (.tmp 6)
 have g8:=g7.put (d:=0) (x:=.sv (OB [(.int k n1,.agg #[.func (.func f1) #[] #[]]),(.int k n2,.agg #[.func (.func f2) #[] #[]]),(.int k n3,.agg #[.func (.func f3) #[] #[]]),(.int k n4,.agg #[.func (.func f4) #[] #[]])])) (v:=.map (some w.heap.size)) (hm _ (by simp)) (by rw[hS,hS,hS,hS,hS,hS];omega) gB
 rw[wpOpsIn_cons]
 refine cA (C:=C) rfl rfl (cC (C:=C) (by intro c h;cases h) (r:=.ok (.value (.map (some w.heap.size))) _) (by show Result.ok (Next.value (b6.eval (.tmp 6))) _=_;rw[e6]) ?_)
 show wpOpsIn _ _ _ _ _ _ (b6.put (some 0) (.map (some w.heap.size))) _
 rw[wpOpsIn]
 exact⟨_,hQ _ rfl,_,g8⟩
end steps
theorem kX{P:Program}{b:Frame}{a:Act}{k:List Item}{cs:List Frame}{w:World}{c:Code}:step P (lone (b.atR a (.code (.scope c)::k)) cs w)=.next (lone (b.atR a (.code c:: .inScope c::k)) cs w):=
 step_lone_go (by simp[stepG,stepG.exec,Frame.atR])
theorem DS{P:Program}{b:Frame}{a:Act}{k:List Item}{cs:List Frame}{w:World}{c:Code}:step P (lone (b.atR a (.inScope c::k)) cs w)=.next (lone (b.atR a k) cs w):=
 step_lone_go (by simp[stepG,stepG.exec,Frame.atR])
theorem JJ{F:Fence}{n:Nat}{P:Program}{Q:Exit→Act→World→Prop}{a:Act}{w:World}{c:Code}(h:c.wpIn F n P (Exit.noGoto Q) a w):(Code.scope c).wpIn F n P Q a w:=by
 intro b k cs hro hb hr
 have h0:(lone (b.atR a (.code (.scope c)::k)) cs w).fenced P F:=fenced_calm hb hr rfl
 obtain⟨e,a₁,w₁,hq,MY⟩:=h b (.inScope c::k) cs hro hb hr
 cases e with
 |normal=>exact⟨.normal,a₁,w₁,hq,.head h0 kX (StepsIn.trans MY (.one (fenced_calm hb hr rfl) DS))⟩
 |exit id=>
  have hx:exitTo id (.inScope c::k)=exitTo id k:=by simp[exitTo]
  exact⟨.exit id,a₁,w₁,hq,fun k' hk=>.head h0 kX (MY.1 k' (by rw[hx];exact hk)),
   fun hr' hk=>let ⟨k₁,h1,h2⟩:=MY.2 hr' (by rw[hx];exact hk);⟨k₁,h1,.head h0 kX h2⟩⟩
 |goto l=>exact hq.elim
 |ret=>exact⟨_,a₁,w₁,hq,.of_steps (.one h0 kX) MY⟩
 |panic ch=>exact⟨_,a₁,w₁,hq,.of_steps (.one h0 kX) MY⟩
 |outgrown=>exact⟨_,a₁,w₁,hq,.of_steps (.one h0 kX) MY⟩
def OE(Q:Exit→AS→Prop):Exit→AS→Prop
 |.goto _,_=>False
 |e,S=>Q e S
section scope
variable {P:Program}{C:Ctx}{S:AS}{Q:Exit→AS→Prop}
theorem OE.n(h:Q .normal S):OE Q .normal S:=h
theorem OE.r(h:Q .ret S):OE Q .ret S:=h
theorem OE.x{id:Nat}(h:Q (.exit id) S):OE Q (.exit id) S:=h
theorem OF{c:Code}(h:Ok P C c S (OE Q)):Ok P C (.scope c) S Q:=fun a w hs=>by
 refine JJ (wpIn_mono (h a w hs) ?_)
 rintro e a' w' ⟨S',q,hh⟩
 cases e<;>first|exact⟨S',q,hh⟩|exact q.elim
theorem OG{l:Nat}(h:Q .normal S):Ok P C (.label l) S Q:=fun _ _ hs=>wpIn_label ⟨S,h,hs⟩
end scope
end Go.Fw
namespace Go.Fw
open Go.RowKit
class T9 (P:Program) (T:TypeId) (n:outParam Nat) (E:outParam TypeId) (sz:outParam Nat) (z:outParam (List Value)):Prop where
 u:P.underlying T=some (.array n E)
 s:(P.info? E).map (·.size)=some sz
 hz:(P.info? T).bind (·.zero)=some (.agg ⟨z⟩)
 o:z.all (fun v=>v.oneCell')=true
theorem T9.size{P:Program}{T E:TypeId}{n sz:Nat}{z:List Value}[t:T9 P T n E sz z](w:World):(sizeOf E).run P w=.ok sz w:=by
 have h:=t.s
 unfold Go.sizeOf typeInfo
 cases hi:P.info? E with
 |none=>rw[hi]at h;simp at h
 |some i=>rw[hi]at h;simp at h;simp[hi,h]
section
variable {P:Program}{C:Ctx}{ops:Array Oper}{S:AS}{nd:Bool}{K:List Ac→AS→Prop}{rest:List Oper}{acc:List Ac}
variable {gd:Option (Nat×Bool)}{rg:List Nat}{d:Nat}{ty:TypeId}{pos:String}{aft:Array Edge}{x y z:Operand}{T U E0:TypeId}
end
end Go.Fw
namespace Go.Proofs.YtfoldppidpmchaaGreat
open Go.Fw
open Go.Proofs
instance:bY Tryz.prog 1:=⟨by kernel_rfl,by kernel_rfl⟩
instance:ay Tryz.prog 1 (.nilFunc):=⟨by kernel_rfl⟩
instance:aP Tryz.prog 1 1 8 (.nilFunc):=⟨by kernel_rfl,by rfl,by decide,by decide⟩
instance:ij Tryz.prog 2 .i64:=⟨by kernel_rfl⟩
instance:bY Tryz.prog 2:=⟨by kernel_rfl,by kernel_rfl⟩
instance:ay Tryz.prog 2 (.int .i64 0):=⟨by kernel_rfl⟩
instance:aP Tryz.prog 2 1 8 (.int .i64 0):=⟨by kernel_rfl,by rfl,by decide,by decide⟩
instance:ij Tryz.prog 3 .i64:=⟨by kernel_rfl⟩
instance:bY Tryz.prog 3:=⟨by kernel_rfl,by kernel_rfl⟩
instance:ay Tryz.prog 3 (.int .i64 0):=⟨by kernel_rfl⟩
instance:aP Tryz.prog 3 1 8 (.int .i64 0):=⟨by kernel_rfl,by rfl,by decide,by decide⟩
instance:BM Tryz.prog 4:=⟨by kernel_rfl⟩
instance:bY Tryz.prog 4:=⟨by kernel_rfl,by kernel_rfl⟩
instance:ay Tryz.prog 4 (.bool false):=⟨by kernel_rfl⟩
instance:aP Tryz.prog 4 1 1 (.bool false):=⟨by kernel_rfl,by rfl,by decide,by decide⟩
instance:ij Tryz.prog 5 .u8:=⟨by kernel_rfl⟩
instance:bY Tryz.prog 5:=⟨by kernel_rfl,by kernel_rfl⟩
instance:ay Tryz.prog 5 (.int .u8 0):=⟨by kernel_rfl⟩
instance:aP Tryz.prog 5 1 1 (.int .u8 0):=⟨by kernel_rfl,by rfl,by decide,by decide⟩
instance:ij Tryz.prog 6 .u8:=⟨by kernel_rfl⟩
instance:bY Tryz.prog 6:=⟨by kernel_rfl,by kernel_rfl⟩
instance:ay Tryz.prog 6 (.int .u8 0):=⟨by kernel_rfl⟩
instance:aP Tryz.prog 6 1 1 (.int .u8 0):=⟨by kernel_rfl,by rfl,by decide,by decide⟩
instance:jq Tryz.prog 7 4:=⟨by kernel_rfl,by kernel_rfl⟩
instance:gV Tryz.prog 7:=⟨fun w=>⟨3,jq.size (T:=7) (n:=4) w⟩⟩
instance:ay Tryz.prog 7 (.agg #[.int .i64 0,.int .i64 0,.bool false,.int .u8 0]):=⟨by kernel_rfl⟩
instance:aP Tryz.prog 7 4 24 (.agg #[.int .i64 0,.int .i64 0,.bool false,.int .u8 0]):=⟨by kernel_rfl,by rfl,by decide,by decide⟩
instance:bU Tryz.prog 7 [(0,1),(1,1),(2,1),(3,1)] [.int .i64 0,.int .i64 0,.bool false,.int .u8 0]:=⟨by kernel_rfl,by kernel_rfl,by rfl⟩
instance:gU Tryz.prog 7 0 0 2:=⟨by kernel_rfl⟩
instance:gU Tryz.prog 7 1 1 3:=⟨by kernel_rfl⟩
instance:gU Tryz.prog 7 2 2 4:=⟨by kernel_rfl⟩
instance:gU Tryz.prog 7 3 3 6:=⟨by kernel_rfl⟩
instance:jq Tryz.prog 8 4:=⟨by kernel_rfl,by kernel_rfl⟩
instance:gV Tryz.prog 8:=⟨fun w=>⟨3,jq.size (T:=8) (n:=4) w⟩⟩
instance:ay Tryz.prog 8 (.agg #[.int .i64 0,.int .i64 0,.bool false,.int .u8 0]):=⟨by kernel_rfl⟩
instance:aP Tryz.prog 8 4 24 (.agg #[.int .i64 0,.int .i64 0,.bool false,.int .u8 0]):=⟨by kernel_rfl,by rfl,by decide,by decide⟩
instance:bU Tryz.prog 8 [(0,1),(1,1),(2,1),(3,1)] [.int .i64 0,.int .i64 0,.bool false,.int .u8 0]:=⟨by kernel_rfl,by kernel_rfl,by rfl⟩
instance:gU Tryz.prog 8 0 0 2:=⟨by kernel_rfl⟩
instance:gU Tryz.prog 8 1 1 3:=⟨by kernel_rfl⟩
instance:gU Tryz.prog 8 2 2 4:=⟨by kernel_rfl⟩
instance:gU Tryz.prog 8 3 3 6:=⟨by kernel_rfl⟩
instance:G3 Tryz.prog 9:=⟨by kernel_rfl⟩
instance:bY Tryz.prog 9:=⟨by kernel_rfl,by kernel_rfl⟩
instance:ay Tryz.prog 9 (.string (ByteArray.mk #[])):=⟨by kernel_rfl⟩
instance:aP Tryz.prog 9 1 16 (.string (ByteArray.mk #[])):=⟨by kernel_rfl,by rfl,by decide,by decide⟩
instance:G3 Tryz.prog 10:=⟨by kernel_rfl⟩
instance:bY Tryz.prog 10:=⟨by kernel_rfl,by kernel_rfl⟩
instance:ay Tryz.prog 10 (.string (ByteArray.mk #[])):=⟨by kernel_rfl⟩
instance:aP Tryz.prog 10 1 16 (.string (ByteArray.mk #[])):=⟨by kernel_rfl,by rfl,by decide,by decide⟩
instance:G3 Tryz.prog 11:=⟨by kernel_rfl⟩
instance:bY Tryz.prog 11:=⟨by kernel_rfl,by kernel_rfl⟩
instance:ay Tryz.prog 11 (.string (ByteArray.mk #[])):=⟨by kernel_rfl⟩
instance:aP Tryz.prog 11 1 16 (.string (ByteArray.mk #[])):=⟨by kernel_rfl,by rfl,by decide,by decide⟩
instance:ij Tryz.prog 12 .u64:=⟨by kernel_rfl⟩
instance:bY Tryz.prog 12:=⟨by kernel_rfl,by kernel_rfl⟩
instance:ay Tryz.prog 12 (.int .u64 0):=⟨by kernel_rfl⟩
instance:aP Tryz.prog 12 1 8 (.int .u64 0):=⟨by kernel_rfl,by rfl,by decide,by decide⟩
instance:jq Tryz.prog 13 2:=⟨by kernel_rfl,by kernel_rfl⟩
instance:gV Tryz.prog 13:=⟨fun w=>⟨1,jq.size (T:=13) (n:=2) w⟩⟩
instance:ay Tryz.prog 13 (.agg #[.string (ByteArray.mk #[]),.int .u64 0]):=⟨by kernel_rfl⟩
instance:aP Tryz.prog 13 2 24 (.agg #[.string (ByteArray.mk #[]),.int .u64 0]):=⟨by kernel_rfl,by rfl,by decide,by decide⟩
instance:bU Tryz.prog 13 [(0,1),(1,1)] [.string (ByteArray.mk #[]),.int .u64 0]:=⟨by kernel_rfl,by kernel_rfl,by rfl⟩
instance:gU Tryz.prog 13 0 0 9:=⟨by kernel_rfl⟩
instance:gU Tryz.prog 13 1 1 12:=⟨by kernel_rfl⟩
instance:jq Tryz.prog 14 2:=⟨by kernel_rfl,by kernel_rfl⟩
instance:gV Tryz.prog 14:=⟨fun w=>⟨1,jq.size (T:=14) (n:=2) w⟩⟩
instance:ay Tryz.prog 14 (.agg #[.string (ByteArray.mk #[]),.int .u64 0]):=⟨by kernel_rfl⟩
instance:aP Tryz.prog 14 2 24 (.agg #[.string (ByteArray.mk #[]),.int .u64 0]):=⟨by kernel_rfl,by rfl,by decide,by decide⟩
instance:bU Tryz.prog 14 [(0,1),(1,1)] [.string (ByteArray.mk #[]),.int .u64 0]:=⟨by kernel_rfl,by kernel_rfl,by rfl⟩
instance:gU Tryz.prog 14 0 0 9:=⟨by kernel_rfl⟩
instance:gU Tryz.prog 14 1 1 12:=⟨by kernel_rfl⟩
instance:bY Tryz.prog 15:=⟨by kernel_rfl,by kernel_rfl⟩
instance:ay Tryz.prog 15 (.pointer none):=⟨by kernel_rfl⟩
instance:aP Tryz.prog 15 1 8 (.pointer none):=⟨by kernel_rfl,by rfl,by decide,by decide⟩
instance:bY Tryz.prog 16:=⟨by kernel_rfl,by kernel_rfl⟩
instance:ay Tryz.prog 16 (.pointer none):=⟨by kernel_rfl⟩
instance:aP Tryz.prog 16 1 8 (.pointer none):=⟨by kernel_rfl,by rfl,by decide,by decide⟩
instance:bY Tryz.prog 17:=⟨by kernel_rfl,by kernel_rfl⟩
instance:ay Tryz.prog 17 (.pointer none):=⟨by kernel_rfl⟩
instance:aP Tryz.prog 17 1 8 (.pointer none):=⟨by kernel_rfl,by rfl,by decide,by decide⟩
instance:jq Tryz.prog 18 1:=⟨by kernel_rfl,by kernel_rfl⟩
instance:gV Tryz.prog 18:=⟨fun w=>⟨0,jq.size (T:=18) (n:=1) w⟩⟩
instance:ay Tryz.prog 18 (.agg #[.pointer none]):=⟨by kernel_rfl⟩
instance:aP Tryz.prog 18 1 8 (.agg #[.pointer none]):=⟨by kernel_rfl,by rfl,by decide,by decide⟩
instance:bU Tryz.prog 18 [(0,1)] [.pointer none]:=⟨by kernel_rfl,by kernel_rfl,by rfl⟩
instance:gU Tryz.prog 18 0 0 17:=⟨by kernel_rfl⟩
instance:jq Tryz.prog 19 1:=⟨by kernel_rfl,by kernel_rfl⟩
instance:gV Tryz.prog 19:=⟨fun w=>⟨0,jq.size (T:=19) (n:=1) w⟩⟩
instance:ay Tryz.prog 19 (.agg #[.pointer none]):=⟨by kernel_rfl⟩
instance:aP Tryz.prog 19 1 8 (.agg #[.pointer none]):=⟨by kernel_rfl,by rfl,by decide,by decide⟩
instance:bU Tryz.prog 19 [(0,1)] [.pointer none]:=⟨by kernel_rfl,by kernel_rfl,by rfl⟩
instance:gU Tryz.prog 19 0 0 17:=⟨by kernel_rfl⟩
instance:bY Tryz.prog 20:=⟨by kernel_rfl,by kernel_rfl⟩
instance:ay Tryz.prog 20 (.nilIface):=⟨by kernel_rfl⟩
instance:aP Tryz.prog 20 1 16 (.nilIface):=⟨by kernel_rfl,by rfl,by decide,by decide⟩
instance:ij Tryz.prog 21 .i32:=⟨by kernel_rfl⟩
instance:bY Tryz.prog 21:=⟨by kernel_rfl,by kernel_rfl⟩
instance:ay Tryz.prog 21 (.int .i32 0):=⟨by kernel_rfl⟩
instance:aP Tryz.prog 21 1 4 (.int .i32 0):=⟨by kernel_rfl,by rfl,by decide,by decide⟩
instance:bY Tryz.prog 22:=⟨by kernel_rfl,by kernel_rfl⟩
instance:ay Tryz.prog 22 (.nilFunc):=⟨by kernel_rfl⟩
instance:aP Tryz.prog 22 1 8 (.nilFunc):=⟨by kernel_rfl,by rfl,by decide,by decide⟩
instance:bY Tryz.prog 23:=⟨by kernel_rfl,by kernel_rfl⟩
instance:ay Tryz.prog 23 (.slice none 0 0):=⟨by kernel_rfl⟩
instance:aP Tryz.prog 23 1 24 (.slice none 0 0):=⟨by kernel_rfl,by rfl,by decide,by decide⟩
instance:eR Tryz.prog 23 24 1:=⟨by kernel_rfl,by kernel_rfl⟩
instance:bY Tryz.prog 24:=⟨by kernel_rfl,by kernel_rfl⟩
instance:ay Tryz.prog 24 (.slice none 0 0):=⟨by kernel_rfl⟩
instance:aP Tryz.prog 24 1 24 (.slice none 0 0):=⟨by kernel_rfl,by rfl,by decide,by decide⟩
instance:eR Tryz.prog 24 36 4:=⟨by kernel_rfl,by kernel_rfl⟩
instance:jq Tryz.prog 25 4:=⟨by kernel_rfl,by kernel_rfl⟩
instance:gV Tryz.prog 25:=⟨fun w=>⟨3,jq.size (T:=25) (n:=4) w⟩⟩
instance:ay Tryz.prog 25 (.agg #[.int .i64 0,.slice none 0 0,.slice none 0 0,.slice none 0 0]):=⟨by kernel_rfl⟩
instance:aP Tryz.prog 25 4 80 (.agg #[.int .i64 0,.slice none 0 0,.slice none 0 0,.slice none 0 0]):=⟨by kernel_rfl,by rfl,by decide,by decide⟩
instance:bU Tryz.prog 25 [(0,1),(1,1),(2,1),(3,1)] [.int .i64 0,.slice none 0 0,.slice none 0 0,.slice none 0 0]:=⟨by kernel_rfl,by kernel_rfl,by rfl⟩
instance:gU Tryz.prog 25 0 0 3:=⟨by kernel_rfl⟩
instance:gU Tryz.prog 25 1 1 23:=⟨by kernel_rfl⟩
instance:gU Tryz.prog 25 2 2 23:=⟨by kernel_rfl⟩
instance:gU Tryz.prog 25 3 3 24:=⟨by kernel_rfl⟩
instance:jq Tryz.prog 26 4:=⟨by kernel_rfl,by kernel_rfl⟩
instance:gV Tryz.prog 26:=⟨fun w=>⟨3,jq.size (T:=26) (n:=4) w⟩⟩
instance:ay Tryz.prog 26 (.agg #[.int .i64 0,.slice none 0 0,.slice none 0 0,.slice none 0 0]):=⟨by kernel_rfl⟩
instance:aP Tryz.prog 26 4 80 (.agg #[.int .i64 0,.slice none 0 0,.slice none 0 0,.slice none 0 0]):=⟨by kernel_rfl,by rfl,by decide,by decide⟩
instance:bU Tryz.prog 26 [(0,1),(1,1),(2,1),(3,1)] [.int .i64 0,.slice none 0 0,.slice none 0 0,.slice none 0 0]:=⟨by kernel_rfl,by kernel_rfl,by rfl⟩
instance:gU Tryz.prog 26 0 0 3:=⟨by kernel_rfl⟩
instance:gU Tryz.prog 26 1 1 23:=⟨by kernel_rfl⟩
instance:gU Tryz.prog 26 2 2 23:=⟨by kernel_rfl⟩
instance:gU Tryz.prog 26 3 3 24:=⟨by kernel_rfl⟩
instance:bY Tryz.prog 27:=⟨by kernel_rfl,by kernel_rfl⟩
instance:ay Tryz.prog 27 (.nilFunc):=⟨by kernel_rfl⟩
instance:aP Tryz.prog 27 1 8 (.nilFunc):=⟨by kernel_rfl,by rfl,by decide,by decide⟩
instance:bY Tryz.prog 28:=⟨by kernel_rfl,by kernel_rfl⟩
instance:ay Tryz.prog 28 (.nilFunc):=⟨by kernel_rfl⟩
instance:aP Tryz.prog 28 1 8 (.nilFunc):=⟨by kernel_rfl,by rfl,by decide,by decide⟩
instance:ij Tryz.prog 29 .i64:=⟨by kernel_rfl⟩
instance:bY Tryz.prog 29:=⟨by kernel_rfl,by kernel_rfl⟩
instance:ay Tryz.prog 29 (.int .i64 0):=⟨by kernel_rfl⟩
instance:aP Tryz.prog 29 1 8 (.int .i64 0):=⟨by kernel_rfl,by rfl,by decide,by decide⟩
instance:bY Tryz.prog 31:=⟨by kernel_rfl,by kernel_rfl⟩
instance:ay Tryz.prog 31 (.nilFunc):=⟨by kernel_rfl⟩
instance:aP Tryz.prog 31 1 8 (.nilFunc):=⟨by kernel_rfl,by rfl,by decide,by decide⟩
instance:bY Tryz.prog 32:=⟨by kernel_rfl,by kernel_rfl⟩
instance:ay Tryz.prog 32 (.slice none 0 0):=⟨by kernel_rfl⟩
instance:aP Tryz.prog 32 1 24 (.slice none 0 0):=⟨by kernel_rfl,by rfl,by decide,by decide⟩
instance:eR Tryz.prog 32 106 1:=⟨by kernel_rfl,by kernel_rfl⟩
instance:jq Tryz.prog 33 2:=⟨by kernel_rfl,by kernel_rfl⟩
instance:gV Tryz.prog 33:=⟨fun w=>⟨1,jq.size (T:=33) (n:=2) w⟩⟩
instance:ay Tryz.prog 33 (.agg #[.bool false,.slice none 0 0]):=⟨by kernel_rfl⟩
instance:aP Tryz.prog 33 2 32 (.agg #[.bool false,.slice none 0 0]):=⟨by kernel_rfl,by rfl,by decide,by decide⟩
instance:bU Tryz.prog 33 [(0,1),(1,1)] [.bool false,.slice none 0 0]:=⟨by kernel_rfl,by kernel_rfl,by rfl⟩
instance:gU Tryz.prog 33 0 0 4:=⟨by kernel_rfl⟩
instance:gU Tryz.prog 33 1 1 32:=⟨by kernel_rfl⟩
instance:jq Tryz.prog 34 2:=⟨by kernel_rfl,by kernel_rfl⟩
instance:gV Tryz.prog 34:=⟨fun w=>⟨1,jq.size (T:=34) (n:=2) w⟩⟩
instance:ay Tryz.prog 34 (.agg #[.bool false,.slice none 0 0]):=⟨by kernel_rfl⟩
instance:aP Tryz.prog 34 2 32 (.agg #[.bool false,.slice none 0 0]):=⟨by kernel_rfl,by rfl,by decide,by decide⟩
instance:bU Tryz.prog 34 [(0,1),(1,1)] [.bool false,.slice none 0 0]:=⟨by kernel_rfl,by kernel_rfl,by rfl⟩
instance:gU Tryz.prog 34 0 0 4:=⟨by kernel_rfl⟩
instance:gU Tryz.prog 34 1 1 32:=⟨by kernel_rfl⟩
instance:jq Tryz.prog 35 4:=⟨by kernel_rfl,by kernel_rfl⟩
instance:gV Tryz.prog 35:=⟨fun w=>⟨3,jq.size (T:=35) (n:=4) w⟩⟩
instance:ay Tryz.prog 35 (.agg #[.bool false,.slice none 0 0,.bool false,.slice none 0 0]):=⟨by kernel_rfl⟩
instance:aP Tryz.prog 35 4 64 (.agg #[.bool false,.slice none 0 0,.bool false,.slice none 0 0]):=⟨by kernel_rfl,by rfl,by decide,by decide⟩
instance:bU Tryz.prog 35 [(0,2),(2,2)] [.bool false,.slice none 0 0,.bool false,.slice none 0 0]:=⟨by kernel_rfl,by kernel_rfl,by rfl⟩
instance:gU Tryz.prog 35 0 0 34:=⟨by kernel_rfl⟩
instance:gU Tryz.prog 35 1 2 34:=⟨by kernel_rfl⟩
instance:jq Tryz.prog 36 4:=⟨by kernel_rfl,by kernel_rfl⟩
instance:gV Tryz.prog 36:=⟨fun w=>⟨3,jq.size (T:=36) (n:=4) w⟩⟩
instance:ay Tryz.prog 36 (.agg #[.bool false,.slice none 0 0,.bool false,.slice none 0 0]):=⟨by kernel_rfl⟩
instance:aP Tryz.prog 36 4 64 (.agg #[.bool false,.slice none 0 0,.bool false,.slice none 0 0]):=⟨by kernel_rfl,by rfl,by decide,by decide⟩
instance:bU Tryz.prog 36 [(0,2),(2,2)] [.bool false,.slice none 0 0,.bool false,.slice none 0 0]:=⟨by kernel_rfl,by kernel_rfl,by rfl⟩
instance:gU Tryz.prog 36 0 0 34:=⟨by kernel_rfl⟩
instance:gU Tryz.prog 36 1 2 34:=⟨by kernel_rfl⟩
instance:bY Tryz.prog 37:=⟨by kernel_rfl,by kernel_rfl⟩
instance:ay Tryz.prog 37 (.nilFunc):=⟨by kernel_rfl⟩
instance:aP Tryz.prog 37 1 8 (.nilFunc):=⟨by kernel_rfl,by rfl,by decide,by decide⟩
instance:bY Tryz.prog 38:=⟨by kernel_rfl,by kernel_rfl⟩
instance:ay Tryz.prog 38 (.nilFunc):=⟨by kernel_rfl⟩
instance:aP Tryz.prog 38 1 8 (.nilFunc):=⟨by kernel_rfl,by rfl,by decide,by decide⟩
instance:bY Tryz.prog 39:=⟨by kernel_rfl,by kernel_rfl⟩
instance:ay Tryz.prog 39 (.nilFunc):=⟨by kernel_rfl⟩
instance:aP Tryz.prog 39 1 8 (.nilFunc):=⟨by kernel_rfl,by rfl,by decide,by decide⟩
instance:bY Tryz.prog 40:=⟨by kernel_rfl,by kernel_rfl⟩
instance:ay Tryz.prog 40 (.nilFunc):=⟨by kernel_rfl⟩
instance:aP Tryz.prog 40 1 8 (.nilFunc):=⟨by kernel_rfl,by rfl,by decide,by decide⟩
instance:bY Tryz.prog 42:=⟨by kernel_rfl,by kernel_rfl⟩
instance:ay Tryz.prog 42 (.nilFunc):=⟨by kernel_rfl⟩
instance:aP Tryz.prog 42 1 8 (.nilFunc):=⟨by kernel_rfl,by rfl,by decide,by decide⟩
instance:bY Tryz.prog 43:=⟨by kernel_rfl,by kernel_rfl⟩
instance:ay Tryz.prog 43 (.nilFunc):=⟨by kernel_rfl⟩
instance:aP Tryz.prog 43 1 8 (.nilFunc):=⟨by kernel_rfl,by rfl,by decide,by decide⟩
instance:bY Tryz.prog 44:=⟨by kernel_rfl,by kernel_rfl⟩
instance:ay Tryz.prog 44 (.nilFunc):=⟨by kernel_rfl⟩
instance:aP Tryz.prog 44 1 8 (.nilFunc):=⟨by kernel_rfl,by rfl,by decide,by decide⟩
instance:bY Tryz.prog 45:=⟨by kernel_rfl,by kernel_rfl⟩
instance:ay Tryz.prog 45 (.nilFunc):=⟨by kernel_rfl⟩
instance:aP Tryz.prog 45 1 8 (.nilFunc):=⟨by kernel_rfl,by rfl,by decide,by decide⟩
instance:bY Tryz.prog 46:=⟨by kernel_rfl,by kernel_rfl⟩
instance:ay Tryz.prog 46 (.nilFunc):=⟨by kernel_rfl⟩
instance:aP Tryz.prog 46 1 8 (.nilFunc):=⟨by kernel_rfl,by rfl,by decide,by decide⟩
instance:bY Tryz.prog 47:=⟨by kernel_rfl,by kernel_rfl⟩
instance:ay Tryz.prog 47 (.nilFunc):=⟨by kernel_rfl⟩
instance:aP Tryz.prog 47 1 8 (.nilFunc):=⟨by kernel_rfl,by rfl,by decide,by decide⟩
instance:bY Tryz.prog 48:=⟨by kernel_rfl,by kernel_rfl⟩
instance:ay Tryz.prog 48 (.nilFunc):=⟨by kernel_rfl⟩
instance:aP Tryz.prog 48 1 8 (.nilFunc):=⟨by kernel_rfl,by rfl,by decide,by decide⟩
instance:bY Tryz.prog 49:=⟨by kernel_rfl,by kernel_rfl⟩
instance:ay Tryz.prog 49 (.nilFunc):=⟨by kernel_rfl⟩
instance:aP Tryz.prog 49 1 8 (.nilFunc):=⟨by kernel_rfl,by rfl,by decide,by decide⟩
instance:bY Tryz.prog 50:=⟨by kernel_rfl,by kernel_rfl⟩
instance:ay Tryz.prog 50 (.nilFunc):=⟨by kernel_rfl⟩
instance:aP Tryz.prog 50 1 8 (.nilFunc):=⟨by kernel_rfl,by rfl,by decide,by decide⟩
instance:bY Tryz.prog 51:=⟨by kernel_rfl,by kernel_rfl⟩
instance:ay Tryz.prog 51 (.nilFunc):=⟨by kernel_rfl⟩
instance:aP Tryz.prog 51 1 8 (.nilFunc):=⟨by kernel_rfl,by rfl,by decide,by decide⟩
instance:bY Tryz.prog 52:=⟨by kernel_rfl,by kernel_rfl⟩
instance:ay Tryz.prog 52 (.nilFunc):=⟨by kernel_rfl⟩
instance:aP Tryz.prog 52 1 8 (.nilFunc):=⟨by kernel_rfl,by rfl,by decide,by decide⟩
instance:bY Tryz.prog 53:=⟨by kernel_rfl,by kernel_rfl⟩
instance:ay Tryz.prog 53 (.nilFunc):=⟨by kernel_rfl⟩
instance:aP Tryz.prog 53 1 8 (.nilFunc):=⟨by kernel_rfl,by rfl,by decide,by decide⟩
instance:bY Tryz.prog 54:=⟨by kernel_rfl,by kernel_rfl⟩
instance:ay Tryz.prog 54 (.nilFunc):=⟨by kernel_rfl⟩
instance:aP Tryz.prog 54 1 8 (.nilFunc):=⟨by kernel_rfl,by rfl,by decide,by decide⟩
instance:bY Tryz.prog 55:=⟨by kernel_rfl,by kernel_rfl⟩
instance:ay Tryz.prog 55 (.nilFunc):=⟨by kernel_rfl⟩
instance:aP Tryz.prog 55 1 8 (.nilFunc):=⟨by kernel_rfl,by rfl,by decide,by decide⟩
instance:bY Tryz.prog 56:=⟨by kernel_rfl,by kernel_rfl⟩
instance:ay Tryz.prog 56 (.nilFunc):=⟨by kernel_rfl⟩
instance:aP Tryz.prog 56 1 8 (.nilFunc):=⟨by kernel_rfl,by rfl,by decide,by decide⟩
instance:bY Tryz.prog 58:=⟨by kernel_rfl,by kernel_rfl⟩
instance:ay Tryz.prog 58 (.nilFunc):=⟨by kernel_rfl⟩
instance:aP Tryz.prog 58 1 8 (.nilFunc):=⟨by kernel_rfl,by rfl,by decide,by decide⟩
instance:bY Tryz.prog 59:=⟨by kernel_rfl,by kernel_rfl⟩
instance:ay Tryz.prog 59 (.nilFunc):=⟨by kernel_rfl⟩
instance:aP Tryz.prog 59 1 8 (.nilFunc):=⟨by kernel_rfl,by rfl,by decide,by decide⟩
instance:bY Tryz.prog 60:=⟨by kernel_rfl,by kernel_rfl⟩
instance:ay Tryz.prog 60 (.nilFunc):=⟨by kernel_rfl⟩
instance:aP Tryz.prog 60 1 8 (.nilFunc):=⟨by kernel_rfl,by rfl,by decide,by decide⟩
instance:bY Tryz.prog 61:=⟨by kernel_rfl,by kernel_rfl⟩
instance:ay Tryz.prog 61 (.nilFunc):=⟨by kernel_rfl⟩
instance:aP Tryz.prog 61 1 8 (.nilFunc):=⟨by kernel_rfl,by rfl,by decide,by decide⟩
instance:bY Tryz.prog 62:=⟨by kernel_rfl,by kernel_rfl⟩
instance:ay Tryz.prog 62 (.slice none 0 0):=⟨by kernel_rfl⟩
instance:aP Tryz.prog 62 1 24 (.slice none 0 0):=⟨by kernel_rfl,by rfl,by decide,by decide⟩
instance:eR Tryz.prog 62 2 1:=⟨by kernel_rfl,by kernel_rfl⟩
instance:bY Tryz.prog 63:=⟨by kernel_rfl,by kernel_rfl⟩
instance:ay Tryz.prog 63 (.nilFunc):=⟨by kernel_rfl⟩
instance:aP Tryz.prog 63 1 8 (.nilFunc):=⟨by kernel_rfl,by rfl,by decide,by decide⟩
instance:bY Tryz.prog 64:=⟨by kernel_rfl,by kernel_rfl⟩
instance:ay Tryz.prog 64 (.nilFunc):=⟨by kernel_rfl⟩
instance:aP Tryz.prog 64 1 8 (.nilFunc):=⟨by kernel_rfl,by rfl,by decide,by decide⟩
instance:bY Tryz.prog 65:=⟨by kernel_rfl,by kernel_rfl⟩
instance:ay Tryz.prog 65 (.nilFunc):=⟨by kernel_rfl⟩
instance:aP Tryz.prog 65 1 8 (.nilFunc):=⟨by kernel_rfl,by rfl,by decide,by decide⟩
instance:bY Tryz.prog 66:=⟨by kernel_rfl,by kernel_rfl⟩
instance:ay Tryz.prog 66 (.nilFunc):=⟨by kernel_rfl⟩
instance:aP Tryz.prog 66 1 8 (.nilFunc):=⟨by kernel_rfl,by rfl,by decide,by decide⟩
instance:bY Tryz.prog 67:=⟨by kernel_rfl,by kernel_rfl⟩
instance:ay Tryz.prog 67 (.nilFunc):=⟨by kernel_rfl⟩
instance:aP Tryz.prog 67 1 8 (.nilFunc):=⟨by kernel_rfl,by rfl,by decide,by decide⟩
instance:bY Tryz.prog 68:=⟨by kernel_rfl,by kernel_rfl⟩
instance:ay Tryz.prog 68 (.nilFunc):=⟨by kernel_rfl⟩
instance:aP Tryz.prog 68 1 8 (.nilFunc):=⟨by kernel_rfl,by rfl,by decide,by decide⟩
instance:bY Tryz.prog 69:=⟨by kernel_rfl,by kernel_rfl⟩
instance:ay Tryz.prog 69 (.nilFunc):=⟨by kernel_rfl⟩
instance:aP Tryz.prog 69 1 8 (.nilFunc):=⟨by kernel_rfl,by rfl,by decide,by decide⟩
instance:jq Tryz.prog 70 4:=⟨by kernel_rfl,by kernel_rfl⟩
instance:gV Tryz.prog 70:=⟨fun w=>⟨3,jq.size (T:=70) (n:=4) w⟩⟩
instance:ay Tryz.prog 70 (.agg #[.int .i64 0,.int .i64 0,.int .i64 0,.int .i64 0]):=⟨by kernel_rfl⟩
instance:aP Tryz.prog 70 4 32 (.agg #[.int .i64 0,.int .i64 0,.int .i64 0,.int .i64 0]):=⟨by kernel_rfl,by rfl,by decide,by decide⟩
instance:bU Tryz.prog 70 [(0,1),(1,1),(2,1),(3,1)] [.int .i64 0,.int .i64 0,.int .i64 0,.int .i64 0]:=⟨by kernel_rfl,by kernel_rfl,by rfl⟩
instance:gU Tryz.prog 70 0 0 3:=⟨by kernel_rfl⟩
instance:gU Tryz.prog 70 1 1 3:=⟨by kernel_rfl⟩
instance:gU Tryz.prog 70 2 2 3:=⟨by kernel_rfl⟩
instance:gU Tryz.prog 70 3 3 3:=⟨by kernel_rfl⟩
instance:jq Tryz.prog 71 4:=⟨by kernel_rfl,by kernel_rfl⟩
instance:gV Tryz.prog 71:=⟨fun w=>⟨3,jq.size (T:=71) (n:=4) w⟩⟩
instance:ay Tryz.prog 71 (.agg #[.int .i64 0,.int .i64 0,.int .i64 0,.int .i64 0]):=⟨by kernel_rfl⟩
instance:aP Tryz.prog 71 4 32 (.agg #[.int .i64 0,.int .i64 0,.int .i64 0,.int .i64 0]):=⟨by kernel_rfl,by rfl,by decide,by decide⟩
instance:bU Tryz.prog 71 [(0,1),(1,1),(2,1),(3,1)] [.int .i64 0,.int .i64 0,.int .i64 0,.int .i64 0]:=⟨by kernel_rfl,by kernel_rfl,by rfl⟩
instance:gU Tryz.prog 71 0 0 3:=⟨by kernel_rfl⟩
instance:gU Tryz.prog 71 1 1 3:=⟨by kernel_rfl⟩
instance:gU Tryz.prog 71 2 2 3:=⟨by kernel_rfl⟩
instance:gU Tryz.prog 71 3 3 3:=⟨by kernel_rfl⟩
instance:bY Tryz.prog 72:=⟨by kernel_rfl,by kernel_rfl⟩
instance:ay Tryz.prog 72 (.nilFunc):=⟨by kernel_rfl⟩
instance:aP Tryz.prog 72 1 8 (.nilFunc):=⟨by kernel_rfl,by rfl,by decide,by decide⟩
instance:bY Tryz.prog 73:=⟨by kernel_rfl,by kernel_rfl⟩
instance:ay Tryz.prog 73 (.nilFunc):=⟨by kernel_rfl⟩
instance:aP Tryz.prog 73 1 8 (.nilFunc):=⟨by kernel_rfl,by rfl,by decide,by decide⟩
instance:bY Tryz.prog 74:=⟨by kernel_rfl,by kernel_rfl⟩
instance:ay Tryz.prog 74 (.nilFunc):=⟨by kernel_rfl⟩
instance:aP Tryz.prog 74 1 8 (.nilFunc):=⟨by kernel_rfl,by rfl,by decide,by decide⟩
instance:bY Tryz.prog 75:=⟨by kernel_rfl,by kernel_rfl⟩
instance:ay Tryz.prog 75 (.nilFunc):=⟨by kernel_rfl⟩
instance:aP Tryz.prog 75 1 8 (.nilFunc):=⟨by kernel_rfl,by rfl,by decide,by decide⟩
instance:bY Tryz.prog 76:=⟨by kernel_rfl,by kernel_rfl⟩
instance:ay Tryz.prog 76 (.nilFunc):=⟨by kernel_rfl⟩
instance:aP Tryz.prog 76 1 8 (.nilFunc):=⟨by kernel_rfl,by rfl,by decide,by decide⟩
instance:bY Tryz.prog 77:=⟨by kernel_rfl,by kernel_rfl⟩
instance:ay Tryz.prog 77 (.nilFunc):=⟨by kernel_rfl⟩
instance:aP Tryz.prog 77 1 8 (.nilFunc):=⟨by kernel_rfl,by rfl,by decide,by decide⟩
instance:bY Tryz.prog 78:=⟨by kernel_rfl,by kernel_rfl⟩
instance:ay Tryz.prog 78 (.nilFunc):=⟨by kernel_rfl⟩
instance:aP Tryz.prog 78 1 8 (.nilFunc):=⟨by kernel_rfl,by rfl,by decide,by decide⟩
instance:bY Tryz.prog 79:=⟨by kernel_rfl,by kernel_rfl⟩
instance:ay Tryz.prog 79 (.nilFunc):=⟨by kernel_rfl⟩
instance:aP Tryz.prog 79 1 8 (.nilFunc):=⟨by kernel_rfl,by rfl,by decide,by decide⟩
instance:bY Tryz.prog 80:=⟨by kernel_rfl,by kernel_rfl⟩
instance:ay Tryz.prog 80 (.nilFunc):=⟨by kernel_rfl⟩
instance:aP Tryz.prog 80 1 8 (.nilFunc):=⟨by kernel_rfl,by rfl,by decide,by decide⟩
instance:bY Tryz.prog 81:=⟨by kernel_rfl,by kernel_rfl⟩
instance:ay Tryz.prog 81 (.nilFunc):=⟨by kernel_rfl⟩
instance:aP Tryz.prog 81 1 8 (.nilFunc):=⟨by kernel_rfl,by rfl,by decide,by decide⟩
instance:bY Tryz.prog 82:=⟨by kernel_rfl,by kernel_rfl⟩
instance:ay Tryz.prog 82 (.nilFunc):=⟨by kernel_rfl⟩
instance:aP Tryz.prog 82 1 8 (.nilFunc):=⟨by kernel_rfl,by rfl,by decide,by decide⟩
instance:bY Tryz.prog 84:=⟨by kernel_rfl,by kernel_rfl⟩
instance:ay Tryz.prog 84 (.nilFunc):=⟨by kernel_rfl⟩
instance:aP Tryz.prog 84 1 8 (.nilFunc):=⟨by kernel_rfl,by rfl,by decide,by decide⟩
instance:bY Tryz.prog 85:=⟨by kernel_rfl,by kernel_rfl⟩
instance:ay Tryz.prog 85 (.nilFunc):=⟨by kernel_rfl⟩
instance:aP Tryz.prog 85 1 8 (.nilFunc):=⟨by kernel_rfl,by rfl,by decide,by decide⟩
instance:bY Tryz.prog 86:=⟨by kernel_rfl,by kernel_rfl⟩
instance:ay Tryz.prog 86 (.nilFunc):=⟨by kernel_rfl⟩
instance:aP Tryz.prog 86 1 8 (.nilFunc):=⟨by kernel_rfl,by rfl,by decide,by decide⟩
instance:bY Tryz.prog 87:=⟨by kernel_rfl,by kernel_rfl⟩
instance:ay Tryz.prog 87 (.nilFunc):=⟨by kernel_rfl⟩
instance:aP Tryz.prog 87 1 8 (.nilFunc):=⟨by kernel_rfl,by rfl,by decide,by decide⟩
instance:bY Tryz.prog 88:=⟨by kernel_rfl,by kernel_rfl⟩
instance:ay Tryz.prog 88 (.nilFunc):=⟨by kernel_rfl⟩
instance:aP Tryz.prog 88 1 8 (.nilFunc):=⟨by kernel_rfl,by rfl,by decide,by decide⟩
instance:jq Tryz.prog 89 5:=⟨by kernel_rfl,by kernel_rfl⟩
instance:gV Tryz.prog 89:=⟨fun w=>⟨4,jq.size (T:=89) (n:=5) w⟩⟩
instance:ay Tryz.prog 89 (.agg #[.slice none 0 0,.bool false,.slice none 0 0,.bool false,.slice none 0 0]):=⟨by kernel_rfl⟩
instance:aP Tryz.prog 89 5 88 (.agg #[.slice none 0 0,.bool false,.slice none 0 0,.bool false,.slice none 0 0]):=⟨by kernel_rfl,by rfl,by decide,by decide⟩
instance:bU Tryz.prog 89 [(0,1),(1,4)] [.slice none 0 0,.bool false,.slice none 0 0,.bool false,.slice none 0 0]:=⟨by kernel_rfl,by kernel_rfl,by rfl⟩
instance:gU Tryz.prog 89 0 0 24:=⟨by kernel_rfl⟩
instance:gU Tryz.prog 89 1 1 36:=⟨by kernel_rfl⟩
instance:jq Tryz.prog 90 5:=⟨by kernel_rfl,by kernel_rfl⟩
instance:gV Tryz.prog 90:=⟨fun w=>⟨4,jq.size (T:=90) (n:=5) w⟩⟩
instance:ay Tryz.prog 90 (.agg #[.slice none 0 0,.bool false,.slice none 0 0,.bool false,.slice none 0 0]):=⟨by kernel_rfl⟩
instance:aP Tryz.prog 90 5 88 (.agg #[.slice none 0 0,.bool false,.slice none 0 0,.bool false,.slice none 0 0]):=⟨by kernel_rfl,by rfl,by decide,by decide⟩
instance:bU Tryz.prog 90 [(0,1),(1,4)] [.slice none 0 0,.bool false,.slice none 0 0,.bool false,.slice none 0 0]:=⟨by kernel_rfl,by kernel_rfl,by rfl⟩
instance:gU Tryz.prog 90 0 0 24:=⟨by kernel_rfl⟩
instance:gU Tryz.prog 90 1 1 36:=⟨by kernel_rfl⟩
instance:bY Tryz.prog 91:=⟨by kernel_rfl,by kernel_rfl⟩
instance:ay Tryz.prog 91 (.nilFunc):=⟨by kernel_rfl⟩
instance:aP Tryz.prog 91 1 8 (.nilFunc):=⟨by kernel_rfl,by rfl,by decide,by decide⟩
instance:bY Tryz.prog 92:=⟨by kernel_rfl,by kernel_rfl⟩
instance:ay Tryz.prog 92 (.nilFunc):=⟨by kernel_rfl⟩
instance:aP Tryz.prog 92 1 8 (.nilFunc):=⟨by kernel_rfl,by rfl,by decide,by decide⟩
instance:bY Tryz.prog 93:=⟨by kernel_rfl,by kernel_rfl⟩
instance:ay Tryz.prog 93 (.nilFunc):=⟨by kernel_rfl⟩
instance:aP Tryz.prog 93 1 8 (.nilFunc):=⟨by kernel_rfl,by rfl,by decide,by decide⟩
instance:bY Tryz.prog 94:=⟨by kernel_rfl,by kernel_rfl⟩
instance:ay Tryz.prog 94 (.nilFunc):=⟨by kernel_rfl⟩
instance:aP Tryz.prog 94 1 8 (.nilFunc):=⟨by kernel_rfl,by rfl,by decide,by decide⟩
instance:bY Tryz.prog 96:=⟨by kernel_rfl,by kernel_rfl⟩
instance:ay Tryz.prog 96 (.nilFunc):=⟨by kernel_rfl⟩
instance:aP Tryz.prog 96 1 8 (.nilFunc):=⟨by kernel_rfl,by rfl,by decide,by decide⟩
instance:bY Tryz.prog 97:=⟨by kernel_rfl,by kernel_rfl⟩
instance:ay Tryz.prog 97 (.nilFunc):=⟨by kernel_rfl⟩
instance:aP Tryz.prog 97 1 8 (.nilFunc):=⟨by kernel_rfl,by rfl,by decide,by decide⟩
instance:bY Tryz.prog 98:=⟨by kernel_rfl,by kernel_rfl⟩
instance:ay Tryz.prog 98 (.nilFunc):=⟨by kernel_rfl⟩
instance:aP Tryz.prog 98 1 8 (.nilFunc):=⟨by kernel_rfl,by rfl,by decide,by decide⟩
instance:bY Tryz.prog 99:=⟨by kernel_rfl,by kernel_rfl⟩
instance:ay Tryz.prog 99 (.nilFunc):=⟨by kernel_rfl⟩
instance:aP Tryz.prog 99 1 8 (.nilFunc):=⟨by kernel_rfl,by rfl,by decide,by decide⟩
instance:bY Tryz.prog 100:=⟨by kernel_rfl,by kernel_rfl⟩
instance:ay Tryz.prog 100 (.slice none 0 0):=⟨by kernel_rfl⟩
instance:aP Tryz.prog 100 1 24 (.slice none 0 0):=⟨by kernel_rfl,by rfl,by decide,by decide⟩
instance:eR Tryz.prog 100 62 1:=⟨by kernel_rfl,by kernel_rfl⟩
instance:bY Tryz.prog 101:=⟨by kernel_rfl,by kernel_rfl⟩
instance:ay Tryz.prog 101 (.slice none 0 0):=⟨by kernel_rfl⟩
instance:aP Tryz.prog 101 1 24 (.slice none 0 0):=⟨by kernel_rfl,by rfl,by decide,by decide⟩
instance:eR Tryz.prog 101 23 1:=⟨by kernel_rfl,by kernel_rfl⟩
instance:bY Tryz.prog 102:=⟨by kernel_rfl,by kernel_rfl⟩
instance:ay Tryz.prog 102 (.nilFunc):=⟨by kernel_rfl⟩
instance:aP Tryz.prog 102 1 8 (.nilFunc):=⟨by kernel_rfl,by rfl,by decide,by decide⟩
instance:bY Tryz.prog 103:=⟨by kernel_rfl,by kernel_rfl⟩
instance:ay Tryz.prog 103 (.nilFunc):=⟨by kernel_rfl⟩
instance:aP Tryz.prog 103 1 8 (.nilFunc):=⟨by kernel_rfl,by rfl,by decide,by decide⟩
instance:ij Tryz.prog 104 .u64:=⟨by kernel_rfl⟩
instance:bY Tryz.prog 104:=⟨by kernel_rfl,by kernel_rfl⟩
instance:ay Tryz.prog 104 (.int .u64 0):=⟨by kernel_rfl⟩
instance:aP Tryz.prog 104 1 8 (.int .u64 0):=⟨by kernel_rfl,by rfl,by decide,by decide⟩
instance:bY Tryz.prog 105:=⟨by kernel_rfl,by kernel_rfl⟩
instance:ay Tryz.prog 105 (.nilFunc):=⟨by kernel_rfl⟩
instance:aP Tryz.prog 105 1 8 (.nilFunc):=⟨by kernel_rfl,by rfl,by decide,by decide⟩
instance:ij Tryz.prog 106 .u32:=⟨by kernel_rfl⟩
instance:bY Tryz.prog 106:=⟨by kernel_rfl,by kernel_rfl⟩
instance:ay Tryz.prog 106 (.int .u32 0):=⟨by kernel_rfl⟩
instance:aP Tryz.prog 106 1 4 (.int .u32 0):=⟨by kernel_rfl,by rfl,by decide,by decide⟩
instance:bY Tryz.prog 107:=⟨by kernel_rfl,by kernel_rfl⟩
instance:ay Tryz.prog 107 (.nilFunc):=⟨by kernel_rfl⟩
instance:aP Tryz.prog 107 1 8 (.nilFunc):=⟨by kernel_rfl,by rfl,by decide,by decide⟩
instance:bY Tryz.prog 108:=⟨by kernel_rfl,by kernel_rfl⟩
instance:ay Tryz.prog 108 (.nilFunc):=⟨by kernel_rfl⟩
instance:aP Tryz.prog 108 1 8 (.nilFunc):=⟨by kernel_rfl,by rfl,by decide,by decide⟩
instance:bY Tryz.prog 109:=⟨by kernel_rfl,by kernel_rfl⟩
instance:ay Tryz.prog 109 (.nilFunc):=⟨by kernel_rfl⟩
instance:aP Tryz.prog 109 1 8 (.nilFunc):=⟨by kernel_rfl,by rfl,by decide,by decide⟩
instance:bY Tryz.prog 110:=⟨by kernel_rfl,by kernel_rfl⟩
instance:ay Tryz.prog 110 (.nilFunc):=⟨by kernel_rfl⟩
instance:aP Tryz.prog 110 1 8 (.nilFunc):=⟨by kernel_rfl,by rfl,by decide,by decide⟩
instance:bY Tryz.prog 111:=⟨by kernel_rfl,by kernel_rfl⟩
instance:ay Tryz.prog 111 (.nilFunc):=⟨by kernel_rfl⟩
instance:aP Tryz.prog 111 1 8 (.nilFunc):=⟨by kernel_rfl,by rfl,by decide,by decide⟩
instance:bY Tryz.prog 112:=⟨by kernel_rfl,by kernel_rfl⟩
instance:ay Tryz.prog 112 (.nilFunc):=⟨by kernel_rfl⟩
instance:aP Tryz.prog 112 1 8 (.nilFunc):=⟨by kernel_rfl,by rfl,by decide,by decide⟩
instance:bY Tryz.prog 114:=⟨by kernel_rfl,by kernel_rfl⟩
instance:ay Tryz.prog 114 (.nilFunc):=⟨by kernel_rfl⟩
instance:aP Tryz.prog 114 1 8 (.nilFunc):=⟨by kernel_rfl,by rfl,by decide,by decide⟩
instance:bY Tryz.prog 115:=⟨by kernel_rfl,by kernel_rfl⟩
instance:ay Tryz.prog 115 (.nilFunc):=⟨by kernel_rfl⟩
instance:aP Tryz.prog 115 1 8 (.nilFunc):=⟨by kernel_rfl,by rfl,by decide,by decide⟩
instance:bY Tryz.prog 116:=⟨by kernel_rfl,by kernel_rfl⟩
instance:ay Tryz.prog 116 (.nilFunc):=⟨by kernel_rfl⟩
instance:aP Tryz.prog 116 1 8 (.nilFunc):=⟨by kernel_rfl,by rfl,by decide,by decide⟩
instance:jq Tryz.prog 117 1:=⟨by kernel_rfl,by kernel_rfl⟩
instance:gV Tryz.prog 117:=⟨fun w=>⟨0,jq.size (T:=117) (n:=1) w⟩⟩
instance:ay Tryz.prog 117 (.agg #[.nilFunc]):=⟨by kernel_rfl⟩
instance:aP Tryz.prog 117 1 8 (.agg #[.nilFunc]):=⟨by kernel_rfl,by rfl,by decide,by decide⟩
instance:bU Tryz.prog 117 [(0,1)] [.nilFunc]:=⟨by kernel_rfl,by kernel_rfl,by rfl⟩
instance:gU Tryz.prog 117 0 0 116:=⟨by kernel_rfl⟩
instance:jq Tryz.prog 118 1:=⟨by kernel_rfl,by kernel_rfl⟩
instance:gV Tryz.prog 118:=⟨fun w=>⟨0,jq.size (T:=118) (n:=1) w⟩⟩
instance:ay Tryz.prog 118 (.agg #[.nilFunc]):=⟨by kernel_rfl⟩
instance:aP Tryz.prog 118 1 8 (.agg #[.nilFunc]):=⟨by kernel_rfl,by rfl,by decide,by decide⟩
instance:bU Tryz.prog 118 [(0,1)] [.nilFunc]:=⟨by kernel_rfl,by kernel_rfl,by rfl⟩
instance:gU Tryz.prog 118 0 0 116:=⟨by kernel_rfl⟩
instance:bY Tryz.prog 119:=⟨by kernel_rfl,by kernel_rfl⟩
instance:ay Tryz.prog 119 (.map none):=⟨by kernel_rfl⟩
instance:aP Tryz.prog 119 1 8 (.map none):=⟨by kernel_rfl,by rfl,by decide,by decide⟩
instance:Lp Tryz.prog 119 5 118:=⟨by kernel_rfl⟩
instance:bY Tryz.prog 120:=⟨by kernel_rfl,by kernel_rfl⟩
instance:ay Tryz.prog 120 (.nilFunc):=⟨by kernel_rfl⟩
instance:aP Tryz.prog 120 1 8 (.nilFunc):=⟨by kernel_rfl,by rfl,by decide,by decide⟩
instance:bY Tryz.prog 121:=⟨by kernel_rfl,by kernel_rfl⟩
instance:ay Tryz.prog 121 (.slice none 0 0):=⟨by kernel_rfl⟩
instance:aP Tryz.prog 121 1 24 (.slice none 0 0):=⟨by kernel_rfl,by rfl,by decide,by decide⟩
instance:eR Tryz.prog 121 34 2:=⟨by kernel_rfl,by kernel_rfl⟩
instance:bY Tryz.prog 122:=⟨by kernel_rfl,by kernel_rfl⟩
instance:ay Tryz.prog 122 (.nilFunc):=⟨by kernel_rfl⟩
instance:aP Tryz.prog 122 1 8 (.nilFunc):=⟨by kernel_rfl,by rfl,by decide,by decide⟩
instance:bY Tryz.prog 123:=⟨by kernel_rfl,by kernel_rfl⟩
instance:ay Tryz.prog 123 (.nilFunc):=⟨by kernel_rfl⟩
instance:aP Tryz.prog 123 1 8 (.nilFunc):=⟨by kernel_rfl,by rfl,by decide,by decide⟩
instance:bY Tryz.prog 124:=⟨by kernel_rfl,by kernel_rfl⟩
instance:ay Tryz.prog 124 (.nilFunc):=⟨by kernel_rfl⟩
instance:aP Tryz.prog 124 1 8 (.nilFunc):=⟨by kernel_rfl,by rfl,by decide,by decide⟩
instance:bY Tryz.prog 125:=⟨by kernel_rfl,by kernel_rfl⟩
instance:ay Tryz.prog 125 (.slice none 0 0):=⟨by kernel_rfl⟩
instance:aP Tryz.prog 125 1 24 (.slice none 0 0):=⟨by kernel_rfl,by rfl,by decide,by decide⟩
instance:eR Tryz.prog 125 90 5:=⟨by kernel_rfl,by kernel_rfl⟩
instance:bY Tryz.prog 126:=⟨by kernel_rfl,by kernel_rfl⟩
instance:ay Tryz.prog 126 (.nilFunc):=⟨by kernel_rfl⟩
instance:aP Tryz.prog 126 1 8 (.nilFunc):=⟨by kernel_rfl,by rfl,by decide,by decide⟩
instance:bY Tryz.prog 127:=⟨by kernel_rfl,by kernel_rfl⟩
instance:ay Tryz.prog 127 (.nilFunc):=⟨by kernel_rfl⟩
instance:aP Tryz.prog 127 1 8 (.nilFunc):=⟨by kernel_rfl,by rfl,by decide,by decide⟩
instance:bY Tryz.prog 128:=⟨by kernel_rfl,by kernel_rfl⟩
instance:ay Tryz.prog 128 (.nilFunc):=⟨by kernel_rfl⟩
instance:aP Tryz.prog 128 1 8 (.nilFunc):=⟨by kernel_rfl,by rfl,by decide,by decide⟩
instance:bY Tryz.prog 129:=⟨by kernel_rfl,by kernel_rfl⟩
instance:ay Tryz.prog 129 (.nilFunc):=⟨by kernel_rfl⟩
instance:aP Tryz.prog 129 1 8 (.nilFunc):=⟨by kernel_rfl,by rfl,by decide,by decide⟩
instance:bY Tryz.prog 130:=⟨by kernel_rfl,by kernel_rfl⟩
instance:ay Tryz.prog 130 (.nilFunc):=⟨by kernel_rfl⟩
instance:aP Tryz.prog 130 1 8 (.nilFunc):=⟨by kernel_rfl,by rfl,by decide,by decide⟩
instance:bY Tryz.prog 131:=⟨by kernel_rfl,by kernel_rfl⟩
instance:ay Tryz.prog 131 (.nilFunc):=⟨by kernel_rfl⟩
instance:aP Tryz.prog 131 1 8 (.nilFunc):=⟨by kernel_rfl,by rfl,by decide,by decide⟩
instance:bY Tryz.prog 132:=⟨by kernel_rfl,by kernel_rfl⟩
instance:ay Tryz.prog 132 (.nilFunc):=⟨by kernel_rfl⟩
instance:aP Tryz.prog 132 1 8 (.nilFunc):=⟨by kernel_rfl,by rfl,by decide,by decide⟩
instance:bY Tryz.prog 133:=⟨by kernel_rfl,by kernel_rfl⟩
instance:ay Tryz.prog 133 (.slice none 0 0):=⟨by kernel_rfl⟩
instance:aP Tryz.prog 133 1 24 (.slice none 0 0):=⟨by kernel_rfl,by rfl,by decide,by decide⟩
instance:eR Tryz.prog 133 3 1:=⟨by kernel_rfl,by kernel_rfl⟩
instance:bY Tryz.prog 134:=⟨by kernel_rfl,by kernel_rfl⟩
instance:ay Tryz.prog 134 (.nilFunc):=⟨by kernel_rfl⟩
instance:aP Tryz.prog 134 1 8 (.nilFunc):=⟨by kernel_rfl,by rfl,by decide,by decide⟩
instance:bY Tryz.prog 136:=⟨by kernel_rfl,by kernel_rfl⟩
instance:ay Tryz.prog 136 (.nilFunc):=⟨by kernel_rfl⟩
instance:aP Tryz.prog 136 1 8 (.nilFunc):=⟨by kernel_rfl,by rfl,by decide,by decide⟩
instance:bY Tryz.prog 137:=⟨by kernel_rfl,by kernel_rfl⟩
instance:ay Tryz.prog 137 (.nilFunc):=⟨by kernel_rfl⟩
instance:aP Tryz.prog 137 1 8 (.nilFunc):=⟨by kernel_rfl,by rfl,by decide,by decide⟩
instance:bY Tryz.prog 138:=⟨by kernel_rfl,by kernel_rfl⟩
instance:ay Tryz.prog 138 (.nilFunc):=⟨by kernel_rfl⟩
instance:aP Tryz.prog 138 1 8 (.nilFunc):=⟨by kernel_rfl,by rfl,by decide,by decide⟩
instance:bY Tryz.prog 139:=⟨by kernel_rfl,by kernel_rfl⟩
instance:ay Tryz.prog 139 (.nilFunc):=⟨by kernel_rfl⟩
instance:aP Tryz.prog 139 1 8 (.nilFunc):=⟨by kernel_rfl,by rfl,by decide,by decide⟩
instance:ij Tryz.prog 140 .u64:=⟨by kernel_rfl⟩
instance:bY Tryz.prog 140:=⟨by kernel_rfl,by kernel_rfl⟩
instance:ay Tryz.prog 140 (.int .u64 0):=⟨by kernel_rfl⟩
instance:aP Tryz.prog 140 1 8 (.int .u64 0):=⟨by kernel_rfl,by rfl,by decide,by decide⟩
instance:bY Tryz.prog 141:=⟨by kernel_rfl,by kernel_rfl⟩
instance:ay Tryz.prog 141 (.nilFunc):=⟨by kernel_rfl⟩
instance:aP Tryz.prog 141 1 8 (.nilFunc):=⟨by kernel_rfl,by rfl,by decide,by decide⟩
instance:bY Tryz.prog 142:=⟨by kernel_rfl,by kernel_rfl⟩
instance:ay Tryz.prog 142 (.nilFunc):=⟨by kernel_rfl⟩
instance:aP Tryz.prog 142 1 8 (.nilFunc):=⟨by kernel_rfl,by rfl,by decide,by decide⟩
instance:bY Tryz.prog 143:=⟨by kernel_rfl,by kernel_rfl⟩
instance:ay Tryz.prog 143 (.nilFunc):=⟨by kernel_rfl⟩
instance:aP Tryz.prog 143 1 8 (.nilFunc):=⟨by kernel_rfl,by rfl,by decide,by decide⟩
instance:bY Tryz.prog 144:=⟨by kernel_rfl,by kernel_rfl⟩
instance:ay Tryz.prog 144 (.nilFunc):=⟨by kernel_rfl⟩
instance:aP Tryz.prog 144 1 8 (.nilFunc):=⟨by kernel_rfl,by rfl,by decide,by decide⟩
instance:bY Tryz.prog 146:=⟨by kernel_rfl,by kernel_rfl⟩
instance:ay Tryz.prog 146 (.nilFunc):=⟨by kernel_rfl⟩
instance:aP Tryz.prog 146 1 8 (.nilFunc):=⟨by kernel_rfl,by rfl,by decide,by decide⟩
instance:bY Tryz.prog 147:=⟨by kernel_rfl,by kernel_rfl⟩
instance:ay Tryz.prog 147 (.nilFunc):=⟨by kernel_rfl⟩
instance:aP Tryz.prog 147 1 8 (.nilFunc):=⟨by kernel_rfl,by rfl,by decide,by decide⟩
instance:bY Tryz.prog 148:=⟨by kernel_rfl,by kernel_rfl⟩
instance:ay Tryz.prog 148 (.nilFunc):=⟨by kernel_rfl⟩
instance:aP Tryz.prog 148 1 8 (.nilFunc):=⟨by kernel_rfl,by rfl,by decide,by decide⟩
instance:bY Tryz.prog 150:=⟨by kernel_rfl,by kernel_rfl⟩
instance:ay Tryz.prog 150 (.nilFunc):=⟨by kernel_rfl⟩
instance:aP Tryz.prog 150 1 8 (.nilFunc):=⟨by kernel_rfl,by rfl,by decide,by decide⟩
instance:bY Tryz.prog 151:=⟨by kernel_rfl,by kernel_rfl⟩
instance:ay Tryz.prog 151 (.nilFunc):=⟨by kernel_rfl⟩
instance:aP Tryz.prog 151 1 8 (.nilFunc):=⟨by kernel_rfl,by rfl,by decide,by decide⟩
instance:bY Tryz.prog 152:=⟨by kernel_rfl,by kernel_rfl⟩
instance:ay Tryz.prog 152 (.nilFunc):=⟨by kernel_rfl⟩
instance:aP Tryz.prog 152 1 8 (.nilFunc):=⟨by kernel_rfl,by rfl,by decide,by decide⟩
instance:bY Tryz.prog 153:=⟨by kernel_rfl,by kernel_rfl⟩
instance:ay Tryz.prog 153 (.nilFunc):=⟨by kernel_rfl⟩
instance:aP Tryz.prog 153 1 8 (.nilFunc):=⟨by kernel_rfl,by rfl,by decide,by decide⟩
instance:bY Tryz.prog 154:=⟨by kernel_rfl,by kernel_rfl⟩
instance:ay Tryz.prog 154 (.nilFunc):=⟨by kernel_rfl⟩
instance:aP Tryz.prog 154 1 8 (.nilFunc):=⟨by kernel_rfl,by rfl,by decide,by decide⟩
instance:bY Tryz.prog 155:=⟨by kernel_rfl,by kernel_rfl⟩
instance:ay Tryz.prog 155 (.nilFunc):=⟨by kernel_rfl⟩
instance:aP Tryz.prog 155 1 8 (.nilFunc):=⟨by kernel_rfl,by rfl,by decide,by decide⟩
instance:bY Tryz.prog 156:=⟨by kernel_rfl,by kernel_rfl⟩
instance:ay Tryz.prog 156 (.nilFunc):=⟨by kernel_rfl⟩
instance:aP Tryz.prog 156 1 8 (.nilFunc):=⟨by kernel_rfl,by rfl,by decide,by decide⟩
instance:bY Tryz.prog 157:=⟨by kernel_rfl,by kernel_rfl⟩
instance:ay Tryz.prog 157 (.nilFunc):=⟨by kernel_rfl⟩
instance:aP Tryz.prog 157 1 8 (.nilFunc):=⟨by kernel_rfl,by rfl,by decide,by decide⟩
instance:bY Tryz.prog 158:=⟨by kernel_rfl,by kernel_rfl⟩
instance:ay Tryz.prog 158 (.nilFunc):=⟨by kernel_rfl⟩
instance:aP Tryz.prog 158 1 8 (.nilFunc):=⟨by kernel_rfl,by rfl,by decide,by decide⟩
instance:bY Tryz.prog 159:=⟨by kernel_rfl,by kernel_rfl⟩
instance:ay Tryz.prog 159 (.nilFunc):=⟨by kernel_rfl⟩
instance:aP Tryz.prog 159 1 8 (.nilFunc):=⟨by kernel_rfl,by rfl,by decide,by decide⟩
instance:bY Tryz.prog 160:=⟨by kernel_rfl,by kernel_rfl⟩
instance:ay Tryz.prog 160 (.nilFunc):=⟨by kernel_rfl⟩
instance:aP Tryz.prog 160 1 8 (.nilFunc):=⟨by kernel_rfl,by rfl,by decide,by decide⟩
instance:bY Tryz.prog 161:=⟨by kernel_rfl,by kernel_rfl⟩
instance:ay Tryz.prog 161 (.nilFunc):=⟨by kernel_rfl⟩
instance:aP Tryz.prog 161 1 8 (.nilFunc):=⟨by kernel_rfl,by rfl,by decide,by decide⟩
instance:bY Tryz.prog 162:=⟨by kernel_rfl,by kernel_rfl⟩
instance:ay Tryz.prog 162 (.nilFunc):=⟨by kernel_rfl⟩
instance:aP Tryz.prog 162 1 8 (.nilFunc):=⟨by kernel_rfl,by rfl,by decide,by decide⟩
instance:bY Tryz.prog 163:=⟨by kernel_rfl,by kernel_rfl⟩
instance:ay Tryz.prog 163 (.nilFunc):=⟨by kernel_rfl⟩
instance:aP Tryz.prog 163 1 8 (.nilFunc):=⟨by kernel_rfl,by rfl,by decide,by decide⟩
instance:bY Tryz.prog 164:=⟨by kernel_rfl,by kernel_rfl⟩
instance:ay Tryz.prog 164 (.nilFunc):=⟨by kernel_rfl⟩
instance:aP Tryz.prog 164 1 8 (.nilFunc):=⟨by kernel_rfl,by rfl,by decide,by decide⟩
instance:bY Tryz.prog 165:=⟨by kernel_rfl,by kernel_rfl⟩
instance:ay Tryz.prog 165 (.nilFunc):=⟨by kernel_rfl⟩
instance:aP Tryz.prog 165 1 8 (.nilFunc):=⟨by kernel_rfl,by rfl,by decide,by decide⟩
instance:jq Tryz.prog 166 4:=⟨by kernel_rfl,by kernel_rfl⟩
instance:gV Tryz.prog 166:=⟨fun w=>⟨3,jq.size (T:=166) (n:=4) w⟩⟩
instance:ay Tryz.prog 166 (.agg #[.pointer none,.pointer none,.pointer none,.string (ByteArray.mk #[])]):=⟨by kernel_rfl⟩
instance:aP Tryz.prog 166 4 40 (.agg #[.pointer none,.pointer none,.pointer none,.string (ByteArray.mk #[])]):=⟨by kernel_rfl,by rfl,by decide,by decide⟩
instance:bU Tryz.prog 166 [(0,1),(1,1),(2,1),(3,1)] [.pointer none,.pointer none,.pointer none,.string (ByteArray.mk #[])]:=⟨by kernel_rfl,by kernel_rfl,by rfl⟩
instance:gU Tryz.prog 166 0 0 17:=⟨by kernel_rfl⟩
instance:gU Tryz.prog 166 1 1 17:=⟨by kernel_rfl⟩
instance:gU Tryz.prog 166 2 2 17:=⟨by kernel_rfl⟩
instance:gU Tryz.prog 166 3 3 9:=⟨by kernel_rfl⟩
instance:jq Tryz.prog 167 4:=⟨by kernel_rfl,by kernel_rfl⟩
instance:gV Tryz.prog 167:=⟨fun w=>⟨3,jq.size (T:=167) (n:=4) w⟩⟩
instance:ay Tryz.prog 167 (.agg #[.pointer none,.pointer none,.pointer none,.string (ByteArray.mk #[])]):=⟨by kernel_rfl⟩
instance:aP Tryz.prog 167 4 40 (.agg #[.pointer none,.pointer none,.pointer none,.string (ByteArray.mk #[])]):=⟨by kernel_rfl,by rfl,by decide,by decide⟩
instance:bU Tryz.prog 167 [(0,1),(1,1),(2,1),(3,1)] [.pointer none,.pointer none,.pointer none,.string (ByteArray.mk #[])]:=⟨by kernel_rfl,by kernel_rfl,by rfl⟩
instance:gU Tryz.prog 167 0 0 17:=⟨by kernel_rfl⟩
instance:gU Tryz.prog 167 1 1 17:=⟨by kernel_rfl⟩
instance:gU Tryz.prog 167 2 2 17:=⟨by kernel_rfl⟩
instance:gU Tryz.prog 167 3 3 9:=⟨by kernel_rfl⟩
instance:jq Tryz.prog 168 0:=⟨by kernel_rfl,by kernel_rfl⟩
instance:ay Tryz.prog 168 (.agg #[]):=⟨by kernel_rfl⟩
instance:jq Tryz.prog 169 0:=⟨by kernel_rfl,by kernel_rfl⟩
instance:ay Tryz.prog 169 (.agg #[]):=⟨by kernel_rfl⟩
instance:bU Tryz.prog 169 [(0,0)] []:=⟨by kernel_rfl,by kernel_rfl,by rfl⟩
instance:gU Tryz.prog 169 0 0 168:=⟨by kernel_rfl⟩
instance:jq Tryz.prog 170 0:=⟨by kernel_rfl,by kernel_rfl⟩
instance:ay Tryz.prog 170 (.agg #[]):=⟨by kernel_rfl⟩
instance:bU Tryz.prog 170 [(0,0)] []:=⟨by kernel_rfl,by kernel_rfl,by rfl⟩
instance:gU Tryz.prog 170 0 0 168:=⟨by kernel_rfl⟩
instance:bY Tryz.prog 171:=⟨by kernel_rfl,by kernel_rfl⟩
instance:ay Tryz.prog 171 (.nilFunc):=⟨by kernel_rfl⟩
instance:aP Tryz.prog 171 1 8 (.nilFunc):=⟨by kernel_rfl,by rfl,by decide,by decide⟩
instance:ij Tryz.prog 172 .u8:=⟨by kernel_rfl⟩
instance:bY Tryz.prog 172:=⟨by kernel_rfl,by kernel_rfl⟩
instance:ay Tryz.prog 172 (.int .u8 0):=⟨by kernel_rfl⟩
instance:aP Tryz.prog 172 1 1 (.int .u8 0):=⟨by kernel_rfl,by rfl,by decide,by decide⟩
instance:ij Tryz.prog 173 .u8:=⟨by kernel_rfl⟩
instance:bY Tryz.prog 173:=⟨by kernel_rfl,by kernel_rfl⟩
instance:ay Tryz.prog 173 (.int .u8 0):=⟨by kernel_rfl⟩
instance:aP Tryz.prog 173 1 1 (.int .u8 0):=⟨by kernel_rfl,by rfl,by decide,by decide⟩
instance:bY Tryz.prog 174:=⟨by kernel_rfl,by kernel_rfl⟩
instance:ay Tryz.prog 174 (.nilFunc):=⟨by kernel_rfl⟩
instance:aP Tryz.prog 174 1 8 (.nilFunc):=⟨by kernel_rfl,by rfl,by decide,by decide⟩
instance:bY Tryz.prog 175:=⟨by kernel_rfl,by kernel_rfl⟩
instance:ay Tryz.prog 175 (.pointer none):=⟨by kernel_rfl⟩
instance:aP Tryz.prog 175 1 8 (.pointer none):=⟨by kernel_rfl,by rfl,by decide,by decide⟩
instance:ij Tryz.prog 176 .i32:=⟨by kernel_rfl⟩
instance:bY Tryz.prog 176:=⟨by kernel_rfl,by kernel_rfl⟩
instance:ay Tryz.prog 176 (.int .i32 0):=⟨by kernel_rfl⟩
instance:aP Tryz.prog 176 1 4 (.int .i32 0):=⟨by kernel_rfl,by rfl,by decide,by decide⟩
instance:ij Tryz.prog 177 .i32:=⟨by kernel_rfl⟩
instance:bY Tryz.prog 177:=⟨by kernel_rfl,by kernel_rfl⟩
instance:ay Tryz.prog 177 (.int .i32 0):=⟨by kernel_rfl⟩
instance:aP Tryz.prog 177 1 4 (.int .i32 0):=⟨by kernel_rfl,by rfl,by decide,by decide⟩
instance:jq Tryz.prog 178 11:=⟨by kernel_rfl,by kernel_rfl⟩
instance:gV Tryz.prog 178:=⟨fun w=>⟨10,jq.size (T:=178) (n:=11) w⟩⟩
instance:ay Tryz.prog 178 (.agg #[.int .u64 0,.int .u64 0,.int .u32 0,.int .u8 0,.int .u8 0,.int .u8 0,.int .u8 0,.nilFunc,.pointer none,.int .i32 0,.int .i32 0]):=⟨by kernel_rfl⟩
instance:aP Tryz.prog 178 11 48 (.agg #[.int .u64 0,.int .u64 0,.int .u32 0,.int .u8 0,.int .u8 0,.int .u8 0,.int .u8 0,.nilFunc,.pointer none,.int .i32 0,.int .i32 0]):=⟨by kernel_rfl,by rfl,by decide,by decide⟩
instance:bU Tryz.prog 178 [(0,1),(1,1),(2,1),(3,1),(4,1),(5,1),(6,1),(7,1),(8,1),(9,1),(10,1)] [.int .u64 0,.int .u64 0,.int .u32 0,.int .u8 0,.int .u8 0,.int .u8 0,.int .u8 0,.nilFunc,.pointer none,.int .i32 0,.int .i32 0]:=⟨by kernel_rfl,by kernel_rfl,by rfl⟩
instance:gU Tryz.prog 178 0 0 12:=⟨by kernel_rfl⟩
instance:gU Tryz.prog 178 1 1 12:=⟨by kernel_rfl⟩
instance:gU Tryz.prog 178 2 2 106:=⟨by kernel_rfl⟩
instance:gU Tryz.prog 178 3 3 172:=⟨by kernel_rfl⟩
instance:gU Tryz.prog 178 4 4 5:=⟨by kernel_rfl⟩
instance:gU Tryz.prog 178 5 5 5:=⟨by kernel_rfl⟩
instance:gU Tryz.prog 178 6 6 173:=⟨by kernel_rfl⟩
instance:gU Tryz.prog 178 7 7 174:=⟨by kernel_rfl⟩
instance:gU Tryz.prog 178 8 8 175:=⟨by kernel_rfl⟩
instance:gU Tryz.prog 178 9 9 176:=⟨by kernel_rfl⟩
instance:gU Tryz.prog 178 10 10 177:=⟨by kernel_rfl⟩
instance:jq Tryz.prog 179 11:=⟨by kernel_rfl,by kernel_rfl⟩
instance:gV Tryz.prog 179:=⟨fun w=>⟨10,jq.size (T:=179) (n:=11) w⟩⟩
instance:ay Tryz.prog 179 (.agg #[.int .u64 0,.int .u64 0,.int .u32 0,.int .u8 0,.int .u8 0,.int .u8 0,.int .u8 0,.nilFunc,.pointer none,.int .i32 0,.int .i32 0]):=⟨by kernel_rfl⟩
instance:aP Tryz.prog 179 11 48 (.agg #[.int .u64 0,.int .u64 0,.int .u32 0,.int .u8 0,.int .u8 0,.int .u8 0,.int .u8 0,.nilFunc,.pointer none,.int .i32 0,.int .i32 0]):=⟨by kernel_rfl,by rfl,by decide,by decide⟩
instance:bU Tryz.prog 179 [(0,1),(1,1),(2,1),(3,1),(4,1),(5,1),(6,1),(7,1),(8,1),(9,1),(10,1)] [.int .u64 0,.int .u64 0,.int .u32 0,.int .u8 0,.int .u8 0,.int .u8 0,.int .u8 0,.nilFunc,.pointer none,.int .i32 0,.int .i32 0]:=⟨by kernel_rfl,by kernel_rfl,by rfl⟩
instance:gU Tryz.prog 179 0 0 12:=⟨by kernel_rfl⟩
instance:gU Tryz.prog 179 1 1 12:=⟨by kernel_rfl⟩
instance:gU Tryz.prog 179 2 2 106:=⟨by kernel_rfl⟩
instance:gU Tryz.prog 179 3 3 172:=⟨by kernel_rfl⟩
instance:gU Tryz.prog 179 4 4 5:=⟨by kernel_rfl⟩
instance:gU Tryz.prog 179 5 5 5:=⟨by kernel_rfl⟩
instance:gU Tryz.prog 179 6 6 173:=⟨by kernel_rfl⟩
instance:gU Tryz.prog 179 7 7 174:=⟨by kernel_rfl⟩
instance:gU Tryz.prog 179 8 8 175:=⟨by kernel_rfl⟩
instance:gU Tryz.prog 179 9 9 176:=⟨by kernel_rfl⟩
instance:gU Tryz.prog 179 10 10 177:=⟨by kernel_rfl⟩
instance:bY Tryz.prog 180:=⟨by kernel_rfl,by kernel_rfl⟩
instance:ay Tryz.prog 180 (.pointer none):=⟨by kernel_rfl⟩
instance:aP Tryz.prog 180 1 8 (.pointer none):=⟨by kernel_rfl,by rfl,by decide,by decide⟩
instance:bQ Tryz.prog 3:=⟨by kernel_rfl⟩
instance:bQ Tryz.prog 4:=⟨by kernel_rfl⟩
instance:bQ Tryz.prog 5:=⟨by kernel_rfl⟩
instance:bQ Tryz.prog 6:=⟨by kernel_rfl⟩
instance:bQ Tryz.prog 7:=⟨by kernel_rfl⟩
instance:bQ Tryz.prog 8:=⟨by kernel_rfl⟩
instance:bQ Tryz.prog 9:=⟨by kernel_rfl⟩
instance:bQ Tryz.prog 10:=⟨by kernel_rfl⟩
instance:bQ Tryz.prog 11:=⟨by kernel_rfl⟩
instance:bQ Tryz.prog 12:=⟨by kernel_rfl⟩
instance:bQ Tryz.prog 13:=⟨by kernel_rfl⟩
instance:bQ Tryz.prog 14:=⟨by kernel_rfl⟩
instance:bQ Tryz.prog 15:=⟨by kernel_rfl⟩
instance:bQ Tryz.prog 16:=⟨by kernel_rfl⟩
instance:bQ Tryz.prog 17:=⟨by kernel_rfl⟩
instance:bQ Tryz.prog 18:=⟨by kernel_rfl⟩
instance:bQ Tryz.prog 19:=⟨by kernel_rfl⟩
instance:bQ Tryz.prog 20:=⟨by kernel_rfl⟩
instance:bQ Tryz.prog 21:=⟨by kernel_rfl⟩
instance:bQ Tryz.prog 22:=⟨by kernel_rfl⟩
instance:bQ Tryz.prog 23:=⟨by kernel_rfl⟩
instance:bQ Tryz.prog 24:=⟨by kernel_rfl⟩
instance:bQ Tryz.prog 25:=⟨by kernel_rfl⟩
instance:bQ Tryz.prog 26:=⟨by kernel_rfl⟩
instance:bQ Tryz.prog 27:=⟨by kernel_rfl⟩
instance:bQ Tryz.prog 28:=⟨by kernel_rfl⟩
instance:bQ Tryz.prog 29:=⟨by kernel_rfl⟩
instance:bQ Tryz.prog 30:=⟨by kernel_rfl⟩
instance:bQ Tryz.prog 31:=⟨by kernel_rfl⟩
instance:bQ Tryz.prog 32:=⟨by kernel_rfl⟩
instance:bQ Tryz.prog 33:=⟨by kernel_rfl⟩
instance:bQ Tryz.prog 34:=⟨by kernel_rfl⟩
instance:bQ Tryz.prog 35:=⟨by kernel_rfl⟩
instance:bQ Tryz.prog 36:=⟨by kernel_rfl⟩
instance:bQ Tryz.prog 37:=⟨by kernel_rfl⟩
instance:bQ Tryz.prog 38:=⟨by kernel_rfl⟩
instance:bQ Tryz.prog 39:=⟨by kernel_rfl⟩
instance:bQ Tryz.prog 40:=⟨by kernel_rfl⟩
instance:bQ Tryz.prog 41:=⟨by kernel_rfl⟩
instance:bQ Tryz.prog 42:=⟨by kernel_rfl⟩
instance:bQ Tryz.prog 43:=⟨by kernel_rfl⟩
instance:bQ Tryz.prog 44:=⟨by kernel_rfl⟩
instance:bQ Tryz.prog 45:=⟨by kernel_rfl⟩
instance:bQ Tryz.prog 46:=⟨by kernel_rfl⟩
instance:bQ Tryz.prog 47:=⟨by kernel_rfl⟩
instance:bQ Tryz.prog 48:=⟨by kernel_rfl⟩
instance:bQ Tryz.prog 49:=⟨by kernel_rfl⟩
instance:bQ Tryz.prog 50:=⟨by kernel_rfl⟩
instance:bQ Tryz.prog 51:=⟨by kernel_rfl⟩
instance:bQ Tryz.prog 52:=⟨by kernel_rfl⟩
instance:bQ Tryz.prog 53:=⟨by kernel_rfl⟩
instance:bQ Tryz.prog 54:=⟨by kernel_rfl⟩
instance:bQ Tryz.prog 55:=⟨by kernel_rfl⟩
instance:bQ Tryz.prog 56:=⟨by kernel_rfl⟩
instance:bQ Tryz.prog 57:=⟨by kernel_rfl⟩
instance:bQ Tryz.prog 58:=⟨by kernel_rfl⟩
instance:bQ Tryz.prog 59:=⟨by kernel_rfl⟩
instance:bQ Tryz.prog 60:=⟨by kernel_rfl⟩
instance:bQ Tryz.prog 61:=⟨by kernel_rfl⟩
instance:bQ Tryz.prog 62:=⟨by kernel_rfl⟩
instance:bQ Tryz.prog 63:=⟨by kernel_rfl⟩
instance:bQ Tryz.prog 64:=⟨by kernel_rfl⟩
instance:bQ Tryz.prog 65:=⟨by kernel_rfl⟩
instance:bQ Tryz.prog 66:=⟨by kernel_rfl⟩
instance:bQ Tryz.prog 67:=⟨by kernel_rfl⟩
instance:bQ Tryz.prog 68:=⟨by kernel_rfl⟩
instance:bQ Tryz.prog 69:=⟨by kernel_rfl⟩
instance:bQ Tryz.prog 70:=⟨by kernel_rfl⟩
instance:bQ Tryz.prog 71:=⟨by kernel_rfl⟩
instance:bQ Tryz.prog 72:=⟨by kernel_rfl⟩
instance:bQ Tryz.prog 73:=⟨by kernel_rfl⟩
instance:bQ Tryz.prog 74:=⟨by kernel_rfl⟩
instance:bQ Tryz.prog 75:=⟨by kernel_rfl⟩
instance:bQ Tryz.prog 76:=⟨by kernel_rfl⟩
instance:bQ Tryz.prog 77:=⟨by kernel_rfl⟩
instance:bQ Tryz.prog 78:=⟨by kernel_rfl⟩
instance:bQ Tryz.prog 79:=⟨by kernel_rfl⟩
instance:bQ Tryz.prog 80:=⟨by kernel_rfl⟩
instance:bQ Tryz.prog 81:=⟨by kernel_rfl⟩
instance:bQ Tryz.prog 82:=⟨by kernel_rfl⟩
instance:bQ Tryz.prog 83:=⟨by kernel_rfl⟩
instance:bQ Tryz.prog 84:=⟨by kernel_rfl⟩
instance:bQ Tryz.prog 85:=⟨by kernel_rfl⟩
instance:bQ Tryz.prog 86:=⟨by kernel_rfl⟩
instance:bQ Tryz.prog 87:=⟨by kernel_rfl⟩
instance:bQ Tryz.prog 88:=⟨by kernel_rfl⟩
instance:bQ Tryz.prog 89:=⟨by kernel_rfl⟩
instance:bQ Tryz.prog 90:=⟨by kernel_rfl⟩
instance:bQ Tryz.prog 91:=⟨by kernel_rfl⟩
instance:bQ Tryz.prog 92:=⟨by kernel_rfl⟩
instance:bQ Tryz.prog 93:=⟨by kernel_rfl⟩
instance:bQ Tryz.prog 94:=⟨by kernel_rfl⟩
instance:bQ Tryz.prog 95:=⟨by kernel_rfl⟩
instance:bQ Tryz.prog 96:=⟨by kernel_rfl⟩
instance:bQ Tryz.prog 97:=⟨by kernel_rfl⟩
instance:bQ Tryz.prog 98:=⟨by kernel_rfl⟩
instance:bQ Tryz.prog 99:=⟨by kernel_rfl⟩
instance:bQ Tryz.prog 100:=⟨by kernel_rfl⟩
instance:bQ Tryz.prog 101:=⟨by kernel_rfl⟩
instance:bQ Tryz.prog 102:=⟨by kernel_rfl⟩
instance:bQ Tryz.prog 103:=⟨by kernel_rfl⟩
instance:bQ Tryz.prog 104:=⟨by kernel_rfl⟩
instance:bQ Tryz.prog 105:=⟨by kernel_rfl⟩
instance:bQ Tryz.prog 106:=⟨by kernel_rfl⟩
instance:bQ Tryz.prog 107:=⟨by kernel_rfl⟩
instance:bQ Tryz.prog 108:=⟨by kernel_rfl⟩
instance:bQ Tryz.prog 109:=⟨by kernel_rfl⟩
instance:bQ Tryz.prog 110:=⟨by kernel_rfl⟩
instance:bQ Tryz.prog 111:=⟨by kernel_rfl⟩
instance:bQ Tryz.prog 112:=⟨by kernel_rfl⟩
instance:bQ Tryz.prog 113:=⟨by kernel_rfl⟩
instance:bQ Tryz.prog 114:=⟨by kernel_rfl⟩
instance:bQ Tryz.prog 115:=⟨by kernel_rfl⟩
instance:bQ Tryz.prog 116:=⟨by kernel_rfl⟩
instance:bQ Tryz.prog 117:=⟨by kernel_rfl⟩
instance:bQ Tryz.prog 118:=⟨by kernel_rfl⟩
instance:bQ Tryz.prog 119:=⟨by kernel_rfl⟩
instance:bQ Tryz.prog 120:=⟨by kernel_rfl⟩
instance:bQ Tryz.prog 121:=⟨by kernel_rfl⟩
instance:bQ Tryz.prog 122:=⟨by kernel_rfl⟩
instance:bQ Tryz.prog 123:=⟨by kernel_rfl⟩
instance:bQ Tryz.prog 124:=⟨by kernel_rfl⟩
instance:bQ Tryz.prog 125:=⟨by kernel_rfl⟩
instance:bQ Tryz.prog 126:=⟨by kernel_rfl⟩
instance:bQ Tryz.prog 127:=⟨by kernel_rfl⟩
instance:bQ Tryz.prog 128:=⟨by kernel_rfl⟩
instance:bQ Tryz.prog 129:=⟨by kernel_rfl⟩
instance:bQ Tryz.prog 130:=⟨by kernel_rfl⟩
instance:bQ Tryz.prog 131:=⟨by kernel_rfl⟩
instance:bQ Tryz.prog 132:=⟨by kernel_rfl⟩
instance:bQ Tryz.prog 133:=⟨by kernel_rfl⟩
instance:bQ Tryz.prog 134:=⟨by kernel_rfl⟩
instance:bQ Tryz.prog 135:=⟨by kernel_rfl⟩
instance:bQ Tryz.prog 136:=⟨by kernel_rfl⟩
instance:bQ Tryz.prog 137:=⟨by kernel_rfl⟩
instance:bQ Tryz.prog 138:=⟨by kernel_rfl⟩
instance:bQ Tryz.prog 139:=⟨by kernel_rfl⟩
instance:bQ Tryz.prog 140:=⟨by kernel_rfl⟩
instance:bQ Tryz.prog 141:=⟨by kernel_rfl⟩
instance:bQ Tryz.prog 142:=⟨by kernel_rfl⟩
instance:bQ Tryz.prog 143:=⟨by kernel_rfl⟩
instance:bQ Tryz.prog 144:=⟨by kernel_rfl⟩
instance:bQ Tryz.prog 145:=⟨by kernel_rfl⟩
instance:bQ Tryz.prog 146:=⟨by kernel_rfl⟩
instance:bQ Tryz.prog 147:=⟨by kernel_rfl⟩
instance:bQ Tryz.prog 148:=⟨by kernel_rfl⟩
instance:bQ Tryz.prog 149:=⟨by kernel_rfl⟩
instance:bQ Tryz.prog 150:=⟨by kernel_rfl⟩
instance:bQ Tryz.prog 151:=⟨by kernel_rfl⟩
instance:bQ Tryz.prog 152:=⟨by kernel_rfl⟩
instance:bQ Tryz.prog 153:=⟨by kernel_rfl⟩
instance:bQ Tryz.prog 154:=⟨by kernel_rfl⟩
instance:bQ Tryz.prog 155:=⟨by kernel_rfl⟩
instance:bQ Tryz.prog 156:=⟨by kernel_rfl⟩
instance:bQ Tryz.prog 157:=⟨by kernel_rfl⟩
instance:bQ Tryz.prog 158:=⟨by kernel_rfl⟩
instance:bQ Tryz.prog 159:=⟨by kernel_rfl⟩
instance:bQ Tryz.prog 160:=⟨by kernel_rfl⟩
instance:bQ Tryz.prog 161:=⟨by kernel_rfl⟩
instance:bQ Tryz.prog 162:=⟨by kernel_rfl⟩
instance:bQ Tryz.prog 163:=⟨by kernel_rfl⟩
instance:bQ Tryz.prog 164:=⟨by kernel_rfl⟩
instance:bQ Tryz.prog 165:=⟨by kernel_rfl⟩
instance:bQ Tryz.prog 166:=⟨by kernel_rfl⟩
instance:bQ Tryz.prog 167:=⟨by kernel_rfl⟩
instance:bQ Tryz.prog 168:=⟨by kernel_rfl⟩
instance:bQ Tryz.prog 169:=⟨by kernel_rfl⟩
instance:bQ Tryz.prog 170:=⟨by kernel_rfl⟩
theorem mixed:Tryz.prog.follows .mixedOrders=true:=by kernel_rfl
end Go.Proofs.YtfoldppidpmchaaGreat
namespace Go.Proofs.YtfoldppidpmchaaGreat
open Go.Fw Go.RowKit
def snap(W:World):Mem:=fun b o=>(W.cell? ⟨b,o,none⟩).filter Value.oneCell'
theorem Sn(W:World):(snap W).dm W:=fun _ _ _ e=>by
 obtain⟨e1,e2⟩:=Option.filter_eq_some_iff.1 e
 exact .of e1 e2
theorem So{W:World}{b o:Nat}{v:Value}(h:W.cell? ⟨b,o,none⟩=some v)(h1:v.oneCell'=true):snap W b o=some v:=Option.filter_eq_some_iff.2 ⟨h,h1⟩
class zO (P:Program) (T:TypeId) {α:Type} (e:α→List SV) (ok:outParam (α→Prop)) (sz:outParam (α→Nat)):Prop where
 h:∀{H:Type} (enc:TypeId×Value→H) (W:World) (fuel:Nat) (cs:List Value) (d:DataW H) (p:List MemPlace),DataW.trod enc P W 0 (fun _=>true) true fuel T cs=some (d,p)→
  ∃x:α,ok x∧SV.dK (snap W) (e x) cs∧(∀v∈cs,v.oneCell'=true)∧sz x≤Rows.uptoBulk d
section opn
variable {P:Program}{T:TypeId}
theorem OH{k:IntKind}{n:Int}(h:(Lit.int k n).wf=true):k.min≤n∧n≤k.max:=by simpa[Lit.wf]using h
instance[t:ij P T .i64]:zO P T aV (fun x=>-9223372036854775808≤x∧x≤9223372036854775807) (fun _=>1):=⟨fun enc W fuel cs d p h=>by
 obtain⟨n,rfl,hx,hw⟩:=DataW.trod_int t.h h
 cases hx
 have:=OH hw
 exact⟨n,by simpa[IntKind.min,IntKind.max,IntKind.signed,IntKind.bits]using this,⟨rfl,trivial⟩,by simp[Value.oneCell'],by simp[Rows.uptoBulk]⟩⟩
theorem ZK{k:IntKind}{M:Nat}{e:Nat→List SV}(t:ij P T k)(hk:k.min=0∧k.max=(M:Int)-1)(he:∀n:Nat,e n=[.v (.int k (n:Int))]):zO P T e (fun x=>x<M) (fun _=>1):=⟨fun enc W fuel cs d p h=>by
 obtain⟨n,rfl,hx,hw⟩:=DataW.trod_int t.h h
 cases hx
 have:=OH hw
 rw[hk.1,hk.2]at this
 obtain⟨m,rfl⟩:=Int.eq_ofNat_of_zero_le this.1
 exact⟨m,by omega,by rw[he];exact⟨rfl,trivial⟩,by simp[Value.oneCell'],by simp[Rows.uptoBulk]⟩⟩
instance[t:ij P T .u32]:zO P T ak (fun x=>x<4294967296) (fun _=>1):=ZK t (by decide) (fun _=>rfl)
instance[t:BM P T]:zO P T eB (fun _=>True) (fun _=>1):=⟨fun enc W fuel cs d p h=>by
 obtain⟨b,rfl,hx⟩:=DataW.trod_bool t.h h
 cases hx
 exact⟨b,trivial,⟨rfl,trivial⟩,by simp[Value.oneCell'],by simp[Rows.uptoBulk]⟩⟩
theorem Hz{H α:Type}(sz:α→Nat):∀(xs:List α) (ds:List (DataW H)),xs.length=ds.length→(∀(i:Nat) (x:α) (d:DataW H),xs[i]? =some x→ds[i]? =some d→sz x≤Rows.uptoBulk d)→(xs.map sz).sum≤Rows.uptoBulkAll ds
 |[],[],_,_=>by simp
 |x::xs,d::ds,hl,h=>by
  have h1:=h 0 x d rfl rfl
  have h2:=Hz sz xs ds (by simpa using hl) (fun i x d e1 e2=>h (i+1) x d (by simpa using e1) (by simpa using e2))
  simp only[List.map_cons,List.sum_cons,Rows.uptoBulkAll];omega
 |[],_::_,hl,_=>by simp at hl
 |_::_,[],hl,_=>by simp at hl
instance{E:TypeId}{n:Nat}{α:Type}{e:α→List SV}{ok:α→Prop}{sz:α→Nat}{by_:Nat}{zv:Value}[t:eR P T E n][tE:aP P E n by_ zv][el:EL e n][o:zO P E e ok sz]:zO P T (eS n e) (fun l=>l.length≤9223372036854775807∧∀x∈l,ok x) (fun l=>(l.map sz).sum+1):=⟨fun{H} enc W fuel cs d p h=>by
 have hcell:P.cellsOf E=n:=by
  have h1:=t.size W
  simp only[sizeOf,typeInfo]at h1
  cases hi:P.info? E with
  |none=>simp[hi]at h1
  |some i=>simp[hi]at h1;simp[Program.cellsOf,hi,h1]
 have hml:maxLen=9223372036854775807:=by decide
 rcases Deep.open_slice t.u h with⟨rfl,hx⟩|⟨a,len,cap,m,n',D,Pl,rfl,_,hl,hm,hmm,hx,hel⟩
 ·cases hx
  exact⟨[],⟨by simp,by simp⟩,⟨.inl ⟨none,rfl,rfl⟩,trivial⟩,by simp[Value.oneCell'],by simp[Rows.uptoBulk]⟩
 ·cases hx
  rw[if_pos rfl]at hmm
  subst hmm
  have one:∀i,i<m→∃x,ok x∧sz x≤Rows.uptoBulk (D i)∧∃cs',W.cells? 0 (a.add (i*n)) n=some cs'∧SV.dK (snap W) (e x) cs'∧(∀v∈cs',v.oneCell'=true):=by
   intro i hi
   obtain⟨cs',h1,h2⟩:=hel i hi
   obtain⟨x,q1,q2,q3,q4⟩:=o.h enc W n' cs' (D i) (Pl i) h2
   rw[hcell]at h1
   exact⟨x,q1,q4,cs',h1,q2,q3⟩
  obtain⟨xs,ZL,hxs⟩:∃xs:List α,xs.length=len∧∀(i:Nat) (x:α),xs[i]? =some x→ok x∧sz x≤Rows.uptoBulk (D i)∧∃cs',W.cells? 0 (a.add (i*n)) n=some cs'∧SV.dK (snap W) (e x) cs'∧(∀v∈cs',v.oneCell'=true):=by
   clear h hm hel
   have:∀k,k≤len→∃xs:List α,xs.length=k∧∀(i:Nat) (x:α),xs[i]? =some x→ok x∧sz x≤Rows.uptoBulk (D i)∧∃cs',W.cells? 0 (a.add (i*n)) n=some cs'∧SV.dK (snap W) (e x) cs'∧(∀v∈cs',v.oneCell'=true):=by
    intro k
    induction k with
    |zero=>intro _;exact⟨[],rfl,by simp⟩
    |succ k ih=>
     intro hk
     obtain⟨xs,h1,h2⟩:=ih (by omega)
     obtain⟨x,hx⟩:=one k (by omega)
     refine⟨xs++[x],by simp[h1],fun i y hy=>?_⟩
     rcases Nat.lt_or_ge i k with hi|hi
     ·exact h2 i y (by rwa[List.getElem?_append_left (by omega)]at hy)
     ·rw[List.getElem?_append_right (by omega)]at hy
      have hi2:i=k:=by
       rcases Nat.lt_or_ge (i-xs.length) 1 with q|q
       ·omega
       ·rw[List.getElem?_eq_none (by simpa using q)]at hy;cases hy
      subst hi2
      rw[h1,Nat.sub_self]at hy
      simp at hy;subst hy;exact hx
   exact this len (Nat.le_refl _)
  refine⟨xs,⟨by omega,fun x hx=>?_⟩,⟨?_,trivial⟩,by simp[Value.oneCell'],?_⟩
  ·obtain⟨i,hi,rfl⟩:=List.getElem_of_mem hx
   exact(hxs i _ (List.getElem?_eq_getElem hi)).1
  ·by_cases h0:xs=[]
   ·subst h0
    simp at ZL
    subst ZL
    by_cases hc0:m=0
    ·subst hc0;exact .inl ⟨_,rfl,rfl⟩
    ·
     obtain⟨x,_,_,cs',g1,g2,_⟩:=one 0 (by omega)
     obtain⟨_,g3,g4⟩:=World.cells?_some g1
     have hn:0<n:=tE.p
     have g5:=g4 0 hn
     obtain⟨b,o',spot⟩:=a
     have OI:spot=none:=by
      have:∃v,W.cell? (((⟨b,o',spot⟩:Addr).add (0*n)).add 0)=some v:=by
       rw[g5];exact⟨_,List.getElem?_eq_getElem (by omega)⟩
      obtain⟨v,hv⟩:=this
      simpa[Addr.add]using World.cell?_spot hv
     subst OI
     refine .inr ⟨b,o',m,rfl,by simp,by simp,fun i row hr=>by simp at hr⟩
   ·have wG:0<len:=by
     rcases Nat.eq_zero_or_pos len with hz|hz
     ·exact absurd (List.eq_nil_of_length_eq_zero (by omega)) h0
     ·exact hz
    have hn:0<n:=tE.p
    obtain⟨x,_,_,cs',g1,g2,_⟩:=one 0 (by omega)
    obtain⟨_,g3,g4⟩:=World.cells?_some g1
    have g5:=g4 0 hn
    obtain⟨b,o',spot⟩:=a
    have OI:spot=none:=by
     have:∃v,W.cell? (((⟨b,o',spot⟩:Addr).add (0*n)).add 0)=some v:=by
      rw[g5];exact⟨_,List.getElem?_eq_getElem (by omega)⟩
     obtain⟨v,hv⟩:=this
     simpa[Addr.add]using World.cell?_spot hv
    subst OI
    refine .inr ⟨b,o',m,by rw[List.length_map,ZL],by rw[List.length_map];omega,by rw[List.length_map];omega,fun i row hr=>?_⟩
    rw[List.getElem?_map]at hr
    cases hx:xs[i]? with
    |none=>rw[hx]at hr;cases hr
    |some y=>
     rw[hx]at hr
     have hr:e y=row:=Option.some.inj hr
     subst hr
     obtain⟨_,_,cs2,k1,k2,k3⟩:=hxs i y hx
     obtain⟨_,k4,k5⟩:=World.cells?_some k1
     refine⟨el.len y,fun k s hk=>?_⟩
     obtain⟨u,hu,hs⟩:=k2.get hk
     have hkn:k<n:=by have:=(List.getElem?_eq_some_iff.1 hu).1;omega
     have k6:=k5 k hkn
     rw[fU,fU,hu]at k6
     exact⟨u,So k6 (k3 u (List.mem_of_getElem? hu)),k3 u (List.mem_of_getElem? hu),hs⟩
  ·have hb:Rows.uptoBulk (DataW.slice ((List.range len).map D) ((List.range (m-len)).map fun j=>D (len+j)))=Rows.uptoBulkAll ((List.range len).map D)+Rows.uptoBulkAll ((List.range (m-len)).map fun j=>D (len+j))+1:=rfl
   rw[hb]
   have:=Hz sz xs ((List.range len).map D) (by simp[ZL]) (fun i x d e1 e2=>by
    have hi:i<len:=by have:=(List.getElem?_eq_some_iff.1 e1).1;omega
    simp[hi]at e2;subst e2
    exact(hxs i x e1).2.1)
   omega⟩
class Wn (P:Program) (T:TypeId) (k:outParam Nat):Prop where
 h:(match P.underlying T with|some (.struct fs)=>some fs.size|_=>none)=some k
theorem yj{k:Nat}[s:Wn P T k]{H:Type}{enc:TypeId×Value→H}{W:World}{fuel:Nat}{cs:List Value}{d:DataW H}{p:List MemPlace}(h:DataW.trod enc P W 0 (fun _=>true) true fuel T cs=some (d,p)):
  ∃(xs:List (DataW H×List MemPlace)) (n:Nat),d=.agg (xs.map (·.1))∧cs.length=P.cellsOf T∧xs.length=k∧∀(i off:Nat) (U:TypeId),gU P T i off U→DataW.trod enc P W 0 (fun _=>true) true n U ((cs.drop off).take (P.cellsOf U))=xs[i]? :=by
 have hs:=s.h
 cases hT:P.underlying T with
 |none=>rw[hT]at hs;cases hs
 |some u=>
  rw[hT]at hs
  cases u with
  |struct fs=>
   have hk:fs.size=k:=Option.some.inj hs
   obtain⟨xs,n,_,hx,hl,hn,hf⟩:=DataW.trod_struct hT h
   refine⟨xs,n,(Prod.mk.inj hx).1,hl,by omega,fun i off U F=>?_⟩
   have hF:=F.h
   rw[hT]at hF
   simp only at hF
   cases hg:fs[i]? with
   |none=>rw[hg]at hF;cases hF
   |some f=>
    rw[hg]at hF
    simp only[Option.map_some,Option.some.injEq,Prod.mk.injEq]at hF
    have:=hf i f hg
    rw[hF.1,hF.2]at this
    exact this
  |_=>cases hs
class OJ (P:Program) (T:TypeId):Prop where
 h:∀(w:World) (r:Reach) (base:Nat) (v:Value),Value.okWide P w r base T v→v.cells.toList=[v]
instance{k:IntKind}[t:ij P T k]:OJ P T:=⟨fun w r base v h=>by
 simp only[Value.okWide,t.h,Cell.okWide,Cell.ok]at h
 cases v<;>first|rfl|cases h⟩
instance[t:BM P T]:OJ P T:=⟨fun w r base v h=>by
 simp only[Value.okWide,t.h,Cell.okWide,Cell.ok]at h
 cases v<;>first|rfl|cases h⟩
instance[t:G3 P T]:OJ P T:=⟨fun w r base v h=>by
 simp only[Value.okWide,t.h,Cell.okWide,Cell.ok]at h
 cases v<;>first|rfl|cases h⟩
instance{E:TypeId}{n:Nat}[t:eR P T E n]:OJ P T:=⟨fun w r base v h=>by
 obtain⟨a,l,c,rfl⟩:=WideShapes.okWide_slice t.u h
 rfl⟩
theorem Ls{α:Type}{e:α→List SV}{ok:α→Prop}{sz:α→Nat}[o1:OJ P T][o:zO P T e ok sz]{H:Type}{enc:TypeId×Value→H}{W:World}{r:Reach}{base:Nat}{v:Value}{d:DataW H}{p:List MemPlace}
  (hv:Value.okWide P W r base T v) (h:DataW.Trod enc P W 0 (fun _=>true) true T v d p):∃x,ok x∧sz x≤Rows.uptoBulk d∧SV.dK (snap W) (e x) [v]:=by
 obtain⟨fuel,h⟩:=h
 rw[o1.h W r base v hv]at h
 obtain⟨x,h1,h2,_,h4⟩:=o.h enc W fuel _ d p h
 exact⟨x,h1,h4,h2⟩
theorem Lt{α:Type}{e:α→List SV}{ok:α→Prop}{sz:α→Nat}{k:Nat}[s:Wn P T k][o:zO P T e ok sz]{H:Type}{enc:TypeId×Value→H}{W:World}{r:Reach}{base:Nat}{v:Value}{d:DataW H}{p:List MemPlace}
  (hv:Value.okWide P W r base T v) (h:DataW.Trod enc P W 0 (fun _=>true) true T v d p):∃x,ok x∧sz x≤Rows.uptoBulk d∧(SV.agg (e x)).h (snap W) v:=by
 have hs:=s.h
 cases hT:P.underlying T with
 |none=>rw[hT]at hs;cases hs
 |some u=>
  rw[hT]at hs
  cases u with
  |struct fs=>
   obtain⟨cs,rfl,_⟩:=WideShapes.okWide_struct hT hv
   obtain⟨fuel,h⟩:=h
   obtain⟨x,h1,h2,_,h4⟩:=o.h enc W fuel _ d p h
   exact⟨x,h1,h4,cs.toList,rfl,h2⟩
  |_=>cases hs
end opn
theorem Sq{f:FuncId}{vs:List Value}{svs:List SV}{W:World}(hp:Pure Tryz.prog f svs (.v (.bool true)))(h:SV.dK (snap W) svs vs):
  Calls Tryz.prog f ⟨vs⟩ W fun e w'=>e=.returned (.bool true)∧Below W.heap.size W w':=
 (hp (snap W) W vs (Sn W) h).mono fun _ _ ⟨v,_,h1,_,_,_,h2,h3⟩=>by
  have h2:v=.bool true:=h2
  exact⟨by rw[h1,h2],h3⟩
end Go.Proofs.YtfoldppidpmchaaGreat
namespace Go.Proofs.YtfoldppidpmchaaGreat
open Go.Fw Go.RowKit Go.ChangeShapes Go.WideShapes Go.ChangeAt
theorem adv:ownKnob Tryz.prog.godebug=none:=by kernel_rfl
theorem yl:laidOutB Tryz.prog=true:=by kernel_rfl
instance:Wn Tryz.prog 34 2:=⟨by kernel_rfl⟩
set_option maxRecDepth 100000 in
instance:zO Tryz.prog 34 eZ (fun(z:Zr)=>(True∧(z.w.length≤9223372036854775807∧∀x1∈z.w,x1<4294967296))) (fun(z:Zr)=>(1+((z.w.map fun x1=>1).sum+1)+1)):=⟨fun enc W fuel cs d p h=>by
 obtain⟨xs,n,rfl,hl,hn,hf⟩:=yj h
 have hl:cs.length=2:=hl.trans (by kernel_rfl)
 match xs,hn with
 |[⟨d0,p0⟩,⟨d1,p1⟩],_=>
 match cs,hl with
 |[c0,c1],_=>
 have t0:DataW.trod enc Tryz.prog W 0 (fun _=>true) true n 4 [c0]=some (d0,p0):=(by have q:=hf 0 _ _ inferInstance;rw[show Tryz.prog.cellsOf 4=1 by kernel_rfl]at q;exact q)
 obtain⟨x0,a0,b0,e0,s0⟩:=zO.h (P:=Tryz.prog) (T:=4) (e:=eB) enc W n _ d0 p0 t0
 have t1:DataW.trod enc Tryz.prog W 0 (fun _=>true) true n 32 [c1]=some (d1,p1):=(by have q:=hf 1 _ _ inferInstance;rw[show Tryz.prog.cellsOf 32=1 by kernel_rfl]at q;exact q)
 obtain⟨x1,a1,b1,e1,s1⟩:=zO.h (P:=Tryz.prog) (T:=32) (e:=(eS 1 ak)) enc W n _ d1 p1 t1
 refine⟨⟨x0,x1⟩,⟨a0,a1⟩,⟨b0.1,b1.1,trivial⟩,?_,?_⟩
 ·intro v hv;simp only[List.mem_cons,List.not_mem_nil,or_false]at hv;rcases hv with rfl|rfl
  ·exact e0 _ (by simp)
  ·exact e1 _ (by simp)
 ·simp only[List.map_cons,List.map_nil,Rows.uptoBulk,Rows.uptoBulkAll];omega⟩
instance:Wn Tryz.prog 36 2:=⟨by kernel_rfl⟩
set_option maxRecDepth 100000 in
instance:zO Tryz.prog 36 eQ (fun(z:Qr)=>((True∧(z.num.w.length≤9223372036854775807∧∀x1∈z.num.w,x1<4294967296))∧(True∧(z.den.w.length≤9223372036854775807∧∀x1∈z.den.w,x1<4294967296)))) (fun(z:Qr)=>((1+((z.num.w.map fun x1=>1).sum+1)+1)+(1+((z.den.w.map fun x1=>1).sum+1)+1)+1)):=⟨fun enc W fuel cs d p h=>by
 obtain⟨xs,n,rfl,hl,hn,hf⟩:=yj h
 have hl:cs.length=4:=hl.trans (by kernel_rfl)
 match xs,hn with
 |[⟨d0,p0⟩,⟨d1,p1⟩],_=>
 match cs,hl with
 |[c0,c1,c2,c3],_=>
 have t0:DataW.trod enc Tryz.prog W 0 (fun _=>true) true n 34 [c0,c1]=some (d0,p0):=(by have q:=hf 0 _ _ inferInstance;rw[show Tryz.prog.cellsOf 34=2 by kernel_rfl]at q;exact q)
 obtain⟨x0,a0,b0,e0,s0⟩:=zO.h (P:=Tryz.prog) (T:=34) (e:=eZ) enc W n _ d0 p0 t0
 have t1:DataW.trod enc Tryz.prog W 0 (fun _=>true) true n 34 [c2,c3]=some (d1,p1):=(by have q:=hf 1 _ _ inferInstance;rw[show Tryz.prog.cellsOf 34=2 by kernel_rfl]at q;exact q)
 obtain⟨x1,a1,b1,e1,s1⟩:=zO.h (P:=Tryz.prog) (T:=34) (e:=eZ) enc W n _ d1 p1 t1
 refine⟨⟨x0,x1⟩,⟨a0,a1⟩,⟨b0.1,b0.2.1,b1.1,b1.2.1,trivial⟩,?_,?_⟩
 ·intro v hv;simp only[List.mem_cons,List.not_mem_nil,or_false]at hv;rcases hv with rfl|rfl|rfl|rfl
  ·exact e0 _ (by simp)
  ·exact e0 _ (by simp)
  ·exact e1 _ (by simp)
  ·exact e1 _ (by simp)
 ·simp only[List.map_cons,List.map_nil,Rows.uptoBulk,Rows.uptoBulkAll];omega⟩
instance:Wn Tryz.prog 26 4:=⟨by kernel_rfl⟩
set_option maxRecDepth 100000 in
instance:zO Tryz.prog 26 qO (fun(z:Lr)=>((-9223372036854775808≤z.vars∧z.vars≤9223372036854775807)∧(z.tH.length≤9223372036854775807∧∀x1∈z.tH,(x1.length≤9223372036854775807∧∀x2∈x1,((True∧(x2.num.w.length≤9223372036854775807∧∀x3∈x2.num.w,x3<4294967296))∧(True∧(x2.den.w.length≤9223372036854775807∧∀x3∈x2.den.w,x3<4294967296)))))∧(z.rows.length≤9223372036854775807∧∀x1∈z.rows,(x1.length≤9223372036854775807∧∀x2∈x1,((True∧(x2.num.w.length≤9223372036854775807∧∀x3∈x2.num.w,x3<4294967296))∧(True∧(x2.den.w.length≤9223372036854775807∧∀x3∈x2.den.w,x3<4294967296)))))∧(z.bounds.length≤9223372036854775807∧∀x1∈z.bounds,((True∧(x1.num.w.length≤9223372036854775807∧∀x2∈x1.num.w,x2<4294967296))∧(True∧(x1.den.w.length≤9223372036854775807∧∀x2∈x1.den.w,x2<4294967296)))))) (fun(z:Lr)=>(1+((z.tH.map fun x1=>((x1.map fun x2=>((1+((x2.num.w.map fun x3=>1).sum+1)+1)+(1+((x2.den.w.map fun x3=>1).sum+1)+1)+1)).sum+1)).sum+1)+((z.rows.map fun x1=>((x1.map fun x2=>((1+((x2.num.w.map fun x3=>1).sum+1)+1)+(1+((x2.den.w.map fun x3=>1).sum+1)+1)+1)).sum+1)).sum+1)+((z.bounds.map fun x1=>((1+((x1.num.w.map fun x2=>1).sum+1)+1)+(1+((x1.den.w.map fun x2=>1).sum+1)+1)+1)).sum+1)+1)):=⟨fun enc W fuel cs d p h=>by
 obtain⟨xs,n,rfl,hl,hn,hf⟩:=yj h
 have hl:cs.length=4:=hl.trans (by kernel_rfl)
 match xs,hn with
 |[⟨d0,p0⟩,⟨d1,p1⟩,⟨d2,p2⟩,⟨d3,p3⟩],_=>
 match cs,hl with
 |[c0,c1,c2,c3],_=>
 have t0:DataW.trod enc Tryz.prog W 0 (fun _=>true) true n 3 [c0]=some (d0,p0):=(by have q:=hf 0 _ _ inferInstance;rw[show Tryz.prog.cellsOf 3=1 by kernel_rfl]at q;exact q)
 obtain⟨x0,a0,b0,e0,s0⟩:=zO.h (P:=Tryz.prog) (T:=3) (e:=aV) enc W n _ d0 p0 t0
 have t1:DataW.trod enc Tryz.prog W 0 (fun _=>true) true n 23 [c1]=some (d1,p1):=(by have q:=hf 1 _ _ inferInstance;rw[show Tryz.prog.cellsOf 23=1 by kernel_rfl]at q;exact q)
 obtain⟨x1,a1,b1,e1,s1⟩:=zO.h (P:=Tryz.prog) (T:=23) (e:=(eS 1 (eS 4 eQ))) enc W n _ d1 p1 t1
 have t2:DataW.trod enc Tryz.prog W 0 (fun _=>true) true n 23 [c2]=some (d2,p2):=(by have q:=hf 2 _ _ inferInstance;rw[show Tryz.prog.cellsOf 23=1 by kernel_rfl]at q;exact q)
 obtain⟨x2,a2,b2,e2,s2⟩:=zO.h (P:=Tryz.prog) (T:=23) (e:=(eS 1 (eS 4 eQ))) enc W n _ d2 p2 t2
 have t3:DataW.trod enc Tryz.prog W 0 (fun _=>true) true n 24 [c3]=some (d3,p3):=(by have q:=hf 3 _ _ inferInstance;rw[show Tryz.prog.cellsOf 24=1 by kernel_rfl]at q;exact q)
 obtain⟨x3,a3,b3,e3,s3⟩:=zO.h (P:=Tryz.prog) (T:=24) (e:=(eS 4 eQ)) enc W n _ d3 p3 t3
 refine⟨⟨x0,x1,x2,x3⟩,⟨a0,a1,a2,a3⟩,⟨b0.1,b1.1,b2.1,b3.1,trivial⟩,?_,?_⟩
 ·intro v hv;simp only[List.mem_cons,List.not_mem_nil,or_false]at hv;rcases hv with rfl|rfl|rfl|rfl
  ·exact e0 _ (by simp)
  ·exact e1 _ (by simp)
  ·exact e2 _ (by simp)
  ·exact e3 _ (by simp)
 ·simp only[List.map_cons,List.map_nil,Rows.uptoBulk,Rows.uptoBulkAll];omega⟩
instance:Wn Tryz.prog 71 4:=⟨by kernel_rfl⟩
set_option maxRecDepth 100000 in
instance:zO Tryz.prog 71 eSz (fun(z:Sz)=>((-9223372036854775808≤z.vars∧z.vars≤9223372036854775807)∧(-9223372036854775808≤z.tH∧z.tH≤9223372036854775807)∧(-9223372036854775808≤z.rows∧z.rows≤9223372036854775807)∧(-9223372036854775808≤z.bounds∧z.bounds≤9223372036854775807))) (fun(z:Sz)=>(1+1+1+1+1)):=⟨fun enc W fuel cs d p h=>by
 obtain⟨xs,n,rfl,hl,hn,hf⟩:=yj h
 have hl:cs.length=4:=hl.trans (by kernel_rfl)
 match xs,hn with
 |[⟨d0,p0⟩,⟨d1,p1⟩,⟨d2,p2⟩,⟨d3,p3⟩],_=>
 match cs,hl with
 |[c0,c1,c2,c3],_=>
 have t0:DataW.trod enc Tryz.prog W 0 (fun _=>true) true n 3 [c0]=some (d0,p0):=(by have q:=hf 0 _ _ inferInstance;rw[show Tryz.prog.cellsOf 3=1 by kernel_rfl]at q;exact q)
 obtain⟨x0,a0,b0,e0,s0⟩:=zO.h (P:=Tryz.prog) (T:=3) (e:=aV) enc W n _ d0 p0 t0
 have t1:DataW.trod enc Tryz.prog W 0 (fun _=>true) true n 3 [c1]=some (d1,p1):=(by have q:=hf 1 _ _ inferInstance;rw[show Tryz.prog.cellsOf 3=1 by kernel_rfl]at q;exact q)
 obtain⟨x1,a1,b1,e1,s1⟩:=zO.h (P:=Tryz.prog) (T:=3) (e:=aV) enc W n _ d1 p1 t1
 have t2:DataW.trod enc Tryz.prog W 0 (fun _=>true) true n 3 [c2]=some (d2,p2):=(by have q:=hf 2 _ _ inferInstance;rw[show Tryz.prog.cellsOf 3=1 by kernel_rfl]at q;exact q)
 obtain⟨x2,a2,b2,e2,s2⟩:=zO.h (P:=Tryz.prog) (T:=3) (e:=aV) enc W n _ d2 p2 t2
 have t3:DataW.trod enc Tryz.prog W 0 (fun _=>true) true n 3 [c3]=some (d3,p3):=(by have q:=hf 3 _ _ inferInstance;rw[show Tryz.prog.cellsOf 3=1 by kernel_rfl]at q;exact q)
 obtain⟨x3,a3,b3,e3,s3⟩:=zO.h (P:=Tryz.prog) (T:=3) (e:=aV) enc W n _ d3 p3 t3
 refine⟨⟨x0,x1,x2,x3⟩,⟨a0,a1,a2,a3⟩,⟨b0.1,b1.1,b2.1,b3.1,trivial⟩,?_,?_⟩
 ·intro v hv;simp only[List.mem_cons,List.not_mem_nil,or_false]at hv;rcases hv with rfl|rfl|rfl|rfl
  ·exact e0 _ (by simp)
  ·exact e1 _ (by simp)
  ·exact e2 _ (by simp)
  ·exact e3 _ (by simp)
 ·simp only[List.map_cons,List.map_nil,Rows.uptoBulk,Rows.uptoBulkAll];omega⟩
instance:Wn Tryz.prog 90 2:=⟨by kernel_rfl⟩
set_option maxRecDepth 100000 in
instance:zO Tryz.prog 90 RH (fun(z:Cn)=>((z.row.length≤9223372036854775807∧∀x1∈z.row,((True∧(x1.num.w.length≤9223372036854775807∧∀x2∈x1.num.w,x2<4294967296))∧(True∧(x1.den.w.length≤9223372036854775807∧∀x2∈x1.den.w,x2<4294967296))))∧((True∧(z.most.num.w.length≤9223372036854775807∧∀x1∈z.most.num.w,x1<4294967296))∧(True∧(z.most.den.w.length≤9223372036854775807∧∀x1∈z.most.den.w,x1<4294967296))))) (fun(z:Cn)=>(((z.row.map fun x1=>((1+((x1.num.w.map fun x2=>1).sum+1)+1)+(1+((x1.den.w.map fun x2=>1).sum+1)+1)+1)).sum+1)+((1+((z.most.num.w.map fun x1=>1).sum+1)+1)+(1+((z.most.den.w.map fun x1=>1).sum+1)+1)+1)+1)):=⟨fun enc W fuel cs d p h=>by
 obtain⟨xs,n,rfl,hl,hn,hf⟩:=yj h
 have hl:cs.length=5:=hl.trans (by kernel_rfl)
 match xs,hn with
 |[⟨d0,p0⟩,⟨d1,p1⟩],_=>
 match cs,hl with
 |[c0,c1,c2,c3,c4],_=>
 have t0:DataW.trod enc Tryz.prog W 0 (fun _=>true) true n 24 [c0]=some (d0,p0):=(by have q:=hf 0 _ _ inferInstance;rw[show Tryz.prog.cellsOf 24=1 by kernel_rfl]at q;exact q)
 obtain⟨x0,a0,b0,e0,s0⟩:=zO.h (P:=Tryz.prog) (T:=24) (e:=(eS 4 eQ)) enc W n _ d0 p0 t0
 have t1:DataW.trod enc Tryz.prog W 0 (fun _=>true) true n 36 [c1,c2,c3,c4]=some (d1,p1):=(by have q:=hf 1 _ _ inferInstance;rw[show Tryz.prog.cellsOf 36=4 by kernel_rfl]at q;exact q)
 obtain⟨x1,a1,b1,e1,s1⟩:=zO.h (P:=Tryz.prog) (T:=36) (e:=eQ) enc W n _ d1 p1 t1
 refine⟨⟨x0,x1⟩,⟨a0,a1⟩,⟨b0.1,b1.1,b1.2.1,b1.2.2.1,b1.2.2.2.1,trivial⟩,?_,?_⟩
 ·intro v hv;simp only[List.mem_cons,List.not_mem_nil,or_false]at hv;rcases hv with rfl|rfl|rfl|rfl|rfl
  ·exact e0 _ (by simp)
  ·exact e1 _ (by simp)
  ·exact e1 _ (by simp)
  ·exact e1 _ (by simp)
  ·exact e1 _ (by simp)
 ·simp only[List.map_cons,List.map_nil,Rows.uptoBulk,Rows.uptoBulkAll];omega⟩
end Go.Proofs.YtfoldppidpmchaaGreat
namespace Go.Fw
open Go.RowKit
theorem eG{S:AS}(i o k:Nat)(E0:TypeId)(sz:Nat){T:TypeId}{cells:List AV}(hb:S.b i=some ⟨T,cells⟩)(hc:cells[o]? =some (.sv (.v (.slice none 0 0))))(hk:S.r k=.un)(Zu:k<1000):
  tQ S ((AS.bN [(k,.live ⟨E0,sz,0,[]⟩)] S).mJ i ⟨T,cells.set o (.row k)⟩):=by
 rintro C a w ⟨E,h⟩
 have h1:=h.newRow hk Zu [] none (.inl ⟨rfl,rfl⟩) (R':=⟨E0,sz,0,[]⟩) (World.ownsRow_nil w 0 E0 sz) (vs':=[]) trivial (.inl rfl) (r7 w none)
 have zG:(AS.bN [(k,.live ⟨E0,sz,0,[]⟩)] S).b i=some ⟨T,cells⟩:=hb
 have hrk:(AS.bN [(k,.live ⟨E0,sz,0,[]⟩)] S).r k≠ .un:=by
  show(AS.rX S k _).r k≠_
  rw[AS.gS];simp
 refine⟨_,{h1 with wf:=?_,bx:=fun j B hB=>?_,inj:=fun j j' B B' hB ko e=>?_,rx:=fun j R hR=>?_}⟩
 ·refine⟨fun t j hj=>?_,h1.wf.tr,fun j B hB x hx m hm=>?_,fun j B hB x hx m hm=>?_⟩
  ·obtain⟨B,hB⟩:=h1.wf.tb t j hj
   by_cases e:j=i
   ·subst e;exact⟨_,AS.cW _ _ _⟩
   ·exact⟨B,by rw[AS.bu _ _ _ _ e];exact hB⟩
  ·have key:∃B',(AS.bN [(k,.live ⟨E0,sz,0,[]⟩)] S).b m=some B':=by
    by_cases e:j=i
    ·subst e;rw[AS.cW]at hB;cases hB
     rcases List.mem_or_eq_of_mem_set hx with hx|rfl
     ·exact h1.wf.bb j _ zG x hx m hm
     ·exact hm.elim
    ·rw[AS.bu _ _ _ _ e]at hB;exact h1.wf.bb j B hB x hx m hm
   obtain⟨B',ko⟩:=key
   by_cases e:m=i
   ·subst e;exact⟨_,AS.cW _ _ _⟩
   ·exact⟨B',by rw[AS.bu _ _ _ _ e];exact ko⟩
  ·by_cases e:j=i
   ·subst e;rw[AS.cW]at hB;cases hB
    rcases List.mem_or_eq_of_mem_set hx with hx|rfl
    ·exact h1.wf.br j _ zG x hx m hm
    ·cases hm;exact hrk
   ·rw[AS.bu _ _ _ _ e]at hB;exact h1.wf.br j B hB x hx m hm
 ·by_cases e:j=i
  ·subst e;rw[AS.cW]at hB;cases hB
   obtain⟨q1,q2,q3,vs,q4,q5⟩:=h1.bx j _ zG
   refine⟨q1,q2,q3,vs,q4,?_⟩
   obtain⟨x,hx,hv⟩:=q5.get hc
   have hv:x=.slice none 0 0:=hv
   have:=cQ.set (i:=o) (s:=.row k) (x:=x) q5 (by
    show x=if k=k then _ else _
    rw[if_pos rfl];exact hv)
   have he:vs.set o x=vs:=by
    apply List.ext_getElem?
    intro n
    rw[List.getElem?_set]
    split
    ·rename_i hn;subst hn;rw[hx];split<;>rename_i hl
     ·rfl
     ·have:=(List.getElem?_eq_some_iff.1 hx).1;exact absurd this hl
    ·rfl
   rwa[he]at this
  ·rw[AS.bu _ _ _ _ e]at hB;exact h1.bx j B hB
 ·have old:∀n B,((AS.bN [(k,.live ⟨E0,sz,0,[]⟩)] S).mJ i ⟨T,cells.set o (.row k)⟩).b n=some B→∃B',(AS.bN [(k,.live ⟨E0,sz,0,[]⟩)] S).b n=some B':=fun n B hn=>by
   by_cases e:n=i
   ·subst e;exact⟨_,zG⟩
   ·rw[AS.bu _ _ _ _ e]at hn;exact⟨B,hn⟩
  obtain⟨B1,p1⟩:=old j B hB
  obtain⟨B2,p2⟩:=old j' B' ko
  exact h1.inj j j' B1 B2 p1 p2 e
 ·obtain⟨p1,p2⟩:=h1.rx j R hR
  refine⟨p1,fun g hg=>?_⟩
  obtain⟨p3,p4,p5,p6⟩:=p2 g hg
  refine⟨p3,p4,p5,fun n B hn=>?_⟩
  by_cases e:n=i
  ·subst e;exact p6 n _ zG
  ·rw[AS.bu _ _ _ _ e]at hn;exact p6 n B hn
end Go.Fw
namespace Go.Fw
open Go.RowKit
section part
variable {P:Program}{C:Ctx}{ops:Array Oper}{acts:List Ac}{S:AS}
def ym(ops:Array Oper)(m:Nat)(acts:List Ac):Bool:=
 let b:=Region.before ops
 (acts.length==m)&&(decide (m≤ops.size))&&
 (ops.toList.zipIdx.all fun(o,j)=>o.after.all fun e=>!Region.binds .any e||decide (e.on<j))&&
 (acts.zipIdx.all fun(y,j)=>acts.zipIdx.all fun(x,i)=>!(decide (i<j))|| !(x.mP y)||(b.getD j 0).testBit i)&&
 ((List.range ops.size).all fun j=>!(decide (m≤j))||(List.range j).all fun i=>(b.getD j 0).testBit i)
theorem ue{m:Nat}(h:ym ops m acts=true):acts.length=m∧m≤ops.size∧
  (∀(j:Nat) (o:Oper),ops[j]? =some o→∀e∈o.after,Region.binds .any e=true→e.on<j)∧
  (∀(i j:Nat) (x y:Ac),acts[i]? =some x→acts[j]? =some y→i<j→x.mP y=true→((Region.before ops).getD j 0).testBit i=true)∧
  (∀i j:Nat,m≤j→j<ops.size→i<j→((Region.before ops).getD j 0).testBit i=true):=by
 simp only[ym,Bool.and_eq_true,beq_iff_eq,List.all_eq_true,decide_eq_true_eq]at h
 obtain⟨⟨⟨⟨h1,h0⟩,h2⟩,h3⟩,h4⟩:=h
 refine⟨h1,h0,?_,?_,?_⟩
 ·intro j o ho e he hb
  have:=h2 (o,j) (List.mem_zipIdx_iff_getElem?.2 (by simpa using ho))
  simp only[Array.all_eq_true_iff_forall_mem]at this
  have:=this e he
  simpa[hb]using this
 ·intro i j x y hx hy hij hc
  have:=h3 (y,j) (List.mem_zipIdx_iff_getElem?.2 (by simpa using hy)) (x,i) (List.mem_zipIdx_iff_getElem?.2 (by simpa using hx))
  simpa[hij,hc]using this
 ·intro i j hm hj hij
  have:=h4 j (List.mem_range.2 hj)
  simp only[hm,decide_true,Bool.not_true,Bool.false_or,List.all_eq_true]at this
  exact this i (List.mem_range.2 hij)
theorem lM(listed:Array Bool)(i:Nat)(hs:listed.size=ops.size)(hi:i<ops.size):listed.getD i true=listed.getD i false:=by
 rw[Array.getD_eq_getD_getElem?,Array.getD_eq_getD_getElem?]
 rw[Array.getElem?_eq_getElem (by omega)];rfl
theorem Cc(xW:∀(j:Nat) (o:Oper),ops[j]? =some o→∀e∈o.after,Region.binds .any e=true→e.on<j)(listed:Array Bool)(hs:listed.size=ops.size)(hr:Region.ready .any ops listed=[]):∀i,i<ops.size→listed.getD i false=true:=by
 intro i
 induction i using Nat.strongRecOn with
 |_ i ih=>
  intro hi
  cases Ju:listed.getD i false with
  |true=>rfl
  |false=>
   exfalso
   have:i∈Region.ready .any ops listed:=by
    simp only[Region.ready,List.mem_filter,List.mem_range]
    refine⟨hi,?_⟩
    rw[lM listed i hs hi,Ju,Array.getElem?_eq_getElem hi]
    simp only[Bool.not_false,Bool.true_and,Option.map_some,Option.getD_some,Array.all_eq_true_iff_forall_mem]
    intro e he
    cases hb:Region.binds .any e with
    |false=>rfl
    |true=>
     have hlt:=xW i ops[i] (Array.getElem?_eq_getElem hi) e he hb
     rw[ih e.on hlt (by omega)];rfl
   rw[hr]at this
   simp at this
theorem AB{listed:Array Bool}(hs:listed.size=ops.size)(hD:Down ops (fun i=>listed.getD i false)){i:Nat}(hi:i∈Region.ready .any ops listed):
  ∃h:i<ops.size,listed.getD i false=false∧(∀m,(listed.setIfInBounds i true).getD m false=if m=i then true else listed.getD m false)∧Down ops (fun m=>(listed.setIfInBounds i true).getD m false):=by
 simp only[Region.ready,List.mem_filter,List.mem_range,Bool.and_eq_true,Bool.not_eq_true']at hi
 obtain⟨hi,Ju,hpre⟩:=hi
 have DN:listed.getD i false=false:=by rw[←lM listed i hs hi];exact Ju
 have ho:ops[i]? =some ops[i]:=Array.getElem?_eq_getElem hi
 have NX:∀e∈ops[i].after,Region.binds .any e=true→listed.getD e.on false=true:=by
  rw[ho]at hpre
  simp only[Option.map_some,Option.getD_some,Array.all_eq_true_iff_forall_mem]at hpre
  intro e he hb
  have:=hpre e he
  simpa[hb]using this
 have dM:∀m,(listed.setIfInBounds i true).getD m false=if m=i then true else listed.getD m false:=by
  intro m
  rw[Array.getD_eq_getD_getElem?,Array.getElem?_setIfInBounds]
  by_cases hm:m=i
  ·subst hm;simp[hs,hi]
  ·rw[if_neg (by omega),if_neg hm,Array.getD_eq_getD_getElem?]
 refine⟨hi,DN,dM,?_⟩
 intro j o hj hl e he hb
 simp only[dM]at hl⊢
 by_cases hji:j=i
 ·subst hji
  have:o=ops[j]:=by rw[ho]at hj;exact(Option.some.inj hj).symm
  subst this
  have:=NX e he hb
  split<;>simp_all
 ·rw[if_neg hji]at hl
  have:=hD j o hj hl e he hb
  split<;>simp_all
theorem Fu{m:Nat}(xW:∀(j:Nat) (o:Oper),ops[j]? =some o→∀e∈o.after,Region.binds .any e=true→e.on<j)
  (HA:∀i j:Nat,m≤j→j<ops.size→i<j→((Region.before ops).getD j 0).testBit i=true) {Q:Exit→Act→World→Prop} {R:AS→Prop} (hQ:∀S a w,R S→S.holds C a w→Q .normal a w):
  ∀(fuel k:Nat) (listed:Array Bool) (a:Act) (w:World) (S:AS) (acc:List Ac),m≤k→k≤ops.size→listed.size=ops.size→(∀i,i<ops.size→listed.getD i false=decide (i<k))→ops.size-k≤fuel→Down ops (fun i=>listed.getD i false)→
   RunT P C ops true (fun _ S=>R S) (ops.toList.drop k) acc S→S.holds C a w→wpAnyIn (Fr C.ro) 0 P .any ops Q fuel listed a w:=by
 intro fuel
 induction fuel with
 |zero=>
  intro k listed a w S acc hm hk hs hl hf hD hR hh
  obtain rfl:k=ops.size:=by omega
  rw[show ops.toList.drop ops.size=[] by simp]at hR
  refine⟨?_,hQ S a w hR hh⟩
  simp only[Region.ready,List.filter_eq_nil_iff,List.mem_range]
  intro i hi
  rw[lM listed i hs hi,hl i hi,decide_eq_true hi];simp
 |succ fuel ih=>
  intro k listed a w S acc hm hk hs hl hf hD hR hh
  refine⟨fun hr=>?_,fun i hi=>?_⟩
  ·have hall:=Cc xW listed hs hr
   obtain rfl:k=ops.size:=by
    rcases Nat.lt_or_ge k ops.size with h|h
    ·have:=hall k h
     rw[hl k h]at this
     simp at this
    ·omega
   rw[show ops.toList.drop ops.size=[] by simp]at hR
   exact hQ S a w hR hh
  ·obtain⟨hi,Ju,dM,RU⟩:=AB hs hD hi
   have RV:i=k:=by
    have h1:¬i<k:=by rw[hl i hi]at Ju;simpa using Ju
    rcases Nat.lt_or_ge k i with h|h
    ·have hb:=HA k i (by omega) hi h
     have:=kS RU i k hb (by simp[dM])
     rw[dM,if_neg (by omega),hl k (by omega)]at this
     simp at this
    ·omega
   subst RV
   have ho:ops[i]? =some ops[i]:=Array.getElem?_eq_getElem hi
   have ZM:ops.toList.drop i=ops[i]::ops.toList.drop (i+1):=by
    rw[List.drop_eq_getElem_cons (by simpa using hi)];simp
   rw[ZM]at hR
   have next:∀(S':AS) (acc':List Ac) (a':Act) (w':World),RunT P C ops true (fun _ S=>R S) (ops.toList.drop (i+1)) acc' S'→S'.holds C a' w'→wpAnyIn (Fr C.ro) 0 P .any ops Q fuel (listed.setIfInBounds i true) a' w':=by
    intro S' acc' a' w' h1 h2
    refine ih (i+1) _ a' w' S' acc' (by omega) hi (by simp[hs]) (fun j hj=>?_) (by omega) RU h1 h2
    rw[dM]
    by_cases hji:j=i
    ·rw[if_pos hji];simp[hji]
    ·rw[if_neg hji,hl j hj,decide_eq_decide];omega
   rcases hR with⟨rs,rb,rr,e,hop,OK⟩|⟨_,Post,hop,OK⟩
   ·exact hop S rfl (fun _ _=>rfl) (fun _ _=>rfl) (fun _ _=>rfl) i a w _ Q ho hh (fun a' w' VV=>next _ _ a' w' OK VV)
   ·exact hop i a w _ Q ho hh (fun S' a' w' hp VV=>next S' [] a' w' (OK S' hp) VV)
theorem Fv{m:Nat}(hT:NU P C ops acts S)(DM:ym ops m acts=true){Q:Exit→Act→World→Prop}
  (hQ:∀(fuel:Nat) (listed:Array Bool) a w,listed.size=ops.size→(∀i,i<ops.size→listed.getD i false=decide (i<m))→ops.size-m≤fuel→Down ops (fun i=>listed.getD i false)→(ov S (bA acts) (fun _=>true) m).holds C a w→wpAnyIn (Fr C.ro) 0 P .any ops Q fuel listed a w):
  ∀(fuel:Nat) (listed:Array Bool) (a:Act) (w:World),listed.size=ops.size→NV ops.size listed≤fuel→Down ops (fun i=>listed.getD i false)→(∀i,listed.getD i false=true→i<m)→
   (ov S (bA acts) (fun i=>listed.getD i false) m).holds C a w→wpAnyIn (Fr C.ro) 0 P .any ops Q fuel listed a w:=by
 obtain⟨hlen,hmn,xW,zC,HA⟩:=ue DM
 have whole:∀(fuel:Nat) (listed:Array Bool) (a:Act) (w:World),listed.size=ops.size→NV ops.size listed≤fuel→Down ops (fun i=>listed.getD i false)→(∀i,listed.getD i false=true→i<m)→
   (ov S (bA acts) (fun i=>listed.getD i false) m).holds C a w→(∀i,i<m→listed.getD i false=true)→wpAnyIn (Fr C.ro) 0 P .any ops Q fuel listed a w:=by
  intro fuel listed a w hs hu hD hL hh hall
  refine hQ fuel listed a w hs (fun i hi=>?_) ?_ hD ?_
  ·by_cases h:i<m
   ·rw[hall i h,decide_eq_true h]
   ·rw[decide_eq_false h]
    cases e:listed.getD i false with
    |false=>rfl
    |true=>exact absurd (hL i e) h
  ·have hsub:(List.range ops.size).filter (fun i=>!decide (i<m))=(List.range ops.size).filter fun i=>!listed.getD i true:=by
    apply List.filter_congr
    intro i hi
    have hi:=List.mem_range.1 hi
    rw[lM listed i hs hi]
    by_cases h:i<m
    ·rw[hall i h,decide_eq_true h]
    ·rw[decide_eq_false h]
     cases e:listed.getD i false with
     |false=>rfl
     |true=>exact absurd (hL i e) h
   have Wo:∀n,m≤n→((List.range n).filter (fun i=>!decide (i<m))).length=n-m:=by
    intro n
    induction n with
    |zero=>intro h;simp
    |succ n ih=>
     intro h
     rw[List.range_succ,List.filter_append,List.length_append]
     rcases Nat.lt_or_ge n m with q|q
     ·obtain rfl:m=n+1:=by omega
      have h1:((List.range n).filter (fun i=>!decide (i<n+1)))=[]:=by
       rw[List.filter_eq_nil_iff];intro i hi;have:=List.mem_range.1 hi;simp;omega
      rw[h1];simp
     ·rw[ih q,List.filter_cons,decide_eq_false (by omega:¬n<m)];simp;omega
   have h2:NV ops.size listed=ops.size-m:=by unfold NV;rw[←hsub,Wo _ hmn]
   omega
  ·rwa[nu S (bA acts) (L:=fun i=>listed.getD i false) (L':=fun _=>true) m hall]at hh
 intro fuel
 induction fuel with
 |zero=>
  intro listed a w hs hu hD hL hh
  refine whole 0 listed a w hs hu hD hL hh (fun i hi=>?_)
  cases Ju:listed.getD i false with
  |true=>rfl
  |false=>
   exfalso
   have hm:i∈(List.range ops.size).filter fun i=>!listed.getD i true:=by
    rw[List.mem_filter];exact⟨List.mem_range.2 (by omega),by rw[lM listed i hs (by omega),Ju];rfl⟩
   have:0<NV ops.size listed:=List.length_pos_of_mem hm
   omega
 |succ fuel ih=>
  intro listed a w hs hu hD hL hh
  by_cases hall:∀i,i<m→listed.getD i false=true
  ·exact whole _ listed a w hs hu hD hL hh hall
  have hex:∃i,i<m∧listed.getD i false=false:=Classical.byContradiction (fun hc=>hall (fun i hi=>by
   cases e:listed.getD i false with
   |true=>rfl
   |false=>exact absurd ⟨i,hi,e⟩ hc))
  obtain⟨i0,Ua,YO⟩:=hex
  refine⟨fun hr=>?_,fun i hi=>?_⟩
  ·have:=Cc xW listed hs hr i0 (by omega)
   rw[YO]at this;cases this
  ·have hi':=hi
   obtain⟨hi,DN,dM,RU⟩:=AB hs hD hi
   have ho:ops[i]? =some ops[i]:=Array.getElem?_eq_getElem hi
   have him:i<m:=by
    rcases Nat.lt_or_ge i m with h|h
    ·exact h
    ·have hb:=HA i0 i h hi (by omega)
     have:=kS RU i i0 hb (by simp[dM])
     rw[dM,if_neg (by omega),YO]at this
     cases this
   have RR:i<acts.length:=by omega
   have hx:acts[i]? =some acts[i]:=List.getElem?_eq_getElem RR
   have VT:bA acts i=acts[i].e:=by simp[bA,RR]
   have later:∀k,i<k→listed.getD k false=true→(acts[i]).mP ((acts[k]?).getD ⟨[],[],[],⟨none,[],[]⟩⟩)=false:=by
    intro k hk hlk
    have hkn:k<m:=hL k hlk
    have hka:acts[k]? =some acts[k]:=List.getElem?_eq_getElem (by omega)
    rw[hka,Option.getD_some]
    cases hc:(acts[i]).mP acts[k]with
    |false=>rfl
    |true=>
     have hb:=zC i k _ _ hx hka hk hc
     have:=kS hD k i hb hlk
     simp only[DN]at this
     exact absurd this (by simp)
   have E5:∀k,k<i→listed.getD k false=false→((acts[k]?).getD ⟨[],[],[],⟨none,[],[]⟩⟩).mP acts[i]=false:=by
    intro k hk hlk
    have hka:acts[k]? =some acts[k]:=List.getElem?_eq_getElem (by omega)
    rw[hka,Option.getD_some]
    cases hc:(acts[k]).mP acts[i]with
    |false=>rfl
    |true=>
     have hb:=zC k i _ _ hka hx hk hc
     have:=kS RU i k hb (by simp[dM])
     rw[dM,if_neg (by omega),hlk]at this
     exact absurd this (by simp)
   have Jv:∀k,((acts[k]?).getD ⟨[],[],[],⟨none,[],[]⟩⟩).e=bA acts k:=by
    intro k;unfold bA;cases acts[k]? <;>rfl
   have iA:∀{x y:Ac},x.mP y=false→(∀d∈x.e.ks,d∉y.rs∧d∉y.e.ks)∧(∀d∈y.e.ks,d∉x.rs)∧(∀d∈x.e.kb,d∉y.rb∧d∉y.e.kb)∧(∀d∈y.e.kb,d∉x.rb)∧(∀d∈x.e.kr,d∉y.rr∧d∉y.e.kr)∧(∀d∈y.e.kr,d∉x.rr):=by
    intro x y h
    simp only[Ac.mP,Bool.or_eq_false_iff]at h
    exact⟨eL h.1.1.1.1.1,fun d hd=>(eL h.1.1.1.1.2 d hd).1,eL h.1.1.1.2,fun d hd=>(eL h.1.1.2 d hd).1,eL h.1.2,fun d hd=>(eL h.2 d hd).1⟩
   have look:∀{α:Type} (get:AS→Nat→α) (wr:qh→Nat→Option α) (dM:∀S e s,get (S.app e) s=(wr e s).getD (get S s)) (rk:Ac→List Nat) (wk:qh→List Nat)
     (hk:∀e s,wr e s≠none→s∈wk e) (c1:∀x y:Ac,x.mP y=false→(∀d∈wk x.e,d∉rk y)∧(∀d∈wk y.e,d∉rk x)),∀s∈rk acts[i],
     get (ov S (bA acts) (fun q=>listed.getD q false) m) s=get (ov S (bA acts) (fun _=>true) i) s:=by
    intro α get wr dM rk wk hk c1 s DO
    rw[Lb get wr dM S (bA acts) _ s i m (by omega)]
    ·refine G2 get wr dM S (bA acts) _ _ s i fun m hm hw=>?_
     cases Em:listed.getD m false with
     |true=>rfl
     |false=>
      have:=(c1 _ _ (E5 m hm Em)).1 s (by rw[Jv];exact hk _ _ hw)
      exact absurd DO this
    ·intro m VU hm2 Em
     cases hw:wr (bA acts m) s with
     |none=>rfl
     |some x=>
      exfalso
      rcases Nat.lt_or_ge i m with h|h
      ·have:=(c1 _ _ (later m h Em)).2 s (by rw[Jv];exact hk _ _ (by rw[hw];simp))
       exact this DO
      ·obtain rfl:m=i:=by omega
       simp only[DN]at Em
       exact absurd Em (by simp)
   refine hT i ops[i] acts[i] ho hx (ov S (bA acts) (fun q=>listed.getD q false) m) (by rw[NT,NT]) ?_ ?_ ?_ i a w _ Q ho hh ?_
   ·exact look AS.t wT AS.GY Ac.rs qh.ks (fun _ _ h=>E4 h) (fun x y h=>⟨fun d hd=>((iA h).1 d hd).1,(iA h).2.1⟩)
   ·exact look AS.b (fun e=>rf e.bx) AS.GZ Ac.rb qh.kb (fun _ _ h=>ri h) (fun x y h=>⟨fun d hd=>((iA h).2.2.1 d hd).1,(iA h).2.2.2.1⟩)
   ·exact look AS.r (fun e=>ek e.rw) AS.G0 Ac.rr qh.kr (fun _ _ h=>rj h) (fun x y h=>⟨fun d hd=>((iA h).2.2.2.2.1 d hd).1,(iA h).2.2.2.2.2⟩)
   ·intro a' w' VV
    refine ih (listed.setIfInBounds i true) a' w' (by simp[hs]) ?_ RU ?_ ?_
    ·have:=NW hi hs (by rw[lM listed i hs hi];exact DN)
     omega
    ·intro k hk
     rw[dM]at hk
     by_cases RV:k=i
     ·omega
     ·rw[if_neg RV]at hk;exact hL k hk
    ·
     have heq:ov S (bA acts) (fun q=>(listed.setIfInBounds i true).getD q false) m=(ov S (bA acts) (fun q=>listed.getD q false) m).app acts[i].e:=by
      have hsm:∀k,k≤i→ov S (bA acts) (fun q=>(listed.setIfInBounds i true).getD q false) k=ov S (bA acts) (fun q=>listed.getD q false) k:=fun k hk=>
       nu S (bA acts) k (fun m hm=>by rw[dM,if_neg (by omega)])
      have step:∀k,i<k→k≤m→ov S (bA acts) (fun q=>(listed.setIfInBounds i true).getD q false) k=(ov S (bA acts) (fun q=>listed.getD q false) k).app acts[i].e:=by
       intro k hk hkn
       induction k with
       |zero=>omega
       |succ k ihk=>
        by_cases RV:k=i
        ·subst RV
         show(if(listed.setIfInBounds k true).getD k false then _ else _)=AS.app (if listed.getD k false then _ else _) _
         rw[dM,if_pos rfl,if_pos rfl,DN,hsm k (Nat.le_refl _),VT]
         rfl
        ·have ih2:=ihk (by omega) (by omega)
         show(if(listed.setIfInBounds i true).getD k false then(ov S (bA acts) (fun q=>(listed.setIfInBounds i true).getD q false) k).app (bA acts k)else ov S (bA acts) (fun q=>(listed.setIfInBounds i true).getD q false) k)=AS.app (if listed.getD k false then(ov S (bA acts) (fun q=>listed.getD q false) k).app (bA acts k)else ov S (bA acts) (fun q=>listed.getD q false) k) _
         rw[dM,if_neg RV,ih2]
         cases hlk:listed.getD k false with
         |false=>rfl
         |true=>
          rw[if_pos rfl,if_pos rfl]
          have hc:=iA (later k (by omega) hlk)
          rw[Jv]at hc
          have two:∀{α:Type} (get:AS→Nat→α) (wr:qh→Nat→Option α) (dM:∀S e s,get (S.app e) s=(wr e s).getD (get S s)) (wk:qh→List Nat) (hk:∀e s,wr e s≠none→s∈wk e)
            (c1:∀d∈wk acts[i].e,d∉wk (bA acts k)) (T:AS) (s:Nat),get ((T.app acts[i].e).app (bA acts k)) s=get ((T.app (bA acts k)).app acts[i].e) s:=by
           intro α get wr dM wk hk c1 T s
           rw[dM,dM,dM,dM]
           cases h1:wr acts[i].e s with
           |none=>rfl
           |some x=>
            cases h2:wr (bA acts k) s with
            |none=>rfl
            |some y=>exact absurd (hk _ s (by rw[h2];simp)) (c1 s (hk _ s (by rw[h1];simp)))
          refine AS.ext' (by simp[AS.NS]) (fun s=>?_) (fun s=>?_) (fun s=>?_) (by simp[AS.El]) (by simp[AS.El])
          ·exact two AS.t wT AS.GY qh.ks (fun _ _ h=>E4 h) (fun d hd=>(hc.1 d hd).2) _ s
          ·exact two AS.b (fun e=>rf e.bx) AS.GZ qh.kb (fun _ _ h=>ri h) (fun d hd=>(hc.2.2.1 d hd).2) _ s
          ·exact two AS.r (fun e=>ek e.rw) AS.G0 qh.kr (fun _ _ h=>rj h) (fun d hd=>(hc.2.2.2.2.1 d hd).2) _ s
      exact step m him (Nat.le_refl _)
     rw[heq];exact VV
end part
theorem MZ{P:Program}{C:Ctx}{ops:Array Oper}{K:List Ac→AS→Prop}(rest:List Oper)(S:AS)(h:RunT P C ops false K rest [] S):
  ∃xs:List Ac,xs.length=rest.length∧(∀(i:Nat) (o:Oper) (x:Ac),rest[i]? =some o→xs[i]? =some x→RQ P C ops o x.rs x.rb x.rr (ov S (bA xs) (fun _=>true) i) x.e)∧K xs.reverse (ov S (bA xs) (fun _=>true) rest.length):=by
 obtain⟨xs,h1,h2,h3⟩:=zD rest [] S h
 exact⟨xs,h1,h2,by simpa using h3⟩
theorem Cd{P:Program}{C:Ctx}{id:Nat}{ops:Array Oper}{S:AS}{Q:Exit→AS→Prop}(m:Nat)(hm:P.follows .mixedOrders=true)
  (h:RunT P C ops false (fun acc S=>ym ops m acc.reverse=true∧RunT P C ops true (fun _ S=>Q .normal S) (ops.toList.drop m) [] S) (ops.toList.take m) [] S):Ok P C (.region id ops true) S Q:=fun a w hs=>by
 obtain⟨xs,hl,hxs,DM,hq⟩:=MZ _ _ h
 rw[List.reverse_reverse]at DM
 obtain⟨hlen,hmn,xW,zC,HA⟩:=ue DM
 have Em:(ops.toList.take m).length=m:=by simp;omega
 rw[Em]at hq
 refine wpIn_region_any hm ?_
 refine Fv (acts:=xs) (S:=S) (m:=m) (fun i o x ho hx=>hxs i o x ?_ hx) DM (fun fuel listed a w h1 h2 h3 h4 h5=>Fu (m:=m) xW HA (R:=fun S=>Q .normal S) (fun S a w hR hh=>⟨S,hR,hh⟩) fuel m listed a w _ [] (Nat.le_refl _) hmn h1 h2 h3 h4 hq h5) ops.size _ a _ (by simp) ?_ ?_ ?_ ?_
 ·have hi:i<m:=by
   have:=(List.getElem?_eq_some_iff.1 hx).1;omega
  rw[List.getElem?_take_of_lt hi];simpa using ho
 ·have:=List.length_filter_le (fun i=>!(Array.replicate ops.size false).getD i true) (List.range ops.size)
  simpa[NV]using this
 ·intro j o _ hj
  exfalso
  simp only[Array.getD_eq_getD_getElem?,Array.getElem?_replicate]at hj
  split at hj<;>simp at hj
 ·intro i hi
  exfalso
  simp only[Array.getD_eq_getD_getElem?,Array.getElem?_replicate]at hi
  split at hi<;>simp at hi
 ·rw[nu S (bA xs) (L':=fun _=>false) m (fun i hi=>by rw[Array.getD_eq_getD_getElem?,Array.getElem?_replicate];split<;>rfl)]
  have:∀k,ov S (bA xs) (fun _=>false) k=S:=by
   intro k;induction k with
   |zero=>rfl
   |succ k ih=>simpa[ov]using ih
  rw[this]
  exact hs.drew
end Go.Fw
namespace Go.Fw
open Go.RowKit
instance{g:FuncId}{caps:List SV}:One (rC g caps):=⟨fun _ _ h=>by obtain⟨vs,rfl,_⟩:=h;rfl⟩
section steps
variable {P:Program}{C:Ctx}{ops:Array Oper}{S:AS}{nd:Bool}{K:List Ac→AS→Prop}{rest:List Oper}{acc:List Ac}
variable {gd:Option (Nat×Bool)}{rg:List Nat}{d:Nat}{ty:TypeId}{pos:String}{aft:Array Edge}{x y z:Operand}{T U E0:TypeId}
end steps
end Go.Fw
namespace Go.Fw.Z
open Go.Fw
theorem T{d n:Nat}(h:Nat.ble (d+1) n=true:=by exact rfl):d<n:=tl h
theorem bE{α β:Type}{x:Option α}{f:α→Option β}{r:β}{G:Prop}(h:Option.bind x f=some r)(k:∀a,x=some a→f a=some r→G):G:=by obtain⟨a,h1,h2⟩:=bind_some h;exact k a h1 h2
theorem lE{α β:Type}{v:α}{f:α→Option β}{r:β}{G:Prop}(h:Option.bind (some v) f=some r)(k:∀a,v=a→f a=some r→G):G:=k v rfl h
theorem bS{α β:Type}{x:Option α}{f:α→Option β}{r:β}(h:Option.bind x f=some r):∃a,x=some a∧f a=some r:=bind_some h
theorem F{α:Type}{x y:Option α}{r:α}(h:(bif false then x else y)=some r):y=some r:=h
theorem V{α:Type}{x y:Option α}{r:α}(h:(bif true then x else y)=some r):x=some r:=h
theorem O{α:Type}{a b:α}(h:some a=some b):a=b:=Option.some.inj h
def Az(l:List (Nat×Nat))(i:Nat):Nat:=((l.find? fun p=>Nat.beq p.1 i).map (·.2)).getD i
def rnA(l:List (Nat×Nat)):AV→AV
 |.row i=>.row (Az l i)
 |.nq i o n=>.nq (Az l i) o n
 |x=>x
def noR:AV→Bool
 |.ic _ _=>false
 |.cmp _ _=>false
 |_=>true
theorem avi(l:List (Nat×Nat)){x:AV}(h:noR x=true):MO (Az l) (rnA l x) x:=by
 cases x with
 |sv s=>exact .sv (SV.aa _)
 |ptr i o=>exact .ptr
 |EY i o n c=>exact .EY
 |row i=>exact .row rfl
 |ic i k=>cases h
 |nq i o n=>exact .nq rfl
 |fE g js=>exact .fE
 |cmp t js=>cases h
theorem ZN(l:List (Nat×Nat)):∀{xs:List AV},(xs.all noR)=true→JC (Az l) (xs.map (rnA l)) xs
 |[],_=>trivial
 |x::xs,h=>by simp only[List.all_cons,Bool.and_eq_true]at h;exact⟨avi l h.1,ZN l h.2⟩
theorem wR(l:List (Nat×Nat)){S:AS}{n:Nat}{ts:List (Nat×AV)}{bs:List (Nat×pZ)}{rs:List (Nat×Row)}{g:Nat}{go:Bool}
  (ht:ts.map (fun p=>S.t p.1)=ts.map (fun p=>rnA l p.2):=by exact rfl) (hb:bs.map (fun p=>S.b p.1)=bs.map (fun p=>some ⟨p.2.T,p.2.cells.map (rnA l)⟩):=by exact rfl) (hr:rs.map (fun p=>S.r (Az l p.1))=rs.map (fun p=>.live p.2):=by exact rfl)
  (hn:S.n=n:=by exact rfl) (hg:S.g=g:=by exact rfl) (Jq:S.go=go:=by exact rfl)
  (hwf:((ts.all fun p=>p.2.qN bs rs)&&(bs.all fun p=>p.2.cells.all fun x=>x.qN bs rs))=true:=by exact rfl) (hσ:((rs.all fun p=>rs.all fun q=>!(Nat.beq (Az l p.1) (Az l q.1))||Nat.beq p.1 q.1))=true:=by exact rfl)
  (hno:((ts.all fun p=>noR p.2)&&(bs.all fun p=>p.2.cells.all noR))=true:=by exact rfl) (hl:(l.all fun p=>Nat.ble (p.1+1) 1000)=true:=by exact rfl):tQ S (AS.bw n ts bs rs g go):=by
 simp only[Bool.and_eq_true,List.all_eq_true]at hno
 refine bK (Az l) hn hg Jq hwf hσ ?_ ?_ ?_ ?_
 ·clear hwf hb hr
  obtain⟨h,-⟩:=hno
  induction ts with
  |nil=>trivial
  |cons p ts ih=>
   obtain⟨k,x⟩:=p
   simp only[List.map_cons,List.cons.injEq]at ht
   refine⟨?_,ih ht.2 (fun q hq=>h q (by simp[hq]))⟩
   show MO _ (S.t k) x
   rw[ht.1];exact avi l (h (k,x) (by simp))
 ·clear hwf ht hr
  obtain⟨-,h⟩:=hno
  induction bs with
  |nil=>trivial
  |cons p bs ih=>
   obtain⟨k,x⟩:=p
   simp only[List.map_cons,List.cons.injEq]at hb
   exact⟨⟨_,hb.1,ZN l (List.all_eq_true.2 (h (k,x) (by simp)))⟩,ih hb.2 (fun q hq=>h q (by simp[hq]))⟩
 ·clear hwf ht hb hσ
  induction rs with
  |nil=>trivial
  |cons p rs ih=>
   obtain⟨k,x⟩:=p
   simp only[List.map_cons,List.cons.injEq]at hr
   exact⟨⟨_,hr.1,bB.refl _⟩,ih hr.2⟩
 ·intro i hi
  unfold Az
  have:l.find? (fun p=>Nat.beq p.1 i)=none:=by
   rw[List.find?_eq_none]
   intro p hp e
   have h1:=Nat.le_of_ble_eq_true (List.all_eq_true.1 hl p hp)
   have h2:=Nat.eq_of_beq_eq_true e
   omega
  rw[this];rfl
section
variable {P:Program}{C:Ctx}{S:AS}{Q:Exit→AS→Prop}
theorem qq{x y:Code}(h:Ok P C x S (ae (fun S'=>Ok P C y S' Q) Q)):Ok P C (.seq x y) S Q:=aO h
theorem sr{id:Nat}{ops:Array Oper}{y:Code}(h:RunT P C ops true (fun _ S=>ae (fun S'=>Ok P C y S' Q) Q .normal S) ops.toList [] S):Ok P C (.seq (.region id ops false) y) S Q:=aO (af h)
theorem dn{ops:Array Oper}{acc:List Ac}{next:AS→Prop}(h:next S):RunT P C ops true (fun _ S=>ae next Q .normal S) [] acc S:=h
theorem cF{c:Operand}{x y:Code}(hf:Ok P C y S Q)(hc:S.ev c=.sv (.v (.bool false)):=by exact rfl):Ok P C (.cond c x y) S Q:=dg hc hf
theorem cT{c:Operand}{x y:Code}(ht:Ok P C x S Q)(hc:S.ev c=.sv (.v (.bool true)):=by exact rfl):Ok P C (.cond c x y) S Q:=bX hc ht
theorem fs{c:Operand}{x:Code}{next:AS→Prop}(h:next S)(hc:S.ev c=.sv (.v (.bool false)):=by exact rfl):Ok P C (.cond c x .skip) S (ae next Q):=dg hc (aC h)
theorem R1{A:Prop}{e:Exit}{t:Nat}{s:SV}(h:S.t t=.sv s):(A∨e=e)∧TZ P S [.tmp t] s:=⟨.inr rfl,oF (.tmp h .nil) (SV.aa _)⟩
theorem R2{A:Prop}{e:Exit}{t u:Nat}{s s':SV}(h:S.t t=.sv s)(h':S.t u=.sv s'):(A∨e=e)∧TZ P S [.tmp t,.tmp u] (.xV [s,s']):=⟨.inr rfl,oF (.tmp h (.tmp h' .nil)) (SV.aa _)⟩
theorem RZ{A:Prop}{e:Exit}{rs:List ResultVar}{ss:List SV}{r:SV}(h:NM P S rs ss)(h':SV.imp (Oe ss) r:=by exact SV.aa _):(A∨e=e)∧TZ P S rs r:=⟨.inr rfl,oF h h'⟩
end
section
variable {P:Program}{C:Ctx}{ops:Array Oper}{S:AS}{nd:Bool}{K:List Ac→AS→Prop}{rest:List Oper}{acc:List Ac}
variable {gd:Option (Nat×Bool)}{rg:List Nat}{d:Nat}{ty:TypeId}{pos:String}{aft:Array Edge}{x y z:Operand}{T U:TypeId}{k:IntKind}{p q:Int}
theorem pF{s:SV}(hz:S.ev z=.sv s)(next:RunT P C ops nd K rest (⟨[]++(ax x++ax z),[],[],⟨some (d,.sv s),[],[]⟩⟩::acc) (S.set d (.sv s)))(hx:S.ev x=.sv (.v (.bool false)):=by exact rfl)(hd:d<S.n:=by exact tl rfl):RunT P C ops nd K (⟨some d,.pick x y z,ty,pos,aft,none⟩::rest) acc S:=
 RT.TW .none hx hz hd next
theorem pT{s:SV}(hy:S.ev y=.sv s)(next:RunT P C ops nd K rest (⟨[]++(ax x++ax y),[],[],⟨some (d,.sv s),[],[]⟩⟩::acc) (S.set d (.sv s)))(hx:S.ev x=.sv (.v (.bool true)):=by exact rfl)(hd:d<S.n:=by exact tl rfl):RunT P C ops nd K (⟨some d,.pick x y z,ty,pos,aft,none⟩::rest) acc S:=
 RT.TV .none hx hy hd next
theorem mo{s:AV}(hx:S.ev x=s)(next:RunT P C ops nd K rest (⟨[]++ax x,[],[],⟨some (d,s),[],[]⟩⟩::acc) (S.set d s))(hd:d<S.n:=by exact tl rfl):RunT P C ops nd K (⟨some d,.move x,ty,pos,aft,none⟩::rest) acc S:=
 RT.move .none hx hd next
theorem ad(c:Int)(hx:S.ev x=.sv (.v (.int k p)))(hy:S.ev y=.sv (.v (.int k q)))(hc:k.wrap (p+q)=c)(next:RunT P C ops nd K rest (⟨[]++(ax x++ax y),[],[],⟨some (d,.sv (.v (.int k c))),[],[]⟩⟩::acc) (S.set d (.sv (.v (.int k c)))))(hd:d<S.n:=by exact tl rfl):RunT P C ops nd K (⟨some d,.binOp .add T x y U,ty,pos,aft,none⟩::rest) acc S:=
 RT.add .none c hx hy hd hc next
theorem cv{j:IntKind}[tT:ij P T j][tU:ij P U k](c:Int){k':IntKind}(hx:S.ev x=.sv (.v (.int k' p)))(hc:k.wrap p=c)(next:RunT P C ops nd K rest (⟨[]++ax x,[],[],⟨some (d,.sv (.v (.int k c))),[],[]⟩⟩::acc) (S.set d (.sv (.v (.int k c)))))(hd:d<S.n:=by exact tl rfl):RunT P C ops nd K (⟨some d,.convert T U x,ty,pos,aft,none⟩::rest) acc S:=
 RT.conv .none c hx hd hc next
theorem ls(c:Bool)(hx:S.ev x=.sv (.v (.int k p)))(hy:S.ev y=.sv (.v (.int k q)))(hc:decide (p<q)=c)(next:RunT P C ops nd K rest (⟨[]++(ax x++ax y),[],[],⟨some (d,.sv (.v (.bool c))),[],[]⟩⟩::acc) (S.set d (.sv (.v (.bool c)))))(hd:d<S.n:=by exact tl rfl):RunT P C ops nd K (⟨some d,.binOp .lss T x y U,ty,pos,aft,none⟩::rest) acc S:=
 RT.lss .none c hx hy hd hc next
theorem sb(c:Int)(hx:S.ev x=.sv (.v (.int k p)))(hy:S.ev y=.sv (.v (.int k q)))(hc:k.wrap (p-q)=c)(next:RunT P C ops nd K rest (⟨[]++(ax x++ax y),[],[],⟨some (d,.sv (.v (.int k c))),[],[]⟩⟩::acc) (S.set d (.sv (.v (.int k c)))))(hd:d<S.n:=by exact tl rfl):RunT P C ops nd K (⟨some d,.binOp .sub T x y U,ty,pos,aft,none⟩::rest) acc S:=
 RT.sub .none c hx hy hd hc next
theorem an{s:AV}(hx:S.ev x=s)(next:RunT P C ops nd K rest (⟨[]++ax x,[],[],⟨some (d,s),[],[]⟩⟩::acc) (S.set d s))(hd:d<S.n:=by exact tl rfl):RunT P C ops nd K (⟨some d,.assign x,ty,pos,aft,none⟩::rest) acc S:=
 RT.assign .none hx hd next
theorem gt(c:Bool)(hx:S.ev x=.sv (.v (.int k p)))(hy:S.ev y=.sv (.v (.int k q)))(hc:decide (q<p)=c)(next:RunT P C ops nd K rest (⟨[]++(ax x++ax y),[],[],⟨some (d,.sv (.v (.bool c))),[],[]⟩⟩::acc) (S.set d (.sv (.v (.bool c)))))(hd:d<S.n:=by exact tl rfl):RunT P C ops nd K (⟨some d,.binOp .gtr T x y U,ty,pos,aft,none⟩::rest) acc S:=
 RT.gtr .none c hx hy hd hc next
theorem eq(c:Bool)(hx:S.ev x=.sv (.v (.int k p)))(hy:S.ev y=.sv (.v (.int k q)))(hc:(p==q)=c)(next:RunT P C ops nd K rest (⟨[]++(ax x++ax y),[],[],⟨some (d,.sv (.v (.bool c))),[],[]⟩⟩::acc) (S.set d (.sv (.v (.bool c)))))(hd:d<S.n:=by exact tl rfl):RunT P C ops nd K (⟨some d,.binOp .eql T x y U,ty,pos,aft,none⟩::rest) acc S:=
 RT.eql .none c hx hy hd hc next
theorem ne(c:Bool)(hx:S.ev x=.sv (.v (.int k p)))(hy:S.ev y=.sv (.v (.int k q)))(hc:(p != q)=c)(next:RunT P C ops nd K rest (⟨[]++(ax x++ax y),[],[],⟨some (d,.sv (.v (.bool c))),[],[]⟩⟩::acc) (S.set d (.sv (.v (.bool c)))))(hd:d<S.n:=by exact tl rfl):RunT P C ops nd K (⟨some d,.binOp .neq T x y U,ty,pos,aft,none⟩::rest) acc S:=
 RT.neq .none c hx hy hd hc next
theorem ge(c:Bool)(hx:S.ev x=.sv (.v (.int k p)))(hy:S.ev y=.sv (.v (.int k q)))(hc:decide (q≤p)=c)(next:RunT P C ops nd K rest (⟨[]++(ax x++ax y),[],[],⟨some (d,.sv (.v (.bool c))),[],[]⟩⟩::acc) (S.set d (.sv (.v (.bool c)))))(hd:d<S.n:=by exact tl rfl):RunT P C ops nd K (⟨some d,.binOp .geq T x y U,ty,pos,aft,none⟩::rest) acc S:=
 RT.geq .none c hx hy hd hc next
theorem nt{b:Bool}(hx:S.ev x=.sv (.v (.bool b)))(c:Bool)(hc:(!b)=c)(next:RunT P C ops nd K rest (⟨[]++ax x,[],[],⟨some (d,.sv (.v (.bool c))),[],[]⟩⟩::acc) (S.set d (.sv (.v (.bool c)))))(hd:d<S.n:=by exact tl rfl):RunT P C ops nd K (⟨some d,.unOp .not T x,ty,pos,aft,none⟩::rest) acc S:=
 RT.not .none hx hd c hc next
theorem gF{j_ g_:Nat}{fe:Bool}{s:SV}(hz:S.ev z=.sv s)(next:RunT P C ops nd K rest (⟨[g_]++(ax x++ax z),[],[],⟨some (d,.sv s),[],[]⟩⟩::acc) (S.set d (.sv s)))(DT:(ops[j_]?).bind (·.dst)=some g_:=by exact rfl)(DU:S.t g_=.sv (.v (.bool fe)):=by exact rfl)(hx:S.ev x=.sv (.v (.bool false)):=by exact rfl)(hd:d<S.n:=by exact tl rfl):RunT P C ops nd K (⟨some d,.pick x y z,ty,pos,aft,some (j_,fe)⟩::rest) acc S:=
 RT.TW (.some DT DU) hx hz hd next
theorem gT{j_ g_:Nat}{fe:Bool}{s:SV}(hy:S.ev y=.sv s)(next:RunT P C ops nd K rest (⟨[g_]++(ax x++ax y),[],[],⟨some (d,.sv s),[],[]⟩⟩::acc) (S.set d (.sv s)))(DT:(ops[j_]?).bind (·.dst)=some g_:=by exact rfl)(DU:S.t g_=.sv (.v (.bool fe)):=by exact rfl)(hx:S.ev x=.sv (.v (.bool true)):=by exact rfl)(hd:d<S.n:=by exact tl rfl):RunT P C ops nd K (⟨some d,.pick x y z,ty,pos,aft,some (j_,fe)⟩::rest) acc S:=
 RT.TV (.some DT DU) hx hy hd next
theorem gq{j_ g_:Nat}{fe:Bool}(c:Bool)(hx:S.ev x=.sv (.v (.int k p)))(hy:S.ev y=.sv (.v (.int k q)))(hc:(p != q)=c)(next:RunT P C ops nd K rest (⟨[g_]++(ax x++ax y),[],[],⟨some (d,.sv (.v (.bool c))),[],[]⟩⟩::acc) (S.set d (.sv (.v (.bool c)))))(DT:(ops[j_]?).bind (·.dst)=some g_:=by exact rfl)(DU:S.t g_=.sv (.v (.bool fe)):=by exact rfl)(hd:d<S.n:=by exact tl rfl):RunT P C ops nd K (⟨some d,.binOp .neq T x y U,ty,pos,aft,some (j_,fe)⟩::rest) acc S:=
 RT.neq (.some DT DU) c hx hy hd hc next
theorem gg{j_ g_:Nat}{fe:Bool}(c:Bool)(hx:S.ev x=.sv (.v (.int k p)))(hy:S.ev y=.sv (.v (.int k q)))(hc:decide (q<p)=c)(next:RunT P C ops nd K rest (⟨[g_]++(ax x++ax y),[],[],⟨some (d,.sv (.v (.bool c))),[],[]⟩⟩::acc) (S.set d (.sv (.v (.bool c)))))(DT:(ops[j_]?).bind (·.dst)=some g_:=by exact rfl)(DU:S.t g_=.sv (.v (.bool fe)):=by exact rfl)(hd:d<S.n:=by exact tl rfl):RunT P C ops nd K (⟨some d,.binOp .gtr T x y U,ty,pos,aft,some (j_,fe)⟩::rest) acc S:=
 RT.gtr (.some DT DU) c hx hy hd hc next
theorem Wp{j_ g_:Nat}{fe:Bool}(c:Bool)(hx:S.ev x=.sv (.v (.int k p)))(hy:S.ev y=.sv (.v (.int k q)))(hc:(p==q)=c)(next:RunT P C ops nd K rest (⟨[g_]++(ax x++ax y),[],[],⟨some (d,.sv (.v (.bool c))),[],[]⟩⟩::acc) (S.set d (.sv (.v (.bool c)))))(DT:(ops[j_]?).bind (·.dst)=some g_:=by exact rfl)(DU:S.t g_=.sv (.v (.bool fe)):=by exact rfl)(hd:d<S.n:=by exact tl rfl):RunT P C ops nd K (⟨some d,.binOp .eql T x y U,ty,pos,aft,some (j_,fe)⟩::rest) acc S:=
 RT.eql (.some DT DU) c hx hy hd hc next
theorem gt_{j_ g_:Nat}{fe:Bool}{b:Bool}(hx:S.ev x=.sv (.v (.bool b)))(c:Bool)(hc:(!b)=c)(next:RunT P C ops nd K rest (⟨[g_]++ax x,[],[],⟨some (d,.sv (.v (.bool c))),[],[]⟩⟩::acc) (S.set d (.sv (.v (.bool c)))))(DT:(ops[j_]?).bind (·.dst)=some g_:=by exact rfl)(DU:S.t g_=.sv (.v (.bool fe)):=by exact rfl)(hd:d<S.n:=by exact tl rfl):RunT P C ops nd K (⟨some d,.unOp .not T x,ty,pos,aft,some (j_,fe)⟩::rest) acc S:=
 RT.not (.some DT DU) hx hd c hc next
end
section
variable {P:Program}{C:Ctx}{ops:Array Oper}{S:AS}{nd:Bool}{K:List Ac→AS→Prop}{rest:List Oper}{acc:List Ac}
variable {gd:Option (Nat×Bool)}{rg:List Nat}{d:Nat}{ty:TypeId}{pos:String}{aft:Array Edge}{x y z:Operand}{T U E0:TypeId}
theorem mv{s:SV}(hx:S.ev x=.sv s)(next:RunT P C ops nd K rest (⟨[]++ax x,[],[],⟨some (d,.sv s),[],[]⟩⟩::acc) (S.set d (.sv s)))(hd:d<S.n:=by exact tl rfl):RunT P C ops nd K (⟨some d,.move x,ty,pos,aft,none⟩::rest) acc S:=
 RT.mv .none hx hd next
theorem ag{s:SV}(hx:S.ev x=.sv s)(next:RunT P C ops nd K rest (⟨[]++ax x,[],[],⟨some (d,.sv s),[],[]⟩⟩::acc) (S.set d (.sv s)))(hd:d<S.n:=by exact tl rfl):RunT P C ops nd K (⟨some d,.assign x,ty,pos,aft,none⟩::rest) acc S:=
 RT.BV .none hx hd next
theorem cl{f:FuncId}[bQ P f]{g:Operand}{xs:Array Operand}{at_:Array TypeId}{args:List SV}{r:SV}(hp:Pure P f args r)(hargs:kU S xs.toList args)(next:RunT P C ops nd K rest (⟨[]++(ax g++xs.toList.flatMap ax),[],[],⟨some (d,.sv r),[],[]⟩⟩::acc) (S.set d (.sv r)))(hf:S.ev g=.sv (.v (.func (.func f) #[] #[])):=by exact rfl)(hd:d<S.n:=by exact tl rfl):RunT P C ops nd K (⟨some d,.call ⟨.value g,xs,at_⟩,ty,pos,aft,none⟩::rest) acc S:=
 RT.call .none hp hf hargs hd next
theorem ld{n:Nat}[tA:jq P T n]{j off:Nat}{B:pZ}{cs:List SV}(hx:S.ev x=.ptr j off)(hB:S.b j=some B)(hcs:NK B.cells off cs)(next:RunT P C ops nd K rest (⟨[]++ax x,[j],[],⟨some (d,.sv (.agg cs)),[],[]⟩⟩::acc) (S.set d (.sv (.agg cs))))(hn:cs.length=n:=by exact rfl)(hd:d<S.n:=by exact tl rfl):RunT P C ops nd K (⟨some d,.load T x,ty,pos,aft,none⟩::rest) acc S:=
 RT.load .none hx hB hcs hn hd next
theorem lV[tV:bY P T]{j off:Nat}{B:pZ}{s:SV}(hx:S.ev x=.ptr j off)(hB:S.b j=some B)(hn:B.cells[off]? =some (.sv s))(next:RunT P C ops nd K rest (⟨[]++ax x,[j],[],⟨some (d,.sv s),[],[]⟩⟩::acc) (S.set d (.sv s)))(hd:d<S.n:=by exact tl rfl):RunT P C ops nd K (⟨some d,.load T x,ty,pos,aft,none⟩::rest) acc S:=
 RT.kV .none hx hB hn hd next
theorem fa{f off:Nat}[hf:gU P T f off U][sU:gV P U]{j o:Nat}(hx:S.ev x=.ptr j o){o':Nat}(ho':o+off=o')(next:RunT P C ops nd K rest (⟨[]++ax x,[],[],⟨some (d,.ptr j o'),[],[]⟩⟩::acc) (S.set d (.ptr j o')))(hd:d<S.n:=by exact tl rfl):RunT P C ops nd K (⟨some d,.fieldAddr T x f,ty,pos,aft,none⟩::rest) acc S:=
 RT.fieldAddr .none hx hd ho' next
theorem so{n:Nat}[tA:jq P T n]{j:Nat}{B:pZ}{cs:List SV}[o1:wV cs](hx:S.ev x=.ptr j 0)(hB:S.b j=some B)(hy:S.ev y=.sv (.agg cs))(next:RunT P C ops nd K rest (⟨[]++(ax x++ax y),[j],[],⟨none,[(j,⟨B.T,cs.map AV.sv⟩)],[]⟩⟩::acc) (S.mJ j ⟨B.T,cs.map AV.sv⟩))(vW:cs.length=n:=by exact rfl)(hn:B.cells.length=n:=by exact rfl):RunT P C ops nd K (⟨none,.store T x y,ty,pos,aft,none⟩::rest) acc S:=
 RT.store .none hx hB hy vW hn next
theorem ex{i:Nat}{ss:List SV}{s:SV}(hx:S.ev x=.sv (.xV ss))(hi:ss[i]? =some s)(next:RunT P C ops nd K rest (⟨[]++ax x,[],[],⟨some (d,.sv s),[],[]⟩⟩::acc) (S.set d (.sv s)))(hd:d<S.n:=by exact tl rfl):RunT P C ops nd K (⟨some d,.extract x i,ty,pos,aft,none⟩::rest) acc S:=
 RT.extract .none hx hi hd next
theorem bx{cells:List SV}(hx:S.ev x=.sv (.agg cells))(next:RunT P C ops nd K rest (⟨[]++ax x,[d],[],⟨some (d,.ptr d 0),[(d,⟨T,cells.map AV.sv⟩)],[]⟩⟩::acc) ((S.mJ d ⟨T,cells.map AV.sv⟩).set d (.ptr d 0)))(hd:d<S.n:=by exact tl rfl)(hb:S.b d=none:=by exact rfl)(hp:C.kf d=none:=by exact rfl):RunT P C ops nd K (⟨some d,.box T x,ty,pos,aft,none⟩::rest) acc S:=
 RT.box .none hx hd hb hp next
theorem lr[tV:bY P T]{cells:List SV}{s:SV}(hx:S.ev x=.sv (ref cells))(hn:cells[0]? =some s)(next:RunT P C ops nd K rest (⟨[]++ax x,[],[],⟨some (d,.sv s),[],[]⟩⟩::acc) (S.set d (.sv s)))(hd:d<S.n:=by exact tl rfl):RunT P C ops nd K (⟨some d,.load T x,ty,pos,aft,none⟩::rest) acc S:=
 RT.b8 .none hx hn hd next
theorem cB{f:FuncId}[bQ P f]{g:Operand}{xs:Array Operand}{at_:Array TypeId}{args:List SV}{T:TypeId}{c0 c1:List SV}{res:SV}(hp:Ol P f args T c0 res c1)(j:Nat)(hB:S.b j=some ⟨T,c0.map AV.sv⟩)(hargs:kU S xs.toList args)(next:RunT P C ops nd K rest (⟨[]++(ax g++xs.toList.flatMap ax),[j],[],⟨some (d,.sv res),[(j,⟨T,c1.map AV.sv⟩)],[]⟩⟩::acc) ((AS.mO [(j,⟨T,c1.map AV.sv⟩)] S).set d (.sv res)))(hf:S.ev g=.fE f [.box j]:=by exact rfl)(hd:d<S.n:=by exact tl rfl):RunT P C ops nd K (⟨some d,.call ⟨.value g,xs,at_⟩,ty,pos,aft,none⟩::rest) acc S:=
 RT.Zq .none hp j hB hf hargs hd next
theorem cN{f:FuncId}[bQ P f]{g:Operand}{xs:Array Operand}{at_:Array TypeId}{args:List SV}{R:Row}(hp:B0 P f args R)(hargs:kU S xs.toList args)(next:RunT P C ops nd K rest (⟨[]++(ax g++xs.toList.flatMap ax),[],[d],⟨some (d,.row d),[],[(d,.live R)]⟩⟩::acc) ((AS.bN [(d,.live R)] S).set d (.row d)))(hf:S.ev g=.sv (.v (.func (.func f) #[] #[])):=by exact rfl)(hd:d<S.n:=by exact tl rfl)(A9:S.r d=.un:=by exact rfl)(zy:d<1000:=by exact tl rfl):RunT P C ops nd K (⟨some d,.call ⟨.value g,xs,at_⟩,ty,pos,aft,none⟩::rest) acc S:=
 RT.Zp .none hp hf hargs hd A9 zy next
theorem gm{j_ g_:Nat}{fe:Bool}{s:SV}(hx:S.ev x=.sv s)(next:RunT P C ops nd K rest (⟨[g_]++ax x,[],[],⟨some (d,.sv s),[],[]⟩⟩::acc) (S.set d (.sv s)))(DT:(ops[j_]?).bind (·.dst)=some g_:=by exact rfl)(DU:S.t g_=.sv (.v (.bool fe)):=by exact rfl)(hd:d<S.n:=by exact tl rfl):RunT P C ops nd K (⟨some d,.move x,ty,pos,aft,some (j_,fe)⟩::rest) acc S:=
 RT.mv (.some DT DU) hx hd next
theorem gl{j_ g_:Nat}{fe:Bool}{n:Nat}[tA:jq P T n]{j off:Nat}{B:pZ}{cs:List SV}(hx:S.ev x=.ptr j off)(hB:S.b j=some B)(hcs:NK B.cells off cs)(next:RunT P C ops nd K rest (⟨[g_]++ax x,[j],[],⟨some (d,.sv (.agg cs)),[],[]⟩⟩::acc) (S.set d (.sv (.agg cs))))(DT:(ops[j_]?).bind (·.dst)=some g_:=by exact rfl)(DU:S.t g_=.sv (.v (.bool fe)):=by exact rfl)(hn:cs.length=n:=by exact rfl)(hd:d<S.n:=by exact tl rfl):RunT P C ops nd K (⟨some d,.load T x,ty,pos,aft,some (j_,fe)⟩::rest) acc S:=
 RT.load (.some DT DU) hx hB hcs hn hd next
theorem gc{j_ g_:Nat}{fe:Bool}{f:FuncId}[bQ P f]{g:Operand}{xs:Array Operand}{at_:Array TypeId}{args:List SV}{r:SV}(hp:Pure P f args r)(hargs:kU S xs.toList args)(next:RunT P C ops nd K rest (⟨[g_]++(ax g++xs.toList.flatMap ax),[],[],⟨some (d,.sv r),[],[]⟩⟩::acc) (S.set d (.sv r)))(DT:(ops[j_]?).bind (·.dst)=some g_:=by exact rfl)(DU:S.t g_=.sv (.v (.bool fe)):=by exact rfl)(hf:S.ev g=.sv (.v (.func (.func f) #[] #[])):=by exact rfl)(hd:d<S.n:=by exact tl rfl):RunT P C ops nd K (⟨some d,.call ⟨.value g,xs,at_⟩,ty,pos,aft,some (j_,fe)⟩::rest) acc S:=
 RT.call (.some DT DU) hp hf hargs hd next
theorem gr{j_ g_:Nat}{fe:Bool}[tV:bY P T]{cells:List SV}{s:SV}(hx:S.ev x=.sv (ref cells))(hn:cells[0]? =some s)(next:RunT P C ops nd K rest (⟨[g_]++ax x,[],[],⟨some (d,.sv s),[],[]⟩⟩::acc) (S.set d (.sv s)))(DT:(ops[j_]?).bind (·.dst)=some g_:=by exact rfl)(DU:S.t g_=.sv (.v (.bool fe)):=by exact rfl)(hd:d<S.n:=by exact tl rfl):RunT P C ops nd K (⟨some d,.load T x,ty,pos,aft,some (j_,fe)⟩::rest) acc S:=
 RT.b8 (.some DT DU) hx hn hd next
end
section
variable {P:Program}{C:Ctx}{ops:Array Oper}{S:AS}{nd:Bool}{K:List Ac→AS→Prop}{rest:List Oper}{acc:List Ac}
variable {gd:Option (Nat×Bool)}{rg:List Nat}{d:Nat}{ty:TypeId}{pos:String}{aft:Array Edge}{x y z:Operand}{T U E0:TypeId}
variable {l l' k:RI}
theorem ww{op:Op}{j g:Nat}{b want:Bool}(next:RunT P C ops nd K rest (⟨[g],[],[],⟨some (d,.sv (.v undef)),[],[]⟩⟩::acc) (S.set d (.sv (.v undef))))(h1:(ops[j]?).bind (·.dst)=some g:=by exact rfl)(h2:S.t g=.sv (.v (.bool b)):=by exact rfl)(hb:b≠want:=by exact sk rfl)(hd:d<S.n:=by exact tl rfl):RunT P C ops nd K (⟨some d,op,ty,pos,aft,some (j,want)⟩::rest) acc S:=
 RT.skV h1 h2 hb hd next
theorem wu{op:Op}{j g:Nat}{want:Bool}(next:RunT P C ops nd K rest (⟨[g],[],[],⟨some (d,.sv (.v undef)),[],[]⟩⟩::acc) (S.set d (.sv (.v undef))))(h1:(ops[j]?).bind (·.dst)=some g:=by exact rfl)(h2:S.t g=.sv (.v undef):=by exact rfl)(hd:d<S.n:=by exact tl rfl):RunT P C ops nd K (⟨some d,op,ty,pos,aft,some (j,want)⟩::rest) acc S:=
 RT.ZI h1 h2 hd next
end
section
variable {P:Program}{C:Ctx}{ops:Array Oper}{S:AS}{nd:Bool}{K:List Ac→AS→Prop}{rest:List Oper}{acc:List Ac}
variable {gd:Option (Nat×Bool)}{rg:List Nat}{d:Nat}{ty:TypeId}{pos:String}{aft:Array Edge}{x y z:Operand}{T U E0:TypeId}
variable {α:Type}{l l' k:List α}{e:α→List SV}{n by_:Nat}{zv:Value}
theorem ln{m:Nat}[tS:eR P T E0 m]{c:Int}(hx:S.ev x=.sv (slc n (l.map e)))(hc:(l.length:Int)=c)(next:RunT P C ops nd K rest (⟨[]++ax x,[],[],⟨some (d,.sv (.v (.int .i64 c))),[],[]⟩⟩::acc) (S.set d (.sv (.v (.int .i64 c)))))(hd:d<S.n:=by exact tl rfl):RunT P C ops nd K (⟨some d,.call ⟨.builtin .len,#[x],#[T]⟩,ty,pos,aft,none⟩::rest) acc S:=
 RT.ZD .none hx hd hc next
theorem al[tz:ay P T zv]{cs:List SV}(hi:bB (zv.cells.toList.map SV.v) cs){av:List AV}(hav:cs.map AV.sv=av)(next:RunT P C ops nd K rest (⟨[]++[],[d],[],⟨some (d,.ptr d 0),[(d,⟨T,av⟩)],[]⟩⟩::acc) ((S.mJ d ⟨T,av⟩).set d (.ptr d 0)))(hd:d<S.n:=by exact tl rfl)(hb:S.b d=none:=by exact rfl)(hp:C.kf d=none:=by exact rfl):RunT P C ops nd K (⟨some d,.alloc T,ty,pos,aft,none⟩::rest) acc S:=
 RT.r9 .none hi hav hd hb hp next
theorem ix[tS:eR P T E0 n]{kk:IntKind}{i:Int}{a:α}(hx:S.ev x=.sv (slc n (l.map e)))(hy:S.ev y=.sv (.v (.int kk i)))(ha:bR l i=some a)(next:RunT P C ops nd K rest (⟨[]++(ax x++ax y),[],[],⟨some (d,.sv (ref (e a))),[],[]⟩⟩::acc) (S.set d (.sv (ref (e a)))))(hd:d<S.n:=by exact tl rfl):RunT P C ops nd K (⟨some d,.indexAddr T x y,ty,pos,aft,none⟩::rest) acc S:=
 RT.T8 .none hx hy hd ha next
theorem bl[tS:eR P T E0 n][tE:aP P E0 n by_ zv]{len:Nat}{parts:Array (Nat×Operand)}{qs:List (Nat×List SV)}(hp:mQ S parts.toList qs)(hc:r6 0 qs=true)(hl:qs.length=len)(hsz:(qs.all fun q=>Nat.beq q.2.length n)=true)(hlen:Nat.ble (len*n) 16777216=true)(Ob:(zv.cells.toList.all fun v=>v.oneCell')=true)(rz:qs.map (·.2)=l.map e)(next:RunT P C ops nd K rest (⟨[]++gW parts.toList,[],[],⟨some (d,.sv (slc n (l.map e))),[],[]⟩⟩::acc) (S.set d (.sv (slc n (l.map e)))))(hd:d<S.n:=by exact tl rfl):RunT P C ops nd K (⟨some d,.buildSlice T len parts,ty,pos,aft,none⟩::rest) acc S:=
 RT.gK .none hp hd hc hl hsz hlen Ob rz next
theorem iR[tS:eR P T E0 n]{i j:Nat}{E1:TypeId}{kk:IntKind}{v:Int}(hx:S.ev x=.row i)(hR:S.r i=.live (TR E1 n e l))(hy:S.ev y=.sv (.v (.int kk v)))(h:wC l v=some j)(next:RunT P C ops nd K rest (⟨[]++(ax x++ax y),[],[i],⟨some (d,.ic i (j*n)),[],[]⟩⟩::acc) (S.set d (.ic i (j*n))))(hd:d<S.n:=by exact tl rfl):RunT P C ops nd K (⟨some d,.indexAddr T x y,ty,pos,aft,none⟩::rest) acc S:=
 RT.adq .none hx hR hy hd h next
theorem aI{s X:SV}(hx:S.ev x=.sv s)(hi:SV.imp s X)(next:RunT P C ops nd K rest (⟨[]++ax x,[],[],⟨some (d,.sv X),[],[]⟩⟩::acc) (S.set d (.sv X)))(hd:d<S.n:=by exact tl rfl):RunT P C ops nd K (⟨some d,.assign x,ty,pos,aft,none⟩::rest) acc S:=
 RT.ado .none hx hi hd next
theorem bI{pl:List (Nat×Nat)}{zc:List Value}[tP:bU P T pl zc]{parts:Array (Nat×Operand)}{qs:List (Nat×List SV)}(hp:mQ S parts.toList qs){cs cs':List SV}(hi:bB cs cs')(next:RunT P C ops nd K rest (⟨[]++gW parts.toList,[],[],⟨some (d,.sv (.agg cs')),[],[]⟩⟩::acc) (S.set d (.sv (.agg cs'))))(hf:tX (fun i=>pl[i]?) (zc.map SV.v) qs=some cs:=by exact rfl)(hd:d<S.n:=by exact tl rfl):RunT P C ops nd K (⟨some d,.build T parts,ty,pos,aft,none⟩::rest) acc S:=
 RT.Wf .none hp hf hi hd next
theorem lR[tV:bY P T][el:EL e 1]{i j:Nat}{E1:TypeId}{a:α}{s:SV}(hx:S.ev x=.ic i (j*1))(hR:S.r i=.live (TR E1 1 e l))(ha:l[j]? =some a)(hs:e a=[s])(next:RunT P C ops nd K rest (⟨[]++ax x,[],[i],⟨some (d,.sv s),[],[]⟩⟩::acc) (S.set d (.sv s)))(hd:d<S.n:=by exact tl rfl):RunT P C ops nd K (⟨some d,.load T x,ty,pos,aft,none⟩::rest) acc S:=
 RT.ZF .none hx hR ha hs hd next
theorem aR[tS:eR P T E0 n][tE:aP P E0 n by_ zv]{i:Nat}(hx:S.ev x=.row i)(hR:S.r i=.live (TR E0 n e l))(hy:S.ev y=.sv (slc n (k.map e)))(h:mH by_ l k=some l')(next:RunT P C ops nd K rest (⟨[]++(ax x++ax y),[],[i,d],⟨some (d,.row d),[],[(i,.dead),(d,.live (TR E0 n e l'))]⟩⟩::acc) ((AS.bN [(i,.dead),(d,.live (TR E0 n e l'))] S).set d (.row d)))(hd:d<S.n:=by exact tl rfl)(A9:S.r d=.un:=by exact rfl)(zy:d<1000:=by exact tl rfl):RunT P C ops nd K (⟨some d,.call ⟨.builtin .append,#[x,y],#[T,T]⟩,ty,pos,aft,none⟩::rest) acc S:=
 RT.apR .none hx hR hy hd A9 zy h next
theorem lA[tA:jq P T n][el:EL e n]{i j:Nat}{E1:TypeId}{a:α}(hx:S.ev x=.ic i (j*n))(hR:S.r i=.live (TR E1 n e l))(ha:l[j]? =some a)(next:RunT P C ops nd K rest (⟨[]++ax x,[],[i],⟨some (d,.sv (.agg (e a))),[],[]⟩⟩::acc) (S.set d (.sv (.agg (e a)))))(hd:d<S.n:=by exact tl rfl):RunT P C ops nd K (⟨some d,.load T x,ty,pos,aft,none⟩::rest) acc S:=
 RT.ZG .none hx hR ha hd next
theorem sR[tV:bY P T][el:EL e 1]{i j:Nat}{E1:TypeId}{s:SV}[o1:One s](a:α)(hs:e a=[s])(hx:S.ev x=.ic i (j*1))(hR:S.r i=.live (TR E1 1 e l))(hy:S.ev y=.sv s)(h:stM l j a=some l')(next:RunT P C ops nd K rest (⟨[]++(ax x++ax y),[],[i],⟨none,[],[(i,.live (TR E1 1 e l'))]⟩⟩::acc) (AS.bN [(i,.live (TR E1 1 e l'))] S)):RunT P C ops nd K (⟨none,.store T x y,ty,pos,aft,none⟩::rest) acc S:=
 RT.adr .none a hs hx hR hy h next
theorem sA[tA:jq P T n][el:EL e n]{i j:Nat}{E1:TypeId}(a:α)(hx:S.ev x=.ic i (j*n))(hR:S.r i=.live (TR E1 n e l))(hy:S.ev y=.sv (.agg (e a)))(h:stM l j a=some l')(next:RunT P C ops nd K rest (⟨[]++(ax x++ax y),[],[i],⟨none,[],[(i,.live (TR E1 n e l'))]⟩⟩::acc) (AS.bN [(i,.live (TR E1 n e l'))] S)):RunT P C ops nd K (⟨none,.store T x y,ty,pos,aft,none⟩::rest) acc S:=
 RT.ZH .none a hx hR hy h next
theorem lL{m:Nat}[tS:eR P T E0 m]{i:Nat}{E1:TypeId}{c:Int}(hx:S.ev x=.row i)(hR:S.r i=.live (TR E1 n e l))(hc:(l.length:Int)=c)(next:RunT P C ops nd K rest (⟨[]++ax x,[],[i],⟨some (d,.sv (.v (.int .i64 c))),[],[]⟩⟩::acc) (S.set d (.sv (.v (.int .i64 c)))))(hd:d<S.n:=by exact tl rfl):RunT P C ops nd K (⟨some d,.call ⟨.builtin .len,#[x],#[T]⟩,ty,pos,aft,none⟩::rest) acc S:=
 RT.ZE .none hx hR hd hc next
theorem cR{f:FuncId}[bQ P f]{g:Operand}{xs:Array Operand}{at_:Array TypeId}{args:List AV}{E1:TypeId}{res:AV}(hp:JF P f args (TR E1 n e l) res (l'.flatMap e))(hlen:l'.length=l.length)(i:Nat)(hR:S.r i=.live (TR E1 n e l))(hargs:Fj S xs.toList (args.map (AV.Az i)))(next:RunT P C ops nd K rest (⟨[]++(ax g++xs.toList.flatMap ax),[],[i],⟨some (d,res.Az i),[],[(i,.live (TR E1 n e l'))]⟩⟩::acc) ((AS.bN [(i,.live (TR E1 n e l'))] S).set d (res.Az i)))(hrow:args.all AV.zH=true:=by exact rfl)(hres:res.zH=true:=by exact rfl)(hf:S.ev g=.sv (.v (.func (.func f) #[] #[])):=by exact rfl)(hd:d<S.n:=by exact tl rfl):RunT P C ops nd K (⟨some d,.call ⟨.value g,xs,at_⟩,ty,pos,aft,none⟩::rest) acc S:=
 RT.Wj .none hp hlen i hR hrow hres hf hargs hd next
theorem gn{j_ g_:Nat}{fe:Bool}{m:Nat}[tS:eR P T E0 m]{c:Int}(hx:S.ev x=.sv (slc n (l.map e)))(hc:(l.length:Int)=c)(next:RunT P C ops nd K rest (⟨[g_]++ax x,[],[],⟨some (d,.sv (.v (.int .i64 c))),[],[]⟩⟩::acc) (S.set d (.sv (.v (.int .i64 c)))))(DT:(ops[j_]?).bind (·.dst)=some g_:=by exact rfl)(DU:S.t g_=.sv (.v (.bool fe)):=by exact rfl)(hd:d<S.n:=by exact tl rfl):RunT P C ops nd K (⟨some d,.call ⟨.builtin .len,#[x],#[T]⟩,ty,pos,aft,some (j_,fe)⟩::rest) acc S:=
 RT.ZD (.some DT DU) hx hd hc next
end
section
variable {P:Program}{C:Ctx}{ops:Array Oper}{S:AS}{nd:Bool}{K:List Ac→AS→Prop}{rest:List Oper}{acc:List Ac}
variable {gd:Option (Nat×Bool)}{rg:List Nat}{d:Nat}{ty:TypeId}{pos:String}{aft:Array Edge}{x y z:Operand}{T U E0 E1:TypeId}
theorem fl{f off:Nat}[hf:gU P T f off U][tV:bY P U]{cs:List SV}{s:SV}(hx:S.ev x=.sv (.agg cs))(hs:cs[off]? =some s)(next:RunT P C ops nd K rest (⟨[]++ax x,[],[],⟨some (d,.sv s),[],[]⟩⟩::acc) (S.set d (.sv s)))(hd:d<S.n:=by exact tl rfl):RunT P C ops nd K (⟨some d,.field T x f,ty,pos,aft,none⟩::rest) acc S:=
 RT.field .none hx hs hd next
end
end Go.Fw.Z
namespace Go.Proofs.YtfoldppidpmchaaGreat
open Go.Fw
noncomputable def cZ(x0:List Nat):Option (List Nat):=mH 4 [] x0
noncomputable def bj(x0:Nat)(c0:Nat):Option (Nat×Nat):=(some ((x0+c0)%18446744073709551616)).bind fun x6=>(some (x6/2^32)).bind fun x8=>(some (x6%4294967296)).bind fun cn=>some (cn,x8)
noncomputable def aG(x0:List Nat):Option (List Nat):=(bk (fun(Fx:(List Nat))=>(show Option (((List Nat))⊕((List Nat)))from bD (fun(JK:Bool)=>(bif JK then(some (Fx.length:Int)).bind fun cX=>(some (IntKind.i64.wrap (cX-1))).bind fun c6=>(vX Fx 0 c6).bind fun iC=>some (.inl iC)else some (.inr Fx))) fun Ce=>(some (Fx.length:Int)).bind fun x4=>(some (decide ((0:Int)<x4))).bind fun x5=>(bif x5 then(some (Fx.length:Int)).bind fun x9=>(some (IntKind.i64.wrap (x9-1))).bind fun cn=>(bR Fx cn).bind fun eE=>(some (decide ((eE:Nat)=0))).bind fun fR=>some fR else some false).bind fun OL=>Ce OL)) x0).bind fun M1=>some M1
noncomputable def bM(x0:Bool)(x1:List Nat):Option (Zr):=(aG x1).bind fun x6=>(some (x6.length:Int)).bind fun x8=>(some (decide ((x8:Int)=0))).bind fun x9=>(bif x9 then some ⟨false,[]⟩else some ⟨x0,x6⟩)
noncomputable def dU(x0:Bool)(x1:Nat):Option (Zr):=(some (decide ((x1:Nat)=0))).bind fun x7=>(bif x7 then some ⟨false,[]⟩else(some (x1/2^32)).bind fun eE=>(some (decide ((eE:Nat)=0))).bind fun bV=>(bif bV then(some (x1%4294967296)).bind fun cE=>some ⟨x0,[cE]⟩else(some (x1%4294967296)).bind fun ik=>(some (x1/2^32)).bind fun fu=>(some (fu%4294967296)).bind fun fy=>some ⟨x0,[ik,fy]⟩))
noncomputable def cS(x0:List Nat):Option (Nat):=(some (x0.length:Int)).bind fun x4=>(some (decide ((x4:Int)=0))).bind fun x6=>(bif x6 then some 0 else(some (decide ((x4:Int)=1))).bind fun x8=>(bif x8 then(bR x0 0).bind fun cn=>(some (cn%18446744073709551616)).bind fun bV=>some bV else(bR x0 0).bind fun cG=>(some (cG%18446744073709551616)).bind fun dz=>(bR x0 1).bind fun c6=>(some (c6%18446744073709551616)).bind fun ik=>(some (ik*2^32%18446744073709551616)).bind fun eH=>(some ((dz ||| eH)%18446744073709551616)).bind fun fu=>some fu))
noncomputable def cc(x0:List Nat)(x1:List Nat):Option (Int):=(some (x0.length:Int)).bind fun x7=>(some (x1.length:Int)).bind fun x9=>(some (decide ((x7:Int)≠x9))).bind fun cn=>(bif cn then(some (x0.length:Int)).bind fun bV=>(some (x1.length:Int)).bind fun cG=>(some (decide ((bV:Int)<cG))).bind fun cE=>(bif cE then some (-1)else some 1)else(some (x0.length:Int)).bind fun cX=>(some (IntKind.i64.wrap (cX-1))).bind fun c6=>(bk (fun(kL:Int)=>(show Option ((Int)⊕((Unit)⊕(Int)))from(some (decide ((0:Int)≤kL))).bind fun ik=>(bif ik then(bR x0 kL).bind fun gC=>(bR x1 kL).bind fun fQ=>(some (decide ((gC:Nat)≠fQ))).bind fun ny=>(bif ny then(bR x0 kL).bind fun oA=>(bR x1 kL).bind fun wH=>(some (decide ((oA:Nat)<wH))).bind fun nA=>(bif nA then some (.inr (.inr (-1)))else some (.inr (.inr 1)))else(some (IntKind.i64.wrap (kL-1))).bind fun fu=>some (.inl fu))else some (.inr (.inl ()))))) c6).bind fun e6=>match e6 with|.inr v6=>some v6|.inl _=>some 0)
noncomputable def dN(x0:List Nat)(x1:List Nat):Option (List Nat):=(some (x0.length:Int)).bind fun cn=>(some (x1.length:Int)).bind fun bV=>(some (max (cn:Int) bV)).bind fun fR=>(some (IntKind.i64.wrap (fR+1))).bind fun cG=>(Sh (α:=Nat) 4 cG).bind fun cE=>(qP (fun(k:Nat) (s7:Nat×(List Nat))=>match s7 with|⟨yn,jv⟩=>(show Option (Nat×(List Nat))from(some (x0.getD k 0%18446744073709551616)).bind fun p20=>(some (x1.getD k 0%18446744073709551616)).bind fun p21=>(some ((p20+p21)%18446744073709551616)).bind fun gJ=>(bj gJ yn).bind fun⟨fF,k9⟩=>(mH 4 jv [fF]).bind fun fQ=>some (k9,fQ))) (max x0.length x1.length) (0,cE)).bind fun e7=>match e7 with|⟨yn,jv⟩=>(bj 0 yn).bind fun⟨fI,k11⟩=>(mH 4 jv [fI]).bind fun oA=>some oA
noncomputable def cq(x0:List Nat)(x1:List Nat):Option (List Nat):=(some (x0.length:Int)).bind fun cn=>(Sh (α:=Nat) 4 cn).bind fun eE=>(qP (fun(k:Nat) (s7:Nat×(List Nat))=>match s7 with|⟨Bw,jv⟩=>(show Option (Nat×(List Nat))from(some (x0.getD k 0%18446744073709551616)).bind fun p16=>(some (x1.getD k 0%18446744073709551616)).bind fun p17=>(some (o5 18446744073709551616 4294967295 p17)).bind fun fu=>(some ((p16+fu)%18446744073709551616)).bind fun fy=>(bj fy Bw).bind fun⟨eI,k9⟩=>(mH 4 jv [eI]).bind fun gJ=>some (k9,gJ))) (max x0.length x1.length) (1,eE)).bind fun e7=>match e7 with|⟨Bw,jv⟩=>some jv
noncomputable def fz(x0:List Nat)(x1:List Nat):Option (List Nat):=(some (x0.length:Int)).bind fun bV=>(some (x1.length:Int)).bind fun cG=>(some (IntKind.i64.wrap (bV+cG))).bind fun cE=>(Ep 4 cE (0:Nat)).bind fun dz=>(some (x0.length:Int)).bind fun c6=>(bk (fun(M3:Int×(List Nat))=>match M3 with|⟨o6,Fy⟩=>(show Option ((Int×(List Nat))⊕((List Nat)))from(some (decide ((o6:Int)<c6))).bind fun ik=>(bif ik then(bR x0 o6).bind fun fu=>(some (x1.length:Int)).bind fun gJ=>(bk (fun(Wq:Int×Nat×(List Nat))=>match Wq with|⟨zP,yo,w9⟩=>(show Option ((Int×Nat×(List Nat))⊕(Nat×(List Nat)))from(some (decide ((zP:Int)<gJ))).bind fun jr=>(bif jr then(bR x1 zP).bind fun uf=>(some (IntKind.i64.wrap (o6+zP))).bind fun oB=>(some (IntKind.i64.wrap (o6+zP))).bind fun nA=>(wC w9 nA).bind fun wI=>(w9[wI]?).bind fun rV=>(some (rV%18446744073709551616)).bind fun zQ=>(some (fu%18446744073709551616)).bind fun AD=>(some (uf%18446744073709551616)).bind fun tg=>(some ((AD*tg)%18446744073709551616)).bind fun ug=>(some ((zQ+ug)%18446744073709551616)).bind fun ZO=>(bj ZO yo).bind fun⟨xb,k41⟩=>(wC w9 oB).bind fun Ub=>(stM w9 Ub xb).bind fun l42=>(some (IntKind.i64.wrap (zP+1))).bind fun xS=>some (.inl (xS,k41,l42))else some (.inr (yo,w9))))) (0,0,Fy)).bind fun e38=>match e38 with|⟨HB,JM⟩=>(some (x1.length:Int)).bind fun Uc=>(some (IntKind.i64.wrap (o6+Uc))).bind fun NO=>(bj 0 HB).bind fun⟨Lu,k45⟩=>(wC JM NO).bind fun DV=>(stM JM DV Lu).bind fun l46=>(some (IntKind.i64.wrap (o6+1))).bind fun M4=>some (.inl (M4,l46))else some (.inr Fy)))) (0,dz)).bind fun xd=>some xd
noncomputable def gX(x0:List Nat)(x1:Nat):Option (Nat×List Nat):=(some (x0.length:Int)).bind fun x9=>(some (IntKind.i64.wrap (x9-1))).bind fun cn=>(bk (fun(s8:Nat×Int×(List Nat))=>match s8 with|⟨OM,HC,si⟩=>(show Option ((Nat×Int×(List Nat))⊕(Nat×(List Nat)))from(some (decide ((0:Int)≤HC))).bind fun bV=>(bif bV then(some (OM*2^32%18446744073709551616)).bind fun dz=>(wC si HC).bind fun iC=>(si[iC]?).bind fun ik=>(some (ik%18446744073709551616)).bind fun eH=>(some ((dz ||| eH)%18446744073709551616)).bind fun fu=>(Fp 18446744073709551616 fu x1).bind fun fF=>(some (fF%4294967296)).bind fun jr=>(wC si HC).bind fun fQ=>(stM si fQ jr).bind fun tJ=>(DR fu x1).bind fun fI=>(some (IntKind.i64.wrap (HC-1))).bind fun cG=>some (.inl (fI,cG,tJ))else some (.inr (OM,si))))) (0,cn,x0)).bind fun e8=>match e8 with|⟨ZP,Bx⟩=>(wE x0 Bx).bind fun _=>some (ZP,Bx)
noncomputable def eJ(x0:List Nat)(x1:Nat):Option (List Nat):=(some (x0.length:Int)).bind fun eE=>(some (IntKind.i64.wrap (eE+1))).bind fun bV=>(Sh (α:=Nat) 4 bV).bind fun fR=>(some (x0.length:Int)).bind fun cE=>(bk (fun(s8:Int×Nat×(List Nat))=>match s8 with|⟨yp,sj,jv⟩=>(show Option ((Int×Nat×(List Nat))⊕(Nat×(List Nat)))from(some (decide ((yp:Int)<cE))).bind fun cX=>(bif cX then(bR x0 yp).bind fun c6=>(some (c6%18446744073709551616)).bind fun fy=>(some (fy*2^(min x1 64)%18446744073709551616)).bind fun gC=>(bj gC sj).bind fun⟨gJ,Wr⟩=>(mH 4 jv [gJ]).bind fun jr=>(some (IntKind.i64.wrap (yp+1))).bind fun fQ=>some (.inl (fQ,Wr,jr))else some (.inr (sj,jv))))) (0,0,fR)).bind fun e8=>match e8 with|⟨Cf,ON⟩=>(bj 0 Cf).bind fun⟨fI,k12⟩=>(mH 4 ON [fI]).bind fun oA=>some oA
noncomputable def iD(x0:List Nat)(x1:Nat):Option (List Nat):=(some (x0.length:Int)).bind fun eE=>(some (IntKind.i64.wrap (eE+1))).bind fun bV=>(Sh (α:=Nat) 4 bV).bind fun fR=>(some (x0.length:Int)).bind fun cE=>(bk (fun(s8:Int×Nat×(List Nat))=>match s8 with|⟨yp,sj,qQ⟩=>(show Option ((Int×Nat×(List Nat))⊕(Nat×(List Nat)))from(some (decide ((yp:Int)<cE))).bind fun cX=>(bif cX then(bR x0 yp).bind fun c6=>(some (c6%18446744073709551616)).bind fun fy=>(some (fy*2^(min x1 64)%18446744073709551616)).bind fun gC=>(bj gC sj).bind fun⟨gJ,Wr⟩=>(mH 4 qQ [gJ]).bind fun jr=>(some (IntKind.i64.wrap (yp+1))).bind fun fQ=>some (.inl (fQ,Wr,jr))else some (.inr (sj,qQ))))) (0,0,fR)).bind fun e8=>match e8 with|⟨Cf,qR⟩=>(bj 0 Cf).bind fun⟨fI,k12⟩=>(mH 4 qR [fI]).bind fun oA=>some oA
noncomputable def fV(x0:Nat):Option (Int):=(some (decide ((65536:Nat)≤x0))).bind fun x4=>bD (fun(j2:Nat×Int)=>match j2 with|⟨JN,Sr⟩=>(some (decide ((256:Nat)≤JN))).bind fun x8=>bD (fun(j4:Nat×Int)=>match j4 with|⟨ZQ,ZR⟩=>(some (ZQ%256)).bind fun cE=>(wD [0,1,2,2,3,3,3,3,4,4,4,4,4,4,4,4,5,5,5,5,5,5,5,5,5,5,5,5,5,5,5,5,6,6,6,6,6,6,6,6,6,6,6,6,6,6,6,6,6,6,6,6,6,6,6,6,6,6,6,6,6,6,6,6,7,7,7,7,7,7,7,7,7,7,7,7,7,7,7,7,7,7,7,7,7,7,7,7,7,7,7,7,7,7,7,7,7,7,7,7,7,7,7,7,7,7,7,7,7,7,7,7,7,7,7,7,7,7,7,7,7,7,7,7,7,7,7,7,8,8,8,8,8,8,8,8,8,8,8,8,8,8,8,8,8,8,8,8,8,8,8,8,8,8,8,8,8,8,8,8,8,8,8,8,8,8,8,8,8,8,8,8,8,8,8,8,8,8,8,8,8,8,8,8,8,8,8,8,8,8,8,8,8,8,8,8,8,8,8,8,8,8,8,8,8,8,8,8,8,8,8,8,8,8,8,8,8,8,8,8,8,8,8,8,8,8,8,8,8,8,8,8,8,8,8,8,8,8,8,8,8,8,8,8,8,8,8,8,8,8,8,8,8,8,8,8] ((cE:Nat):Int)).bind fun dz=>(some (IntKind.i64.wrap (dz:Int))).bind fun cX=>(some (IntKind.i64.wrap (ZR+cX))).bind fun c6=>some c6) fun K4=>(bif x8 then(some (JN/2^8)).bind fun cn=>(some (IntKind.i64.wrap (Sr+8))).bind fun bV=>K4 (cn,bV)else K4 (JN,Sr))) fun K2=>(bif x4 then(some (x0/2^16)).bind fun x6=>K2 (x6,16)else K2 (x0,0))
noncomputable def cH(x0:Nat):Option (Int):=(fV x0).bind fun x4=>(some (IntKind.i64.wrap (32-x4))).bind fun x5=>some x5
noncomputable def gY(x0:List Nat)(o0:Nat)(n0:Nat)(x1:List Nat):Option (Nat×List Nat):=(some (x1.length:Int)).bind fun bV=>(RJ o0 n0 bV).bind fun cE=>(x0[cE]?).bind fun dz=>(some (dz%18446744073709551616)).bind fun cX=>(some (cX*2^32%18446744073709551616)).bind fun c6=>(some (IntKind.i64.wrap (bV-1))).bind fun eH=>(RJ o0 n0 eH).bind fun fu=>(x0[fu]?).bind fun fy=>(some (fy%18446744073709551616)).bind fun eI=>(some ((c6 ||| eI)%18446744073709551616)).bind fun gC=>(some (IntKind.i64.wrap (bV-1))).bind fun jr=>(bR x1 jr).bind fun fQ=>(some (fQ%18446744073709551616)).bind fun ny=>(some (IntKind.i64.wrap (bV-2))).bind fun oA=>(bR x1 oA).bind fun oB=>(some (oB%18446744073709551616)).bind fun oU=>(Fp 18446744073709551616 gC ny).bind fun nA=>(DR gC ny).bind fun zQ=>(bk (fun(qc:Nat×Nat)=>match qc with|⟨DW,Ex⟩=>(show Option ((Nat×Nat)⊕(Nat))from bD (fun(JO:Bool)=>(bif JO then(some (o5 18446744073709551616 DW 1)).bind fun NP=>(some ((Ex+ny)%18446744073709551616)).bind fun Ud=>(some (Ud/2^32)).bind fun YS=>(some (decide ((YS:Nat)≠0))).bind fun YT=>(bif YT then some (.inr NP)else some (.inl (NP,Ud)))else some (.inr DW))) fun Ce=>(some (DW/2^32)).bind fun AD=>(some (decide ((AD:Nat)≠0))).bind fun q9=>(bif q9 then some true else(some ((DW*oU)%18446744073709551616)).bind fun xb=>(some (Ex*2^32%18446744073709551616)).bind fun xS=>(some (IntKind.i64.wrap (bV-2))).bind fun yq=>(RJ o0 n0 yq).bind fun Uc=>(x0[Uc]?).bind fun NO=>(some (NO%18446744073709551616)).bind fun Ss=>(some ((xS ||| Ss)%18446744073709551616)).bind fun Lu=>(some (decide ((Lu:Nat)<xb))).bind fun DV=>some DV).bind fun OO=>Ce OO)) (nA,zQ)).bind fun M5=>(wE x0 x0).bind fun _=>some (M5,x0)
noncomputable def ct(x0:List Nat)(o0:Nat)(n0:Nat)(x1:List Nat)(x2:Nat):Option (Bool×List Nat):=(some (n0:Int)).bind fun cG=>(bk (fun(xT:Nat×Int×Nat×(List Nat))=>match xT with|⟨M6,yt,Fz,vB⟩=>(show Option ((Nat×Int×Nat×(List Nat))⊕(Nat×(List Nat)))from(some (decide ((yt:Int)<cG))).bind fun dz=>(bif dz then(some (x1.length:Int)).bind fun ik=>(some (decide ((yt:Int)<ik))).bind fun eH=>bD (fun(OP:Nat)=>(RJ o0 n0 yt).bind fun ny=>(vB[ny]?).bind fun fI=>(some (fI%18446744073709551616)).bind fun lI=>(bj OP Fz).bind fun⟨qm,k16⟩=>(some (qm%18446744073709551616)).bind fun oU=>(some (o5 18446744073709551616 lI oU)).bind fun wH=>(some (o5 18446744073709551616 wH M6)).bind fun nA=>(some (nA%4294967296)).bind fun yu=>(RJ o0 n0 yt).bind fun AD=>(stM vB AD yu).bind fun l18=>(some (nA/2^63)).bind fun tg=>(some (IntKind.i64.wrap (yt+1))).bind fun ug=>some (.inl (tg,ug,k16,l18))) fun K14=>(bif eH then(bR x1 yt).bind fun eI=>(some (eI%18446744073709551616)).bind fun gJ=>(some ((gJ*x2)%18446744073709551616)).bind fun jr=>K14 jr else K14 0)else some (.inr (M6,vB))))) (0,0,0,x0)).bind fun Lw=>match Lw with|⟨OQ,yw⟩=>(some (decide ((OQ:Nat)≠0))).bind fun xb=>(wE x0 yw).bind fun _=>some (xb,yw)
noncomputable def iQ(x0:List Nat)(x1:List Nat):Option ((List Nat)×(List Nat)):=(some (x1.length:Int)).bind fun cX=>(some (IntKind.i64.wrap (cX-1))).bind fun ik=>(bR x1 ik).bind fun eH=>(cH eH).bind fun fy=>(some ((fy%18446744073709551616).toNat)).bind fun eI=>(iD x0 eI).bind fun fF=>(eJ x1 eI).bind fun uf=>(vX uf 0 cX).bind fun fI=>(some (x0.length:Int)).bind fun oA=>(some (IntKind.i64.wrap (oA-cX))).bind fun qm=>(some (IntKind.i64.wrap (qm+1))).bind fun oU=>(Ep 4 oU (0:Nat)).bind fun wH=>(some (x0.length:Int)).bind fun nA=>(some (IntKind.i64.wrap (nA-cX))).bind fun rV=>(bk (fun(Ws:Int×(List Nat)×(List Nat))=>match Ws with|⟨jw,uh,xe⟩=>(show Option ((Int×(List Nat)×(List Nat))⊕((List Nat)×(List Nat)))from(some (decide ((0:Int)≤jw))).bind fun yu=>(bif yu then(some (IntKind.i64.wrap (jw+cX))).bind fun Ub=>(some (IntKind.i64.wrap (Ub+1))).bind fun xS=>(Wh xe jw xS).bind fun⟨o53,n53⟩=>(gY xe o53 n53 fI).bind fun⟨yq,Wt⟩=>(wE xe Wt).bind fun _=>(some (IntKind.i64.wrap (jw+cX))).bind fun DV=>(some (IntKind.i64.wrap (DV+1))).bind fun M4=>(Wh Wt jw M4).bind fun⟨o62,n62⟩=>(ct Wt o62 n62 fI yq).bind fun⟨OR,YU⟩=>(wE Wt YU).bind fun _=>bD (fun(YV:Nat×(List Nat))=>match YV with|⟨OS,JP⟩=>(some (OS%4294967296)).bind fun Wu=>(wC uh jw).bind fun M7=>(stM uh M7 Wu).bind fun l55=>(some (IntKind.i64.wrap (jw-1))).bind fun q9=>some (.inl (q9,l55,JP))) fun K53=>(bif OR then(some (o5 18446744073709551616 yq 1)).bind fun ZS=>(some (fI.length:Int)).bind fun Wv=>(bk (fun(Ww:Int×Nat×(List Nat))=>match Ww with|⟨zR,yx,xg⟩=>(show Option ((Int×Nat×(List Nat))⊕(Nat×(List Nat)))from(some (decide ((zR:Int)<Wv))).bind fun OT=>(bif OT then(bR fI zR).bind fun St=>(some (IntKind.i64.wrap (jw+zR))).bind fun x79=>(some (IntKind.i64.wrap (jw+zR))).bind fun x84=>(wC xg x84).bind fun ZT=>(xg[ZT]?).bind fun OU=>(some (OU%18446744073709551616)).bind fun Wx=>(some (St%18446744073709551616)).bind fun x89=>(some ((Wx+x89)%18446744073709551616)).bind fun ZU=>(bj ZU yx).bind fun⟨Wy,k68⟩=>(wC xg x79).bind fun x92=>(stM xg x92 Wy).bind fun l69=>(some (IntKind.i64.wrap (zR+1))).bind fun x93=>some (.inl (x93,k68,l69))else some (.inr (yx,xg))))) (0,0,YU)).bind fun e65=>match e65 with|⟨HD,Cg⟩=>(some (IntKind.i64.wrap (jw+cX))).bind fun x97=>(some (IntKind.i64.wrap (jw+cX))).bind fun JQ=>(wC Cg JQ).bind fun ZV=>(Cg[ZV]?).bind fun JR=>(some (JR%18446744073709551616)).bind fun DX=>(bj DX HD).bind fun⟨Wz,k72⟩=>(wC Cg x97).bind fun ZW=>(stM Cg ZW Wz).bind fun l73=>K53 (ZS,l73)else K53 (yq,YU))else some (.inr (uh,xe))))) (rV,wH,fF)).bind fun ZX=>match ZX with|⟨Ch,zS⟩=>(Ep 4 cX (0:Nat)).bind fun JS=>(bk (fun(YW:Int×(List Nat))=>match YW with|⟨vC,yy⟩=>(show Option ((Int×(List Nat))⊕((List Nat)))from(some (decide ((vC:Int)<cX))).bind fun WA=>(bif WA then(wC zS vC).bind fun ZY=>(zS[ZY]?).bind fun ZZ=>(some (ZZ%18446744073709551616)).bind fun WB=>(some (IntKind.i64.wrap (vC+1))).bind fun Z0=>(wC zS Z0).bind fun Z1=>(zS[Z1]?).bind fun Z2=>(some (Z2%18446744073709551616)).bind fun WC=>(some (WC*2^32%18446744073709551616)).bind fun WD=>(some ((WB ||| WD)%18446744073709551616)).bind fun WE=>(some (WE/2^(min eI 64))).bind fun Z3=>(some (Z3%4294967296)).bind fun WG=>(wC yy vC).bind fun Z4=>(stM yy Z4 WG).bind fun l83=>(some (IntKind.i64.wrap (vC+1))).bind fun WH=>some (.inl (WH,l83))else some (.inr yy)))) (0,JS)).bind fun sn=>some (Ch,sn)
noncomputable def fB(x0:List Nat)(x1:List Nat):Option ((List Nat)×(List Nat)):=(cc x0 x1).bind fun bV=>(some (decide ((bV:Int)<0))).bind fun fR=>(bif fR then(cZ x0).bind fun cE=>some ([],cE)else(some (x0.length:Int)).bind fun c6=>(some (decide ((c6:Int)≤2))).bind fun iC=>(bif iC then(cS x0).bind fun eH=>(cS x1).bind fun fy=>(Fp 18446744073709551616 eH fy).bind fun gJ=>(dU false gJ).bind fun⟨yz,wJ⟩=>(DR eH fy).bind fun ny=>(dU false ny).bind fun⟨wK,uj⟩=>some (wJ,uj)else(some (x1.length:Int)).bind fun qm=>(some (decide ((qm:Int)=1))).bind fun oU=>(bif oU then(cZ x0).bind fun nB=>(bR x1 0).bind fun rV=>(some (rV%18446744073709551616)).bind fun yu=>(gX nB yu).bind fun⟨AD,l5⟩=>(wE nB l5).bind fun _=>(some (AD%4294967296)).bind fun ug=>some (l5,[ug])else(iQ x0 x1).bind fun⟨Z5,Z6⟩=>some (Z5,Z6))))
noncomputable def bF(x0:Int):Option (Zr):=(some ((x0%18446744073709551616).toNat)).bind fun x5=>(some (decide ((x0:Int)<0))).bind fun x7=>bD (fun(HE:Nat)=>(some (decide ((x0:Int)<0))).bind fun eE=>(dU eE HE).bind fun⟨rF,rG⟩=>some ⟨rF,rG⟩) fun K2=>(bif x7 then(some (o5 18446744073709551616 0 x5)).bind fun x9=>K2 x9 else K2 x5)
noncomputable def cL(x0:Zr):Option (Int×Bool):=match x0 with|⟨az,aA⟩=>(aG aA).bind fun x8=>(some (x8.length:Int)).bind fun cn=>(some (decide ((2:Int)<cn))).bind fun eE=>(bif eE then some (0,false)else(cS x8).bind fun fR=>(bif az then(some (decide ((9223372036854775808:Nat)<fR))).bind fun cX=>(bif cX then some (0,false)else(some (o5 18446744073709551616 0 fR)).bind fun iC=>(some (IntKind.i64.wrap (iC:Int))).bind fun ik=>some (ik,true))else(some (decide ((9223372036854775808:Nat)≤fR))).bind fun fu=>(bif fu then some (0,false)else(some (IntKind.i64.wrap (fR:Int))).bind fun eI=>some (eI,true))))
noncomputable def cD(x0:Bool)(x1:List Nat)(x2:Bool)(x3:List Nat):Option (Zr):=(some (x0==x2)).bind fun eE=>(bif eE then(dN x1 x3).bind fun cE=>(bM x0 cE).bind fun⟨iq,ir⟩=>some ⟨iq,ir⟩else(cc x1 x3).bind fun iC=>(some (decide ((iC:Int)<0))).bind fun ik=>(bif ik then(cq x3 x1).bind fun eI=>(bM x2 eI).bind fun⟨qo,o7⟩=>some ⟨qo,o7⟩else(cq x1 x3).bind fun fQ=>(bM x0 fQ).bind fun⟨qp,qt⟩=>some ⟨qp,qt⟩))
noncomputable def nC(x0:Zr)(x1:Zr):Option (Zr):=match x0 with|⟨az,aA⟩=>match x1 with|⟨aZ,aY⟩=>(cL ⟨az,aA⟩).bind fun⟨DY,JU⟩=>(cL ⟨aZ,aY⟩).bind fun⟨FA,JV⟩=>bD (fun(Ci:Bool)=>bD (fun(j5:Unit)=>(aG aA).bind fun wI=>(aG aY).bind fun q9=>(cD az wI aZ q9).bind fun⟨HF,HG⟩=>some ⟨HF,HG⟩) fun K5=>(bif Ci then(some (IntKind.i64.wrap (DY+FA))).bind fun gJ=>(some (IntKind.i64.wrap ((BitVec.ofInt 64 DY ^^^ BitVec.ofInt 64 gJ).toNat))).bind fun fQ=>(some (IntKind.i64.wrap ((BitVec.ofInt 64 FA ^^^ BitVec.ofInt 64 gJ).toNat))).bind fun fI=>(some (IntKind.i64.wrap ((BitVec.ofInt 64 fQ &&& BitVec.ofInt 64 fI).toNat))).bind fun lI=>(some (decide ((0:Int)≤lI))).bind fun oA=>(bif oA then(bF gJ).bind fun⟨um,uo⟩=>some ⟨um,uo⟩else K5 ())else K5 ())) fun K3=>(bif JU then some JV else some false).bind fun HH=>K3 HH
noncomputable def nD(x0:Zr)(x1:Zr):Option (Zr):=match x0 with|⟨az,aA⟩=>match x1 with|⟨aZ,aY⟩=>(cL ⟨az,aA⟩).bind fun⟨DY,JU⟩=>(cL ⟨aZ,aY⟩).bind fun⟨FA,JV⟩=>bD (fun(Ci:Bool)=>bD (fun(j5:Unit)=>(aG aA).bind fun wI=>(some (!aZ)).bind fun yu=>(aG aY).bind fun tg=>(cD az wI yu tg).bind fun⟨Ue,Uf⟩=>some ⟨Ue,Uf⟩) fun K5=>(bif Ci then(some (IntKind.i64.wrap (DY-FA))).bind fun gJ=>(some (IntKind.i64.wrap ((BitVec.ofInt 64 DY ^^^ BitVec.ofInt 64 FA).toNat))).bind fun fQ=>(some (IntKind.i64.wrap ((BitVec.ofInt 64 DY ^^^ BitVec.ofInt 64 gJ).toNat))).bind fun fI=>(some (IntKind.i64.wrap ((BitVec.ofInt 64 fQ &&& BitVec.ofInt 64 fI).toNat))).bind fun lI=>(some (decide ((0:Int)≤lI))).bind fun oA=>(bif oA then(bF gJ).bind fun⟨um,uo⟩=>some ⟨um,uo⟩else K5 ())else K5 ())) fun K3=>(bif JU then some JV else some false).bind fun HH=>K3 HH
noncomputable def cU(x0:Zr)(x1:Zr):Option (Zr):=match x0 with|⟨az,aA⟩=>match x1 with|⟨aZ,aY⟩=>(aG aA).bind fun x9=>(aG aY).bind fun bV=>bD (fun(OV:Bool)=>(bif OV then(some (!(az==aZ))).bind fun gC=>(cS x9).bind fun fF=>(cS bV).bind fun fQ=>(some ((fF*fQ)%18446744073709551616)).bind fun uf=>(dU gC uf).bind fun⟨Ug,Uh⟩=>some ⟨Ug,Uh⟩else(some (!(az==aZ))).bind fun qm=>(fz x9 bV).bind fun nB=>(bM qm nB).bind fun⟨ur,uu⟩=>some ⟨ur,uu⟩)) fun K3=>(some (x9.length:Int)).bind fun cG=>(some (decide ((cG:Int)≤1))).bind fun cE=>(bif cE then(some (bV.length:Int)).bind fun c6=>(some (decide ((c6:Int)≤1))).bind fun iC=>some iC else some false).bind fun Ui=>K3 Ui
noncomputable def fW(x0:Zr):Option (Zr):=match x0 with|⟨az,aA⟩=>(some (!az)).bind fun x5=>(aG aA).bind fun x8=>(cZ x8).bind fun x9=>(bM x5 x9).bind fun⟨lP,lQ⟩=>some ⟨lP,lQ⟩
noncomputable def cg(x0:Zr):Option (Int):=match x0 with|⟨az,aA⟩=>(aG aA).bind fun x6=>(some (x6.length:Int)).bind fun x7=>(some (decide ((x7:Int)=0))).bind fun x8=>(bif x8 then some 0 else(bif az then some (-1)else some 1))
noncomputable def nE(x0:Zr)(x1:Zr):Option (Int):=match x0 with|⟨az,aA⟩=>match x1 with|⟨aZ,aY⟩=>(cg ⟨az,aA⟩).bind fun x8=>(cg ⟨aZ,aY⟩).bind fun cn=>(some (decide ((x8:Int)<cn))).bind fun cG=>(bif cG then some (-1)else(some (decide ((cn:Int)<x8))).bind fun c6=>(bif c6 then some 1 else(some (decide ((x8:Int)<0))).bind fun eH=>(bif eH then(aG aY).bind fun eI=>(aG aA).bind fun fF=>(cc eI fF).bind fun jr=>some jr else(aG aA).bind fun ny=>(aG aY).bind fun oA=>(cc ny oA).bind fun oB=>some oB)))
noncomputable def eu(x0:Zr)(x1:Zr):Option (Zr×Zr×Int):=match x0 with|⟨az,aA⟩=>match x1 with|⟨aZ,aY⟩=>(aG aA).bind fun fR=>(aG aY).bind fun dz=>(some (dz.length:Int)).bind fun c6=>(some (decide ((c6:Int)=0))).bind fun iC=>(bif iC then some (⟨false,[]⟩,⟨false,[]⟩,7)else(fB fR dz).bind fun⟨Cj,FB⟩=>(aG FB).bind fun fQ=>bD (fun(j3:Bool×Bool)=>match j3 with|⟨OW,xh⟩=>bD (fun(j5:(List Nat)×(List Nat))=>match j5 with|⟨OX,HI⟩=>(some (!(xh==aZ))).bind fun tg=>(bM tg OX).bind fun⟨HJ,HK⟩=>(bM false HI).bind fun⟨Uj,Uk⟩=>some (⟨HJ,HK⟩,⟨Uj,Uk⟩,0)) fun K5=>(bif OW then(dN Cj [1]).bind fun nB=>(cq dz fQ).bind fun rV=>K5 (nB,rV)else K5 (Cj,fQ))) fun K3=>(bif az then(some (fQ.length:Int)).bind fun oA=>(some (decide ((0:Int)<oA))).bind fun oB=>some oB else some false).bind fun Ul=>K3 (Ul,az))
noncomputable def kY(x0:Zr)(x1:Zr):Option (Zr):=match x0 with|⟨az,aA⟩=>match x1 with|⟨aZ,aY⟩=>(aG aA).bind fun fR=>(aG aY).bind fun dz=>(bk (fun(xT:(List Nat)×(List Nat))=>match xT with|⟨Bc,FC⟩=>(show Option (((List Nat)×(List Nat))⊕((List Nat)×(List Nat)))from bD (fun(JW:Bool)=>(bif JW then(fB Bc FC).bind fun⟨adP,M8⟩=>(aG M8).bind fun wH=>some (.inl (FC,wH))else some (.inr (Bc,FC)))) fun Z7=>(some (FC.length:Int)).bind fun c6=>(some (decide ((0:Int)<c6))).bind fun iC=>(bif iC then(some (Bc.length:Int)).bind fun fu=>(some (decide ((2:Int)<fu))).bind fun fy=>(bif fy then some true else(some (FC.length:Int)).bind fun gJ=>(some (decide ((2:Int)<gJ))).bind fun fF=>some fF).bind fun OY=>some OY else some false).bind fun OZ=>Z7 OZ)) (fR,dz)).bind fun Lw=>match Lw with|⟨O0,O1⟩=>(some (O1.length:Int)).bind fun nA=>(some (decide ((nA:Int)=0))).bind fun wI=>(bif wI then(cZ O0).bind fun zQ=>(bM false zQ).bind fun⟨Ey,HL⟩=>some ⟨Ey,HL⟩else(cS O0).bind fun q9=>(cS O1).bind fun ug=>(bk (fun(YX:Nat×Nat)=>match YX with|⟨Lx,zT⟩=>(show Option ((Nat×Nat)⊕(Nat))from(some (decide ((0:Nat)<zT))).bind fun xb=>(bif xb then(DR Lx zT).bind fun DZ=>some (.inl (zT,DZ))else some (.inr Lx)))) (q9,ug)).bind fun Ez=>(dU false Ez).bind fun⟨Um,Uo⟩=>some ⟨Um,Uo⟩)
end Go.Proofs.YtfoldppidpmchaaGreat
namespace Go.Proofs.YtfoldppidpmchaaGreat
open Go.Fw Go.Fw.Z Go.RowKit
theorem dO(c:Nat):V5 Tryz.prog 143 [.v (.int .u64 (c:Nat))] 157 104 [.v (.int .u64 (c:Nat))]:=by
 refine JG Tryz.func143 rfl (Nat.le_of_ble_eq_true rfl) (fun b9 M vs hvs=>?_)
 exact sr<|RT.E8 .none (s:=.sv _) rfl T rfl rfl<|ag rfl<|dn<|sr<|RT.makeFunc .none (.box rfl (.nil)) T<|an (s:=.fE _ _) rfl<|dn<|aj<|⟨.inr rfl,_,.tmp rfl,rfl⟩
theorem uw(a b:List Nat):Pure Tryz.prog 160 [(slc 1 (List.map ak a)),(slc 1 (List.map ak b))] (rC 169 [ref [(slc 1 (List.map ak a))],ref [(slc 1 (List.map ak b))]]):=by
 refine ah Tryz.func160 rfl (Nat.le_of_ble_eq_true rfl) (fun b9 M vs hvs=>?_)
 refine sr<|RT.E8 .none (s:=.sv _) rfl T rfl rfl<|RT.E8 .none (s:=.sv _) rfl T rfl rfl<|ag rfl<|dn<|sr<|RT.makeFunc .none (.box rfl (.box rfl (.nil))) T<|an (s:=.fE _ _) rfl<|dn<|aK (mW (i:=2) rfl [(slc 1 (List.map ak a))] (.cons rfl .nil) .any 0 [(4,.fE 169 [.val (ref [(slc 1 (List.map ak a))]),.box 3])] (fun _ _ _=>trivial) (wV.h (l:=[(slc 1 (List.map ak a))])) ⟨@FT.fE _ _ _ _ _ 4 169 [.box 2,.box 3] rfl,trivial⟩) ?_
 exact aK (mW (i:=3) rfl [(slc 1 (List.map ak b))] (.cons rfl .nil) .any 0 [(4,.fE 169 [.val (ref [(slc 1 (List.map ak a))]),.val (ref [(slc 1 (List.map ak b))])])] (fun _ _ _=>trivial) (wV.h (l:=[(slc 1 (List.map ak b))])) ⟨@FT.fE _ _ _ _ _ 4 169 [.val (ref [(slc 1 (List.map ak a))]),.box 3] rfl,trivial⟩)<|aK (Fm 4 (rC 169 [ref [(slc 1 (List.map ak a))],ref [(slc 1 (List.map ak b))]]) (fun _ _ h=>Fo h))<|aj<|⟨.inr rfl,Fh (.tmp rfl (.nil)) rfl⟩
theorem ux(a b:List Nat):Iter Tryz.prog 169 [ref [(slc 1 (List.map ak a))],ref [(slc 1 (List.map ak b))]] (max a.length b.length) (fun k=>[.v (.int .u64 ((a.getD k 0%18446744073709551616:Nat):Int)),.v (.int .u64 ((b.getD k 0%18446744073709551616:Nat):Int))]):=by
 refine r8 Tryz.func169 rfl rfl (Nat.le_of_ble_eq_true rfl) (fun b9 M O l J hJ zA hr=>?_)
 obtain⟨tF,zA⟩:=zA
 have hla:a.length≤9223372036854775807:=by cases tF with|nil=>exact zA.elim|cons _ tF=>exact vA zA.1
 have hlb:b.length≤9223372036854775807:=by cases tF with|nil=>exact zA.elim|cons _ tF=>cases tF with|nil=>exact zA.2.elim|cons _ _=>exact vA zA.2.1
 refine aO ?_
 refine af ?_
 refine RT.b8 .none rfl rfl (tl rfl) ?_
 refine RT.len .none rfl (tl rfl) ?_
 refine RT.b8 .none rfl rfl (tl rfl) ?_
 refine RT.len .none rfl (tl rfl) ?_
 refine RT.max .none (((max a.length b.length:Nat):Int)) rfl rfl (tl rfl) (by simp only[List.length_map];split<;>omega) ?_
 refine RT.mv .none rfl (tl rfl) ?_
 refine RT.done ?_
 refine ae.n ?_
 refine aq ?_
 refine xX (I:=fun x:{i:Nat//i≤max a.length b.length}=>AS.bw 39 [(0,.sv (.v (.func (.yield l) #[] #[]))),(1,.sv (ref [(slc 1 (List.map ak a))])),(2,.sv (ref [(slc 1 (List.map ak b))])),(11,.sv (.v (.int .i64 ((max a.length b.length:Nat):Int)))),(12,.sv (.v (.int .i64 ((x.1:Nat):Int))))] [] [] (x.1)) (μ:=fun x=>max a.length b.length-x.1) ⟨0,by omega⟩ (by(try dsimp only);exact bK id rfl rfl rfl rfl rfl ⟨.sv (by first|exact SV.aa _|exact SV.au (by omega)|exact SV.au (by push_cast;omega)|exact SV.au (by dsimp only;omega)|exact SV.imp_eq (by simp)),.sv (by first|exact SV.aa _|exact SV.au (by omega)|exact SV.au (by push_cast;omega)|exact SV.au (by dsimp only;omega)|exact SV.imp_eq (by simp)),.sv (by first|exact SV.aa _|exact SV.au (by omega)|exact SV.au (by push_cast;omega)|exact SV.au (by dsimp only;omega)|exact SV.imp_eq (by simp)),.sv (by first|exact SV.aa _|exact SV.au (by omega)|exact SV.au (by push_cast;omega)|exact SV.au (by dsimp only;omega)|exact SV.imp_eq (by simp)),.sv (by first|exact SV.aa _|exact SV.au (by omega)|exact SV.au (by push_cast;omega)|exact SV.au (by dsimp only;omega)|exact SV.imp_eq (by simp)),trivial⟩ trivial trivial (fun _ _=>rfl)) ?_
 rintro⟨i,Ua⟩
 try dsimp only
 rcases Cb a b i Ua with⟨hi,zG,Ff⟩|⟨hi,zG,Ff⟩|⟨hi,zG,Ff⟩|hi
 ·
  refine aO ?_
  refine af ?_
  refine RT.lss .none (true) rfl rfl (tl rfl) (by simp;omega) ?_
  refine RT.done ?_
  refine ae.n ?_
  refine aO ?_
  refine bX rfl ?_
  refine aC ?_
  refine ae.n ?_
  refine aO ?_
  refine aq ?_
  refine aO ?_
  refine af ?_
  refine RT.mv .none rfl (tl rfl) ?_
  refine RT.BV .none rfl (tl rfl) ?_
  refine RT.done ?_
  refine ae.n ?_
  refine aO ?_
  refine af ?_
  refine RT.BV .none rfl (tl rfl) ?_
  refine RT.BV .none rfl (tl rfl) ?_
  refine RT.done ?_
  refine ae.n ?_
  refine aO ?_
  refine aO ?_
  refine af ?_
  refine RT.mv .none rfl (tl rfl) ?_
  refine RT.b8 .none rfl rfl (tl rfl) ?_
  refine RT.len .none rfl (tl rfl) ?_
  refine RT.lss .none (true) rfl rfl (tl rfl) (by simp only[List.length_map];simp;omega) ?_
  refine RT.done ?_
  refine ae.n ?_
  refine bX rfl ?_
  refine af ?_
  refine RT.b8 .none rfl rfl (tl rfl) ?_
  refine RT.mv .none rfl (tl rfl) ?_
  refine RT.Od .none [.v (.int .u32 ((a.getD i 0:Nat):Int))] (Int.natCast_nonneg i) (by rw[Int.toNat_natCast,List.getElem?_map,uc zG];rfl) rfl rfl (tl rfl) ?_
  refine RT.b8 .none rfl rfl (tl rfl) ?_
  refine RT.conv .none (((a.getD i 0%18446744073709551616:Nat):Int)) rfl (tl rfl) Sf ?_
  refine RT.BV .none rfl (tl rfl) ?_
  refine RT.done ?_
  refine ae.n ?_
  refine aO ?_
  refine aO ?_
  refine af ?_
  refine RT.mv .none rfl (tl rfl) ?_
  refine RT.b8 .none rfl rfl (tl rfl) ?_
  refine RT.len .none rfl (tl rfl) ?_
  refine RT.lss .none (true) rfl rfl (tl rfl) (by simp only[List.length_map];simp;omega) ?_
  refine RT.done ?_
  refine ae.n ?_
  refine bX rfl ?_
  refine af ?_
  refine RT.b8 .none rfl rfl (tl rfl) ?_
  refine RT.mv .none rfl (tl rfl) ?_
  refine RT.Od .none [.v (.int .u32 ((b.getD i 0:Nat):Int))] (Int.natCast_nonneg i) (by rw[Int.toNat_natCast,List.getElem?_map,uc Ff];rfl) rfl rfl (tl rfl) ?_
  refine RT.b8 .none rfl rfl (tl rfl) ?_
  refine RT.conv .none (((b.getD i 0%18446744073709551616:Nat):Int)) rfl (tl rfl) Sf ?_
  refine RT.BV .none rfl (tl rfl) ?_
  refine RT.done ?_
  refine ae.n ?_
  refine aO ?_
  refine af ?_
  refine RT.mv .none rfl (tl rfl) ?_
  refine RT.mv .none rfl (tl rfl) ?_
  refine RT.mv .none rfl (tl rfl) ?_
  refine RT.yield .none hr rfl (fun _ h=>h) rfl (i) rfl rfl hi (by exact⟨rfl,rfl,trivial⟩) (tl rfl) (fun yb=>?_)
  cases yb
  ·
   refine RT.not .none rfl (tl rfl) true rfl ?_
   refine RT.done ?_
   refine ae.n ?_
   refine bX rfl ?_
   refine aj ?_
   refine aD.r ?_
   refine ae.r ?_
   refine ae.r ?_
   refine aD.r ?_
   exact⟨.inr rfl,(fun h=>by cases h)⟩
  ·
   refine RT.not .none rfl (tl rfl) false rfl ?_
   refine RT.done ?_
   refine ae.n ?_
   refine dg rfl ?_
   refine aC ?_
   refine aD.n ?_
   refine ae.n ?_
   refine af ?_
   refine RT.add .none (((i:Nat):Int)+1) rfl rfl (tl rfl) (lO (by omega)) ?_
   refine RT.mv .none rfl (tl rfl) ?_
   refine RT.done ?_
   refine ae.n ?_
   refine⟨⟨i+1,by omega⟩,(by dsimp only;omega),?_⟩
   try dsimp only
   exact bK id rfl rfl rfl rfl rfl ⟨.sv (by first|exact SV.aa _|exact SV.au (by omega)|exact SV.au (by push_cast;omega)|exact SV.au (by dsimp only;omega)|exact SV.imp_eq (by simp)),.sv (by first|exact SV.aa _|exact SV.au (by omega)|exact SV.au (by push_cast;omega)|exact SV.au (by dsimp only;omega)|exact SV.imp_eq (by simp)),.sv (by first|exact SV.aa _|exact SV.au (by omega)|exact SV.au (by push_cast;omega)|exact SV.au (by dsimp only;omega)|exact SV.imp_eq (by simp)),.sv (by first|exact SV.aa _|exact SV.au (by omega)|exact SV.au (by push_cast;omega)|exact SV.au (by dsimp only;omega)|exact SV.imp_eq (by simp)),.sv (by first|exact SV.aa _|exact SV.au (by omega)|exact SV.au (by push_cast;omega)|exact SV.au (by dsimp only;omega)|exact SV.imp_eq (by simp)),trivial⟩ trivial trivial (fun _ _=>rfl)
 ·
  refine aO ?_
  refine af ?_
  refine RT.lss .none (true) rfl rfl (tl rfl) (by simp;omega) ?_
  refine RT.done ?_
  refine ae.n ?_
  refine aO ?_
  refine bX rfl ?_
  refine aC ?_
  refine ae.n ?_
  refine aO ?_
  refine aq ?_
  refine aO ?_
  refine af ?_
  refine RT.mv .none rfl (tl rfl) ?_
  refine RT.BV .none rfl (tl rfl) ?_
  refine RT.done ?_
  refine ae.n ?_
  refine aO ?_
  refine af ?_
  refine RT.BV .none rfl (tl rfl) ?_
  refine RT.BV .none rfl (tl rfl) ?_
  refine RT.done ?_
  refine ae.n ?_
  refine aO ?_
  refine aO ?_
  refine af ?_
  refine RT.mv .none rfl (tl rfl) ?_
  refine RT.b8 .none rfl rfl (tl rfl) ?_
  refine RT.len .none rfl (tl rfl) ?_
  refine RT.lss .none (true) rfl rfl (tl rfl) (by simp only[List.length_map];simp;omega) ?_
  refine RT.done ?_
  refine ae.n ?_
  refine bX rfl ?_
  refine af ?_
  refine RT.b8 .none rfl rfl (tl rfl) ?_
  refine RT.mv .none rfl (tl rfl) ?_
  refine RT.Od .none [.v (.int .u32 ((a.getD i 0:Nat):Int))] (Int.natCast_nonneg i) (by rw[Int.toNat_natCast,List.getElem?_map,uc zG];rfl) rfl rfl (tl rfl) ?_
  refine RT.b8 .none rfl rfl (tl rfl) ?_
  refine RT.conv .none (((a.getD i 0%18446744073709551616:Nat):Int)) rfl (tl rfl) Sf ?_
  refine RT.BV .none rfl (tl rfl) ?_
  refine RT.done ?_
  refine ae.n ?_
  refine aO ?_
  refine aO ?_
  refine af ?_
  refine RT.mv .none rfl (tl rfl) ?_
  refine RT.b8 .none rfl rfl (tl rfl) ?_
  refine RT.len .none rfl (tl rfl) ?_
  refine RT.lss .none (false) rfl rfl (tl rfl) (by simp only[List.length_map];simp;omega) ?_
  refine RT.done ?_
  refine ae.n ?_
  refine dg rfl ?_
  refine aC ?_
  refine ae.n ?_
  refine aO ?_
  refine af ?_
  refine RT.mv .none rfl (tl rfl) ?_
  refine RT.mv .none rfl (tl rfl) ?_
  refine RT.mv .none rfl (tl rfl) ?_
  refine RT.yield .none hr rfl (fun _ h=>h) rfl (i) rfl rfl hi (by exact⟨rfl,(by show AV.sv _=AV.sv _;rw[w8 Ff];rfl),trivial⟩) (tl rfl) (fun yb=>?_)
  cases yb
  ·
   refine RT.not .none rfl (tl rfl) true rfl ?_
   refine RT.done ?_
   refine ae.n ?_
   refine bX rfl ?_
   refine aj ?_
   refine aD.r ?_
   refine ae.r ?_
   refine ae.r ?_
   refine aD.r ?_
   exact⟨.inr rfl,(fun h=>by cases h)⟩
  ·
   refine RT.not .none rfl (tl rfl) false rfl ?_
   refine RT.done ?_
   refine ae.n ?_
   refine dg rfl ?_
   refine aC ?_
   refine aD.n ?_
   refine ae.n ?_
   refine af ?_
   refine RT.add .none (((i:Nat):Int)+1) rfl rfl (tl rfl) (lO (by omega)) ?_
   refine RT.mv .none rfl (tl rfl) ?_
   refine RT.done ?_
   refine ae.n ?_
   refine⟨⟨i+1,by omega⟩,(by dsimp only;omega),?_⟩
   try dsimp only
   exact bK id rfl rfl rfl rfl rfl ⟨.sv (by first|exact SV.aa _|exact SV.au (by omega)|exact SV.au (by push_cast;omega)|exact SV.au (by dsimp only;omega)|exact SV.imp_eq (by simp)),.sv (by first|exact SV.aa _|exact SV.au (by omega)|exact SV.au (by push_cast;omega)|exact SV.au (by dsimp only;omega)|exact SV.imp_eq (by simp)),.sv (by first|exact SV.aa _|exact SV.au (by omega)|exact SV.au (by push_cast;omega)|exact SV.au (by dsimp only;omega)|exact SV.imp_eq (by simp)),.sv (by first|exact SV.aa _|exact SV.au (by omega)|exact SV.au (by push_cast;omega)|exact SV.au (by dsimp only;omega)|exact SV.imp_eq (by simp)),.sv (by first|exact SV.aa _|exact SV.au (by omega)|exact SV.au (by push_cast;omega)|exact SV.au (by dsimp only;omega)|exact SV.imp_eq (by simp)),trivial⟩ trivial trivial (fun _ _=>rfl)
 ·
  refine aO ?_
  refine af ?_
  refine RT.lss .none (true) rfl rfl (tl rfl) (by simp;omega) ?_
  refine RT.done ?_
  refine ae.n ?_
  refine aO ?_
  refine bX rfl ?_
  refine aC ?_
  refine ae.n ?_
  refine aO ?_
  refine aq ?_
  refine aO ?_
  refine af ?_
  refine RT.mv .none rfl (tl rfl) ?_
  refine RT.BV .none rfl (tl rfl) ?_
  refine RT.done ?_
  refine ae.n ?_
  refine aO ?_
  refine af ?_
  refine RT.BV .none rfl (tl rfl) ?_
  refine RT.BV .none rfl (tl rfl) ?_
  refine RT.done ?_
  refine ae.n ?_
  refine aO ?_
  refine aO ?_
  refine af ?_
  refine RT.mv .none rfl (tl rfl) ?_
  refine RT.b8 .none rfl rfl (tl rfl) ?_
  refine RT.len .none rfl (tl rfl) ?_
  refine RT.lss .none (false) rfl rfl (tl rfl) (by simp only[List.length_map];simp;omega) ?_
  refine RT.done ?_
  refine ae.n ?_
  refine dg rfl ?_
  refine aC ?_
  refine ae.n ?_
  refine aO ?_
  refine aO ?_
  refine af ?_
  refine RT.mv .none rfl (tl rfl) ?_
  refine RT.b8 .none rfl rfl (tl rfl) ?_
  refine RT.len .none rfl (tl rfl) ?_
  refine RT.lss .none (true) rfl rfl (tl rfl) (by simp only[List.length_map];simp;omega) ?_
  refine RT.done ?_
  refine ae.n ?_
  refine bX rfl ?_
  refine af ?_
  refine RT.b8 .none rfl rfl (tl rfl) ?_
  refine RT.mv .none rfl (tl rfl) ?_
  refine RT.Od .none [.v (.int .u32 ((b.getD i 0:Nat):Int))] (Int.natCast_nonneg i) (by rw[Int.toNat_natCast,List.getElem?_map,uc Ff];rfl) rfl rfl (tl rfl) ?_
  refine RT.b8 .none rfl rfl (tl rfl) ?_
  refine RT.conv .none (((b.getD i 0%18446744073709551616:Nat):Int)) rfl (tl rfl) Sf ?_
  refine RT.BV .none rfl (tl rfl) ?_
  refine RT.done ?_
  refine ae.n ?_
  refine aO ?_
  refine af ?_
  refine RT.mv .none rfl (tl rfl) ?_
  refine RT.mv .none rfl (tl rfl) ?_
  refine RT.mv .none rfl (tl rfl) ?_
  refine RT.yield .none hr rfl (fun _ h=>h) rfl (i) rfl rfl hi (by exact⟨(by show AV.sv _=AV.sv _;rw[w8 zG];rfl),rfl,trivial⟩) (tl rfl) (fun yb=>?_)
  cases yb
  ·
   refine RT.not .none rfl (tl rfl) true rfl ?_
   refine RT.done ?_
   refine ae.n ?_
   refine bX rfl ?_
   refine aj ?_
   refine aD.r ?_
   refine ae.r ?_
   refine ae.r ?_
   refine aD.r ?_
   exact⟨.inr rfl,(fun h=>by cases h)⟩
  ·
   refine RT.not .none rfl (tl rfl) false rfl ?_
   refine RT.done ?_
   refine ae.n ?_
   refine dg rfl ?_
   refine aC ?_
   refine aD.n ?_
   refine ae.n ?_
   refine af ?_
   refine RT.add .none (((i:Nat):Int)+1) rfl rfl (tl rfl) (lO (by omega)) ?_
   refine RT.mv .none rfl (tl rfl) ?_
   refine RT.done ?_
   refine ae.n ?_
   refine⟨⟨i+1,by omega⟩,(by dsimp only;omega),?_⟩
   try dsimp only
   exact bK id rfl rfl rfl rfl rfl ⟨.sv (by first|exact SV.aa _|exact SV.au (by omega)|exact SV.au (by push_cast;omega)|exact SV.au (by dsimp only;omega)|exact SV.imp_eq (by simp)),.sv (by first|exact SV.aa _|exact SV.au (by omega)|exact SV.au (by push_cast;omega)|exact SV.au (by dsimp only;omega)|exact SV.imp_eq (by simp)),.sv (by first|exact SV.aa _|exact SV.au (by omega)|exact SV.au (by push_cast;omega)|exact SV.au (by dsimp only;omega)|exact SV.imp_eq (by simp)),.sv (by first|exact SV.aa _|exact SV.au (by omega)|exact SV.au (by push_cast;omega)|exact SV.au (by dsimp only;omega)|exact SV.imp_eq (by simp)),.sv (by first|exact SV.aa _|exact SV.au (by omega)|exact SV.au (by push_cast;omega)|exact SV.au (by dsimp only;omega)|exact SV.imp_eq (by simp)),trivial⟩ trivial trivial (fun _ _=>rfl)
 ·
  subst hi
  refine aO ?_
  refine af ?_
  refine RT.lss .none (false) rfl rfl (tl rfl) (by simp) ?_
  refine RT.done ?_
  refine ae.n ?_
  refine aO ?_
  refine dg rfl ?_
  refine aS ?_
  refine ae.x ?_
  refine ae.x ?_
  refine aD.x ?_
  exact⟨.inl rfl,(fun _=>rfl)⟩
theorem oa{x0 r:List Nat}(h:cZ x0=some r):Pure Tryz.prog 123 [slc 1 (List.map ak x0)] (slc 1 (List.map ak r)):=by
 refine ah Tryz.func123 rfl (Nat.le_of_ble_eq_true rfl) (fun b9 M vs hvs=>?_)
 unfold cZ at h
 refine sr<|aI rfl (imp_nil (n:=1) (e:=ak))<|dn<|qq<|sr<|mv rfl ?_
 refine RT.T6 .none rfl T (fun nb hnb=>?_)
 cases nb
 exact dn<|fs<|sr<|RT.Bt (l:=([]:List Nat)) (e:=ak) .none .nil T rfl T rfl rfl rfl rfl rfl rfl<|mv rfl<|RT.Oy (k:=x0) (e:=ak) .none rfl rfl rfl T rfl T h<|ag rfl<|dn<|aj<|RZ (.tmp rfl .nil)
 have hx:x0=[]:=by simpa using hnb rfl
 subst hx
 obtain⟨_,_,rfl⟩:=yg h
 exact dn<|cT<|sr<|aI rfl (imp_nil (n:=1) (e:=ak))<|dn<|aj<|ae.r<|RZ (.tmp rfl .nil)
theorem zU{x0 r:List Nat}(h:cZ x0=some r):B0 Tryz.prog 123 [slc 1 (List.map ak x0)] (TR 106 1 ak r):=by
 refine o4 Tryz.func123 rfl (Nat.le_of_ble_eq_true rfl) (fun b9 M vs hvs=>?_)
 unfold cZ at h
 refine sr<|ag rfl<|dn<|qq<|sr<|mv rfl ?_
 refine RT.T6 .none rfl T (fun nb hnb=>?_)
 cases nb
 exact dn<|fs<|sr<|RT.Bt (l:=([]:List Nat)) (e:=ak) .none .nil T rfl T rfl rfl rfl rfl rfl rfl<|mv rfl<|aR (k:=x0) (e:=ak) rfl rfl rfl h<|an (s:=.row _) rfl<|dn<|aj<|⟨.inr rfl,_,.tmp rfl,rfl⟩
 have hx:x0=[]:=by simpa using hnb rfl
 subst hx
 obtain⟨_,_,rfl⟩:=yg h
 exact dn<|cT<|sr<|ag rfl<|dn<|aK (cY 2 300 106 1 rfl rfl T)<|aj<|ae.r<|⟨.inr rfl,_,.tmp rfl,rfl⟩
theorem bJ{x0:Nat}{c0:Nat}{r:Nat×Nat}(h:bj x0 c0=some r):Ol Tryz.prog 157 [.v (.int .u64 ((x0:Nat):Int))] 104 [.v (.int .u64 ((c0:Nat):Int))] (.v (.int .u32 ((r.1:Nat):Int))) [.v (.int .u64 ((r.2:Nat):Int))]:=by
 refine B3 Tryz.func157 rfl (Nat.le_of_ble_eq_true rfl) (fun b9 M β=>?_)
 unfold bj at h
 refine sr<|ag rfl<|dn<|sr<|mv rfl<|lV rfl rfl rfl<|lE h fun x6 h6 h=>ad _ rfl rfl (UK.add (a:=x0) (b:=c0) h6)<|ag rfl<|dn<|sr<|mv rfl<|lE h fun x8 h8 h=>RT.shr .none _ rfl rfl T (by decide) (Fq (k:=.u64) (a:=x6) (q:=32) (s:=32) rfl h8)<|RT.mU (cells:=[_]) .none (s:=.sv _) rfl rfl rfl T rfl<|dn<|sr<|mv rfl<|lE h fun cn ep h=>cv _ rfl (UK.nat ep)<|ag rfl ?_
 refine dn<|aj ?_
 obtain rfl:=O h
 exact⟨.inr rfl,oF (.tmp rfl (.nil)) (SV.aa _),rfl⟩
theorem bC{x0:List Nat}{r:List Nat}(h:aG x0=some r):Pure Tryz.prog 99 [slc 1 (List.map ak x0)] (slc 1 (List.map ak r)):=by
 refine ah Tryz.func99 rfl (Nat.le_of_ble_eq_true rfl) (fun b9 M vs hvs=>?_)
 unfold aG at h
 refine sr<|aI rfl (imp_nil (n:=1) (e:=ak))<|dn<|qq<|bE h fun Bd sq mL=>?_
 refine aL (fun(M1:(List Nat))=>AS.bw 21 [(0,.sv (slc 1 (List.map ak M1)))] [] []) (fun M1=>M1=Bd) ?_ (fun M1 su=>?_)
 refine aq ?_
 refine aM sq (fun qc=>AS.bw 21 [(0,.sv (slc 1 (List.map ak qc)))] [] []) (wR []) (fun Fx Su Sv h sw o8=>?_)
 try dsimp only
 refine qq<|qq ?_
 refine aH h (fun Ck=>AS.bw 21 [(0,.sv (slc 1 (List.map ak Fx))),(14,.sv (.v (.bool Ck)))] [] []) (fun h=>?_) (fun JK h=>?_)
 refine af<|mv rfl<|lE h fun x4 h4 h=>ln rfl h4<|lE h fun x5 h5 h=>gt _ rfl rfl h5<|mv rfl<|bE h fun OL bZ h=>?_
 cases x5
 obtain rfl:=O (F bZ)
 exact ww<|ww<|ww<|ww<|ww<|ww<|ww<|pF rfl<|dn<|⟨false,h,wR []⟩
 refine gm rfl<|gm rfl<|lE (V bZ) fun x9 h9 bZ=>gn rfl h9<|lE bZ fun cn ep bZ=>RT.sub (.some rfl rfl) _ rfl rfl T ep<|bE bZ fun eE jS bZ=>RT.T8 (.some rfl rfl) rfl rfl T jS<|gr rfl rfl<|lE bZ fun fR jn bZ=>Wp _ rfl rfl (YR (p:=eE) (q:=0) jn) ?_
 obtain rfl:=O bZ
 exact pT rfl<|dn<|⟨fR,h,wR []⟩
 try dsimp only
 refine ae.n ?_
 cases JK
 refine cF<|aS<|ae.x<|ae.x<|aD.x<|ae.n ?_
 obtain rfl:=O (F h)
 exact⟨Fx,o8 _ rfl,wR []⟩
 refine cT<|aC<|ae.n<|aq<|af<|mv rfl<|mv rfl<|lE (V h) fun cX jd h=>ln rfl jd<|lE h fun c6 iS h=>sb _ rfl rfl iS<|bE h fun iC kp h=>RT.ua .none 0 c6 rfl rfl ⟨_,rfl⟩ T kp<|ag rfl<|RT.done<|aD.n ?_
 obtain rfl:=O h
 exact ae.n ⟨iC,sw _ rfl,wR []⟩
 subst su
 try dsimp only
 refine ae.n<|sr<|mv rfl<|ag rfl<|dn<|aj ?_
 obtain rfl:=O mL
 exact R1 rfl
theorem ew{x0:Bool}{x1:List Nat}{r:Zr}(h:bM x0 x1=some r):Pure Tryz.prog 116 [.v (.bool x0),slc 1 (List.map ak x1)] (.agg (eZ r)):=by
 refine ah Tryz.func116 rfl (Nat.le_of_ble_eq_true rfl) (fun b9 M vs hvs=>?_)
 unfold bM at h
 refine sr<|al (cs:=[.v (.bool false),slc 1 (List.map ak [])]) (by exact⟨SV.aa _,imp_nil,trivial⟩) rfl<|dn<|sr<|mv rfl<|bE h fun x6 h6 h=>cl (bC h6) ⟨rfl,trivial⟩<|ag rfl<|dn<|qq<|sr<|mv rfl<|lE h fun x8 h8 h=>ln rfl h8<|lE h fun x9 h9 h=>eq _ rfl rfl (Bb (p:=x8) (q:=0) h9)<|dn ?_
 cases x9
 refine fs<|sr<|mv rfl<|mv rfl<|bI (cs:=[_,_]) (cs':=[.v (.bool x0),slc 1 (List.map ak x6)]) (.one rfl (.one rfl (.nil))) ⟨SV.aa _,SV.aa _,trivial⟩<|so rfl rfl rfl<|dn<|aj ?_
 obtain rfl:=O (F h)
 exact RZ (.agg rfl rfl (.cons rfl (.cons rfl (.nil))) rfl (.nil))
 refine cT<|sr<|bI (cs:=[_,_]) (cs':=[.v (.bool false),slc 1 (List.map ak [])]) (.nil) ⟨SV.aa _,imp_nil,trivial⟩<|so rfl rfl rfl<|dn<|aj<|ae.r ?_
 obtain rfl:=O (V h)
 exact RZ (.agg rfl rfl (.cons rfl (.cons rfl (.nil))) rfl (.nil))
theorem jx{x0:Bool}{x1:Nat}{r:Zr}(h:dU x0 x1=some r):Pure Tryz.prog 114 [.v (.bool x0),.v (.int .u64 ((x1:Nat):Int))] (.agg (eZ r)):=by
 refine ah Tryz.func114 rfl (Nat.le_of_ble_eq_true rfl) (fun b9 M vs hvs=>?_)
 unfold dU at h
 refine sr<|al (cs:=[.v (.bool false),slc 1 (List.map ak [])]) (by exact⟨SV.aa _,imp_nil,trivial⟩) rfl<|dn<|qq<|aq<|sr<|mv rfl<|lE h fun x7 h7 h=>eq _ rfl rfl (YR (p:=x1) (q:=0) h7)<|ag rfl<|dn ?_
 cases x7
 refine cF<|sr<|mv rfl<|lE (F h) fun eE jS h=>RT.shr .none _ rfl rfl T (by decide) (Fq (k:=.u64) (a:=x1) (q:=32) (s:=32) rfl jS)<|lE h fun bV dH h=>eq _ rfl rfl (YR (p:=eE) (q:=0) dH)<|ag rfl<|dn ?_
 cases bV
 refine cF<|aC<|aD.n<|ae.n<|sr<|mv rfl<|mv rfl<|lE (F h) fun ik nF h=>cv _ rfl (UK.nat nF)<|mv rfl<|lE h fun fu kM h=>RT.shr .none _ rfl rfl T (by decide) (Fq (k:=.u64) (a:=x1) (q:=32) (s:=32) rfl kM)<|lE h fun fy kN h=>cv _ rfl (UK.nat kN)<|bl (l:=[ik,fy]) (e:=ak) (.one rfl (.one rfl (.nil))) rfl rfl rfl rfl rfl rfl<|bI (cs:=[_,_]) (cs':=[.v (.bool x0),slc 1 (List.map ak [ik,fy])]) (.one rfl (.one rfl (.nil))) ⟨SV.aa _,SV.aa _,trivial⟩ ?_
 refine so rfl rfl rfl<|dn<|aj ?_
 obtain rfl:=O h
 exact RZ (.agg rfl rfl (.cons rfl (.cons rfl (.nil))) rfl (.nil))
 refine cT<|sr<|mv rfl<|mv rfl<|lE (V h) fun cE fS h=>cv _ rfl (UK.nat fS)<|bl (l:=[cE]) (e:=ak) (.one rfl (.nil)) rfl rfl rfl rfl rfl rfl<|bI (cs:=[_,_]) (cs':=[.v (.bool x0),slc 1 (List.map ak [cE])]) (.one rfl (.one rfl (.nil))) ⟨SV.aa _,SV.aa _,trivial⟩<|so rfl rfl rfl<|dn<|aj<|aD.r<|ae.r ?_
 obtain rfl:=O h
 exact RZ (.agg rfl rfl (.cons rfl (.cons rfl (.nil))) rfl (.nil))
 refine cT<|sr<|bI (cs:=[_,_]) (cs':=[.v (.bool false),slc 1 (List.map ak [])]) (.nil) ⟨SV.aa _,imp_nil,trivial⟩<|so rfl rfl rfl<|dn<|aj<|aD.r<|ae.r ?_
 obtain rfl:=O (V h)
 exact RZ (.agg rfl rfl (.cons rfl (.cons rfl (.nil))) rfl (.nil))
theorem iE{x0:List Nat}{r:Nat}(h:cS x0=some r):Pure Tryz.prog 115 [slc 1 (List.map ak x0)] (.v (.int .u64 ((r:Nat):Int))):=by
 refine ah Tryz.func115 rfl (Nat.le_of_ble_eq_true rfl) (fun b9 M vs hvs=>?_)
 unfold cS at h
 refine sr<|ag rfl<|dn<|qq<|sr<|mv rfl<|lE h fun x4 h4 h=>ln rfl h4<|dn<|aq<|sr<|lE h fun x6 h6 h=>eq _ rfl rfl (Bb (p:=x4) (q:=0) h6)<|ag rfl<|dn ?_
 cases x6
 refine cF<|sr<|lE (F h) fun x8 h8 h=>eq _ rfl rfl (Bb (p:=x4) (q:=1) h8)<|ag rfl<|dn ?_
 cases x8
 refine cF<|aC<|aD.n<|ae.n<|qq<|ai mixed<|mv rfl<|bE (F h) fun cG fT h=>ix rfl rfl fT<|lr rfl rfl<|lE h fun dz gZ h=>cv _ rfl (UK.nat gZ)<|mv rfl<|bE h fun c6 iS h=>ix rfl rfl iS<|lr rfl rfl<|lE h fun ik nF h=>cv _ rfl (UK.nat nF)<|lE h fun eH jT h=>RT.shl .none _ rfl rfl T (by decide) (UK.shl (a:=ik) (q:=32) (s:=32) rfl jT)<|lE h fun fu kM h=>RT.or .none _ rfl rfl T (UK.or (a:=dz) (b:=eH) kM) ?_
 refine ag rfl ?_
 refine RT.done ⟨by kernel_rfl,?_⟩
 refine ae.n<|aj ?_
 obtain rfl:=O h
 exact R1 rfl
 refine cT<|sr<|mv rfl<|bE (V h) fun cn ep h=>ix rfl rfl ep<|lr rfl rfl<|lE h fun bV dH h=>cv _ rfl (UK.nat dH)<|ag rfl<|dn<|aj<|aD.r<|ae.r ?_
 obtain rfl:=O h
 exact R1 rfl
 refine cT<|sr<|ag rfl<|dn<|aj<|aD.r<|ae.r ?_
 obtain rfl:=O (V h)
 exact R1 rfl
theorem fN{x0:List Nat}{x1:List Nat}{r:Int}(h:cc x0 x1=some r):Pure Tryz.prog 113 [slc 1 (List.map ak x0),slc 1 (List.map ak x1)] (.v (.int .i64 r)):=by
 refine ah Tryz.func113 rfl (Nat.le_of_ble_eq_true rfl) (fun b9 M vs hvs=>?_)
 unfold cc at h
 refine sr<|ag rfl<|dn<|qq<|sr<|mv rfl<|lE h fun x7 h7 h=>ln rfl h7<|mv rfl<|lE h fun x9 h9 h=>ln rfl h9<|lE h fun cn ep h=>ne _ rfl rfl (DJ (p:=x7) (q:=x9) ep)<|dn ?_
 cases cn
 refine fs<|qq<|sr<|mv rfl<|lE (F h) fun cX jd h=>ln rfl jd<|lE h fun c6 iS h=>sb _ rfl rfl iS<|ag rfl<|dn<|bE h fun e6 xj jh=>?_
 refine aL (fun(Cm:Unit)=>AS.bw 41 [] [] []) (fun Cm=>.inl Cm=e6) ?_ (fun Cm xk=>?_)
 refine aq ?_
 refine aM xj (fun s6=>AS.bw 41 [(0,.sv (slc 1 (List.map ak x0))),(1,.sv (slc 1 (List.map ak x1))),(5,.sv (.v (.int .i64 s6)))] [] []) (wR []) (fun kL y6 G6 h xl sx=>?_)
 try dsimp only
 refine qq<|sr<|mv rfl<|lE h fun ik nF h=>ge _ rfl rfl nF<|dn ?_
 cases ik
 refine cF<|aS<|ae.x<|ae.x<|aD.x<|ae.n ?_
 obtain rfl:=O (F h)
 exact⟨(),sx _ rfl,wR []⟩
 refine cT<|aC<|ae.n<|qq<|aq<|qq<|ai mixed<|mv rfl<|mv rfl<|bE (V h) fun gC lS h=>ix rfl rfl lS<|lr rfl rfl<|mv rfl<|mv rfl<|bE h fun fQ lJ h=>ix rfl rfl lJ<|lr rfl rfl<|lE h fun ny xU h=>ne _ rfl rfl (ZA (p:=gC) (q:=fQ) xU) ?_
 refine RT.done ⟨by kernel_rfl,?_⟩
 refine ae.n ?_
 cases ny
 refine cF<|aC<|aD.n<|ae.n<|af<|mv rfl<|lE (F h) fun fu kM h=>sb _ rfl rfl kM<|ag rfl<|RT.done ?_
 obtain rfl:=O h
 exact ae.n ⟨fu,xl _ rfl,wR []⟩
 refine cT<|qq<|qq<|ai mixed<|mv rfl<|mv rfl<|bE (V h) fun oA tK h=>ix rfl rfl tK<|lr rfl rfl<|mv rfl<|mv rfl<|bE h fun wH FD h=>ix rfl rfl FD<|lr rfl rfl<|lE h fun nA tO h=>ls _ rfl rfl (ltN (p:=oA) (q:=wH) tO) ?_
 refine RT.done ⟨by kernel_rfl,?_⟩
 refine ae.n ?_
 cases nA
 refine fs<|sr<|ag rfl<|dn<|aj<|aD.r<|ae.r ?_
 obtain rfl:=O (F h)
 have JX:=sx _ rfl
 subst JX
 refine ae.r<|aD.r<|ae.r<|ae.r ?_
 obtain rfl:=O jh
 exact R1 rfl
 refine cT<|sr<|ag rfl<|dn<|aj<|ae.r<|aD.r<|ae.r ?_
 obtain rfl:=O (V h)
 have JX:=sx _ rfl
 subst JX
 refine ae.r<|aD.r<|ae.r<|ae.r ?_
 obtain rfl:=O jh
 exact R1 rfl
 subst xk
 try dsimp only
 refine ae.n<|sr<|ag rfl<|dn<|aj ?_
 obtain rfl:=O jh
 exact R1 rfl
 refine cT<|qq<|sr<|mv rfl<|lE (V h) fun bV dH h=>ln rfl dH<|mv rfl<|lE h fun cG fT h=>ln rfl fT<|lE h fun cE fS h=>ls _ rfl rfl fS<|dn ?_
 cases cE
 refine fs<|sr<|ag rfl<|dn<|aj<|ae.r ?_
 obtain rfl:=O (F h)
 exact R1 rfl
 refine cT<|sr<|ag rfl<|dn<|aj<|ae.r<|ae.r ?_
 obtain rfl:=O (V h)
 exact R1 rfl
theorem qu{x0:List Nat}{x1:List Nat}{r:List Nat}(h:dN x0 x1=some r):Pure Tryz.prog 147 [slc 1 (List.map ak x0),slc 1 (List.map ak x1)] (slc 1 (List.map ak r)):=by
 refine ah Tryz.func147 rfl (Nat.le_of_ble_eq_true rfl) (fun b9 M vs hvs=>?_)
 unfold dN at h
 refine sr<|aI rfl (imp_nil (n:=1) (e:=ak))<|dn<|sr<|mv rfl<|lE h fun cn ep h=>ln rfl ep<|mv rfl<|lE h fun bV dH h=>ln rfl dH<|lE h fun fR jn h=>RT.max .none _ rfl rfl T (Ow (p:=cn) (q:=bV) jn)<|lE h fun cG fT h=>ad _ rfl rfl fT<|bE h fun cE fS h=>RT.Ln (e:=ak) .none rfl rfl T rfl T fS<|RT.alloc .none T rfl rfl<|RT.jc (cells:=[_]) .none rfl rfl rfl rfl T rfl<|dn<|sr<|RT.B4 .none (dO 0) rfl ⟨rfl,trivial⟩ T rfl rfl ?_
 refine RT.alloc .none T rfl rfl<|RT.mU (cells:=[_]) .none (s:=.fE _ _) rfl rfl rfl T rfl<|dn<|qq<|sr<|mv rfl<|mv rfl<|cl (uw x0 x1) ⟨rfl,rfl,trivial⟩<|dn<|aq<|bE h fun e7 Z8 Sw=>?_
 obtain⟨M9,Z9,ht7,hn7⟩:=rE Z8
 refine oG (ux x0 x1) (fun _ _ _ _ _=>trivial) rfl (fun k=>AS.bw 35 [(5,.ptr 5 0),(6,.ptr 6 0),(19,.sv (rC 169 [ref [slc 1 (List.map ak x0)],ref [slc 1 (List.map ak x1)]]))] [(6,⟨141,[.fE 157 [.box 16]]⟩),(16,⟨104,[.sv (.v (.int .u64 (((M9 k).1:Nat):Int)))]⟩),(5,⟨32,[.row 302]⟩)] [(302,TR 106 1 ak (M9 k).2)]) [6,16,5] rfl (fun _=>⟨rfl,rfl⟩) (wY rfl) (fun _=>rfl) (wZ rfl) (by(try dsimp only);rw[Z9];(try dsimp only);exact bK (fun i=>bif Nat.beq i 302 then 15 else i) rfl rfl rfl rfl rfl ⟨.ptr,.ptr,.sv (SV.aa _),trivial⟩ ⟨⟨_,rfl,⟨.fE,trivial⟩⟩,⟨_,rfl,⟨.sv (SV.aa _),trivial⟩⟩,⟨_,rfl,⟨.row rfl,trivial⟩⟩,trivial⟩ ⟨⟨_,rfl,bB.refl _⟩,trivial⟩ (fun i hi=>by rw[bf (show i≠302 by omega)];rfl)) (fun k hk D hD=>?_) ?_
 have h:=ht7 k hk
 obtain⟨sk,WI⟩:∃q,M9 k=q:=⟨_,rfl⟩
 rw[WI]at h⊢
 obtain⟨yn,jv⟩:=sk
 dsimp only[AS.Sc,wB]
 try dsimp only at h
 refine lE h fun p20 adQ h=>?_
 rw[adQ]
 refine lE h fun p21 adR h=>?_
 rw[adR]
 refine sr<|ag rfl<|dn<|af<|ag rfl<|RT.done ?_
 refine ae.n ⟨rfl,?_⟩
 dsimp only[AS.Fl]
 refine aq<|ai mixed<|RT.ju .none (s:=.row _) rfl rfl rfl T<|RT.ju .none (s:=.fE _ _) rfl rfl rfl T<|mv rfl<|mv rfl<|lE h fun gJ mY h=>ad _ rfl rfl (UK.add (a:=p20) (b:=p21) mY) ?_
 obtain⟨⟨fF,k9⟩,mR,h⟩:=bS h
 refine cB (bJ mR) 16 rfl ⟨rfl,trivial⟩<|bl (l:=[fF]) (e:=ak) (.one rfl (.nil)) rfl rfl rfl rfl rfl rfl<|bE h fun fQ lJ h=>aR (k:=[fF]) (e:=ak) rfl rfl rfl lJ<|RT.jc (cells:=[_]) .none rfl rfl rfl rfl T rfl ?_
 refine RT.done ⟨by kernel_rfl,?_⟩
 refine aD.n ?_
 replace h:=Option.some.inj h
 refine⟨trivial,rfl,rfl,?_⟩
 try dsimp only
 rw[←h]
 try dsimp only
 exact bK (fun i=>bif Nat.beq i 302 then 29 else i) rfl rfl rfl rfl rfl ⟨.ptr,.ptr,.sv (SV.aa _),trivial⟩ ⟨⟨_,rfl,⟨.fE,trivial⟩⟩,⟨_,rfl,⟨.sv (SV.aa _),trivial⟩⟩,⟨_,rfl,⟨.row rfl,trivial⟩⟩,trivial⟩ ⟨⟨_,rfl,bB.refl _⟩,trivial⟩ (fun i hi=>by rw[bf (show i≠302 by omega)];rfl)
 rw[hn7]
 obtain⟨yn,jv⟩:=e7
 try dsimp only
 refine aD.n<|ae.n<|qq<|ai mixed<|RT.ju .none (s:=.row _) rfl rfl rfl T<|RT.ju .none (s:=.fE _ _) rfl rfl rfl T ?_
 obtain⟨⟨fI,k11⟩,mZ,Sw⟩:=bS Sw
 refine cB (bJ mZ) 16 rfl ⟨rfl,trivial⟩<|bl (l:=[fI]) (e:=ak) (.one rfl (.nil)) rfl rfl rfl rfl rfl rfl<|bE Sw fun oA tK Sw=>RT.Oy (k:=[fI]) (e:=ak) .none rfl rfl rfl T rfl T tK<|ag rfl ?_
 refine RT.done ⟨by kernel_rfl,?_⟩
 refine ae.n<|aj ?_
 obtain rfl:=O Sw
 exact R1 rfl
theorem lT{x0:List Nat}{x1:List Nat}{r:List Nat}(h:cq x0 x1=some r):Pure Tryz.prog 148 [slc 1 (List.map ak x0),slc 1 (List.map ak x1)] (slc 1 (List.map ak r)):=by
 refine ah Tryz.func148 rfl (Nat.le_of_ble_eq_true rfl) (fun b9 M vs hvs=>?_)
 unfold cq at h
 refine sr<|aI rfl (imp_nil (n:=1) (e:=ak))<|dn<|sr<|mv rfl<|lE h fun cn ep h=>ln rfl ep<|bE h fun eE jS h=>RT.Ln (e:=ak) .none rfl rfl T rfl T jS<|RT.alloc .none T rfl rfl<|RT.jc (cells:=[_]) .none rfl rfl rfl rfl T rfl<|dn<|sr<|RT.B4 .none (dO 1) rfl ⟨rfl,trivial⟩ T rfl rfl<|RT.alloc .none T rfl rfl<|RT.mU (cells:=[_]) .none (s:=.fE _ _) rfl rfl rfl T rfl<|dn<|qq<|sr<|mv rfl ?_
 refine mv rfl<|cl (uw x0 x1) ⟨rfl,rfl,trivial⟩<|dn<|aq<|bE h fun e7 Z8 Sw=>?_
 obtain⟨M9,Z9,ht7,hn7⟩:=rE Z8
 refine oG (ux x0 x1) (fun _ _ _ _ _=>trivial) rfl (fun k=>AS.bw 28 [(5,.ptr 5 0),(6,.ptr 6 0),(15,.sv (rC 169 [ref [slc 1 (List.map ak x0)],ref [slc 1 (List.map ak x1)]]))] [(6,⟨141,[.fE 157 [.box 12]]⟩),(12,⟨104,[.sv (.v (.int .u64 (((M9 k).1:Nat):Int)))]⟩),(5,⟨32,[.row 302]⟩)] [(302,TR 106 1 ak (M9 k).2)]) [6,12,5] rfl (fun _=>⟨rfl,rfl⟩) (wY rfl) (fun _=>rfl) (wZ rfl) (by(try dsimp only);rw[Z9];(try dsimp only);exact bK (fun i=>bif Nat.beq i 302 then 11 else i) rfl rfl rfl rfl rfl ⟨.ptr,.ptr,.sv (SV.aa _),trivial⟩ ⟨⟨_,rfl,⟨.fE,trivial⟩⟩,⟨_,rfl,⟨.sv (SV.aa _),trivial⟩⟩,⟨_,rfl,⟨.row rfl,trivial⟩⟩,trivial⟩ ⟨⟨_,rfl,bB.refl _⟩,trivial⟩ (fun i hi=>by rw[bf (show i≠302 by omega)];rfl)) (fun k hk D hD=>?_) ?_
 have h:=ht7 k hk
 obtain⟨sk,WI⟩:∃q,M9 k=q:=⟨_,rfl⟩
 rw[WI]at h⊢
 obtain⟨Bw,jv⟩:=sk
 dsimp only[AS.Sc,wB]
 try dsimp only at h
 refine lE h fun p16 adS h=>?_
 rw[adS]
 refine lE h fun p17 adT h=>?_
 rw[adT]
 refine sr<|ag rfl<|dn<|af<|ag rfl<|RT.done ?_
 refine ae.n ⟨rfl,?_⟩
 dsimp only[AS.Fl]
 refine aq<|ai mixed<|RT.ju .none (s:=.row _) rfl rfl rfl T<|RT.ju .none (s:=.fE _ _) rfl rfl rfl T<|mv rfl<|mv rfl<|lE h fun fu kM h=>sb _ rfl rfl (UK.sub (a:=4294967295) (b:=p17) kM)<|lE h fun fy kN h=>ad _ rfl rfl (UK.add (a:=p16) (b:=fu) kN) ?_
 obtain⟨⟨eI,k9⟩,mI,h⟩:=bS h
 refine cB (bJ mI) 12 rfl ⟨rfl,trivial⟩<|bl (l:=[eI]) (e:=ak) (.one rfl (.nil)) rfl rfl rfl rfl rfl rfl<|bE h fun gJ mY h=>aR (k:=[eI]) (e:=ak) rfl rfl rfl mY<|RT.jc (cells:=[_]) .none rfl rfl rfl rfl T rfl ?_
 refine RT.done ⟨by kernel_rfl,?_⟩
 refine aD.n ?_
 replace h:=Option.some.inj h
 refine⟨trivial,rfl,rfl,?_⟩
 try dsimp only
 rw[←h]
 try dsimp only
 exact bK (fun i=>bif Nat.beq i 302 then 26 else i) rfl rfl rfl rfl rfl ⟨.ptr,.ptr,.sv (SV.aa _),trivial⟩ ⟨⟨_,rfl,⟨.fE,trivial⟩⟩,⟨_,rfl,⟨.sv (SV.aa _),trivial⟩⟩,⟨_,rfl,⟨.row rfl,trivial⟩⟩,trivial⟩ ⟨⟨_,rfl,bB.refl _⟩,trivial⟩ (fun i hi=>by rw[bf (show i≠302 by omega)];rfl)
 rw[hn7]
 obtain⟨Bw,jv⟩:=e7
 try dsimp only
 refine aD.n<|ae.n<|sr<|RT.ju .none (s:=.row _) rfl rfl rfl T<|an (s:=.row _) rfl<|dn<|aK (bh (i:=302) (E1:=106) (n:=1) (e:=ak) (l:=jv) rfl)<|aj ?_
 obtain rfl:=O Sw
 exact R1 rfl
theorem yA{x0:List Nat}{x1:List Nat}{r:List Nat}(h:fz x0 x1=some r):Pure Tryz.prog 117 [slc 1 (List.map ak x0),slc 1 (List.map ak x1)] (slc 1 (List.map ak r)):=by
 refine ah Tryz.func117 rfl (Nat.le_of_ble_eq_true rfl) (fun b9 M vs hvs=>?_)
 unfold fz at h
 refine sr<|aI rfl (imp_nil (n:=1) (e:=ak))<|dn<|sr<|mv rfl<|lE h fun bV dH h=>ln rfl dH<|mv rfl<|lE h fun cG fT h=>ln rfl fT<|lE h fun cE fS h=>ad _ rfl rfl fS<|bE h fun dz gZ h=>RT.rD (n:=1) (e:=ak) .none rfl rfl T rfl T (by rfl) (by decide) (by exact⟨SV.aa _,trivial⟩) gZ<|an (s:=.row _) rfl<|dn<|qq<|sr<|mv rfl<|lE h fun c6 iS h=>ln rfl iS ?_
 refine mv rfl<|dn<|bE h fun e28 WJ zV=>?_
 refine aL (fun(xd:(List Nat))=>AS.bw 63 [(5,.row 16)] [] [(16,TR 106 1 ak xd)]) (fun xd=>xd=e28) ?_ (fun xd WK=>?_)
 refine aq ?_
 refine aM WJ (fun M3=>AS.bw 63 [(1,.sv (slc 1 (List.map ak x1))),(5,.row 16),(17,.sv (slc 1 (List.map ak x0))),(18,.sv (.v (.int .i64 c6))),(19,.sv (.v (.int .i64 M3.1)))] [] [(16,TR 106 1 ak M3.2)]) (wR []) (fun M3 y28 G28 h WL WM=>?_)
 obtain⟨o6,Fy⟩:=M3
 try dsimp only
 refine sr<|lE h fun ik nF h=>ls _ rfl rfl nF<|dn<|qq ?_
 cases ik
 refine cF<|aS<|ae.x<|ae.x<|aD.x<|ae.n ?_
 obtain rfl:=O (F h)
 exact⟨Fy,WM _ rfl,wR []⟩
 refine cT<|aC<|ae.n<|qq<|aq<|sr<|mv rfl<|bE (V h) fun fu kM h=>ix rfl rfl kM<|lr rfl rfl<|ag rfl<|ag rfl<|dn<|sr<|RT.B4 .none (dO 0) rfl ⟨rfl,trivial⟩ T rfl rfl<|an (s:=.fE _ _) rfl<|dn<|qq<|sr<|mv rfl<|lE h fun gJ mY h=>ln rfl mY<|mv rfl<|dn<|bE h fun e38 adV zW=>?_
 refine aL (fun(Na:Nat×(List Nat))=>AS.bw 63 [(1,.sv (slc 1 (List.map ak x1))),(5,.row 16),(6,.sv (.v (.int .i64 o6))),(8,.fE 157 [.box 24]),(17,.sv (slc 1 (List.map ak x0))),(18,.sv (.v (.int .i64 c6))),(19,.sv (.v (.int .i64 o6)))] [(24,⟨104,[.sv (.v (.int .u64 ((Na.1:Nat):Int)))]⟩)] [(16,TR 106 1 ak Na.2)]) (fun Na=>Na=e38) ?_ (fun Na adW=>?_)
 refine aq ?_
 refine aM adV (fun Wq=>AS.bw 63 [(1,.sv (slc 1 (List.map ak x1))),(5,.row 16),(6,.sv (.v (.int .i64 o6))),(7,.sv (.v (.int .u32 ((fu:Nat):Int)))),(8,.fE 157 [.box 24]),(17,.sv (slc 1 (List.map ak x0))),(18,.sv (.v (.int .i64 c6))),(19,.sv (.v (.int .i64 o6))),(25,.sv (slc 1 (List.map ak x1))),(26,.sv (.v (.int .i64 gJ))),(27,.sv (.v (.int .i64 Wq.1)))] [(24,⟨104,[.sv (.v (.int .u64 ((Wq.2.1:Nat):Int)))]⟩)] [(16,TR 106 1 ak Wq.2.2)]) (wR []) (fun Wq y38 G38 h adX adY=>?_)
 obtain⟨zP,yo,w9⟩:=Wq
 try dsimp only
 refine sr<|lE h fun jr o9 h=>ls _ rfl rfl o9<|dn<|qq ?_
 cases jr
 refine cF<|aS<|ae.x<|ae.x<|aD.x<|ae.n ?_
 obtain rfl:=O (F h)
 exact⟨(yo,w9),adY _ rfl,wR []⟩
 refine cT<|aC<|ae.n<|qq<|aq<|sr<|mv rfl<|bE (V h) fun uf zX h=>ix rfl rfl zX<|lr rfl rfl<|ag rfl<|ag rfl<|dn<|af<|mo (s:=.row _) rfl<|mv rfl<|mv rfl<|lE h fun oB xm h=>ad _ rfl rfl xm<|mo (s:=.fE _ _) rfl<|mo (s:=.row _) rfl<|mv rfl<|mv rfl<|lE h fun nA tO h=>ad _ rfl rfl tO<|bE h fun wI FE h=>iR rfl rfl rfl FE ?_
 refine bE h fun rV D0 h=>lR rfl rfl D0 rfl<|lE h fun zQ Jt h=>cv _ rfl (UK.nat Jt)<|mv rfl<|lE h fun AD JY h=>cv _ rfl (UK.nat JY)<|mv rfl<|lE h fun tg zY h=>cv _ rfl (UK.nat zY)<|lE h fun ug h48 h=>RT.mul .none _ rfl rfl T (UK.mul (a:=AD) (b:=tg) h48)<|lE h fun ZO WN h=>ad _ rfl rfl (UK.add (a:=zQ) (b:=ug) WN) ?_
 obtain⟨⟨xb,k41⟩,HM,h⟩:=bS h
 refine cB (bJ HM) 24 rfl ⟨rfl,trivial⟩<|bE h fun Ub WO h=>iR rfl rfl rfl WO<|bE h fun l42 aac h=>sR xb rfl rfl rfl rfl aac<|RT.done<|aD.n<|ae.n<|af<|lE h fun xS Be h=>ad _ rfl rfl Be<|mv rfl<|RT.done ?_
 obtain rfl:=O h
 exact ae.n ⟨(xS,k41,l42),adX _ rfl,wR []⟩
 subst adW
 obtain⟨HB,JM⟩:=Na
 try dsimp only
 refine ae.n<|af<|mo (s:=.row _) rfl<|mv rfl<|mv rfl<|lE zW fun Uc WQ zW=>ln rfl WQ<|lE zW fun NO WR zW=>ad _ rfl rfl WR<|mo (s:=.fE _ _) rfl ?_
 obtain⟨⟨Lu,k45⟩,Sx,zW⟩:=bS zW
 refine cB (bJ Sx) 24 rfl ⟨rfl,trivial⟩<|bE zW fun DV NQ zW=>iR rfl rfl rfl NQ<|bE zW fun l46 aad zW=>sR Lu rfl rfl rfl rfl aad<|RT.done<|aD.n<|ae.n<|af<|lE zW fun M4 Sy zW=>ad _ rfl rfl Sy<|mv rfl<|RT.done ?_
 obtain rfl:=O zW
 exact ae.n ⟨(M4,l46),WL _ rfl,wR []⟩
 subst WK
 try dsimp only
 refine ae.n<|sr<|mo (s:=.row _) rfl<|an (s:=.row _) rfl<|dn<|aK (bh (i:=16) (E1:=106) (n:=1) (e:=ak) (l:=xd) rfl)<|aj ?_
 obtain rfl:=O zV
 exact R1 rfl
end Go.Proofs.YtfoldppidpmchaaGreat
