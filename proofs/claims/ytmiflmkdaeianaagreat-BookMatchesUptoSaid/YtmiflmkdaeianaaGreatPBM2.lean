/- A part of the proof: the framework, the plain functions, the followed functions, the plain laws. -/
import Derived.Test.YtmiflmkdaeianaaGreatPBM1
set_option linter.unusedVariables false
set_option linter.unusedSimpArgs false
namespace Go.Fw
open Go.RowKit
theorem cn.of_eq{l l':List SV}(h:l=l'):cn l l':=by subst h;exact cn.refl _
theorem MU{a:Nat}:IntKind.u64.wrap (a:Int)=((a%18446744073709551616:Nat):Int):=by
 simp[IntKind.wrap,IntKind.signed,IntKind.bits]
section steps
variable {P:Program}{C:Ctx}{ops:Array Oper}{S:AS}{nd:Bool}{K:List Ac→AS→Prop}{rest:List Oper}{acc:List Ac}
variable {gd:Option (Nat×Bool)}{rg:List Nat}{d:Nat}{ty:TypeId}{pos:String}{aft:Array Edge}{x y z:Operand}{T U E0 E1:TypeId}
theorem RT.O0{R:AS→Prop}(hg:Gd ops S gd rg){n:Nat}[tS:dD P T E0 n]{s:SV}{rows:List (List SV)}[hs:MH s n rows]{n' c':Nat}(hx:S.ev x=.sv s)(hd:d<S.n)
  (next:∀b:Bool,(b=true→rows=[])→RunT P C ops true (fun _ S=>R S) rest [] (S.set d (.sv (.v (.bool b))))):RunT P C ops true (fun _ S=>R S) (⟨some d,.binOp .eql T x (.const (.slice none n' c')) U,ty,pos,aft,gd⟩::rest) acc S:=by
 refine .inr ⟨rfl,fun S'=>∃b:Bool,(b=true→rows=[])∧S'=S.set d (.sv (.v (.bool b))),?_,?_⟩
 ·rintro i a w L Q ho ⟨E,h⟩ hL
  refine bG (C:=C) ho (hg.wanted h (fun _ _=>rfl) rfl) ?_
  have h1:=h.ev x
  rw[hx]at h1
  obtain⟨ad,n0,c0,hv,acQ⟩:∃ad n0 c0,a.eval x=.slice ad n0 c0∧(ad.isNone=true→rows=[]):=by
   rcases hs.h _ _ h1 with⟨_,e,e2⟩|⟨b,o,c,e,_⟩
   ·exact⟨_,_,_,e,fun _=>e2⟩
   ·exact⟨_,_,_,e,fun h=>by cases h⟩
  have hrun:(execOp a.eval ⟨some d,.binOp .eql T x (.const (.slice none n' c')) U,ty,pos,aft,gd⟩).run P w=.ok (.value (.bool ad.isNone)) w:=by
   have e1:=Lib.run_eql_slice_nil (P:=P) w T E0 ad n0 c0 n' c' tS.u
   have e2:(eqGuard .eql T x (.const (.slice none n' c')) (.slice ad n0 c0) (.slice none n' c')).run P w=.ok () w:=by simp[eqGuard]
   have e0:a.eval (.const (.slice none n' c'))=.slice none n' c':=rfl
   simp only[execOp,hv,e0]
   simp only[Sem.run_bind,e2,e1,Result.andThen_ok,Sem.run_pure]
  exact bH (C:=C) (by intro c h;cases h) hrun (hL _ _ _ ⟨_,acQ,rfl⟩ ⟨E,h.put (x:=.sv (.v (.bool ad.isNone))) rfl hd dN⟩)
 ·rintro S' ⟨b,hb,rfl⟩
  exact next b hb
theorem RT.field(hg:Gd ops S gd rg){f off:Nat}[hf:eP P T f off U][tV:cK P U]{cs:List SV}{s:SV}(hx:S.ev x=.sv (.agg cs))(hs:cs[off]? =some s)(hd:d<S.n)
  (next:RunT P C ops nd K rest (⟨rg++ak x,[],[],⟨some (d,.sv s),[],[]⟩⟩::acc) (S.set d (.sv s))):RunT P C ops nd K (⟨some d,.field T x f,ty,pos,aft,gd⟩::rest) acc S:=
 RT.value hg (ak x) [] [] (.sv s) hd (by intro c h;cases h) (fun S' ht _ _ E a w h=>by
  have h1:=h.ev x
  rw[aA (fun _ h=>h) ht,hx]at h1
  obtain⟨vs,hv,hall⟩:=h1
  obtain⟨u,hu,hs⟩:=hall.get hs
  refine⟨u,?_,hs,dN⟩
  have hF:=hf.h
  cases hT:P.underlying T with
  |none=>rw[hT]at hF;cases hF
  |some ut=>
   rw[hT]at hF
   cases ut with
   |struct fs=>
    simp only at hF
    cases hFf:fs[f]? with
    |none=>rw[hFf]at hF;cases hF
    |some F=>
     rw[hFf]at hF
     simp only[Option.map_some,Option.some.injEq,Prod.mk.injEq]at hF
     obtain⟨q1,q2⟩:=hF
     simp[execOp,Instr.field,underlying,hT,hFf,hv,asAgg,part,q1,q2,tV.isAgg,hu]
   |_=>cases hF) next
end steps
theorem eY{S:AS}(s k:Nat)(E0:TypeId)(sz:Nat)(hs:S.t s=.sv (.v (.slice none 0 0)))(hk:S.r k=.un)(UZ:k<1000):oK S ((AS.bg [(k,.live ⟨E0,sz,0,[]⟩)] S).set s (.row k)):=by
 rintro C a w ⟨E,h⟩
 have h1:=h.newRow hk UZ [] none (.inl ⟨rfl,rfl⟩) (R':=⟨E0,sz,0,[]⟩) (World.ownsRow_nil w 0 E0 sz) (vs':=[]) trivial (.inl rfl) (pM w none)
 refine⟨_,{h1 with wf:=?_,tm:=fun t=>?_}⟩
 ·refine⟨fun t j hj=>?_,fun t j hj=>?_,h1.wf.bb,h1.wf.br⟩
  ·by_cases e:t=s
   ·subst e;rw[AS.gS]at hj;exact hj.elim
   ·rw[AS.eW _ _ _ _ e]at hj;exact h1.wf.tb t j hj
  ·by_cases e:t=s
   ·subst e;rw[AS.gS]at hj;cases hj
    show(AS.oI S k _).r k≠_
    rw[AS.fR];simp
   ·rw[AS.eW _ _ _ _ e]at hj;exact h1.wf.tr t j hj
 ·by_cases e:t=s
  ·subst e
   rw[AS.gS]
   have:=h.tm t
   rw[hs]at this
   show a.tmps.getD t undef=if k=k then _ else _
   rw[if_pos rfl];exact this
  ·rw[AS.eW _ _ _ _ e];exact h1.tm t
theorem Rd{S:AS}(s:Nat)(X:SV)(hx:∀E v,(S.t s).holds E v→X.h E.M v):oK S (S.set s (.sv X)):=by
 rintro C a w ⟨E,h⟩
 refine⟨E,{h with wf:=?_,tm:=fun t=>?_}⟩
 ·refine⟨fun t j hj=>?_,fun t j hj=>?_,h.wf.bb,h.wf.br⟩
  ·by_cases e:t=s
   ·subst e;rw[AS.gS]at hj;exact hj.elim
   ·rw[AS.eW _ _ _ _ e]at hj;exact h.wf.tb t j hj
  ·by_cases e:t=s
   ·subst e;rw[AS.gS]at hj;exact hj.elim
   ·rw[AS.eW _ _ _ _ e]at hj;exact h.wf.tr t j hj
 ·by_cases e:t=s
  ·subst e;rw[AS.gS];exact hx E _ (h.tm t)
  ·rw[AS.eW _ _ _ _ e];exact h.tm t
theorem Re{g:FuncId}{caps:List SV}{E:Env}{v:Value}(h:(AV.eV g (caps.map pI.val)).holds E v):(yK g caps).h E.M v:=by
 obtain⟨vs,rfl,h⟩:=h
 refine⟨vs,rfl,?_⟩
 have key:∀(l:List SV) (vs:List Value),xI E (l.map pI.val) vs→SV.dw E.M l vs:=by
  intro l
  induction l with
  |nil=>intro vs h;cases vs with|nil=>trivial|cons _ _=>exact h.elim
  |cons c l ih=>
   intro vs h
   cases vs with
   |nil=>exact h.elim
   |cons x xs=>exact⟨h.1,ih xs h.2⟩
 exact key caps vs h
def AV.rt(pb:List Nat):AV→Bool
 |.sv _=>true
 |.ptr i _=>pb.any (Nat.beq i)
 |.BS i _ _ _=>pb.any (Nat.beq i)
 |.eV _ js=>js.all fun c=>match c with|.box i=>pb.any (Nat.beq i)|.val _=>true
 |_=>false
theorem U5{pb:List Nat}{x:AV}(h:x.rt pb=true):(∀j,x.mb j→j∈pb)∧∀j,¬x.mr j:=by
 cases x<;>first|cases h|skip
 ·exact⟨fun j e=>e.elim,fun j e=>e⟩
 ·exact⟨fun j e=>by cases e;exact uS.1 h,fun j e=>e⟩
 ·exact⟨fun j e=>by cases e;exact uS.1 h,fun j e=>e⟩
 ·refine⟨fun j e=>?_,fun j e=>e⟩
  exact uS.1 (List.all_eq_true.1 h _ e)
theorem B8{n:Nat}{ts:List (Nat×AV)}{bs:List (Nat×lP)}{rs:List (Nat×Row)}{pb:List Nat}(h:(ts.all fun p=>p.2.rt pb)=true)(s:Nat):(∀j,((AS.bL n ts bs rs).t s).mb j→j∈pb)∧∀j,¬((AS.bL n ts bs rs).t s).mr j:=by
 show(∀j,(Dz ts s).mb j→j∈pb)∧∀j,¬(Dz ts s).mr j
 rcases r9 (ts:=ts) (s:=s)with e|⟨p,hp,_,e⟩
 ·rw[e];exact⟨fun j e=>e.elim,fun j e=>e⟩
 ·rw[e];exact U5 (List.all_eq_true.1 h p hp)
theorem B9{ps:List Nat}{n:Nat}(h:(ps.all fun p=>Nat.ble (p+1) n)=true):∀p∈ps,p<n:=fun p hp=>Nat.le_of_ble_eq_true (List.all_eq_true.1 h p hp)
end Go.Fw
namespace Go.Fw
open Go.RowKit
inductive Src (S:AS) (E0:TypeId) (n:Nat):Operand→List (Nat×jK)→List Nat→Nat→List SV→Prop
 |nil {x:Operand} (h:S.ev x=.sv (.v (.slice none 0 0))):Src S E0 n x [] [] 0 []
 |row {x:Operand} {i m:Nat} {cs:List SV} (h:S.ev x=.row i) (hR:S.r i=.live ⟨E0,n,m,cs⟩):Src S E0 n x [(i,.dead)] [i] m cs
theorem JO{i:Nat}{X:SV}{x:AV}(h:¬x.mr i):x.l9 i X=x:=by
 cases x with
 |row k=>simp only[AV.l9];rw[bD (fun e=>h e.symm)];rfl
 |gw k o=>simp only[AV.l9];rw[bD (fun e=>h e.symm)];rfl
 |lS k o l=>simp only[AV.l9];rw[bD (fun e=>h e.symm)];rfl
 |cmp t js=>
  simp only[AV.l9]
  have:js.any (Fc.w7 i)=false:=by
   cases e:js.any (Fc.w7 i)with
   |false=>rfl
   |true=>
    obtain⟨c,hc,hi⟩:=List.any_eq_true.1 e
    cases c with
    |row j=>have hi:Nat.beq j i=true:=hi;obtain rfl:=Nat.eq_of_beq_eq_true hi;exact absurd hc h
    |_=>cases hi
  rw[this];rfl
 |_=>rfl
section steps
variable {P:Program}{C:Ctx}{ops:Array Oper}{S:AS}{nd:Bool}{K:List Ac→AS→Prop}{rest:List Oper}{acc:List Ac}
variable {gd:Option (Nat×Bool)}{rg:List Nat}{d:Nat}{ty:TypeId}{pos:String}{aft:Array Edge}{x y z:Operand}{T U E0:TypeId}
theorem Src.val{E:Env}{a:Act}{w:World}{S':AS}{n m:Nat}{old:List (Nat×jK)}{rr:List Nat}{cs:List SV}(h:au C S' E a w)(hx:Src S E0 n x old rr m cs)(ht:∀s∈ak x,S'.t s=S.t s)(hr:∀i∈rr,S'.r i=S.r i):
  (∃vs,w.ownsRow 0 E0 n (a.eval x) m vs∧SV.dw E.M cs vs)∧((old=[]∧(a.eval x).ownBlock=none)∨∃i R,old=[(i,.dead)]∧S'.r i=.live R∧(a.eval x).ownBlock=(E.ν i).ownBlock):=by
 cases hx with
 |nil hx=>
  have h1:a.eval x=.slice none 0 0:=by have h1:=h.ev x;rw[aA (fun _ h=>h) ht,hx]at h1;exact h1
  rw[h1]
  exact⟨⟨[],World.ownsRow_nil _ _ _ _,trivial⟩,.inl ⟨rfl,rfl⟩⟩
 | @row i _ _ hx hR=>
  have h1:a.eval x=E.ν i:=by have h1:=h.ev x;rw[aA (fun _ h=>h) ht,hx]at h1;exact h1
  have nJ:=(hr i (by simp)).trans hR
  rw[h1]
  obtain⟨⟨vs,h2,h3⟩,_⟩:=h.rx i _ nJ
  exact⟨⟨vs,h2,h3⟩,.inr ⟨i,_,rfl,nJ,rfl⟩⟩
theorem RT.GM(hg:Gd ops S gd rg){n by_:Nat}{zv:Value}[tS:dD P T E0 n][tE:aK P E0 n by_ zv]{old:List (Nat×jK)}{rr:List Nat}{m:Nat}{cs:List SV}{s:SV}{rows:List (List SV)}[hs:MH s n rows]
  (hx:Src S E0 n x old rr m cs) (hy:S.ev y=.sv s) (hd:d<S.n) (v5:S.r d=.un) (uB:d<1000) (hroom:(m+rows.length)*by_≤140737488355328) (qV:m+rows.length≤140737488355328)
  (X:SV) {rows':List (List SV)} (hX:∀M v,(slc n rows').h M v→(∀g,v.ownBlock=some g→(C.w0.heap.size≤g∨C.qO g)∧∃o,M g o=some (.agg #[]))→X.h M v) (kY:Rows n rows' (cs++rows.flatten)) (hlen:rows'.length=m+rows.length) (hone:∀M vs,SV.dw M (cs++rows.flatten) vs→∀v∈vs,v.oneCell'=true)
  (next:RunT P C ops nd K rest (⟨rg++(ak x++ak y),[],d::rr,⟨some (d,.sv X),[],old++[(d,.dead)]⟩⟩::acc) ((AS.bg (old++[(d,.dead)]) S).set d (.sv X))):RunT P C ops nd K (⟨some d,.call ⟨.builtin .append,#[x,y],#[T,T]⟩,ty,pos,aft,gd⟩::rest) acc S:=by
 refine .inl ⟨_,[],d::rr,_,?_,next⟩
 rintro S' hn ht _ hr i a w L Q ho ⟨E,h⟩ hL
 refine bG (C:=C) ho (hg.wanted h (fun s hs=>ht s (List.mem_append_left _ hs)) rfl) ?_
 obtain⟨⟨vs,hown,hvs⟩,hold⟩:=hx.val h (fun s hs=>ht s (List.mem_append_right _ (List.mem_append_left _ hs))) (fun i hi=>hr i (List.mem_cons_of_mem _ hi))
 have h2:=h.ev y
 rw[aA (fun _ h=>List.mem_append_right _ (List.mem_append_right _ h)) ht,hy]at h2
 obtain⟨info,hi,hsz,hby,hz⟩:=aK.info (P:=P) (E:=E0) (n:=n) (by_:=by_) (z:=zv)
 have Il:S'.r d=.un:=by rw[hr d (by simp)];exact v5
 have run:∃v' w' vs',(Builtin.append_ #[T,T] ty #[a.eval x,a.eval y]).run P w=.ok v' w'∧w'.ownsRow 0 E0 n v' (m+rows.length) vs'∧SV.dw E.M (cs++rows.flatten) vs'∧w.grownBy w' (a.eval x).ownBlock∧(v'.ownBlock=(a.eval x).ownBlock∨v'.ownBlock=some w.heap.size∨v'.ownBlock=none):=by
  rcases hs.h _ _ h2 with⟨a0,e,e2⟩|⟨b,o,c,e,hc,Fb,hrow⟩
  ·rw[e,e2]
   cases a0 with
   |none=>exact⟨_,_,vs,run_append_owned_none w 0 T ty E0 info n tS.u hi _ m vs hown,by simpa using hown,by simpa using hvs,⟨rfl,rfl,rfl,Nat.le_refl _,fun _ _ _=>rfl⟩,.inl rfl⟩
   |some a0=>
    rw[e2,List.length_nil]at hroom qV
    obtain⟨v',w',q1,q2,q3,_,q4⟩:=run_append_own_at (P:=P) w 0 T ty E0 info zv n by_ tS.u hi hz hsz hby tE.z tE.p _ m vs hown a0 0 0 [] (by simp) (by simp) (by simp) (by unfold maxLen;omega) hroom (Nat.zero_le _)
    exact⟨v',w',vs,q1,by simpa using q2,by simpa using hvs,q3,q4.imp id .inl⟩
  ·obtain⟨us,g1,g2,g3,g4⟩:=yH rows o hrow
   rw[e]
   obtain⟨v',w',q1,q2,q3,_,q4⟩:=run_append_own_at (P:=P) w 0 T ty E0 info zv n by_ tS.u hi hz hsz hby tE.z tE.p _ m vs hown ⟨b,o,none⟩ rows.length c us g2 (fun j u hj=>by rw[eJ];exact(h.bV _ _ _ (g4 j u hj)).cell (g3 u (List.mem_of_getElem? hj))) g3 (by unfold maxLen;omega) hroom (Nat.zero_le _)
   exact⟨v',w',vs++us,q1,q2,SV.dw.append hvs g1,q3,q4.imp id .inl⟩
 obtain⟨v',w',vs',q1,q2,q3,q4,q5⟩:=run
 have hr':(execOp a.eval ⟨some d,.call ⟨.builtin .append,#[x,y],#[T,T]⟩,ty,pos,aft,gd⟩).run P w=.ok (.value v') w':=by
  simp[execOp,resolve,invoke,builtin,q1]
 have GN:∀(l:List (Nat×jK)) (R:jK) (j:Nat),cJ (l++[(d,R)]) j=if j=d then some R else cJ l j:=by
  intro l R j
  induction l with
  |nil=>rfl
  |cons p l ih=>
   obtain⟨i,R'⟩:=p
   rw[List.cons_append,cJ,cJ,ih]
   by_cases e:j=d
   ·simp[e]
   ·simp[e]
 have h3:=(h.newRow Il uB old (a.eval x).ownBlock hold (R':=⟨E0,n,m+rows.length,cs++rows.flatten⟩) q2 q3 q5 q4).put (d:=d) (x:=.row d) (v:=v') (by simp[AV.holds]) (by rw[(eo _ _).1];omega) ⟨fun _ e=>e.elim,fun j e=>by
  cases e
  rw[jn,GN];simp⟩
 have hRd:(AS.set (AS.bg (old++[(d,jK.live ⟨E0,n,m+rows.length,cs++rows.flatten⟩)]) S') d (.row d)).r d=.live ⟨E0,n,m+rows.length,cs++rows.flatten⟩:=by
  show(AS.bg _ S').r d=_
  rw[jn,GN];simp
 obtain⟨E',h4⟩:=h3.l9 hRd kY hlen (Nat.le_trans qV (by decide)) hone hX
 have e:(AS.set (AS.bg (old++[(d,jK.live ⟨E0,n,m+rows.length,cs++rows.flatten⟩)]) S') d (.row d)).l9 d X=S'.app ⟨some (d,.sv X),[],old++[(d,.dead)]⟩:=by
  have n1:=eo (old++[(d,jK.live ⟨E0,n,m+rows.length,cs++rows.flatten⟩)]) S'
  have n2:=eo (old++[(d,jK.dead)]) S'
  refine AS.ext' ?_ (fun t=>?_) (fun j=>?_) (fun j=>?_) ?_ ?_
  ·show(AS.bg _ S').n=(AS.bg _ S').n
   rw[n1.1,n2.1]
  ·rw[AS.Jk]
   show((AS.set (AS.bg _ S') d (.row d)).t t).l9 d X=_
   by_cases e:t=d
   ·subst e;rw[AS.gS];simp[AV.l9,wT]
   ·rw[AS.eW _ _ _ _ e,n1.2.1,JO (fun hm=>h.wf.tr t d hm Il)];simp[wT,e]
  ·rw[AS.Jl]
   show((AS.bg _ S').b j).map _=_
   rw[n1.2.2.1]
   simp only[qP,Option.getD_none]
   cases hb:S'.b j with
   |none=>rfl
   |some B=>
    rw[Option.map_some]
    have:B.cells.map (AV.l9 d X)=B.cells:=by
     conv=>rhs;rw[←List.map_id B.cells]
     exact List.map_congr_left fun c hc=>JO (fun hm=>h.wf.br j B hb c hc d hm Il)
    rw[this]
  ·rw[AS.Jm]
   show(bif Nat.beq j d then jK.dead else(AS.bg _ S').r j)=_
   rw[jn,GN,GN]
   by_cases e:j=d
   ·subst e;simp
   ·simp[bD e,e]
  ·rw[(AS.GB _ _).1];exact n1.2.2.2.1
  ·rw[(AS.GB _ _).2];exact n1.2.2.2.2
 exact bH (C:=C) (by intro c h;cases h) hr' (hL _ _ ⟨E',e▸h4⟩)
end steps
end Go.Fw
namespace Go.Fw
open Go.RowKit
def bM{J R:Type}(k:J→Option R)(f:(J→Option R)→Option R):Option R:=f k
theorem bind_some{α β:Type}{x:Option α}{f:α→Option β}{r:β}(h:Option.bind x f=some r):∃a,x=some a∧f a=some r:=by
 cases x with
 |none=>cases h
 |some a=>exact⟨a,rfl,h⟩
theorem sk{b w:Bool}(h:(b==w)=false):b≠w:=by cases b<;>cases w<;>simp_all
def bQ{α:Type}(l:List α)(i:Int):Option α:=if 0≤i then l[i.toNat]? else none
def qX{α:Type}(l:List α)(i:Int):Option Nat:=if 0≤i∧i<l.length then some i.toNat else none
def Az{α:Type}(l:List α)(lo hi:Int):Option (List α):=if 0≤lo∧lo≤hi∧hi≤l.length then some (cut l lo.toNat hi.toNat)else none
def uC{α:Type}(by_:Nat)(l k:List α):Option (List α):=if(l.length+k.length)*by_≤140737488355328∧l.length+k.length≤140737488355328 then some (l++k)else none
def Is{α:Type}(by_:Nat)(c:Int)(z:α):Option (List α):=if 0≤c∧by_*c≤281474976710656∧c≤140737488355328 then some (List.replicate c.toNat z)else none
def MV{α:Type}(by_:Nat)(c:Int):Option (List α):=if 0≤c∧by_*c≤281474976710656∧c≤140737488355328 then some []else none
def stM{α:Type}(l:List α)(n:Nat)(y:α):Option (List α):=if n<l.length then some (l.set n y)else none
def qF(a b:Int):Option Int:=if b=0 then none else some (IntKind.i64.wrap (a.tdiv b))
def AA(a b:Int):Option Int:=if b=0 then none else some (a.tmod b)
def Ca(M a b:Nat):Option Nat:=if b=0 then none else some (a/b%M)
def AB(a b:Nat):Option Nat:=if b=0 then none else some (a%b)
def mN(M a b:Nat):Nat:=(((a:Int)-b)%M).toNat
theorem oM{α:Type}{l:List α}{i:Int}{a:α}(h:bQ l i=some a):0≤i∧l[i.toNat]? =some a:=by
 unfold bQ at h;split at h
 ·exact⟨by assumption,h⟩
 ·cases h
theorem JP{α:Type}{l:List α}{i:Int}{k:Nat}(h:qX l i=some k):0≤i∧i<l.length∧i.toNat=k:=by
 unfold qX at h;split at h
 ·rename_i hh;exact⟨hh.1,hh.2,Option.some.inj h⟩
 ·cases h
theorem Ba{α:Type}{l l':List α}{a b:Int}(h:Az l a b=some l'):0≤a∧a≤b∧b≤l.length∧cut l a.toNat b.toNat=l':=by
 unfold Az at h;split at h
 ·rename_i hh;exact⟨hh.1,hh.2.1,hh.2.2,Option.some.inj h⟩
 ·cases h
theorem qY{α:Type}{by_:Nat}{l k l':List α}(h:uC by_ l k=some l'):(l.length+k.length)*by_≤140737488355328∧l.length+k.length≤140737488355328∧l++k=l':=by
 unfold uC at h;split at h
 ·rename_i hh;exact⟨hh.1,hh.2,Option.some.inj h⟩
 ·cases h
theorem JQ{α:Type}{by_:Nat}{c:Int}{z:α}{l':List α}(h:Is by_ c z=some l'):0≤c∧by_*c≤281474976710656∧c≤140737488355328∧List.replicate c.toNat z=l':=by
 unfold Is at h;split at h
 ·rename_i hh;exact⟨hh.1,hh.2.1,hh.2.2,Option.some.inj h⟩
 ·cases h
theorem JR{α:Type}{by_:Nat}{c:Int}{l':List α}(h:MV by_ c=some l'):0≤c∧by_*c≤281474976710656∧c≤140737488355328∧[]=l':=by
 unfold MV at h;split at h
 ·rename_i hh;exact⟨hh.1,hh.2.1,hh.2.2,Option.some.inj h⟩
 ·cases h
theorem DI{α:Type}{l l':List α}{n:Nat}{y:α}(h:stM l n y=some l'):n<l.length∧l.set n y=l':=by
 unfold stM at h;split at h
 ·rename_i hh;exact⟨hh,Option.some.inj h⟩
 ·cases h
def mg{S E:Type}(body:S→Option (S⊕E)):Nat→S→Option E
 |0,_=>none
 |n+1,s=>match body s with
  |some (.inl s')=>mg body n s'
  |some (.inr e)=>some e
  |none=>none
theorem tj{S E:Type}{body:S→Option (S⊕E)}:∀{n m:Nat} {s:S} {e:E},n≤m→mg body n s=some e→mg body m s=some e
 |0,_,_,_,_,h=>by cases h
 |n+1,0,_,_,hm,_=>by omega
 |n+1,m+1,s,e,hm,h=>by
  unfold mg at h⊢
  cases hb:body s with
  |none=>rw[hb]at h;cases h
  |some y=>
   rw[hb]at h
   cases y with
   |inl s'=>exact tj (by omega) h
   |inr e'=>exact h
open Classical in
noncomputable def bC{S E:Type}(body:S→Option (S⊕E))(s:S):Option E:=if h:∃n e,mg body n s=some e then some (Classical.choose (Classical.choose_spec h))else none
theorem tq{S E:Type}{body:S→Option (S⊕E)}{s:S}{e:E}(h:bC body s=some e):∃n,mg body n s=some e:=by
 unfold bC at h
 split at h
 ·rename_i hh
  exact⟨_,by rw[←Option.some.inj h];exact Classical.choose_spec (Classical.choose_spec hh)⟩
 ·cases h
theorem yX{S E:Type}{body:S→Option (S⊕E)}{s:S}{e:E}{n:Nat}(h:mg body n s=some e):bC body s=some e:=by
 have hh:∃n e,mg body n s=some e:=⟨n,e,h⟩
 unfold bC
 rw[dif_pos hh]
 have h2:=Classical.choose_spec (Classical.choose_spec hh)
 have h3:=tj (Nat.le_max_left n (Classical.choose hh)) h
 have h4:=tj (Nat.le_max_right n (Classical.choose hh)) h2
 rw[h3]at h4
 exact h4.symm
theorem tu{S E:Type}{body:S→Option (S⊕E)}{s:S}{e:E}(h:body s=some (.inr e)):bC body s=some e:=yX (n:=1) (by simp[mg,h])
theorem yY{S E:Type}{body:S→Option (S⊕E)}{s s':S}(h:body s=some (.inl s')):bC body s=bC body s':=by
 cases hl:bC body s' with
 |some e=>obtain⟨n,hn⟩:=tq hl;exact yX (n:=n+1) (by simp[mg,h,hn])
 |none=>
  cases hl2:bC body s with
  |none=>rfl
  |some e=>
   obtain⟨n,hn⟩:=tq hl2
   cases n with
   |zero=>cases hn
   |succ n=>simp only[mg,h]at hn;rw[yX hn]at hl;cases hl
theorem wh{S E:Type}{body:S→Option (S⊕E)}(I:S→Prop)(Post:E→Prop)(μ:S→Nat)
  (step:∀s,I s→(∃s',body s=some (.inl s')∧I s'∧μ s'<μ s)∨(∃e,body s=some (.inr e)∧Post e)) {s:S} (h:I s):∃e,bC body s=some e∧Post e:=by
 have key:∀(n:Nat) (s:S),μ s≤n→I s→∃e,bC body s=some e∧Post e:=by
  intro n
  induction n with
  |zero=>
   intro s hn hs
   rcases step s hs with⟨s',_,_,h3⟩|⟨e,h1,h2⟩
   ·omega
   ·exact⟨e,tu h1,h2⟩
  |succ n ih=>
   intro s hn hs
   rcases step s hs with⟨s',h1,h2,h3⟩|⟨e,h1,h2⟩
   ·obtain⟨e,q1,q2⟩:=ih s' (by omega) h2
    exact⟨e,by rw[yY h1];exact q1,q2⟩
   ·exact⟨e,tu h1,h2⟩
 exact key _ s (Nat.le_refl _) h
theorem JS{S E:Type}{body:S→Option (S⊕E)}(st:Nat→S)(n:Nat){e:E}(hs:∀k,k<n→body (st k)=some (.inl (st (k+1))))(he:body (st n)=some (.inr e)):bC body (st 0)=some e:=by
 have key:∀k,k≤n→bC body (st (n-k))=some e:=by
  intro k
  induction k with
  |zero=>intro _;exact tu he
  |succ k ih=>
   intro hk
   rw[yY (hs (n-(k+1)) (by omega)),show n-(k+1)+1=n-k by omega]
   exact ih (by omega)
 have:=key n (Nat.le_refl _)
 rwa[Nat.sub_self]at this
theorem oN{p q:Int}{c:Bool}(h:decide (p=q)=c):(p==q)=c:=by rw[←h];exact Bool.beq_eq_decide_eq p q
theorem It{p q:Int}{c:Bool}(h:decide (p≠q)=c):(p != q)=c:=by rw[←h,bne,Bool.beq_eq_decide_eq p q];simp
theorem MW{p q:Nat}{c:Bool}(h:decide (p=q)=c):((p:Int)==(q:Int))=c:=oN (by rw[←h];simp[Int.natCast_inj])
theorem Ue{p q:Nat}{c:Bool}(h:decide (p≠q)=c):((p:Int) != (q:Int))=c:=It (by rw[←h];simp[Int.natCast_inj])
theorem O1{p q:Nat}{c:Bool}(h:decide (p<q)=c):decide ((p:Int)<(q:Int))=c:=by rw[←h];simp
theorem leN{p q:Nat}{c:Bool}(h:decide (p≤q)=c):decide ((p:Int)≤(q:Int))=c:=by rw[←h];simp
theorem Rf{p q c:Int}(h:max p q=c):(if q>p then q else p)=c:=by rw[←h];split<;>omega
theorem Rg{p q c:Int}(h:min p q=c):(if q<p then q else p)=c:=by rw[←h];split<;>omega
class UK (k:IntKind) (b:outParam Nat) (M:outParam Nat):Prop where
 w:∀x:Int,k.wrap x=x%M
 hb:k.bits=b
 hm:2^b=M
instance:UK .u8 8 256:=⟨fun x=>by simp[IntKind.wrap,IntKind.signed,IntKind.bits],rfl,by decide⟩
instance:UK .u16 16 65536:=⟨fun x=>by simp[IntKind.wrap,IntKind.signed,IntKind.bits],rfl,by decide⟩
instance:UK .u32 32 4294967296:=⟨fun x=>by simp[IntKind.wrap,IntKind.signed,IntKind.bits],rfl,by decide⟩
instance:UK .u64 64 18446744073709551616:=⟨fun x=>by simp[IntKind.wrap,IntKind.signed,IntKind.bits],rfl,by decide⟩
section uk
variable {k:IntKind}{bi M a b c:Nat}[u:UK k bi M]
include u
theorem UK.pos:0<M:=by rw[←u.hm];exact Nat.two_pow_pos _
theorem UK.nat(h:a%M=c):k.wrap (a:Int)=(c:Int):=by rw[u.w,←h,Int.natCast_emod]
theorem UK.add(h:(a+b)%M=c):k.wrap ((a:Int)+(b:Int))=(c:Int):=by rw[←Int.natCast_add];exact UK.nat h
theorem UK.mul(h:(a*b)%M=c):k.wrap ((a:Int)*(b:Int))=(c:Int):=by rw[←Int.natCast_mul];exact UK.nat h
theorem UK.sub(h:mN M a b=c):k.wrap ((a:Int)-(b:Int))=(c:Int):=by
 rw[u.w,←h,mN,Int.toNat_of_nonneg];exact Int.emod_nonneg _ (by have:=UK.pos (k:=k) (bi:=bi) (M:=M);omega)
theorem UK.neg(h:mN M 0 a=c):k.wrap (0-(a:Int))=(c:Int):=UK.sub h
theorem UK.conv{p:Int}(h:(p%M).toNat=c):k.wrap p=(c:Int):=by
 rw[u.w,←h,Int.toNat_of_nonneg];exact Int.emod_nonneg _ (by have:=UK.pos (k:=k) (bi:=bi) (M:=M);omega)
theorem UK.quo(h:Ca M a b=some c):k.wrap ((a:Int).tdiv (b:Int))=(c:Int):=by
 unfold Ca at h;split at h
 ·cases h
 ·rw[Int.tdiv_eq_ediv_of_nonneg (by omega),←Int.natCast_ediv];exact UK.nat (Option.some.inj h)
theorem UK.U6(h:a/b%M=c):k.wrap ((a:Int).tdiv (b:Int))=(c:Int):=by
 rw[Int.tdiv_eq_ediv_of_nonneg (by omega),←Int.natCast_ediv];exact UK.nat h
theorem UK.shl{q:Int}{s:Nat}(hs:min q.toNat k.bits=s)(h:a*2^s%M=c):k.wrap ((a:Int)*2^(min q.toNat k.bits))=(c:Int):=by
 rw[hs,show(a:Int)*2^s=((a*2^s:Nat):Int) by rw[Int.natCast_mul,Int.natCast_pow];rfl];exact UK.nat h
theorem UK.ofInt(a:Nat):(BitVec.ofInt k.bits (a:Int)).toNat=a%M:=by
 rw[BitVec.ofInt_natCast,BitVec.toNat_ofNat,u.hb,u.hm]
theorem UK.and(h:(a &&& b)%M=c):k.wrap ((BitVec.ofInt k.bits (a:Int) &&& BitVec.ofInt k.bits (b:Int)).toNat)=(c:Int):=by
 rw[BitVec.toNat_and,UK.ofInt,UK.ofInt,←u.hm,←Nat.and_mod_two_pow,u.hm,h,UK.nat (a:=c) (c:=c)]
 rw[←h,Nat.mod_mod]
theorem UK.or(h:(a ||| b)%M=c):k.wrap ((BitVec.ofInt k.bits (a:Int) ||| BitVec.ofInt k.bits (b:Int)).toNat)=(c:Int):=by
 rw[BitVec.toNat_or,UK.ofInt,UK.ofInt,←u.hm,←Nat.or_mod_two_pow,u.hm,h,UK.nat (a:=c) (c:=c)]
 rw[←h,Nat.mod_mod]
theorem UK.xor(h:(a ^^^ b)%M=c):k.wrap ((BitVec.ofInt k.bits (a:Int) ^^^ BitVec.ofInt k.bits (b:Int)).toNat)=(c:Int):=by
 rw[BitVec.toNat_xor,UK.ofInt,UK.ofInt,←u.hm,←Nat.xor_mod_two_pow,u.hm,h,UK.nat (a:=c) (c:=c)]
 rw[←h,Nat.mod_mod]
end uk
theorem yZ{k:IntKind}{a c s:Nat}{q:Int}(hs:min q.toNat k.bits=s)(h:a/2^s=c):(a:Int).fdiv (2^(min q.toNat k.bits))=(c:Int):=by
 rw[hs,Int.fdiv_eq_ediv_of_nonneg _ (Int.le_of_lt (Int.pow_pos (by decide))),←h,Int.natCast_ediv,Int.natCast_pow];rfl
theorem MX{a b c:Nat}(h:AB a b=some c):(a:Int).tmod (b:Int)=(c:Int):=by
 unfold AB at h;split at h
 ·cases h
 ·rw[Int.tmod_eq_emod_of_nonneg (by omega),←Option.some.inj h];rfl
theorem O2{a b c:Nat}(h:a%b=c):(a:Int).tmod (b:Int)=(c:Int):=by
 rw[Int.tmod_eq_emod_of_nonneg (by omega),←h];rfl
theorem nzU{M a b c:Nat}(h:Ca M a b=some c):(b:Int)≠0:=by
 unfold Ca at h;split at h
 ·cases h
 ·omega
theorem nzR{a b c:Nat}(h:AB a b=some c):(b:Int)≠0:=by
 unfold AB at h;split at h
 ·cases h
 ·omega
theorem U7{a b c:Int}(h:qF a b=some c):b≠0:=by unfold qF at h;split at h<;>simp_all
theorem Rh{a b c:Int}(h:AA a b=some c):b≠0:=by unfold AA at h;split at h<;>simp_all
theorem JU{a b c:Int}(h:qF a b=some c):IntKind.i64.wrap (a.tdiv b)=c:=by
 unfold qF at h;split at h
 ·cases h
 ·exact Option.some.inj h
theorem Ri{a b c:Int}(h:AA a b=some c):a.tmod b=c:=by
 unfold AA at h;split at h
 ·cases h
 ·exact Option.some.inj h
abbrev Rj(x:Nat):List SV:=[.v (.int .u8 (x:Nat))]
abbrev ah(x:Nat):List SV:=[.v (.int .u32 (x:Nat))]
abbrev aS(x:Int):List SV:=[.v (.int .i64 x)]
abbrev eB(x:Bool):List SV:=[.v (.bool x)]
abbrev eS{α:Type}(n:Nat)(e:α→List SV)(l:List α):List SV:=[slc n (l.map e)]
structure Zr where
 neg:Bool
 w:List Nat
structure Qr where
 num:Zr
 den:Zr
abbrev eZ(z:Zr):List SV:=[.v (.bool z.neg),slc 1 (z.w.map ah)]
abbrev eQ(q:Qr):List SV:=[.v (.bool q.num.neg),slc 1 (q.num.w.map ah),.v (.bool q.den.neg),slc 1 (q.den.w.map ah)]
class EL {α:Type} (e:α→List SV) (n:outParam Nat):Prop where
 len:∀x,(e x).length=n
 one:∀x,vZ (e x)
instance:EL Rj 1:=⟨fun _=>rfl,fun _=>inferInstance⟩
instance:EL ah 1:=⟨fun _=>rfl,fun _=>inferInstance⟩
instance:EL aS 1:=⟨fun _=>rfl,fun _=>inferInstance⟩
instance:EL eB 1:=⟨fun _=>rfl,fun _=>inferInstance⟩
instance{α:Type}{n:Nat}{e:α→List SV}:EL (eS n e) 1:=⟨fun _=>rfl,fun _=>inferInstance⟩
instance:EL eZ 2:=⟨fun _=>rfl,fun _=>inferInstance⟩
instance:EL eQ 4:=⟨fun _=>rfl,fun _=>inferInstance⟩
structure Sd where
 acU:List Qr
 gen:List Qr
 take:List Qr
structure En where
 acc:Int
 kd:Nat
 hour:Int
 cW:Zr
abbrev dH(x:En):List SV:=[.v (.int .i64 x.acc),.v (.int .u8 ((x.kd:Nat):Int)),.v (.int .i64 x.hour),.v (.bool x.cW.neg),slc 1 (x.cW.w.map ah)]
instance:EL dH 5:=⟨fun _=>rfl,fun _=>inferInstance⟩
structure A3 where
 a:Int
 b:Int
 c:Int
structure X4 where
 acc:Int
 kd:Nat
 hour:Int
 e:Int
structure Mv where
 acc:Int
 kd:Nat
 hour:Int
 fF:Qr
abbrev Iu(x:Mv):List SV:=[.v (.int .i64 x.acc),.v (.int .u8 ((x.kd:Nat):Int)),.v (.int .i64 x.hour),.v (.bool x.fF.num.neg),slc 1 (x.fF.num.w.map ah),.v (.bool x.fF.den.neg),slc 1 (x.fF.den.w.map ah)]
instance:EL Iu 7:=⟨fun _=>rfl,fun _=>inferInstance⟩
structure Bk where
 n:Int
 l:List En
abbrev Iv(x:Bk):List SV:=[.v (.int .i64 x.n),slc 5 (x.l.map dH)]
instance:EL Iv 2:=⟨fun _=>rfl,fun _=>inferInstance⟩
structure Lr where
 vars:Int
 acV:List (List Qr)
 rows:List (List Qr)
 bounds:List Qr
structure Sz where
 vars:Int
 acV:Int
 rows:Int
 bounds:Int
structure Cn where
 row:List Qr
 most:Qr
abbrev TR(E:TypeId)(sz:Nat){α:Type}(e:α→List SV)(l:List α):Row:=⟨E,sz,l.length,l.flatMap e⟩
theorem imp_nil{α:Type}{n:Nat}{e:α→List SV}:SV.imp (.v (.slice none 0 0)) (slc n (([]:List α).map e)):=fun _ _ h=>.inl ⟨none,h,rfl⟩
theorem qZ{α:Type}(e:α→List SV)(l:List α):(l.map e).flatten=l.flatMap e:=by rw[List.flatMap_def]
theorem uT{α:Type}{e:α→List SV}{n:Nat}[h:EL e n](l:List α):Rows n (l.map e) (l.flatMap e):=⟨qZ e l,fun r hr=>by obtain⟨x,_,rfl⟩:=List.mem_map.1 hr;exact h.len x⟩
theorem Bb{M:Mem}:∀{l k:List SV} {vs:List Value},SV.dw M (l++k) vs→∃us ws,vs=us++ws∧SV.dw M l us∧SV.dw M k ws
 |[],_,vs,h=>⟨[],vs,rfl,trivial,h⟩
 |_::_,_,[],h=>h.elim
 |_::l,_,v::vs,h=>by
  obtain⟨us,ws,rfl,h1,h2⟩:=Bb (l:=l) h.2
  exact⟨v::us,ws,rfl,⟨h.1,h1⟩,h2⟩
theorem sn{α:Type}{e:α→List SV}{n:Nat}[h:EL e n](l:List α):∀M vs,SV.dw M (l.flatMap e) vs→∀v∈vs,v.oneCell'=true:=by
 intro M
 induction l with
 |nil=>intro vs hv;cases vs with|nil=>simp|cons _ _=>exact hv.elim
 |cons x l ih=>
  intro vs hv
  rw[List.flatMap_cons]at hv
  obtain⟨us,ws,rfl,h1,h2⟩:=Bb hv
  intro v hv
  rcases List.mem_append.1 hv with hv|hv
  ·exact(h.one x).h M us h1 v hv
  ·exact ih ws h2 v hv
theorem y7{α:Type}{e:α→List SV}{n:Nat}[h:EL e n]:∀{l:List α} {k:Nat} {a:α},l[k]? =some a→((l.flatMap e).drop (k*n)).take n=e a
 |[],_,_,hh=>by simp at hh
 |x::l,0,a,hh=>by
  simp only[List.getElem?_cons_zero,Option.some.injEq]at hh
  subst hh
  rw[List.flatMap_cons,Nat.zero_mul,List.drop_zero,←h.len x,List.take_left']
  rfl
 |x::l,k+1,a,hh=>by
  rw[List.getElem?_cons_succ]at hh
  rw[List.flatMap_cons,show(k+1)*n=(e x).length+k*n by rw[h.len,Nat.add_mul];omega,←List.drop_drop,List.drop_left']
  ·exact y7 hh
  ·rfl
theorem DJ{α:Type}{e:α→List SV}{n:Nat}[h:EL e n]{y:α}:∀{l:List α} {k:Nat},k<l.length→iY (l.flatMap e) (k*n) (e y)=(l.set k y).flatMap e:=by
 have acW:∀(u:List SV) (a b:List SV) (j:Nat),j+u.length≤a.length→iY (a++b) j u=iY a j u++b:=by
  intro u
  induction u with
  |nil=>intro a b j _;rfl
  |cons s u ih=>
   intro a b j hj
   simp only[List.length_cons]at hj
   simp only[iY]
   rw[List.set_append_left _ _ (by omega),ih _ _ _ (by rw[List.length_set];omega)]
 have acX:∀(u:List SV) (a b:List SV) (j:Nat),iY (a++b) (a.length+j) u=a++iY b j u:=by
  intro u
  induction u with
  |nil=>intro a b j;rfl
  |cons s u ih=>
   intro a b j
   simp only[iY]
   rw[List.set_append_right _ _ (by omega),show a.length+j-a.length=j by omega,show a.length+j+1=a.length+(j+1) by omega,ih]
 have acY:∀(u a:List SV),u.length=a.length→iY a 0 u=u:=by
  have gen:∀(u a p:List SV),u.length=a.length→iY (p++a) p.length u=p++u:=by
   intro u
   induction u with
   |nil=>intro a p ha;have:a=[]:=List.eq_nil_of_length_eq_zero ha.symm;subst this;rfl
   |cons s u ih=>
    intro a p ha
    cases a with
    |nil=>cases ha
    |cons t a=>
     simp only[iY]
     rw[List.set_append_right _ _ (Nat.le_refl _),Nat.sub_self,List.set_cons_zero,show p++s::a=(p++[s])++a by simp,show p.length+1=(p++[s]).length by simp,ih a _ (by simpa using ha)]
     simp
  intro u a ha
  exact gen u a [] ha
 intro l
 induction l with
 |nil=>intro k hk;simp at hk
 |cons x l ih=>
  intro k hk
  cases k with
  |zero=>
   rw[List.set_cons_zero,List.flatMap_cons,List.flatMap_cons,Nat.zero_mul,acW _ _ _ _ (by rw[h.len,h.len];omega),acY _ _ (by rw[h.len,h.len])]
  |succ k=>
   simp only[List.length_cons]at hk
   rw[List.set_cons_succ,List.flatMap_cons,List.flatMap_cons,show(k+1)*n=(e x).length+k*n by rw[h.len,Nat.add_mul];omega,acX,ih (by omega)]
end Go.Fw
namespace Go.Fw
open Go.RowKit
section steps
variable {P:Program}{C:Ctx}{ops:Array Oper}{S:AS}{nd:Bool}{K:List Ac→AS→Prop}{rest:List Oper}{acc:List Ac}
variable {gd:Option (Nat×Bool)}{rg:List Nat}{d:Nat}{ty:TypeId}{pos:String}{aft:Array Edge}{x y z:Operand}{T U E0:TypeId}
variable {α:Type}{l l' k:List α}{e:α→List SV}{n by_:Nat}{zv:Value}
theorem RT.acZ(hg:Gd ops S gd rg){s X:SV}(hx:S.ev x=.sv s)(hi:SV.imp s X)(hd:d<S.n)
  (next:RunT P C ops nd K rest (⟨rg++ak x,[],[],⟨some (d,.sv X),[],[]⟩⟩::acc) (S.set d (.sv X))):RunT P C ops nd K (⟨some d,.assign x,ty,pos,aft,gd⟩::rest) acc S:=
 RT.value hg (ak x) [] [] (.sv X) hd (by intro c h;cases h) (fun S' ht _ _ E a w h=>by
  have hx':S'.ev x=.sv s:=by rw[aA (fun _ h=>h) ht,hx]
  exact⟨a.eval x,rfl,by have:=h.ev x;rw[hx']at this;exact hi _ _ this,dN⟩) next
theorem Iw{E:Env}:∀{l l':List SV} {vs:List Value},cn l l'→SV.dw E.M l vs→bW E (l'.map AV.sv) vs:=fun hi h=>bW.uG (hi.holds h)
theorem Cb(M:Mem):∀l:List Value,SV.dw M (l.map SV.v) l
 |[]=>trivial
 |_::l=>⟨rfl,Cb M l⟩
theorem RT.Rk(hg:Gd ops S gd rg)[tz:ay P T zv]{cs:List SV}(hi:cn (zv.cells.toList.map SV.v) cs){av:List AV}(hav:cs.map AV.sv=av)(hd:d<S.n)(hb:S.b d=none)(hp:C.fK d=none)
  (next:RunT P C ops nd K rest (⟨rg++[],[d],[],⟨some (d,.ptr d 0),[(d,⟨T,av⟩)],[]⟩⟩::acc) ((S.jw d ⟨T,av⟩).set d (.ptr d 0))):RunT P C ops nd K (⟨some d,.alloc T,ty,pos,aft,gd⟩::rest) acc S:=by
 subst hav
 exact RT.GD hg (by intro c h;cases h) [] hd hb hp (fun S' _ E a w h=>⟨zv.cells.toList,by simp[execOp,Instr.alloc,newVar,newRow,tz.run],Iw hi (Cb _ _),fun y hy=>by
  obtain⟨s,_,rfl⟩:=List.mem_map.1 hy
  exact dN⟩) next
theorem RT.Rl(hg:Gd ops S gd rg){pl:List (Nat×Nat)}{zc:List Value}[tP:bB P T pl zc]{parts:Array (Nat×Operand)}{qs:List (Nat×List SV)}(hp:mc S parts.toList qs){cs cs':List SV}(hf:sM (fun i=>pl[i]?) (zc.map SV.v) qs=some cs)(hi:cn cs cs')(hd:d<S.n)
  (next:RunT P C ops nd K rest (⟨rg++jQ parts.toList,[],[],⟨some (d,.sv (.agg cs')),[],[]⟩⟩::acc) (S.set d (.sv (.agg cs')))):RunT P C ops nd K (⟨some d,.build T parts,ty,pos,aft,gd⟩::rest) acc S:=by
 refine RT.value hg (jQ parts.toList) [] [] (.sv (.agg cs')) hd (by intro c h;cases h) (fun S' ht _ _ E a w h=>?_) next
 have hu:=tP.h
 cases hT:P.underlying T with
 |none=>rw[hT]at hu;cases hu
 |some u=>
  rw[hT]at hu
  cases u with
  |struct fs=>
   simp only at hu
   have hz:(zeroValue T).run P w=.ok (.agg ⟨zc⟩) w:=ay.run (t:=⟨tP.hz⟩) w
   obtain⟨us,h1,h2,_⟩:=yM h (fun i=>pl[i]?) hp ht (cells:=zc.map SV.v) (vs:=zc) (Cb _ zc) (List.all_eq_true.1 tP.o) hf
   refine⟨.agg ⟨us⟩,?_,⟨us,rfl,hi.holds h2⟩,dN⟩
   have hm:(fs.mapM (fun f=>do pure (f.offset,←sizeOf f.type):Field→Sem (Nat×Nat))).run P w=.ok pl.toArray w:=by
    have:=qW (P:=P) (w:=w) hu
    rw[←Array.toArray_toList (xs:=fs),List.mapM_toArray]
    rw[Sem.run_map,this];rfl
   have h1':Instr.fill (fun i=>pl.toArray[i]?) ⟨zc⟩ (parts.toList.map fun p=>(p.1,a.eval p.2))=some ⟨us⟩:=by simpa using h1
   simp only[execOp,Instr.build,underlying]
   simp only[Sem.run_bind,hz,Result.andThen_ok,run_program,hT,Sem.run_pure,Value.cells]
   have hm':(Array.mapM (fun f=>do
     let __do_lift←sizeOf f.type
     pure (f.offset,__do_lift)) fs:Sem _).run P w=.ok pl.toArray w:=hm
   simp only[hm',Result.andThen_ok]
   have e4:(Array.map (fun x=>match x with|(i,x)=>(i,a.eval x)) parts).toList=parts.toList.map fun p=>(p.1,a.eval p.2):=by simp
   simp only[e4,h1',Sem.run_pure,Result.andThen_ok]
  |_=>cases hu
theorem Pure.w{f:FuncId}{args args':List SV}{r:SV}(h:Pure P f args r)(hi:cn args' args):Pure P f args' r:=fun M w vs hM hv=>h M w vs hM (hi.holds hv)
theorem Pure.r{f:FuncId}{args:List SV}{r r':SV}(h:Pure P f args r)(hi:SV.imp r r'):Pure P f args r':=fun M w vs hM hv=>(h M w vs hM hv).mono fun _ _ ⟨v,M',h1,h2,h3,h4,h5,h6⟩=>⟨v,M',h1,h2,h3,h4,hi _ _ h5,h6⟩
theorem DH.w{f:FuncId}{args args':List SV}{R:Row}(h:DH P f args R)(hi:cn args' args):DH P f args' R:=fun M w vs hM hv=>h M w vs hM (hi.holds hv)
theorem RT.U8(hg:Gd ops S gd rg){m:Nat}[tS:dD P T E0 m]{c:Int}(hx:S.ev x=.sv (slc n (l.map e)))(hd:d<S.n)(hc:(l.length:Int)=c)
  (next:RunT P C ops nd K rest (⟨rg++ak x,[],[],⟨some (d,.sv (.v (.int .i64 c))),[],[]⟩⟩::acc) (S.set d (.sv (.v (.int .i64 c))))):RunT P C ops nd K (⟨some d,.call ⟨.builtin .len,#[x],#[T]⟩,ty,pos,aft,gd⟩::rest) acc S:=
 RT.len hg hx hd (by rw[List.length_map,hc];exact next)
theorem RT.U9(hg:Gd ops S gd rg){m:Nat}[tS:dD P T E0 m]{i:Nat}{E1:TypeId}{c:Int}(hx:S.ev x=.row i)(hR:S.r i=.live (TR E1 n e l))(hd:d<S.n)(hc:(l.length:Int)=c)
  (next:RunT P C ops nd K rest (⟨rg++ak x,[],[i],⟨some (d,.sv (.v (.int .i64 c))),[],[]⟩⟩::acc) (S.set d (.sv (.v (.int .i64 c))))):RunT P C ops nd K (⟨some d,.call ⟨.builtin .len,#[x],#[T]⟩,ty,pos,aft,gd⟩::rest) acc S:=
 RT.aco hg hx hR hd (by show RunT _ _ _ _ _ _ (⟨_,_,_,⟨some (d,.sv (.v (.int .i64 (l.length:Int)))),_,_⟩⟩::_) (S.set d (.sv (.v (.int .i64 (l.length:Int)))));rw[hc];exact next)
theorem RT.Iy(hg:Gd ops S gd rg)[tS:dD P T E0 n]{kk:IntKind}{i:Int}{a:α}(hx:S.ev x=.sv (slc n (l.map e)))(hy:S.ev y=.sv (.v (.int kk i)))(hd:d<S.n)(ha:bQ l i=some a)
  (next:RunT P C ops nd K rest (⟨rg++(ak x++ak y),[],[],⟨some (d,.sv (ref (e a))),[],[]⟩⟩::acc) (S.set d (.sv (ref (e a))))):RunT P C ops nd K (⟨some d,.indexAddr T x y,ty,pos,aft,gd⟩::rest) acc S:=
 RT.indexAddr hg (e a) hx hy hd (oM ha).1 (by rw[List.getElem?_map,(oM ha).2];rfl) next
theorem RT.Ft(hg:Gd ops S gd rg)[tS:dD P T E0 n]{lo hi:Option Operand}(a b:Int)(hx:S.ev x=.sv (slc n (l.map e)))(hlo:yN S 0 lo a)(hhi:yN S l.length hi b)(hd:d<S.n)(h:Az l a b=some l')
  (next:RunT P C ops nd K rest (⟨rg++(ak x++(me lo++me hi)),[],[],⟨some (d,.sv (slc n (l'.map e))),[],[]⟩⟩::acc) (S.set d (.sv (slc n (l'.map e))))):RunT P C ops nd K (⟨some d,.slice T x lo hi none,ty,pos,aft,gd⟩::rest) acc S:=by
 obtain⟨h0,h1,h2,h3⟩:=Ba h
 exact RT.slice hg hx a b hlo (by rw[List.length_map];exact hhi) hd h0 h1 (by rw[List.length_map];exact h2) _ (by rw[GH,h3]) next
theorem RT.MY(hg:Gd ops S gd rg)[tS:dD P T E0 n][tE:aK P E0 n by_ zv]{len:Nat}{parts:Array (Nat×Operand)}{qs:List (Nat×List SV)}(hp:mc S parts.toList qs)(hd:d<S.n)
  (hc:n8 0 qs=true) (hl:qs.length=len) (hsz:(qs.all fun q=>Nat.beq q.2.length n)=true) (hlen:Nat.ble (len*n) 16777216=true) (Im:(zv.cells.toList.all fun v=>v.oneCell')=true) (kY:qs.map (·.2)=l.map e)
  (next:RunT P C ops nd K rest (⟨rg++jQ parts.toList,[],[],⟨some (d,.sv (slc n (l.map e))),[],[]⟩⟩::acc) (S.set d (.sv (slc n (l.map e))))):RunT P C ops nd K (⟨some d,.buildSlice T len parts,ty,pos,aft,gd⟩::rest) acc S:=
 RT.buildSlice hg hp hd hc hl hsz (Nat.le_of_ble_eq_true hlen) (List.all_eq_true.1 Im) kY next
theorem RT.ye(hg:Gd ops S gd rg)[tS:dD P T E0 n][tE:aK P E0 n by_ zv]{len:Nat}{parts:Array (Nat×Operand)}{qs:List (Nat×List SV)}(hp:mc S parts.toList qs)(hd:d<S.n)(v5:S.r d=.un)(uB:d<1000)
  (hc:n8 0 qs=true) (hl:qs.length=len) (hsz:(qs.all fun q=>Nat.beq q.2.length n)=true) (hlen:Nat.ble (len*n) 16777216=true) (Im:(zv.cells.toList.all fun v=>v.oneCell')=true) (kY:qs.map (·.2)=l.map e)
  (next:RunT P C ops nd K rest (⟨rg++jQ parts.toList,[],[d],⟨some (d,.row d),[],[(d,.live (TR E0 n e l))]⟩⟩::acc) ((AS.bg [(d,.live (TR E0 n e l))] S).set d (.row d))):RunT P C ops nd K (⟨some d,.buildSlice T len parts,ty,pos,aft,gd⟩::rest) acc S:=by
 refine RT.DE hg hp hd v5 uB hc hl hsz (Nat.le_of_ble_eq_true hlen) (List.all_eq_true.1 Im) (cells:=l.flatMap e) (by rw[kY,qZ]) ?_
 have:len=l.length:=by have h0:=congrArg List.length kY;simpa[hl]using h0
 rw[this];exact next
theorem RT.apR(hg:Gd ops S gd rg)[tS:dD P T E0 n][tE:aK P E0 n by_ zv]{i:Nat}(hx:S.ev x=.row i)(hR:S.r i=.live (TR E0 n e l))(hy:S.ev y=.sv (slc n (k.map e)))(hd:d<S.n)(v5:S.r d=.un)(uB:d<1000)(h:uC by_ l k=some l')
  (next:RunT P C ops nd K rest (⟨rg++(ak x++ak y),[],[i,d],⟨some (d,.row d),[],[(i,.dead),(d,.live (TR E0 n e l'))]⟩⟩::acc) ((AS.bg [(i,.dead),(d,.live (TR E0 n e l'))] S).set d (.row d))):RunT P C ops nd K (⟨some d,.call ⟨.builtin .append,#[x,y],#[T,T]⟩,ty,pos,aft,gd⟩::rest) acc S:=by
 obtain⟨h1,h2,rfl⟩:=qY h
 exact RT.MK hg hx hR hy hd v5 uB (by simpa using h1) (by simpa using h2) _ (by simp[qZ]) next
theorem RT.JV(hg:Gd ops S gd rg)[tS:dD P T E0 n][tE:aK P E0 n by_ zv][el:EL e n]{i:Nat}(hx:S.ev x=.row i)(hR:S.r i=.live (TR E0 n e l))(hy:S.ev y=.sv (slc n (k.map e)))(hd:d<S.n)(v5:S.r d=.un)(uB:d<1000)(h:uC by_ l k=some l')
  (next:RunT P C ops nd K rest (⟨rg++(ak x++ak y),[],[d,i],⟨some (d,.sv (slc n (l'.map e))),[],[(i,.dead),(d,.dead)]⟩⟩::acc) ((AS.bg [(i,.dead),(d,.dead)] S).set d (.sv (slc n (l'.map e))))):RunT P C ops nd K (⟨some d,.call ⟨.builtin .append,#[x,y],#[T,T]⟩,ty,pos,aft,gd⟩::rest) acc S:=by
 obtain⟨h1,h2,rfl⟩:=qY h
 have hf:l.flatMap e++(k.map e).flatten=(l++k).flatMap e:=by simp[qZ]
 exact RT.GM hg (.row hx hR) hy hd v5 uB (by simpa using h1) (by simpa using h2) _ (rows':=(l++k).map e) (fun _ _ h _=>h) (by rw[hf];exact uT _) (by simp) (by rw[hf];exact sn _) next
theorem Bc(zc:Array Value)(n:Nat)(hz:zc.size=n)(hn:0<n):∀m:Nat,(madeCells zc (m*n)).toList=(List.replicate m zc.toList).flatten
 |0=>by simp[madeCells]
 |m+1=>by
  have ih:=Bc zc n hz hn m
  rw[List.replicate_succ',List.flatten_append,←ih]
  simp only[madeCells,Array.toList_map,Array.toList_range,List.flatten_cons,List.flatten_nil,List.append_nil]
  rw[show(m+1)*n=m*n+n by rw[Nat.add_mul];omega,List.range_add,List.map_append,List.map_map]
  congr 1
  apply List.ext_getElem?
  intro i
  rw[List.getElem?_map]
  rcases Nat.lt_or_ge i n with hi|hi
  ·rw[List.getElem?_range hi]
   simp only[Option.map_some,Function.comp]
   rw[hz,Nat.mul_comm m n,Nat.mul_add_mod,Nat.mod_eq_of_lt hi]
   rw[getElem!_pos zc i (by omega),Array.getElem?_toList,Array.getElem?_eq_getElem (by omega)]
  ·rw[List.getElem?_eq_none (by simpa using hi),List.getElem?_eq_none (by simp;omega)];rfl
theorem DK:∀{a b c d:List SV},cn a c→cn b d→cn (a++b) (c++d)
 |[],_,[],_,_,h=>h
 |_::_,_,_::_,_,h,h'=>⟨h.1,DK h.2 h'⟩
 |[],_,_::_,_,h,_=>h.elim
 |_::_,_,[],_,h,_=>h.elim
theorem DL{zl:List Value}{zz:α}(hi:cn (zl.map SV.v) (e zz)):∀m:Nat,cn ((List.replicate m zl).flatten.map SV.v) ((List.replicate m zz).flatMap e)
 |0=>trivial
 |m+1=>by
  rw[List.replicate_succ,List.replicate_succ,List.flatten_cons,List.map_append,List.flatMap_cons]
  exact DK hi (DL hi m)
theorem RT.uU(hg:Gd ops S gd rg)[tS:dD P T E0 n][tE:aK P E0 n by_ zv]{kl kc:IntKind}{c:Int}{zz:α}(hx:S.ev x=.sv (.v (.int kl c)))(hy:S.ev y=.sv (.v (.int kc c)))(hd:d<S.n)(v5:S.r d=.un)(uB:d<1000)(hz:zv.cells.size=n)(hn:0<n)(hi:cn (zv.cells.toList.map SV.v) (e zz))(hm:Is by_ c zz=some l')
  (next:RunT P C ops nd K rest (⟨rg++(ak x++ak y),[],[d],⟨some (d,.row d),[],[(d,.live (TR E0 n e l'))]⟩⟩::acc) ((AS.bg [(d,.live (TR E0 n e l'))] S).set d (.row d))):RunT P C ops nd K (⟨some d,.makeSlice T x y,ty,pos,aft,gd⟩::rest) acc S:=by
 obtain⟨h0,hroom,qV,rfl⟩:=JQ hm
 refine .inl ⟨_,[],[d],_,?_,next⟩
 rintro S' hn' ht _ hr i a w L Q ho ⟨E,h⟩ hL
 refine bG (C:=C) ho (hg.wanted h (fun s hs=>ht s (List.mem_append_left _ hs)) rfl) ?_
 have h1:a.eval x=.int kl c:=by have h1:=h.ev x;rw[aA (fun _ h=>List.mem_append_right _ (List.mem_append_left _ h)) ht,hx]at h1;exact h1
 have h2:a.eval y=.int kc c:=by have h2:=h.ev y;rw[aA (fun _ h=>List.mem_append_right _ (List.mem_append_right _ h)) ht,hy]at h2;exact h2
 obtain⟨info,hii,hsz,hby,hzz⟩:=aK.info (P:=P) (E:=E0) (n:=n) (by_:=by_) (z:=zv)
 obtain⟨m,rfl⟩:=Int.eq_ofNat_of_zero_le h0
 have hb':info.bytes*m≤281474976710656:=by
  rw[hby]
  have:((by_*m:Nat):Int)≤281474976710656:=by rw[Int.natCast_mul];exact hroom
  omega
 obtain⟨w',q1,q2,q3⟩:=run_make_full (P:=P) w 0 T E0 info zv n tS.u hii hzz hsz kl kc m hb' (by unfold maxLen;omega) (Nat.zero_le _)
 have hr':(execOp a.eval ⟨some d,.makeSlice T x y,ty,pos,aft,gd⟩).run P w=.ok (.value (.slice (some ⟨w.heap.size,0,none⟩) m m)) w':=by
  simp only[execOp,h1,h2]
  simp[q1]
 have Il:S'.r d=.un:=by rw[hr d (by simp)];exact v5
 have e0:(m:Int).toNat=m:=by simp
 have hall:SV.dw E.M ((List.replicate m zz).flatMap e) (madeCells zv.cells (m*n)).toList:=by
  rw[Bc zv.cells n hz hn]
  exact cn.holds (l:=((List.replicate m zv.cells.toList).flatten.map SV.v)) (DL hi m) (Cb _ _)
 have hlen:(List.replicate (m:Int).toNat zz).length=m:=by simp
 refine bH (C:=C) (by intro c h;cases h) hr' (hL _ _ ⟨_,(h.newRow Il uB [] none (.inl ⟨rfl,rfl⟩) (R':=TR E0 n e (List.replicate (m:Int).toNat zz)) (by show w'.ownsRow 0 E0 n _ (List.replicate (m:Int).toNat zz).length _;rw[hlen];exact q2) (by rw[e0];exact hall) (.inr (.inl rfl)) q3).put (d:=d) (x:=.row d) (v:=.slice (some ⟨w.heap.size,0,none⟩) m m) (by simp[AV.holds]) (by show d<S'.n;omega) ⟨fun _ e=>e.elim,fun j e=>?_⟩⟩)
 cases e
 show(AS.oI S' d _).r d≠_
 rw[AS.fR];simp
theorem RT.Bd(hg:Gd ops S gd rg)[tS:dD P T E0 n][tE:aK P E0 n by_ zv]{kl kc:IntKind}{c:Int}(hx:S.ev x=.sv (.v (.int kl 0)))(hy:S.ev y=.sv (.v (.int kc c)))(hd:d<S.n)(v5:S.r d=.un)(uB:d<1000)(h:MV (α:=α) by_ c=some l')
  (next:RunT P C ops nd K rest (⟨rg++(ak x++ak y),[],[d],⟨some (d,.row d),[],[(d,.live (TR E0 n e l'))]⟩⟩::acc) ((AS.bg [(d,.live (TR E0 n e l'))] S).set d (.row d))):RunT P C ops nd K (⟨some d,.makeSlice T x y,ty,pos,aft,gd⟩::rest) acc S:=by
 obtain⟨h0,h1,h2,rfl⟩:=JR h
 exact RT.UF hg hx hy hd v5 uB h0 h1 h2 next
theorem RT.ac1(hg:Gd ops S gd rg)[tS:dD P T E0 n]{i j:Nat}{E1:TypeId}{kk:IntKind}{v:Int}(hx:S.ev x=.row i)(hR:S.r i=.live (TR E1 n e l))(hy:S.ev y=.sv (.v (.int kk v)))(hd:d<S.n)(h:qX l v=some j)
  (next:RunT P C ops nd K rest (⟨rg++(ak x++ak y),[],[i],⟨some (d,.gw i (j*n)),[],[]⟩⟩::acc) (S.set d (.gw i (j*n)))):RunT P C ops nd K (⟨some d,.indexAddr T x y,ty,pos,aft,gd⟩::rest) acc S:=by
 obtain⟨h0,h1,h2⟩:=JP h
 exact RT.ixR hg (.row hx hR) hy hd h0 h1 (j*n) (by rw[h2];omega) next
theorem RT.Vc(hg:Gd ops S gd rg)[tV:cK P T][el:EL e 1]{i j:Nat}{E1:TypeId}{a:α}{s:SV}(hx:S.ev x=.gw i (j*1))(hR:S.r i=.live (TR E1 1 e l))(ha:l[j]? =some a)(hs:e a=[s])(hd:d<S.n)
  (next:RunT P C ops nd K rest (⟨rg++ak x,[],[i],⟨some (d,.sv s),[],[]⟩⟩::acc) (S.set d (.sv s))):RunT P C ops nd K (⟨some d,.load T x,ty,pos,aft,gd⟩::rest) acc S:=by
 refine RT.ldR hg hx hR (s:=s) ?_ hd next
 have:=y7 (e:=e) ha
 rw[hs]at this
 have h2:=congrArg (·[0]?) this
 simpa[List.getElem?_take]using h2
theorem RT.Vd(hg:Gd ops S gd rg)[tA:gU P T n][el:EL e n]{i j:Nat}{E1:TypeId}{a:α}(hx:S.ev x=.gw i (j*n))(hR:S.r i=.live (TR E1 n e l))(ha:l[j]? =some a)(hd:d<S.n)
  (next:RunT P C ops nd K rest (⟨rg++ak x,[],[i],⟨some (d,.sv (.agg (e a))),[],[]⟩⟩::acc) (S.set d (.sv (.agg (e a))))):RunT P C ops nd K (⟨some d,.load T x,ty,pos,aft,gd⟩::rest) acc S:=
 RT.acy hg hx hR (y7 ha) (el.len a) hd next
theorem MZ(a:List SV)(k:Nat)(s:SV):a.set k s=iY a k [s]:=rfl
theorem RT.ac2(hg:Gd ops S gd rg)[tV:cK P T][el:EL e 1]{i j:Nat}{E1:TypeId}{s:SV}[o1:One s](a:α)(hs:e a=[s])(hx:S.ev x=.gw i (j*1))(hR:S.r i=.live (TR E1 1 e l))(hy:S.ev y=.sv s)(h:stM l j a=some l')
  (next:RunT P C ops nd K rest (⟨rg++(ak x++ak y),[],[i],⟨none,[],[(i,.live (TR E1 1 e l'))]⟩⟩::acc) (AS.bg [(i,.live (TR E1 1 e l'))] S)):RunT P C ops nd K (⟨none,.store T x y,ty,pos,aft,gd⟩::rest) acc S:=by
 obtain⟨h1,rfl⟩:=DI h
 refine RT.stR hg hx hR hy (by show j*1+1≤l.length*1;omega) ((l.set j a).flatMap e) (by rw[MZ,←hs];exact DJ h1) ?_
 have:(TR E1 1 e (l.set j a))=⟨E1,1,l.length,(l.set j a).flatMap e⟩:=by show Row.mk _ _ _ _=_;rw[List.length_set]
 rw[←this];exact next
theorem RT.Ve(hg:Gd ops S gd rg)[tA:gU P T n][el:EL e n]{i j:Nat}{E1:TypeId}(a:α)(hx:S.ev x=.gw i (j*n))(hR:S.r i=.live (TR E1 n e l))(hy:S.ev y=.sv (.agg (e a)))(h:stM l j a=some l')
  (next:RunT P C ops nd K rest (⟨rg++(ak x++ak y),[],[i],⟨none,[],[(i,.live (TR E1 n e l'))]⟩⟩::acc) (AS.bg [(i,.live (TR E1 n e l'))] S)):RunT P C ops nd K (⟨none,.store T x y,ty,pos,aft,gd⟩::rest) acc S:=by
 obtain⟨h1,rfl⟩:=DI h
 have o1:=el.one a
 refine RT.acz hg hx hR hy (el.len a) (by show j*n+n≤l.length*n;have:=Nat.mul_le_mul_right n h1;rw[Nat.succ_mul]at this;exact this) ((l.set j a).flatMap e) (DJ h1) ?_
 have:(TR E1 n e (l.set j a))=⟨E1,n,l.length,(l.set j a).flatMap e⟩:=by show Row.mk _ _ _ _=_;rw[List.length_set]
 rw[←this];exact next
end steps
theorem b8{S:AS}{i n:Nat}{E1:TypeId}{α:Type}{e:α→List SV}{l:List α}[el:EL e n](hR:S.r i=.live (TR E1 n e l)):oK S (S.l9 i (slc n (l.map e))):=by
 rintro C a w ⟨E,h⟩
 have hlen:l.length≤9223372036854775807:=by
  obtain⟨⟨vs,ho,hv⟩,_⟩:=h.rx i _ hR
  rcases ho.2 with⟨_,q2⟩|⟨g',cap,cur,q1,_,q2,q3,q4,q5,q6⟩
  ·have q2:l.length=0:=q2
   omega
  ·have q3:l.length≤cap:=q3
   have:maxLen=9223372036854775807:=by decide
   omega
 exact h.l9 hR (uT l) (by rw[List.length_map]) hlen (sn l) (fun _ _ h _=>h)
section control
variable {P:Program}{C:Ctx}{S:AS}{Q:Exit→AS→Prop}
theorem aC{A:Code}{J R:Type}{kB:J→Option R}{fA:(J→Option R)→Option R}{r:R}(h:bM kB fA=some r)(I:J→AS)
  (hA:fA kB=some r→Ok P C A S (ae (fun S'=>∃j,kB j=some r∧oK S' (I j)) Q)) (hQ:∀j,kB j=some r→Q .normal (I j)):Ok P C A S Q:=fun a w hs=>by
 refine wpIn_mono (hA h a w hs) ?_
 rintro e a' w' ⟨S',q,hh⟩
 cases e with
 |normal=>obtain⟨j,h1,h2⟩:=q;exact⟨_,hQ j h1,h2 C a' w' hh⟩
 |_=>exact⟨S',q,hh⟩
theorem aP{A:Code}{X:Type}(I:X→AS)(p:X→Prop)(hA:Ok P C A S (ae (fun S'=>∃j,p j∧oK S' (I j)) Q))(hQ:∀j,p j→Q .normal (I j)):Ok P C A S Q:=fun a w hs=>by
 refine wpIn_mono (hA a w hs) ?_
 rintro e a' w' ⟨S',q,hh⟩
 cases e with
 |normal=>obtain⟨j,h1,h2⟩:=q;exact⟨_,hQ j h1,h2 C a' w' hh⟩
 |_=>exact⟨S',q,hh⟩
theorem aQ{c:Code}{T E:Type}{body:T→Option (T⊕E)}{s0:T}{e:E}(h:bC body s0=some e)(I:T→AS)(h0:oK S (I s0))
  (round:∀(s:T) (y:T⊕E) (G:T→Prop),body s=some y→(∀s',y=.inl s'→G s')→(∀e',y=.inr e'→e'=e)→Ok P C c (I s) (ae (fun S'=>∃s',G s'∧oK S' (I s')) Q)):Ok P C (.loop c) S Q:=by
 obtain⟨n,hn⟩:=tq h
 refine xZ (ι:={x:T×Nat//mg body x.2 x.1=some e}) (fun x=>I x.1.1) (fun x=>x.1.2) ⟨(s0,n),hn⟩ h0 ?_
 rintro⟨⟨s,m⟩,hm⟩
 cases m with
 |zero=>cases hm
 |succ m=>
  cases hb:body s with
  |none=>simp only[mg,hb]at hm;cases hm
  |some y=>
   refine BV (round s y (fun s'=>mg body m s'=some e) hb ?_ ?_) ?_
   ·rintro s' rfl;simpa only[mg,hb]using hm
   ·rintro e' rfl;simp only[mg,hb]at hm;exact Option.some.inj hm
   ·intro ex S' q
    cases ex with
    |normal=>obtain⟨s',h1,h2⟩:=q;exact⟨⟨(s',m),h1⟩,Nat.lt_succ_self m,h2⟩
    |_=>exact q
end control
end Go.Fw
namespace Go.Fw
open Go.RowKit
abbrev M1:=List UInt8
def bs(l:M1):ByteArray:=⟨⟨l⟩⟩
def sO(l:M1)(i:Int):Option Nat:=(bQ l i).map UInt8.toNat
theorem M3(l:M1):(bs l).size=l.length:=rfl
theorem Rm(l:M1)(i:Nat):(bs l)[i]? =l[i]? :=by
 rcases Nat.lt_or_ge i l.length with h|h
 ·rw[getElem?_pos (bs l) i h,List.getElem?_eq_getElem h];rfl
 ·rw[getElem?_neg (bs l) i (by rw[M3];omega),List.getElem?_eq_none h]
section steps
variable {P:Program}{C:Ctx}{ops:Array Oper}{S:AS}{nd:Bool}{K:List Ac→AS→Prop}{rest:List Oper}{acc:List Ac}
variable {gd:Option (Nat×Bool)}{rg:List Nat}{d:Nat}{ty:TypeId}{pos:String}{aft:Array Edge}{x y z:Operand}{T U E0:TypeId}
variable {l l' k:M1}
theorem RT.skV{op:Op}{j g:Nat}{b want:Bool}(h1:(ops[j]?).bind (·.dst)=some g)(h2:S.t g=.sv (.v (.bool b)))(hb:b≠want)(hd:d<S.n)
  (next:RunT P C ops nd K rest (⟨[g],[],[],⟨some (d,.sv (.v undef)),[],[]⟩⟩::acc) (S.set d (.sv (.v undef)))):RunT P C ops nd K (⟨some d,op,ty,pos,aft,some (j,want)⟩::rest) acc S:=by
 refine .inl ⟨[g],[],[],⟨some (d,.sv (.v undef)),[],[]⟩,?_,next⟩
 rintro S' hn ht _ _ i a w L Q ho ⟨E,h⟩ hL
 have hv:=h.tm g
 rw[ht g (by simp),h2]at hv
 have hv:a.tmps.getD g undef=.bool b:=hv
 have Dr:a.tmps[g]? =some (.bool b):=by
  rw[Array.getD_eq_getD_getElem?]at hv
  cases e:a.tmps[g]? with
  |none=>rw[e]at hv;simp[undef]at hv
  |some x=>rw[e]at hv;simp at hv;rw[hv]
 have hw:Region.wanted ⟨some d,op,ty,pos,aft,some (j,want)⟩ (yielded ops a.tmps)=false:=by
  simp[Region.wanted,yielded,h1,Dr,hb]
 simp only[wpOpIn,ho,hw]
 exact⟨fun _ _=>trivial,hL _ _ ⟨E,h.put (x:=.sv (.v undef)) (v:=undef) rfl (by omega) ⟨fun _ h=>h.elim,fun _ h=>h.elim⟩⟩⟩
theorem RT.Vf{op:Op}{j g:Nat}{want:Bool}(h1:(ops[j]?).bind (·.dst)=some g)(h2:S.t g=.sv (.v undef))(hd:d<S.n)
  (next:RunT P C ops nd K rest (⟨[g],[],[],⟨some (d,.sv (.v undef)),[],[]⟩⟩::acc) (S.set d (.sv (.v undef)))):RunT P C ops nd K (⟨some d,op,ty,pos,aft,some (j,want)⟩::rest) acc S:=by
 refine .inl ⟨[g],[],[],⟨some (d,.sv (.v undef)),[],[]⟩,?_,next⟩
 rintro S' hn ht _ _ i a w L Q ho ⟨E,h⟩ hL
 have hv:=h.tm g
 rw[ht g (by simp),h2]at hv
 have hv:a.tmps.getD g undef=undef:=hv
 rw[Array.getD_eq_getD_getElem?]at hv
 have hw:Region.wanted ⟨some d,op,ty,pos,aft,some (j,want)⟩ (yielded ops a.tmps)=false:=by
  cases e:a.tmps[g]? with
  |none=>simp[Region.wanted,yielded,h1,e]
  |some x=>
   rw[e]at hv
   simp only[Option.getD_some]at hv
   subst hv
   simp[Region.wanted,yielded,h1,e,undef]
 simp only[wpOpIn,ho,hw]
 exact⟨fun _ _=>trivial,hL _ _ ⟨E,h.put (x:=.sv (.v undef)) (v:=undef) rfl (by omega) ⟨fun _ h=>h.elim,fun _ h=>h.elim⟩⟩⟩
theorem RT.six(hg:Gd ops S gd rg)[tS:Dt P T]{kk:IntKind}{i:Int}{c:Nat}(hx:S.ev x=.sv (.v (.string (bs l))))(hy:S.ev y=.sv (.v (.int kk i)))(hd:d<S.n)(h:sO l i=some c)
  (next:RunT P C ops nd K rest (⟨rg++(ak x++ak y),[],[],⟨some (d,.sv (.v (.int .u8 (c:Nat)))),[],[]⟩⟩::acc) (S.set d (.sv (.v (.int .u8 (c:Nat)))))):RunT P C ops nd K (⟨some d,.index T x y,ty,pos,aft,gd⟩::rest) acc S:=
 RT.Du hg (by intro c h;cases h) hx hy hd (fun ρ w h1 h2=>by
  unfold sO at h
  cases hh:bQ l i with
  |none=>rw[hh]at h;cases h
  |some b=>
   rw[hh]at h
   obtain⟨q1,q2⟩:=oM hh
   have q3:b.toNat=c:=Option.some.inj h
   have q4:(bs l)[i.toNat]? =some b:=by rw[Rm];exact q2
   simp[execOp,h1,h2,Instr.index,asIntOf,underlying,tS.h,q1,q4,q3]) next
end steps
section rows
variable {P:Program}{C:Ctx}{ops:Array Oper}{S:AS}{nd:Bool}{K:List Ac→AS→Prop}{rest:List Oper}{acc:List Ac}
variable {gd:Option (Nat×Bool)}{rg:List Nat}{d:Nat}{ty:TypeId}{pos:String}{aft:Array Edge}{x y z:Operand}{T U E0:TypeId}
variable {α:Type}{l l' k:List α}{e:α→List SV}{n by_:Nat}{zv:Value}
end rows
end Go.Fw
namespace Go.Fw
open Go.RowKit
def sP{α:Type}(l l':List α):Option Unit:=if l'.length=l.length then some ()else none
theorem kK{α:Type}{l l':List α}{u:Unit}(h:sP l l'=some u):l'.length=l.length:=by
 unfold sP at h;split at h
 ·assumption
 ·cases h
def Rn{α:Type}(l:List α)(lo hi:Int):Option (Nat×Nat):=if 0≤lo∧lo<l.length∧lo≤hi∧hi≤l.length then some (lo.toNat,(hi-lo).toNat)else none
theorem JW{α:Type}{l:List α}{lo hi:Int}{o n:Nat}(h:Rn l lo hi=some (o,n)):0≤lo∧lo<l.length∧lo≤hi∧hi≤l.length∧lo.toNat=o∧(hi-lo).toNat=n:=by
 unfold Rn at h;split at h
 ·rename_i hh
  obtain⟨q1,q2⟩:=Prod.mk.inj (Option.some.inj h)
  exact⟨hh.1,hh.2.1,hh.2.2.1,hh.2.2.2,q1,q2⟩
 ·cases h
def Mu(o n:Nat)(i:Int):Option Nat:=if 0≤i∧i<n then some (o+i.toNat)else none
theorem JX{o n j:Nat}{i:Int}(h:Mu o n i=some j):0≤i∧i<n∧o+i.toNat=j:=by
 unfold Mu at h;split at h
 ·rename_i hh;exact⟨hh.1,hh.2,Option.some.inj h⟩
 ·cases h
def pN:List (List SV)→List (List SV)→Prop
 |[],[]=>True
 |r::l,r'::l'=>cn r r'∧pN l l'
 |_,_=>False
theorem cn.get:∀{l l':List SV} {k:Nat} {s':SV},cn l l'→l'[k]? =some s'→∃s,l[k]? =some s∧SV.imp s s'
 |x::_,y::_,0,_,h,e=>⟨x,rfl,by simp at e;subst e;exact h.1⟩
 |_::l,_::l',k+1,_,h,e=>by simpa using cn.get (l:=l) (l':=l') h.2 (by simpa using e)
 |[],[],_,_,_,e=>by simp at e
 |[],_::_,_,_,h,_=>h.elim
 |_::_,[],_,_,h,_=>h.elim
theorem cn.len:∀{l l':List SV},cn l l'→l'.length=l.length
 |[],[],_=>rfl
 |_::_,_::_,h=>congrArg (· +1) (cn.len h.2)
 |[],_::_,h=>h.elim
 |_::_,[],h=>h.elim
theorem pN.len:∀{l l':List (List SV)},pN l l'→l'.length=l.length
 |[],[],_=>rfl
 |_::_,_::_,h=>congrArg (· +1) (pN.len h.2)
 |[],_::_,h=>h.elim
 |_::_,[],h=>h.elim
theorem pN.get:∀{l l':List (List SV)} {k:Nat} {s':List SV},pN l l'→l'[k]? =some s'→∃s,l[k]? =some s∧cn s s'
 |x::_,y::_,0,_,h,e=>⟨x,rfl,by simp at e;subst e;exact h.1⟩
 |_::l,_::l',k+1,_,h,e=>by simpa using pN.get (l:=l) (l':=l') h.2 (by simpa using e)
 |[],[],_,_,_,e=>by simp at e
 |[],_::_,_,_,h,_=>h.elim
 |_::_,[],_,_,h,_=>h.elim
class PV {α:Type} (e:α→List SV):Prop where
 h:∀x,∃v:Value,e x=[.v v]
instance:PV Rj:=⟨fun _=>⟨_,rfl⟩⟩
instance:PV ah:=⟨fun _=>⟨_,rfl⟩⟩
instance:PV aS:=⟨fun _=>⟨_,rfl⟩⟩
theorem M4{α:Type}{e:α→List SV}{l:List α}{n:Nat}{M:Mem}{v:Value}(h:(slc n (l.map e)).h M v):l.length≤9223372036854775807:=by
 rcases h with⟨_,_,h⟩|⟨b,o,c,_,_,h,_⟩
 ·have:l=[]:=by simpa using h
  subst this;simp
 ·rwa[List.length_map]at h
theorem GO{α:Type}{e:α→List SV}{l:List α}{n:Nat}{M:Mem}{v:Value}(h:(ref [slc n (l.map e)]).h M v):l.length≤9223372036854775807:=by
 obtain⟨b,o,_,h⟩:=h
 obtain⟨y,_,_,h⟩:=h 0 _ rfl
 exact M4 h
theorem tv{l:List Nat}{i:Nat}(h:l.length≤i):l.getD i 0=0:=by simp[List.getD,List.getElem?_eq_none h]
theorem q9{l:List Nat}{i:Nat}(h:i<l.length):l[i]? =some (l.getD i 0):=by simp[List.getD,h]
theorem Fu{α β:Type}(a:List α)(b:List β)(i:Nat)(h:i≤max a.length b.length):(i<max a.length b.length∧i<a.length∧i<b.length)∨(i<max a.length b.length∧i<a.length∧b.length≤i)∨(i<max a.length b.length∧a.length≤i∧i<b.length)∨i=max a.length b.length:=by omega
section steps
variable {P:Program}{C:Ctx}{ops:Array Oper}{S:AS}{nd:Bool}{K:List Ac→AS→Prop}{rest:List Oper}{acc:List Ac}
variable {gd:Option (Nat×Bool)}{rg:List Nat}{d:Nat}{ty:TypeId}{pos:String}{aft:Array Edge}{x y z:Operand}{T U E0:TypeId}
variable {α:Type}{l l' k:List α}{e:α→List SV}{n by_:Nat}{zv:Value}
theorem Ro{E1:TypeId}(h:l'.length=l.length):(⟨E1,n,l.length,l'.flatMap e⟩:Row)=TR E1 n e l':=by show _=Row.mk _ _ _ _;rw[h]
theorem RT.Rp(hg:Gd ops S gd rg){f:FuncId}[cz P f]{g:Operand}{xs:Array Operand}{at_:Array TypeId}{args:List AV}{E1:TypeId}{res:AV}(hp:Fk P f args (TR E1 n e l) res (l'.flatMap e))(hlen:l'.length=l.length)(i:Nat)(hR:S.r i=.live (TR E1 n e l))(hrow:args.all AV.v8=true)(hres:res.v8=true)
  (hf:S.ev g=.sv (.v (.func (.func f) #[] #[]))) (hargs:th S xs.toList (args.map (AV.xj i))) (hd:d<S.n)
  (next:RunT P C ops nd K rest (⟨rg++(ak g++xs.toList.flatMap ak),[],[i],⟨some (d,res.xj i),[],[(i,.live (TR E1 n e l'))]⟩⟩::acc) ((AS.bg [(i,.live (TR E1 n e l'))] S).set d (res.xj i))):RunT P C ops nd K (⟨some d,.call ⟨.value g,xs,at_⟩,ty,pos,aft,gd⟩::rest) acc S:=
 RT.UQ hg hp i hR hrow hres hf hargs hd (by rw[Ro hlen];exact next)
theorem RT.Vg(hg:Gd ops S gd rg)[tS:dD P T E0 n]{i o m:Nat}{E1:TypeId}{lo hi:Option Operand}(a b:Int)(hx:S.ev x=.row i)(hR:S.r i=.live (TR E1 n e l))(hlo:yN S 0 lo a)(hhi:yN S l.length hi b)(hd:d<S.n)(h:Rn l a b=some (o,m))
  (next:RunT P C ops nd K rest (⟨rg++(ak x++(me lo++me hi)),[],[i],⟨some (d,.lS i (o*n) m),[],[]⟩⟩::acc) (S.set d (.lS i (o*n) m))):RunT P C ops nd K (⟨some d,.slice T x lo hi none,ty,pos,aft,gd⟩::rest) acc S:=by
 obtain⟨h0,h1,h2,h3,h4,h5⟩:=JW h
 exact RT.Q3 hg (.row hx hR) a b hlo hhi hd h0 h1 h2 h3 (o*n) m (by rw[h4];omega) h5 next
theorem RT.Rq(hg:Gd ops S gd rg){m:Nat}[tS:dD P T E0 m]{i o q:Nat}{c:Int}(hx:S.ev x=.lS i o q)(hd:d<S.n)(hc:(q:Int)=c)
  (next:RunT P C ops nd K rest (⟨rg++ak x,[],[],⟨some (d,.sv (.v (.int .i64 c))),[],[]⟩⟩::acc) (S.set d (.sv (.v (.int .i64 c))))):RunT P C ops nd K (⟨some d,.call ⟨.builtin .len,#[x],#[T]⟩,ty,pos,aft,gd⟩::rest) acc S:=
 RT.UP hg hx hd (by rw[hc];exact next)
theorem RT.DM(hg:Gd ops S gd rg)[tS:dD P T E0 n]{i o q j:Nat}{kk:IntKind}{v:Int}(hx:S.ev x=.lS i (o*n) q)(hy:S.ev y=.sv (.v (.int kk v)))(hd:d<S.n)(h:Mu o q v=some j)
  (next:RunT P C ops nd K rest (⟨rg++(ak x++ak y),[],[],⟨some (d,.gw i (j*n)),[],[]⟩⟩::acc) (S.set d (.gw i (j*n)))):RunT P C ops nd K (⟨some d,.indexAddr T x y,ty,pos,aft,gd⟩::rest) acc S:=by
 obtain⟨h0,h1,h2⟩:=JX h
 exact RT.ixR hg (.lS hx) hy hd h0 h1 (j*n) (by rw[←h2,Nat.add_mul]) next
end steps
def rf{S:Type}(body:Nat→S→Option S):Nat→S→Option S
 |0,s=>some s
 |n+1,s=>(rf body n s).bind (body n)
theorem oO{S:Type}{body:Nat→S→Option S}:∀{n:Nat} {s e:S},rf body n s=some e→∃st:Nat→S,st 0=s∧(∀k,k<n→body k (st k)=some (st (k+1)))∧st n=e
 |0,s,e,h=>⟨fun _=>s,rfl,fun _ h=>by omega,Option.some.inj h⟩
 |n+1,s,e,h=>by
  obtain⟨e1,h1,h2⟩:=bind_some (x:=rf body n s) h
  obtain⟨st,q1,q2,q3⟩:=oO h1
  refine⟨fun k=>if k=n+1 then e else st k,by simpa using q1,fun k hk=>?_,by simp⟩
  rcases Nat.lt_or_ge k n with hkn|hkn
  ·simpa[show k≠n+1 by omega,show k≠n by omega]using q2 k hkn
  ·obtain rfl:k=n:=by omega
   simpa[q3]using h2
theorem Be{S:Type}{body:Nat→S→Option S}(st:Nat→S):∀(n:Nat),(∀k,k<n→body k (st k)=some (st (k+1)))→rf body n (st 0)=some (st n)
 |0,_=>rfl
 |n+1,h=>by
  rw[rf,Be st n (fun k hk=>h k (by omega))]
  exact h n (by omega)
end Go.Fw
namespace Go.Fw
open Go.RowKit
def JY(es:List (Value×Value)):SV where
 h M v:=∃b,v=.map (some b)∧M b 0=some (.tuple ⟨es.map fun p=>.tuple #[p.1,p.2]⟩)
 mono hM h:=by obtain⟨b,e,h⟩:=h;exact⟨b,e,hM _ _ _ h⟩
class GP (P:Program) (T:TypeId) (k:outParam TypeId) (e:outParam TypeId):Prop where
 u:P.underlying T=some (.map k e)
def Bf(k:IntKind)(n:Int):List (Value×Value)→Option Value
 |[]=>none
 |(.int k' m,v)::l=>if k=k' then(if n=m then some v else Bf k n l)else none
 |_::_=>none
theorem sQ{k:IntKind}{n:Int}{v:Value}:∀(es:List MapEntry) (i:Nat),Bf k n (es.map fun e=>(e.key,e.val))=some v→∃j,Instr.findNow (.int k) (.int k n) es i=some (some (j,v))
 |[],_,h=>by simp[Bf]at h
 |⟨key,val,born⟩::es,i,h=>by
  cases key with
  |int k' m=>
   simp only[List.map_cons,Bf]at h
   by_cases hk:k=k'
   ·subst hk
    rw[if_pos rfl]at h
    by_cases hn:n=m
    ·subst hn
     rw[if_pos rfl]at h
     cases h
     exact⟨i,by simp[Instr.findNow,Instr.sameNow]⟩
    ·rw[if_neg hn]at h
     obtain⟨j,hj⟩:=sQ es (i+1) h
     have hb:(n==m)=false:=by simp[hn]
     exact⟨j,by simp[Instr.findNow,Instr.sameNow,hb,hj]⟩
   ·rw[if_neg hk]at h;cases h
  |_=>simp[Bf]at h
theorem GQ:∀(l:List (Value×Value)) (m:List MapEntry),l.map (fun p=>Value.tuple #[p.1,p.2])=m.map (fun e=>Value.tuple #[e.key,e.val])→m.map (fun e=>(e.key,e.val))=l
 |[],[],_=>rfl
 |[],_::_,h=>by simp at h
 |_::_,[],h=>by simp at h
 |(p,q)::l,e::m,h=>by
  simp only[List.map_cons,List.cons.injEq,Value.tuple.injEq]at h⊢
  refine⟨?_,GQ l m h.2⟩
  have:=h.1
  simp at this
  rw[this.1,this.2]
theorem JZ{es:Array MapEntry}{l:List (Value×Value)}(h:(⟨l.map fun p=>.tuple #[p.1,p.2]⟩:Array Value)=MD es):es.toList.map (fun e=>(e.key,e.val))=l:=
 GQ l es.toList (congrArg Array.toList h)
theorem getM{P:Program}{w:World}{r:Nat}{es:Array MapEntry}{ck:Nat}(hb:w.heap[r]? =some (.map es ck)):(getObj r).run P w=.ok (.map es ck) w:=by simp[getObj,Sem.run,hb]
theorem ac3{P:Program}{w:World}{r:Nat}{es:Array MapEntry}{ck:Nat}(o:Obj)(hb:w.heap[r]? =some (.map es ck)):(setObj r o).run P w=.ok () {w with heap:=w.heap.setIfInBounds r o}:=by simp[setObj,Sem.run,hb]
theorem ckM{P:Program}{w:World}{kt:TypeId}{k:IntKind}[tI:fU P kt k]{n:Int}(bb:Bool):(Instr.checkKey bb 10000 kt (.int k n)).run P w=.ok () w:=by
 rw[show(10000:Nat)=9999+1 from rfl,Instr.checkKey]
 simp[underlying,tI.h]
theorem J0{M:Mem}:∀l:List Value,SV.dw M (l.map SV.v) l
 |[]=>trivial
 |_::l=>⟨rfl,J0 l⟩
section steps
variable {P:Program}{C:Ctx}{ops:Array Oper}{S:AS}{nd:Bool}{K:List Ac→AS→Prop}{rest:List Oper}{acc:List Ac}
variable {gd:Option (Nat×Bool)}{rg:List Nat}{d:Nat}{ty:TypeId}{pos:String}{aft:Array Edge}{x y z:Operand}{T U E0:TypeId}
theorem RT.look(hg:Gd ops S gd rg){kt et:TypeId}[tM:GP P T kt et]{k:IntKind}[tI:fU P kt k]{es:List (Value×Value)}{n:Int}(cs:List Value)(hx:S.ev x=.sv (JY es))(hy:S.ev y=.sv (.v (.int k n)))(hl:Bf k n es=some (.agg ⟨cs⟩))(hd:d<S.n)
  (next:RunT P C ops nd K rest (⟨rg++(ak x++ak y),[],[],⟨some (d,.sv (.agg (cs.map SV.v))),[],[]⟩⟩::acc) (S.set d (.sv (.agg (cs.map SV.v))))):RunT P C ops nd K (⟨some d,.lookup T x y false,ty,pos,aft,gd⟩::rest) acc S:=
 RT.value hg (ak x++ak y) [] [] (.sv (.agg (cs.map SV.v))) hd (by intro c h;cases h) (fun S' ht _ _ E a w h=>by
  have h1:=h.ev x
  rw[aA (fun _ h=>List.mem_append_left _ h) ht,hx]at h1
  have h2:a.eval y=.int k n:=by have h2:=h.ev y;rw[aA (fun _ h=>List.mem_append_right _ h) ht,hy]at h2;exact h2
  obtain⟨b,e,hb⟩:=h1
  obtain⟨ms,ck,hm,he⟩:=h.bV _ _ _ hb
  have he:=JZ he
  rw[←he]at hl
  obtain⟨j,hj⟩:=sQ ms.toList 0 hl
  refine⟨.agg ⟨cs⟩,?_,⟨cs,rfl,?_⟩,dN⟩
  ·have hfk:(Instr.findKey kt (.int k n) ms.toList).run P w=.ok (some (j,.agg ⟨cs⟩)) w:=by
    simp[Instr.findKey,underlying,tI.h,hj]
   simp[execOp,e,h2,Instr.lookup,underlying,tM.u,getM hm,ckM,hfk]
  ·exact J0 cs) next
def ri(w:World)(ms:Array MapEntry)(ck:Nat):World:=w.alloc (.map ms ck)
theorem wj(w:World)(ms:Array MapEntry)(ck:Nat):(ri w ms ck).heap[w.heap.size]? =some (.map ms ck):=by show(w.heap.push _)[w.heap.size]? =_;simp
theorem run_make{d:Option Nat}{ρ:Operand→Value}{w:World}:(execOp ρ ⟨d,.makeMap T none,ty,pos,aft,none⟩).run P w=.ok (.value (.map (some w.heap.size))) (ri w #[] 0):=by
 simp[execOp,Instr.makeMap,ri]
theorem yf{d:Option Nat}{kt et:TypeId}[tM:GP P T kt et]{k:IntKind}[tI:fU P kt k]{ρ:Operand→Value}{w:World}{ms:Array MapEntry}{ck:Nat}{n:Int}{v:Value}(hx:ρ x=.map (some w.heap.size))(hy:ρ y=.int k n)(hz:ρ z=v)
  (hf:Instr.findNow (.int k) (.int k n) ms.toList 0=some none):(execOp ρ ⟨d,.insert T x y z,ty,pos,aft,none⟩).run P (ri w ms ck)=.ok .skip (ri w (ms.push ⟨.int k n,v,ck⟩) (ck+1)):=by
 have hfk:(Instr.findKey kt (.int k n) ms.toList).run P (ri w ms ck)=.ok none (ri w ms ck):=by
  simp[Instr.findKey,underlying,tI.h,hf]
 have ac5:∀o:Obj,{ri w ms ck with heap:=(ri w ms ck).heap.setIfInBounds w.heap.size o}=w.alloc o:=by
  intro o
  simp only[ri,World.alloc]
  congr 1
  apply Array.ext'
  simp
 simp[execOp,hx,hy,hz,Instr.mapUpdate,underlying,tM.u,getM (wj w ms ck),ckM,hfk,ac3 _ (wj w ms ck)]
 exact ac5 _
theorem yg{d:Option Nat}{z0:Value}[tP:bB P U [(0,1)] [z0]]{ρ:Operand→Value}{w:World}{v:Value}(hx:ρ x=v)(hv:v.oneCell'=true):(execOp ρ ⟨d,.build U #[(0,x)],ty,pos,aft,none⟩).run P w=.ok (.value (.agg #[v])) w:=by
 have hu:=tP.h
 cases hT:P.underlying U with
 |none=>rw[hT]at hu;cases hu
 |some u=>
  rw[hT]at hu
  cases u with
  |struct fs=>
   simp only at hu
   have hz:(zeroValue U).run P w=.ok (.agg ⟨[z0]⟩) w:=ay.run (t:=⟨tP.hz⟩) w
   have hm:(fs.mapM (fun f=>do pure (f.offset,←sizeOf f.type):Field→Sem (Nat×Nat))).run P w=.ok #[(0,1)] w:=by
    have:=qW (P:=P) (w:=w) hu
    rw[←Array.toArray_toList (xs:=fs),List.mapM_toArray]
    rw[Sem.run_map,this];rfl
   simp only[execOp,Instr.build,underlying]
   simp only[Sem.run_bind,hz,Result.andThen_ok,run_program,hT,Sem.run_pure,Value.cells]
   have hm':(Array.mapM (fun f=>do
     let __do_lift←sizeOf f.type
     pure (f.offset,__do_lift)) fs:Sem _).run P w=.ok #[(0,1)] w:=hm
   simp only[hm',Result.andThen_ok]
   have h1':Instr.fill (fun i=>(#[(0,1)]:Array (Nat×Nat))[i]?) ⟨[z0]⟩ [(0,v)]=some ⟨[v]⟩:=by
    simp[Instr.fill,hG hv]
    try rfl
   have e4:(Array.map (fun x=>match x with|(i,x)=>(i,ρ x)) #[(0,x)]).toList=[(0,v)]:=by simp[hx]
   simp only[e4,h1',Sem.run_pure,Result.andThen_ok]
  |_=>cases hu
theorem M5{Q:Exit→AS→Prop}{id:Nat}{T U kt et t0:TypeId}[tM:GP P T kt et]{k:IntKind}[tI:fU P kt k]{z0:Value}[tP:bB P U [(0,1)] [z0]]{f1 f2 f3 f4:FuncId}{n1 n2 n3 n4:Int}
  {p0 p1 p2 p3 p4 p5 p6 p7 p8 p9 p10:String} {a0 a1 a2 a3 a4 a5 a6 a7 a8 a9 a10:Array Edge} {u1 u2 u3 u4 u5 u6 u7 u8 u9:TypeId} (hn:7≤S.n)
  (h2:Instr.findNow (.int k) (.int k n2) [⟨.int k n1,.agg #[.func (.func f1) #[] #[]],0⟩] 0=some none)
  (h3:Instr.findNow (.int k) (.int k n3) [⟨.int k n1,.agg #[.func (.func f1) #[] #[]],0⟩,⟨.int k n2,.agg #[.func (.func f2) #[] #[]],1⟩] 0=some none)
  (h4:Instr.findNow (.int k) (.int k n4) [⟨.int k n1,.agg #[.func (.func f1) #[] #[]],0⟩,⟨.int k n2,.agg #[.func (.func f2) #[] #[]],1⟩,⟨.int k n3,.agg #[.func (.func f3) #[] #[]],2⟩] 0=some none)
  (hQ:∀S',S'.t 0=.sv (JY [(.int k n1,.agg #[.func (.func f1) #[] #[]]),(.int k n2,.agg #[.func (.func f2) #[] #[]]),(.int k n3,.agg #[.func (.func f3) #[] #[]]),(.int k n4,.agg #[.func (.func f4) #[] #[]])])→Q .normal S'):
  Ok P C (.region id #[⟨some 1,.makeMap T none,t0,p0,a0,none⟩,⟨some 2,.build U #[(0,.func f1)],u1,p1,a1,none⟩,⟨none,.insert T (.tmp 1) (.const (.int k n1)) (.tmp 2),u2,p2,a2,none⟩,
   ⟨some 3,.build U #[(0,.func f2)],u3,p3,a3,none⟩,⟨none,.insert T (.tmp 1) (.const (.int k n2)) (.tmp 3),u4,p4,a4,none⟩,⟨some 4,.build U #[(0,.func f3)],u5,p5,a5,none⟩,⟨none,.insert T (.tmp 1) (.const (.int k n3)) (.tmp 4),u6,p6,a6,none⟩,
   ⟨some 5,.build U #[(0,.func f4)],u7,p7,a7,none⟩,⟨none,.insert T (.tmp 1) (.const (.int k n4)) (.tmp 5),u8,p8,a8,none⟩,⟨some 6,.move (.tmp 1),u9,p9,a9,none⟩,⟨some 0,.assign (.tmp 6),u9,p10,a10,none⟩] false) S Q:=by
 rintro a w ⟨E,h⟩
 refine wpIn_region ?_
 show wpOpsIn _ _ _ _ _ [0,1,2,3,4,5,6,7,8,9,10] a w
 have hS:∀(S:AS) (d:Nat) (x:AV),(S.set d x).n=S.n:=fun _ _ _=>rfl
 rw[wpOpsIn_cons]
 refine bG (C:=C) rfl rfl (bH (C:=C) (by intro c h;cases h) run_make ?_)
 have g1:=h.put (d:=1) (x:=.sv (.v (.map (some w.heap.size)))) (v:=.map (some w.heap.size)) rfl (by omega) dN
 show wpOpsIn _ _ _ _ _ _ (a.put (some 1) _) _
 generalize a.put (some 1) (.map (some w.heap.size))=b1 at g1⊢
 rw[wpOpsIn_cons]
 refine bG (C:=C) rfl rfl (bH (C:=C) (by intro c h;cases h) (yg rfl rfl) ?_)
 have g2:=g1.put (d:=2) (x:=.sv (.v (.agg #[.func (.func f1) #[] #[]]))) (v:=.agg #[.func (.func f1) #[] #[]]) rfl (by rw[hS];omega) dN
 show wpOpsIn _ _ _ _ _ _ (b1.put (some 2) (.agg #[.func (.func f1) #[] #[]])) _
 generalize b1.put (some 2) (.agg #[.func (.func f1) #[] #[]])=b2 at g2⊢
 rw[wpOpsIn_cons]
 refine bG (C:=C) rfl rfl (bH (C:=C) (by intro c h;cases h) (yf (k:=k) (n:=n1) (v:=.agg #[.func (.func f1) #[] #[]]) (g2.ev (.tmp 1)) rfl (g2.ev (.tmp 2)) rfl) ?_)
 show wpOpsIn _ _ _ _ _ _ (b2.put none undef) _
 rw[show b2.put none undef=b2 from rfl,wpOpsIn_cons]
 refine bG (C:=C) rfl rfl (bH (C:=C) (by intro c h;cases h) (yg rfl rfl) ?_)
 have g3:=g2.put (d:=3) (x:=.sv (.v (.agg #[.func (.func f2) #[] #[]]))) (v:=.agg #[.func (.func f2) #[] #[]]) rfl (by rw[hS,hS];omega) dN
 show wpOpsIn _ _ _ _ _ _ (b2.put (some 3) (.agg #[.func (.func f2) #[] #[]])) _
 generalize b2.put (some 3) (.agg #[.func (.func f2) #[] #[]])=b3 at g3⊢
 rw[wpOpsIn_cons]
 refine bG (C:=C) rfl rfl (bH (C:=C) (by intro c h;cases h) (yf (k:=k) (n:=n2) (v:=.agg #[.func (.func f2) #[] #[]]) (g3.ev (.tmp 1)) rfl (g3.ev (.tmp 3)) (by simpa using h2)) ?_)
 show wpOpsIn _ _ _ _ _ _ (b3.put none undef) _
 rw[show b3.put none undef=b3 from rfl,wpOpsIn_cons]
 refine bG (C:=C) rfl rfl (bH (C:=C) (by intro c h;cases h) (yg rfl rfl) ?_)
 have g4:=g3.put (d:=4) (x:=.sv (.v (.agg #[.func (.func f3) #[] #[]]))) (v:=.agg #[.func (.func f3) #[] #[]]) rfl (by rw[hS,hS,hS];omega) dN
 show wpOpsIn _ _ _ _ _ _ (b3.put (some 4) (.agg #[.func (.func f3) #[] #[]])) _
 generalize b3.put (some 4) (.agg #[.func (.func f3) #[] #[]])=b4 at g4⊢
 rw[wpOpsIn_cons]
 refine bG (C:=C) rfl rfl (bH (C:=C) (by intro c h;cases h) (yf (k:=k) (n:=n3) (v:=.agg #[.func (.func f3) #[] #[]]) (g4.ev (.tmp 1)) rfl (g4.ev (.tmp 4)) (by simpa using h3)) ?_)
 show wpOpsIn _ _ _ _ _ _ (b4.put none undef) _
 rw[show b4.put none undef=b4 from rfl,wpOpsIn_cons]
 refine bG (C:=C) rfl rfl (bH (C:=C) (by intro c h;cases h) (yg rfl rfl) ?_)
 have g5:=g4.put (d:=5) (x:=.sv (.v (.agg #[.func (.func f4) #[] #[]]))) (v:=.agg #[.func (.func f4) #[] #[]]) rfl (by rw[hS,hS,hS,hS];omega) dN
 show wpOpsIn _ _ _ _ _ _ (b4.put (some 5) (.agg #[.func (.func f4) #[] #[]])) _
 generalize b4.put (some 5) (.agg #[.func (.func f4) #[] #[]])=b5 at g5⊢
 rw[wpOpsIn_cons]
 refine bG (C:=C) rfl rfl (bH (C:=C) (by intro c h;cases h) (yf (k:=k) (n:=n4) (v:=.agg #[.func (.func f4) #[] #[]]) (g5.ev (.tmp 1)) rfl (g5.ev (.tmp 5)) (by simpa using h4)) ?_)
 show wpOpsIn _ _ _ _ _ _ (b5.put none undef) _
 have e1:b5.eval (.tmp 1)=.map (some w.heap.size):=g5.ev (.tmp 1)
 obtain⟨ms,hms⟩:∃ms:Array MapEntry,(((((#[]:Array MapEntry).push ⟨.int k n1,.agg #[.func (.func f1) #[] #[]],0⟩).push ⟨.int k n2,.agg #[.func (.func f2) #[] #[]],0+1⟩).push ⟨.int k n3,.agg #[.func (.func f3) #[] #[]],0+1+1⟩).push ⟨.int k n4,.agg #[.func (.func f4) #[] #[]],0+1+1+1⟩)=ms:=⟨_,rfl⟩
 rw[hms]
 have hno:∀o,E.M w.heap.size o=none:=fun o=>by
  cases e:E.M w.heap.size o with
  |none=>rfl
  |some v=>have:=iU h.bV e;omega
 have g6:=g5.grow (M':=fun b o=>if b=w.heap.size∧o=0 then some (.tuple (MD ms))else E.M b o) (w':=ri w ms (0+1+1+1+1)) (fun b o v e=>by
   have:b≠w.heap.size:=by rintro rfl;rw[hno o]at e;cases e
   simp[this,e]) (fun b o v e=>by
   by_cases hb:b=w.heap.size∧o=0
   ·exact .inr (by omega)
   ·simp only[if_neg hb]at e;exact .inl e) (fun b o v e=>by
   by_cases hb:b=w.heap.size∧o=0
   ·simp only[if_pos hb]at e
    obtain⟨rfl,rfl⟩:=hb
    cases e
    exact⟨ms,_,wj w ms _,rfl⟩
   ·simp only[if_neg hb]at e
    have hlt:=iU h.bV e
    refine(h.bV b o v e).same ?_
    show(w.heap.push _)[b]? =_
    rw[Array.getElem?_push,if_neg (by omega)]) ((Below.refl _ _).alloc (Nat.le_refl _) _)
 have hm:∀X:Env,X.M w.heap.size 0=some (.tuple (MD ms))→(JY [(.int k n1,.agg #[.func (.func f1) #[] #[]]),(.int k n2,.agg #[.func (.func f2) #[] #[]]),(.int k n3,.agg #[.func (.func f3) #[] #[]]),(.int k n4,.agg #[.func (.func f4) #[] #[]])]).h X.M (.map (some w.heap.size)):=fun X hX=>by
  refine⟨_,rfl,?_⟩
  rw[hX,←hms];rfl
 have g7:=g6.put (d:=6) (x:=.sv (.v (.map (some w.heap.size)))) (v:=.map (some w.heap.size)) rfl (by rw[hS,hS,hS,hS,hS];omega) dN
 rw[show b5.put none undef=b5 from rfl,wpOpsIn_cons]
 refine bG (C:=C) rfl rfl (bH (C:=C) (by intro c h;cases h) (r:=.ok (.value (.map (some w.heap.size))) _) (by show Result.ok (Next.value (b5.eval (.tmp 1))) _=_;rw[e1]) ?_)
 show wpOpsIn _ _ _ _ _ _ (b5.put (some 6) (.map (some w.heap.size))) _
 generalize b5.put (some 6) (.map (some w.heap.size))=b6 at g7⊢
 have e6:b6.eval (.tmp 6)=.map (some w.heap.size):=g7.ev (.tmp 6)
 have g8:=g7.put (d:=0) (x:=.sv (JY [(.int k n1,.agg #[.func (.func f1) #[] #[]]),(.int k n2,.agg #[.func (.func f2) #[] #[]]),(.int k n3,.agg #[.func (.func f3) #[] #[]]),(.int k n4,.agg #[.func (.func f4) #[] #[]])])) (v:=.map (some w.heap.size)) (hm _ (by simp)) (by rw[hS,hS,hS,hS,hS,hS];omega) dN
 rw[wpOpsIn_cons]
 refine bG (C:=C) rfl rfl (bH (C:=C) (by intro c h;cases h) (r:=.ok (.value (.map (some w.heap.size))) _) (by show Result.ok (Next.value (b6.eval (.tmp 6))) _=_;rw[e6]) ?_)
 show wpOpsIn _ _ _ _ _ _ (b6.put (some 0) (.map (some w.heap.size))) _
 rw[wpOpsIn]
 exact⟨_,hQ _ rfl,_,g8⟩
end steps
def Uf(Q:Exit→AS→Prop):Exit→AS→Prop
 |.goto _,_=>False
 |e,S=>Q e S
section scope
variable {P:Program}{C:Ctx}{S:AS}{Q:Exit→AS→Prop}
theorem Uf.n(h:Q .normal S):Uf Q .normal S:=h
theorem Uf.r(h:Q .ret S):Uf Q .ret S:=h
theorem Uf.x{id:Nat}(h:Q (.exit id) S):Uf Q (.exit id) S:=h
end scope
end Go.Fw
namespace Go.Fw
open Go.RowKit
class O3 (P:Program) (T:TypeId) (n:outParam Nat) (E:outParam TypeId) (sz:outParam Nat) (z:outParam (List Value)):Prop where
 u:P.underlying T=some (.array n E)
 s:(P.info? E).map (·.size)=some sz
 hz:(P.info? T).bind (·.zero)=some (.agg ⟨z⟩)
 o:z.all (fun v=>v.oneCell')=true
theorem O3.size{P:Program}{T E:TypeId}{n sz:Nat}{z:List Value}[t:O3 P T n E sz z](w:World):(sizeOf E).run P w=.ok sz w:=by
 have h:=t.s
 unfold Go.sizeOf typeInfo
 cases hi:P.info? E with
 |none=>rw[hi]at h;simp at h
 |some i=>rw[hi]at h;simp at h;simp[hi,h]
section
variable {P:Program}{C:Ctx}{ops:Array Oper}{S:AS}{nd:Bool}{K:List Ac→AS→Prop}{rest:List Oper}{acc:List Ac}
variable {gd:Option (Nat×Bool)}{rg:List Nat}{d:Nat}{ty:TypeId}{pos:String}{aft:Array Edge}{x y z:Operand}{T U E0:TypeId}
end
end Go.Fw
namespace Go.Proofs.YtmiflmkdaeianaaGreat
open Go.Fw
open Go.Proofs
instance:cK Tryz.prog 1:=⟨by kernel_rfl,by kernel_rfl⟩
instance:ay Tryz.prog 1 (.nilFunc):=⟨by kernel_rfl⟩
instance:aK Tryz.prog 1 1 8 (.nilFunc):=⟨by kernel_rfl,by rfl,by decide,by decide⟩
instance:fU Tryz.prog 2 .i64:=⟨by kernel_rfl⟩
instance:cK Tryz.prog 2:=⟨by kernel_rfl,by kernel_rfl⟩
instance:ay Tryz.prog 2 (.int .i64 0):=⟨by kernel_rfl⟩
instance:aK Tryz.prog 2 1 8 (.int .i64 0):=⟨by kernel_rfl,by rfl,by decide,by decide⟩
instance:fU Tryz.prog 3 .i64:=⟨by kernel_rfl⟩
instance:cK Tryz.prog 3:=⟨by kernel_rfl,by kernel_rfl⟩
instance:ay Tryz.prog 3 (.int .i64 0):=⟨by kernel_rfl⟩
instance:aK Tryz.prog 3 1 8 (.int .i64 0):=⟨by kernel_rfl,by rfl,by decide,by decide⟩
instance:yD Tryz.prog 4:=⟨by kernel_rfl⟩
instance:cK Tryz.prog 4:=⟨by kernel_rfl,by kernel_rfl⟩
instance:ay Tryz.prog 4 (.bool false):=⟨by kernel_rfl⟩
instance:aK Tryz.prog 4 1 1 (.bool false):=⟨by kernel_rfl,by rfl,by decide,by decide⟩
instance:fU Tryz.prog 5 .u8:=⟨by kernel_rfl⟩
instance:cK Tryz.prog 5:=⟨by kernel_rfl,by kernel_rfl⟩
instance:ay Tryz.prog 5 (.int .u8 0):=⟨by kernel_rfl⟩
instance:aK Tryz.prog 5 1 1 (.int .u8 0):=⟨by kernel_rfl,by rfl,by decide,by decide⟩
instance:fU Tryz.prog 6 .u8:=⟨by kernel_rfl⟩
instance:cK Tryz.prog 6:=⟨by kernel_rfl,by kernel_rfl⟩
instance:ay Tryz.prog 6 (.int .u8 0):=⟨by kernel_rfl⟩
instance:aK Tryz.prog 6 1 1 (.int .u8 0):=⟨by kernel_rfl,by rfl,by decide,by decide⟩
instance:gU Tryz.prog 7 4:=⟨by kernel_rfl,by kernel_rfl⟩
instance:eK Tryz.prog 7:=⟨fun w=>⟨3,gU.size (T:=7) (n:=4) w⟩⟩
instance:ay Tryz.prog 7 (.agg #[.int .i64 0,.int .i64 0,.bool false,.int .u8 0]):=⟨by kernel_rfl⟩
instance:aK Tryz.prog 7 4 24 (.agg #[.int .i64 0,.int .i64 0,.bool false,.int .u8 0]):=⟨by kernel_rfl,by rfl,by decide,by decide⟩
instance:bB Tryz.prog 7 [(0,1),(1,1),(2,1),(3,1)] [.int .i64 0,.int .i64 0,.bool false,.int .u8 0]:=⟨by kernel_rfl,by kernel_rfl,by rfl⟩
instance:eP Tryz.prog 7 0 0 2:=⟨by kernel_rfl⟩
instance:eP Tryz.prog 7 1 1 3:=⟨by kernel_rfl⟩
instance:eP Tryz.prog 7 2 2 4:=⟨by kernel_rfl⟩
instance:eP Tryz.prog 7 3 3 6:=⟨by kernel_rfl⟩
instance:gU Tryz.prog 8 4:=⟨by kernel_rfl,by kernel_rfl⟩
instance:eK Tryz.prog 8:=⟨fun w=>⟨3,gU.size (T:=8) (n:=4) w⟩⟩
instance:ay Tryz.prog 8 (.agg #[.int .i64 0,.int .i64 0,.bool false,.int .u8 0]):=⟨by kernel_rfl⟩
instance:aK Tryz.prog 8 4 24 (.agg #[.int .i64 0,.int .i64 0,.bool false,.int .u8 0]):=⟨by kernel_rfl,by rfl,by decide,by decide⟩
instance:bB Tryz.prog 8 [(0,1),(1,1),(2,1),(3,1)] [.int .i64 0,.int .i64 0,.bool false,.int .u8 0]:=⟨by kernel_rfl,by kernel_rfl,by rfl⟩
instance:eP Tryz.prog 8 0 0 2:=⟨by kernel_rfl⟩
instance:eP Tryz.prog 8 1 1 3:=⟨by kernel_rfl⟩
instance:eP Tryz.prog 8 2 2 4:=⟨by kernel_rfl⟩
instance:eP Tryz.prog 8 3 3 6:=⟨by kernel_rfl⟩
instance:Dt Tryz.prog 9:=⟨by kernel_rfl⟩
instance:cK Tryz.prog 9:=⟨by kernel_rfl,by kernel_rfl⟩
instance:ay Tryz.prog 9 (.string (ByteArray.mk #[])):=⟨by kernel_rfl⟩
instance:aK Tryz.prog 9 1 16 (.string (ByteArray.mk #[])):=⟨by kernel_rfl,by rfl,by decide,by decide⟩
instance:Dt Tryz.prog 10:=⟨by kernel_rfl⟩
instance:cK Tryz.prog 10:=⟨by kernel_rfl,by kernel_rfl⟩
instance:ay Tryz.prog 10 (.string (ByteArray.mk #[])):=⟨by kernel_rfl⟩
instance:aK Tryz.prog 10 1 16 (.string (ByteArray.mk #[])):=⟨by kernel_rfl,by rfl,by decide,by decide⟩
instance:Dt Tryz.prog 11:=⟨by kernel_rfl⟩
instance:cK Tryz.prog 11:=⟨by kernel_rfl,by kernel_rfl⟩
instance:ay Tryz.prog 11 (.string (ByteArray.mk #[])):=⟨by kernel_rfl⟩
instance:aK Tryz.prog 11 1 16 (.string (ByteArray.mk #[])):=⟨by kernel_rfl,by rfl,by decide,by decide⟩
instance:fU Tryz.prog 12 .u64:=⟨by kernel_rfl⟩
instance:cK Tryz.prog 12:=⟨by kernel_rfl,by kernel_rfl⟩
instance:ay Tryz.prog 12 (.int .u64 0):=⟨by kernel_rfl⟩
instance:aK Tryz.prog 12 1 8 (.int .u64 0):=⟨by kernel_rfl,by rfl,by decide,by decide⟩
instance:gU Tryz.prog 13 2:=⟨by kernel_rfl,by kernel_rfl⟩
instance:eK Tryz.prog 13:=⟨fun w=>⟨1,gU.size (T:=13) (n:=2) w⟩⟩
instance:ay Tryz.prog 13 (.agg #[.string (ByteArray.mk #[]),.int .u64 0]):=⟨by kernel_rfl⟩
instance:aK Tryz.prog 13 2 24 (.agg #[.string (ByteArray.mk #[]),.int .u64 0]):=⟨by kernel_rfl,by rfl,by decide,by decide⟩
instance:bB Tryz.prog 13 [(0,1),(1,1)] [.string (ByteArray.mk #[]),.int .u64 0]:=⟨by kernel_rfl,by kernel_rfl,by rfl⟩
instance:eP Tryz.prog 13 0 0 9:=⟨by kernel_rfl⟩
instance:eP Tryz.prog 13 1 1 12:=⟨by kernel_rfl⟩
instance:gU Tryz.prog 14 2:=⟨by kernel_rfl,by kernel_rfl⟩
instance:eK Tryz.prog 14:=⟨fun w=>⟨1,gU.size (T:=14) (n:=2) w⟩⟩
instance:ay Tryz.prog 14 (.agg #[.string (ByteArray.mk #[]),.int .u64 0]):=⟨by kernel_rfl⟩
instance:aK Tryz.prog 14 2 24 (.agg #[.string (ByteArray.mk #[]),.int .u64 0]):=⟨by kernel_rfl,by rfl,by decide,by decide⟩
instance:bB Tryz.prog 14 [(0,1),(1,1)] [.string (ByteArray.mk #[]),.int .u64 0]:=⟨by kernel_rfl,by kernel_rfl,by rfl⟩
instance:eP Tryz.prog 14 0 0 9:=⟨by kernel_rfl⟩
instance:eP Tryz.prog 14 1 1 12:=⟨by kernel_rfl⟩
instance:cK Tryz.prog 15:=⟨by kernel_rfl,by kernel_rfl⟩
instance:ay Tryz.prog 15 (.pointer none):=⟨by kernel_rfl⟩
instance:aK Tryz.prog 15 1 8 (.pointer none):=⟨by kernel_rfl,by rfl,by decide,by decide⟩
instance:cK Tryz.prog 16:=⟨by kernel_rfl,by kernel_rfl⟩
instance:ay Tryz.prog 16 (.pointer none):=⟨by kernel_rfl⟩
instance:aK Tryz.prog 16 1 8 (.pointer none):=⟨by kernel_rfl,by rfl,by decide,by decide⟩
instance:cK Tryz.prog 17:=⟨by kernel_rfl,by kernel_rfl⟩
instance:ay Tryz.prog 17 (.pointer none):=⟨by kernel_rfl⟩
instance:aK Tryz.prog 17 1 8 (.pointer none):=⟨by kernel_rfl,by rfl,by decide,by decide⟩
instance:gU Tryz.prog 18 1:=⟨by kernel_rfl,by kernel_rfl⟩
instance:eK Tryz.prog 18:=⟨fun w=>⟨0,gU.size (T:=18) (n:=1) w⟩⟩
instance:ay Tryz.prog 18 (.agg #[.pointer none]):=⟨by kernel_rfl⟩
instance:aK Tryz.prog 18 1 8 (.agg #[.pointer none]):=⟨by kernel_rfl,by rfl,by decide,by decide⟩
instance:bB Tryz.prog 18 [(0,1)] [.pointer none]:=⟨by kernel_rfl,by kernel_rfl,by rfl⟩
instance:eP Tryz.prog 18 0 0 17:=⟨by kernel_rfl⟩
instance:gU Tryz.prog 19 1:=⟨by kernel_rfl,by kernel_rfl⟩
instance:eK Tryz.prog 19:=⟨fun w=>⟨0,gU.size (T:=19) (n:=1) w⟩⟩
instance:ay Tryz.prog 19 (.agg #[.pointer none]):=⟨by kernel_rfl⟩
instance:aK Tryz.prog 19 1 8 (.agg #[.pointer none]):=⟨by kernel_rfl,by rfl,by decide,by decide⟩
instance:bB Tryz.prog 19 [(0,1)] [.pointer none]:=⟨by kernel_rfl,by kernel_rfl,by rfl⟩
instance:eP Tryz.prog 19 0 0 17:=⟨by kernel_rfl⟩
instance:cK Tryz.prog 20:=⟨by kernel_rfl,by kernel_rfl⟩
instance:ay Tryz.prog 20 (.nilIface):=⟨by kernel_rfl⟩
instance:aK Tryz.prog 20 1 16 (.nilIface):=⟨by kernel_rfl,by rfl,by decide,by decide⟩
instance:fU Tryz.prog 21 .i32:=⟨by kernel_rfl⟩
instance:cK Tryz.prog 21:=⟨by kernel_rfl,by kernel_rfl⟩
instance:ay Tryz.prog 21 (.int .i32 0):=⟨by kernel_rfl⟩
instance:aK Tryz.prog 21 1 4 (.int .i32 0):=⟨by kernel_rfl,by rfl,by decide,by decide⟩
instance:cK Tryz.prog 22:=⟨by kernel_rfl,by kernel_rfl⟩
instance:ay Tryz.prog 22 (.slice none 0 0):=⟨by kernel_rfl⟩
instance:aK Tryz.prog 22 1 24 (.slice none 0 0):=⟨by kernel_rfl,by rfl,by decide,by decide⟩
instance:dD Tryz.prog 22 39 7:=⟨by kernel_rfl,by kernel_rfl⟩
instance:cK Tryz.prog 23:=⟨by kernel_rfl,by kernel_rfl⟩
instance:ay Tryz.prog 23 (.nilFunc):=⟨by kernel_rfl⟩
instance:aK Tryz.prog 23 1 8 (.nilFunc):=⟨by kernel_rfl,by rfl,by decide,by decide⟩
instance:cK Tryz.prog 24:=⟨by kernel_rfl,by kernel_rfl⟩
instance:ay Tryz.prog 24 (.nilFunc):=⟨by kernel_rfl⟩
instance:aK Tryz.prog 24 1 8 (.nilFunc):=⟨by kernel_rfl,by rfl,by decide,by decide⟩
instance:cK Tryz.prog 25:=⟨by kernel_rfl,by kernel_rfl⟩
instance:ay Tryz.prog 25 (.pointer none):=⟨by kernel_rfl⟩
instance:aK Tryz.prog 25 1 8 (.pointer none):=⟨by kernel_rfl,by rfl,by decide,by decide⟩
instance:fU Tryz.prog 26 .i64:=⟨by kernel_rfl⟩
instance:cK Tryz.prog 26:=⟨by kernel_rfl,by kernel_rfl⟩
instance:ay Tryz.prog 26 (.int .i64 0):=⟨by kernel_rfl⟩
instance:aK Tryz.prog 26 1 8 (.int .i64 0):=⟨by kernel_rfl,by rfl,by decide,by decide⟩
instance:cK Tryz.prog 28:=⟨by kernel_rfl,by kernel_rfl⟩
instance:ay Tryz.prog 28 (.nilFunc):=⟨by kernel_rfl⟩
instance:aK Tryz.prog 28 1 8 (.nilFunc):=⟨by kernel_rfl,by rfl,by decide,by decide⟩
instance:cK Tryz.prog 29:=⟨by kernel_rfl,by kernel_rfl⟩
instance:ay Tryz.prog 29 (.pointer none):=⟨by kernel_rfl⟩
instance:aK Tryz.prog 29 1 8 (.pointer none):=⟨by kernel_rfl,by rfl,by decide,by decide⟩
instance:cK Tryz.prog 31:=⟨by kernel_rfl,by kernel_rfl⟩
instance:ay Tryz.prog 31 (.nilFunc):=⟨by kernel_rfl⟩
instance:aK Tryz.prog 31 1 8 (.nilFunc):=⟨by kernel_rfl,by rfl,by decide,by decide⟩
instance:cK Tryz.prog 32:=⟨by kernel_rfl,by kernel_rfl⟩
instance:ay Tryz.prog 32 (.nilFunc):=⟨by kernel_rfl⟩
instance:aK Tryz.prog 32 1 8 (.nilFunc):=⟨by kernel_rfl,by rfl,by decide,by decide⟩
instance:cK Tryz.prog 33:=⟨by kernel_rfl,by kernel_rfl⟩
instance:ay Tryz.prog 33 (.slice none 0 0):=⟨by kernel_rfl⟩
instance:aK Tryz.prog 33 1 24 (.slice none 0 0):=⟨by kernel_rfl,by rfl,by decide,by decide⟩
instance:dD Tryz.prog 33 69 1:=⟨by kernel_rfl,by kernel_rfl⟩
instance:gU Tryz.prog 34 2:=⟨by kernel_rfl,by kernel_rfl⟩
instance:eK Tryz.prog 34:=⟨fun w=>⟨1,gU.size (T:=34) (n:=2) w⟩⟩
instance:ay Tryz.prog 34 (.agg #[.bool false,.slice none 0 0]):=⟨by kernel_rfl⟩
instance:aK Tryz.prog 34 2 32 (.agg #[.bool false,.slice none 0 0]):=⟨by kernel_rfl,by rfl,by decide,by decide⟩
instance:bB Tryz.prog 34 [(0,1),(1,1)] [.bool false,.slice none 0 0]:=⟨by kernel_rfl,by kernel_rfl,by rfl⟩
instance:eP Tryz.prog 34 0 0 4:=⟨by kernel_rfl⟩
instance:eP Tryz.prog 34 1 1 33:=⟨by kernel_rfl⟩
instance:gU Tryz.prog 35 2:=⟨by kernel_rfl,by kernel_rfl⟩
instance:eK Tryz.prog 35:=⟨fun w=>⟨1,gU.size (T:=35) (n:=2) w⟩⟩
instance:ay Tryz.prog 35 (.agg #[.bool false,.slice none 0 0]):=⟨by kernel_rfl⟩
instance:aK Tryz.prog 35 2 32 (.agg #[.bool false,.slice none 0 0]):=⟨by kernel_rfl,by rfl,by decide,by decide⟩
instance:bB Tryz.prog 35 [(0,1),(1,1)] [.bool false,.slice none 0 0]:=⟨by kernel_rfl,by kernel_rfl,by rfl⟩
instance:eP Tryz.prog 35 0 0 4:=⟨by kernel_rfl⟩
instance:eP Tryz.prog 35 1 1 33:=⟨by kernel_rfl⟩
instance:gU Tryz.prog 36 4:=⟨by kernel_rfl,by kernel_rfl⟩
instance:eK Tryz.prog 36:=⟨fun w=>⟨3,gU.size (T:=36) (n:=4) w⟩⟩
instance:ay Tryz.prog 36 (.agg #[.bool false,.slice none 0 0,.bool false,.slice none 0 0]):=⟨by kernel_rfl⟩
instance:aK Tryz.prog 36 4 64 (.agg #[.bool false,.slice none 0 0,.bool false,.slice none 0 0]):=⟨by kernel_rfl,by rfl,by decide,by decide⟩
instance:bB Tryz.prog 36 [(0,2),(2,2)] [.bool false,.slice none 0 0,.bool false,.slice none 0 0]:=⟨by kernel_rfl,by kernel_rfl,by rfl⟩
instance:eP Tryz.prog 36 0 0 35:=⟨by kernel_rfl⟩
instance:eP Tryz.prog 36 1 2 35:=⟨by kernel_rfl⟩
instance:gU Tryz.prog 37 4:=⟨by kernel_rfl,by kernel_rfl⟩
instance:eK Tryz.prog 37:=⟨fun w=>⟨3,gU.size (T:=37) (n:=4) w⟩⟩
instance:ay Tryz.prog 37 (.agg #[.bool false,.slice none 0 0,.bool false,.slice none 0 0]):=⟨by kernel_rfl⟩
instance:aK Tryz.prog 37 4 64 (.agg #[.bool false,.slice none 0 0,.bool false,.slice none 0 0]):=⟨by kernel_rfl,by rfl,by decide,by decide⟩
instance:bB Tryz.prog 37 [(0,2),(2,2)] [.bool false,.slice none 0 0,.bool false,.slice none 0 0]:=⟨by kernel_rfl,by kernel_rfl,by rfl⟩
instance:eP Tryz.prog 37 0 0 35:=⟨by kernel_rfl⟩
instance:eP Tryz.prog 37 1 2 35:=⟨by kernel_rfl⟩
instance:gU Tryz.prog 38 7:=⟨by kernel_rfl,by kernel_rfl⟩
instance:eK Tryz.prog 38:=⟨fun w=>⟨6,gU.size (T:=38) (n:=7) w⟩⟩
instance:ay Tryz.prog 38 (.agg #[.int .i64 0,.int .u8 0,.int .i64 0,.bool false,.slice none 0 0,.bool false,.slice none 0 0]):=⟨by kernel_rfl⟩
instance:aK Tryz.prog 38 7 88 (.agg #[.int .i64 0,.int .u8 0,.int .i64 0,.bool false,.slice none 0 0,.bool false,.slice none 0 0]):=⟨by kernel_rfl,by rfl,by decide,by decide⟩
instance:bB Tryz.prog 38 [(0,1),(1,1),(2,1),(3,4)] [.int .i64 0,.int .u8 0,.int .i64 0,.bool false,.slice none 0 0,.bool false,.slice none 0 0]:=⟨by kernel_rfl,by kernel_rfl,by rfl⟩
instance:eP Tryz.prog 38 0 0 3:=⟨by kernel_rfl⟩
instance:eP Tryz.prog 38 1 1 5:=⟨by kernel_rfl⟩
instance:eP Tryz.prog 38 2 2 3:=⟨by kernel_rfl⟩
instance:eP Tryz.prog 38 3 3 37:=⟨by kernel_rfl⟩
instance:gU Tryz.prog 39 7:=⟨by kernel_rfl,by kernel_rfl⟩
instance:eK Tryz.prog 39:=⟨fun w=>⟨6,gU.size (T:=39) (n:=7) w⟩⟩
instance:ay Tryz.prog 39 (.agg #[.int .i64 0,.int .u8 0,.int .i64 0,.bool false,.slice none 0 0,.bool false,.slice none 0 0]):=⟨by kernel_rfl⟩
instance:aK Tryz.prog 39 7 88 (.agg #[.int .i64 0,.int .u8 0,.int .i64 0,.bool false,.slice none 0 0,.bool false,.slice none 0 0]):=⟨by kernel_rfl,by rfl,by decide,by decide⟩
instance:bB Tryz.prog 39 [(0,1),(1,1),(2,1),(3,4)] [.int .i64 0,.int .u8 0,.int .i64 0,.bool false,.slice none 0 0,.bool false,.slice none 0 0]:=⟨by kernel_rfl,by kernel_rfl,by rfl⟩
instance:eP Tryz.prog 39 0 0 3:=⟨by kernel_rfl⟩
instance:eP Tryz.prog 39 1 1 5:=⟨by kernel_rfl⟩
instance:eP Tryz.prog 39 2 2 3:=⟨by kernel_rfl⟩
instance:eP Tryz.prog 39 3 3 37:=⟨by kernel_rfl⟩
instance:cK Tryz.prog 40:=⟨by kernel_rfl,by kernel_rfl⟩
instance:ay Tryz.prog 40 (.nilFunc):=⟨by kernel_rfl⟩
instance:aK Tryz.prog 40 1 8 (.nilFunc):=⟨by kernel_rfl,by rfl,by decide,by decide⟩
instance:cK Tryz.prog 41:=⟨by kernel_rfl,by kernel_rfl⟩
instance:ay Tryz.prog 41 (.nilFunc):=⟨by kernel_rfl⟩
instance:aK Tryz.prog 41 1 8 (.nilFunc):=⟨by kernel_rfl,by rfl,by decide,by decide⟩
instance:cK Tryz.prog 42:=⟨by kernel_rfl,by kernel_rfl⟩
instance:ay Tryz.prog 42 (.slice none 0 0):=⟨by kernel_rfl⟩
instance:aK Tryz.prog 42 1 24 (.slice none 0 0):=⟨by kernel_rfl,by rfl,by decide,by decide⟩
instance:dD Tryz.prog 42 61 5:=⟨by kernel_rfl,by kernel_rfl⟩
instance:cK Tryz.prog 43:=⟨by kernel_rfl,by kernel_rfl⟩
instance:ay Tryz.prog 43 (.nilFunc):=⟨by kernel_rfl⟩
instance:aK Tryz.prog 43 1 8 (.nilFunc):=⟨by kernel_rfl,by rfl,by decide,by decide⟩
instance:cK Tryz.prog 45:=⟨by kernel_rfl,by kernel_rfl⟩
instance:ay Tryz.prog 45 (.nilFunc):=⟨by kernel_rfl⟩
instance:aK Tryz.prog 45 1 8 (.nilFunc):=⟨by kernel_rfl,by rfl,by decide,by decide⟩
instance:cK Tryz.prog 46:=⟨by kernel_rfl,by kernel_rfl⟩
instance:ay Tryz.prog 46 (.nilFunc):=⟨by kernel_rfl⟩
instance:aK Tryz.prog 46 1 8 (.nilFunc):=⟨by kernel_rfl,by rfl,by decide,by decide⟩
instance:cK Tryz.prog 47:=⟨by kernel_rfl,by kernel_rfl⟩
instance:ay Tryz.prog 47 (.slice none 0 0):=⟨by kernel_rfl⟩
instance:aK Tryz.prog 47 1 24 (.slice none 0 0):=⟨by kernel_rfl,by rfl,by decide,by decide⟩
instance:dD Tryz.prog 47 37 4:=⟨by kernel_rfl,by kernel_rfl⟩
instance:cK Tryz.prog 48:=⟨by kernel_rfl,by kernel_rfl⟩
instance:ay Tryz.prog 48 (.nilFunc):=⟨by kernel_rfl⟩
instance:aK Tryz.prog 48 1 8 (.nilFunc):=⟨by kernel_rfl,by rfl,by decide,by decide⟩
instance:cK Tryz.prog 49:=⟨by kernel_rfl,by kernel_rfl⟩
instance:ay Tryz.prog 49 (.nilFunc):=⟨by kernel_rfl⟩
instance:aK Tryz.prog 49 1 8 (.nilFunc):=⟨by kernel_rfl,by rfl,by decide,by decide⟩
instance:cK Tryz.prog 50:=⟨by kernel_rfl,by kernel_rfl⟩
instance:ay Tryz.prog 50 (.slice none 0 0):=⟨by kernel_rfl⟩
instance:aK Tryz.prog 50 1 24 (.slice none 0 0):=⟨by kernel_rfl,by rfl,by decide,by decide⟩
instance:dD Tryz.prog 50 35 2:=⟨by kernel_rfl,by kernel_rfl⟩
instance:cK Tryz.prog 51:=⟨by kernel_rfl,by kernel_rfl⟩
instance:ay Tryz.prog 51 (.nilFunc):=⟨by kernel_rfl⟩
instance:aK Tryz.prog 51 1 8 (.nilFunc):=⟨by kernel_rfl,by rfl,by decide,by decide⟩
instance:cK Tryz.prog 52:=⟨by kernel_rfl,by kernel_rfl⟩
instance:ay Tryz.prog 52 (.nilFunc):=⟨by kernel_rfl⟩
instance:aK Tryz.prog 52 1 8 (.nilFunc):=⟨by kernel_rfl,by rfl,by decide,by decide⟩
instance:cK Tryz.prog 53:=⟨by kernel_rfl,by kernel_rfl⟩
instance:ay Tryz.prog 53 (.nilFunc):=⟨by kernel_rfl⟩
instance:aK Tryz.prog 53 1 8 (.nilFunc):=⟨by kernel_rfl,by rfl,by decide,by decide⟩
instance:cK Tryz.prog 54:=⟨by kernel_rfl,by kernel_rfl⟩
instance:ay Tryz.prog 54 (.nilFunc):=⟨by kernel_rfl⟩
instance:aK Tryz.prog 54 1 8 (.nilFunc):=⟨by kernel_rfl,by rfl,by decide,by decide⟩
instance:gU Tryz.prog 55 2:=⟨by kernel_rfl,by kernel_rfl⟩
instance:eK Tryz.prog 55:=⟨fun w=>⟨1,gU.size (T:=55) (n:=2) w⟩⟩
instance:ay Tryz.prog 55 (.agg #[.int .i64 0,.slice none 0 0]):=⟨by kernel_rfl⟩
instance:aK Tryz.prog 55 2 32 (.agg #[.int .i64 0,.slice none 0 0]):=⟨by kernel_rfl,by rfl,by decide,by decide⟩
instance:bB Tryz.prog 55 [(0,1),(1,1)] [.int .i64 0,.slice none 0 0]:=⟨by kernel_rfl,by kernel_rfl,by rfl⟩
instance:eP Tryz.prog 55 0 0 3:=⟨by kernel_rfl⟩
instance:eP Tryz.prog 55 1 1 42:=⟨by kernel_rfl⟩
instance:gU Tryz.prog 56 2:=⟨by kernel_rfl,by kernel_rfl⟩
instance:eK Tryz.prog 56:=⟨fun w=>⟨1,gU.size (T:=56) (n:=2) w⟩⟩
instance:ay Tryz.prog 56 (.agg #[.int .i64 0,.slice none 0 0]):=⟨by kernel_rfl⟩
instance:aK Tryz.prog 56 2 32 (.agg #[.int .i64 0,.slice none 0 0]):=⟨by kernel_rfl,by rfl,by decide,by decide⟩
instance:bB Tryz.prog 56 [(0,1),(1,1)] [.int .i64 0,.slice none 0 0]:=⟨by kernel_rfl,by kernel_rfl,by rfl⟩
instance:eP Tryz.prog 56 0 0 3:=⟨by kernel_rfl⟩
instance:eP Tryz.prog 56 1 1 42:=⟨by kernel_rfl⟩
instance:cK Tryz.prog 57:=⟨by kernel_rfl,by kernel_rfl⟩
instance:ay Tryz.prog 57 (.slice none 0 0):=⟨by kernel_rfl⟩
instance:aK Tryz.prog 57 1 24 (.slice none 0 0):=⟨by kernel_rfl,by rfl,by decide,by decide⟩
instance:dD Tryz.prog 57 64 5:=⟨by kernel_rfl,by kernel_rfl⟩
instance:gU Tryz.prog 58 2:=⟨by kernel_rfl,by kernel_rfl⟩
instance:eK Tryz.prog 58:=⟨fun w=>⟨1,gU.size (T:=58) (n:=2) w⟩⟩
instance:ay Tryz.prog 58 (.agg #[.int .i64 0,.slice none 0 0]):=⟨by kernel_rfl⟩
instance:aK Tryz.prog 58 2 32 (.agg #[.int .i64 0,.slice none 0 0]):=⟨by kernel_rfl,by rfl,by decide,by decide⟩
instance:bB Tryz.prog 58 [(0,1),(1,1)] [.int .i64 0,.slice none 0 0]:=⟨by kernel_rfl,by kernel_rfl,by rfl⟩
instance:eP Tryz.prog 58 0 0 3:=⟨by kernel_rfl⟩
instance:eP Tryz.prog 58 1 1 57:=⟨by kernel_rfl⟩
instance:gU Tryz.prog 59 2:=⟨by kernel_rfl,by kernel_rfl⟩
instance:eK Tryz.prog 59:=⟨fun w=>⟨1,gU.size (T:=59) (n:=2) w⟩⟩
instance:ay Tryz.prog 59 (.agg #[.int .i64 0,.slice none 0 0]):=⟨by kernel_rfl⟩
instance:aK Tryz.prog 59 2 32 (.agg #[.int .i64 0,.slice none 0 0]):=⟨by kernel_rfl,by rfl,by decide,by decide⟩
instance:bB Tryz.prog 59 [(0,1),(1,1)] [.int .i64 0,.slice none 0 0]:=⟨by kernel_rfl,by kernel_rfl,by rfl⟩
instance:eP Tryz.prog 59 0 0 3:=⟨by kernel_rfl⟩
instance:eP Tryz.prog 59 1 1 57:=⟨by kernel_rfl⟩
instance:gU Tryz.prog 60 5:=⟨by kernel_rfl,by kernel_rfl⟩
instance:eK Tryz.prog 60:=⟨fun w=>⟨4,gU.size (T:=60) (n:=5) w⟩⟩
instance:ay Tryz.prog 60 (.agg #[.int .i64 0,.int .u8 0,.int .i64 0,.bool false,.slice none 0 0]):=⟨by kernel_rfl⟩
instance:aK Tryz.prog 60 5 56 (.agg #[.int .i64 0,.int .u8 0,.int .i64 0,.bool false,.slice none 0 0]):=⟨by kernel_rfl,by rfl,by decide,by decide⟩
instance:bB Tryz.prog 60 [(0,1),(1,1),(2,1),(3,2)] [.int .i64 0,.int .u8 0,.int .i64 0,.bool false,.slice none 0 0]:=⟨by kernel_rfl,by kernel_rfl,by rfl⟩
instance:eP Tryz.prog 60 0 0 3:=⟨by kernel_rfl⟩
instance:eP Tryz.prog 60 1 1 5:=⟨by kernel_rfl⟩
instance:eP Tryz.prog 60 2 2 3:=⟨by kernel_rfl⟩
instance:eP Tryz.prog 60 3 3 35:=⟨by kernel_rfl⟩
instance:gU Tryz.prog 61 5:=⟨by kernel_rfl,by kernel_rfl⟩
instance:eK Tryz.prog 61:=⟨fun w=>⟨4,gU.size (T:=61) (n:=5) w⟩⟩
instance:ay Tryz.prog 61 (.agg #[.int .i64 0,.int .u8 0,.int .i64 0,.bool false,.slice none 0 0]):=⟨by kernel_rfl⟩
instance:aK Tryz.prog 61 5 56 (.agg #[.int .i64 0,.int .u8 0,.int .i64 0,.bool false,.slice none 0 0]):=⟨by kernel_rfl,by rfl,by decide,by decide⟩
instance:bB Tryz.prog 61 [(0,1),(1,1),(2,1),(3,2)] [.int .i64 0,.int .u8 0,.int .i64 0,.bool false,.slice none 0 0]:=⟨by kernel_rfl,by kernel_rfl,by rfl⟩
instance:eP Tryz.prog 61 0 0 3:=⟨by kernel_rfl⟩
instance:eP Tryz.prog 61 1 1 5:=⟨by kernel_rfl⟩
instance:eP Tryz.prog 61 2 2 3:=⟨by kernel_rfl⟩
instance:eP Tryz.prog 61 3 3 35:=⟨by kernel_rfl⟩
instance:cK Tryz.prog 62:=⟨by kernel_rfl,by kernel_rfl⟩
instance:ay Tryz.prog 62 (.nilFunc):=⟨by kernel_rfl⟩
instance:aK Tryz.prog 62 1 8 (.nilFunc):=⟨by kernel_rfl,by rfl,by decide,by decide⟩
instance:cK Tryz.prog 63:=⟨by kernel_rfl,by kernel_rfl⟩
instance:ay Tryz.prog 63 (.nilFunc):=⟨by kernel_rfl⟩
instance:aK Tryz.prog 63 1 8 (.nilFunc):=⟨by kernel_rfl,by rfl,by decide,by decide⟩
instance:gU Tryz.prog 64 5:=⟨by kernel_rfl,by kernel_rfl⟩
instance:eK Tryz.prog 64:=⟨fun w=>⟨4,gU.size (T:=64) (n:=5) w⟩⟩
instance:ay Tryz.prog 64 (.agg #[.int .i64 0,.int .u8 0,.int .i64 0,.bool false,.slice none 0 0]):=⟨by kernel_rfl⟩
instance:aK Tryz.prog 64 5 56 (.agg #[.int .i64 0,.int .u8 0,.int .i64 0,.bool false,.slice none 0 0]):=⟨by kernel_rfl,by rfl,by decide,by decide⟩
instance:bB Tryz.prog 64 [(0,1),(1,1),(2,1),(3,2)] [.int .i64 0,.int .u8 0,.int .i64 0,.bool false,.slice none 0 0]:=⟨by kernel_rfl,by kernel_rfl,by rfl⟩
instance:eP Tryz.prog 64 0 0 3:=⟨by kernel_rfl⟩
instance:eP Tryz.prog 64 1 1 5:=⟨by kernel_rfl⟩
instance:eP Tryz.prog 64 2 2 3:=⟨by kernel_rfl⟩
instance:eP Tryz.prog 64 3 3 35:=⟨by kernel_rfl⟩
instance:cK Tryz.prog 65:=⟨by kernel_rfl,by kernel_rfl⟩
instance:ay Tryz.prog 65 (.nilFunc):=⟨by kernel_rfl⟩
instance:aK Tryz.prog 65 1 8 (.nilFunc):=⟨by kernel_rfl,by rfl,by decide,by decide⟩
instance:cK Tryz.prog 66:=⟨by kernel_rfl,by kernel_rfl⟩
instance:ay Tryz.prog 66 (.nilFunc):=⟨by kernel_rfl⟩
instance:aK Tryz.prog 66 1 8 (.nilFunc):=⟨by kernel_rfl,by rfl,by decide,by decide⟩
instance:cK Tryz.prog 67:=⟨by kernel_rfl,by kernel_rfl⟩
instance:ay Tryz.prog 67 (.nilFunc):=⟨by kernel_rfl⟩
instance:aK Tryz.prog 67 1 8 (.nilFunc):=⟨by kernel_rfl,by rfl,by decide,by decide⟩
instance:cK Tryz.prog 68:=⟨by kernel_rfl,by kernel_rfl⟩
instance:ay Tryz.prog 68 (.nilFunc):=⟨by kernel_rfl⟩
instance:aK Tryz.prog 68 1 8 (.nilFunc):=⟨by kernel_rfl,by rfl,by decide,by decide⟩
instance:fU Tryz.prog 69 .u32:=⟨by kernel_rfl⟩
instance:cK Tryz.prog 69:=⟨by kernel_rfl,by kernel_rfl⟩
instance:ay Tryz.prog 69 (.int .u32 0):=⟨by kernel_rfl⟩
instance:aK Tryz.prog 69 1 4 (.int .u32 0):=⟨by kernel_rfl,by rfl,by decide,by decide⟩
instance:cK Tryz.prog 70:=⟨by kernel_rfl,by kernel_rfl⟩
instance:ay Tryz.prog 70 (.nilFunc):=⟨by kernel_rfl⟩
instance:aK Tryz.prog 70 1 8 (.nilFunc):=⟨by kernel_rfl,by rfl,by decide,by decide⟩
instance:cK Tryz.prog 71:=⟨by kernel_rfl,by kernel_rfl⟩
instance:ay Tryz.prog 71 (.slice none 0 0):=⟨by kernel_rfl⟩
instance:aK Tryz.prog 71 1 24 (.slice none 0 0):=⟨by kernel_rfl,by rfl,by decide,by decide⟩
instance:dD Tryz.prog 71 47 1:=⟨by kernel_rfl,by kernel_rfl⟩
instance:cK Tryz.prog 73:=⟨by kernel_rfl,by kernel_rfl⟩
instance:ay Tryz.prog 73 (.nilFunc):=⟨by kernel_rfl⟩
instance:aK Tryz.prog 73 1 8 (.nilFunc):=⟨by kernel_rfl,by rfl,by decide,by decide⟩
instance:cK Tryz.prog 74:=⟨by kernel_rfl,by kernel_rfl⟩
instance:ay Tryz.prog 74 (.nilFunc):=⟨by kernel_rfl⟩
instance:aK Tryz.prog 74 1 8 (.nilFunc):=⟨by kernel_rfl,by rfl,by decide,by decide⟩
instance:cK Tryz.prog 75:=⟨by kernel_rfl,by kernel_rfl⟩
instance:ay Tryz.prog 75 (.nilFunc):=⟨by kernel_rfl⟩
instance:aK Tryz.prog 75 1 8 (.nilFunc):=⟨by kernel_rfl,by rfl,by decide,by decide⟩
instance:cK Tryz.prog 76:=⟨by kernel_rfl,by kernel_rfl⟩
instance:ay Tryz.prog 76 (.nilFunc):=⟨by kernel_rfl⟩
instance:aK Tryz.prog 76 1 8 (.nilFunc):=⟨by kernel_rfl,by rfl,by decide,by decide⟩
instance:cK Tryz.prog 77:=⟨by kernel_rfl,by kernel_rfl⟩
instance:ay Tryz.prog 77 (.nilFunc):=⟨by kernel_rfl⟩
instance:aK Tryz.prog 77 1 8 (.nilFunc):=⟨by kernel_rfl,by rfl,by decide,by decide⟩
instance:cK Tryz.prog 79:=⟨by kernel_rfl,by kernel_rfl⟩
instance:ay Tryz.prog 79 (.nilFunc):=⟨by kernel_rfl⟩
instance:aK Tryz.prog 79 1 8 (.nilFunc):=⟨by kernel_rfl,by rfl,by decide,by decide⟩
instance:cK Tryz.prog 80:=⟨by kernel_rfl,by kernel_rfl⟩
instance:ay Tryz.prog 80 (.nilFunc):=⟨by kernel_rfl⟩
instance:aK Tryz.prog 80 1 8 (.nilFunc):=⟨by kernel_rfl,by rfl,by decide,by decide⟩
instance:cK Tryz.prog 82:=⟨by kernel_rfl,by kernel_rfl⟩
instance:ay Tryz.prog 82 (.nilFunc):=⟨by kernel_rfl⟩
instance:aK Tryz.prog 82 1 8 (.nilFunc):=⟨by kernel_rfl,by rfl,by decide,by decide⟩
instance:cK Tryz.prog 83:=⟨by kernel_rfl,by kernel_rfl⟩
instance:ay Tryz.prog 83 (.nilFunc):=⟨by kernel_rfl⟩
instance:aK Tryz.prog 83 1 8 (.nilFunc):=⟨by kernel_rfl,by rfl,by decide,by decide⟩
instance:cK Tryz.prog 84:=⟨by kernel_rfl,by kernel_rfl⟩
instance:ay Tryz.prog 84 (.nilFunc):=⟨by kernel_rfl⟩
instance:aK Tryz.prog 84 1 8 (.nilFunc):=⟨by kernel_rfl,by rfl,by decide,by decide⟩
instance:cK Tryz.prog 85:=⟨by kernel_rfl,by kernel_rfl⟩
instance:ay Tryz.prog 85 (.nilFunc):=⟨by kernel_rfl⟩
instance:aK Tryz.prog 85 1 8 (.nilFunc):=⟨by kernel_rfl,by rfl,by decide,by decide⟩
instance:fU Tryz.prog 86 .u64:=⟨by kernel_rfl⟩
instance:cK Tryz.prog 86:=⟨by kernel_rfl,by kernel_rfl⟩
instance:ay Tryz.prog 86 (.int .u64 0):=⟨by kernel_rfl⟩
instance:aK Tryz.prog 86 1 8 (.int .u64 0):=⟨by kernel_rfl,by rfl,by decide,by decide⟩
instance:cK Tryz.prog 87:=⟨by kernel_rfl,by kernel_rfl⟩
instance:ay Tryz.prog 87 (.nilFunc):=⟨by kernel_rfl⟩
instance:aK Tryz.prog 87 1 8 (.nilFunc):=⟨by kernel_rfl,by rfl,by decide,by decide⟩
instance:cK Tryz.prog 89:=⟨by kernel_rfl,by kernel_rfl⟩
instance:ay Tryz.prog 89 (.nilFunc):=⟨by kernel_rfl⟩
instance:aK Tryz.prog 89 1 8 (.nilFunc):=⟨by kernel_rfl,by rfl,by decide,by decide⟩
instance:cK Tryz.prog 90:=⟨by kernel_rfl,by kernel_rfl⟩
instance:ay Tryz.prog 90 (.nilFunc):=⟨by kernel_rfl⟩
instance:aK Tryz.prog 90 1 8 (.nilFunc):=⟨by kernel_rfl,by rfl,by decide,by decide⟩
instance:cK Tryz.prog 91:=⟨by kernel_rfl,by kernel_rfl⟩
instance:ay Tryz.prog 91 (.nilFunc):=⟨by kernel_rfl⟩
instance:aK Tryz.prog 91 1 8 (.nilFunc):=⟨by kernel_rfl,by rfl,by decide,by decide⟩
instance:cK Tryz.prog 93:=⟨by kernel_rfl,by kernel_rfl⟩
instance:ay Tryz.prog 93 (.nilFunc):=⟨by kernel_rfl⟩
instance:aK Tryz.prog 93 1 8 (.nilFunc):=⟨by kernel_rfl,by rfl,by decide,by decide⟩
instance:cK Tryz.prog 94:=⟨by kernel_rfl,by kernel_rfl⟩
instance:ay Tryz.prog 94 (.nilFunc):=⟨by kernel_rfl⟩
instance:aK Tryz.prog 94 1 8 (.nilFunc):=⟨by kernel_rfl,by rfl,by decide,by decide⟩
instance:cK Tryz.prog 95:=⟨by kernel_rfl,by kernel_rfl⟩
instance:ay Tryz.prog 95 (.nilFunc):=⟨by kernel_rfl⟩
instance:aK Tryz.prog 95 1 8 (.nilFunc):=⟨by kernel_rfl,by rfl,by decide,by decide⟩
instance:cK Tryz.prog 97:=⟨by kernel_rfl,by kernel_rfl⟩
instance:ay Tryz.prog 97 (.nilFunc):=⟨by kernel_rfl⟩
instance:aK Tryz.prog 97 1 8 (.nilFunc):=⟨by kernel_rfl,by rfl,by decide,by decide⟩
instance:cK Tryz.prog 98:=⟨by kernel_rfl,by kernel_rfl⟩
instance:ay Tryz.prog 98 (.nilFunc):=⟨by kernel_rfl⟩
instance:aK Tryz.prog 98 1 8 (.nilFunc):=⟨by kernel_rfl,by rfl,by decide,by decide⟩
instance:cK Tryz.prog 99:=⟨by kernel_rfl,by kernel_rfl⟩
instance:ay Tryz.prog 99 (.nilFunc):=⟨by kernel_rfl⟩
instance:aK Tryz.prog 99 1 8 (.nilFunc):=⟨by kernel_rfl,by rfl,by decide,by decide⟩
instance:cK Tryz.prog 100:=⟨by kernel_rfl,by kernel_rfl⟩
instance:ay Tryz.prog 100 (.slice none 0 0):=⟨by kernel_rfl⟩
instance:aK Tryz.prog 100 1 24 (.slice none 0 0):=⟨by kernel_rfl,by rfl,by decide,by decide⟩
instance:dD Tryz.prog 100 3 1:=⟨by kernel_rfl,by kernel_rfl⟩
instance:cK Tryz.prog 101:=⟨by kernel_rfl,by kernel_rfl⟩
instance:ay Tryz.prog 101 (.nilFunc):=⟨by kernel_rfl⟩
instance:aK Tryz.prog 101 1 8 (.nilFunc):=⟨by kernel_rfl,by rfl,by decide,by decide⟩
instance:cK Tryz.prog 102:=⟨by kernel_rfl,by kernel_rfl⟩
instance:ay Tryz.prog 102 (.nilFunc):=⟨by kernel_rfl⟩
instance:aK Tryz.prog 102 1 8 (.nilFunc):=⟨by kernel_rfl,by rfl,by decide,by decide⟩
instance:cK Tryz.prog 103:=⟨by kernel_rfl,by kernel_rfl⟩
instance:ay Tryz.prog 103 (.nilFunc):=⟨by kernel_rfl⟩
instance:aK Tryz.prog 103 1 8 (.nilFunc):=⟨by kernel_rfl,by rfl,by decide,by decide⟩
instance:cK Tryz.prog 104:=⟨by kernel_rfl,by kernel_rfl⟩
instance:ay Tryz.prog 104 (.nilFunc):=⟨by kernel_rfl⟩
instance:aK Tryz.prog 104 1 8 (.nilFunc):=⟨by kernel_rfl,by rfl,by decide,by decide⟩
instance:cK Tryz.prog 105:=⟨by kernel_rfl,by kernel_rfl⟩
instance:ay Tryz.prog 105 (.nilFunc):=⟨by kernel_rfl⟩
instance:aK Tryz.prog 105 1 8 (.nilFunc):=⟨by kernel_rfl,by rfl,by decide,by decide⟩
instance:cK Tryz.prog 106:=⟨by kernel_rfl,by kernel_rfl⟩
instance:ay Tryz.prog 106 (.nilFunc):=⟨by kernel_rfl⟩
instance:aK Tryz.prog 106 1 8 (.nilFunc):=⟨by kernel_rfl,by rfl,by decide,by decide⟩
instance:cK Tryz.prog 108:=⟨by kernel_rfl,by kernel_rfl⟩
instance:ay Tryz.prog 108 (.nilFunc):=⟨by kernel_rfl⟩
instance:aK Tryz.prog 108 1 8 (.nilFunc):=⟨by kernel_rfl,by rfl,by decide,by decide⟩
instance:cK Tryz.prog 109:=⟨by kernel_rfl,by kernel_rfl⟩
instance:ay Tryz.prog 109 (.nilFunc):=⟨by kernel_rfl⟩
instance:aK Tryz.prog 109 1 8 (.nilFunc):=⟨by kernel_rfl,by rfl,by decide,by decide⟩
instance:cK Tryz.prog 110:=⟨by kernel_rfl,by kernel_rfl⟩
instance:ay Tryz.prog 110 (.nilFunc):=⟨by kernel_rfl⟩
instance:aK Tryz.prog 110 1 8 (.nilFunc):=⟨by kernel_rfl,by rfl,by decide,by decide⟩
instance:fU Tryz.prog 111 .u64:=⟨by kernel_rfl⟩
instance:cK Tryz.prog 111:=⟨by kernel_rfl,by kernel_rfl⟩
instance:ay Tryz.prog 111 (.int .u64 0):=⟨by kernel_rfl⟩
instance:aK Tryz.prog 111 1 8 (.int .u64 0):=⟨by kernel_rfl,by rfl,by decide,by decide⟩
instance:cK Tryz.prog 112:=⟨by kernel_rfl,by kernel_rfl⟩
instance:ay Tryz.prog 112 (.nilFunc):=⟨by kernel_rfl⟩
instance:aK Tryz.prog 112 1 8 (.nilFunc):=⟨by kernel_rfl,by rfl,by decide,by decide⟩
instance:gU Tryz.prog 113 1:=⟨by kernel_rfl,by kernel_rfl⟩
instance:eK Tryz.prog 113:=⟨fun w=>⟨0,gU.size (T:=113) (n:=1) w⟩⟩
instance:ay Tryz.prog 113 (.agg #[.nilFunc]):=⟨by kernel_rfl⟩
instance:aK Tryz.prog 113 1 8 (.agg #[.nilFunc]):=⟨by kernel_rfl,by rfl,by decide,by decide⟩
instance:bB Tryz.prog 113 [(0,1)] [.nilFunc]:=⟨by kernel_rfl,by kernel_rfl,by rfl⟩
instance:eP Tryz.prog 113 0 0 112:=⟨by kernel_rfl⟩
instance:gU Tryz.prog 114 1:=⟨by kernel_rfl,by kernel_rfl⟩
instance:eK Tryz.prog 114:=⟨fun w=>⟨0,gU.size (T:=114) (n:=1) w⟩⟩
instance:ay Tryz.prog 114 (.agg #[.nilFunc]):=⟨by kernel_rfl⟩
instance:aK Tryz.prog 114 1 8 (.agg #[.nilFunc]):=⟨by kernel_rfl,by rfl,by decide,by decide⟩
instance:bB Tryz.prog 114 [(0,1)] [.nilFunc]:=⟨by kernel_rfl,by kernel_rfl,by rfl⟩
instance:eP Tryz.prog 114 0 0 112:=⟨by kernel_rfl⟩
instance:cK Tryz.prog 115:=⟨by kernel_rfl,by kernel_rfl⟩
instance:ay Tryz.prog 115 (.map none):=⟨by kernel_rfl⟩
instance:aK Tryz.prog 115 1 8 (.map none):=⟨by kernel_rfl,by rfl,by decide,by decide⟩
instance:GP Tryz.prog 115 5 114:=⟨by kernel_rfl⟩
instance:cK Tryz.prog 116:=⟨by kernel_rfl,by kernel_rfl⟩
instance:ay Tryz.prog 116 (.nilFunc):=⟨by kernel_rfl⟩
instance:aK Tryz.prog 116 1 8 (.nilFunc):=⟨by kernel_rfl,by rfl,by decide,by decide⟩
instance:cK Tryz.prog 117:=⟨by kernel_rfl,by kernel_rfl⟩
instance:ay Tryz.prog 117 (.nilFunc):=⟨by kernel_rfl⟩
instance:aK Tryz.prog 117 1 8 (.nilFunc):=⟨by kernel_rfl,by rfl,by decide,by decide⟩
instance:cK Tryz.prog 118:=⟨by kernel_rfl,by kernel_rfl⟩
instance:ay Tryz.prog 118 (.nilFunc):=⟨by kernel_rfl⟩
instance:aK Tryz.prog 118 1 8 (.nilFunc):=⟨by kernel_rfl,by rfl,by decide,by decide⟩
instance:cK Tryz.prog 119:=⟨by kernel_rfl,by kernel_rfl⟩
instance:ay Tryz.prog 119 (.nilFunc):=⟨by kernel_rfl⟩
instance:aK Tryz.prog 119 1 8 (.nilFunc):=⟨by kernel_rfl,by rfl,by decide,by decide⟩
instance:cK Tryz.prog 120:=⟨by kernel_rfl,by kernel_rfl⟩
instance:ay Tryz.prog 120 (.nilFunc):=⟨by kernel_rfl⟩
instance:aK Tryz.prog 120 1 8 (.nilFunc):=⟨by kernel_rfl,by rfl,by decide,by decide⟩
instance:cK Tryz.prog 121:=⟨by kernel_rfl,by kernel_rfl⟩
instance:ay Tryz.prog 121 (.nilFunc):=⟨by kernel_rfl⟩
instance:aK Tryz.prog 121 1 8 (.nilFunc):=⟨by kernel_rfl,by rfl,by decide,by decide⟩
instance:cK Tryz.prog 122:=⟨by kernel_rfl,by kernel_rfl⟩
instance:ay Tryz.prog 122 (.nilFunc):=⟨by kernel_rfl⟩
instance:aK Tryz.prog 122 1 8 (.nilFunc):=⟨by kernel_rfl,by rfl,by decide,by decide⟩
instance:cK Tryz.prog 123:=⟨by kernel_rfl,by kernel_rfl⟩
instance:ay Tryz.prog 123 (.nilFunc):=⟨by kernel_rfl⟩
instance:aK Tryz.prog 123 1 8 (.nilFunc):=⟨by kernel_rfl,by rfl,by decide,by decide⟩
instance:cK Tryz.prog 124:=⟨by kernel_rfl,by kernel_rfl⟩
instance:ay Tryz.prog 124 (.nilFunc):=⟨by kernel_rfl⟩
instance:aK Tryz.prog 124 1 8 (.nilFunc):=⟨by kernel_rfl,by rfl,by decide,by decide⟩
instance:cK Tryz.prog 125:=⟨by kernel_rfl,by kernel_rfl⟩
instance:ay Tryz.prog 125 (.nilFunc):=⟨by kernel_rfl⟩
instance:aK Tryz.prog 125 1 8 (.nilFunc):=⟨by kernel_rfl,by rfl,by decide,by decide⟩
instance:cK Tryz.prog 126:=⟨by kernel_rfl,by kernel_rfl⟩
instance:ay Tryz.prog 126 (.nilFunc):=⟨by kernel_rfl⟩
instance:aK Tryz.prog 126 1 8 (.nilFunc):=⟨by kernel_rfl,by rfl,by decide,by decide⟩
instance:cK Tryz.prog 127:=⟨by kernel_rfl,by kernel_rfl⟩
instance:ay Tryz.prog 127 (.nilFunc):=⟨by kernel_rfl⟩
instance:aK Tryz.prog 127 1 8 (.nilFunc):=⟨by kernel_rfl,by rfl,by decide,by decide⟩
instance:cK Tryz.prog 128:=⟨by kernel_rfl,by kernel_rfl⟩
instance:ay Tryz.prog 128 (.nilFunc):=⟨by kernel_rfl⟩
instance:aK Tryz.prog 128 1 8 (.nilFunc):=⟨by kernel_rfl,by rfl,by decide,by decide⟩
instance:cK Tryz.prog 129:=⟨by kernel_rfl,by kernel_rfl⟩
instance:ay Tryz.prog 129 (.nilFunc):=⟨by kernel_rfl⟩
instance:aK Tryz.prog 129 1 8 (.nilFunc):=⟨by kernel_rfl,by rfl,by decide,by decide⟩
instance:cK Tryz.prog 130:=⟨by kernel_rfl,by kernel_rfl⟩
instance:ay Tryz.prog 130 (.nilFunc):=⟨by kernel_rfl⟩
instance:aK Tryz.prog 130 1 8 (.nilFunc):=⟨by kernel_rfl,by rfl,by decide,by decide⟩
instance:cK Tryz.prog 131:=⟨by kernel_rfl,by kernel_rfl⟩
instance:ay Tryz.prog 131 (.nilFunc):=⟨by kernel_rfl⟩
instance:aK Tryz.prog 131 1 8 (.nilFunc):=⟨by kernel_rfl,by rfl,by decide,by decide⟩
instance:cK Tryz.prog 132:=⟨by kernel_rfl,by kernel_rfl⟩
instance:ay Tryz.prog 132 (.nilFunc):=⟨by kernel_rfl⟩
instance:aK Tryz.prog 132 1 8 (.nilFunc):=⟨by kernel_rfl,by rfl,by decide,by decide⟩
instance:cK Tryz.prog 133:=⟨by kernel_rfl,by kernel_rfl⟩
instance:ay Tryz.prog 133 (.nilFunc):=⟨by kernel_rfl⟩
instance:aK Tryz.prog 133 1 8 (.nilFunc):=⟨by kernel_rfl,by rfl,by decide,by decide⟩
instance:cK Tryz.prog 134:=⟨by kernel_rfl,by kernel_rfl⟩
instance:ay Tryz.prog 134 (.nilFunc):=⟨by kernel_rfl⟩
instance:aK Tryz.prog 134 1 8 (.nilFunc):=⟨by kernel_rfl,by rfl,by decide,by decide⟩
instance:gU Tryz.prog 135 4:=⟨by kernel_rfl,by kernel_rfl⟩
instance:eK Tryz.prog 135:=⟨fun w=>⟨3,gU.size (T:=135) (n:=4) w⟩⟩
instance:ay Tryz.prog 135 (.agg #[.pointer none,.pointer none,.pointer none,.string (ByteArray.mk #[])]):=⟨by kernel_rfl⟩
instance:aK Tryz.prog 135 4 40 (.agg #[.pointer none,.pointer none,.pointer none,.string (ByteArray.mk #[])]):=⟨by kernel_rfl,by rfl,by decide,by decide⟩
instance:bB Tryz.prog 135 [(0,1),(1,1),(2,1),(3,1)] [.pointer none,.pointer none,.pointer none,.string (ByteArray.mk #[])]:=⟨by kernel_rfl,by kernel_rfl,by rfl⟩
instance:eP Tryz.prog 135 0 0 17:=⟨by kernel_rfl⟩
instance:eP Tryz.prog 135 1 1 17:=⟨by kernel_rfl⟩
instance:eP Tryz.prog 135 2 2 17:=⟨by kernel_rfl⟩
instance:eP Tryz.prog 135 3 3 9:=⟨by kernel_rfl⟩
instance:gU Tryz.prog 136 4:=⟨by kernel_rfl,by kernel_rfl⟩
instance:eK Tryz.prog 136:=⟨fun w=>⟨3,gU.size (T:=136) (n:=4) w⟩⟩
instance:ay Tryz.prog 136 (.agg #[.pointer none,.pointer none,.pointer none,.string (ByteArray.mk #[])]):=⟨by kernel_rfl⟩
instance:aK Tryz.prog 136 4 40 (.agg #[.pointer none,.pointer none,.pointer none,.string (ByteArray.mk #[])]):=⟨by kernel_rfl,by rfl,by decide,by decide⟩
instance:bB Tryz.prog 136 [(0,1),(1,1),(2,1),(3,1)] [.pointer none,.pointer none,.pointer none,.string (ByteArray.mk #[])]:=⟨by kernel_rfl,by kernel_rfl,by rfl⟩
instance:eP Tryz.prog 136 0 0 17:=⟨by kernel_rfl⟩
instance:eP Tryz.prog 136 1 1 17:=⟨by kernel_rfl⟩
instance:eP Tryz.prog 136 2 2 17:=⟨by kernel_rfl⟩
instance:eP Tryz.prog 136 3 3 9:=⟨by kernel_rfl⟩
instance:gU Tryz.prog 137 0:=⟨by kernel_rfl,by kernel_rfl⟩
instance:ay Tryz.prog 137 (.agg #[]):=⟨by kernel_rfl⟩
instance:gU Tryz.prog 138 0:=⟨by kernel_rfl,by kernel_rfl⟩
instance:ay Tryz.prog 138 (.agg #[]):=⟨by kernel_rfl⟩
instance:bB Tryz.prog 138 [(0,0)] []:=⟨by kernel_rfl,by kernel_rfl,by rfl⟩
instance:eP Tryz.prog 138 0 0 137:=⟨by kernel_rfl⟩
instance:gU Tryz.prog 139 0:=⟨by kernel_rfl,by kernel_rfl⟩
instance:ay Tryz.prog 139 (.agg #[]):=⟨by kernel_rfl⟩
instance:bB Tryz.prog 139 [(0,0)] []:=⟨by kernel_rfl,by kernel_rfl,by rfl⟩
instance:eP Tryz.prog 139 0 0 137:=⟨by kernel_rfl⟩
instance:cK Tryz.prog 140:=⟨by kernel_rfl,by kernel_rfl⟩
instance:ay Tryz.prog 140 (.nilFunc):=⟨by kernel_rfl⟩
instance:aK Tryz.prog 140 1 8 (.nilFunc):=⟨by kernel_rfl,by rfl,by decide,by decide⟩
instance:fU Tryz.prog 141 .u8:=⟨by kernel_rfl⟩
instance:cK Tryz.prog 141:=⟨by kernel_rfl,by kernel_rfl⟩
instance:ay Tryz.prog 141 (.int .u8 0):=⟨by kernel_rfl⟩
instance:aK Tryz.prog 141 1 1 (.int .u8 0):=⟨by kernel_rfl,by rfl,by decide,by decide⟩
instance:fU Tryz.prog 142 .u8:=⟨by kernel_rfl⟩
instance:cK Tryz.prog 142:=⟨by kernel_rfl,by kernel_rfl⟩
instance:ay Tryz.prog 142 (.int .u8 0):=⟨by kernel_rfl⟩
instance:aK Tryz.prog 142 1 1 (.int .u8 0):=⟨by kernel_rfl,by rfl,by decide,by decide⟩
instance:cK Tryz.prog 143:=⟨by kernel_rfl,by kernel_rfl⟩
instance:ay Tryz.prog 143 (.nilFunc):=⟨by kernel_rfl⟩
instance:aK Tryz.prog 143 1 8 (.nilFunc):=⟨by kernel_rfl,by rfl,by decide,by decide⟩
instance:cK Tryz.prog 144:=⟨by kernel_rfl,by kernel_rfl⟩
instance:ay Tryz.prog 144 (.pointer none):=⟨by kernel_rfl⟩
instance:aK Tryz.prog 144 1 8 (.pointer none):=⟨by kernel_rfl,by rfl,by decide,by decide⟩
instance:fU Tryz.prog 145 .i32:=⟨by kernel_rfl⟩
instance:cK Tryz.prog 145:=⟨by kernel_rfl,by kernel_rfl⟩
instance:ay Tryz.prog 145 (.int .i32 0):=⟨by kernel_rfl⟩
instance:aK Tryz.prog 145 1 4 (.int .i32 0):=⟨by kernel_rfl,by rfl,by decide,by decide⟩
instance:fU Tryz.prog 146 .i32:=⟨by kernel_rfl⟩
instance:cK Tryz.prog 146:=⟨by kernel_rfl,by kernel_rfl⟩
instance:ay Tryz.prog 146 (.int .i32 0):=⟨by kernel_rfl⟩
instance:aK Tryz.prog 146 1 4 (.int .i32 0):=⟨by kernel_rfl,by rfl,by decide,by decide⟩
instance:gU Tryz.prog 147 11:=⟨by kernel_rfl,by kernel_rfl⟩
instance:eK Tryz.prog 147:=⟨fun w=>⟨10,gU.size (T:=147) (n:=11) w⟩⟩
instance:ay Tryz.prog 147 (.agg #[.int .u64 0,.int .u64 0,.int .u32 0,.int .u8 0,.int .u8 0,.int .u8 0,.int .u8 0,.nilFunc,.pointer none,.int .i32 0,.int .i32 0]):=⟨by kernel_rfl⟩
instance:aK Tryz.prog 147 11 48 (.agg #[.int .u64 0,.int .u64 0,.int .u32 0,.int .u8 0,.int .u8 0,.int .u8 0,.int .u8 0,.nilFunc,.pointer none,.int .i32 0,.int .i32 0]):=⟨by kernel_rfl,by rfl,by decide,by decide⟩
instance:bB Tryz.prog 147 [(0,1),(1,1),(2,1),(3,1),(4,1),(5,1),(6,1),(7,1),(8,1),(9,1),(10,1)] [.int .u64 0,.int .u64 0,.int .u32 0,.int .u8 0,.int .u8 0,.int .u8 0,.int .u8 0,.nilFunc,.pointer none,.int .i32 0,.int .i32 0]:=⟨by kernel_rfl,by kernel_rfl,by rfl⟩
instance:eP Tryz.prog 147 0 0 12:=⟨by kernel_rfl⟩
instance:eP Tryz.prog 147 1 1 12:=⟨by kernel_rfl⟩
instance:eP Tryz.prog 147 2 2 69:=⟨by kernel_rfl⟩
instance:eP Tryz.prog 147 3 3 141:=⟨by kernel_rfl⟩
instance:eP Tryz.prog 147 4 4 5:=⟨by kernel_rfl⟩
instance:eP Tryz.prog 147 5 5 5:=⟨by kernel_rfl⟩
instance:eP Tryz.prog 147 6 6 142:=⟨by kernel_rfl⟩
instance:eP Tryz.prog 147 7 7 143:=⟨by kernel_rfl⟩
instance:eP Tryz.prog 147 8 8 144:=⟨by kernel_rfl⟩
instance:eP Tryz.prog 147 9 9 145:=⟨by kernel_rfl⟩
instance:eP Tryz.prog 147 10 10 146:=⟨by kernel_rfl⟩
instance:gU Tryz.prog 148 11:=⟨by kernel_rfl,by kernel_rfl⟩
instance:eK Tryz.prog 148:=⟨fun w=>⟨10,gU.size (T:=148) (n:=11) w⟩⟩
instance:ay Tryz.prog 148 (.agg #[.int .u64 0,.int .u64 0,.int .u32 0,.int .u8 0,.int .u8 0,.int .u8 0,.int .u8 0,.nilFunc,.pointer none,.int .i32 0,.int .i32 0]):=⟨by kernel_rfl⟩
instance:aK Tryz.prog 148 11 48 (.agg #[.int .u64 0,.int .u64 0,.int .u32 0,.int .u8 0,.int .u8 0,.int .u8 0,.int .u8 0,.nilFunc,.pointer none,.int .i32 0,.int .i32 0]):=⟨by kernel_rfl,by rfl,by decide,by decide⟩
instance:bB Tryz.prog 148 [(0,1),(1,1),(2,1),(3,1),(4,1),(5,1),(6,1),(7,1),(8,1),(9,1),(10,1)] [.int .u64 0,.int .u64 0,.int .u32 0,.int .u8 0,.int .u8 0,.int .u8 0,.int .u8 0,.nilFunc,.pointer none,.int .i32 0,.int .i32 0]:=⟨by kernel_rfl,by kernel_rfl,by rfl⟩
instance:eP Tryz.prog 148 0 0 12:=⟨by kernel_rfl⟩
instance:eP Tryz.prog 148 1 1 12:=⟨by kernel_rfl⟩
instance:eP Tryz.prog 148 2 2 69:=⟨by kernel_rfl⟩
instance:eP Tryz.prog 148 3 3 141:=⟨by kernel_rfl⟩
instance:eP Tryz.prog 148 4 4 5:=⟨by kernel_rfl⟩
instance:eP Tryz.prog 148 5 5 5:=⟨by kernel_rfl⟩
instance:eP Tryz.prog 148 6 6 142:=⟨by kernel_rfl⟩
instance:eP Tryz.prog 148 7 7 143:=⟨by kernel_rfl⟩
instance:eP Tryz.prog 148 8 8 144:=⟨by kernel_rfl⟩
instance:eP Tryz.prog 148 9 9 145:=⟨by kernel_rfl⟩
instance:eP Tryz.prog 148 10 10 146:=⟨by kernel_rfl⟩
instance:cK Tryz.prog 149:=⟨by kernel_rfl,by kernel_rfl⟩
instance:ay Tryz.prog 149 (.pointer none):=⟨by kernel_rfl⟩
instance:aK Tryz.prog 149 1 8 (.pointer none):=⟨by kernel_rfl,by rfl,by decide,by decide⟩
instance:cz Tryz.prog 3:=⟨by kernel_rfl⟩
instance:cz Tryz.prog 4:=⟨by kernel_rfl⟩
instance:cz Tryz.prog 5:=⟨by kernel_rfl⟩
instance:cz Tryz.prog 6:=⟨by kernel_rfl⟩
instance:cz Tryz.prog 7:=⟨by kernel_rfl⟩
instance:cz Tryz.prog 8:=⟨by kernel_rfl⟩
instance:cz Tryz.prog 9:=⟨by kernel_rfl⟩
instance:cz Tryz.prog 10:=⟨by kernel_rfl⟩
instance:cz Tryz.prog 11:=⟨by kernel_rfl⟩
instance:cz Tryz.prog 12:=⟨by kernel_rfl⟩
instance:cz Tryz.prog 13:=⟨by kernel_rfl⟩
instance:cz Tryz.prog 14:=⟨by kernel_rfl⟩
instance:cz Tryz.prog 15:=⟨by kernel_rfl⟩
instance:cz Tryz.prog 16:=⟨by kernel_rfl⟩
instance:cz Tryz.prog 17:=⟨by kernel_rfl⟩
instance:cz Tryz.prog 18:=⟨by kernel_rfl⟩
instance:cz Tryz.prog 19:=⟨by kernel_rfl⟩
instance:cz Tryz.prog 20:=⟨by kernel_rfl⟩
instance:cz Tryz.prog 21:=⟨by kernel_rfl⟩
instance:cz Tryz.prog 22:=⟨by kernel_rfl⟩
instance:cz Tryz.prog 23:=⟨by kernel_rfl⟩
instance:cz Tryz.prog 24:=⟨by kernel_rfl⟩
instance:cz Tryz.prog 25:=⟨by kernel_rfl⟩
instance:cz Tryz.prog 26:=⟨by kernel_rfl⟩
instance:cz Tryz.prog 27:=⟨by kernel_rfl⟩
instance:cz Tryz.prog 28:=⟨by kernel_rfl⟩
instance:cz Tryz.prog 29:=⟨by kernel_rfl⟩
instance:cz Tryz.prog 30:=⟨by kernel_rfl⟩
instance:cz Tryz.prog 31:=⟨by kernel_rfl⟩
instance:cz Tryz.prog 32:=⟨by kernel_rfl⟩
instance:cz Tryz.prog 33:=⟨by kernel_rfl⟩
instance:cz Tryz.prog 34:=⟨by kernel_rfl⟩
instance:cz Tryz.prog 35:=⟨by kernel_rfl⟩
instance:cz Tryz.prog 36:=⟨by kernel_rfl⟩
instance:cz Tryz.prog 37:=⟨by kernel_rfl⟩
instance:cz Tryz.prog 38:=⟨by kernel_rfl⟩
instance:cz Tryz.prog 39:=⟨by kernel_rfl⟩
instance:cz Tryz.prog 40:=⟨by kernel_rfl⟩
instance:cz Tryz.prog 41:=⟨by kernel_rfl⟩
instance:cz Tryz.prog 42:=⟨by kernel_rfl⟩
instance:cz Tryz.prog 43:=⟨by kernel_rfl⟩
instance:cz Tryz.prog 44:=⟨by kernel_rfl⟩
instance:cz Tryz.prog 45:=⟨by kernel_rfl⟩
instance:cz Tryz.prog 46:=⟨by kernel_rfl⟩
instance:cz Tryz.prog 47:=⟨by kernel_rfl⟩
instance:cz Tryz.prog 48:=⟨by kernel_rfl⟩
instance:cz Tryz.prog 49:=⟨by kernel_rfl⟩
instance:cz Tryz.prog 50:=⟨by kernel_rfl⟩
instance:cz Tryz.prog 51:=⟨by kernel_rfl⟩
instance:cz Tryz.prog 52:=⟨by kernel_rfl⟩
instance:cz Tryz.prog 53:=⟨by kernel_rfl⟩
instance:cz Tryz.prog 54:=⟨by kernel_rfl⟩
instance:cz Tryz.prog 55:=⟨by kernel_rfl⟩
instance:cz Tryz.prog 56:=⟨by kernel_rfl⟩
instance:cz Tryz.prog 57:=⟨by kernel_rfl⟩
instance:cz Tryz.prog 58:=⟨by kernel_rfl⟩
instance:cz Tryz.prog 59:=⟨by kernel_rfl⟩
instance:cz Tryz.prog 60:=⟨by kernel_rfl⟩
instance:cz Tryz.prog 61:=⟨by kernel_rfl⟩
instance:cz Tryz.prog 62:=⟨by kernel_rfl⟩
instance:cz Tryz.prog 63:=⟨by kernel_rfl⟩
instance:cz Tryz.prog 64:=⟨by kernel_rfl⟩
instance:cz Tryz.prog 65:=⟨by kernel_rfl⟩
instance:cz Tryz.prog 66:=⟨by kernel_rfl⟩
instance:cz Tryz.prog 67:=⟨by kernel_rfl⟩
instance:cz Tryz.prog 68:=⟨by kernel_rfl⟩
instance:cz Tryz.prog 69:=⟨by kernel_rfl⟩
instance:cz Tryz.prog 70:=⟨by kernel_rfl⟩
instance:cz Tryz.prog 71:=⟨by kernel_rfl⟩
instance:cz Tryz.prog 72:=⟨by kernel_rfl⟩
instance:cz Tryz.prog 73:=⟨by kernel_rfl⟩
instance:cz Tryz.prog 74:=⟨by kernel_rfl⟩
instance:cz Tryz.prog 75:=⟨by kernel_rfl⟩
instance:cz Tryz.prog 76:=⟨by kernel_rfl⟩
instance:cz Tryz.prog 77:=⟨by kernel_rfl⟩
instance:cz Tryz.prog 78:=⟨by kernel_rfl⟩
instance:cz Tryz.prog 79:=⟨by kernel_rfl⟩
instance:cz Tryz.prog 80:=⟨by kernel_rfl⟩
instance:cz Tryz.prog 81:=⟨by kernel_rfl⟩
instance:cz Tryz.prog 82:=⟨by kernel_rfl⟩
instance:cz Tryz.prog 83:=⟨by kernel_rfl⟩
instance:cz Tryz.prog 84:=⟨by kernel_rfl⟩
instance:cz Tryz.prog 85:=⟨by kernel_rfl⟩
instance:cz Tryz.prog 86:=⟨by kernel_rfl⟩
instance:cz Tryz.prog 87:=⟨by kernel_rfl⟩
instance:cz Tryz.prog 88:=⟨by kernel_rfl⟩
instance:cz Tryz.prog 89:=⟨by kernel_rfl⟩
instance:cz Tryz.prog 90:=⟨by kernel_rfl⟩
instance:cz Tryz.prog 91:=⟨by kernel_rfl⟩
instance:cz Tryz.prog 92:=⟨by kernel_rfl⟩
instance:cz Tryz.prog 93:=⟨by kernel_rfl⟩
instance:cz Tryz.prog 94:=⟨by kernel_rfl⟩
instance:cz Tryz.prog 95:=⟨by kernel_rfl⟩
instance:cz Tryz.prog 96:=⟨by kernel_rfl⟩
instance:cz Tryz.prog 97:=⟨by kernel_rfl⟩
instance:cz Tryz.prog 98:=⟨by kernel_rfl⟩
instance:cz Tryz.prog 99:=⟨by kernel_rfl⟩
instance:cz Tryz.prog 100:=⟨by kernel_rfl⟩
instance:cz Tryz.prog 101:=⟨by kernel_rfl⟩
instance:cz Tryz.prog 102:=⟨by kernel_rfl⟩
instance:cz Tryz.prog 103:=⟨by kernel_rfl⟩
instance:cz Tryz.prog 104:=⟨by kernel_rfl⟩
instance:cz Tryz.prog 105:=⟨by kernel_rfl⟩
instance:cz Tryz.prog 106:=⟨by kernel_rfl⟩
instance:cz Tryz.prog 107:=⟨by kernel_rfl⟩
instance:cz Tryz.prog 108:=⟨by kernel_rfl⟩
instance:cz Tryz.prog 109:=⟨by kernel_rfl⟩
instance:cz Tryz.prog 110:=⟨by kernel_rfl⟩
instance:cz Tryz.prog 111:=⟨by kernel_rfl⟩
instance:cz Tryz.prog 112:=⟨by kernel_rfl⟩
theorem mixed:Tryz.prog.follows .mixedOrders=true:=by kernel_rfl
end Go.Proofs.YtmiflmkdaeianaaGreat
namespace Go.Proofs.YtmiflmkdaeianaaGreat
open Go.Fw Go.RowKit
def snap(W:World):Mem:=fun b o=>(W.cell? ⟨b,o,none⟩).filter Value.oneCell'
theorem M6(W:World):(snap W).bV W:=fun _ _ _ e=>by
 obtain⟨e1,e2⟩:=Option.filter_eq_some_iff.1 e
 exact .of e1 e2
theorem M7{W:World}{b o:Nat}{v:Value}(h:W.cell? ⟨b,o,none⟩=some v)(h1:v.oneCell'=true):snap W b o=some v:=Option.filter_eq_some_iff.2 ⟨h,h1⟩
class rj (P:Program) (T:TypeId) {α:Type} (e:α→List SV) (ok:outParam (α→Prop)) (sz:outParam (α→Nat)):Prop where
 h:∀{H:Type} (enc:TypeId×Value→H) (W:World) (fuel:Nat) (cs:List Value) (d:DataW H) (p:List MemPlace),DataW.trod enc P W 0 (fun _=>true) true fuel T cs=some (d,p)→
  ∃x:α,ok x∧SV.dw (snap W) (e x) cs∧(∀v∈cs,v.oneCell'=true)∧sz x≤Rows.uptoBulk d
section opn
variable {P:Program}{T:TypeId}
theorem J1{k:IntKind}{n:Int}(h:(Lit.int k n).wf=true):k.min≤n∧n≤k.max:=by simpa[Lit.wf]using h
instance[t:fU P T .i64]:rj P T aS (fun x=>-9223372036854775808≤x∧x≤9223372036854775807) (fun _=>1):=⟨fun enc W fuel cs d p h=>by
 obtain⟨n,rfl,hx,hw⟩:=DataW.trod_int t.h h
 cases hx
 have:=J1 hw
 exact⟨n,by simpa[IntKind.min,IntKind.max,IntKind.signed,IntKind.bits]using this,⟨rfl,trivial⟩,by simp[Value.oneCell'],by simp[Rows.uptoBulk]⟩⟩
theorem O4{k:IntKind}{M:Nat}{e:Nat→List SV}(t:fU P T k)(hk:k.min=0∧k.max=(M:Int)-1)(he:∀n:Nat,e n=[.v (.int k (n:Int))]):rj P T e (fun x=>x<M) (fun _=>1):=⟨fun enc W fuel cs d p h=>by
 obtain⟨n,rfl,hx,hw⟩:=DataW.trod_int t.h h
 cases hx
 have:=J1 hw
 rw[hk.1,hk.2]at this
 obtain⟨m,rfl⟩:=Int.eq_ofNat_of_zero_le this.1
 exact⟨m,by omega,by rw[he];exact⟨rfl,trivial⟩,by simp[Value.oneCell'],by simp[Rows.uptoBulk]⟩⟩
instance[t:fU P T .u8]:rj P T Rj (fun x=>x<256) (fun _=>1):=O4 t (by decide) (fun _=>rfl)
instance[t:fU P T .u32]:rj P T ah (fun x=>x<4294967296) (fun _=>1):=O4 t (by decide) (fun _=>rfl)
instance[t:yD P T]:rj P T eB (fun _=>True) (fun _=>1):=⟨fun enc W fuel cs d p h=>by
 obtain⟨b,rfl,hx⟩:=DataW.trod_bool t.h h
 cases hx
 exact⟨b,trivial,⟨rfl,trivial⟩,by simp[Value.oneCell'],by simp[Rows.uptoBulk]⟩⟩
theorem DN{H α:Type}(sz:α→Nat):∀(xs:List α) (ds:List (DataW H)),xs.length=ds.length→(∀(i:Nat) (x:α) (d:DataW H),xs[i]? =some x→ds[i]? =some d→sz x≤Rows.uptoBulk d)→(xs.map sz).sum≤Rows.uptoBulkAll ds
 |[],[],_,_=>by simp
 |x::xs,d::ds,hl,h=>by
  have h1:=h 0 x d rfl rfl
  have h2:=DN sz xs ds (by simpa using hl) (fun i x d e1 e2=>h (i+1) x d (by simpa using e1) (by simpa using e2))
  simp only[List.map_cons,List.sum_cons,Rows.uptoBulkAll];omega
 |[],_::_,hl,_=>by simp at hl
 |_::_,[],hl,_=>by simp at hl
instance{E:TypeId}{n:Nat}{α:Type}{e:α→List SV}{ok:α→Prop}{sz:α→Nat}{by_:Nat}{zv:Value}[t:dD P T E n][tE:aK P E n by_ zv][el:EL e n][o:rj P E e ok sz]:rj P T (eS n e) (fun l=>l.length≤9223372036854775807∧∀x∈l,ok x) (fun l=>(l.map sz).sum+1):=⟨fun{H} enc W fuel cs d p h=>by
 have hcell:P.cellsOf E=n:=by
  have h1:=t.size W
  simp only[sizeOf,typeInfo]at h1
  cases hi:P.info? E with
  |none=>simp[hi]at h1
  |some i=>simp[hi]at h1;simp[Program.cellsOf,hi,h1]
 have hml:maxLen=9223372036854775807:=by decide
 rcases Deep.open_slice t.u h with⟨rfl,hx⟩|⟨a,len,cap,m,n',D,Pl,rfl,_,hl,hm,hmm,hx,hel⟩
 ·cases hx
  exact⟨[],⟨by simp,by simp⟩,⟨.inl ⟨none,rfl,rfl⟩,trivial⟩,by simp[Value.oneCell'],by simp[Rows.uptoBulk]⟩
 ·cases hx
  rw[if_pos rfl]at hmm
  subst hmm
  have one:∀i,i<m→∃x,ok x∧sz x≤Rows.uptoBulk (D i)∧∃cs',W.cells? 0 (a.add (i*n)) n=some cs'∧SV.dw (snap W) (e x) cs'∧(∀v∈cs',v.oneCell'=true):=by
   intro i hi
   obtain⟨cs',h1,h2⟩:=hel i hi
   obtain⟨x,q1,q2,q3,q4⟩:=o.h enc W n' cs' (D i) (Pl i) h2
   rw[hcell]at h1
   exact⟨x,q1,q4,cs',h1,q2,q3⟩
  obtain⟨xs,Vh,hxs⟩:∃xs:List α,xs.length=len∧∀(i:Nat) (x:α),xs[i]? =some x→ok x∧sz x≤Rows.uptoBulk (D i)∧∃cs',W.cells? 0 (a.add (i*n)) n=some cs'∧SV.dw (snap W) (e x) cs'∧(∀v∈cs',v.oneCell'=true):=by
   clear h hm hel
   have:∀k,k≤len→∃xs:List α,xs.length=k∧∀(i:Nat) (x:α),xs[i]? =some x→ok x∧sz x≤Rows.uptoBulk (D i)∧∃cs',W.cells? 0 (a.add (i*n)) n=some cs'∧SV.dw (snap W) (e x) cs'∧(∀v∈cs',v.oneCell'=true):=by
    intro k
    induction k with
    |zero=>intro _;exact⟨[],rfl,by simp⟩
    |succ k ih=>
     intro hk
     obtain⟨xs,h1,h2⟩:=ih (by omega)
     obtain⟨x,hx⟩:=one k (by omega)
     refine⟨xs++[x],by simp[h1],fun i y hy=>?_⟩
     rcases Nat.lt_or_ge i k with hi|hi
     ·exact h2 i y (by rwa[List.getElem?_append_left (by omega)]at hy)
     ·rw[List.getElem?_append_right (by omega)]at hy
      have hi2:i=k:=by
       rcases Nat.lt_or_ge (i-xs.length) 1 with q|q
       ·omega
       ·rw[List.getElem?_eq_none (by simpa using q)]at hy;cases hy
      subst hi2
      rw[h1,Nat.sub_self]at hy
      simp at hy;subst hy;exact hx
   exact this len (Nat.le_refl _)
  refine⟨xs,⟨by omega,fun x hx=>?_⟩,⟨?_,trivial⟩,by simp[Value.oneCell'],?_⟩
  ·obtain⟨i,hi,rfl⟩:=List.getElem_of_mem hx
   exact(hxs i _ (List.getElem?_eq_getElem hi)).1
  ·by_cases h0:xs=[]
   ·subst h0
    simp at Vh
    subst Vh
    by_cases hc0:m=0
    ·subst hc0;exact .inl ⟨_,rfl,rfl⟩
    ·
     obtain⟨x,_,_,cs',g1,g2,_⟩:=one 0 (by omega)
     obtain⟨_,g3,g4⟩:=World.cells?_some g1
     have hn:0<n:=tE.p
     have g5:=g4 0 hn
     obtain⟨b,o',spot⟩:=a
     have J2:spot=none:=by
      have:∃v,W.cell? (((⟨b,o',spot⟩:Addr).add (0*n)).add 0)=some v:=by
       rw[g5];exact⟨_,List.getElem?_eq_getElem (by omega)⟩
      obtain⟨v,hv⟩:=this
      simpa[Addr.add]using World.cell?_spot hv
     subst J2
     refine .inr ⟨b,o',m,rfl,by simp,by simp,fun i row hr=>by simp at hr⟩
   ·have sS:0<len:=by
     rcases Nat.eq_zero_or_pos len with hz|hz
     ·exact absurd (List.eq_nil_of_length_eq_zero (by omega)) h0
     ·exact hz
    have hn:0<n:=tE.p
    obtain⟨x,_,_,cs',g1,g2,_⟩:=one 0 (by omega)
    obtain⟨_,g3,g4⟩:=World.cells?_some g1
    have g5:=g4 0 hn
    obtain⟨b,o',spot⟩:=a
    have J2:spot=none:=by
     have:∃v,W.cell? (((⟨b,o',spot⟩:Addr).add (0*n)).add 0)=some v:=by
      rw[g5];exact⟨_,List.getElem?_eq_getElem (by omega)⟩
     obtain⟨v,hv⟩:=this
     simpa[Addr.add]using World.cell?_spot hv
    subst J2
    refine .inr ⟨b,o',m,by rw[List.length_map,Vh],by rw[List.length_map];omega,by rw[List.length_map];omega,fun i row hr=>?_⟩
    rw[List.getElem?_map]at hr
    cases hx:xs[i]? with
    |none=>rw[hx]at hr;cases hr
    |some y=>
     rw[hx]at hr
     have hr:e y=row:=Option.some.inj hr
     subst hr
     obtain⟨_,_,cs2,k1,k2,k3⟩:=hxs i y hx
     obtain⟨_,k4,k5⟩:=World.cells?_some k1
     refine⟨el.len y,fun k s hk=>?_⟩
     obtain⟨u,hu,hs⟩:=k2.get hk
     have hkn:k<n:=by have:=(List.getElem?_eq_some_iff.1 hu).1;omega
     have k6:=k5 k hkn
     rw[eJ,eJ,hu]at k6
     exact⟨u,M7 k6 (k3 u (List.mem_of_getElem? hu)),k3 u (List.mem_of_getElem? hu),hs⟩
  ·have hb:Rows.uptoBulk (DataW.slice ((List.range len).map D) ((List.range (m-len)).map fun j=>D (len+j)))=Rows.uptoBulkAll ((List.range len).map D)+Rows.uptoBulkAll ((List.range (m-len)).map fun j=>D (len+j))+1:=rfl
   rw[hb]
   have:=DN sz xs ((List.range len).map D) (by simp[Vh]) (fun i x d e1 e2=>by
    have hi:i<len:=by have:=(List.getElem?_eq_some_iff.1 e1).1;omega
    simp[hi]at e2;subst e2
    exact(hxs i x e1).2.1)
   omega⟩
class O5 (P:Program) (T:TypeId) (k:outParam Nat):Prop where
 h:(match P.underlying T with|some (.struct fs)=>some fs.size|_=>none)=some k
theorem pO{k:Nat}[s:O5 P T k]{H:Type}{enc:TypeId×Value→H}{W:World}{fuel:Nat}{cs:List Value}{d:DataW H}{p:List MemPlace}(h:DataW.trod enc P W 0 (fun _=>true) true fuel T cs=some (d,p)):
  ∃(xs:List (DataW H×List MemPlace)) (n:Nat),d=.agg (xs.map (·.1))∧cs.length=P.cellsOf T∧xs.length=k∧∀(i off:Nat) (U:TypeId),eP P T i off U→DataW.trod enc P W 0 (fun _=>true) true n U ((cs.drop off).take (P.cellsOf U))=xs[i]? :=by
 have hs:=s.h
 cases hT:P.underlying T with
 |none=>rw[hT]at hs;cases hs
 |some u=>
  rw[hT]at hs
  cases u with
  |struct fs=>
   have hk:fs.size=k:=Option.some.inj hs
   obtain⟨xs,n,_,hx,hl,hn,hf⟩:=DataW.trod_struct hT h
   refine⟨xs,n,(Prod.mk.inj hx).1,hl,by omega,fun i off U F=>?_⟩
   have hF:=F.h
   rw[hT]at hF
   simp only at hF
   cases hg:fs[i]? with
   |none=>rw[hg]at hF;cases hF
   |some f=>
    rw[hg]at hF
    simp only[Option.map_some,Option.some.injEq,Prod.mk.injEq]at hF
    have:=hf i f hg
    rw[hF.1,hF.2]at this
    exact this
  |_=>cases hs
class J3 (P:Program) (T:TypeId):Prop where
 h:∀(w:World) (r:Reach) (base:Nat) (v:Value),Value.okWide P w r base T v→v.cells.toList=[v]
instance{k:IntKind}[t:fU P T k]:J3 P T:=⟨fun w r base v h=>by
 simp only[Value.okWide,t.h,Cell.okWide,Cell.ok]at h
 cases v<;>first|rfl|cases h⟩
instance[t:yD P T]:J3 P T:=⟨fun w r base v h=>by
 simp only[Value.okWide,t.h,Cell.okWide,Cell.ok]at h
 cases v<;>first|rfl|cases h⟩
instance[t:Dt P T]:J3 P T:=⟨fun w r base v h=>by
 simp only[Value.okWide,t.h,Cell.okWide,Cell.ok]at h
 cases v<;>first|rfl|cases h⟩
instance{E:TypeId}{n:Nat}[t:dD P T E n]:J3 P T:=⟨fun w r base v h=>by
 obtain⟨a,l,c,rfl⟩:=WideShapes.okWide_slice t.u h
 rfl⟩
theorem Cc{α:Type}{e:α→List SV}{ok:α→Prop}{sz:α→Nat}[o1:J3 P T][o:rj P T e ok sz]{H:Type}{enc:TypeId×Value→H}{W:World}{r:Reach}{base:Nat}{v:Value}{d:DataW H}{p:List MemPlace}
  (hv:Value.okWide P W r base T v) (h:DataW.Trod enc P W 0 (fun _=>true) true T v d p):∃x,ok x∧sz x≤Rows.uptoBulk d∧SV.dw (snap W) (e x) [v]:=by
 obtain⟨fuel,h⟩:=h
 rw[o1.h W r base v hv]at h
 obtain⟨x,h1,h2,_,h4⟩:=o.h enc W fuel _ d p h
 exact⟨x,h1,h4,h2⟩
end opn
theorem M8{f:FuncId}{vs:List Value}{svs:List SV}{W:World}(hp:Pure Tryz.prog f svs (.v (.bool true)))(h:SV.dw (snap W) svs vs):
  Calls Tryz.prog f ⟨vs⟩ W fun e w'=>e=.returned (.bool true)∧Below W.heap.size W w':=
 (hp (snap W) W vs (M6 W) h).mono fun _ _ ⟨v,_,h1,_,_,_,h2,h3⟩=>by
  have h2:v=.bool true:=h2
  exact⟨by rw[h1,h2],h3⟩
end Go.Proofs.YtmiflmkdaeianaaGreat
namespace Go.Proofs.YtmiflmkdaeianaaGreat
open Go.Fw Go.RowKit Go.ChangeShapes Go.WideShapes Go.ChangeAt
theorem ac6:ownKnob Tryz.prog.godebug=none:=by kernel_rfl
theorem za:laidOutB Tryz.prog=true:=by kernel_rfl
instance:O5 Tryz.prog 35 2:=⟨by kernel_rfl⟩
set_option maxRecDepth 100000 in
instance:rj Tryz.prog 35 eZ (fun(z:Zr)=>(True∧(z.w.length≤9223372036854775807∧∀x1∈z.w,x1<4294967296))) (fun(z:Zr)=>(1+((z.w.map fun x1=>1).sum+1)+1)):=⟨fun enc W fuel cs d p h=>by
 obtain⟨xs,n,rfl,hl,hn,hf⟩:=pO h
 have hl:cs.length=2:=hl.trans (by kernel_rfl)
 match xs,hn with
 |[⟨d0,p0⟩,⟨d1,p1⟩],_=>
 match cs,hl with
 |[c0,c1],_=>
 have t0:DataW.trod enc Tryz.prog W 0 (fun _=>true) true n 4 [c0]=some (d0,p0):=(by have q:=hf 0 _ _ inferInstance;rw[show Tryz.prog.cellsOf 4=1 by kernel_rfl]at q;exact q)
 obtain⟨x0,a0,b0,e0,s0⟩:=rj.h (P:=Tryz.prog) (T:=4) (e:=eB) enc W n _ d0 p0 t0
 have t1:DataW.trod enc Tryz.prog W 0 (fun _=>true) true n 33 [c1]=some (d1,p1):=(by have q:=hf 1 _ _ inferInstance;rw[show Tryz.prog.cellsOf 33=1 by kernel_rfl]at q;exact q)
 obtain⟨x1,a1,b1,e1,s1⟩:=rj.h (P:=Tryz.prog) (T:=33) (e:=(eS 1 ah)) enc W n _ d1 p1 t1
 refine⟨⟨x0,x1⟩,⟨a0,a1⟩,⟨b0.1,b1.1,trivial⟩,?_,?_⟩
 ·intro v hv;simp only[List.mem_cons,List.not_mem_nil,or_false]at hv;rcases hv with rfl|rfl
  ·exact e0 _ (by simp)
  ·exact e1 _ (by simp)
 ·simp only[List.map_cons,List.map_nil,Rows.uptoBulk,Rows.uptoBulkAll];omega⟩
instance:O5 Tryz.prog 37 2:=⟨by kernel_rfl⟩
set_option maxRecDepth 100000 in
instance:rj Tryz.prog 37 eQ (fun(z:Qr)=>((True∧(z.num.w.length≤9223372036854775807∧∀x1∈z.num.w,x1<4294967296))∧(True∧(z.den.w.length≤9223372036854775807∧∀x1∈z.den.w,x1<4294967296)))) (fun(z:Qr)=>((1+((z.num.w.map fun x1=>1).sum+1)+1)+(1+((z.den.w.map fun x1=>1).sum+1)+1)+1)):=⟨fun enc W fuel cs d p h=>by
 obtain⟨xs,n,rfl,hl,hn,hf⟩:=pO h
 have hl:cs.length=4:=hl.trans (by kernel_rfl)
 match xs,hn with
 |[⟨d0,p0⟩,⟨d1,p1⟩],_=>
 match cs,hl with
 |[c0,c1,c2,c3],_=>
 have t0:DataW.trod enc Tryz.prog W 0 (fun _=>true) true n 35 [c0,c1]=some (d0,p0):=(by have q:=hf 0 _ _ inferInstance;rw[show Tryz.prog.cellsOf 35=2 by kernel_rfl]at q;exact q)
 obtain⟨x0,a0,b0,e0,s0⟩:=rj.h (P:=Tryz.prog) (T:=35) (e:=eZ) enc W n _ d0 p0 t0
 have t1:DataW.trod enc Tryz.prog W 0 (fun _=>true) true n 35 [c2,c3]=some (d1,p1):=(by have q:=hf 1 _ _ inferInstance;rw[show Tryz.prog.cellsOf 35=2 by kernel_rfl]at q;exact q)
 obtain⟨x1,a1,b1,e1,s1⟩:=rj.h (P:=Tryz.prog) (T:=35) (e:=eZ) enc W n _ d1 p1 t1
 refine⟨⟨x0,x1⟩,⟨a0,a1⟩,⟨b0.1,b0.2.1,b1.1,b1.2.1,trivial⟩,?_,?_⟩
 ·intro v hv;simp only[List.mem_cons,List.not_mem_nil,or_false]at hv;rcases hv with rfl|rfl|rfl|rfl
  ·exact e0 _ (by simp)
  ·exact e0 _ (by simp)
  ·exact e1 _ (by simp)
  ·exact e1 _ (by simp)
 ·simp only[List.map_cons,List.map_nil,Rows.uptoBulk,Rows.uptoBulkAll];omega⟩
instance:O5 Tryz.prog 39 4:=⟨by kernel_rfl⟩
set_option maxRecDepth 100000 in
instance:rj Tryz.prog 39 Iu (fun(z:Mv)=>((-9223372036854775808≤z.acc∧z.acc≤9223372036854775807)∧z.kd<256∧(-9223372036854775808≤z.hour∧z.hour≤9223372036854775807)∧((True∧(z.fF.num.w.length≤9223372036854775807∧∀x1∈z.fF.num.w,x1<4294967296))∧(True∧(z.fF.den.w.length≤9223372036854775807∧∀x1∈z.fF.den.w,x1<4294967296))))) (fun(z:Mv)=>(1+1+1+((1+((z.fF.num.w.map fun x1=>1).sum+1)+1)+(1+((z.fF.den.w.map fun x1=>1).sum+1)+1)+1)+1)):=⟨fun enc W fuel cs d p h=>by
 obtain⟨xs,n,rfl,hl,hn,hf⟩:=pO h
 have hl:cs.length=7:=hl.trans (by kernel_rfl)
 match xs,hn with
 |[⟨d0,p0⟩,⟨d1,p1⟩,⟨d2,p2⟩,⟨d3,p3⟩],_=>
 match cs,hl with
 |[c0,c1,c2,c3,c4,c5,c6],_=>
 have t0:DataW.trod enc Tryz.prog W 0 (fun _=>true) true n 3 [c0]=some (d0,p0):=(by have q:=hf 0 _ _ inferInstance;rw[show Tryz.prog.cellsOf 3=1 by kernel_rfl]at q;exact q)
 obtain⟨x0,a0,b0,e0,s0⟩:=rj.h (P:=Tryz.prog) (T:=3) (e:=aS) enc W n _ d0 p0 t0
 have t1:DataW.trod enc Tryz.prog W 0 (fun _=>true) true n 5 [c1]=some (d1,p1):=(by have q:=hf 1 _ _ inferInstance;rw[show Tryz.prog.cellsOf 5=1 by kernel_rfl]at q;exact q)
 obtain⟨x1,a1,b1,e1,s1⟩:=rj.h (P:=Tryz.prog) (T:=5) (e:=Rj) enc W n _ d1 p1 t1
 have t2:DataW.trod enc Tryz.prog W 0 (fun _=>true) true n 3 [c2]=some (d2,p2):=(by have q:=hf 2 _ _ inferInstance;rw[show Tryz.prog.cellsOf 3=1 by kernel_rfl]at q;exact q)
 obtain⟨x2,a2,b2,e2,s2⟩:=rj.h (P:=Tryz.prog) (T:=3) (e:=aS) enc W n _ d2 p2 t2
 have t3:DataW.trod enc Tryz.prog W 0 (fun _=>true) true n 37 [c3,c4,c5,c6]=some (d3,p3):=(by have q:=hf 3 _ _ inferInstance;rw[show Tryz.prog.cellsOf 37=4 by kernel_rfl]at q;exact q)
 obtain⟨x3,a3,b3,e3,s3⟩:=rj.h (P:=Tryz.prog) (T:=37) (e:=eQ) enc W n _ d3 p3 t3
 refine⟨⟨x0,x1,x2,x3⟩,⟨a0,a1,a2,a3⟩,⟨b0.1,b1.1,b2.1,b3.1,b3.2.1,b3.2.2.1,b3.2.2.2.1,trivial⟩,?_,?_⟩
 ·intro v hv;simp only[List.mem_cons,List.not_mem_nil,or_false]at hv;rcases hv with rfl|rfl|rfl|rfl|rfl|rfl|rfl
  ·exact e0 _ (by simp)
  ·exact e1 _ (by simp)
  ·exact e2 _ (by simp)
  ·exact e3 _ (by simp)
  ·exact e3 _ (by simp)
  ·exact e3 _ (by simp)
  ·exact e3 _ (by simp)
 ·simp only[List.map_cons,List.map_nil,Rows.uptoBulk,Rows.uptoBulkAll];omega⟩
instance:O5 Tryz.prog 61 4:=⟨by kernel_rfl⟩
set_option maxRecDepth 100000 in
instance:rj Tryz.prog 61 dH (fun(z:En)=>((-9223372036854775808≤z.acc∧z.acc≤9223372036854775807)∧z.kd<256∧(-9223372036854775808≤z.hour∧z.hour≤9223372036854775807)∧(True∧(z.cW.w.length≤9223372036854775807∧∀x1∈z.cW.w,x1<4294967296)))) (fun(z:En)=>(1+1+1+(1+((z.cW.w.map fun x1=>1).sum+1)+1)+1)):=⟨fun enc W fuel cs d p h=>by
 obtain⟨xs,n,rfl,hl,hn,hf⟩:=pO h
 have hl:cs.length=5:=hl.trans (by kernel_rfl)
 match xs,hn with
 |[⟨d0,p0⟩,⟨d1,p1⟩,⟨d2,p2⟩,⟨d3,p3⟩],_=>
 match cs,hl with
 |[c0,c1,c2,c3,c4],_=>
 have t0:DataW.trod enc Tryz.prog W 0 (fun _=>true) true n 3 [c0]=some (d0,p0):=(by have q:=hf 0 _ _ inferInstance;rw[show Tryz.prog.cellsOf 3=1 by kernel_rfl]at q;exact q)
 obtain⟨x0,a0,b0,e0,s0⟩:=rj.h (P:=Tryz.prog) (T:=3) (e:=aS) enc W n _ d0 p0 t0
 have t1:DataW.trod enc Tryz.prog W 0 (fun _=>true) true n 5 [c1]=some (d1,p1):=(by have q:=hf 1 _ _ inferInstance;rw[show Tryz.prog.cellsOf 5=1 by kernel_rfl]at q;exact q)
 obtain⟨x1,a1,b1,e1,s1⟩:=rj.h (P:=Tryz.prog) (T:=5) (e:=Rj) enc W n _ d1 p1 t1
 have t2:DataW.trod enc Tryz.prog W 0 (fun _=>true) true n 3 [c2]=some (d2,p2):=(by have q:=hf 2 _ _ inferInstance;rw[show Tryz.prog.cellsOf 3=1 by kernel_rfl]at q;exact q)
 obtain⟨x2,a2,b2,e2,s2⟩:=rj.h (P:=Tryz.prog) (T:=3) (e:=aS) enc W n _ d2 p2 t2
 have t3:DataW.trod enc Tryz.prog W 0 (fun _=>true) true n 35 [c3,c4]=some (d3,p3):=(by have q:=hf 3 _ _ inferInstance;rw[show Tryz.prog.cellsOf 35=2 by kernel_rfl]at q;exact q)
 obtain⟨x3,a3,b3,e3,s3⟩:=rj.h (P:=Tryz.prog) (T:=35) (e:=eZ) enc W n _ d3 p3 t3
 refine⟨⟨x0,x1,x2,x3⟩,⟨a0,a1,a2,a3⟩,⟨b0.1,b1.1,b2.1,b3.1,b3.2.1,trivial⟩,?_,?_⟩
 ·intro v hv;simp only[List.mem_cons,List.not_mem_nil,or_false]at hv;rcases hv with rfl|rfl|rfl|rfl|rfl
  ·exact e0 _ (by simp)
  ·exact e1 _ (by simp)
  ·exact e2 _ (by simp)
  ·exact e3 _ (by simp)
  ·exact e3 _ (by simp)
 ·simp only[List.map_cons,List.map_nil,Rows.uptoBulk,Rows.uptoBulkAll];omega⟩
instance:O5 Tryz.prog 56 2:=⟨by kernel_rfl⟩
set_option maxRecDepth 100000 in
instance:rj Tryz.prog 56 Iv (fun(z:Bk)=>((-9223372036854775808≤z.n∧z.n≤9223372036854775807)∧(z.l.length≤9223372036854775807∧∀x1∈z.l,((-9223372036854775808≤x1.acc∧x1.acc≤9223372036854775807)∧x1.kd<256∧(-9223372036854775808≤x1.hour∧x1.hour≤9223372036854775807)∧(True∧(x1.cW.w.length≤9223372036854775807∧∀x2∈x1.cW.w,x2<4294967296)))))) (fun(z:Bk)=>(1+((z.l.map fun x1=>(1+1+1+(1+((x1.cW.w.map fun x2=>1).sum+1)+1)+1)).sum+1)+1)):=⟨fun enc W fuel cs d p h=>by
 obtain⟨xs,n,rfl,hl,hn,hf⟩:=pO h
 have hl:cs.length=2:=hl.trans (by kernel_rfl)
 match xs,hn with
 |[⟨d0,p0⟩,⟨d1,p1⟩],_=>
 match cs,hl with
 |[c0,c1],_=>
 have t0:DataW.trod enc Tryz.prog W 0 (fun _=>true) true n 3 [c0]=some (d0,p0):=(by have q:=hf 0 _ _ inferInstance;rw[show Tryz.prog.cellsOf 3=1 by kernel_rfl]at q;exact q)
 obtain⟨x0,a0,b0,e0,s0⟩:=rj.h (P:=Tryz.prog) (T:=3) (e:=aS) enc W n _ d0 p0 t0
 have t1:DataW.trod enc Tryz.prog W 0 (fun _=>true) true n 42 [c1]=some (d1,p1):=(by have q:=hf 1 _ _ inferInstance;rw[show Tryz.prog.cellsOf 42=1 by kernel_rfl]at q;exact q)
 obtain⟨x1,a1,b1,e1,s1⟩:=rj.h (P:=Tryz.prog) (T:=42) (e:=(eS 5 dH)) enc W n _ d1 p1 t1
 refine⟨⟨x0,x1⟩,⟨a0,a1⟩,⟨b0.1,b1.1,trivial⟩,?_,?_⟩
 ·intro v hv;simp only[List.mem_cons,List.not_mem_nil,or_false]at hv;rcases hv with rfl|rfl
  ·exact e0 _ (by simp)
  ·exact e1 _ (by simp)
 ·simp only[List.map_cons,List.map_nil,Rows.uptoBulk,Rows.uptoBulkAll];omega⟩
instance:O5 Tryz.prog 64 4:=⟨by kernel_rfl⟩
set_option maxRecDepth 100000 in
instance:rj Tryz.prog 64 dH (fun(z:En)=>((-9223372036854775808≤z.acc∧z.acc≤9223372036854775807)∧z.kd<256∧(-9223372036854775808≤z.hour∧z.hour≤9223372036854775807)∧(True∧(z.cW.w.length≤9223372036854775807∧∀x1∈z.cW.w,x1<4294967296)))) (fun(z:En)=>(1+1+1+(1+((z.cW.w.map fun x1=>1).sum+1)+1)+1)):=⟨fun enc W fuel cs d p h=>by
 obtain⟨xs,n,rfl,hl,hn,hf⟩:=pO h
 have hl:cs.length=5:=hl.trans (by kernel_rfl)
 match xs,hn with
 |[⟨d0,p0⟩,⟨d1,p1⟩,⟨d2,p2⟩,⟨d3,p3⟩],_=>
 match cs,hl with
 |[c0,c1,c2,c3,c4],_=>
 have t0:DataW.trod enc Tryz.prog W 0 (fun _=>true) true n 3 [c0]=some (d0,p0):=(by have q:=hf 0 _ _ inferInstance;rw[show Tryz.prog.cellsOf 3=1 by kernel_rfl]at q;exact q)
 obtain⟨x0,a0,b0,e0,s0⟩:=rj.h (P:=Tryz.prog) (T:=3) (e:=aS) enc W n _ d0 p0 t0
 have t1:DataW.trod enc Tryz.prog W 0 (fun _=>true) true n 5 [c1]=some (d1,p1):=(by have q:=hf 1 _ _ inferInstance;rw[show Tryz.prog.cellsOf 5=1 by kernel_rfl]at q;exact q)
 obtain⟨x1,a1,b1,e1,s1⟩:=rj.h (P:=Tryz.prog) (T:=5) (e:=Rj) enc W n _ d1 p1 t1
 have t2:DataW.trod enc Tryz.prog W 0 (fun _=>true) true n 3 [c2]=some (d2,p2):=(by have q:=hf 2 _ _ inferInstance;rw[show Tryz.prog.cellsOf 3=1 by kernel_rfl]at q;exact q)
 obtain⟨x2,a2,b2,e2,s2⟩:=rj.h (P:=Tryz.prog) (T:=3) (e:=aS) enc W n _ d2 p2 t2
 have t3:DataW.trod enc Tryz.prog W 0 (fun _=>true) true n 35 [c3,c4]=some (d3,p3):=(by have q:=hf 3 _ _ inferInstance;rw[show Tryz.prog.cellsOf 35=2 by kernel_rfl]at q;exact q)
 obtain⟨x3,a3,b3,e3,s3⟩:=rj.h (P:=Tryz.prog) (T:=35) (e:=eZ) enc W n _ d3 p3 t3
 refine⟨⟨x0,x1,x2,x3⟩,⟨a0,a1,a2,a3⟩,⟨b0.1,b1.1,b2.1,b3.1,b3.2.1,trivial⟩,?_,?_⟩
 ·intro v hv;simp only[List.mem_cons,List.not_mem_nil,or_false]at hv;rcases hv with rfl|rfl|rfl|rfl|rfl
  ·exact e0 _ (by simp)
  ·exact e1 _ (by simp)
  ·exact e2 _ (by simp)
  ·exact e3 _ (by simp)
  ·exact e3 _ (by simp)
 ·simp only[List.map_cons,List.map_nil,Rows.uptoBulk,Rows.uptoBulkAll];omega⟩
instance:O5 Tryz.prog 59 2:=⟨by kernel_rfl⟩
set_option maxRecDepth 100000 in
instance:rj Tryz.prog 59 Iv (fun(z:Bk)=>((-9223372036854775808≤z.n∧z.n≤9223372036854775807)∧(z.l.length≤9223372036854775807∧∀x1∈z.l,((-9223372036854775808≤x1.acc∧x1.acc≤9223372036854775807)∧x1.kd<256∧(-9223372036854775808≤x1.hour∧x1.hour≤9223372036854775807)∧(True∧(x1.cW.w.length≤9223372036854775807∧∀x2∈x1.cW.w,x2<4294967296)))))) (fun(z:Bk)=>(1+((z.l.map fun x1=>(1+1+1+(1+((x1.cW.w.map fun x2=>1).sum+1)+1)+1)).sum+1)+1)):=⟨fun enc W fuel cs d p h=>by
 obtain⟨xs,n,rfl,hl,hn,hf⟩:=pO h
 have hl:cs.length=2:=hl.trans (by kernel_rfl)
 match xs,hn with
 |[⟨d0,p0⟩,⟨d1,p1⟩],_=>
 match cs,hl with
 |[c0,c1],_=>
 have t0:DataW.trod enc Tryz.prog W 0 (fun _=>true) true n 3 [c0]=some (d0,p0):=(by have q:=hf 0 _ _ inferInstance;rw[show Tryz.prog.cellsOf 3=1 by kernel_rfl]at q;exact q)
 obtain⟨x0,a0,b0,e0,s0⟩:=rj.h (P:=Tryz.prog) (T:=3) (e:=aS) enc W n _ d0 p0 t0
 have t1:DataW.trod enc Tryz.prog W 0 (fun _=>true) true n 57 [c1]=some (d1,p1):=(by have q:=hf 1 _ _ inferInstance;rw[show Tryz.prog.cellsOf 57=1 by kernel_rfl]at q;exact q)
 obtain⟨x1,a1,b1,e1,s1⟩:=rj.h (P:=Tryz.prog) (T:=57) (e:=(eS 5 dH)) enc W n _ d1 p1 t1
 refine⟨⟨x0,x1⟩,⟨a0,a1⟩,⟨b0.1,b1.1,trivial⟩,?_,?_⟩
 ·intro v hv;simp only[List.mem_cons,List.not_mem_nil,or_false]at hv;rcases hv with rfl|rfl
  ·exact e0 _ (by simp)
  ·exact e1 _ (by simp)
 ·simp only[List.map_cons,List.map_nil,Rows.uptoBulk,Rows.uptoBulkAll];omega⟩
end Go.Proofs.YtmiflmkdaeianaaGreat
namespace Go.Fw
open Go.RowKit
theorem Fv{A B C:AS}(h:oK A B)(k:oK B C):oK A C:=fun c a w x=>k c a w (h c a w x)
theorem Bg{S:AS}(i o k:Nat)(E0:TypeId)(sz:Nat){T:TypeId}{cells:List AV}(hb:S.b i=some ⟨T,cells⟩)(hc:cells[o]? =some (.sv (.v (.slice none 0 0))))(hk:S.r k=.un)(UZ:k<1000):
  oK S ((AS.bg [(k,.live ⟨E0,sz,0,[]⟩)] S).jw i ⟨T,cells.set o (.row k)⟩):=by
 rintro C a w ⟨E,h⟩
 have h1:=h.newRow hk UZ [] none (.inl ⟨rfl,rfl⟩) (R':=⟨E0,sz,0,[]⟩) (World.ownsRow_nil w 0 E0 sz) (vs':=[]) trivial (.inl rfl) (pM w none)
 have B6:(AS.bg [(k,.live ⟨E0,sz,0,[]⟩)] S).b i=some ⟨T,cells⟩:=hb
 have hrk:(AS.bg [(k,.live ⟨E0,sz,0,[]⟩)] S).r k≠ .un:=by
  show(AS.oI S k _).r k≠_
  rw[AS.fR];simp
 refine⟨_,{h1 with wf:=?_,bx:=fun j B hB=>?_,inj:=fun j j' B B' hB dW e=>?_,rx:=fun j R hR=>?_}⟩
 ·refine⟨fun t j hj=>?_,h1.wf.tr,fun j B hB x hx m hm=>?_,fun j B hB x hx m hm=>?_⟩
  ·obtain⟨B,hB⟩:=h1.wf.tb t j hj
   by_cases e:j=i
   ·subst e;exact⟨_,AS.cq _ _ _⟩
   ·exact⟨B,by rw[AS.aX _ _ _ _ e];exact hB⟩
  ·have key:∃B',(AS.bg [(k,.live ⟨E0,sz,0,[]⟩)] S).b m=some B':=by
    by_cases e:j=i
    ·subst e;rw[AS.cq]at hB;cases hB
     rcases List.mem_or_eq_of_mem_set hx with hx|rfl
     ·exact h1.wf.bb j _ B6 x hx m hm
     ·exact hm.elim
    ·rw[AS.aX _ _ _ _ e]at hB;exact h1.wf.bb j B hB x hx m hm
   obtain⟨B',dW⟩:=key
   by_cases e:m=i
   ·subst e;exact⟨_,AS.cq _ _ _⟩
   ·exact⟨B',by rw[AS.aX _ _ _ _ e];exact dW⟩
  ·by_cases e:j=i
   ·subst e;rw[AS.cq]at hB;cases hB
    rcases List.mem_or_eq_of_mem_set hx with hx|rfl
    ·exact h1.wf.br j _ B6 x hx m hm
    ·cases hm;exact hrk
   ·rw[AS.aX _ _ _ _ e]at hB;exact h1.wf.br j B hB x hx m hm
 ·by_cases e:j=i
  ·subst e;rw[AS.cq]at hB;cases hB
   obtain⟨q1,q2,q3,vs,q4,q5⟩:=h1.bx j _ B6
   refine⟨q1,q2,q3,vs,q4,?_⟩
   obtain⟨x,hx,hv⟩:=q5.get hc
   have hv:x=.slice none 0 0:=hv
   have:=bW.set (i:=o) (s:=.row k) (x:=x) q5 (by
    show x=if k=k then _ else _
    rw[if_pos rfl];exact hv)
   have he:vs.set o x=vs:=by
    apply List.ext_getElem?
    intro n
    rw[List.getElem?_set]
    split
    ·rename_i hn;subst hn;rw[hx];split<;>rename_i hl
     ·rfl
     ·have:=(List.getElem?_eq_some_iff.1 hx).1;exact absurd this hl
    ·rfl
   rwa[he]at this
  ·rw[AS.aX _ _ _ _ e]at hB;exact h1.bx j B hB
 ·have old:∀n B,((AS.bg [(k,.live ⟨E0,sz,0,[]⟩)] S).jw i ⟨T,cells.set o (.row k)⟩).b n=some B→∃B',(AS.bg [(k,.live ⟨E0,sz,0,[]⟩)] S).b n=some B':=fun n B hn=>by
   by_cases e:n=i
   ·subst e;exact⟨_,B6⟩
   ·rw[AS.aX _ _ _ _ e]at hn;exact⟨B,hn⟩
  obtain⟨B1,p1⟩:=old j B hB
  obtain⟨B2,p2⟩:=old j' B' dW
  exact h1.inj j j' B1 B2 p1 p2 e
 ·obtain⟨p1,p2⟩:=h1.rx j R hR
  refine⟨p1,fun g hg=>?_⟩
  obtain⟨p3,p4,p5,p6⟩:=p2 g hg
  refine⟨p3,p4,p5,fun n B hn=>?_⟩
  by_cases e:n=i
  ·subst e;exact p6 n _ B6
  ·rw[AS.aX _ _ _ _ e]at hn;exact p6 n B hn
end Go.Fw
namespace Go.Fw
open Go.RowKit
section part
variable {P:Program}{C:Ctx}{ops:Array Oper}{acts:List Ac}{S:AS}
theorem uI(listed:Array Bool)(i:Nat)(hs:listed.size=ops.size)(hi:i<ops.size):listed.getD i true=listed.getD i false:=by
 rw[Array.getD_eq_getD_getElem?,Array.getD_eq_getD_getElem?]
 rw[Array.getElem?_eq_getElem (by omega)];rfl
end part
end Go.Fw
namespace Go.Fw
open Go.RowKit
instance{g:FuncId}{caps:List SV}:One (yK g caps):=⟨fun _ _ h=>by obtain⟨vs,rfl,_⟩:=h;rfl⟩
section steps
variable {P:Program}{C:Ctx}{ops:Array Oper}{S:AS}{nd:Bool}{K:List Ac→AS→Prop}{rest:List Oper}{acc:List Ac}
variable {gd:Option (Nat×Bool)}{rg:List Nat}{d:Nat}{ty:TypeId}{pos:String}{aft:Array Edge}{x y z:Operand}{T U E0:TypeId}
end steps
end Go.Fw
namespace Go.Fw.Z
open Go.Fw
theorem T{d n:Nat}(h:Nat.ble (d+1) n=true:=by exact rfl):d<n:=tl h
theorem bE{α β:Type}{x:Option α}{f:α→Option β}{r:β}{G:Prop}(h:Option.bind x f=some r)(k:∀a,x=some a→f a=some r→G):G:=by obtain⟨a,h1,h2⟩:=bind_some h;exact k a h1 h2
theorem lE{α β:Type}{v:α}{f:α→Option β}{r:β}{G:Prop}(h:Option.bind (some v) f=some r)(k:∀a,v=a→f a=some r→G):G:=k v rfl h
theorem bS{α β:Type}{x:Option α}{f:α→Option β}{r:β}(h:Option.bind x f=some r):∃a,x=some a∧f a=some r:=bind_some h
theorem F{α:Type}{x y:Option α}{r:α}(h:(bif false then x else y)=some r):y=some r:=h
theorem V{α:Type}{x y:Option α}{r:α}(h:(bif true then x else y)=some r):x=some r:=h
theorem O{α:Type}{a b:α}(h:some a=some b):a=b:=Option.some.inj h
def xj(l:List (Nat×Nat))(i:Nat):Nat:=((l.find? fun p=>Nat.beq p.1 i).map (·.2)).getD i
def rnA(l:List (Nat×Nat)):AV→AV
 |.row i=>.row (xj l i)
 |.lS i o n=>.lS (xj l i) o n
 |x=>x
def noR:AV→Bool
 |.gw _ _=>false
 |.cmp _ _=>false
 |_=>true
theorem avi(l:List (Nat×Nat)){x:AV}(h:noR x=true):Ii (xj l) (rnA l x) x:=by
 cases x with
 |sv s=>exact .sv (SV.aa _)
 |ptr i o=>exact .ptr
 |BS i o n c=>exact .BS
 |row i=>exact .row rfl
 |gw i k=>cases h
 |lS i o n=>exact .lS rfl
 |eV g js=>exact .eV
 |cmp t js=>cases h
theorem Vi(l:List (Nat×Nat)):∀{xs:List AV},(xs.all noR)=true→Ff (xj l) (xs.map (rnA l)) xs
 |[],_=>trivial
 |x::xs,h=>by simp only[List.all_cons,Bool.and_eq_true]at h;exact⟨avi l h.1,Vi l h.2⟩
theorem wR(l:List (Nat×Nat)){S:AS}{n:Nat}{ts:List (Nat×AV)}{bs:List (Nat×lP)}{rs:List (Nat×Row)}{g:Nat}{go:Bool}
  (ht:ts.map (fun p=>S.t p.1)=ts.map (fun p=>rnA l p.2):=by exact rfl) (hb:bs.map (fun p=>S.b p.1)=bs.map (fun p=>some ⟨p.2.T,p.2.cells.map (rnA l)⟩):=by exact rfl) (hr:rs.map (fun p=>S.r (xj l p.1))=rs.map (fun p=>.live p.2):=by exact rfl)
  (hn:S.n=n:=by exact rfl) (hg:S.g=g:=by exact rfl) (E5:S.go=go:=by exact rfl)
  (hwf:((ts.all fun p=>p.2.jO bs rs)&&(bs.all fun p=>p.2.cells.all fun x=>x.jO bs rs))=true:=by exact rfl) (hσ:((rs.all fun p=>rs.all fun q=>!(Nat.beq (xj l p.1) (xj l q.1))||Nat.beq p.1 q.1))=true:=by exact rfl)
  (hno:((ts.all fun p=>noR p.2)&&(bs.all fun p=>p.2.cells.all noR))=true:=by exact rfl) (hl:(l.all fun p=>Nat.ble (p.1+1) 1000)=true:=by exact rfl):oK S (AS.bL n ts bs rs g go):=by
 simp only[Bool.and_eq_true,List.all_eq_true]at hno
 refine dx (xj l) hn hg E5 hwf hσ ?_ ?_ ?_ ?_
 ·clear hwf hb hr
  obtain⟨h,-⟩:=hno
  induction ts with
  |nil=>trivial
  |cons p ts ih=>
   obtain⟨k,x⟩:=p
   simp only[List.map_cons,List.cons.injEq]at ht
   refine⟨?_,ih ht.2 (fun q hq=>h q (by simp[hq]))⟩
   show Ii _ (S.t k) x
   rw[ht.1];exact avi l (h (k,x) (by simp))
 ·clear hwf ht hr
  obtain⟨-,h⟩:=hno
  induction bs with
  |nil=>trivial
  |cons p bs ih=>
   obtain⟨k,x⟩:=p
   simp only[List.map_cons,List.cons.injEq]at hb
   exact⟨⟨_,hb.1,Vi l (List.all_eq_true.2 (h (k,x) (by simp)))⟩,ih hb.2 (fun q hq=>h q (by simp[hq]))⟩
 ·clear hwf ht hb hσ
  induction rs with
  |nil=>trivial
  |cons p rs ih=>
   obtain⟨k,x⟩:=p
   simp only[List.map_cons,List.cons.injEq]at hr
   exact⟨⟨_,hr.1,cn.refl _⟩,ih hr.2⟩
 ·intro i hi
  unfold xj
  have:l.find? (fun p=>Nat.beq p.1 i)=none:=by
   rw[List.find?_eq_none]
   intro p hp e
   have h1:=Nat.le_of_ble_eq_true (List.all_eq_true.1 hl p hp)
   have h2:=Nat.eq_of_beq_eq_true e
   omega
  rw[this];rfl
section
variable {P:Program}{C:Ctx}{S:AS}{Q:Exit→AS→Prop}
theorem qq{x y:Code}(h:Ok P C x S (ae (fun S'=>Ok P C y S' Q) Q)):Ok P C (.seq x y) S Q:=bA h
theorem sr{id:Nat}{ops:Array Oper}{y:Code}(h:RunT P C ops true (fun _ S=>ae (fun S'=>Ok P C y S' Q) Q .normal S) ops.toList [] S):Ok P C (.seq (.region id ops false) y) S Q:=bA (af h)
theorem dn{ops:Array Oper}{acc:List Ac}{next:AS→Prop}(h:next S):RunT P C ops true (fun _ S=>ae next Q .normal S) [] acc S:=h
theorem cF{c:Operand}{x y:Code}(hf:Ok P C y S Q)(hc:S.ev c=.sv (.v (.bool false)):=by exact rfl):Ok P C (.cond c x y) S Q:=ja hc hf
theorem cT{c:Operand}{x y:Code}(ht:Ok P C x S Q)(hc:S.ev c=.sv (.v (.bool true)):=by exact rfl):Ok P C (.cond c x y) S Q:=fT hc ht
theorem fs{c:Operand}{x:Code}{next:AS→Prop}(h:next S)(hc:S.ev c=.sv (.v (.bool false)):=by exact rfl):Ok P C (.cond c x .skip) S (ae next Q):=ja hc (aE h)
theorem R1{A:Prop}{e:Exit}{t:Nat}{s:SV}(h:S.t t=.sv s):(A∨e=e)∧Jd P S [.tmp t] s:=⟨.inr rfl,cg (.tmp h .nil) (SV.aa _)⟩
theorem R2{A:Prop}{e:Exit}{t u:Nat}{s s':SV}(h:S.t t=.sv s)(h':S.t u=.sv s'):(A∨e=e)∧Jd P S [.tmp t,.tmp u] (.w6 [s,s']):=⟨.inr rfl,cg (.tmp h (.tmp h' .nil)) (SV.aa _)⟩
theorem RZ{A:Prop}{e:Exit}{rs:List ResultVar}{ss:List SV}{r:SV}(h:Jg P S rs ss)(h':SV.imp (JE ss) r:=by exact SV.aa _):(A∨e=e)∧Jd P S rs r:=⟨.inr rfl,cg h h'⟩
end
section
variable {P:Program}{C:Ctx}{ops:Array Oper}{S:AS}{nd:Bool}{K:List Ac→AS→Prop}{rest:List Oper}{acc:List Ac}
variable {gd:Option (Nat×Bool)}{rg:List Nat}{d:Nat}{ty:TypeId}{pos:String}{aft:Array Edge}{x y z:Operand}{T U:TypeId}{k:IntKind}{p q:Int}
theorem pF{s:SV}(hz:S.ev z=.sv s)(next:RunT P C ops nd K rest (⟨[]++(ak x++ak z),[],[],⟨some (d,.sv s),[],[]⟩⟩::acc) (S.set d (.sv s)))(hx:S.ev x=.sv (.v (.bool false)):=by exact rfl)(hd:d<S.n:=by exact tl rfl):RunT P C ops nd K (⟨some d,.pick x y z,ty,pos,aft,none⟩::rest) acc S:=
 RT.OR .none hx hz hd next
theorem pT{s:SV}(hy:S.ev y=.sv s)(next:RunT P C ops nd K rest (⟨[]++(ak x++ak y),[],[],⟨some (d,.sv s),[],[]⟩⟩::acc) (S.set d (.sv s)))(hx:S.ev x=.sv (.v (.bool true)):=by exact rfl)(hd:d<S.n:=by exact tl rfl):RunT P C ops nd K (⟨some d,.pick x y z,ty,pos,aft,none⟩::rest) acc S:=
 RT.OQ .none hx hy hd next
theorem mo{s:AV}(hx:S.ev x=s)(next:RunT P C ops nd K rest (⟨[]++ak x,[],[],⟨some (d,s),[],[]⟩⟩::acc) (S.set d s))(hd:d<S.n:=by exact tl rfl):RunT P C ops nd K (⟨some d,.move x,ty,pos,aft,none⟩::rest) acc S:=
 RT.move .none hx hd next
theorem ad(c:Int)(hx:S.ev x=.sv (.v (.int k p)))(hy:S.ev y=.sv (.v (.int k q)))(hc:k.wrap (p+q)=c)(next:RunT P C ops nd K rest (⟨[]++(ak x++ak y),[],[],⟨some (d,.sv (.v (.int k c))),[],[]⟩⟩::acc) (S.set d (.sv (.v (.int k c)))))(hd:d<S.n:=by exact tl rfl):RunT P C ops nd K (⟨some d,.binOp .add T x y U,ty,pos,aft,none⟩::rest) acc S:=
 RT.add .none c hx hy hd hc next
theorem cv{j:IntKind}[tT:fU P T j][tU:fU P U k](c:Int){k':IntKind}(hx:S.ev x=.sv (.v (.int k' p)))(hc:k.wrap p=c)(next:RunT P C ops nd K rest (⟨[]++ak x,[],[],⟨some (d,.sv (.v (.int k c))),[],[]⟩⟩::acc) (S.set d (.sv (.v (.int k c)))))(hd:d<S.n:=by exact tl rfl):RunT P C ops nd K (⟨some d,.convert T U x,ty,pos,aft,none⟩::rest) acc S:=
 RT.conv .none c hx hd hc next
theorem ls(c:Bool)(hx:S.ev x=.sv (.v (.int k p)))(hy:S.ev y=.sv (.v (.int k q)))(hc:decide (p<q)=c)(next:RunT P C ops nd K rest (⟨[]++(ak x++ak y),[],[],⟨some (d,.sv (.v (.bool c))),[],[]⟩⟩::acc) (S.set d (.sv (.v (.bool c)))))(hd:d<S.n:=by exact tl rfl):RunT P C ops nd K (⟨some d,.binOp .lss T x y U,ty,pos,aft,none⟩::rest) acc S:=
 RT.lss .none c hx hy hd hc next
theorem sb(c:Int)(hx:S.ev x=.sv (.v (.int k p)))(hy:S.ev y=.sv (.v (.int k q)))(hc:k.wrap (p-q)=c)(next:RunT P C ops nd K rest (⟨[]++(ak x++ak y),[],[],⟨some (d,.sv (.v (.int k c))),[],[]⟩⟩::acc) (S.set d (.sv (.v (.int k c)))))(hd:d<S.n:=by exact tl rfl):RunT P C ops nd K (⟨some d,.binOp .sub T x y U,ty,pos,aft,none⟩::rest) acc S:=
 RT.sub .none c hx hy hd hc next
theorem an{s:AV}(hx:S.ev x=s)(next:RunT P C ops nd K rest (⟨[]++ak x,[],[],⟨some (d,s),[],[]⟩⟩::acc) (S.set d s))(hd:d<S.n:=by exact tl rfl):RunT P C ops nd K (⟨some d,.assign x,ty,pos,aft,none⟩::rest) acc S:=
 RT.assign .none hx hd next
theorem gt(c:Bool)(hx:S.ev x=.sv (.v (.int k p)))(hy:S.ev y=.sv (.v (.int k q)))(hc:decide (q<p)=c)(next:RunT P C ops nd K rest (⟨[]++(ak x++ak y),[],[],⟨some (d,.sv (.v (.bool c))),[],[]⟩⟩::acc) (S.set d (.sv (.v (.bool c)))))(hd:d<S.n:=by exact tl rfl):RunT P C ops nd K (⟨some d,.binOp .gtr T x y U,ty,pos,aft,none⟩::rest) acc S:=
 RT.gtr .none c hx hy hd hc next
theorem eq(c:Bool)(hx:S.ev x=.sv (.v (.int k p)))(hy:S.ev y=.sv (.v (.int k q)))(hc:(p==q)=c)(next:RunT P C ops nd K rest (⟨[]++(ak x++ak y),[],[],⟨some (d,.sv (.v (.bool c))),[],[]⟩⟩::acc) (S.set d (.sv (.v (.bool c)))))(hd:d<S.n:=by exact tl rfl):RunT P C ops nd K (⟨some d,.binOp .eql T x y U,ty,pos,aft,none⟩::rest) acc S:=
 RT.eql .none c hx hy hd hc next
theorem ne(c:Bool)(hx:S.ev x=.sv (.v (.int k p)))(hy:S.ev y=.sv (.v (.int k q)))(hc:(p != q)=c)(next:RunT P C ops nd K rest (⟨[]++(ak x++ak y),[],[],⟨some (d,.sv (.v (.bool c))),[],[]⟩⟩::acc) (S.set d (.sv (.v (.bool c)))))(hd:d<S.n:=by exact tl rfl):RunT P C ops nd K (⟨some d,.binOp .neq T x y U,ty,pos,aft,none⟩::rest) acc S:=
 RT.neq .none c hx hy hd hc next
theorem ge(c:Bool)(hx:S.ev x=.sv (.v (.int k p)))(hy:S.ev y=.sv (.v (.int k q)))(hc:decide (q≤p)=c)(next:RunT P C ops nd K rest (⟨[]++(ak x++ak y),[],[],⟨some (d,.sv (.v (.bool c))),[],[]⟩⟩::acc) (S.set d (.sv (.v (.bool c)))))(hd:d<S.n:=by exact tl rfl):RunT P C ops nd K (⟨some d,.binOp .geq T x y U,ty,pos,aft,none⟩::rest) acc S:=
 RT.geq .none c hx hy hd hc next
theorem nt{b:Bool}(hx:S.ev x=.sv (.v (.bool b)))(c:Bool)(hc:(!b)=c)(next:RunT P C ops nd K rest (⟨[]++ak x,[],[],⟨some (d,.sv (.v (.bool c))),[],[]⟩⟩::acc) (S.set d (.sv (.v (.bool c)))))(hd:d<S.n:=by exact tl rfl):RunT P C ops nd K (⟨some d,.unOp .not T x,ty,pos,aft,none⟩::rest) acc S:=
 RT.not .none hx hd c hc next
theorem gF{j_ g_:Nat}{ez:Bool}{s:SV}(hz:S.ev z=.sv s)(next:RunT P C ops nd K rest (⟨[g_]++(ak x++ak z),[],[],⟨some (d,.sv s),[],[]⟩⟩::acc) (S.set d (.sv s)))(AD:(ops[j_]?).bind (·.dst)=some g_:=by exact rfl)(AE:S.t g_=.sv (.v (.bool ez)):=by exact rfl)(hx:S.ev x=.sv (.v (.bool false)):=by exact rfl)(hd:d<S.n:=by exact tl rfl):RunT P C ops nd K (⟨some d,.pick x y z,ty,pos,aft,some (j_,ez)⟩::rest) acc S:=
 RT.OR (.some AD AE) hx hz hd next
theorem gT{j_ g_:Nat}{ez:Bool}{s:SV}(hy:S.ev y=.sv s)(next:RunT P C ops nd K rest (⟨[g_]++(ak x++ak y),[],[],⟨some (d,.sv s),[],[]⟩⟩::acc) (S.set d (.sv s)))(AD:(ops[j_]?).bind (·.dst)=some g_:=by exact rfl)(AE:S.t g_=.sv (.v (.bool ez)):=by exact rfl)(hx:S.ev x=.sv (.v (.bool true)):=by exact rfl)(hd:d<S.n:=by exact tl rfl):RunT P C ops nd K (⟨some d,.pick x y z,ty,pos,aft,some (j_,ez)⟩::rest) acc S:=
 RT.OQ (.some AD AE) hx hy hd next
theorem gq{j_ g_:Nat}{ez:Bool}(c:Bool)(hx:S.ev x=.sv (.v (.int k p)))(hy:S.ev y=.sv (.v (.int k q)))(hc:(p != q)=c)(next:RunT P C ops nd K rest (⟨[g_]++(ak x++ak y),[],[],⟨some (d,.sv (.v (.bool c))),[],[]⟩⟩::acc) (S.set d (.sv (.v (.bool c)))))(AD:(ops[j_]?).bind (·.dst)=some g_:=by exact rfl)(AE:S.t g_=.sv (.v (.bool ez)):=by exact rfl)(hd:d<S.n:=by exact tl rfl):RunT P C ops nd K (⟨some d,.binOp .neq T x y U,ty,pos,aft,some (j_,ez)⟩::rest) acc S:=
 RT.neq (.some AD AE) c hx hy hd hc next
theorem gg{j_ g_:Nat}{ez:Bool}(c:Bool)(hx:S.ev x=.sv (.v (.int k p)))(hy:S.ev y=.sv (.v (.int k q)))(hc:decide (q<p)=c)(next:RunT P C ops nd K rest (⟨[g_]++(ak x++ak y),[],[],⟨some (d,.sv (.v (.bool c))),[],[]⟩⟩::acc) (S.set d (.sv (.v (.bool c)))))(AD:(ops[j_]?).bind (·.dst)=some g_:=by exact rfl)(AE:S.t g_=.sv (.v (.bool ez)):=by exact rfl)(hd:d<S.n:=by exact tl rfl):RunT P C ops nd K (⟨some d,.binOp .gtr T x y U,ty,pos,aft,some (j_,ez)⟩::rest) acc S:=
 RT.gtr (.some AD AE) c hx hy hd hc next
theorem DO{j_ g_:Nat}{ez:Bool}(c:Bool)(hx:S.ev x=.sv (.v (.int k p)))(hy:S.ev y=.sv (.v (.int k q)))(hc:(p==q)=c)(next:RunT P C ops nd K rest (⟨[g_]++(ak x++ak y),[],[],⟨some (d,.sv (.v (.bool c))),[],[]⟩⟩::acc) (S.set d (.sv (.v (.bool c)))))(AD:(ops[j_]?).bind (·.dst)=some g_:=by exact rfl)(AE:S.t g_=.sv (.v (.bool ez)):=by exact rfl)(hd:d<S.n:=by exact tl rfl):RunT P C ops nd K (⟨some d,.binOp .eql T x y U,ty,pos,aft,some (j_,ez)⟩::rest) acc S:=
 RT.eql (.some AD AE) c hx hy hd hc next
theorem gt_{j_ g_:Nat}{ez:Bool}{b:Bool}(hx:S.ev x=.sv (.v (.bool b)))(c:Bool)(hc:(!b)=c)(next:RunT P C ops nd K rest (⟨[g_]++ak x,[],[],⟨some (d,.sv (.v (.bool c))),[],[]⟩⟩::acc) (S.set d (.sv (.v (.bool c)))))(AD:(ops[j_]?).bind (·.dst)=some g_:=by exact rfl)(AE:S.t g_=.sv (.v (.bool ez)):=by exact rfl)(hd:d<S.n:=by exact tl rfl):RunT P C ops nd K (⟨some d,.unOp .not T x,ty,pos,aft,some (j_,ez)⟩::rest) acc S:=
 RT.not (.some AD AE) hx hd c hc next
end
section
variable {P:Program}{C:Ctx}{ops:Array Oper}{S:AS}{nd:Bool}{K:List Ac→AS→Prop}{rest:List Oper}{acc:List Ac}
variable {gd:Option (Nat×Bool)}{rg:List Nat}{d:Nat}{ty:TypeId}{pos:String}{aft:Array Edge}{x y z:Operand}{T U E0:TypeId}
theorem mv{s:SV}(hx:S.ev x=.sv s)(next:RunT P C ops nd K rest (⟨[]++ak x,[],[],⟨some (d,.sv s),[],[]⟩⟩::acc) (S.set d (.sv s)))(hd:d<S.n:=by exact tl rfl):RunT P C ops nd K (⟨some d,.move x,ty,pos,aft,none⟩::rest) acc S:=
 RT.mv .none hx hd next
theorem ag{s:SV}(hx:S.ev x=.sv s)(next:RunT P C ops nd K rest (⟨[]++ak x,[],[],⟨some (d,.sv s),[],[]⟩⟩::acc) (S.set d (.sv s)))(hd:d<S.n:=by exact tl rfl):RunT P C ops nd K (⟨some d,.assign x,ty,pos,aft,none⟩::rest) acc S:=
 RT.B7 .none hx hd next
theorem cl{f:FuncId}[cz P f]{g:Operand}{xs:Array Operand}{at_:Array TypeId}{args:List SV}{r:SV}(hp:Pure P f args r)(hargs:ik S xs.toList args)(next:RunT P C ops nd K rest (⟨[]++(ak g++xs.toList.flatMap ak),[],[],⟨some (d,.sv r),[],[]⟩⟩::acc) (S.set d (.sv r)))(hf:S.ev g=.sv (.v (.func (.func f) #[] #[])):=by exact rfl)(hd:d<S.n:=by exact tl rfl):RunT P C ops nd K (⟨some d,.call ⟨.value g,xs,at_⟩,ty,pos,aft,none⟩::rest) acc S:=
 RT.call .none hp hf hargs hd next
theorem ld{n:Nat}[tA:gU P T n]{j off:Nat}{B:lP}{cs:List SV}(hx:S.ev x=.ptr j off)(hB:S.b j=some B)(hcs:Jc B.cells off cs)(next:RunT P C ops nd K rest (⟨[]++ak x,[j],[],⟨some (d,.sv (.agg cs)),[],[]⟩⟩::acc) (S.set d (.sv (.agg cs))))(hn:cs.length=n:=by exact rfl)(hd:d<S.n:=by exact tl rfl):RunT P C ops nd K (⟨some d,.load T x,ty,pos,aft,none⟩::rest) acc S:=
 RT.load .none hx hB hcs hn hd next
theorem lV[tV:cK P T]{j off:Nat}{B:lP}{s:SV}(hx:S.ev x=.ptr j off)(hB:S.b j=some B)(hn:B.cells[off]? =some (.sv s))(next:RunT P C ops nd K rest (⟨[]++ak x,[j],[],⟨some (d,.sv s),[],[]⟩⟩::acc) (S.set d (.sv s)))(hd:d<S.n:=by exact tl rfl):RunT P C ops nd K (⟨some d,.load T x,ty,pos,aft,none⟩::rest) acc S:=
 RT.OW .none hx hB hn hd next
theorem fa{f off:Nat}[hf:eP P T f off U][sU:eK P U]{j o:Nat}(hx:S.ev x=.ptr j o){o':Nat}(ho':o+off=o')(next:RunT P C ops nd K rest (⟨[]++ak x,[],[],⟨some (d,.ptr j o'),[],[]⟩⟩::acc) (S.set d (.ptr j o')))(hd:d<S.n:=by exact tl rfl):RunT P C ops nd K (⟨some d,.fieldAddr T x f,ty,pos,aft,none⟩::rest) acc S:=
 RT.fieldAddr .none hx hd ho' next
theorem so{n:Nat}[tA:gU P T n]{j:Nat}{B:lP}{cs:List SV}[o1:vZ cs](hx:S.ev x=.ptr j 0)(hB:S.b j=some B)(hy:S.ev y=.sv (.agg cs))(next:RunT P C ops nd K rest (⟨[]++(ak x++ak y),[j],[],⟨none,[(j,⟨B.T,cs.map AV.sv⟩)],[]⟩⟩::acc) (S.jw j ⟨B.T,cs.map AV.sv⟩))(uA:cs.length=n:=by exact rfl)(hn:B.cells.length=n:=by exact rfl):RunT P C ops nd K (⟨none,.store T x y,ty,pos,aft,none⟩::rest) acc S:=
 RT.store .none hx hB hy uA hn next
theorem ex{i:Nat}{ss:List SV}{s:SV}(hx:S.ev x=.sv (.w6 ss))(hi:ss[i]? =some s)(next:RunT P C ops nd K rest (⟨[]++ak x,[],[],⟨some (d,.sv s),[],[]⟩⟩::acc) (S.set d (.sv s)))(hd:d<S.n:=by exact tl rfl):RunT P C ops nd K (⟨some d,.extract x i,ty,pos,aft,none⟩::rest) acc S:=
 RT.extract .none hx hi hd next
theorem bx{cells:List SV}(hx:S.ev x=.sv (.agg cells))(next:RunT P C ops nd K rest (⟨[]++ak x,[d],[],⟨some (d,.ptr d 0),[(d,⟨T,cells.map AV.sv⟩)],[]⟩⟩::acc) ((S.jw d ⟨T,cells.map AV.sv⟩).set d (.ptr d 0)))(hd:d<S.n:=by exact tl rfl)(hb:S.b d=none:=by exact rfl)(hp:C.fK d=none:=by exact rfl):RunT P C ops nd K (⟨some d,.box T x,ty,pos,aft,none⟩::rest) acc S:=
 RT.box .none hx hd hb hp next
theorem lr[tV:cK P T]{cells:List SV}{s:SV}(hx:S.ev x=.sv (ref cells))(hn:cells[0]? =some s)(next:RunT P C ops nd K rest (⟨[]++ak x,[],[],⟨some (d,.sv s),[],[]⟩⟩::acc) (S.set d (.sv s)))(hd:d<S.n:=by exact tl rfl):RunT P C ops nd K (⟨some d,.load T x,ty,pos,aft,none⟩::rest) acc S:=
 RT.ic .none hx hn hd next
theorem cB{f:FuncId}[cz P f]{g:Operand}{xs:Array Operand}{at_:Array TypeId}{args:List SV}{T:TypeId}{c0 c1:List SV}{res:SV}(hp:MP P f args T c0 res c1)(j:Nat)(hB:S.b j=some ⟨T,c0.map AV.sv⟩)(hargs:ik S xs.toList args)(next:RunT P C ops nd K rest (⟨[]++(ak g++xs.toList.flatMap ak),[j],[],⟨some (d,.sv res),[(j,⟨T,c1.map AV.sv⟩)],[]⟩⟩::acc) ((AS.ee [(j,⟨T,c1.map AV.sv⟩)] S).set d (.sv res)))(hf:S.ev g=.eV f [.box j]:=by exact rfl)(hd:d<S.n:=by exact tl rfl):RunT P C ops nd K (⟨some d,.call ⟨.value g,xs,at_⟩,ty,pos,aft,none⟩::rest) acc S:=
 RT.UU .none hp j hB hf hargs hd next
theorem cN{f:FuncId}[cz P f]{g:Operand}{xs:Array Operand}{at_:Array TypeId}{args:List SV}{R:Row}(hp:DH P f args R)(hargs:ik S xs.toList args)(next:RunT P C ops nd K rest (⟨[]++(ak g++xs.toList.flatMap ak),[],[d],⟨some (d,.row d),[],[(d,.live R)]⟩⟩::acc) ((AS.bg [(d,.live R)] S).set d (.row d)))(hf:S.ev g=.sv (.v (.func (.func f) #[] #[])):=by exact rfl)(hd:d<S.n:=by exact tl rfl)(v5:S.r d=.un:=by exact rfl)(uB:d<1000:=by exact tl rfl):RunT P C ops nd K (⟨some d,.call ⟨.value g,xs,at_⟩,ty,pos,aft,none⟩::rest) acc S:=
 RT.UT .none hp hf hargs hd v5 uB next
theorem gm{j_ g_:Nat}{ez:Bool}{s:SV}(hx:S.ev x=.sv s)(next:RunT P C ops nd K rest (⟨[g_]++ak x,[],[],⟨some (d,.sv s),[],[]⟩⟩::acc) (S.set d (.sv s)))(AD:(ops[j_]?).bind (·.dst)=some g_:=by exact rfl)(AE:S.t g_=.sv (.v (.bool ez)):=by exact rfl)(hd:d<S.n:=by exact tl rfl):RunT P C ops nd K (⟨some d,.move x,ty,pos,aft,some (j_,ez)⟩::rest) acc S:=
 RT.mv (.some AD AE) hx hd next
theorem gl{j_ g_:Nat}{ez:Bool}{n:Nat}[tA:gU P T n]{j off:Nat}{B:lP}{cs:List SV}(hx:S.ev x=.ptr j off)(hB:S.b j=some B)(hcs:Jc B.cells off cs)(next:RunT P C ops nd K rest (⟨[g_]++ak x,[j],[],⟨some (d,.sv (.agg cs)),[],[]⟩⟩::acc) (S.set d (.sv (.agg cs))))(AD:(ops[j_]?).bind (·.dst)=some g_:=by exact rfl)(AE:S.t g_=.sv (.v (.bool ez)):=by exact rfl)(hn:cs.length=n:=by exact rfl)(hd:d<S.n:=by exact tl rfl):RunT P C ops nd K (⟨some d,.load T x,ty,pos,aft,some (j_,ez)⟩::rest) acc S:=
 RT.load (.some AD AE) hx hB hcs hn hd next
theorem gc{j_ g_:Nat}{ez:Bool}{f:FuncId}[cz P f]{g:Operand}{xs:Array Operand}{at_:Array TypeId}{args:List SV}{r:SV}(hp:Pure P f args r)(hargs:ik S xs.toList args)(next:RunT P C ops nd K rest (⟨[g_]++(ak g++xs.toList.flatMap ak),[],[],⟨some (d,.sv r),[],[]⟩⟩::acc) (S.set d (.sv r)))(AD:(ops[j_]?).bind (·.dst)=some g_:=by exact rfl)(AE:S.t g_=.sv (.v (.bool ez)):=by exact rfl)(hf:S.ev g=.sv (.v (.func (.func f) #[] #[])):=by exact rfl)(hd:d<S.n:=by exact tl rfl):RunT P C ops nd K (⟨some d,.call ⟨.value g,xs,at_⟩,ty,pos,aft,some (j_,ez)⟩::rest) acc S:=
 RT.call (.some AD AE) hp hf hargs hd next
theorem gr{j_ g_:Nat}{ez:Bool}[tV:cK P T]{cells:List SV}{s:SV}(hx:S.ev x=.sv (ref cells))(hn:cells[0]? =some s)(next:RunT P C ops nd K rest (⟨[g_]++ak x,[],[],⟨some (d,.sv s),[],[]⟩⟩::acc) (S.set d (.sv s)))(AD:(ops[j_]?).bind (·.dst)=some g_:=by exact rfl)(AE:S.t g_=.sv (.v (.bool ez)):=by exact rfl)(hd:d<S.n:=by exact tl rfl):RunT P C ops nd K (⟨some d,.load T x,ty,pos,aft,some (j_,ez)⟩::rest) acc S:=
 RT.ic (.some AD AE) hx hn hd next
end
section
variable {P:Program}{C:Ctx}{ops:Array Oper}{S:AS}{nd:Bool}{K:List Ac→AS→Prop}{rest:List Oper}{acc:List Ac}
variable {gd:Option (Nat×Bool)}{rg:List Nat}{d:Nat}{ty:TypeId}{pos:String}{aft:Array Edge}{x y z:Operand}{T U E0:TypeId}
variable {l l' k:M1}
theorem ww{op:Op}{j g:Nat}{b want:Bool}(next:RunT P C ops nd K rest (⟨[g],[],[],⟨some (d,.sv (.v undef)),[],[]⟩⟩::acc) (S.set d (.sv (.v undef))))(h1:(ops[j]?).bind (·.dst)=some g:=by exact rfl)(h2:S.t g=.sv (.v (.bool b)):=by exact rfl)(hb:b≠want:=by exact sk rfl)(hd:d<S.n:=by exact tl rfl):RunT P C ops nd K (⟨some d,op,ty,pos,aft,some (j,want)⟩::rest) acc S:=
 RT.skV h1 h2 hb hd next
theorem wu{op:Op}{j g:Nat}{want:Bool}(next:RunT P C ops nd K rest (⟨[g],[],[],⟨some (d,.sv (.v undef)),[],[]⟩⟩::acc) (S.set d (.sv (.v undef))))(h1:(ops[j]?).bind (·.dst)=some g:=by exact rfl)(h2:S.t g=.sv (.v undef):=by exact rfl)(hd:d<S.n:=by exact tl rfl):RunT P C ops nd K (⟨some d,op,ty,pos,aft,some (j,want)⟩::rest) acc S:=
 RT.Vf h1 h2 hd next
end
section
variable {P:Program}{C:Ctx}{ops:Array Oper}{S:AS}{nd:Bool}{K:List Ac→AS→Prop}{rest:List Oper}{acc:List Ac}
variable {gd:Option (Nat×Bool)}{rg:List Nat}{d:Nat}{ty:TypeId}{pos:String}{aft:Array Edge}{x y z:Operand}{T U E0:TypeId}
variable {α:Type}{l l' k:List α}{e:α→List SV}{n by_:Nat}{zv:Value}
theorem ln{m:Nat}[tS:dD P T E0 m]{c:Int}(hx:S.ev x=.sv (slc n (l.map e)))(hc:(l.length:Int)=c)(next:RunT P C ops nd K rest (⟨[]++ak x,[],[],⟨some (d,.sv (.v (.int .i64 c))),[],[]⟩⟩::acc) (S.set d (.sv (.v (.int .i64 c)))))(hd:d<S.n:=by exact tl rfl):RunT P C ops nd K (⟨some d,.call ⟨.builtin .len,#[x],#[T]⟩,ty,pos,aft,none⟩::rest) acc S:=
 RT.U8 .none hx hd hc next
theorem al[tz:ay P T zv]{cs:List SV}(hi:cn (zv.cells.toList.map SV.v) cs){av:List AV}(hav:cs.map AV.sv=av)(next:RunT P C ops nd K rest (⟨[]++[],[d],[],⟨some (d,.ptr d 0),[(d,⟨T,av⟩)],[]⟩⟩::acc) ((S.jw d ⟨T,av⟩).set d (.ptr d 0)))(hd:d<S.n:=by exact tl rfl)(hb:S.b d=none:=by exact rfl)(hp:C.fK d=none:=by exact rfl):RunT P C ops nd K (⟨some d,.alloc T,ty,pos,aft,none⟩::rest) acc S:=
 RT.Rk .none hi hav hd hb hp next
theorem ix[tS:dD P T E0 n]{kk:IntKind}{i:Int}{a:α}(hx:S.ev x=.sv (slc n (l.map e)))(hy:S.ev y=.sv (.v (.int kk i)))(ha:bQ l i=some a)(next:RunT P C ops nd K rest (⟨[]++(ak x++ak y),[],[],⟨some (d,.sv (ref (e a))),[],[]⟩⟩::acc) (S.set d (.sv (ref (e a)))))(hd:d<S.n:=by exact tl rfl):RunT P C ops nd K (⟨some d,.indexAddr T x y,ty,pos,aft,none⟩::rest) acc S:=
 RT.Iy .none hx hy hd ha next
theorem bl[tS:dD P T E0 n][tE:aK P E0 n by_ zv]{len:Nat}{parts:Array (Nat×Operand)}{qs:List (Nat×List SV)}(hp:mc S parts.toList qs)(hc:n8 0 qs=true)(hl:qs.length=len)(hsz:(qs.all fun q=>Nat.beq q.2.length n)=true)(hlen:Nat.ble (len*n) 16777216=true)(Im:(zv.cells.toList.all fun v=>v.oneCell')=true)(kY:qs.map (·.2)=l.map e)(next:RunT P C ops nd K rest (⟨[]++jQ parts.toList,[],[],⟨some (d,.sv (slc n (l.map e))),[],[]⟩⟩::acc) (S.set d (.sv (slc n (l.map e)))))(hd:d<S.n:=by exact tl rfl):RunT P C ops nd K (⟨some d,.buildSlice T len parts,ty,pos,aft,none⟩::rest) acc S:=
 RT.MY .none hp hd hc hl hsz hlen Im kY next
theorem iR[tS:dD P T E0 n]{i j:Nat}{E1:TypeId}{kk:IntKind}{v:Int}(hx:S.ev x=.row i)(hR:S.r i=.live (TR E1 n e l))(hy:S.ev y=.sv (.v (.int kk v)))(h:qX l v=some j)(next:RunT P C ops nd K rest (⟨[]++(ak x++ak y),[],[i],⟨some (d,.gw i (j*n)),[],[]⟩⟩::acc) (S.set d (.gw i (j*n))))(hd:d<S.n:=by exact tl rfl):RunT P C ops nd K (⟨some d,.indexAddr T x y,ty,pos,aft,none⟩::rest) acc S:=
 RT.ac1 .none hx hR hy hd h next
theorem aI{s X:SV}(hx:S.ev x=.sv s)(hi:SV.imp s X)(next:RunT P C ops nd K rest (⟨[]++ak x,[],[],⟨some (d,.sv X),[],[]⟩⟩::acc) (S.set d (.sv X)))(hd:d<S.n:=by exact tl rfl):RunT P C ops nd K (⟨some d,.assign x,ty,pos,aft,none⟩::rest) acc S:=
 RT.acZ .none hx hi hd next
theorem bI{pl:List (Nat×Nat)}{zc:List Value}[tP:bB P T pl zc]{parts:Array (Nat×Operand)}{qs:List (Nat×List SV)}(hp:mc S parts.toList qs){cs cs':List SV}(hi:cn cs cs')(next:RunT P C ops nd K rest (⟨[]++jQ parts.toList,[],[],⟨some (d,.sv (.agg cs')),[],[]⟩⟩::acc) (S.set d (.sv (.agg cs'))))(hf:sM (fun i=>pl[i]?) (zc.map SV.v) qs=some cs:=by exact rfl)(hd:d<S.n:=by exact tl rfl):RunT P C ops nd K (⟨some d,.build T parts,ty,pos,aft,none⟩::rest) acc S:=
 RT.Rl .none hp hf hi hd next
theorem lR[tV:cK P T][el:EL e 1]{i j:Nat}{E1:TypeId}{a:α}{s:SV}(hx:S.ev x=.gw i (j*1))(hR:S.r i=.live (TR E1 1 e l))(ha:l[j]? =some a)(hs:e a=[s])(next:RunT P C ops nd K rest (⟨[]++ak x,[],[i],⟨some (d,.sv s),[],[]⟩⟩::acc) (S.set d (.sv s)))(hd:d<S.n:=by exact tl rfl):RunT P C ops nd K (⟨some d,.load T x,ty,pos,aft,none⟩::rest) acc S:=
 RT.Vc .none hx hR ha hs hd next
theorem aR[tS:dD P T E0 n][tE:aK P E0 n by_ zv]{i:Nat}(hx:S.ev x=.row i)(hR:S.r i=.live (TR E0 n e l))(hy:S.ev y=.sv (slc n (k.map e)))(h:uC by_ l k=some l')(next:RunT P C ops nd K rest (⟨[]++(ak x++ak y),[],[i,d],⟨some (d,.row d),[],[(i,.dead),(d,.live (TR E0 n e l'))]⟩⟩::acc) ((AS.bg [(i,.dead),(d,.live (TR E0 n e l'))] S).set d (.row d)))(hd:d<S.n:=by exact tl rfl)(v5:S.r d=.un:=by exact rfl)(uB:d<1000:=by exact tl rfl):RunT P C ops nd K (⟨some d,.call ⟨.builtin .append,#[x,y],#[T,T]⟩,ty,pos,aft,none⟩::rest) acc S:=
 RT.apR .none hx hR hy hd v5 uB h next
theorem lA[tA:gU P T n][el:EL e n]{i j:Nat}{E1:TypeId}{a:α}(hx:S.ev x=.gw i (j*n))(hR:S.r i=.live (TR E1 n e l))(ha:l[j]? =some a)(next:RunT P C ops nd K rest (⟨[]++ak x,[],[i],⟨some (d,.sv (.agg (e a))),[],[]⟩⟩::acc) (S.set d (.sv (.agg (e a)))))(hd:d<S.n:=by exact tl rfl):RunT P C ops nd K (⟨some d,.load T x,ty,pos,aft,none⟩::rest) acc S:=
 RT.Vd .none hx hR ha hd next
theorem sR[tV:cK P T][el:EL e 1]{i j:Nat}{E1:TypeId}{s:SV}[o1:One s](a:α)(hs:e a=[s])(hx:S.ev x=.gw i (j*1))(hR:S.r i=.live (TR E1 1 e l))(hy:S.ev y=.sv s)(h:stM l j a=some l')(next:RunT P C ops nd K rest (⟨[]++(ak x++ak y),[],[i],⟨none,[],[(i,.live (TR E1 1 e l'))]⟩⟩::acc) (AS.bg [(i,.live (TR E1 1 e l'))] S)):RunT P C ops nd K (⟨none,.store T x y,ty,pos,aft,none⟩::rest) acc S:=
 RT.ac2 .none a hs hx hR hy h next
theorem sA[tA:gU P T n][el:EL e n]{i j:Nat}{E1:TypeId}(a:α)(hx:S.ev x=.gw i (j*n))(hR:S.r i=.live (TR E1 n e l))(hy:S.ev y=.sv (.agg (e a)))(h:stM l j a=some l')(next:RunT P C ops nd K rest (⟨[]++(ak x++ak y),[],[i],⟨none,[],[(i,.live (TR E1 n e l'))]⟩⟩::acc) (AS.bg [(i,.live (TR E1 n e l'))] S)):RunT P C ops nd K (⟨none,.store T x y,ty,pos,aft,none⟩::rest) acc S:=
 RT.Ve .none a hx hR hy h next
theorem lL{m:Nat}[tS:dD P T E0 m]{i:Nat}{E1:TypeId}{c:Int}(hx:S.ev x=.row i)(hR:S.r i=.live (TR E1 n e l))(hc:(l.length:Int)=c)(next:RunT P C ops nd K rest (⟨[]++ak x,[],[i],⟨some (d,.sv (.v (.int .i64 c))),[],[]⟩⟩::acc) (S.set d (.sv (.v (.int .i64 c)))))(hd:d<S.n:=by exact tl rfl):RunT P C ops nd K (⟨some d,.call ⟨.builtin .len,#[x],#[T]⟩,ty,pos,aft,none⟩::rest) acc S:=
 RT.U9 .none hx hR hd hc next
theorem cR{f:FuncId}[cz P f]{g:Operand}{xs:Array Operand}{at_:Array TypeId}{args:List AV}{E1:TypeId}{res:AV}(hp:Fk P f args (TR E1 n e l) res (l'.flatMap e))(hlen:l'.length=l.length)(i:Nat)(hR:S.r i=.live (TR E1 n e l))(hargs:th S xs.toList (args.map (AV.xj i)))(next:RunT P C ops nd K rest (⟨[]++(ak g++xs.toList.flatMap ak),[],[i],⟨some (d,res.xj i),[],[(i,.live (TR E1 n e l'))]⟩⟩::acc) ((AS.bg [(i,.live (TR E1 n e l'))] S).set d (res.xj i)))(hrow:args.all AV.v8=true:=by exact rfl)(hres:res.v8=true:=by exact rfl)(hf:S.ev g=.sv (.v (.func (.func f) #[] #[])):=by exact rfl)(hd:d<S.n:=by exact tl rfl):RunT P C ops nd K (⟨some d,.call ⟨.value g,xs,at_⟩,ty,pos,aft,none⟩::rest) acc S:=
 RT.Rp .none hp hlen i hR hrow hres hf hargs hd next
theorem gn{j_ g_:Nat}{ez:Bool}{m:Nat}[tS:dD P T E0 m]{c:Int}(hx:S.ev x=.sv (slc n (l.map e)))(hc:(l.length:Int)=c)(next:RunT P C ops nd K rest (⟨[g_]++ak x,[],[],⟨some (d,.sv (.v (.int .i64 c))),[],[]⟩⟩::acc) (S.set d (.sv (.v (.int .i64 c)))))(AD:(ops[j_]?).bind (·.dst)=some g_:=by exact rfl)(AE:S.t g_=.sv (.v (.bool ez)):=by exact rfl)(hd:d<S.n:=by exact tl rfl):RunT P C ops nd K (⟨some d,.call ⟨.builtin .len,#[x],#[T]⟩,ty,pos,aft,some (j_,ez)⟩::rest) acc S:=
 RT.U8 (.some AD AE) hx hd hc next
end
section
variable {P:Program}{C:Ctx}{ops:Array Oper}{S:AS}{nd:Bool}{K:List Ac→AS→Prop}{rest:List Oper}{acc:List Ac}
variable {gd:Option (Nat×Bool)}{rg:List Nat}{d:Nat}{ty:TypeId}{pos:String}{aft:Array Edge}{x y z:Operand}{T U E0 E1:TypeId}
theorem fl{f off:Nat}[hf:eP P T f off U][tV:cK P U]{cs:List SV}{s:SV}(hx:S.ev x=.sv (.agg cs))(hs:cs[off]? =some s)(next:RunT P C ops nd K rest (⟨[]++ak x,[],[],⟨some (d,.sv s),[],[]⟩⟩::acc) (S.set d (.sv s)))(hd:d<S.n:=by exact tl rfl):RunT P C ops nd K (⟨some d,.field T x f,ty,pos,aft,none⟩::rest) acc S:=
 RT.field .none hx hs hd next
end
end Go.Fw.Z
namespace Go.Proofs.YtmiflmkdaeianaaGreat
open Go.Fw
noncomputable def cO(x0:List Nat):Option (List Nat):=uC 4 [] x0
noncomputable def aV(x0:Nat)(c0:Nat):Option (Nat×Nat):=(some ((x0+c0)%18446744073709551616)).bind fun x6=>(some (x6/2^32)).bind fun x8=>(some (x6%4294967296)).bind fun eG=>some (eG,x8)
noncomputable def az(x0:List Nat):Option (List Nat):=(bC (fun(xM:(List Nat))=>(show Option (((List Nat))⊕((List Nat)))from bM (fun(zb:Bool)=>(bif zb then(some (xM.length:Int)).bind fun dI=>(some (IntKind.i64.wrap (dI-1))).bind fun dQ=>(Az xM 0 dQ).bind fun jL=>some (.inl jL)else some (.inr xM))) fun Rr=>(some (xM.length:Int)).bind fun x4=>(some (decide ((0:Int)<x4))).bind fun x5=>(bif x5 then(some (xM.length:Int)).bind fun x9=>(some (IntKind.i64.wrap (x9-1))).bind fun eG=>(bQ xM eG).bind fun fV=>(some (decide ((fV:Nat)=0))).bind fun fE=>some fE else some false).bind fun Fx=>Rr Fx)) x0).bind fun ze=>some ze
noncomputable def bj(x0:Bool)(x1:List Nat):Option (Zr):=(az x1).bind fun x6=>(some (x6.length:Int)).bind fun x8=>(some (decide ((x8:Int)=0))).bind fun x9=>(bif x9 then some ⟨false,[]⟩else some ⟨x0,x6⟩)
noncomputable def cP(x0:Bool)(x1:Nat):Option (Zr):=(some (decide ((x1:Nat)=0))).bind fun x7=>(bif x7 then some ⟨false,[]⟩else(some (x1/2^32)).bind fun fV=>(some (decide ((fV:Nat)=0))).bind fun dA=>(bif dA then(some (x1%4294967296)).bind fun jq=>some ⟨x0,[jq]⟩else(some (x1%4294967296)).bind fun gQ=>(some (x1/2^32)).bind fun gR=>(some (gR%4294967296)).bind fun ig=>some ⟨x0,[gQ,ig]⟩))
noncomputable def cL(x0:List Nat):Option (Nat):=(some (x0.length:Int)).bind fun x4=>(some (decide ((x4:Int)=0))).bind fun x6=>(bif x6 then some 0 else(some (decide ((x4:Int)=1))).bind fun x8=>(bif x8 then(bQ x0 0).bind fun eG=>(some (eG%18446744073709551616)).bind fun dA=>some dA else(bQ x0 0).bind fun gp=>(some (gp%18446744073709551616)).bind fun ek=>(bQ x0 1).bind fun dQ=>(some (dQ%18446744073709551616)).bind fun gQ=>(some (gQ*2^32%18446744073709551616)).bind fun ij=>(some ((ek ||| ij)%18446744073709551616)).bind fun gR=>some gR))
noncomputable def bX(x0:List Nat)(x1:List Nat):Option (Int):=(some (x0.length:Int)).bind fun x7=>(some (x1.length:Int)).bind fun x9=>(some (decide ((x7:Int)≠x9))).bind fun eG=>(bif eG then(some (x0.length:Int)).bind fun dA=>(some (x1.length:Int)).bind fun gp=>(some (decide ((dA:Int)<gp))).bind fun jq=>(bif jq then some (-1)else some 1)else(some (x0.length:Int)).bind fun dI=>(some (IntKind.i64.wrap (dI-1))).bind fun dQ=>(bC (fun(lT:Int)=>(show Option ((Int)⊕((Unit)⊕(Int)))from(some (decide ((0:Int)≤lT))).bind fun gQ=>(bif gQ then(bQ x0 lT).bind fun nH=>(bQ x1 lT).bind fun gx=>(some (decide ((nH:Nat)≠gx))).bind fun lU=>(bif lU then(bQ x0 lT).bind fun lW=>(bQ x1 lT).bind fun oa=>(some (decide ((lW:Nat)<oa))).bind fun mO=>(bif mO then some (.inr (.inr (-1)))else some (.inr (.inr 1)))else(some (IntKind.i64.wrap (lT-1))).bind fun gR=>some (.inl gR))else some (.inr (.inl ()))))) dQ).bind fun e6=>match e6 with|.inr v6=>some v6|.inl _=>some 0)
noncomputable def cC(x0:List Nat)(x1:List Nat):Option (List Nat):=(some (x0.length:Int)).bind fun eG=>(some (x1.length:Int)).bind fun dA=>(some (max (eG:Int) dA)).bind fun fE=>(some (IntKind.i64.wrap (fE+1))).bind fun gp=>(MV (α:=Nat) 4 gp).bind fun jq=>(rf (fun(k:Nat) (s7:Nat×(List Nat))=>match s7 with|⟨pP,eT⟩=>(show Option (Nat×(List Nat))from(some (x0.getD k 0%18446744073709551616)).bind fun Vj=>(some (x1.getD k 0%18446744073709551616)).bind fun Vk=>(some ((Vj+Vk)%18446744073709551616)).bind fun gu=>(aV gu pP).bind fun⟨jr,k9⟩=>(uC 4 eT [jr]).bind fun gx=>some (k9,gx))) (max x0.length x1.length) (0,jq)).bind fun e7=>match e7 with|⟨pP,eT⟩=>(aV 0 pP).bind fun⟨iu,k11⟩=>(uC 4 eT [iu]).bind fun lW=>some lW
noncomputable def bR(x0:List Nat)(x1:List Nat):Option (List Nat):=(some (x0.length:Int)).bind fun eG=>(MV (α:=Nat) 4 eG).bind fun fV=>(rf (fun(k:Nat) (s7:Nat×(List Nat))=>match s7 with|⟨sq,eT⟩=>(show Option (Nat×(List Nat))from(some (x0.getD k 0%18446744073709551616)).bind fun Vl=>(some (x1.getD k 0%18446744073709551616)).bind fun Vm=>(some (mN 18446744073709551616 4294967295 Vm)).bind fun gR=>(some ((Vl+gR)%18446744073709551616)).bind fun ig=>(aV ig sq).bind fun⟨dR,k9⟩=>(uC 4 eT [dR]).bind fun gu=>some (k9,gu))) (max x0.length x1.length) (1,fV)).bind fun e7=>match e7 with|⟨sq,eT⟩=>some eT
noncomputable def eH(x0:List Nat)(x1:List Nat):Option (List Nat):=(some (x0.length:Int)).bind fun dA=>(some (x1.length:Int)).bind fun gp=>(some (IntKind.i64.wrap (dA+gp))).bind fun jq=>(Is 4 jq (0:Nat)).bind fun ek=>(some (x0.length:Int)).bind fun dQ=>(bC (fun(Ug:Int×(List Nat))=>match Ug with|⟨mP,Cd⟩=>(show Option ((Int×(List Nat))⊕((List Nat)))from(some (decide ((mP:Int)<dQ))).bind fun gQ=>(bif gQ then(bQ x0 mP).bind fun gR=>(some (x1.length:Int)).bind fun gu=>(bC (fun(Rt:Int×Nat×(List Nat))=>match Rt with|⟨wm,uV,tw⟩=>(show Option ((Int×Nat×(List Nat))⊕(Nat×(List Nat)))from(some (decide ((wm:Int)<gu))).bind fun jR=>(bif jR then(bQ x1 wm).bind fun qm=>(some (IntKind.i64.wrap (mP+wm))).bind fun pH=>(some (IntKind.i64.wrap (mP+wm))).bind fun mO=>(qX tw mO).bind fun vV=>(tw[vV]?).bind fun oc=>(some (oc%18446744073709551616)).bind fun xN=>(some (gR%18446744073709551616)).bind fun Bh=>(some (qm%18446744073709551616)).bind fun As=>(some ((Bh*As)%18446744073709551616)).bind fun wo=>(some ((xN+wo)%18446744073709551616)).bind fun Vn=>(aV Vn uV).bind fun⟨tB,k41⟩=>(qX tw pH).bind fun E6=>(stM tw E6 tB).bind fun l42=>(some (IntKind.i64.wrap (wm+1))).bind fun xO=>some (.inl (xO,k41,l42))else some (.inr (uV,tw))))) (0,0,Cd)).bind fun e38=>match e38 with|⟨DP,Fy⟩=>(some (x1.length:Int)).bind fun M9=>(some (IntKind.i64.wrap (mP+M9))).bind fun Vo=>(aV 0 DP).bind fun⟨J4,k45⟩=>(qX Fy Vo).bind fun DQ=>(stM Fy DQ J4).bind fun l46=>(some (IntKind.i64.wrap (mP+1))).bind fun Ru=>some (.inl (Ru,l46))else some (.inr Cd)))) (0,ek)).bind fun tC=>some tC
noncomputable def fW(x0:List Nat)(x1:Nat):Option (Nat×List Nat):=(some (x0.length:Int)).bind fun x9=>(some (IntKind.i64.wrap (x9-1))).bind fun eG=>(bC (fun(s8:Nat×Int×(List Nat))=>match s8 with|⟨J5,tD,pQ⟩=>(show Option ((Nat×Int×(List Nat))⊕(Nat×(List Nat)))from(some (decide ((0:Int)≤tD))).bind fun dA=>(bif dA then(some (J5*2^32%18446744073709551616)).bind fun ek=>(qX pQ tD).bind fun jL=>(pQ[jL]?).bind fun gQ=>(some (gQ%18446744073709551616)).bind fun ij=>(some ((ek ||| ij)%18446744073709551616)).bind fun gR=>(Ca 18446744073709551616 gR x1).bind fun jr=>(some (jr%4294967296)).bind fun jR=>(qX pQ tD).bind fun gx=>(stM pQ gx jR).bind fun E7=>(AB gR x1).bind fun iu=>(some (IntKind.i64.wrap (tD-1))).bind fun gp=>some (.inl (iu,gp,E7))else some (.inr (J5,pQ))))) (0,eG,x0)).bind fun e8=>match e8 with|⟨Vp,yh⟩=>(sP x0 yh).bind fun _=>some (Vp,yh)
noncomputable def dX(x0:List Nat)(x1:Nat):Option (List Nat):=(some (x0.length:Int)).bind fun fV=>(some (IntKind.i64.wrap (fV+1))).bind fun dA=>(MV (α:=Nat) 4 dA).bind fun fE=>(some (x0.length:Int)).bind fun jq=>(bC (fun(s8:Int×Nat×(List Nat))=>match s8 with|⟨uW,pR,eT⟩=>(show Option ((Int×Nat×(List Nat))⊕(Nat×(List Nat)))from(some (decide ((uW:Int)<jq))).bind fun dI=>(bif dI then(bQ x0 uW).bind fun dQ=>(some (dQ%18446744073709551616)).bind fun ig=>(some (ig*2^(min x1 64)%18446744073709551616)).bind fun nH=>(aV nH pR).bind fun⟨gu,Rv⟩=>(uC 4 eT [gu]).bind fun jR=>(some (IntKind.i64.wrap (uW+1))).bind fun gx=>some (.inl (gx,Rv,jR))else some (.inr (pR,eT))))) (0,0,fE)).bind fun e8=>match e8 with|⟨zf,J6⟩=>(aV 0 zf).bind fun⟨iu,k12⟩=>(uC 4 J6 [iu]).bind fun lW=>some lW
noncomputable def gH(x0:List Nat)(x1:Nat):Option (List Nat):=(some (x0.length:Int)).bind fun fV=>(some (IntKind.i64.wrap (fV+1))).bind fun dA=>(MV (α:=Nat) 4 dA).bind fun fE=>(some (x0.length:Int)).bind fun jq=>(bC (fun(s8:Int×Nat×(List Nat))=>match s8 with|⟨uW,pR,oe⟩=>(show Option ((Int×Nat×(List Nat))⊕(Nat×(List Nat)))from(some (decide ((uW:Int)<jq))).bind fun dI=>(bif dI then(bQ x0 uW).bind fun dQ=>(some (dQ%18446744073709551616)).bind fun ig=>(some (ig*2^(min x1 64)%18446744073709551616)).bind fun nH=>(aV nH pR).bind fun⟨gu,Rv⟩=>(uC 4 oe [gu]).bind fun jR=>(some (IntKind.i64.wrap (uW+1))).bind fun gx=>some (.inl (gx,Rv,jR))else some (.inr (pR,oe))))) (0,0,fE)).bind fun e8=>match e8 with|⟨zf,og⟩=>(aV 0 zf).bind fun⟨iu,k12⟩=>(uC 4 og [iu]).bind fun lW=>some lW
noncomputable def fe(x0:Nat):Option (Int):=(some (decide ((65536:Nat)≤x0))).bind fun x4=>bM (fun(j2:Nat×Int)=>match j2 with|⟨Fz,Na⟩=>(some (decide ((256:Nat)≤Fz))).bind fun x8=>bM (fun(j4:Nat×Int)=>match j4 with|⟨Vq,Vr⟩=>(some (Vq%256)).bind fun jq=>(sO [0,1,2,2,3,3,3,3,4,4,4,4,4,4,4,4,5,5,5,5,5,5,5,5,5,5,5,5,5,5,5,5,6,6,6,6,6,6,6,6,6,6,6,6,6,6,6,6,6,6,6,6,6,6,6,6,6,6,6,6,6,6,6,6,7,7,7,7,7,7,7,7,7,7,7,7,7,7,7,7,7,7,7,7,7,7,7,7,7,7,7,7,7,7,7,7,7,7,7,7,7,7,7,7,7,7,7,7,7,7,7,7,7,7,7,7,7,7,7,7,7,7,7,7,7,7,7,7,8,8,8,8,8,8,8,8,8,8,8,8,8,8,8,8,8,8,8,8,8,8,8,8,8,8,8,8,8,8,8,8,8,8,8,8,8,8,8,8,8,8,8,8,8,8,8,8,8,8,8,8,8,8,8,8,8,8,8,8,8,8,8,8,8,8,8,8,8,8,8,8,8,8,8,8,8,8,8,8,8,8,8,8,8,8,8,8,8,8,8,8,8,8,8,8,8,8,8,8,8,8,8,8,8,8,8,8,8,8,8,8,8,8,8,8,8,8,8,8,8,8,8,8,8,8,8,8] ((jq:Nat):Int)).bind fun ek=>(some (IntKind.i64.wrap (ek:Int))).bind fun dI=>(some (IntKind.i64.wrap (Vr+dI))).bind fun dQ=>some dQ) fun K4=>(bif x8 then(some (Fz/2^8)).bind fun eG=>(some (IntKind.i64.wrap (Na+8))).bind fun dA=>K4 (eG,dA)else K4 (Fz,Na))) fun K2=>(bif x4 then(some (x0/2^16)).bind fun x6=>K2 (x6,16)else K2 (x0,0))
noncomputable def cr(x0:Nat):Option (Int):=(fe x0).bind fun x4=>(some (IntKind.i64.wrap (32-x4))).bind fun x5=>some x5
noncomputable def fX(x0:List Nat)(o0:Nat)(n0:Nat)(x1:List Nat):Option (Nat×List Nat):=(some (x1.length:Int)).bind fun dA=>(Mu o0 n0 dA).bind fun jq=>(x0[jq]?).bind fun ek=>(some (ek%18446744073709551616)).bind fun dI=>(some (dI*2^32%18446744073709551616)).bind fun dQ=>(some (IntKind.i64.wrap (dA-1))).bind fun ij=>(Mu o0 n0 ij).bind fun gR=>(x0[gR]?).bind fun ig=>(some (ig%18446744073709551616)).bind fun dR=>(some ((dQ ||| dR)%18446744073709551616)).bind fun nH=>(some (IntKind.i64.wrap (dA-1))).bind fun jR=>(bQ x1 jR).bind fun gx=>(some (gx%18446744073709551616)).bind fun lU=>(some (IntKind.i64.wrap (dA-2))).bind fun lW=>(bQ x1 lW).bind fun pH=>(some (pH%18446744073709551616)).bind fun qG=>(Ca 18446744073709551616 nH lU).bind fun mO=>(AB nH lU).bind fun xN=>(bC (fun(oG:Nat×Nat)=>match oG with|⟨AF,Bi⟩=>(show Option ((Nat×Nat)⊕(Nat))from bM (fun(FA:Bool)=>(bif FA then(some (mN 18446744073709551616 AF 1)).bind fun O6=>(some ((Bi+lU)%18446744073709551616)).bind fun Jh=>(some (Jh/2^32)).bind fun GR=>(some (decide ((GR:Nat)≠0))).bind fun x69=>(bif x69 then some (.inr O6)else some (.inl (O6,Jh)))else some (.inr AF))) fun Rr=>(some (AF/2^32)).bind fun Bh=>(some (decide ((Bh:Nat)≠0))).bind fun rm=>(bif rm then some true else(some ((AF*qG)%18446744073709551616)).bind fun tB=>(some (Bi*2^32%18446744073709551616)).bind fun xO=>(some (IntKind.i64.wrap (dA-2))).bind fun Nb=>(Mu o0 n0 Nb).bind fun M9=>(x0[M9]?).bind fun Vo=>(some (Vo%18446744073709551616)).bind fun Nc=>(some ((xO ||| Nc)%18446744073709551616)).bind fun J4=>(some (decide ((J4:Nat)<tB))).bind fun DQ=>some DQ).bind fun J7=>Rr J7)) (mO,xN)).bind fun Iz=>(sP x0 x0).bind fun _=>some (Iz,x0)
noncomputable def b9(x0:List Nat)(o0:Nat)(n0:Nat)(x1:List Nat)(x2:Nat):Option (Bool×List Nat):=(some (n0:Int)).bind fun gp=>(bC (fun(yj:Nat×Int×Nat×(List Nat))=>match yj with|⟨IA,uX,Ce,su⟩=>(show Option ((Nat×Int×Nat×(List Nat))⊕(Nat×(List Nat)))from(some (decide ((uX:Int)<gp))).bind fun ek=>(bif ek then(some (x1.length:Int)).bind fun gQ=>(some (decide ((uX:Int)<gQ))).bind fun ij=>bM (fun(J8:Nat)=>(Mu o0 n0 uX).bind fun lU=>(su[lU]?).bind fun iu=>(some (iu%18446744073709551616)).bind fun iZ=>(aV J8 Ce).bind fun⟨oH,k16⟩=>(some (oH%18446744073709551616)).bind fun qG=>(some (mN 18446744073709551616 iZ qG)).bind fun oa=>(some (mN 18446744073709551616 oa IA)).bind fun mO=>(some (mO%4294967296)).bind fun AG=>(Mu o0 n0 uX).bind fun Bh=>(stM su Bh AG).bind fun l18=>(some (mO/2^63)).bind fun As=>(some (IntKind.i64.wrap (uX+1))).bind fun wo=>some (.inl (As,wo,k16,l18))) fun Vs=>(bif ij then(bQ x1 uX).bind fun dR=>(some (dR%18446744073709551616)).bind fun gu=>(some ((gu*x2)%18446744073709551616)).bind fun jR=>Vs jR else Vs 0)else some (.inr (IA,su))))) (0,0,0,x0)).bind fun IB=>match IB with|⟨J9,uY⟩=>(some (decide ((J9:Nat)≠0))).bind fun tB=>(sP x0 uY).bind fun _=>some (tB,uY)
noncomputable def gV(x0:List Nat)(x1:List Nat):Option ((List Nat)×(List Nat)):=(some (x1.length:Int)).bind fun dI=>(some (IntKind.i64.wrap (dI-1))).bind fun gQ=>(bQ x1 gQ).bind fun ij=>(cr ij).bind fun ig=>(some ((ig%18446744073709551616).toNat)).bind fun dR=>(gH x0 dR).bind fun jr=>(dX x1 dR).bind fun qm=>(Az qm 0 dI).bind fun iu=>(some (x0.length:Int)).bind fun lW=>(some (IntKind.i64.wrap (lW-dI))).bind fun oH=>(some (IntKind.i64.wrap (oH+1))).bind fun qG=>(Is 4 qG (0:Nat)).bind fun oa=>(some (x0.length:Int)).bind fun mO=>(some (IntKind.i64.wrap (mO-dI))).bind fun oc=>(bC (fun(Rw:Int×(List Nat)×(List Nat))=>match Rw with|⟨iz,rq,tF⟩=>(show Option ((Int×(List Nat)×(List Nat))⊕((List Nat)×(List Nat)))from(some (decide ((0:Int)≤iz))).bind fun AG=>(bif AG then(some (IntKind.i64.wrap (iz+dI))).bind fun E6=>(some (IntKind.i64.wrap (E6+1))).bind fun xO=>(Rn tF iz xO).bind fun⟨o53,n53⟩=>(fX tF o53 n53 iu).bind fun⟨Nb,Rx⟩=>(sP tF Rx).bind fun _=>(some (IntKind.i64.wrap (iz+dI))).bind fun DQ=>(some (IntKind.i64.wrap (DQ+1))).bind fun Ru=>(Rn Rx iz Ru).bind fun⟨o62,n62⟩=>(b9 Rx o62 n62 iu Nb).bind fun⟨Mw,Uh⟩=>(sP Rx Uh).bind fun _=>bM (fun(Ui:Nat×(List Nat))=>match Ui with|⟨Ka,FB⟩=>(some (Ka%4294967296)).bind fun Ry=>(qX rq iz).bind fun Vt=>(stM rq Vt Ry).bind fun l55=>(some (IntKind.i64.wrap (iz-1))).bind fun rm=>some (.inl (rm,l55,FB))) fun K53=>(bif Mw then(some (mN 18446744073709551616 Nb 1)).bind fun O7=>(some (iu.length:Int)).bind fun x70=>(bC (fun(Rz:Int×Nat×(List Nat))=>match Rz with|⟨wv,uZ,tG⟩=>(show Option ((Int×Nat×(List Nat))⊕(Nat×(List Nat)))from(some (decide ((wv:Int)<x70))).bind fun RA=>(bif RA then(bQ iu wv).bind fun Nd=>(some (IntKind.i64.wrap (iz+wv))).bind fun x79=>(some (IntKind.i64.wrap (iz+wv))).bind fun x84=>(qX tG x84).bind fun Vu=>(tG[Vu]?).bind fun Kb=>(some (Kb%18446744073709551616)).bind fun RB=>(some (Nd%18446744073709551616)).bind fun x89=>(some ((RB+x89)%18446744073709551616)).bind fun Nf=>(aV Nf uZ).bind fun⟨Kc,k68⟩=>(qX tG x79).bind fun x92=>(stM tG x92 Kc).bind fun l69=>(some (IntKind.i64.wrap (wv+1))).bind fun RC=>some (.inl (RC,k68,l69))else some (.inr (uZ,tG))))) (0,0,Uh)).bind fun e65=>match e65 with|⟨DR,zg⟩=>(some (IntKind.i64.wrap (iz+dI))).bind fun Vv=>(some (IntKind.i64.wrap (iz+dI))).bind fun FC=>(qX zg FC).bind fun Vw=>(zg[Vw]?).bind fun zh=>(some (zh%18446744073709551616)).bind fun IC=>(aV IC DR).bind fun⟨FD,k72⟩=>(qX zg Vv).bind fun Vx=>(stM zg Vx FD).bind fun l73=>K53 (O7,l73)else K53 (Nb,Uh))else some (.inr (rq,tF))))) (oc,oa,jr)).bind fun e36=>match e36 with|⟨zj,wz⟩=>(Is 4 dI (0:Nat)).bind fun wA=>(bC (fun(Uj:Int×(List Nat))=>match Uj with|⟨sw,u0⟩=>(show Option ((Int×(List Nat))⊕((List Nat)))from(some (decide ((sw:Int)<dI))).bind fun RE=>(bif RE then(qX wz sw).bind fun Vy=>(wz[Vy]?).bind fun Vz=>(some (Vz%18446744073709551616)).bind fun RF=>(some (IntKind.i64.wrap (sw+1))).bind fun VA=>(qX wz VA).bind fun VB=>(wz[VB]?).bind fun VC=>(some (VC%18446744073709551616)).bind fun RG=>(some (RG*2^32%18446744073709551616)).bind fun RH=>(some ((RF ||| RH)%18446744073709551616)).bind fun RI=>(some (RI/2^(min dR 64))).bind fun VD=>(some (VD%4294967296)).bind fun RJ=>(qX u0 sw).bind fun VE=>(stM u0 VE RJ).bind fun l83=>(some (IntKind.i64.wrap (sw+1))).bind fun RK=>some (.inl (RK,l83))else some (.inr u0)))) (0,wA)).bind fun pS=>some (zj,pS)
noncomputable def eI(x0:List Nat)(x1:List Nat):Option ((List Nat)×(List Nat)):=(bX x0 x1).bind fun dA=>(some (decide ((dA:Int)<0))).bind fun fE=>(bif fE then(cO x0).bind fun jq=>some ([],jq)else(some (x0.length:Int)).bind fun dQ=>(some (decide ((dQ:Int)≤2))).bind fun jL=>(bif jL then(cL x0).bind fun ij=>(cL x1).bind fun ig=>(Ca 18446744073709551616 ij ig).bind fun gu=>(cP false gu).bind fun⟨nO,mQ⟩=>(AB ij ig).bind fun lU=>(cP false lU).bind fun⟨mR,mh⟩=>some (mQ,mh)else(some (x1.length:Int)).bind fun oH=>(some (decide ((oH:Int)=1))).bind fun qG=>(bif qG then(cO x0).bind fun qN=>(bQ x1 0).bind fun oc=>(some (oc%18446744073709551616)).bind fun AG=>(fW qN AG).bind fun⟨Bh,l5⟩=>(sP qN l5).bind fun _=>(some (Bh%4294967296)).bind fun wo=>some (l5,[wo])else(gV x0 x1).bind fun⟨VF,VG⟩=>some (VF,VG))))
noncomputable def aM(x0:Int):Option (Zr):=(some ((x0%18446744073709551616).toNat)).bind fun x5=>(some (decide ((x0:Int)<0))).bind fun x7=>bM (fun(Cf:Nat)=>(some (decide ((x0:Int)<0))).bind fun fV=>(cP fV Cf).bind fun⟨qo,qp⟩=>some ⟨qo,qp⟩) fun K2=>(bif x7 then(some (mN 18446744073709551616 0 x5)).bind fun x9=>K2 x9 else K2 x5)
noncomputable def cw(x0:Zr):Option (Int×Bool):=match x0 with|⟨aD,aB⟩=>(az aB).bind fun x8=>(some (x8.length:Int)).bind fun eG=>(some (decide ((2:Int)<eG))).bind fun fV=>(bif fV then some (0,false)else(cL x8).bind fun fE=>(bif aD then(some (decide ((9223372036854775808:Nat)<fE))).bind fun dI=>(bif dI then some (0,false)else(some (mN 18446744073709551616 0 fE)).bind fun jL=>(some (IntKind.i64.wrap (jL:Int))).bind fun gQ=>some (gQ,true))else(some (decide ((9223372036854775808:Nat)≤fE))).bind fun gR=>(bif gR then some (0,false)else(some (IntKind.i64.wrap (fE:Int))).bind fun dR=>some (dR,true))))
noncomputable def bT(x0:Bool)(x1:List Nat)(x2:Bool)(x3:List Nat):Option (Zr):=(some (x0==x2)).bind fun fV=>(bif fV then(cC x1 x3).bind fun jq=>(bj x0 jq).bind fun⟨qt,qu⟩=>some ⟨qt,qu⟩else(bX x1 x3).bind fun jL=>(some (decide ((jL:Int)<0))).bind fun gQ=>(bif gQ then(bR x3 x1).bind fun dR=>(bj x2 dR).bind fun⟨gW,nP⟩=>some ⟨gW,nP⟩else(bR x1 x3).bind fun gx=>(bj x0 gx).bind fun⟨oP,oQ⟩=>some ⟨oP,oQ⟩))
noncomputable def cM(x0:Zr)(x1:Zr):Option (Zr):=match x0 with|⟨aD,aB⟩=>match x1 with|⟨bt,bn⟩=>(cw ⟨aD,aB⟩).bind fun⟨xP,Cg⟩=>(cw ⟨bt,bn⟩).bind fun⟨zk,Ch⟩=>bM (fun(va:Bool)=>bM (fun(j5:Unit)=>(az aB).bind fun vV=>(az bn).bind fun rm=>(bT aD vV bt rm).bind fun⟨Bj,Bl⟩=>some ⟨Bj,Bl⟩) fun K5=>(bif va then(some (IntKind.i64.wrap (xP+zk))).bind fun gu=>(some (IntKind.i64.wrap ((BitVec.ofInt 64 xP ^^^ BitVec.ofInt 64 gu).toNat))).bind fun gx=>(some (IntKind.i64.wrap ((BitVec.ofInt 64 zk ^^^ BitVec.ofInt 64 gu).toNat))).bind fun iu=>(some (IntKind.i64.wrap ((BitVec.ofInt 64 gx &&& BitVec.ofInt 64 iu).toNat))).bind fun iZ=>(some (decide ((0:Int)≤iZ))).bind fun lW=>(bif lW then(aM gu).bind fun⟨jS,jb⟩=>some ⟨jS,jb⟩else K5 ())else K5 ())) fun K3=>(bif Cg then some Ch else some false).bind fun Bm=>K3 Bm
noncomputable def iA(x0:Zr)(x1:Zr):Option (Zr):=match x0 with|⟨aD,aB⟩=>match x1 with|⟨bt,bn⟩=>(cw ⟨aD,aB⟩).bind fun⟨xP,Cg⟩=>(cw ⟨bt,bn⟩).bind fun⟨zk,Ch⟩=>bM (fun(va:Bool)=>bM (fun(j5:Unit)=>(az aB).bind fun vV=>(some (!bt)).bind fun AG=>(az bn).bind fun As=>(bT aD vV AG As).bind fun⟨mS,mU⟩=>some ⟨mS,mU⟩) fun K5=>(bif va then(some (IntKind.i64.wrap (xP-zk))).bind fun gu=>(some (IntKind.i64.wrap ((BitVec.ofInt 64 xP ^^^ BitVec.ofInt 64 zk).toNat))).bind fun gx=>(some (IntKind.i64.wrap ((BitVec.ofInt 64 xP ^^^ BitVec.ofInt 64 gu).toNat))).bind fun iu=>(some (IntKind.i64.wrap ((BitVec.ofInt 64 gx &&& BitVec.ofInt 64 iu).toNat))).bind fun iZ=>(some (decide ((0:Int)≤iZ))).bind fun lW=>(bif lW then(aM gu).bind fun⟨jS,jb⟩=>some ⟨jS,jb⟩else K5 ())else K5 ())) fun K3=>(bif Cg then some Ch else some false).bind fun Bm=>K3 Bm
noncomputable def ff(x0:Zr)(x1:Zr):Option (Zr):=match x0 with|⟨aD,aB⟩=>match x1 with|⟨bt,bn⟩=>(az aB).bind fun x9=>(az bn).bind fun dA=>bM (fun(zm:Bool)=>(bif zm then(some (!(aD==bt))).bind fun nH=>(cL x9).bind fun jr=>(cL dA).bind fun gx=>(some ((jr*gx)%18446744073709551616)).bind fun qm=>(cP nH qm).bind fun⟨GS,Bn⟩=>some ⟨GS,Bn⟩else(some (!(aD==bt))).bind fun oH=>(eH x9 dA).bind fun qN=>(bj oH qN).bind fun⟨mm,mq⟩=>some ⟨mm,mq⟩)) fun K3=>(some (x9.length:Int)).bind fun gp=>(some (decide ((gp:Int)≤1))).bind fun jq=>(bif jq then(some (dA.length:Int)).bind fun dQ=>(some (decide ((dQ:Int)≤1))).bind fun jL=>some jL else some false).bind fun O8=>K3 O8
noncomputable def gz(x0:Zr):Option (Zr):=match x0 with|⟨aD,aB⟩=>(some (!aD)).bind fun x5=>(az aB).bind fun x8=>(cO x8).bind fun x9=>(bj x5 x9).bind fun⟨k7,k8⟩=>some ⟨k7,k8⟩
noncomputable def cD(x0:Zr):Option (Int):=match x0 with|⟨aD,aB⟩=>(az aB).bind fun x6=>(some (x6.length:Int)).bind fun x7=>(some (decide ((x7:Int)=0))).bind fun x8=>(bif x8 then some 0 else(bif aD then some (-1)else some 1))
noncomputable def lf(x0:Zr)(x1:Zr):Option (Int):=match x0 with|⟨aD,aB⟩=>match x1 with|⟨bt,bn⟩=>(cD ⟨aD,aB⟩).bind fun x8=>(cD ⟨bt,bn⟩).bind fun eG=>(some (decide ((x8:Int)<eG))).bind fun gp=>(bif gp then some (-1)else(some (decide ((eG:Int)<x8))).bind fun dQ=>(bif dQ then some 1 else(some (decide ((x8:Int)<0))).bind fun ij=>(bif ij then(az bn).bind fun dR=>(az aB).bind fun jr=>(bX dR jr).bind fun jR=>some jR else(az aB).bind fun lU=>(az bn).bind fun lW=>(bX lU lW).bind fun pH=>some pH)))
noncomputable def cu(x0:Zr)(x1:Zr):Option (Zr×Zr×Int):=match x0 with|⟨aD,aB⟩=>match x1 with|⟨bt,bn⟩=>(az aB).bind fun fE=>(az bn).bind fun ek=>(some (ek.length:Int)).bind fun dQ=>(some (decide ((dQ:Int)=0))).bind fun jL=>(bif jL then some (⟨false,[]⟩,⟨false,[]⟩,7)else(eI fE ek).bind fun⟨zo,Ci⟩=>(az Ci).bind fun gx=>bM (fun(j3:Bool×Bool)=>match j3 with|⟨Ke,tH⟩=>bM (fun(j5:(List Nat)×(List Nat))=>match j5 with|⟨Kf,DS⟩=>(some (!(tH==bt))).bind fun As=>(bj As Kf).bind fun⟨zq,zu⟩=>(bj false DS).bind fun⟨DT,DU⟩=>some (⟨zq,zu⟩,⟨DT,DU⟩,0)) fun K5=>(bif Ke then(cC zo [1]).bind fun qN=>(bR ek gx).bind fun oc=>K5 (qN,oc)else K5 (zo,gx))) fun K3=>(bif aD then(some (gx.length:Int)).bind fun lW=>(some (decide ((0:Int)<lW))).bind fun pH=>some pH else some false).bind fun O9=>K3 (O9,aD))
noncomputable def jF(x0:Zr)(x1:Zr):Option (Zr):=match x0 with|⟨aD,aB⟩=>match x1 with|⟨bt,bn⟩=>(az aB).bind fun fE=>(az bn).bind fun ek=>(bC (fun(yj:(List Nat)×(List Nat))=>match yj with|⟨xQ,Cj⟩=>(show Option (((List Nat)×(List Nat))⊕((List Nat)×(List Nat)))from bM (fun(FE:Bool)=>(bif FE then(eI xQ Cj).bind fun⟨adq,VH⟩=>(az VH).bind fun oa=>some (.inl (Cj,oa))else some (.inr (xQ,Cj)))) fun K16=>(some (Cj.length:Int)).bind fun dQ=>(some (decide ((0:Int)<dQ))).bind fun jL=>(bif jL then(some (xQ.length:Int)).bind fun gR=>(some (decide ((2:Int)<gR))).bind fun ig=>(bif ig then some true else(some (Cj.length:Int)).bind fun gu=>(some (decide ((2:Int)<gu))).bind fun jr=>some jr).bind fun Kg=>some Kg else some false).bind fun Kh=>K16 Kh)) (fE,ek)).bind fun IB=>match IB with|⟨Ki,Kj⟩=>(some (Kj.length:Int)).bind fun mO=>(some (decide ((mO:Int)=0))).bind fun vV=>(bif vV then(cO Ki).bind fun xN=>(bj false xN).bind fun⟨GU,GV⟩=>some ⟨GU,GV⟩else(cL Ki).bind fun rm=>(cL Kj).bind fun wo=>(bC (fun(Pa:Nat×Nat)=>match Pa with|⟨GW,wB⟩=>(show Option ((Nat×Nat)⊕(Nat))from(some (decide ((0:Nat)<wB))).bind fun tB=>(bif tB then(AB GW wB).bind fun RL=>some (.inl (wB,RL))else some (.inr GW)))) (rm,wo)).bind fun Bo=>(cP false Bo).bind fun⟨Pb,Pc⟩=>some ⟨Pb,Pc⟩)
end Go.Proofs.YtmiflmkdaeianaaGreat
namespace Go.Proofs.YtmiflmkdaeianaaGreat
open Go.Fw Go.Fw.Z Go.RowKit
theorem cE(c:Nat):Q6 Tryz.prog 88 [.v (.int .u64 (c:Nat))] 107 86 [.v (.int .u64 (c:Nat))]:=by
 refine Fm Tryz.func88 rfl (Nat.le_of_ble_eq_true rfl) (fun c9 M vs hvs=>?_)
 exact sr<|RT.QX .none (s:=.sv _) rfl T rfl rfl<|ag rfl<|dn<|sr<|RT.makeFunc .none (.box rfl (.nil)) T<|an (s:=.eV _ _) rfl<|dn<|aj<|⟨.inr rfl,_,.tmp rfl,rfl⟩
theorem jT(a b:List Nat):Pure Tryz.prog 89 [(slc 1 (List.map ah a)),(slc 1 (List.map ah b))] (yK 108 [ref [(slc 1 (List.map ah a))],ref [(slc 1 (List.map ah b))]]):=by
 refine aq Tryz.func89 rfl (Nat.le_of_ble_eq_true rfl) (fun c9 M vs hvs=>?_)
 refine sr<|RT.QX .none (s:=.sv _) rfl T rfl rfl<|RT.QX .none (s:=.sv _) rfl T rfl rfl<|ag rfl<|dn<|sr<|RT.makeFunc .none (.box rfl (.box rfl (.nil))) T<|an (s:=.eV _ _) rfl<|dn<|bq (sg (i:=2) rfl [(slc 1 (List.map ah a))] (.cons rfl .nil) .any 0 [(4,.eV 108 [.val (ref [(slc 1 (List.map ah a))]),.box 3])] (fun _ _ _=>trivial) (vZ.h (l:=[(slc 1 (List.map ah a))])) ⟨@FT.eV _ _ _ _ _ 4 108 [.box 2,.box 3] rfl,trivial⟩) ?_
 exact bq (sg (i:=3) rfl [(slc 1 (List.map ah b))] (.cons rfl .nil) .any 0 [(4,.eV 108 [.val (ref [(slc 1 (List.map ah a))]),.val (ref [(slc 1 (List.map ah b))])])] (fun _ _ _=>trivial) (vZ.h (l:=[(slc 1 (List.map ah b))])) ⟨@FT.eV _ _ _ _ _ 4 108 [.val (ref [(slc 1 (List.map ah a))]),.box 3] rfl,trivial⟩)<|bq (Rd 4 (yK 108 [ref [(slc 1 (List.map ah a))],ref [(slc 1 (List.map ah b))]]) (fun _ _ h=>Re h))<|aj<|⟨.inr rfl,Q2 (.tmp rfl (.nil)) rfl⟩
theorem jU(a b:List Nat):Iter Tryz.prog 108 [ref [(slc 1 (List.map ah a))],ref [(slc 1 (List.map ah b))]] (max a.length b.length) (fun k=>[.v (.int .u64 ((a.getD k 0%18446744073709551616:Nat):Int)),.v (.int .u64 ((b.getD k 0%18446744073709551616:Nat):Int))]):=by
 refine Fq Tryz.func108 rfl rfl (Nat.le_of_ble_eq_true rfl) (fun c9 M O l J hJ RM hr=>?_)
 obtain⟨Ar,RM⟩:=RM
 have hla:a.length≤9223372036854775807:=by cases Ar with|nil=>exact RM.elim|cons _ Ar=>exact GO RM.1
 have hlb:b.length≤9223372036854775807:=by cases Ar with|nil=>exact RM.elim|cons _ Ar=>cases Ar with|nil=>exact RM.2.elim|cons _ _=>exact GO RM.2.1
 refine bA ?_
 refine af ?_
 refine RT.ic .none rfl rfl (tl rfl) ?_
 refine RT.len .none rfl (tl rfl) ?_
 refine RT.ic .none rfl rfl (tl rfl) ?_
 refine RT.len .none rfl (tl rfl) ?_
 refine RT.max .none (((max a.length b.length:Nat):Int)) rfl rfl (tl rfl) (by simp only[List.length_map];split<;>omega) ?_
 refine RT.mv .none rfl (tl rfl) ?_
 refine RT.done ?_
 refine ae.n ?_
 refine ax ?_
 refine xZ (I:=fun x:{i:Nat//i≤max a.length b.length}=>AS.bL 39 [(0,.sv (.v (.func (.yield l) #[] #[]))),(1,.sv (ref [(slc 1 (List.map ah a))])),(2,.sv (ref [(slc 1 (List.map ah b))])),(11,.sv (.v (.int .i64 ((max a.length b.length:Nat):Int)))),(12,.sv (.v (.int .i64 ((x.1:Nat):Int))))] [] [] (x.1)) (μ:=fun x=>max a.length b.length-x.1) ⟨0,by omega⟩ (by(try dsimp only);exact dx id rfl rfl rfl rfl rfl ⟨.sv (by first|exact SV.aa _|exact SV.aN (by omega)|exact SV.aN (by push_cast;omega)|exact SV.aN (by dsimp only;omega)|exact SV.imp_eq (by simp)),.sv (by first|exact SV.aa _|exact SV.aN (by omega)|exact SV.aN (by push_cast;omega)|exact SV.aN (by dsimp only;omega)|exact SV.imp_eq (by simp)),.sv (by first|exact SV.aa _|exact SV.aN (by omega)|exact SV.aN (by push_cast;omega)|exact SV.aN (by dsimp only;omega)|exact SV.imp_eq (by simp)),.sv (by first|exact SV.aa _|exact SV.aN (by omega)|exact SV.aN (by push_cast;omega)|exact SV.aN (by dsimp only;omega)|exact SV.imp_eq (by simp)),.sv (by first|exact SV.aa _|exact SV.aN (by omega)|exact SV.aN (by push_cast;omega)|exact SV.aN (by dsimp only;omega)|exact SV.imp_eq (by simp)),trivial⟩ trivial trivial (fun _ _=>rfl)) ?_
 rintro⟨i,VI⟩
 try dsimp only
 rcases Fu a b i VI with⟨hi,B6,JC⟩|⟨hi,B6,JC⟩|⟨hi,B6,JC⟩|hi
 ·
  refine bA ?_
  refine af ?_
  refine RT.lss .none (true) rfl rfl (tl rfl) (by simp;omega) ?_
  refine RT.done ?_
  refine ae.n ?_
  refine bA ?_
  refine fT rfl ?_
  refine aE ?_
  refine ae.n ?_
  refine bA ?_
  refine ax ?_
  refine bA ?_
  refine af ?_
  refine RT.mv .none rfl (tl rfl) ?_
  refine RT.B7 .none rfl (tl rfl) ?_
  refine RT.done ?_
  refine ae.n ?_
  refine bA ?_
  refine af ?_
  refine RT.B7 .none rfl (tl rfl) ?_
  refine RT.B7 .none rfl (tl rfl) ?_
  refine RT.done ?_
  refine ae.n ?_
  refine bA ?_
  refine bA ?_
  refine af ?_
  refine RT.mv .none rfl (tl rfl) ?_
  refine RT.ic .none rfl rfl (tl rfl) ?_
  refine RT.len .none rfl (tl rfl) ?_
  refine RT.lss .none (true) rfl rfl (tl rfl) (by simp only[List.length_map];simp;omega) ?_
  refine RT.done ?_
  refine ae.n ?_
  refine fT rfl ?_
  refine af ?_
  refine RT.ic .none rfl rfl (tl rfl) ?_
  refine RT.mv .none rfl (tl rfl) ?_
  refine RT.ixA .none [.v (.int .u32 ((a.getD i 0:Nat):Int))] (Int.natCast_nonneg i) (by rw[Int.toNat_natCast,List.getElem?_map,q9 B6];rfl) rfl rfl (tl rfl) ?_
  refine RT.ic .none rfl rfl (tl rfl) ?_
  refine RT.conv .none (((a.getD i 0%18446744073709551616:Nat):Int)) rfl (tl rfl) MU ?_
  refine RT.B7 .none rfl (tl rfl) ?_
  refine RT.done ?_
  refine ae.n ?_
  refine bA ?_
  refine bA ?_
  refine af ?_
  refine RT.mv .none rfl (tl rfl) ?_
  refine RT.ic .none rfl rfl (tl rfl) ?_
  refine RT.len .none rfl (tl rfl) ?_
  refine RT.lss .none (true) rfl rfl (tl rfl) (by simp only[List.length_map];simp;omega) ?_
  refine RT.done ?_
  refine ae.n ?_
  refine fT rfl ?_
  refine af ?_
  refine RT.ic .none rfl rfl (tl rfl) ?_
  refine RT.mv .none rfl (tl rfl) ?_
  refine RT.ixA .none [.v (.int .u32 ((b.getD i 0:Nat):Int))] (Int.natCast_nonneg i) (by rw[Int.toNat_natCast,List.getElem?_map,q9 JC];rfl) rfl rfl (tl rfl) ?_
  refine RT.ic .none rfl rfl (tl rfl) ?_
  refine RT.conv .none (((b.getD i 0%18446744073709551616:Nat):Int)) rfl (tl rfl) MU ?_
  refine RT.B7 .none rfl (tl rfl) ?_
  refine RT.done ?_
  refine ae.n ?_
  refine bA ?_
  refine af ?_
  refine RT.mv .none rfl (tl rfl) ?_
  refine RT.mv .none rfl (tl rfl) ?_
  refine RT.mv .none rfl (tl rfl) ?_
  refine RT.yield .none hr rfl (fun _ h=>h) rfl (i) rfl rfl hi (by exact⟨rfl,rfl,trivial⟩) (tl rfl) (fun yb=>?_)
  cases yb
  ·
   refine RT.not .none rfl (tl rfl) true rfl ?_
   refine RT.done ?_
   refine ae.n ?_
   refine fT rfl ?_
   refine aj ?_
   refine aG.r ?_
   refine ae.r ?_
   refine ae.r ?_
   refine aG.r ?_
   exact⟨.inr rfl,(fun h=>by cases h)⟩
  ·
   refine RT.not .none rfl (tl rfl) false rfl ?_
   refine RT.done ?_
   refine ae.n ?_
   refine ja rfl ?_
   refine aE ?_
   refine aG.n ?_
   refine ae.n ?_
   refine af ?_
   refine RT.add .none (((i:Nat):Int)+1) rfl rfl (tl rfl) (n9 (by omega)) ?_
   refine RT.mv .none rfl (tl rfl) ?_
   refine RT.done ?_
   refine ae.n ?_
   refine⟨⟨i+1,by omega⟩,(by dsimp only;omega),?_⟩
   try dsimp only
   exact dx id rfl rfl rfl rfl rfl ⟨.sv (by first|exact SV.aa _|exact SV.aN (by omega)|exact SV.aN (by push_cast;omega)|exact SV.aN (by dsimp only;omega)|exact SV.imp_eq (by simp)),.sv (by first|exact SV.aa _|exact SV.aN (by omega)|exact SV.aN (by push_cast;omega)|exact SV.aN (by dsimp only;omega)|exact SV.imp_eq (by simp)),.sv (by first|exact SV.aa _|exact SV.aN (by omega)|exact SV.aN (by push_cast;omega)|exact SV.aN (by dsimp only;omega)|exact SV.imp_eq (by simp)),.sv (by first|exact SV.aa _|exact SV.aN (by omega)|exact SV.aN (by push_cast;omega)|exact SV.aN (by dsimp only;omega)|exact SV.imp_eq (by simp)),.sv (by first|exact SV.aa _|exact SV.aN (by omega)|exact SV.aN (by push_cast;omega)|exact SV.aN (by dsimp only;omega)|exact SV.imp_eq (by simp)),trivial⟩ trivial trivial (fun _ _=>rfl)
 ·
  refine bA ?_
  refine af ?_
  refine RT.lss .none (true) rfl rfl (tl rfl) (by simp;omega) ?_
  refine RT.done ?_
  refine ae.n ?_
  refine bA ?_
  refine fT rfl ?_
  refine aE ?_
  refine ae.n ?_
  refine bA ?_
  refine ax ?_
  refine bA ?_
  refine af ?_
  refine RT.mv .none rfl (tl rfl) ?_
  refine RT.B7 .none rfl (tl rfl) ?_
  refine RT.done ?_
  refine ae.n ?_
  refine bA ?_
  refine af ?_
  refine RT.B7 .none rfl (tl rfl) ?_
  refine RT.B7 .none rfl (tl rfl) ?_
  refine RT.done ?_
  refine ae.n ?_
  refine bA ?_
  refine bA ?_
  refine af ?_
  refine RT.mv .none rfl (tl rfl) ?_
  refine RT.ic .none rfl rfl (tl rfl) ?_
  refine RT.len .none rfl (tl rfl) ?_
  refine RT.lss .none (true) rfl rfl (tl rfl) (by simp only[List.length_map];simp;omega) ?_
  refine RT.done ?_
  refine ae.n ?_
  refine fT rfl ?_
  refine af ?_
  refine RT.ic .none rfl rfl (tl rfl) ?_
  refine RT.mv .none rfl (tl rfl) ?_
  refine RT.ixA .none [.v (.int .u32 ((a.getD i 0:Nat):Int))] (Int.natCast_nonneg i) (by rw[Int.toNat_natCast,List.getElem?_map,q9 B6];rfl) rfl rfl (tl rfl) ?_
  refine RT.ic .none rfl rfl (tl rfl) ?_
  refine RT.conv .none (((a.getD i 0%18446744073709551616:Nat):Int)) rfl (tl rfl) MU ?_
  refine RT.B7 .none rfl (tl rfl) ?_
  refine RT.done ?_
  refine ae.n ?_
  refine bA ?_
  refine bA ?_
  refine af ?_
  refine RT.mv .none rfl (tl rfl) ?_
  refine RT.ic .none rfl rfl (tl rfl) ?_
  refine RT.len .none rfl (tl rfl) ?_
  refine RT.lss .none (false) rfl rfl (tl rfl) (by simp only[List.length_map];simp;omega) ?_
  refine RT.done ?_
  refine ae.n ?_
  refine ja rfl ?_
  refine aE ?_
  refine ae.n ?_
  refine bA ?_
  refine af ?_
  refine RT.mv .none rfl (tl rfl) ?_
  refine RT.mv .none rfl (tl rfl) ?_
  refine RT.mv .none rfl (tl rfl) ?_
  refine RT.yield .none hr rfl (fun _ h=>h) rfl (i) rfl rfl hi (by exact⟨rfl,(by show AV.sv _=AV.sv _;rw[tv JC];rfl),trivial⟩) (tl rfl) (fun yb=>?_)
  cases yb
  ·
   refine RT.not .none rfl (tl rfl) true rfl ?_
   refine RT.done ?_
   refine ae.n ?_
   refine fT rfl ?_
   refine aj ?_
   refine aG.r ?_
   refine ae.r ?_
   refine ae.r ?_
   refine aG.r ?_
   exact⟨.inr rfl,(fun h=>by cases h)⟩
  ·
   refine RT.not .none rfl (tl rfl) false rfl ?_
   refine RT.done ?_
   refine ae.n ?_
   refine ja rfl ?_
   refine aE ?_
   refine aG.n ?_
   refine ae.n ?_
   refine af ?_
   refine RT.add .none (((i:Nat):Int)+1) rfl rfl (tl rfl) (n9 (by omega)) ?_
   refine RT.mv .none rfl (tl rfl) ?_
   refine RT.done ?_
   refine ae.n ?_
   refine⟨⟨i+1,by omega⟩,(by dsimp only;omega),?_⟩
   try dsimp only
   exact dx id rfl rfl rfl rfl rfl ⟨.sv (by first|exact SV.aa _|exact SV.aN (by omega)|exact SV.aN (by push_cast;omega)|exact SV.aN (by dsimp only;omega)|exact SV.imp_eq (by simp)),.sv (by first|exact SV.aa _|exact SV.aN (by omega)|exact SV.aN (by push_cast;omega)|exact SV.aN (by dsimp only;omega)|exact SV.imp_eq (by simp)),.sv (by first|exact SV.aa _|exact SV.aN (by omega)|exact SV.aN (by push_cast;omega)|exact SV.aN (by dsimp only;omega)|exact SV.imp_eq (by simp)),.sv (by first|exact SV.aa _|exact SV.aN (by omega)|exact SV.aN (by push_cast;omega)|exact SV.aN (by dsimp only;omega)|exact SV.imp_eq (by simp)),.sv (by first|exact SV.aa _|exact SV.aN (by omega)|exact SV.aN (by push_cast;omega)|exact SV.aN (by dsimp only;omega)|exact SV.imp_eq (by simp)),trivial⟩ trivial trivial (fun _ _=>rfl)
 ·
  refine bA ?_
  refine af ?_
  refine RT.lss .none (true) rfl rfl (tl rfl) (by simp;omega) ?_
  refine RT.done ?_
  refine ae.n ?_
  refine bA ?_
  refine fT rfl ?_
  refine aE ?_
  refine ae.n ?_
  refine bA ?_
  refine ax ?_
  refine bA ?_
  refine af ?_
  refine RT.mv .none rfl (tl rfl) ?_
  refine RT.B7 .none rfl (tl rfl) ?_
  refine RT.done ?_
  refine ae.n ?_
  refine bA ?_
  refine af ?_
  refine RT.B7 .none rfl (tl rfl) ?_
  refine RT.B7 .none rfl (tl rfl) ?_
  refine RT.done ?_
  refine ae.n ?_
  refine bA ?_
  refine bA ?_
  refine af ?_
  refine RT.mv .none rfl (tl rfl) ?_
  refine RT.ic .none rfl rfl (tl rfl) ?_
  refine RT.len .none rfl (tl rfl) ?_
  refine RT.lss .none (false) rfl rfl (tl rfl) (by simp only[List.length_map];simp;omega) ?_
  refine RT.done ?_
  refine ae.n ?_
  refine ja rfl ?_
  refine aE ?_
  refine ae.n ?_
  refine bA ?_
  refine bA ?_
  refine af ?_
  refine RT.mv .none rfl (tl rfl) ?_
  refine RT.ic .none rfl rfl (tl rfl) ?_
  refine RT.len .none rfl (tl rfl) ?_
  refine RT.lss .none (true) rfl rfl (tl rfl) (by simp only[List.length_map];simp;omega) ?_
  refine RT.done ?_
  refine ae.n ?_
  refine fT rfl ?_
  refine af ?_
  refine RT.ic .none rfl rfl (tl rfl) ?_
  refine RT.mv .none rfl (tl rfl) ?_
  refine RT.ixA .none [.v (.int .u32 ((b.getD i 0:Nat):Int))] (Int.natCast_nonneg i) (by rw[Int.toNat_natCast,List.getElem?_map,q9 JC];rfl) rfl rfl (tl rfl) ?_
  refine RT.ic .none rfl rfl (tl rfl) ?_
  refine RT.conv .none (((b.getD i 0%18446744073709551616:Nat):Int)) rfl (tl rfl) MU ?_
  refine RT.B7 .none rfl (tl rfl) ?_
  refine RT.done ?_
  refine ae.n ?_
  refine bA ?_
  refine af ?_
  refine RT.mv .none rfl (tl rfl) ?_
  refine RT.mv .none rfl (tl rfl) ?_
  refine RT.mv .none rfl (tl rfl) ?_
  refine RT.yield .none hr rfl (fun _ h=>h) rfl (i) rfl rfl hi (by exact⟨(by show AV.sv _=AV.sv _;rw[tv B6];rfl),rfl,trivial⟩) (tl rfl) (fun yb=>?_)
  cases yb
  ·
   refine RT.not .none rfl (tl rfl) true rfl ?_
   refine RT.done ?_
   refine ae.n ?_
   refine fT rfl ?_
   refine aj ?_
   refine aG.r ?_
   refine ae.r ?_
   refine ae.r ?_
   refine aG.r ?_
   exact⟨.inr rfl,(fun h=>by cases h)⟩
  ·
   refine RT.not .none rfl (tl rfl) false rfl ?_
   refine RT.done ?_
   refine ae.n ?_
   refine ja rfl ?_
   refine aE ?_
   refine aG.n ?_
   refine ae.n ?_
   refine af ?_
   refine RT.add .none (((i:Nat):Int)+1) rfl rfl (tl rfl) (n9 (by omega)) ?_
   refine RT.mv .none rfl (tl rfl) ?_
   refine RT.done ?_
   refine ae.n ?_
   refine⟨⟨i+1,by omega⟩,(by dsimp only;omega),?_⟩
   try dsimp only
   exact dx id rfl rfl rfl rfl rfl ⟨.sv (by first|exact SV.aa _|exact SV.aN (by omega)|exact SV.aN (by push_cast;omega)|exact SV.aN (by dsimp only;omega)|exact SV.imp_eq (by simp)),.sv (by first|exact SV.aa _|exact SV.aN (by omega)|exact SV.aN (by push_cast;omega)|exact SV.aN (by dsimp only;omega)|exact SV.imp_eq (by simp)),.sv (by first|exact SV.aa _|exact SV.aN (by omega)|exact SV.aN (by push_cast;omega)|exact SV.aN (by dsimp only;omega)|exact SV.imp_eq (by simp)),.sv (by first|exact SV.aa _|exact SV.aN (by omega)|exact SV.aN (by push_cast;omega)|exact SV.aN (by dsimp only;omega)|exact SV.imp_eq (by simp)),.sv (by first|exact SV.aa _|exact SV.aN (by omega)|exact SV.aN (by push_cast;omega)|exact SV.aN (by dsimp only;omega)|exact SV.imp_eq (by simp)),trivial⟩ trivial trivial (fun _ _=>rfl)
 ·
  subst hi
  refine bA ?_
  refine af ?_
  refine RT.lss .none (false) rfl rfl (tl rfl) (by simp) ?_
  refine RT.done ?_
  refine ae.n ?_
  refine bA ?_
  refine ja rfl ?_
  refine aW ?_
  refine ae.x ?_
  refine ae.x ?_
  refine aG.x ?_
  exact⟨.inl rfl,(fun _=>rfl)⟩
theorem lX{x0 r:List Nat}(h:cO x0=some r):Pure Tryz.prog 85 [slc 1 (List.map ah x0)] (slc 1 (List.map ah r)):=by
 refine aq Tryz.func85 rfl (Nat.le_of_ble_eq_true rfl) (fun c9 M vs hvs=>?_)
 unfold cO at h
 refine sr<|aI rfl (imp_nil (n:=1) (e:=ah))<|dn<|qq<|sr<|mv rfl ?_
 refine RT.O0 .none rfl T (fun nb hnb=>?_)
 cases nb
 exact dn<|fs<|sr<|RT.ye (l:=([]:List Nat)) (e:=ah) .none .nil T rfl T rfl rfl rfl rfl rfl rfl<|mv rfl<|RT.JV (k:=x0) (e:=ah) .none rfl rfl rfl T rfl T h<|ag rfl<|dn<|aj<|RZ (.tmp rfl .nil)
 have hx:x0=[]:=by simpa using hnb rfl
 subst hx
 obtain⟨_,_,rfl⟩:=qY h
 exact dn<|cT<|sr<|aI rfl (imp_nil (n:=1) (e:=ah))<|dn<|aj<|ae.r<|RZ (.tmp rfl .nil)
theorem wC{x0 r:List Nat}(h:cO x0=some r):DH Tryz.prog 85 [slc 1 (List.map ah x0)] (TR 69 1 ah r):=by
 refine yS Tryz.func85 rfl (Nat.le_of_ble_eq_true rfl) (fun c9 M vs hvs=>?_)
 unfold cO at h
 refine sr<|ag rfl<|dn<|qq<|sr<|mv rfl ?_
 refine RT.O0 .none rfl T (fun nb hnb=>?_)
 cases nb
 exact dn<|fs<|sr<|RT.ye (l:=([]:List Nat)) (e:=ah) .none .nil T rfl T rfl rfl rfl rfl rfl rfl<|mv rfl<|aR (k:=x0) (e:=ah) rfl rfl rfl h<|an (s:=.row _) rfl<|dn<|aj<|⟨.inr rfl,_,.tmp rfl,rfl⟩
 have hx:x0=[]:=by simpa using hnb rfl
 subst hx
 obtain⟨_,_,rfl⟩:=qY h
 exact dn<|cT<|sr<|ag rfl<|dn<|bq (eY 2 300 69 1 rfl rfl T)<|aj<|ae.r<|⟨.inr rfl,_,.tmp rfl,rfl⟩
theorem aY{x0:Nat}{c0:Nat}{r:Nat×Nat}(h:aV x0 c0=some r):MP Tryz.prog 107 [.v (.int .u64 ((x0:Nat):Int))] 86 [.v (.int .u64 ((c0:Nat):Int))] (.v (.int .u32 ((r.1:Nat):Int))) [.v (.int .u64 ((r.2:Nat):Int))]:=by
 refine Fl Tryz.func107 rfl (Nat.le_of_ble_eq_true rfl) (fun c9 M β=>?_)
 unfold aV at h
 refine sr<|ag rfl<|dn<|sr<|mv rfl<|lV rfl rfl rfl<|lE h fun x6 h6 h=>ad _ rfl rfl (UK.add (a:=x0) (b:=c0) h6)<|ag rfl<|dn<|sr<|mv rfl<|lE h fun x8 h8 h=>RT.shr .none _ rfl rfl T (by decide) (yZ (k:=.u64) (a:=x6) (q:=32) (s:=32) rfl h8)<|RT.yE (cells:=[_]) .none (s:=.sv _) rfl rfl rfl T rfl<|dn<|sr<|mv rfl<|lE h fun eG gG h=>cv _ rfl (UK.nat gG)<|ag rfl ?_
 refine dn<|aj ?_
 obtain rfl:=O h
 exact⟨.inr rfl,cg (.tmp rfl (.nil)) (SV.aa _),rfl⟩
theorem aZ{x0:List Nat}{r:List Nat}(h:az x0=some r):Pure Tryz.prog 50 [slc 1 (List.map ah x0)] (slc 1 (List.map ah r)):=by
 refine aq Tryz.func50 rfl (Nat.le_of_ble_eq_true rfl) (fun c9 M vs hvs=>?_)
 unfold az at h
 refine sr<|aI rfl (imp_nil (n:=1) (e:=ah))<|dn<|qq<|bE h fun DV tJ oh=>?_
 refine aP (fun(ze:(List Nat))=>AS.bL 21 [(0,.sv (slc 1 (List.map ah ze)))] [] []) (fun ze=>ze=DV) ?_ (fun ze tK=>?_)
 refine ax ?_
 refine aQ tJ (fun oG=>AS.bL 21 [(0,.sv (slc 1 (List.map ah oG)))] [] []) (wR []) (fun xM RN RO h tL sH=>?_)
 try dsimp only
 refine qq<|qq ?_
 refine aC h (fun Ng=>AS.bL 21 [(0,.sv (slc 1 (List.map ah xM))),(14,.sv (.v (.bool Ng)))] [] []) (fun h=>?_) (fun zb h=>?_)
 refine af<|mv rfl<|lE h fun x4 h4 h=>ln rfl h4<|lE h fun x5 h5 h=>gt _ rfl rfl h5<|mv rfl<|bE h fun Fx dO h=>?_
 cases x5
 obtain rfl:=O (F dO)
 exact ww<|ww<|ww<|ww<|ww<|ww<|ww<|pF rfl<|dn<|⟨false,h,wR []⟩
 refine gm rfl<|gm rfl<|lE (V dO) fun x9 h9 dO=>gn rfl h9<|lE dO fun eG gG dO=>RT.sub (.some rfl rfl) _ rfl rfl T gG<|bE dO fun fV iV dO=>RT.Iy (.some rfl rfl) rfl rfl T iV<|gr rfl rfl<|lE dO fun fE jy dO=>DO _ rfl rfl (MW (p:=fV) (q:=0) jy) ?_
 obtain rfl:=O dO
 exact pT rfl<|dn<|⟨fE,h,wR []⟩
 try dsimp only
 refine ae.n ?_
 cases zb
 refine cF<|aW<|ae.x<|ae.x<|aG.x<|ae.n ?_
 obtain rfl:=O (F h)
 exact⟨xM,sH _ rfl,wR []⟩
 refine cT<|aE<|ae.n<|ax<|af<|mv rfl<|mv rfl<|lE (V h) fun dI iW h=>ln rfl iW<|lE h fun dQ iN h=>sb _ rfl rfl iN<|bE h fun jL mW h=>RT.Ft .none 0 dQ rfl rfl ⟨_,rfl⟩ T mW<|ag rfl<|RT.done<|aG.n ?_
 obtain rfl:=O h
 exact ae.n ⟨jL,tL _ rfl,wR []⟩
 subst tK
 try dsimp only
 refine ae.n<|sr<|mv rfl<|ag rfl<|dn<|aj ?_
 obtain rfl:=O oh
 exact R1 rfl
theorem dS{x0:Bool}{x1:List Nat}{r:Zr}(h:bj x0 x1=some r):Pure Tryz.prog 64 [.v (.bool x0),slc 1 (List.map ah x1)] (.agg (eZ r)):=by
 refine aq Tryz.func64 rfl (Nat.le_of_ble_eq_true rfl) (fun c9 M vs hvs=>?_)
 unfold bj at h
 refine sr<|al (cs:=[.v (.bool false),slc 1 (List.map ah [])]) (by exact⟨SV.aa _,imp_nil,trivial⟩) rfl<|dn<|sr<|mv rfl<|bE h fun x6 h6 h=>cl (aZ h6) ⟨rfl,trivial⟩<|ag rfl<|dn<|qq<|sr<|mv rfl<|lE h fun x8 h8 h=>ln rfl h8<|lE h fun x9 h9 h=>eq _ rfl rfl (oN (p:=x8) (q:=0) h9)<|dn ?_
 cases x9
 refine fs<|sr<|mv rfl<|mv rfl<|bI (cs:=[_,_]) (cs':=[.v (.bool x0),slc 1 (List.map ah x6)]) (.one rfl (.one rfl (.nil))) ⟨SV.aa _,SV.aa _,trivial⟩<|so rfl rfl rfl<|dn<|aj ?_
 obtain rfl:=O (F h)
 exact RZ (.agg rfl rfl (.cons rfl (.cons rfl (.nil))) rfl (.nil))
 refine cT<|sr<|bI (cs:=[_,_]) (cs':=[.v (.bool false),slc 1 (List.map ah [])]) (.nil) ⟨SV.aa _,imp_nil,trivial⟩<|so rfl rfl rfl<|dn<|aj<|ae.r ?_
 obtain rfl:=O (V h)
 exact RZ (.agg rfl rfl (.cons rfl (.cons rfl (.nil))) rfl (.nil))
theorem iB{x0:Bool}{x1:Nat}{r:Zr}(h:cP x0 x1=some r):Pure Tryz.prog 52 [.v (.bool x0),.v (.int .u64 ((x1:Nat):Int))] (.agg (eZ r)):=by
 refine aq Tryz.func52 rfl (Nat.le_of_ble_eq_true rfl) (fun c9 M vs hvs=>?_)
 unfold cP at h
 refine sr<|al (cs:=[.v (.bool false),slc 1 (List.map ah [])]) (by exact⟨SV.aa _,imp_nil,trivial⟩) rfl<|dn<|qq<|ax<|sr<|mv rfl<|lE h fun x7 h7 h=>eq _ rfl rfl (MW (p:=x1) (q:=0) h7)<|ag rfl<|dn ?_
 cases x7
 refine cF<|sr<|mv rfl<|lE (F h) fun fV iV h=>RT.shr .none _ rfl rfl T (by decide) (yZ (k:=.u64) (a:=x1) (q:=32) (s:=32) rfl iV)<|lE h fun dA gX h=>eq _ rfl rfl (MW (p:=fV) (q:=0) gX)<|ag rfl<|dn ?_
 cases dA
 refine cF<|aE<|aG.n<|ae.n<|sr<|mv rfl<|mv rfl<|lE (F h) fun gQ kE h=>cv _ rfl (UK.nat kE)<|mv rfl<|lE h fun gR lj h=>RT.shr .none _ rfl rfl T (by decide) (yZ (k:=.u64) (a:=x1) (q:=32) (s:=32) rfl lj)<|lE h fun ig mB h=>cv _ rfl (UK.nat mB)<|bl (l:=[gQ,ig]) (e:=ah) (.one rfl (.one rfl (.nil))) rfl rfl rfl rfl rfl rfl<|bI (cs:=[_,_]) (cs':=[.v (.bool x0),slc 1 (List.map ah [gQ,ig])]) (.one rfl (.one rfl (.nil))) ⟨SV.aa _,SV.aa _,trivial⟩ ?_
 refine so rfl rfl rfl<|dn<|aj ?_
 obtain rfl:=O h
 exact RZ (.agg rfl rfl (.cons rfl (.cons rfl (.nil))) rfl (.nil))
 refine cT<|sr<|mv rfl<|mv rfl<|lE (V h) fun jq nK h=>cv _ rfl (UK.nat nK)<|bl (l:=[jq]) (e:=ah) (.one rfl (.nil)) rfl rfl rfl rfl rfl rfl<|bI (cs:=[_,_]) (cs':=[.v (.bool x0),slc 1 (List.map ah [jq])]) (.one rfl (.one rfl (.nil))) ⟨SV.aa _,SV.aa _,trivial⟩<|so rfl rfl rfl<|dn<|aj<|aG.r<|ae.r ?_
 obtain rfl:=O h
 exact RZ (.agg rfl rfl (.cons rfl (.cons rfl (.nil))) rfl (.nil))
 refine cT<|sr<|bI (cs:=[_,_]) (cs':=[.v (.bool false),slc 1 (List.map ah [])]) (.nil) ⟨SV.aa _,imp_nil,trivial⟩<|so rfl rfl rfl<|dn<|aj<|aG.r<|ae.r ?_
 obtain rfl:=O (V h)
 exact RZ (.agg rfl rfl (.cons rfl (.cons rfl (.nil))) rfl (.nil))
theorem gI{x0:List Nat}{r:Nat}(h:cL x0=some r):Pure Tryz.prog 79 [slc 1 (List.map ah x0)] (.v (.int .u64 ((r:Nat):Int))):=by
 refine aq Tryz.func79 rfl (Nat.le_of_ble_eq_true rfl) (fun c9 M vs hvs=>?_)
 unfold cL at h
 refine sr<|ag rfl<|dn<|qq<|sr<|mv rfl<|lE h fun x4 h4 h=>ln rfl h4<|dn<|ax<|sr<|lE h fun x6 h6 h=>eq _ rfl rfl (oN (p:=x4) (q:=0) h6)<|ag rfl<|dn ?_
 cases x6
 refine cF<|sr<|lE (F h) fun x8 h8 h=>eq _ rfl rfl (oN (p:=x4) (q:=1) h8)<|ag rfl<|dn ?_
 cases x8
 refine cF<|aE<|aG.n<|ae.n<|qq<|ai mixed<|mv rfl<|bE (F h) fun gp kU h=>ix rfl rfl kU<|lr rfl rfl<|lE h fun ek jz h=>cv _ rfl (UK.nat jz)<|mv rfl<|bE h fun dQ iN h=>ix rfl rfl iN<|lr rfl rfl<|lE h fun gQ kE h=>cv _ rfl (UK.nat kE)<|lE h fun ij mX h=>RT.shl .none _ rfl rfl T (by decide) (UK.shl (a:=gQ) (q:=32) (s:=32) rfl mX)<|lE h fun gR lj h=>RT.or .none _ rfl rfl T (UK.or (a:=ek) (b:=ij) lj) ?_
 refine ag rfl ?_
 refine RT.done ⟨by kernel_rfl,?_⟩
 refine ae.n<|aj ?_
 obtain rfl:=O h
 exact R1 rfl
 refine cT<|sr<|mv rfl<|bE (V h) fun eG gG h=>ix rfl rfl gG<|lr rfl rfl<|lE h fun dA gX h=>cv _ rfl (UK.nat gX)<|ag rfl<|dn<|aj<|aG.r<|ae.r ?_
 obtain rfl:=O h
 exact R1 rfl
 refine cT<|sr<|ag rfl<|dn<|aj<|aG.r<|ae.r ?_
 obtain rfl:=O (V h)
 exact R1 rfl
theorem dG{x0:List Nat}{x1:List Nat}{r:Int}(h:bX x0 x1=some r):Pure Tryz.prog 80 [slc 1 (List.map ah x0),slc 1 (List.map ah x1)] (.v (.int .i64 r)):=by
 refine aq Tryz.func80 rfl (Nat.le_of_ble_eq_true rfl) (fun c9 M vs hvs=>?_)
 unfold bX at h
 refine sr<|ag rfl<|dn<|qq<|sr<|mv rfl<|lE h fun x7 h7 h=>ln rfl h7<|mv rfl<|lE h fun x9 h9 h=>ln rfl h9<|lE h fun eG gG h=>ne _ rfl rfl (It (p:=x7) (q:=x9) gG)<|dn ?_
 cases eG
 refine fs<|qq<|sr<|mv rfl<|lE (F h) fun dI iW h=>ln rfl iW<|lE h fun dQ iN h=>sb _ rfl rfl iN<|ag rfl<|dn<|bE h fun e6 FF kV=>?_
 refine aP (fun(RQ:Unit)=>AS.bL 41 [] [] []) (fun RQ=>.inl RQ=e6) ?_ (fun RQ FG=>?_)
 refine ax ?_
 refine aQ FF (fun s6=>AS.bL 41 [(0,.sv (slc 1 (List.map ah x0))),(1,.sv (slc 1 (List.map ah x1))),(5,.sv (.v (.int .i64 s6)))] [] []) (wR []) (fun lT y6 G6 h FH Ck=>?_)
 try dsimp only
 refine qq<|sr<|mv rfl<|lE h fun gQ kE h=>ge _ rfl rfl kE<|dn ?_
 cases gQ
 refine cF<|aW<|ae.x<|ae.x<|aG.x<|ae.n ?_
 obtain rfl:=O (F h)
 exact⟨(),Ck _ rfl,wR []⟩
 refine cT<|aE<|ae.n<|qq<|ax<|qq<|ai mixed<|mv rfl<|mv rfl<|bE (V h) fun nH om h=>ix rfl rfl om<|lr rfl rfl<|mv rfl<|mv rfl<|bE h fun gx kW h=>ix rfl rfl kW<|lr rfl rfl<|lE h fun lU sV h=>ne _ rfl rfl (Ue (p:=nH) (q:=gx) sV) ?_
 refine RT.done ⟨by kernel_rfl,?_⟩
 refine ae.n ?_
 cases lU
 refine cF<|aE<|aG.n<|ae.n<|af<|mv rfl<|lE (F h) fun gR lj h=>sb _ rfl rfl lj<|ag rfl<|RT.done ?_
 obtain rfl:=O h
 exact ae.n ⟨gR,FH _ rfl,wR []⟩
 refine cT<|qq<|qq<|ai mixed<|mv rfl<|mv rfl<|bE (V h) fun lW qH h=>ix rfl rfl qH<|lr rfl rfl<|mv rfl<|mv rfl<|bE h fun oa zw h=>ix rfl rfl zw<|lr rfl rfl<|lE h fun mO sx h=>ls _ rfl rfl (O1 (p:=lW) (q:=oa) sx) ?_
 refine RT.done ⟨by kernel_rfl,?_⟩
 refine ae.n ?_
 cases mO
 refine fs<|sr<|ag rfl<|dn<|aj<|aG.r<|ae.r ?_
 obtain rfl:=O (F h)
 have RR:=Ck _ rfl
 subst RR
 refine ae.r<|aG.r<|ae.r<|ae.r ?_
 obtain rfl:=O kV
 exact R1 rfl
 refine cT<|sr<|ag rfl<|dn<|aj<|ae.r<|aG.r<|ae.r ?_
 obtain rfl:=O (V h)
 have RR:=Ck _ rfl
 subst RR
 refine ae.r<|aG.r<|ae.r<|ae.r ?_
 obtain rfl:=O kV
 exact R1 rfl
 subst FG
 try dsimp only
 refine ae.n<|sr<|ag rfl<|dn<|aj ?_
 obtain rfl:=O kV
 exact R1 rfl
 refine cT<|qq<|sr<|mv rfl<|lE (V h) fun dA gX h=>ln rfl gX<|mv rfl<|lE h fun gp kU h=>ln rfl kU<|lE h fun jq nK h=>ls _ rfl rfl nK<|dn ?_
 cases jq
 refine fs<|sr<|ag rfl<|dn<|aj<|ae.r ?_
 obtain rfl:=O (F h)
 exact R1 rfl
 refine cT<|sr<|ag rfl<|dn<|aj<|ae.r<|ae.r ?_
 obtain rfl:=O (V h)
 exact R1 rfl
theorem nQ{x0:List Nat}{x1:List Nat}{r:List Nat}(h:cC x0 x1=some r):Pure Tryz.prog 62 [slc 1 (List.map ah x0),slc 1 (List.map ah x1)] (slc 1 (List.map ah r)):=by
 refine aq Tryz.func62 rfl (Nat.le_of_ble_eq_true rfl) (fun c9 M vs hvs=>?_)
 unfold cC at h
 refine sr<|aI rfl (imp_nil (n:=1) (e:=ah))<|dn<|sr<|mv rfl<|lE h fun eG gG h=>ln rfl gG<|mv rfl<|lE h fun dA gX h=>ln rfl gX<|lE h fun fE jy h=>RT.max .none _ rfl rfl T (Rf (p:=eG) (q:=dA) jy)<|lE h fun gp kU h=>ad _ rfl rfl kU<|bE h fun jq nK h=>RT.Bd (e:=ah) .none rfl rfl T rfl T nK<|RT.alloc .none T rfl rfl<|RT.n7 (cells:=[_]) .none rfl rfl rfl rfl T rfl<|dn<|sr<|RT.uR .none (cE 0) rfl ⟨rfl,trivial⟩ T rfl rfl ?_
 refine RT.alloc .none T rfl rfl<|RT.yE (cells:=[_]) .none (s:=.eV _ _) rfl rfl rfl T rfl<|dn<|qq<|sr<|mv rfl<|mv rfl<|cl (jT x0 x1) ⟨rfl,rfl,trivial⟩<|dn<|ax<|bE h fun e7 RU FI=>?_
 obtain⟨FJ,RV,RW,RX⟩:=oO RU
 refine mA (jU x0 x1) (fun _ _ _ _ _=>trivial) rfl (fun k=>AS.bL 35 [(5,.ptr 5 0),(6,.ptr 6 0),(19,.sv (yK 108 [ref [slc 1 (List.map ah x0)],ref [slc 1 (List.map ah x1)]]))] [(6,⟨118,[.eV 107 [.box 16]]⟩),(16,⟨86,[.sv (.v (.int .u64 (((FJ k).1:Nat):Int)))]⟩),(5,⟨33,[.row 302]⟩)] [(302,TR 69 1 ah (FJ k).2)]) [6,16,5] rfl (fun _=>⟨rfl,rfl⟩) (B8 rfl) (fun _=>rfl) (B9 rfl) (by(try dsimp only);rw[RV];(try dsimp only);exact dx (fun i=>bif Nat.beq i 302 then 15 else i) rfl rfl rfl rfl rfl ⟨.ptr,.ptr,.sv (SV.aa _),trivial⟩ ⟨⟨_,rfl,⟨.eV,trivial⟩⟩,⟨_,rfl,⟨.sv (SV.aa _),trivial⟩⟩,⟨_,rfl,⟨.row rfl,trivial⟩⟩,trivial⟩ ⟨⟨_,rfl,cn.refl _⟩,trivial⟩ (fun i hi=>by rw[bD (show i≠302 by omega)];rfl)) (fun k hk D hD=>?_) ?_
 have h:=RW k hk
 obtain⟨sk,RY⟩:∃q,FJ k=q:=⟨_,rfl⟩
 rw[RY]at h⊢
 obtain⟨pP,eT⟩:=sk
 dsimp only[AS.Uc,yV]
 try dsimp only at h
 refine lE h fun Vj R3 h=>?_
 rw[R3]
 refine lE h fun Vk R4 h=>?_
 rw[R4]
 refine sr<|ag rfl<|dn<|af<|ag rfl<|RT.done ?_
 refine ae.n ⟨rfl,?_⟩
 dsimp only[AS.Iq]
 refine ax<|ai mixed<|RT.iw .none (s:=.row _) rfl rfl rfl T<|RT.iw .none (s:=.eV _ _) rfl rfl rfl T<|mv rfl<|mv rfl<|lE h fun gu mD h=>ad _ rfl rfl (UK.add (a:=Vj) (b:=Vk) mD) ?_
 obtain⟨⟨jr,k9⟩,nI,h⟩:=bS h
 refine cB (aY nI) 16 rfl ⟨rfl,trivial⟩<|bl (l:=[jr]) (e:=ah) (.one rfl (.nil)) rfl rfl rfl rfl rfl rfl<|bE h fun gx kW h=>aR (k:=[jr]) (e:=ah) rfl rfl rfl kW<|RT.n7 (cells:=[_]) .none rfl rfl rfl rfl T rfl ?_
 refine RT.done ⟨by kernel_rfl,?_⟩
 refine aG.n ?_
 replace h:=Option.some.inj h
 refine⟨trivial,rfl,rfl,?_⟩
 try dsimp only
 rw[←h]
 try dsimp only
 exact dx (fun i=>bif Nat.beq i 302 then 29 else i) rfl rfl rfl rfl rfl ⟨.ptr,.ptr,.sv (SV.aa _),trivial⟩ ⟨⟨_,rfl,⟨.eV,trivial⟩⟩,⟨_,rfl,⟨.sv (SV.aa _),trivial⟩⟩,⟨_,rfl,⟨.row rfl,trivial⟩⟩,trivial⟩ ⟨⟨_,rfl,cn.refl _⟩,trivial⟩ (fun i hi=>by rw[bD (show i≠302 by omega)];rfl)
 rw[RX]
 obtain⟨pP,eT⟩:=e7
 try dsimp only
 refine aG.n<|ae.n<|qq<|ai mixed<|RT.iw .none (s:=.row _) rfl rfl rfl T<|RT.iw .none (s:=.eV _ _) rfl rfl rfl T ?_
 obtain⟨⟨iu,k11⟩,lY,FI⟩:=bS FI
 refine cB (aY lY) 16 rfl ⟨rfl,trivial⟩<|bl (l:=[iu]) (e:=ah) (.one rfl (.nil)) rfl rfl rfl rfl rfl rfl<|bE FI fun lW qH FI=>RT.JV (k:=[iu]) (e:=ah) .none rfl rfl rfl T rfl T qH<|ag rfl ?_
 refine RT.done ⟨by kernel_rfl,?_⟩
 refine ae.n<|aj ?_
 obtain rfl:=O FI
 exact R1 rfl
theorem jV{x0:List Nat}{x1:List Nat}{r:List Nat}(h:bR x0 x1=some r):Pure Tryz.prog 63 [slc 1 (List.map ah x0),slc 1 (List.map ah x1)] (slc 1 (List.map ah r)):=by
 refine aq Tryz.func63 rfl (Nat.le_of_ble_eq_true rfl) (fun c9 M vs hvs=>?_)
 unfold bR at h
 refine sr<|aI rfl (imp_nil (n:=1) (e:=ah))<|dn<|sr<|mv rfl<|lE h fun eG gG h=>ln rfl gG<|bE h fun fV iV h=>RT.Bd (e:=ah) .none rfl rfl T rfl T iV<|RT.alloc .none T rfl rfl<|RT.n7 (cells:=[_]) .none rfl rfl rfl rfl T rfl<|dn<|sr<|RT.uR .none (cE 1) rfl ⟨rfl,trivial⟩ T rfl rfl<|RT.alloc .none T rfl rfl<|RT.yE (cells:=[_]) .none (s:=.eV _ _) rfl rfl rfl T rfl<|dn<|qq<|sr<|mv rfl ?_
 refine mv rfl<|cl (jT x0 x1) ⟨rfl,rfl,trivial⟩<|dn<|ax<|bE h fun e7 RU FI=>?_
 obtain⟨FJ,RV,RW,RX⟩:=oO RU
 refine mA (jU x0 x1) (fun _ _ _ _ _=>trivial) rfl (fun k=>AS.bL 28 [(5,.ptr 5 0),(6,.ptr 6 0),(15,.sv (yK 108 [ref [slc 1 (List.map ah x0)],ref [slc 1 (List.map ah x1)]]))] [(6,⟨118,[.eV 107 [.box 12]]⟩),(12,⟨86,[.sv (.v (.int .u64 (((FJ k).1:Nat):Int)))]⟩),(5,⟨33,[.row 302]⟩)] [(302,TR 69 1 ah (FJ k).2)]) [6,12,5] rfl (fun _=>⟨rfl,rfl⟩) (B8 rfl) (fun _=>rfl) (B9 rfl) (by(try dsimp only);rw[RV];(try dsimp only);exact dx (fun i=>bif Nat.beq i 302 then 11 else i) rfl rfl rfl rfl rfl ⟨.ptr,.ptr,.sv (SV.aa _),trivial⟩ ⟨⟨_,rfl,⟨.eV,trivial⟩⟩,⟨_,rfl,⟨.sv (SV.aa _),trivial⟩⟩,⟨_,rfl,⟨.row rfl,trivial⟩⟩,trivial⟩ ⟨⟨_,rfl,cn.refl _⟩,trivial⟩ (fun i hi=>by rw[bD (show i≠302 by omega)];rfl)) (fun k hk D hD=>?_) ?_
 have h:=RW k hk
 obtain⟨sk,RY⟩:∃q,FJ k=q:=⟨_,rfl⟩
 rw[RY]at h⊢
 obtain⟨sq,eT⟩:=sk
 dsimp only[AS.Uc,yV]
 try dsimp only at h
 refine lE h fun Vl R5 h=>?_
 rw[R5]
 refine lE h fun Vm R6 h=>?_
 rw[R6]
 refine sr<|ag rfl<|dn<|af<|ag rfl<|RT.done ?_
 refine ae.n ⟨rfl,?_⟩
 dsimp only[AS.Iq]
 refine ax<|ai mixed<|RT.iw .none (s:=.row _) rfl rfl rfl T<|RT.iw .none (s:=.eV _ _) rfl rfl rfl T<|mv rfl<|mv rfl<|lE h fun gR lj h=>sb _ rfl rfl (UK.sub (a:=4294967295) (b:=Vm) lj)<|lE h fun ig mB h=>ad _ rfl rfl (UK.add (a:=Vl) (b:=gR) mB) ?_
 obtain⟨⟨dR,k9⟩,lQ,h⟩:=bS h
 refine cB (aY lQ) 12 rfl ⟨rfl,trivial⟩<|bl (l:=[dR]) (e:=ah) (.one rfl (.nil)) rfl rfl rfl rfl rfl rfl<|bE h fun gu mD h=>aR (k:=[dR]) (e:=ah) rfl rfl rfl mD<|RT.n7 (cells:=[_]) .none rfl rfl rfl rfl T rfl ?_
 refine RT.done ⟨by kernel_rfl,?_⟩
 refine aG.n ?_
 replace h:=Option.some.inj h
 refine⟨trivial,rfl,rfl,?_⟩
 try dsimp only
 rw[←h]
 try dsimp only
 exact dx (fun i=>bif Nat.beq i 302 then 26 else i) rfl rfl rfl rfl rfl ⟨.ptr,.ptr,.sv (SV.aa _),trivial⟩ ⟨⟨_,rfl,⟨.eV,trivial⟩⟩,⟨_,rfl,⟨.sv (SV.aa _),trivial⟩⟩,⟨_,rfl,⟨.row rfl,trivial⟩⟩,trivial⟩ ⟨⟨_,rfl,cn.refl _⟩,trivial⟩ (fun i hi=>by rw[bD (show i≠302 by omega)];rfl)
 rw[RX]
 obtain⟨sq,eT⟩:=e7
 try dsimp only
 refine aG.n<|ae.n<|sr<|RT.iw .none (s:=.row _) rfl rfl rfl T<|an (s:=.row _) rfl<|dn<|bq (b8 (i:=302) (E1:=69) (n:=1) (e:=ah) (l:=eT) rfl)<|aj ?_
 obtain rfl:=O FI
 exact R1 rfl
theorem vb{x0:List Nat}{x1:List Nat}{r:List Nat}(h:eH x0 x1=some r):Pure Tryz.prog 83 [slc 1 (List.map ah x0),slc 1 (List.map ah x1)] (slc 1 (List.map ah r)):=by
 refine aq Tryz.func83 rfl (Nat.le_of_ble_eq_true rfl) (fun c9 M vs hvs=>?_)
 unfold eH at h
 refine sr<|aI rfl (imp_nil (n:=1) (e:=ah))<|dn<|sr<|mv rfl<|lE h fun dA gX h=>ln rfl gX<|mv rfl<|lE h fun gp kU h=>ln rfl kU<|lE h fun jq nK h=>ad _ rfl rfl nK<|bE h fun ek jz h=>RT.uU (n:=1) (e:=ah) .none rfl rfl T rfl T (by rfl) (by decide) (by exact⟨SV.aa _,trivial⟩) jz<|an (s:=.row _) rfl<|dn<|qq<|sr<|mv rfl<|lE h fun dQ iN h=>ln rfl iN ?_
 refine mv rfl<|dn<|bE h fun e28 adr ads=>?_
 refine aP (fun(tC:(List Nat))=>AS.bL 63 [(5,.row 16)] [] [(16,TR 69 1 ah tC)]) (fun tC=>tC=e28) ?_ (fun tC adt=>?_)
 refine ax ?_
 refine aQ adr (fun Ug=>AS.bL 63 [(1,.sv (slc 1 (List.map ah x1))),(5,.row 16),(17,.sv (slc 1 (List.map ah x0))),(18,.sv (.v (.int .i64 dQ))),(19,.sv (.v (.int .i64 Ug.1)))] [] [(16,TR 69 1 ah Ug.2)]) (wR []) (fun Ug y28 G28 h adu adv=>?_)
 obtain⟨mP,Cd⟩:=Ug
 try dsimp only
 refine sr<|lE h fun gQ kE h=>ls _ rfl rfl kE<|dn<|qq ?_
 cases gQ
 refine cF<|aW<|ae.x<|ae.x<|aG.x<|ae.n ?_
 obtain rfl:=O (F h)
 exact⟨Cd,adv _ rfl,wR []⟩
 refine cT<|aE<|ae.n<|qq<|ax<|sr<|mv rfl<|bE (V h) fun gR lj h=>ix rfl rfl lj<|lr rfl rfl<|ag rfl<|ag rfl<|dn<|sr<|RT.uR .none (cE 0) rfl ⟨rfl,trivial⟩ T rfl rfl<|an (s:=.eV _ _) rfl<|dn<|qq<|sr<|mv rfl<|lE h fun gu mD h=>ln rfl mD<|mv rfl<|dn<|bE h fun e38 adw wD=>?_
 refine aP (fun(ID:Nat×(List Nat))=>AS.bL 63 [(1,.sv (slc 1 (List.map ah x1))),(5,.row 16),(6,.sv (.v (.int .i64 mP))),(8,.eV 107 [.box 24]),(17,.sv (slc 1 (List.map ah x0))),(18,.sv (.v (.int .i64 dQ))),(19,.sv (.v (.int .i64 mP)))] [(24,⟨86,[.sv (.v (.int .u64 ((ID.1:Nat):Int)))]⟩)] [(16,TR 69 1 ah ID.2)]) (fun ID=>ID=e38) ?_ (fun ID adx=>?_)
 refine ax ?_
 refine aQ adw (fun Rt=>AS.bL 63 [(1,.sv (slc 1 (List.map ah x1))),(5,.row 16),(6,.sv (.v (.int .i64 mP))),(7,.sv (.v (.int .u32 ((gR:Nat):Int)))),(8,.eV 107 [.box 24]),(17,.sv (slc 1 (List.map ah x0))),(18,.sv (.v (.int .i64 dQ))),(19,.sv (.v (.int .i64 mP))),(25,.sv (slc 1 (List.map ah x1))),(26,.sv (.v (.int .i64 gu))),(27,.sv (.v (.int .i64 Rt.1)))] [(24,⟨86,[.sv (.v (.int .u64 ((Rt.2.1:Nat):Int)))]⟩)] [(16,TR 69 1 ah Rt.2.2)]) (wR []) (fun Rt y38 G38 h ady adz=>?_)
 obtain⟨wm,uV,tw⟩:=Rt
 try dsimp only
 refine sr<|lE h fun jR ru h=>ls _ rfl rfl ru<|dn<|qq ?_
 cases jR
 refine cF<|aW<|ae.x<|ae.x<|aG.x<|ae.n ?_
 obtain rfl:=O (F h)
 exact⟨(uV,tw),adz _ rfl,wR []⟩
 refine cT<|aE<|ae.n<|qq<|ax<|sr<|mv rfl<|bE (V h) fun qm vc h=>ix rfl rfl vc<|lr rfl rfl<|ag rfl<|ag rfl<|dn<|af<|mo (s:=.row _) rfl<|mv rfl<|mv rfl<|lE h fun pH AH h=>ad _ rfl rfl AH<|mo (s:=.eV _ _) rfl<|mo (s:=.row _) rfl<|mv rfl<|mv rfl<|lE h fun mO sx h=>ad _ rfl rfl sx<|bE h fun vV Cm h=>iR rfl rfl rfl Cm ?_
 refine bE h fun oc zx h=>lR rfl rfl zx rfl<|lE h fun xN GX h=>cv _ rfl (UK.nat GX)<|mv rfl<|lE h fun Bh FK h=>cv _ rfl (UK.nat FK)<|mv rfl<|lE h fun As DW h=>cv _ rfl (UK.nat DW)<|lE h fun wo h48 h=>RT.mul .none _ rfl rfl T (UK.mul (a:=Bh) (b:=As) h48)<|lE h fun Vn Nh h=>ad _ rfl rfl (UK.add (a:=xN) (b:=wo) Nh) ?_
 obtain⟨⟨tB,k41⟩,Co,h⟩:=bS h
 refine cB (aY Co) 24 rfl ⟨rfl,trivial⟩<|bE h fun E6 IE h=>iR rfl rfl rfl IE<|bE h fun l42 VJ h=>sR tB rfl rfl rfl rfl VJ<|RT.done<|aG.n<|ae.n<|af<|lE h fun xO IF h=>ad _ rfl rfl IF<|mv rfl<|RT.done ?_
 obtain rfl:=O h
 exact ae.n ⟨(xO,k41,l42),ady _ rfl,wR []⟩
 subst adx
 obtain⟨DP,Fy⟩:=ID
 try dsimp only
 refine ae.n<|af<|mo (s:=.row _) rfl<|mv rfl<|mv rfl<|lE wD fun M9 R7 wD=>ln rfl R7<|lE wD fun Vo VK wD=>ad _ rfl rfl VK<|mo (s:=.eV _ _) rfl ?_
 obtain⟨⟨J4,k45⟩,VL,wD⟩:=bS wD
 refine cB (aY VL) 24 rfl ⟨rfl,trivial⟩<|bE wD fun DQ IG wD=>iR rfl rfl rfl IG<|bE wD fun l46 VM wD=>sR J4 rfl rfl rfl rfl VM<|RT.done<|aG.n<|ae.n<|af<|lE wD fun Ru h61 wD=>ad _ rfl rfl h61<|mv rfl<|RT.done ?_
 obtain rfl:=O wD
 exact ae.n ⟨(Ru,l46),adu _ rfl,wR []⟩
 subst adt
 try dsimp only
 refine ae.n<|sr<|mo (s:=.row _) rfl<|an (s:=.row _) rfl<|dn<|bq (b8 (i:=16) (E1:=69) (n:=1) (e:=ah) (l:=tC) rfl)<|aj ?_
 obtain rfl:=O ads
 exact R1 rfl
end Go.Proofs.YtmiflmkdaeianaaGreat
namespace Go.Proofs.YtmiflmkdaeianaaGreat
open Go.Fw Go.Fw.Z Go.RowKit
theorem ve{x0:List Nat}{x1:Nat}{r:Nat×List Nat}(h:fW x0 x1=some r):Fk Tryz.prog 86 [.row 1000,.sv (.v (.int .u64 ((x1:Nat):Int)))] (TR 69 1 ah x0) (.sv (.v (.int .u64 ((r.1:Nat):Int)))) (List.flatMap ah r.2):=by
 refine tg Tryz.func86 rfl (Nat.le_of_ble_eq_true rfl) rfl rfl (fun c9 M v0=>?_)
 unfold fW at h
 refine sr<|ag rfl<|dn<|sr<|ag rfl<|dn<|qq<|sr<|mo (s:=.row _) rfl<|lE h fun x9 h9 h=>lL rfl rfl h9<|lE h fun eG gG h=>sb _ rfl rfl gG<|ag rfl<|dn<|bE h fun e8 Cp tN=>?_
 refine aP (fun(oR:Nat×(List Nat))=>AS.bL 34 [(5,.sv (.v (.int .u64 ((oR.1:Nat):Int))))] [] [(1000,TR 69 1 ah oR.2)]) (fun oR=>oR=e8) ?_ (fun oR Cq=>?_)
 refine ax ?_
 refine aQ Cp (fun s8=>AS.bL 34 [(0,.row 1000),(1,.sv (.v (.int .u64 ((x1:Nat):Int)))),(5,.sv (.v (.int .u64 ((s8.1:Nat):Int)))),(6,.sv (.v (.int .i64 s8.2.1)))] [] [(1000,TR 69 1 ah s8.2.2)]) (wR []) (fun s8 y8 G8 h Cr Cs=>?_)
 obtain⟨J5,tD,pQ⟩:=s8
 try dsimp only
 refine qq<|sr<|mv rfl<|lE h fun dA gX h=>ge _ rfl rfl gX<|dn ?_
 cases dA
 refine cF<|aW<|ae.x<|ae.x<|aG.x<|ae.n ?_
 obtain rfl:=O (F h)
 exact⟨(J5,pQ),Cs _ rfl,wR []⟩
 refine cT<|aE<|ae.n<|qq<|ax<|sr<|mv rfl<|lE (V h) fun ek jz h=>RT.shl .none _ rfl rfl T (by decide) (UK.shl (a:=J5) (q:=32) (s:=32) rfl jz)<|mo (s:=.row _) rfl<|mv rfl<|bE h fun jL mW h=>iR rfl rfl rfl mW<|bE h fun gQ kE h=>lR rfl rfl kE rfl<|lE h fun ij mX h=>cv _ rfl (UK.nat mX)<|lE h fun gR lj h=>RT.or .none _ rfl rfl T (UK.or (a:=ek) (b:=ij) lj)<|ag rfl<|dn<|sr<|mo (s:=.row _) rfl ?_
 refine mv rfl<|mv rfl<|mv rfl<|bE h fun jr nI h=>RT.quo .none _ rfl rfl T (nzU nI) (UK.quo nI)<|lE h fun jR ru h=>cv _ rfl (UK.nat ru)<|bE h fun gx kW h=>iR rfl rfl rfl kW<|bE h fun E7 zy h=>sR jR rfl rfl rfl rfl zy<|dn<|af<|mv rfl<|mv rfl<|bE h fun iu lY h=>RT.rem .none _ rfl rfl T (nzR lY) (MX lY)<|ag rfl<|RT.done<|aG.n<|ae.n<|af<|mv rfl<|lE h fun gp kU h=>sb _ rfl rfl kU ?_
 refine ag rfl<|RT.done ?_
 obtain rfl:=O h
 exact ae.n ⟨(iu,gp,E7),Cr _ rfl,wR []⟩
 subst Cq
 obtain⟨Vp,yh⟩:=oR
 try dsimp only
 refine ae.n<|sr<|mv rfl<|ag rfl<|dn<|aj<|bE tN fun _ hle tN=>?_
 obtain rfl:=O tN
 exact⟨.inr rfl,.sv (cg (.tmp rfl (.nil)) (SV.aa _)),(by show _=jK.live ⟨69,1,x0.length,List.flatMap ah yh⟩;rw[←kK hle];rfl)⟩
theorem tO{x0:List Nat}{x1:Nat}{r:List Nat}(h:dX x0 x1=some r):Pure Tryz.prog 104 [slc 1 (List.map ah x0),.v (.int .u64 ((x1:Nat):Int))] (slc 1 (List.map ah r)):=by
 refine aq Tryz.func104 rfl (Nat.le_of_ble_eq_true rfl) (fun c9 M vs hvs=>?_)
 unfold dX at h
 refine sr<|aI rfl (imp_nil (n:=1) (e:=ah))<|dn<|sr<|RT.uR .none (cE 0) rfl ⟨rfl,trivial⟩ T rfl rfl<|an (s:=.eV _ _) rfl<|dn<|sr<|mv rfl<|lE h fun fV iV h=>ln rfl iV<|lE h fun dA gX h=>ad _ rfl rfl gX<|bE h fun fE jy h=>RT.Bd (e:=ah) .none rfl rfl T rfl T jy<|an (s:=.row _) rfl<|dn<|qq<|sr<|mv rfl<|lE h fun jq nK h=>ln rfl nK ?_
 refine mv rfl<|dn<|bE h fun e8 Cp tN=>?_
 refine aP (fun(oR:Nat×(List Nat))=>AS.bL 35 [(5,.eV 107 [.box 9]),(6,.row 302)] [(9,⟨86,[.sv (.v (.int .u64 ((oR.1:Nat):Int)))]⟩)] [(302,TR 69 1 ah oR.2)]) (fun oR=>oR=e8) ?_ (fun oR Cq=>?_)
 refine ax ?_
 refine aQ Cp (fun s8=>AS.bL 35 [(1,.sv (.v (.int .u64 ((x1:Nat):Int)))),(5,.eV 107 [.box 9]),(6,.row 302),(14,.sv (slc 1 (List.map ah x0))),(15,.sv (.v (.int .i64 jq))),(16,.sv (.v (.int .i64 s8.1)))] [(9,⟨86,[.sv (.v (.int .u64 ((s8.2.1:Nat):Int)))]⟩)] [(302,TR 69 1 ah s8.2.2)]) (dx (fun i=>bif Nat.beq i 302 then 13 else i) rfl rfl rfl rfl rfl ⟨.sv (SV.aa _),.eV,.row rfl,.sv (SV.aa _),.sv (SV.aa _),.sv (SV.aa _),trivial⟩ ⟨⟨_,rfl,⟨.sv (SV.aa _),trivial⟩⟩,trivial⟩ ⟨⟨_,rfl,cn.refl _⟩,trivial⟩ (fun i hi=>by rw[bD (show i≠302 by omega)];rfl)) (fun s8 y8 G8 h Cr Cs=>?_)
 obtain⟨uW,pR,eT⟩:=s8
 try dsimp only
 refine sr<|lE h fun dI iW h=>ls _ rfl rfl iW<|dn<|qq ?_
 cases dI
 refine cF<|aW<|ae.x<|ae.x<|aG.x<|ae.n ?_
 obtain rfl:=O (F h)
 exact⟨(pR,eT),Cs _ rfl,wR []⟩
 refine cT<|aE<|ae.n<|qq<|ax<|sr<|bE (V h) fun dQ iN h=>ix rfl rfl iN<|lr rfl rfl<|ag rfl<|dn<|af<|mo (s:=.row _) rfl<|mo (s:=.eV _ _) rfl<|mv rfl<|lE h fun ig mB h=>cv _ rfl (UK.nat mB)<|mv rfl<|lE h fun nH om h=>RT.shl .none _ rfl rfl T (Int.natCast_nonneg _) (UK.shl (a:=ig) (q:=((x1:Nat):Int)) (s:=min x1 64) rfl om) ?_
 obtain⟨⟨gu,Rv⟩,mD,h⟩:=bS h
 refine cB (aY mD) 9 rfl ⟨rfl,trivial⟩<|bl (l:=[gu]) (e:=ah) (.one rfl (.nil)) rfl rfl rfl rfl rfl rfl<|bE h fun jR ru h=>aR (k:=[gu]) (e:=ah) rfl rfl rfl ru<|an (s:=.row _) rfl<|RT.done<|aG.n<|ae.n<|af<|lE h fun gx kW h=>ad _ rfl rfl kW<|mv rfl<|RT.done ?_
 obtain rfl:=O h
 exact ae.n ⟨(gx,Rv,jR),Cr _ rfl,dx (fun i=>bif Nat.beq i 302 then 28 else i) rfl rfl rfl rfl rfl ⟨.sv (SV.aa _),.eV,.row rfl,.sv (SV.aa _),.sv (SV.aa _),.sv (SV.aa _),trivial⟩ ⟨⟨_,rfl,⟨.sv (SV.aa _),trivial⟩⟩,trivial⟩ ⟨⟨_,rfl,cn.refl _⟩,trivial⟩ (fun i hi=>by rw[bD (show i≠302 by omega)];rfl)⟩
 subst Cq
 obtain⟨zf,J6⟩:=oR
 try dsimp only
 refine ae.n<|sr<|mo (s:=.row _) rfl<|mo (s:=.eV _ _) rfl ?_
 obtain⟨⟨iu,k12⟩,lY,tN⟩:=bS tN
 refine cB (aY lY) 9 rfl ⟨rfl,trivial⟩<|bl (l:=[iu]) (e:=ah) (.one rfl (.nil)) rfl rfl rfl rfl rfl rfl<|bE tN fun lW qH tN=>RT.JV (k:=[iu]) (e:=ah) .none rfl rfl rfl T rfl T qH<|ag rfl<|dn<|aj ?_
 obtain rfl:=O tN
 exact R1 rfl
theorem sI{x0:List Nat}{x1:Nat}{r:List Nat}(h:gH x0 x1=some r):DH Tryz.prog 104 [slc 1 (List.map ah x0),.v (.int .u64 ((x1:Nat):Int))] (TR 69 1 ah r):=by
 refine yS Tryz.func104 rfl (Nat.le_of_ble_eq_true rfl) (fun c9 M vs hvs=>?_)
 unfold gH at h
 refine sr<|ag rfl<|dn<|bq (eY 4 304 69 1 rfl rfl T)<|sr<|RT.uR .none (cE 0) rfl ⟨rfl,trivial⟩ T rfl rfl<|an (s:=.eV _ _) rfl<|dn<|sr<|mv rfl<|lE h fun fV iV h=>ln rfl iV<|lE h fun dA gX h=>ad _ rfl rfl gX<|bE h fun fE jy h=>RT.Bd (e:=ah) .none rfl rfl T rfl T jy<|an (s:=.row _) rfl<|dn<|qq<|sr<|mv rfl<|lE h fun jq nK h=>ln rfl nK ?_
 refine mv rfl<|dn<|bE h fun e8 Cp tN=>?_
 refine aP (fun(oR:Nat×(List Nat))=>AS.bL 35 [(5,.eV 107 [.box 9]),(6,.row 306)] [(9,⟨86,[.sv (.v (.int .u64 ((oR.1:Nat):Int)))]⟩)] [(306,TR 69 1 ah oR.2)]) (fun oR=>oR=e8) ?_ (fun oR Cq=>?_)
 refine ax ?_
 refine aQ Cp (fun s8=>AS.bL 35 [(1,.sv (.v (.int .u64 ((x1:Nat):Int)))),(5,.eV 107 [.box 9]),(6,.row 306),(14,.sv (slc 1 (List.map ah x0))),(15,.sv (.v (.int .i64 jq))),(16,.sv (.v (.int .i64 s8.1)))] [(9,⟨86,[.sv (.v (.int .u64 ((s8.2.1:Nat):Int)))]⟩)] [(306,TR 69 1 ah s8.2.2)]) (dx (fun i=>bif Nat.beq i 306 then 13 else i) rfl rfl rfl rfl rfl ⟨.sv (SV.aa _),.eV,.row rfl,.sv (SV.aa _),.sv (SV.aa _),.sv (SV.aa _),trivial⟩ ⟨⟨_,rfl,⟨.sv (SV.aa _),trivial⟩⟩,trivial⟩ ⟨⟨_,rfl,cn.refl _⟩,trivial⟩ (fun i hi=>by rw[bD (show i≠306 by omega)];rfl)) (fun s8 y8 G8 h Cr Cs=>?_)
 obtain⟨uW,pR,oe⟩:=s8
 try dsimp only
 refine sr<|lE h fun dI iW h=>ls _ rfl rfl iW<|dn<|qq ?_
 cases dI
 refine cF<|aW<|ae.x<|ae.x<|aG.x<|ae.n ?_
 obtain rfl:=O (F h)
 exact⟨(pR,oe),Cs _ rfl,wR []⟩
 refine cT<|aE<|ae.n<|qq<|ax<|sr<|bE (V h) fun dQ iN h=>ix rfl rfl iN<|lr rfl rfl<|ag rfl<|dn<|af<|mo (s:=.row _) rfl<|mo (s:=.eV _ _) rfl<|mv rfl<|lE h fun ig mB h=>cv _ rfl (UK.nat mB)<|mv rfl<|lE h fun nH om h=>RT.shl .none _ rfl rfl T (Int.natCast_nonneg _) (UK.shl (a:=ig) (q:=((x1:Nat):Int)) (s:=min x1 64) rfl om) ?_
 obtain⟨⟨gu,Rv⟩,mD,h⟩:=bS h
 refine cB (aY mD) 9 rfl ⟨rfl,trivial⟩<|bl (l:=[gu]) (e:=ah) (.one rfl (.nil)) rfl rfl rfl rfl rfl rfl<|bE h fun jR ru h=>aR (k:=[gu]) (e:=ah) rfl rfl rfl ru<|an (s:=.row _) rfl<|RT.done<|aG.n<|ae.n<|af<|lE h fun gx kW h=>ad _ rfl rfl kW<|mv rfl<|RT.done ?_
 obtain rfl:=O h
 exact ae.n ⟨(gx,Rv,jR),Cr _ rfl,dx (fun i=>bif Nat.beq i 306 then 28 else i) rfl rfl rfl rfl rfl ⟨.sv (SV.aa _),.eV,.row rfl,.sv (SV.aa _),.sv (SV.aa _),.sv (SV.aa _),trivial⟩ ⟨⟨_,rfl,⟨.sv (SV.aa _),trivial⟩⟩,trivial⟩ ⟨⟨_,rfl,cn.refl _⟩,trivial⟩ (fun i hi=>by rw[bD (show i≠306 by omega)];rfl)⟩
 subst Cq
 obtain⟨zf,og⟩:=oR
 try dsimp only
 refine ae.n<|sr<|mo (s:=.row _) rfl<|mo (s:=.eV _ _) rfl ?_
 obtain⟨⟨iu,k12⟩,lY,tN⟩:=bS tN
 refine cB (aY lY) 9 rfl ⟨rfl,trivial⟩<|bl (l:=[iu]) (e:=ah) (.one rfl (.nil)) rfl rfl rfl rfl rfl rfl<|bE tN fun lW qH tN=>aR (k:=[iu]) (e:=ah) rfl rfl rfl qH<|an (s:=.row _) rfl<|dn<|aj ?_
 obtain rfl:=O tN
 exact⟨.inr rfl,_,.tmp rfl,rfl⟩
theorem tQ{x0:Nat}{r:Int}(h:fe x0=some r):Pure Tryz.prog 112 [.v (.int .u32 ((x0:Nat):Int))] (.v (.int .i64 r)):=by
 refine aq Tryz.func112 rfl (Nat.le_of_ble_eq_true rfl) (fun c9 M vs hvs=>?_)
 unfold fe at h
 refine sr<|ag rfl<|dn<|qq<|sr<|mv rfl<|lE h fun x4 h4 h=>ge _ rfl rfl (leN (p:=65536) (q:=x0) h4)<|dn ?_
 refine aC h (fun j2=>AS.bL 19 [(0,.sv (.v (.int .u32 ((j2.1:Nat):Int)))),(2,.sv (.v (.int .i64 j2.2)))] [] []) (fun h=>?_) (fun j2 h=>?_)
 cases x4
 exact fs<|⟨(x0,0),(F h),wR []⟩
 exact cT<|sr<|mv rfl<|lE (V h) fun x6 h6 h=>RT.shr .none _ rfl rfl T (by decide) (yZ (k:=.u32) (a:=x0) (q:=16) (s:=16) rfl h6)<|ag rfl<|dn<|af<|ag rfl<|dn<|⟨(x6,16),h,wR []⟩
 obtain⟨Fz,Na⟩:=j2
 try dsimp only
 refine ae.n<|qq<|sr<|mv rfl<|lE h fun x8 h8 h=>ge _ rfl rfl (leN (p:=256) (q:=Fz) h8)<|dn ?_
 refine aC h (fun j4=>AS.bL 19 [(0,.sv (.v (.int .u32 ((j4.1:Nat):Int)))),(2,.sv (.v (.int .i64 j4.2)))] [] []) (fun h=>?_) (fun j4 h=>?_)
 cases x8
 exact fs<|⟨(Fz,Na),(F h),wR []⟩
 exact cT<|sr<|mv rfl<|lE (V h) fun eG gG h=>RT.shr .none _ rfl rfl T (by decide) (yZ (k:=.u32) (a:=Fz) (q:=8) (s:=8) rfl gG)<|ag rfl<|dn<|af<|mv rfl<|lE h fun dA gX h=>ad _ rfl rfl gX<|ag rfl<|dn<|⟨(eG,dA),h,wR []⟩
 obtain⟨Vq,Vr⟩:=j4
 try dsimp only
 refine ae.n<|sr<|mv rfl<|mv rfl<|lE h fun jq nK h=>cv _ rfl (UK.nat nK)<|bE h fun ek jz h=>?_
 refine RT.six (l:=[0,1,2,2,3,3,3,3,4,4,4,4,4,4,4,4,5,5,5,5,5,5,5,5,5,5,5,5,5,5,5,5,6,6,6,6,6,6,6,6,6,6,6,6,6,6,6,6,6,6,6,6,6,6,6,6,6,6,6,6,6,6,6,6,7,7,7,7,7,7,7,7,7,7,7,7,7,7,7,7,7,7,7,7,7,7,7,7,7,7,7,7,7,7,7,7,7,7,7,7,7,7,7,7,7,7,7,7,7,7,7,7,7,7,7,7,7,7,7,7,7,7,7,7,7,7,7,7,8,8,8,8,8,8,8,8,8,8,8,8,8,8,8,8,8,8,8,8,8,8,8,8,8,8,8,8,8,8,8,8,8,8,8,8,8,8,8,8,8,8,8,8,8,8,8,8,8,8,8,8,8,8,8,8,8,8,8,8,8,8,8,8,8,8,8,8,8,8,8,8,8,8,8,8,8,8,8,8,8,8,8,8,8,8,8,8,8,8,8,8,8,8,8,8,8,8,8,8,8,8,8,8,8,8,8,8,8,8,8,8,8,8,8,8,8,8,8,8,8,8,8,8,8,8,8,8]) .none rfl rfl T jz ?_
 refine lE h fun dI iW h=>cv _ rfl iW<|lE h fun dQ iN h=>ad _ rfl rfl iN<|ag rfl<|dn<|aj ?_
 obtain rfl:=O h
 exact R1 rfl
theorem mE{x0:Nat}{r:Int}(h:cr x0=some r):Pure Tryz.prog 103 [.v (.int .u32 ((x0:Nat):Int))] (.v (.int .i64 r)):=by
 refine aq Tryz.func103 rfl (Nat.le_of_ble_eq_true rfl) (fun c9 M vs hvs=>?_)
 unfold cr at h
 refine sr<|ag rfl<|dn<|sr<|mv rfl<|bE h fun x4 h4 h=>cl (tQ h4) ⟨rfl,trivial⟩<|lE h fun x5 h5 h=>sb _ rfl rfl h5<|ag rfl<|dn<|aj ?_
 obtain rfl:=O h
 exact R1 rfl
theorem vf{x0:List Nat}{o0:Nat}{n0:Nat}{x1:List Nat}{r:Nat×List Nat}(h:fX x0 o0 n0 x1=some r):Fk Tryz.prog 105 [.lS 1000 (o0*1) n0,.sv (slc 1 (List.map ah x1))] (TR 69 1 ah x0) (.sv (.v (.int .u64 ((r.1:Nat):Int)))) (List.flatMap ah r.2):=by
 refine tg Tryz.func105 rfl (Nat.le_of_ble_eq_true rfl) rfl rfl (fun c9 M v0=>?_)
 unfold fX at h
 refine sr<|ag rfl<|dn<|sr<|mv rfl<|lE h fun dA gX h=>ln rfl gX<|ag rfl<|dn<|qq<|ai mixed<|mo (s:=.lS _ _ _) rfl<|mv rfl<|bE h fun jq nK h=>RT.DM .none rfl rfl T nK<|bE h fun ek jz h=>lR rfl rfl jz rfl<|lE h fun dI iW h=>cv _ rfl (UK.nat iW)<|lE h fun dQ iN h=>RT.shl .none _ rfl rfl T (by decide) (UK.shl (a:=dI) (q:=32) (s:=32) rfl iN)<|mo (s:=.lS _ _ _) rfl ?_
 refine mv rfl<|lE h fun ij mX h=>sb _ rfl rfl mX<|bE h fun gR lj h=>RT.DM .none rfl rfl T lj<|bE h fun ig mB h=>lR rfl rfl mB rfl<|lE h fun dR lQ h=>cv _ rfl (UK.nat lQ)<|lE h fun nH om h=>RT.or .none _ rfl rfl T (UK.or (a:=dQ) (b:=dR) om)<|ag rfl ?_
 refine RT.done ⟨by kernel_rfl,?_⟩
 refine ae.n<|qq<|ai mixed<|mv rfl<|mv rfl<|lE h fun jR ru h=>sb _ rfl rfl ru<|bE h fun gx kW h=>ix rfl rfl kW<|lr rfl rfl<|lE h fun lU sV h=>cv _ rfl (UK.nat sV)<|mv rfl<|mv rfl<|lE h fun lW qH h=>sb _ rfl rfl qH<|bE h fun pH AH h=>ix rfl rfl AH<|lr rfl rfl<|lE h fun qG xR h=>cv _ rfl (UK.nat xR)<|ag rfl<|ag rfl ?_
 refine RT.done ⟨by kernel_rfl,?_⟩
 refine ae.n<|qq<|ai mixed<|mv rfl<|mv rfl<|bE h fun mO sx h=>RT.quo .none _ rfl rfl T (nzU sx) (UK.quo sx)<|mv rfl<|mv rfl<|bE h fun xN GX h=>RT.rem .none _ rfl rfl T (nzR GX) (MX GX)<|ag rfl<|ag rfl ?_
 refine RT.done ⟨by kernel_rfl,?_⟩
 refine ae.n<|qq<|bE h fun DV tJ oh=>?_
 refine aP (fun(Iz:Nat)=>AS.bL 71 [(9,.sv (.v (.int .u64 ((Iz:Nat):Int))))] [] [(1000,TR 69 1 ah x0)]) (fun Iz=>Iz=DV) ?_ (fun Iz tK=>?_)
 refine ax ?_
 refine aQ tJ (fun oG=>AS.bL 71 [(0,.lS 1000 (o0*1) n0),(5,.sv (.v (.int .i64 dA))),(7,.sv (.v (.int .u64 ((lU:Nat):Int)))),(8,.sv (.v (.int .u64 ((qG:Nat):Int)))),(9,.sv (.v (.int .u64 ((oG.1:Nat):Int)))),(10,.sv (.v (.int .u64 ((oG.2:Nat):Int))))] [] [(1000,TR 69 1 ah x0)]) (wR []) (fun oG RN RO h tL sH=>?_)
 obtain⟨AF,Bi⟩:=oG
 try dsimp only
 refine qq<|qq ?_
 refine aC h (fun Ng=>AS.bL 71 [(0,.lS 1000 (o0*1) n0),(5,.sv (.v (.int .i64 dA))),(7,.sv (.v (.int .u64 ((lU:Nat):Int)))),(8,.sv (.v (.int .u64 ((qG:Nat):Int)))),(9,.sv (.v (.int .u64 ((AF:Nat):Int)))),(10,.sv (.v (.int .u64 ((Bi:Nat):Int)))),(61,.sv (.v (.bool Ng)))] [] [(1000,TR 69 1 ah x0)]) (fun h=>?_) (fun FA h=>?_)
 refine af<|mv rfl<|lE h fun Bh FK h=>RT.shr .none _ rfl rfl T (by decide) (yZ (k:=.u64) (a:=AF) (q:=32) (s:=32) rfl FK)<|lE h fun rm h46 h=>ne _ rfl rfl (Ue (p:=Bh) (q:=0) h46)<|mv rfl<|bE h fun J7 dO h=>?_
 cases rm
 refine gm rfl<|gm rfl<|lE (F dO) fun tB Co dO=>RT.mul (.some rfl rfl) _ rfl rfl T (UK.mul (a:=AF) (b:=qG) Co)<|gm rfl<|lE dO fun xO IF dO=>RT.shl (.some rfl rfl) _ rfl rfl T (by decide) (UK.shl (a:=Bi) (q:=32) (s:=32) rfl IF)<|RT.move (.some rfl rfl) (s:=.lS _ _ _) rfl T<|gm rfl<|lE dO fun Nb R8 dO=>RT.sub (.some rfl rfl) _ rfl rfl T R8<|bE dO fun M9 R7 dO=>RT.DM (.some rfl rfl) rfl rfl T R7<|bE dO fun Vo VK dO=>RT.Vc (.some rfl rfl) rfl rfl VK rfl T ?_
 refine lE dO fun Nc VN dO=>RT.conv (.some rfl rfl) _ rfl T (UK.nat VN)<|lE dO fun J4 VL dO=>RT.or (.some rfl rfl) _ rfl rfl T (UK.or (a:=xO) (b:=Nc) VL)<|lE dO fun DQ IG dO=>gg _ rfl rfl (O1 (p:=J4) (q:=tB) IG) ?_
 obtain rfl:=O dO
 exact pF rfl<|dn<|⟨DQ,h,wR []⟩
 obtain rfl:=O (V dO)
 exact ww<|ww<|ww<|ww<|ww<|ww<|ww<|ww<|ww<|ww<|ww<|ww<|ww<|pT rfl<|dn<|⟨true,h,wR []⟩
 try dsimp only
 refine ae.n ?_
 cases FA
 refine cF<|aW<|ae.x<|ae.x<|aG.x<|ae.n ?_
 obtain rfl:=O (F h)
 exact⟨AF,sH _ rfl,wR []⟩
 refine cT<|aE<|ae.n<|ax<|sr<|mv rfl<|lE (V h) fun O6 h63 h=>sb _ rfl rfl (UK.sub (a:=AF) (b:=1) h63)<|ag rfl<|dn<|sr<|mv rfl<|mv rfl<|lE h fun Jh VO h=>ad _ rfl rfl (UK.add (a:=Bi) (b:=lU) VO)<|ag rfl<|dn<|sr<|mv rfl<|lE h fun GR Ni h=>RT.shr .none _ rfl rfl T (by decide) (yZ (k:=.u64) (a:=Jh) (q:=32) (s:=32) rfl Ni)<|lE h fun x69 h69 h=>ne _ rfl rfl (Ue (p:=GR) (q:=0) h69) ?_
 refine dn ?_
 cases x69
 refine cF<|aE<|aG.n ?_
 obtain rfl:=O (F h)
 exact ae.n ⟨(O6,Jh),tL _ rfl,wR []⟩
 refine cT<|aW<|aG.y (by decide)<|ae.x<|aG.x<|ae.n ?_
 obtain rfl:=O (V h)
 exact⟨O6,sH _ rfl,wR []⟩
 subst tK
 try dsimp only
 refine ae.n<|sr<|mv rfl<|ag rfl<|dn<|aj<|bE oh fun _ hle oh=>?_
 obtain rfl:=O oh
 exact⟨.inr rfl,.sv (cg (.tmp rfl (.nil)) (SV.aa _)),(by show _=jK.live ⟨69,1,x0.length,List.flatMap ah x0⟩;rw[←kK hle];rfl)⟩
theorem nL{x0:List Nat}{o0:Nat}{n0:Nat}{x1:List Nat}{x2:Nat}{r:Bool×List Nat}(h:b9 x0 o0 n0 x1 x2=some r):Fk Tryz.prog 106 [.lS 1000 (o0*1) n0,.sv (slc 1 (List.map ah x1)),.sv (.v (.int .u64 ((x2:Nat):Int)))] (TR 69 1 ah x0) (.sv (.v (.bool r.1))) (List.flatMap ah r.2):=by
 refine tg Tryz.func106 rfl (Nat.le_of_ble_eq_true rfl) rfl rfl (fun c9 M v0=>?_)
 unfold b9 at h
 refine sr<|ag rfl<|dn<|sr<|ag rfl<|dn<|sr<|RT.uR .none (cE 0) rfl ⟨rfl,trivial⟩ T rfl rfl<|an (s:=.eV _ _) rfl<|dn<|qq<|sr<|mo (s:=.lS _ _ _) rfl<|lE h fun gp kU h=>RT.Rq .none rfl T kU<|mv rfl<|dn<|bE h fun IB Kk mY=>?_
 refine aP (fun(ry:Nat×(List Nat))=>AS.bL 51 [(7,.sv (.v (.int .u64 ((ry.1:Nat):Int))))] [] [(1000,TR 69 1 ah ry.2)]) (fun ry=>ry=IB) ?_ (fun ry Kl=>?_)
 refine ax ?_
 refine aQ Kk (fun yj=>AS.bL 51 [(0,.lS 1000 (o0*1) n0),(1,.sv (slc 1 (List.map ah x1))),(2,.sv (.v (.int .u64 ((x2:Nat):Int)))),(7,.sv (.v (.int .u64 ((yj.1:Nat):Int)))),(8,.eV 107 [.box 12]),(14,.sv (.v (.int .i64 gp))),(15,.sv (.v (.int .i64 yj.2.1)))] [(12,⟨86,[.sv (.v (.int .u64 ((yj.2.2.1:Nat):Int)))]⟩)] [(1000,TR 69 1 ah yj.2.2.2)]) (wR []) (fun yj y12 G12 h Km II=>?_)
 obtain⟨IA,uX,Ce,su⟩:=yj
 try dsimp only
 refine sr<|lE h fun ek jz h=>ls _ rfl rfl jz<|dn<|qq ?_
 cases ek
 refine cF<|aW<|ae.x<|ae.x<|aG.x<|ae.n ?_
 obtain rfl:=O (F h)
 exact⟨(IA,su),II _ rfl,wR []⟩
 refine cT<|aE<|ae.n<|qq<|ax<|sr<|mv rfl<|ag rfl<|dn<|sr<|ag rfl<|dn<|qq<|sr<|mv rfl<|mv rfl<|lE (V h) fun gQ kE h=>ln rfl kE<|lE h fun ij mX h=>ls _ rfl rfl mX<|dn ?_
 refine aC h (fun Pd=>AS.bL 51 [(0,.lS 1000 (o0*1) n0),(1,.sv (slc 1 (List.map ah x1))),(2,.sv (.v (.int .u64 ((x2:Nat):Int)))),(7,.sv (.v (.int .u64 ((IA:Nat):Int)))),(8,.eV 107 [.box 12]),(9,.sv (.v (.int .i64 uX))),(10,.sv (.v (.int .u64 ((Pd:Nat):Int)))),(14,.sv (.v (.int .i64 gp))),(15,.sv (.v (.int .i64 uX)))] [(12,⟨86,[.sv (.v (.int .u64 ((Ce:Nat):Int)))]⟩)] [(1000,TR 69 1 ah su)]) (fun h=>?_) (fun J8 h=>?_)
 cases ij
 exact fs<|⟨0,(F h),wR []⟩
 exact cT<|af<|mv rfl<|mv rfl<|bE (V h) fun dR lQ h=>ix rfl rfl lQ<|lr rfl rfl<|lE h fun gu mD h=>cv _ rfl (UK.nat mD)<|mv rfl<|lE h fun jR ru h=>RT.mul .none _ rfl rfl T (UK.mul (a:=gu) (b:=x2) ru)<|ag rfl<|dn<|⟨jR,h,wR []⟩
 try dsimp only
 refine ae.n<|qq<|ai mixed<|mo (s:=.lS _ _ _) rfl<|mv rfl<|bE h fun lU sV h=>RT.DM .none rfl rfl T sV<|bE h fun iu lY h=>lR rfl rfl lY rfl<|lE h fun iZ mu h=>cv _ rfl (UK.nat mu)<|mo (s:=.eV _ _) rfl<|mv rfl ?_
 obtain⟨⟨oH,k16⟩,qI,h⟩:=bS h
 refine cB (aY qI) 12 rfl ⟨rfl,trivial⟩<|lE h fun qG xR h=>cv _ rfl (UK.nat xR)<|lE h fun oa zw h=>sb _ rfl rfl (UK.sub (a:=iZ) (b:=qG) zw)<|mv rfl<|lE h fun mO sx h=>sb _ rfl rfl (UK.sub (a:=oa) (b:=IA) sx)<|ag rfl ?_
 refine RT.done ⟨by kernel_rfl,?_⟩
 refine ae.n<|sr<|mo (s:=.lS _ _ _) rfl<|mv rfl<|mv rfl<|lE h fun AG FL h=>cv _ rfl (UK.nat FL)<|bE h fun Bh FK h=>RT.DM .none rfl rfl T FK<|bE h fun l18 VP h=>sR AG rfl rfl rfl rfl VP<|dn<|af<|mv rfl<|lE h fun As DW h=>RT.shr .none _ rfl rfl T (by decide) (yZ (k:=.u64) (a:=mO) (q:=63) (s:=63) rfl DW)<|ag rfl<|RT.done<|aG.n<|ae.n<|af<|lE h fun wo h48 h=>ad _ rfl rfl h48<|mv rfl<|RT.done ?_
 obtain rfl:=O h
 exact ae.n ⟨(As,wo,k16,l18),Km _ rfl,wR []⟩
 subst Kl
 obtain⟨J9,uY⟩:=ry
 try dsimp only
 refine ae.n<|sr<|mv rfl<|lE mY fun tB Co mY=>ne _ rfl rfl (Ue (p:=J9) (q:=0) Co)<|ag rfl<|dn<|aj<|bE mY fun _ hle mY=>?_
 obtain rfl:=O mY
 exact⟨.inr rfl,.sv (cg (.tmp rfl (.nil)) (SV.aa _)),(by show _=jK.live ⟨69,1,x0.length,List.flatMap ah uY⟩;rw[←kK hle];rfl)⟩
set_option maxHeartbeats 4000000 in
theorem wE{x0:List Nat}{x1:List Nat}{r:(List Nat)×(List Nat)}(h:gV x0 x1=some r):Pure Tryz.prog 87 [slc 1 (List.map ah x0),slc 1 (List.map ah x1)] (.w6 [slc 1 (List.map ah r.1),slc 1 (List.map ah r.2)]):=by
 refine aq Tryz.func87 rfl (Nat.le_of_ble_eq_true rfl) (fun c9 M vs hvs=>?_)
 unfold gV at h
 refine sr<|ag rfl<|ag rfl<|dn<|bq (eY 4 306 69 1 rfl rfl T)<|bq (eY 5 308 69 1 rfl rfl T)<|sr<|mv rfl<|lE h fun dI iW h=>ln rfl iW<|ag rfl<|dn<|sr<|mv rfl<|mv rfl<|lE h fun gQ kE h=>sb _ rfl rfl kE<|bE h fun ij mX h=>ix rfl rfl mX<|lr rfl rfl<|bE h fun ig mB h=>cl (mE mB) ⟨rfl,trivial⟩ ?_
 refine lE h fun dR lQ h=>cv _ rfl (UK.conv lQ)<|ag rfl<|dn<|qq<|ai mixed<|mv rfl<|mv rfl<|bE h fun jr nI h=>cN (sI nI) ⟨rfl,rfl,trivial⟩<|mv rfl<|mv rfl<|bE h fun qm vc h=>cl (tO vc) ⟨rfl,rfl,trivial⟩<|mv rfl<|bE h fun iu lY h=>RT.Ft .none 0 dI rfl rfl ⟨_,rfl⟩ T lY<|an (s:=.row _) rfl<|ag rfl ?_
 refine RT.done ⟨by kernel_rfl,?_⟩
 refine ae.n<|sr<|mv rfl<|lE h fun lW qH h=>ln rfl qH<|mv rfl<|lE h fun oH qI h=>sb _ rfl rfl qI<|lE h fun qG xR h=>ad _ rfl rfl xR<|bE h fun oa zw h=>RT.uU (n:=1) (e:=ah) .none rfl rfl T rfl T (by rfl) (by decide) (by exact⟨SV.aa _,trivial⟩) zw<|an (s:=.row _) rfl<|dn<|qq<|sr<|mv rfl<|lE h fun mO sx h=>ln rfl sx<|mv rfl<|lE h fun oc zx h=>sb _ rfl rfl zx ?_
 refine ag rfl<|dn<|bE h fun e36 adB R9=>?_
 refine aP (fun(IJ:(List Nat)×(List Nat))=>AS.bL 141 [(4,.row 38),(6,.sv (.v (.int .i64 dI))),(7,.sv (.v (.int .u64 ((dR:Nat):Int)))),(8,.row 27)] [] [(38,TR 69 1 ah IJ.1),(27,TR 69 1 ah IJ.2)]) (fun IJ=>IJ=e36) ?_ (fun IJ adC=>?_)
 refine ax ?_
 refine aQ adB (fun Rw=>AS.bL 141 [(4,.row 38),(6,.sv (.v (.int .i64 dI))),(7,.sv (.v (.int .u64 ((dR:Nat):Int)))),(8,.row 27),(9,.sv (slc 1 (List.map ah iu))),(10,.sv (.v (.int .i64 Rw.1)))] [] [(38,TR 69 1 ah Rw.2.1),(27,TR 69 1 ah Rw.2.2)]) (wR []) (fun Rw y36 G36 h adD adE=>?_)
 obtain⟨iz,rq,tF⟩:=Rw
 try dsimp only
 refine qq<|sr<|mv rfl<|lE h fun AG FL h=>ge _ rfl rfl FL<|dn ?_
 cases AG
 refine cF<|aW<|ae.x<|ae.x<|aG.x<|ae.n ?_
 obtain rfl:=O (F h)
 exact⟨(rq,tF),adE _ rfl,wR []⟩
 refine cT<|aE<|ae.n<|qq<|ax<|sr<|mo (s:=.row _) rfl<|mv rfl<|mv rfl<|mv rfl<|lE (V h) fun E6 IE h=>ad _ rfl rfl IE<|lE h fun xO IF h=>ad _ rfl rfl IF ?_
 obtain⟨⟨o53,n53⟩,h53,h⟩:=bS h
 refine RT.Vg .none iz xO rfl rfl ⟨_,rfl⟩ ⟨_,rfl⟩ T h53<|mv rfl ?_
 obtain⟨⟨Nb,Rx⟩,R8,h⟩:=bS h
 refine bE h fun _ adG h=>cR (l:=tF) (l':=Rx) (e:=ah) (vf R8) (kK adG) 27 rfl (.cons rfl (.cons rfl (.nil)))<|ag rfl<|dn<|qq<|sr<|mo (s:=.row _) rfl<|mv rfl<|mv rfl<|mv rfl<|lE h fun DQ IG h=>ad _ rfl rfl IG<|lE h fun Ru h61 h=>ad _ rfl rfl h61 ?_
 obtain⟨⟨o62,n62⟩,VQ,h⟩:=bS h
 refine RT.Vg .none iz Ru rfl rfl ⟨_,rfl⟩ ⟨_,rfl⟩ T VQ<|mv rfl<|mv rfl ?_
 obtain⟨⟨Mw,Uh⟩,Pe,h⟩:=bS h
 refine bE h fun _ adH h=>cR (l:=Rx) (l':=Uh) (e:=ah) (nL Pe) (kK adH) 27 rfl (.cons rfl (.cons rfl (.cons rfl (.nil))))<|dn ?_
 refine aC h (fun Ui=>AS.bL 141 [(4,.row 38),(6,.sv (.v (.int .i64 dI))),(7,.sv (.v (.int .u64 ((dR:Nat):Int)))),(8,.row 27),(9,.sv (slc 1 (List.map ah iu))),(10,.sv (.v (.int .i64 iz))),(11,.sv (.v (.int .u64 ((Ui.1:Nat):Int))))] [] [(38,TR 69 1 ah rq),(27,TR 69 1 ah Ui.2)]) (fun h=>?_) (fun Ui h=>?_)
 cases Mw
 exact fs<|⟨(Nb,Uh),(F h),wR []⟩
 refine cT<|sr<|mv rfl<|lE (V h) fun O7 h67 h=>sb _ rfl rfl (UK.sub (a:=Nb) (b:=1) h67)<|ag rfl<|dn<|sr<|RT.uR .none (cE 0) rfl ⟨rfl,trivial⟩ T rfl rfl<|an (s:=.eV _ _) rfl<|dn<|qq<|sr<|mv rfl<|lE h fun x70 h70 h=>ln rfl h70<|mv rfl<|dn<|bE h fun e65 adJ rz=>?_
 refine aP (fun(IK:Nat×(List Nat))=>AS.bL 141 [(4,.row 38),(6,.sv (.v (.int .i64 dI))),(7,.sv (.v (.int .u64 ((dR:Nat):Int)))),(8,.row 27),(9,.sv (slc 1 (List.map ah iu))),(10,.sv (.v (.int .i64 iz))),(11,.sv (.v (.int .u64 ((O7:Nat):Int)))),(12,.eV 107 [.box 68])] [(68,⟨86,[.sv (.v (.int .u64 ((IK.1:Nat):Int)))]⟩)] [(38,TR 69 1 ah rq),(27,TR 69 1 ah IK.2)]) (fun IK=>IK=e65) ?_ (fun IK adK=>?_)
 refine ax ?_
 refine aQ adJ (fun Rz=>AS.bL 141 [(4,.row 38),(6,.sv (.v (.int .i64 dI))),(7,.sv (.v (.int .u64 ((dR:Nat):Int)))),(8,.row 27),(9,.sv (slc 1 (List.map ah iu))),(10,.sv (.v (.int .i64 iz))),(11,.sv (.v (.int .u64 ((O7:Nat):Int)))),(12,.eV 107 [.box 68]),(69,.sv (slc 1 (List.map ah iu))),(70,.sv (.v (.int .i64 x70))),(71,.sv (.v (.int .i64 Rz.1)))] [(68,⟨86,[.sv (.v (.int .u64 ((Rz.2.1:Nat):Int)))]⟩)] [(38,TR 69 1 ah rq),(27,TR 69 1 ah Rz.2.2)]) (wR []) (fun Rz y65 G65 h adL adM=>?_)
 obtain⟨wv,uZ,tG⟩:=Rz
 try dsimp only
 refine sr<|lE h fun RA Sa h=>ls _ rfl rfl Sa<|dn<|qq ?_
 cases RA
 refine cF<|aW<|ae.x<|ae.x<|aG.x<|ae.n ?_
 obtain rfl:=O (F h)
 exact⟨(uZ,tG),adM _ rfl,wR []⟩
 refine cT<|aE<|ae.n<|qq<|ax<|sr<|mv rfl<|bE (V h) fun Nd VR h=>ix rfl rfl VR<|lr rfl rfl<|ag rfl<|ag rfl<|dn<|af<|mo (s:=.row _) rfl<|mv rfl<|mv rfl<|lE h fun x79 h79 h=>ad _ rfl rfl h79<|mo (s:=.eV _ _) rfl<|mo (s:=.row _) rfl<|mv rfl<|mv rfl<|lE h fun x84 h84 h=>ad _ rfl rfl h84<|bE h fun Vu VS h=>iR rfl rfl rfl VS ?_
 refine bE h fun Kb h86 h=>lR rfl rfl h86 rfl<|lE h fun RB VT h=>cv _ rfl (UK.nat VT)<|mv rfl<|lE h fun x89 h89 h=>cv _ rfl (UK.nat h89)<|lE h fun Nf VU h=>ad _ rfl rfl (UK.add (a:=RB) (b:=x89) VU) ?_
 obtain⟨⟨Kc,k68⟩,Sb,h⟩:=bS h
 refine cB (aY Sb) 68 rfl ⟨rfl,trivial⟩<|bE h fun x92 h92 h=>iR rfl rfl rfl h92<|bE h fun l69 VV h=>sR Kc rfl rfl rfl rfl VV<|RT.done<|aG.n<|ae.n<|af<|lE h fun RC h93 h=>ad _ rfl rfl h93<|mv rfl<|RT.done ?_
 obtain rfl:=O h
 exact ae.n ⟨(RC,k68,l69),adL _ rfl,wR []⟩
 subst adK
 obtain⟨DR,zg⟩:=IK
 try dsimp only
 refine ae.n<|af<|mo (s:=.row _) rfl<|mv rfl<|mv rfl<|lE rz fun Vv VW rz=>ad _ rfl rfl VW<|mo (s:=.eV _ _) rfl<|mo (s:=.row _) rfl<|mv rfl<|mv rfl<|lE rz fun FC Kn rz=>ad _ rfl rfl Kn<|bE rz fun Vw Sc rz=>iR rfl rfl rfl Sc<|bE rz fun zh Ko rz=>lR rfl rfl Ko rfl<|lE rz fun IC Se rz=>cv _ rfl (UK.nat Se) ?_
 obtain⟨⟨FD,k72⟩,Sf,rz⟩:=bS rz
 exact cB (aY Sf) 68 rfl ⟨rfl,trivial⟩<|bE rz fun Vx adP rz=>iR rfl rfl rfl adP<|bE rz fun l73 VX rz=>sR FD rfl rfl rfl rfl VX<|dn<|⟨(O7,l73),rz,wR []⟩
 obtain⟨Ka,FB⟩:=Ui
 try dsimp only
 refine ae.n<|af<|mo (s:=.row _) rfl<|mv rfl<|mv rfl<|lE h fun Ry adQ h=>cv _ rfl (UK.nat adQ)<|bE h fun Vt adR h=>iR rfl rfl rfl adR<|bE h fun l55 VY h=>sR Ry rfl rfl rfl rfl VY<|RT.done<|aG.n<|ae.n<|af<|mv rfl<|lE h fun rm h46 h=>sb _ rfl rfl h46<|ag rfl<|RT.done ?_
 obtain rfl:=O h
 exact ae.n ⟨(rm,l55,FB),adD _ rfl,wR []⟩
 subst adC
 obtain⟨zj,wz⟩:=IJ
 try dsimp only
 refine ae.n<|sr<|mv rfl<|bE R9 fun wA Kp R9=>RT.uU (n:=1) (e:=ah) .none rfl rfl T rfl T (by rfl) (by decide) (by exact⟨SV.aa _,trivial⟩) Kp<|an (s:=.row _) rfl<|dn<|qq<|sr<|mv rfl<|mv rfl<|dn<|bE R9 fun e81 adS adT=>?_
 refine aP (fun(pS:(List Nat))=>AS.bL 141 [(4,.row 38),(5,.row 114)] [] [(38,TR 69 1 ah zj),(114,TR 69 1 ah pS)]) (fun pS=>pS=e81) ?_ (fun pS adU=>?_)
 refine ax ?_
 refine aQ adS (fun Uj=>AS.bL 141 [(4,.row 38),(5,.row 114),(7,.sv (.v (.int .u64 ((dR:Nat):Int)))),(8,.row 27),(115,.sv (.v (.int .i64 dI))),(116,.sv (.v (.int .i64 Uj.1)))] [] [(38,TR 69 1 ah zj),(114,TR 69 1 ah Uj.2),(27,TR 69 1 ah wz)]) (wR []) (fun Uj y81 G81 h adV adW=>?_)
 obtain⟨sw,u0⟩:=Uj
 try dsimp only
 refine sr<|lE h fun RE adX h=>ls _ rfl rfl adX<|dn<|qq ?_
 cases RE
 refine cF<|aW<|ae.x<|ae.x<|aG.x<|ae.n ?_
 obtain rfl:=O (F h)
 exact⟨u0,adW _ rfl,wR []⟩
 refine cT<|aE<|ae.n<|qq<|ax<|sr<|mv rfl<|ag rfl<|dn<|ai mixed<|mo (s:=.row _) rfl<|mv rfl<|mo (s:=.row _) rfl<|mv rfl<|bE (V h) fun Vy adY h=>iR rfl rfl rfl adY<|bE h fun Vz adZ h=>lR rfl rfl adZ rfl<|lE h fun RF ad0 h=>cv _ rfl (UK.nat ad0)<|mo (s:=.row _) rfl<|mv rfl<|lE h fun VA h128 h=>ad _ rfl rfl h128<|bE h fun VB ad1 h=>?_
 refine iR rfl rfl rfl ad1<|bE h fun VC ad2 h=>lR rfl rfl ad2 rfl<|lE h fun RG ad3 h=>cv _ rfl (UK.nat ad3)<|lE h fun RH ad4 h=>RT.shl .none _ rfl rfl T (by decide) (UK.shl (a:=RG) (q:=32) (s:=32) rfl ad4)<|lE h fun RI ad5 h=>RT.or .none _ rfl rfl T (UK.or (a:=RF) (b:=RH) ad5)<|mv rfl<|lE h fun VD ad6 h=>RT.shr .none _ rfl rfl T (Int.natCast_nonneg _) (yZ (k:=.u64) (a:=RI) (q:=((dR:Nat):Int)) (s:=min dR 64) rfl ad6)<|lE h fun RJ ad7 h=>cv _ rfl (UK.nat ad7) ?_
 refine bE h fun VE ad8 h=>iR rfl rfl rfl ad8<|bE h fun l83 VZ h=>sR RJ rfl rfl rfl rfl VZ ?_
 refine RT.done ⟨by kernel_rfl,?_⟩
 refine aG.n<|ae.n<|af<|lE h fun RK ad9 h=>ad _ rfl rfl ad9<|mv rfl<|RT.done ?_
 obtain rfl:=O h
 exact ae.n ⟨(RK,l83),adV _ rfl,wR []⟩
 subst adU
 try dsimp only
 refine ae.n<|sr<|mo (s:=.row _) rfl<|mo (s:=.row _) rfl<|an (s:=.row _) rfl<|an (s:=.row _) rfl<|dn<|bq (b8 (i:=38) (E1:=69) (n:=1) (e:=ah) (l:=zj) rfl)<|bq (b8 (i:=114) (E1:=69) (n:=1) (e:=ah) (l:=pS) rfl)<|aj ?_
 obtain rfl:=O adT
 exact R2 rfl rfl
theorem nR{x0:List Nat}{x1:List Nat}{r:(List Nat)×(List Nat)}(h:eI x0 x1=some r):Pure Tryz.prog 61 [slc 1 (List.map ah x0),slc 1 (List.map ah x1)] (.w6 [slc 1 (List.map ah r.1),slc 1 (List.map ah r.2)]):=by
 refine aq Tryz.func61 rfl (Nat.le_of_ble_eq_true rfl) (fun c9 M vs hvs=>?_)
 unfold eI at h
 refine sr<|ag rfl<|aI rfl (imp_nil (n:=1) (e:=ah))<|dn<|bq (eY 4 304 69 1 rfl rfl T)<|qq<|ax<|sr<|mv rfl<|mv rfl<|bE h fun dA gX h=>cl (dG gX) ⟨rfl,rfl,trivial⟩<|lE h fun fE jy h=>ls _ rfl rfl jy<|ag rfl<|dn ?_
 cases fE
 refine cF<|sr<|mv rfl<|lE (F h) fun dQ iN h=>ln rfl iN<|lE h fun jL mW h=>RT.leq .none _ rfl rfl T mW<|ag rfl<|dn ?_
 cases jL
 refine cF<|sr<|mv rfl<|lE (F h) fun oH qI h=>ln rfl qI<|lE h fun qG xR h=>eq _ rfl rfl (oN (p:=oH) (q:=1) xR)<|ag rfl<|dn ?_
 cases qG
 refine cF<|aE<|aG.n<|ae.n<|sr<|mv rfl<|mv rfl ?_
 obtain⟨⟨VF,VG⟩,IF,h⟩:=bS (F h)
 refine cl (wE IF) ⟨rfl,rfl,trivial⟩<|ex rfl rfl<|ex rfl rfl<|ag rfl<|ag rfl<|dn<|aj ?_
 obtain rfl:=O h
 exact R2 rfl rfl
 refine cT<|sr<|mv rfl<|bE (V h) fun qN Ct h=>cN (wC Ct) ⟨rfl,trivial⟩<|an (s:=.row _) rfl<|dn<|sr<|mo (s:=.row _) rfl<|mv rfl<|bE h fun oc zx h=>ix rfl rfl zx<|lr rfl rfl<|lE h fun AG FL h=>cv _ rfl (UK.nat FL) ?_
 obtain⟨⟨Bh,l5⟩,FK,h⟩:=bS h
 refine bE h fun _ he5 h=>cR (l:=qN) (l':=l5) (e:=ah) (ve FK) (kK he5) 39 rfl (.cons rfl (.cons rfl (.nil)))<|ag rfl<|dn<|sr<|mo (s:=.row _) rfl<|mv rfl<|lE h fun wo h48 h=>cv _ rfl (UK.nat h48)<|bl (l:=[wo]) (e:=ah) (.one rfl (.nil)) rfl rfl rfl rfl rfl rfl<|an (s:=.row _) rfl<|ag rfl<|dn<|bq (b8 (i:=39) (E1:=69) (n:=1) (e:=ah) (l:=l5) rfl)<|aj ?_
 refine aG.r<|ae.r ?_
 obtain rfl:=O h
 exact R2 rfl rfl
 refine cT<|sr<|mv rfl<|bE (V h) fun ij mX h=>cl (gI mX) ⟨rfl,trivial⟩<|mv rfl<|bE h fun ig mB h=>cl (gI mB) ⟨rfl,trivial⟩<|ag rfl<|ag rfl<|dn<|qq<|ai mixed<|mv rfl<|mv rfl<|bE h fun gu mD h=>RT.quo .none _ rfl rfl T (nzU mD) (UK.quo mD) ?_
 obtain⟨⟨nO,mQ⟩,nI,h⟩:=bS h
 refine cl (iB nI) ⟨rfl,rfl,trivial⟩<|fl rfl rfl<|mv rfl<|mv rfl<|bE h fun lU sV h=>RT.rem .none _ rfl rfl T (nzR sV) (MX sV) ?_
 obtain⟨⟨mR,mh⟩,lY,h⟩:=bS h
 refine cl (iB lY) ⟨rfl,rfl,trivial⟩<|fl rfl rfl<|ag rfl<|ag rfl ?_
 refine RT.done ⟨by kernel_rfl,?_⟩
 refine ae.n<|aj<|aG.r<|ae.r ?_
 obtain rfl:=O h
 exact R2 rfl rfl
 refine cT<|sr<|mv rfl<|bE (V h) fun jq nK h=>cl (lX nK) ⟨rfl,trivial⟩<|ag rfl<|ag rfl<|dn<|bq (eY 4 310 69 1 rfl rfl T)<|bq (b8 (i:=310) (E1:=69) (n:=1) (e:=ah) (l:=[]) rfl)<|aj<|aG.r<|ae.r ?_
 obtain rfl:=O h
 exact R2 rfl rfl
end Go.Proofs.YtmiflmkdaeianaaGreat
