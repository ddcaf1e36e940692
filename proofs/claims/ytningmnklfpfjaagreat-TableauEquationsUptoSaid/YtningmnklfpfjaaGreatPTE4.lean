/- A part of the proof: the framework, the plain functions, the followed functions, the plain laws. -/
import Derived.Test.YtningmnklfpfjaaGreatPTE3
set_option linter.unusedVariables false
set_option linter.unusedSimpArgs false
namespace Go.Fw
open Go.RowKit
def Mem.fr(M:Mem)(N:Nat):Mem:=fun b o=>if N≤b then M b o else none
theorem Mem.ZO(M:Mem)(N:Nat):(M.fr N).le M:=fun b o v h=>by
 unfold Mem.fr at h
 split at h
 ·exact h
 ·cases h
theorem Mem.J7{M M':Mem}(h:M.le M')(N:Nat):(M.fr N).le (M'.fr N):=fun b o v e=>by
 unfold Mem.fr at*
 split at e
 ·rename_i hn;rw[if_pos hn];exact h b o v e
 ·cases e
theorem Mem.Hv(M:Mem)(N:Nat):(M.fr N).fr N=M.fr N:=by
 funext b o;unfold Mem.fr;split<;>rfl
def nw(N:Nat)(s:SV):SV:=⟨fun M v=>s.h (M.fr N) v∧∀g,v.ownBlock=some g→∃o,M.fr N g o=some (.agg #[]),fun hM h=>⟨s.mono (Mem.J7 hM N) h.1,fun g e=>by obtain⟨o,q⟩:=h.2 g e;exact⟨o,Mem.J7 hM N _ _ _ q⟩⟩⟩
theorem eJ{N:Nat}{s:SV}:SV.imp (nw N s) s:=fun M _ h=>s.mono (Mem.ZO M N) h.1
instance{N:Nat}{s:SV}{n:Nat}[h:XN s n]:XN (nw N s) n:=⟨fun M v hv=>h.h M v (eJ M v hv)⟩
instance{N:Nat}{s:SV}{n:Nat}{rows:List (List SV)}[h:Qq s n rows]:Qq (nw N s) n rows:=⟨fun M v hv=>h.h M v (eJ M v hv)⟩
instance{N:Nat}{s:SV}{n sz:Nat}{f:Nat→Nat→SV}[h:Sub s n sz f]:Sub (nw N s) n sz (fun a b=>nw N (f a b)):=⟨fun M v hv=>by
 obtain⟨a,c,e,hc,hs⟩:=h.h (M.fr N) v hv.1
 refine⟨a,c,e,hc,fun lo hi h1 h2=>⟨hs lo hi h1 h2,fun g hg=>hv.2 g ?_⟩⟩
 subst e
 cases a with
 |none=>split at hg<;>cases hg
 |some a=>
  split at hg
  ·exact hg
  ·have e:(a.add (lo*sz)).block=a.block:=by unfold Addr.add;split<;>rfl
   rw[show(Value.slice (Option.map (fun x=>x.add (lo*sz)) (some a)) (hi-lo) (c-lo)).ownBlock=some (a.add (lo*sz)).block from rfl,e]at hg
   exact hg⟩
instance{N:Nat}{s:SV}[h:One s]:One (nw N s):=⟨fun M v hv=>h.h _ v hv.1⟩
class Sup (N:Nat) (s:SV):Prop where
 h:∀M v,s.h M v→s.h (M.fr N) v
instance{N:Nat}{x:Value}:Sup N (.v x):=⟨fun _ _ h=>h⟩
instance{N:Nat}{s:SV}:Sup N (nw N s):=⟨fun M v h=>by show s.h ((M.fr N).fr N) v∧∀g,v.ownBlock=some g→∃o,(M.fr N).fr N g o=some (.agg #[]);rw[Mem.Hv];exact h⟩
class Rb (N:Nat) (l:List SV):Prop where
 h:∀s∈l,∀M v,s.h M v→s.h (M.fr N) v
instance{N:Nat}:Rb N []:=⟨fun s h=>by cases h⟩
instance{N:Nat}{s:SV}{l:List SV}[a:Sup N s][b:Rb N l]:Rb N (s::l):=⟨fun t ht=>by
 rcases List.mem_cons.1 ht with rfl|ht
 ·exact a.h
 ·exact b.h t ht⟩
class CG (N:Nat) {α:Type} (e:α→List SV):Prop where
 h:∀x,Rb N (e x)
instance{N:Nat}:CG N ah:=⟨fun _=>inferInstance⟩
instance{N:Nat}:CG N bT:=⟨fun _=>inferInstance⟩
instance{N:Nat}:CG N eB:=⟨fun _=>inferInstance⟩
abbrev fZ(N:Nat)(z:Zr):List SV:=[.v (.bool z.neg),nw N (slc 1 (z.w.map ah))]
abbrev fQ(N:Nat)(q:Qr):List SV:=[.v (.bool q.num.neg),nw N (slc 1 (q.num.w.map ah)),.v (.bool q.den.neg),nw N (slc 1 (q.den.w.map ah))]
instance{N:Nat}:EL (fZ N) 2:=⟨fun _=>rfl,fun _=>inferInstance⟩
instance{N:Nat}:EL (fQ N) 4:=⟨fun _=>rfl,fun _=>inferInstance⟩
instance{N:Nat}:CG N (fZ N):=⟨fun _=>inferInstance⟩
instance{N:Nat}:CG N (fQ N):=⟨fun _=>inferInstance⟩
theorem aA{α:Type}{N n:Nat}{e:α→List SV}:SV.imp (.v (.slice none 0 0)) (nw N (slc n (([]:List α).map e))):=fun _ _ h=>⟨.inl ⟨none,h,rfl⟩,fun g e=>by rw[show _=Value.slice none 0 0 from h]at e;cases e⟩
theorem bQ.at:∀{l l':List SV},bQ l l'→∀(k:Nat) (s':SV),l'[k]? =some s'→∃s,l[k]? =some s∧SV.imp s s':=fun h _ _ e=>bQ.get h e
theorem J8{α:Type}{n:Nat}{e e':α→List SV}(h:∀x,bQ (e' x) (e x))(l:List α):SV.imp (slc n (l.map e')) (slc n (l.map e)):=by
 rintro M v (⟨a,h1,h2⟩|⟨b,o,c,h1,h2,h3,h4⟩)
 ·exact .inl ⟨a,h1,by have:=List.map_eq_nil_iff.1 h2;rw[this];rfl⟩
 ·refine .inr ⟨b,o,c,by simpa using h1,by simpa using h2,by simpa using h3,fun i row hr=>?_⟩
  rw[List.getElem?_map]at hr
  cases hx:l[i]? with
  |none=>rw[hx]at hr;cases hr
  |some x=>
   rw[hx]at hr
   have hr:e x=row:=Option.some.inj hr
   subst hr
   obtain⟨g1,g2⟩:=h4 i (e' x) (by rw[List.getElem?_map,hx];rfl)
   refine⟨by rw[bQ.len (h x)];exact g1,fun k s hs=>?_⟩
   obtain⟨s2,Dq,hi⟩:=bQ.get (h x) hs
   obtain⟨y,hy,ho,hh⟩:=g2 k s2 Dq
   exact⟨y,hy,ho,hi M y hh⟩
theorem qI(N:Nat)(q:Qr):bQ (fQ N q) (eQ q):=⟨SV.aa _,eJ,SV.aa _,eJ,trivial⟩
theorem X8{N:Nat}{l:List Qr}:SV.imp (nw N (slc 4 (l.map (fQ N)))) (slc 4 (l.map eQ)):=fun M v h=>J8 (qI N) l M v (eJ M v h)
theorem FD{N n:Nat}{α:Type}{e:α→List SV}[he:CG N e]{l:List α}{M:Mem}{v:Value}(h:(slc n (l.map e)).h M v)(hb:∀g,v.ownBlock=some g→N≤g∧∃o,M g o=some (.agg #[])):(nw N (slc n (l.map e))).h M v:=by
 refine⟨?_,fun g hg=>by obtain⟨h1,o,h2⟩:=hb g hg;exact⟨o,by unfold Mem.fr;rw[if_pos h1];exact h2⟩⟩
 rcases h with⟨a,h1,h2⟩|⟨b,o,c,h1,h2,h3,h4⟩
 ·exact .inl ⟨a,h1,h2⟩
 ·have hN:N≤b:=(hb b (by rw[h1];rfl)).1
  refine .inr ⟨b,o,c,h1,h2,h3,fun i row hr=>⟨(h4 i row hr).1,fun k s hs=>?_⟩⟩
  obtain⟨y,hy,ho,hh⟩:=(h4 i row hr).2 k s hs
  refine⟨y,by unfold Mem.fr;rw[if_pos hN];exact hy,ho,?_⟩
  rw[List.getElem?_map]at hr
  cases hx:l[i]? with
  |none=>rw[hx]at hr;cases hr
  |some x=>
   rw[hx]at hr
   have hr:e x=row:=Option.some.inj hr
   subst hr
   exact(he.h x).h s (List.mem_of_getElem? hs) M y hh
section
variable {P:Program}{C:Ctx}{S:AS}{Q:Exit→AS→Prop}
theorem az.Rc{E:Env}{a:Act}{w:World}(h:az C S E a w)(vs:List Value)(T:TypeId)(hone:∀v∈vs,v.oneCell'=true):az C S {E with M:=fun b o=>if b=w.heap.size then(vs++[.agg #[]])[o]? else E.M b o} a (w.alloc (.cells ⟨vs⟩ T)):=by
 have hno:∀o,E.M w.heap.size o=none:=fun o=>by
  cases e:E.M w.heap.size o with
  |none=>rfl
  |some v=>have:=nQ h.cM e;omega
 refine h.grow (fun b o v e=>?_) (fun b o v e=>?_) (fun b o v e=>?_) (((Below.refl _ _).alloc (Nat.le_refl _) _))
 ·have:b≠w.heap.size:=by rintro rfl;rw[hno o]at e;cases e
  simp[this,e]
 ·by_cases hb:b=w.heap.size
  ·exact .inr (by omega)
  ·simp only[if_neg hb]at e;exact .inl e
 ·by_cases hb:b=w.heap.size
  ·subst hb
   simp only[if_true]at e
   by_cases ho:o<vs.length
   ·rw[List.getElem?_append_left ho]at e
    refine .of ?_ (hone v (List.mem_of_getElem? e))
    rw[World.cell?_alloc_new];simpa using e
   ·rw[List.getElem?_append_right (by omega)]at e
    cases J3:o-vs.length with
    |succ k=>rw[J3]at e;simp at e
    |zero=>
     rw[J3]at e
     simp at e
     subst e
     exact⟨⟨vs⟩,T,by show(w.heap.push _)[w.heap.size]? =_;rw[Array.getElem?_push,if_pos rfl]⟩
  ·simp only[if_neg hb]at e
   refine(h.cM b o v e).same ?_
   show(w.heap.push _)[b]? =_
   rw[Array.getElem?_push,if_neg hb]
theorem iM{c:Code}{i n N:Nat}{E1:TypeId}{α:Type}{e:α→List SV}{l:List α}[el:EL e n][he:CG N e](hN:N≤C.w0.heap.size)(hb:∀k,¬C.vc k)(hR:S.r i=.live (TR E1 n e l))(hk:Ok P C c (S.nY i (nw N (slc n (l.map e)))) Q):Ok P C c S Q:=fun a w hs=>by
 obtain⟨E,h⟩:=hs
 have hlen:l.length≤9223372036854775807:=by
  obtain⟨⟨vs,ho,hv⟩,_⟩:=h.rx i _ hR
  rcases ho.2 with⟨_,q2⟩|⟨g',cap,cur,q1,_,q2,q3,q4,q5,q6⟩
  ·have q2:l.length=0:=q2
   omega
  ·have q3:l.length≤cap:=q3
   have:maxLen=9223372036854775807:=by decide
   omega
 exact hk a w (h.nY hR (qD l) (by rw[List.length_map]) hlen (mM l) (fun M v hv hg=>FD hv (fun g e=>⟨(hg g e).1.elim (fun q=>Nat.le_trans hN q) (fun q=>absurd q (hb g)),(hg g e).2⟩)))
def cJ(P:Program)(f:FuncId)(N:Nat)(args:List SV)(r:SV):Prop:=
 ∀(M:Mem) (w:World) (vs:List Value),N≤w.heap.size→M.cM w→SV.dR M args vs→
  Calls P f ⟨vs⟩ w fun e w'=>∃v M',e=.returned v∧M.le M'∧(∀b o x,M' b o=some x→M b o=some x∨w.heap.size≤b)∧M'.cM w'∧r.h M' v∧Below w.heap.size w w'
theorem cJ.w{f:FuncId}{N:Nat}{args args':List SV}{r:SV}(h:cJ P f N args r)(hi:bQ args' args):cJ P f N args' r:=fun M w vs hN hM hv=>h M w vs hN hM (hi.holds hv)
theorem aN{f:FuncId}{fn:Func}{code:Code}{N:Nat}{args:List SV}{r:SV}(hf:P.funcs[f]? =some fn)(hb:fn.body=some code)(hn:args.length≤fn.ntmps)
  (h:∀(w:World) (M:Mem) (vs:List Value),N≤w.heap.size→SV.dR M args vs→Ok P (Gx w M) code (AS.init fn.ntmps args) (fun e S=>(e=.normal∨e=.ret)∧Mi P S fn.results.toList r)):cJ P f N args r:=by
 intro M w vs hN hM hvs
 refine(callsIn_wide (n:=0)).1 (callsIn_of_wp_marks (F:=Fence.wide) hf hb trivial ?_)
 refine wpIn_mono (h w M vs hN hvs _ w ⟨_,kP hM hvs hn⟩) ?_
 rintro e a' w' ⟨S',⟨he,ss,Sr,himp⟩,E,hh⟩
 have key:LeavesInM Fence.wide 0 P fn a'.tmps (fun e w'=>∃v M',e=.returned v∧M.le M'∧(∀b o x,M' b o=some x→M b o=some x∨w.heap.size≤b)∧M'.cM w'∧r.h M' v∧Below w.heap.size w w') a'.defers .returning w':=by
  obtain⟨ds,h1,h2,h3⟩:=hh.marks
  rw[h1]
  refine oq ds w' h2 (fun r hr=>(h3 r hr).2.2) (fun w2 g1 g2 g3 g4 g5=>?_)
  have Dp:=hh.Bl h3 g1 g2 g3 g4 g5
  obtain⟨v,hv,hs⟩:=EW Dp Sr
  refine⟨v,hv,v,E.M,rfl,Dp.m0,fun b o x e=>?_,Dp.cM,himp _ _ hs,Dp.os,Dp.tape,Dp.output,Dp.grown,fun k hk=>Dp.frame k hk (fun h=>h)⟩
  rcases Dp.ez b o x e with h|h|h
  ·exact .inl h
  ·exact .inr h
  ·exact h.elim
 rcases he with rfl|rfl
 ·exact key
 ·exact key
theorem Rd{f:FuncId}{N:Nat}{args:List SV}{E1:TypeId}{n:Nat}{α:Type}{e:α→List SV}{l:List α}[el:EL e n][he:CG N e](hp:Ah P f args (TR E1 n e l)):cJ P f N args (nw N (slc n (l.map e))):=by
 intro M w vs hN hM hvs
 refine(hp M w vs hM hvs).mono ?_
 rintro ex w' ⟨v,M',us,rfl,hle,hnew,hin,hown,AN,kQ,ZP⟩
 have jx:Rows n (l.map e) (l.flatMap e):=qD l
 have vX:=tF jx
 rcases hown.2 with⟨h1,h2⟩|⟨g,cap,cur,h1,_,h2,h3,_,h5,h6⟩
 ·exact⟨v,M',rfl,hle,hnew,hin,⟨.inl ⟨none,h1,by have h2:l.length=0:=h2;rw[List.length_eq_zero_iff.1 h2];rfl⟩,fun g e=>by rw[h1]at e;cases e⟩,ZP⟩
 ·have hg:v.ownBlock=some g:=by rw[h1];rfl
  obtain⟨hge,hno⟩:=kQ g hg
  have h3:l.length≤cap:=h3
  have ah9:maxLen=9223372036854775807:=by decide
  refine⟨v,fun b o=>if b=g∧o<l.length*n then us[o]? else if b=g∧o=l.length*n then some (.agg #[])else M' b o,rfl,fun b o x q=>?_,fun b o x q=>?_,fun b o x q=>?_,?_,ZP⟩
  ·have:=hle b o x q
   have:b≠g:=by rintro rfl;rw[hno o]at this;cases this
   simp[this];assumption
  ·simp only at q
   split at q
   ·rename_i hc;exact .inr (by rw[hc.1];exact hge)
   ·split at q
    ·rename_i hc;exact .inr (by rw[hc.1];exact hge)
    ·exact hnew b o x q
  ·simp only at q
   split at q
   ·rename_i hc
    obtain⟨rfl,Gw⟩:=hc
    refine .of ?_ (mM l _ _ AN x (List.mem_of_getElem? q))
    simp only[World.cell?,h2]
    have h6:cur.toList.take (l.length*n)=us:=h6
    rw[←h6,List.getElem?_take,if_pos Gw]at q
    simpa using q
   ·split at q
    ·rename_i hc
     cases q
     rw[hc.1];exact⟨_,_,h2⟩
    ·exact hin b o x q
  ·refine FD ?_ (fun g' e'=>by rw[hg]at e';cases e';exact⟨Nat.le_trans hN hge,l.length*n,by simp⟩)
   refine .inr ⟨g,0,cap,by rw[h1,List.length_map],by rw[List.length_map];exact h3,by rw[List.length_map];omega,fun k row hk=>?_⟩
   obtain⟨q1,q2⟩:=qB jx k row hk
   refine⟨q1,fun j s hs=>?_⟩
   have Dq:=q2 j s hs
   obtain⟨y,hy,hys⟩:=AN.get Dq
   have hlt:k*n+j<l.length*n:=by
    have:=(List.getElem?_eq_some_iff.1 Dq).1
    rw[vX,List.length_map]at this;exact this
   refine⟨y,by simp[hlt,hy],mM l _ _ AN y (List.mem_of_getElem? hy),s.mono (fun b o x q=>?_) hys⟩
   have:b≠g:=by rintro rfl;rw[hno o]at q;cases q
   simp[this,q]
end
section
variable {P:Program}{C:Ctx}{ops:Array Oper}{S:AS}{nd:Bool}{K:List Ac→AS→Prop}{rest:List Oper}{acc:List Ac}
variable {gd:Option (Nat×Bool)}{rg:List Nat}{d:Nat}{ty:TypeId}{pos:String}{aft:Array Edge}{x y z:Operand}{T U E0:TypeId}
variable {α:Type}{l l' k:List α}{e:α→List SV}{n by_ N:Nat}{zv:Value}
theorem RT.aX(hg:Gd ops S gd rg){f:FuncId}[bB P f]{g:Operand}{xs:Array Operand}{at_:Array TypeId}{args:List SV}{r:SV}(hp:cJ P f N args r)(hN:N≤C.w0.heap.size)(hf:S.ev g=.sv (.v (.func (.func f) #[] #[])))(hargs:gw S xs.toList args)(hd:d<S.n)
  (next:RunT P C ops nd K rest (⟨rg++(au g++xs.toList.flatMap au),[],[],⟨some (d,.sv r),[],[]⟩⟩::acc) (S.set d (.sv r))):RunT P C ops nd K (⟨some d,.call ⟨.value g,xs,at_⟩,ty,pos,aft,gd⟩::rest) acc S:=by
 refine .inl ⟨_,[],[],_,?_,next⟩
 rintro S' hn ht _ _ i a w L Q ho ⟨E,h⟩ hL
 refine bX (C:=C) ho (hg.wanted h (fun s hs=>ht s (List.mem_append_left _ hs)) rfl) ?_
 have tC:a.eval g=.func (.func f) #[] #[]:=by
  have h1:=h.ev g;rw[aH (fun _ h=>List.mem_append_right _ (List.mem_append_left _ h)) ht,hf]at h1;exact h1
 have hall:=gw.vals h hargs (fun s hs=>ht s (List.mem_append_right _ (List.mem_append_right _ hs)))
 have hr:(execOp a.eval ⟨some d,.call ⟨.value g,xs,at_⟩,ty,pos,aft,gd⟩).run P w=.ok (.enter f ⟨xs.toList.map a.eval⟩) w:=by
  have e2:xs.map a.eval=⟨xs.toList.map a.eval⟩:=by apply Array.ext';simp
  have e1:=bB.run (P:=P) (f:=f) (xs.map a.eval) w
  rw[←e2]
  simp[execOp,resolve,tC,Deferred.ofValue,invoke,e1]
 refine bR (C:=C) (by intro c h;cases h) hr ?_
 refine⟨fun h=>by simp at h,gC ((hp E.M w _ (Nat.le_trans hN h.grown) h.cM hall).mono ?_)⟩
 rintro e w' ⟨v,M',rfl,hM,hnew,hin,hv,hb⟩
 exact hL _ _ ⟨_,(h.grow hM hnew hin hb).put (x:=.sv r) hv (by show d<S'.n;omega) eR⟩
theorem RT.Ew(hg:Gd ops S gd rg){m:Nat}[tS:eA P T E0 m]{c:Int}(hx:S.ev x=.sv (nw N (slc n (l.map e))))(hd:d<S.n)(hc:(l.length:Int)=c)
  (next:RunT P C ops nd K rest (⟨rg++au x,[],[],⟨some (d,.sv (.v (.int .i64 c))),[],[]⟩⟩::acc) (S.set d (.sv (.v (.int .i64 c))))):RunT P C ops nd K (⟨some d,.call ⟨.builtin .len,#[x],#[T]⟩,ty,pos,aft,gd⟩::rest) acc S:=
 RT.len hg hx hd (by rw[List.length_map,hc];exact next)
theorem RT.ZQ(hg:Gd ops S gd rg)[tS:eA P T E0 n]{kk:IntKind}{i:Int}{a:α}(hx:S.ev x=.sv (nw N (slc n (l.map e))))(hy:S.ev y=.sv (.v (.int kk i)))(hd:d<S.n)(ha:cy l i=some a)
  (next:RunT P C ops nd K rest (⟨rg++(au x++au y),[],[],⟨some (d,.sv (ref (e a))),[],[]⟩⟩::acc) (S.set d (.sv (ref (e a))))):RunT P C ops nd K (⟨some d,.indexAddr T x y,ty,pos,aft,gd⟩::rest) acc S:=
 RT.indexAddr hg (e a) hx hy hd (qC ha).1 (by rw[List.getElem?_map,(qC ha).2];rfl) next
theorem RT.Re(hg:Gd ops S gd rg)[tS:eA P T E0 n]{lo hi:Option Operand}(a b:Int)(hx:S.ev x=.sv (nw N (slc n (l.map e))))(hlo:Bq S 0 lo a)(hhi:Bq S l.length hi b)(hd:d<S.n)(h:xK l a b=some l')
  (next:RunT P C ops nd K rest (⟨rg++(au x++(n7 lo++n7 hi)),[],[],⟨some (d,.sv (nw N (slc n (l'.map e)))),[],[]⟩⟩::acc) (S.set d (.sv (nw N (slc n (l'.map e)))))):RunT P C ops nd K (⟨some d,.slice T x lo hi none,ty,pos,aft,gd⟩::rest) acc S:=by
 obtain⟨h0,h1,h2,h3⟩:=D4 h
 exact RT.slice hg hx a b hlo (by rw[List.length_map];exact hhi) hd h0 h1 (by rw[List.length_map];exact h2) _ (by rw[JJ,h3]) next
theorem RT.ZR(hg:Gd ops S gd rg)[tS:eA P T E0 n][tE:aK P E0 n by_ zv][el:EL e n][he:CG N e]{i:Nat}(hN:N≤C.w0.heap.size)(hb:∀k,¬C.vc k)(hx:S.ev x=.row i)(hR:S.r i=.live (TR E0 n e l))(hy:S.ev y=.sv (slc n (k.map e)))(hd:d<S.n)(yL:S.r d=.un)(xx:d<1000)(h:xy by_ l k=some l')
  (next:RunT P C ops nd K rest (⟨rg++(au x++au y),[],[d,i],⟨some (d,.sv (nw N (slc n (l'.map e)))),[],[(i,.dead),(d,.dead)]⟩⟩::acc) ((AS.bA [(i,.dead),(d,.dead)] S).set d (.sv (nw N (slc n (l'.map e)))))):RunT P C ops nd K (⟨some d,.call ⟨.builtin .append,#[x,y],#[T,T]⟩,ty,pos,aft,gd⟩::rest) acc S:=by
 obtain⟨h1,h2,rfl⟩:=tK h
 have hf:l.flatMap e++(k.map e).flatten=(l++k).flatMap e:=by simp[tL]
 exact RT.JP hg (.row hx hR) hy hd yL xx (by simpa using h1) (by simpa using h2) _ (rows':=(l++k).map e) (fun _ _ hv hg=>FD hv (fun g e=>⟨(hg g e).1.elim (fun q=>Nat.le_trans hN q) (fun q=>absurd q (hb g)),(hg g e).2⟩)) (by rw[hf];exact qD _) (by simp) (by rw[hf];exact mM _) next
theorem RT.yg(hg:Gd ops S gd rg)[tS:eA P T E0 n][tE:aK P E0 n by_ zv][he:CG N e](hN:N≤C.w0.heap.size){len:Nat}{parts:Array (Nat×Operand)}{qs:List (Nat×List SV)}(hp:nZ S parts.toList qs)(hd:d<S.n)
  (hc:qi 0 qs=true) (hl:qs.length=len) (hsz:(qs.all fun q=>Nat.beq q.2.length n)=true) (hlen:Nat.ble (len*n) 16777216=true) (KU:(zv.cells.toList.all fun v=>v.oneCell')=true) (jx:qs.map (·.2)=l.map e)
  (next:RunT P C ops nd K rest (⟨rg++lF parts.toList,[],[],⟨some (d,.sv (nw N (slc n (l.map e)))),[],[]⟩⟩::acc) (S.set d (.sv (nw N (slc n (l.map e)))))):RunT P C ops nd K (⟨some d,.buildSlice T len parts,ty,pos,aft,gd⟩::rest) acc S:=by
 refine .inl ⟨_,[],[],_,?_,next⟩
 rintro S' hn ht _ _ i a w L Q ho ⟨E,h⟩ hL
 refine bX (C:=C) ho (hg.wanted h (fun s hs=>ht s (List.mem_append_left _ hs)) rfl) ?_
 obtain⟨vs,hr,hall,hone⟩:=oG (P:=P) (T:=T) (E0:=E0) (n:=n) (by_:=by_) (zv:=zv) (d:=d) (ty:=ty) (pos:=pos) (aft:=aft) (gd:=gd) h hp (fun s hs=>ht s (List.mem_append_right _ hs)) hc hl hsz (Nat.le_of_ble_eq_true hlen) (List.all_eq_true.1 KU)
 refine bR (C:=C) (by intro c h;cases h) hr (hL _ _ ⟨_,(h.Rc vs E0 hone).put (d:=d) (x:=.sv (nw N (slc n (l.map e)))) (v:=.slice (some ⟨w.heap.size,0,none⟩) len len) ?_ (by show d<S'.n;omega) eR⟩)
 have hrw:Rows n (qs.map (·.2)) (qs.map (·.2)).flatten:=⟨rfl,fun r hr=>by
  obtain⟨q,hq,rfl⟩:=List.mem_map.1 hr
  exact Nat.eq_of_beq_eq_true (List.all_eq_true.1 hsz q hq)⟩
 have Mr:=tE.p
 have hlb:len≤16777216:=Nat.le_trans (Nat.le_mul_of_pos_right _ Mr) (Nat.le_of_ble_eq_true hlen)
 refine FD ?_ (fun g e=>by cases e;exact⟨Nat.le_trans hN h.grown,vs.length,by simp⟩)
 rw[←jx]
 refine .inr ⟨w.heap.size,0,len,by rw[List.length_map,hl],by rw[List.length_map,hl];exact Nat.le_refl _,by rw[List.length_map,hl];omega,fun k row hk=>?_⟩
 obtain⟨q1,q2⟩:=qB hrw k row hk
 refine⟨q1,fun j s hs=>?_⟩
 obtain⟨y,hy,hys⟩:=hall.get (q2 j s hs)
 refine⟨y,by show(if w.heap.size=w.heap.size then(vs++[Value.agg #[]])[0+k*n+j]? else _)=_;rw[if_pos rfl,Nat.zero_add,List.getElem?_append_left (List.getElem?_eq_some_iff.1 hy).1];exact hy,hone y (List.mem_of_getElem? hy),s.mono (fun b o v e=>?_) hys⟩
 have:b≠w.heap.size:=by rintro rfl;have:=nQ h.cM e;omega
 simp[this,e]
end
end Go.Fw
namespace Go.Proofs.YtningmnklfpfjaaGreat
open Go.Fw Go.Fw.Z Go.RowKit
theorem nU{x0:List Nat}(N:Nat){r:List Nat}(h:cY x0=some r):cJ Tryz.prog 175 N [slc 1 (List.map ah x0)] (nw N (slc 1 (List.map ah r))):=Rd (mQ h)
theorem qp{x0:List Nat}(N:Nat){r:List Nat}(h:aD x0=some r):cJ Tryz.prog 144 N [nw N (slc 1 (List.map ah x0))] (nw N (slc 1 (List.map ah r))):=by
 refine aN Tryz.func144 rfl (Nat.le_of_ble_eq_true rfl) (fun cG M vs hN hvs=>?_)
 unfold aD at h
 refine sr<|aI rfl (aA (N:=N) (n:=1) (e:=ah))<|dn<|qq<|bE h fun Lg BT xR=>?_
 refine aV (fun(BE:(List Nat))=>AS.bG 21 [(0,.sv (nw N (slc 1 (List.map ah BE))))] [] []) (fun BE=>BE=Lg) ?_ (fun BE BU=>?_)
 refine ak ?_
 refine aW BT (fun zZ=>AS.bG 21 [(0,.sv (nw N (slc 1 (List.map ah zZ))))] [] []) (wR []) (fun Ak Zg Zh h BV y5=>?_)
 try dsimp only
 refine qq<|qq ?_
 refine aF h (fun Lh=>AS.bG 21 [(0,.sv (nw N (slc 1 (List.map ah Ak)))),(14,.sv (.v (.bool Lh)))] [] []) (fun h=>?_) (fun BD h=>?_)
 refine af<|mv rfl<|lE h fun x4 h4 h=>RT.Ew .none rfl T h4<|lE h fun x5 h5 h=>gt _ rfl rfl h5<|mv rfl<|bE h fun yU eC h=>?_
 cases x5
 obtain rfl:=O (F eC)
 exact ww<|ww<|ww<|ww<|ww<|ww<|ww<|pF rfl<|dn<|⟨false,h,wR []⟩
 refine gm rfl<|gm rfl<|lE (V eC) fun x9 h9 eC=>RT.Ew (.some rfl rfl) rfl T h9<|lE eC fun dm fD eC=>RT.sub (.some rfl rfl) _ rfl rfl T fD<|bE eC fun gU mB eC=>RT.ZQ (.some rfl rfl) rfl rfl T mB<|gr rfl rfl<|lE eC fun fB fT eC=>YW _ rfl rfl (XX (p:=gU) (q:=0) fT) ?_
 obtain rfl:=O eC
 exact pT rfl<|dn<|⟨fB,h,wR []⟩
 try dsimp only
 refine ae.n ?_
 cases BD
 refine cF<|aZ<|ae.x<|ae.x<|aG.x<|ae.n ?_
 obtain rfl:=O (F h)
 exact⟨Ak,y5 _ rfl,wR []⟩
 refine cT<|aE<|ae.n<|ak<|af<|mv rfl<|mv rfl<|lE (V h) fun eT jD h=>RT.Ew .none rfl T jD<|lE h fun ek gV h=>sb _ rfl rfl gV<|bE h fun kW kx h=>RT.Re .none 0 ek rfl rfl ⟨_,rfl⟩ T kx<|ag rfl<|RT.done<|aG.n ?_
 obtain rfl:=O h
 exact ae.n ⟨kW,BV _ rfl,wR []⟩
 subst BU
 try dsimp only
 refine ae.n<|sr<|mv rfl<|ag rfl<|dn<|aj ?_
 obtain rfl:=O xR
 exact R1 rfl
theorem e5{x0:Bool}{x1:List Nat}(N:Nat){r:Zr}(h:bJ x0 x1=some r):cJ Tryz.prog 163 N [.v (.bool x0),nw N (slc 1 (List.map ah x1))] (.agg ((fZ N) r)):=by
 refine aN Tryz.func163 rfl (Nat.le_of_ble_eq_true rfl) (fun cG M vs hN hvs=>?_)
 unfold bJ at h
 refine sr<|al (cs:=[.v (.bool false),nw N (slc 1 (List.map ah []))]) (by exact⟨SV.aa _,aA,trivial⟩) rfl<|dn<|sr<|mv rfl<|bE h fun x6 h6 h=>RT.aX .none (qp N h6) hN rfl ⟨rfl,trivial⟩ T<|ag rfl<|dn<|qq<|sr<|mv rfl<|lE h fun x8 h8 h=>RT.Ew .none rfl T h8<|lE h fun x9 h9 h=>eq _ rfl rfl (vh (p:=x8) (q:=0) h9)<|dn ?_
 cases x9
 refine fs<|sr<|mv rfl<|mv rfl<|bI (cs:=[_,_]) (cs':=[.v (.bool x0),nw N (slc 1 (List.map ah x6))]) (.one rfl (.one rfl (.nil))) ⟨SV.aa _,SV.aa _,trivial⟩<|so rfl rfl rfl<|dn<|aj ?_
 obtain rfl:=O (F h)
 exact RZ (.agg rfl rfl (.cons rfl (.cons rfl (.nil))) rfl (.nil))
 refine cT<|sr<|bI (cs:=[_,_]) (cs':=[.v (.bool false),nw N (slc 1 (List.map ah []))]) (.nil) ⟨SV.aa _,aA,trivial⟩<|so rfl rfl rfl<|dn<|aj<|ae.r ?_
 obtain rfl:=O (V h)
 exact RZ (.agg rfl rfl (.cons rfl (.cons rfl (.nil))) rfl (.nil))
theorem jR{x0:Bool}{x1:Nat}(N:Nat){r:Zr}(h:dw x0 x1=some r):cJ Tryz.prog 137 N [.v (.bool x0),.v (.int .u64 ((x1:Nat):Int))] (.agg ((fZ N) r)):=by
 refine aN Tryz.func137 rfl (Nat.le_of_ble_eq_true rfl) (fun cG M vs hN hvs=>?_)
 unfold dw at h
 refine sr<|al (cs:=[.v (.bool false),nw N (slc 1 (List.map ah []))]) (by exact⟨SV.aa _,aA,trivial⟩) rfl<|dn<|qq<|ak<|sr<|mv rfl<|lE h fun x7 h7 h=>eq _ rfl rfl (XX (p:=x1) (q:=0) h7)<|ag rfl<|dn ?_
 cases x7
 refine cF<|sr<|mv rfl<|lE (F h) fun gU mB h=>RT.shr .none _ rfl rfl T (by decide) (Aj (k:=.u64) (a:=x1) (q:=32) (s:=32) rfl mB)<|lE h fun dB eI h=>eq _ rfl rfl (XX (p:=gU) (q:=0) eI)<|ag rfl<|dn ?_
 cases dB
 refine cF<|aE<|aG.n<|ae.n<|sr<|mv rfl<|mv rfl<|lE (F h) fun gB lM h=>cv _ rfl (UK.nat lM)<|mv rfl<|lE h fun iP mD h=>RT.shr .none _ rfl rfl T (by decide) (Aj (k:=.u64) (a:=x1) (q:=32) (s:=32) rfl mD)<|lE h fun kA qL h=>cv _ rfl (UK.nat qL)<|RT.yg (l:=[gB,kA]) (e:=ah) .none hN (.one rfl (.one rfl (.nil))) T rfl rfl rfl rfl rfl rfl<|bI (cs:=[_,_]) (cs':=[.v (.bool x0),nw N (slc 1 (List.map ah [gB,kA]))]) (.one rfl (.one rfl (.nil))) ⟨SV.aa _,SV.aa _,trivial⟩ ?_
 refine so rfl rfl rfl<|dn<|aj ?_
 obtain rfl:=O h
 exact RZ (.agg rfl rfl (.cons rfl (.cons rfl (.nil))) rfl (.nil))
 refine cT<|sr<|mv rfl<|mv rfl<|lE (V h) fun dA fE h=>cv _ rfl (UK.nat fE)<|RT.yg (l:=[dA]) (e:=ah) .none hN (.one rfl (.nil)) T rfl rfl rfl rfl rfl rfl<|bI (cs:=[_,_]) (cs':=[.v (.bool x0),nw N (slc 1 (List.map ah [dA]))]) (.one rfl (.one rfl (.nil))) ⟨SV.aa _,SV.aa _,trivial⟩<|so rfl rfl rfl<|dn<|aj<|aG.r<|ae.r ?_
 obtain rfl:=O h
 exact RZ (.agg rfl rfl (.cons rfl (.cons rfl (.nil))) rfl (.nil))
 refine cT<|sr<|bI (cs:=[_,_]) (cs':=[.v (.bool false),nw N (slc 1 (List.map ah []))]) (.nil) ⟨SV.aa _,aA,trivial⟩<|so rfl rfl rfl<|dn<|aj<|aG.r<|ae.r ?_
 obtain rfl:=O (V h)
 exact RZ (.agg rfl rfl (.cons rfl (.cons rfl (.nil))) rfl (.nil))
theorem pY{x0:List Nat}{x1:List Nat}(N:Nat){r:List Nat}(h:c9 x0 x1=some r):cJ Tryz.prog 194 N [slc 1 (List.map ah x0),slc 1 (List.map ah x1)] (nw N (slc 1 (List.map ah r))):=by
 refine aN Tryz.func194 rfl (Nat.le_of_ble_eq_true rfl) (fun cG M vs hN hvs=>?_)
 unfold c9 at h
 refine sr<|aI rfl (aA (N:=N) (n:=1) (e:=ah))<|dn<|sr<|mv rfl<|lE h fun dm fD h=>ln rfl fD<|mv rfl<|lE h fun dB eI h=>ln rfl eI<|lE h fun fB fT h=>RT.max .none _ rfl rfl T (GH (p:=dm) (q:=dB) fT)<|lE h fun eU jg h=>ad _ rfl rfl jg<|bE h fun dA fE h=>RT.v9 (e:=ah) .none rfl rfl T rfl T fE<|RT.alloc .none T rfl rfl<|RT.gR (cells:=[_]) .none rfl rfl rfl rfl T rfl<|dn<|sr ?_
 refine RT.tJ .none (cz 0) rfl ⟨rfl,trivial⟩ T rfl rfl<|RT.alloc .none T rfl rfl<|RT.oF (cells:=[_]) .none (s:=.ey _ _) rfl rfl rfl T rfl<|dn<|qq<|sr<|mv rfl<|mv rfl<|cl (lJ x0 x1) ⟨rfl,rfl,trivial⟩<|dn<|ak<|bE h fun e7 QT GU=>?_
 obtain⟨DB,QU,QV,QW⟩:=gA QT
 refine dX (lK x0 x1) (fun _ _ _ _ _=>trivial) rfl (fun k=>AS.bG 35 [(5,.ptr 5 0),(6,.ptr 6 0),(19,.sv (gS 214 [ref [slc 1 (List.map ah x0)],ref [slc 1 (List.map ah x1)]]))] [(6,⟨186,[.ey 202 [.box 16]]⟩),(16,⟨128,[.sv (.v (.int .u64 (((DB k).1:Nat):Int)))]⟩),(5,⟨39,[.row 302]⟩)] [(302,TR 130 1 ah (DB k).2)]) [6,16,5] rfl (fun _=>⟨rfl,rfl⟩) (mK rfl) (fun _=>rfl) (mL rfl) (by(try dsimp only);rw[QU];(try dsimp only);exact cH (fun i=>bif Nat.beq i 302 then 15 else i) rfl rfl rfl rfl rfl ⟨.ptr,.ptr,.sv (SV.aa _),trivial⟩ ⟨⟨_,rfl,⟨.ey,trivial⟩⟩,⟨_,rfl,⟨.sv (SV.aa _),trivial⟩⟩,⟨_,rfl,⟨.row rfl,trivial⟩⟩,trivial⟩ ⟨⟨_,rfl,bQ.refl _⟩,trivial⟩ (fun i hi=>by rw[bH (show i≠302 by omega)];rfl)) (fun k hk D hD=>?_) ?_
 have h:=QV k hk
 obtain⟨sk,DC⟩:∃q,DB k=q:=⟨_,rfl⟩
 rw[DC]at h⊢
 obtain⟨rM,gx⟩:=sk
 dsimp only[AS.IT,n8]
 try dsimp only at h
 refine lE h fun YX BW h=>?_
 rw[BW]
 refine lE h fun YY U1 h=>?_
 rw[U1]
 refine sr<|ag rfl<|dn<|af<|ag rfl<|RT.done ?_
 refine ae.n ⟨rfl,?_⟩
 dsimp only[AS.wL]
 refine ak<|ai mixed<|RT.dN .none (s:=.row _) rfl rfl rfl T<|RT.dN .none (s:=.ey _ _) rfl rfl rfl T<|mv rfl<|mv rfl<|lE h fun lI nT h=>ad _ rfl rfl (UK.add (a:=YX) (b:=YY) nT) ?_
 obtain⟨⟨kq,k9⟩,m7,h⟩:=bS h
 refine cB (aY m7) 16 rfl ⟨rfl,trivial⟩<|bl (l:=[kq]) (e:=ah) (.one rfl (.nil)) rfl rfl rfl rfl rfl rfl<|bE h fun gH iT h=>aR (k:=[kq]) (e:=ah) rfl rfl rfl iT<|RT.gR (cells:=[_]) .none rfl rfl rfl rfl T rfl ?_
 refine RT.done ⟨by kernel_rfl,?_⟩
 refine aG.n ?_
 replace h:=Option.some.inj h
 refine⟨trivial,rfl,rfl,?_⟩
 try dsimp only
 rw[←h]
 try dsimp only
 exact cH (fun i=>bif Nat.beq i 302 then 29 else i) rfl rfl rfl rfl rfl ⟨.ptr,.ptr,.sv (SV.aa _),trivial⟩ ⟨⟨_,rfl,⟨.ey,trivial⟩⟩,⟨_,rfl,⟨.sv (SV.aa _),trivial⟩⟩,⟨_,rfl,⟨.row rfl,trivial⟩⟩,trivial⟩ ⟨⟨_,rfl,bQ.refl _⟩,trivial⟩ (fun i hi=>by rw[bH (show i≠302 by omega)];rfl)
 rw[QW]
 obtain⟨rM,gx⟩:=e7
 try dsimp only
 refine aG.n<|ae.n<|qq<|ai mixed<|RT.dN .none (s:=.row _) rfl rfl rfl T<|RT.dN .none (s:=.ey _ _) rfl rfl rfl T ?_
 obtain⟨⟨iD,k11⟩,kz,GU⟩:=bS GU
 refine cB (aY kz) 16 rfl ⟨rfl,trivial⟩<|bl (l:=[iD]) (e:=ah) (.one rfl (.nil)) rfl rfl rfl rfl rfl rfl<|bE GU fun pH ql GU=>RT.ZR (k:=[iD]) (e:=ah) .none hN (fun _ h=>h) rfl rfl rfl T rfl T ql<|ag rfl ?_
 refine RT.done ⟨by kernel_rfl,?_⟩
 refine ae.n<|aj ?_
 obtain rfl:=O GU
 exact R1 rfl
theorem lT{x0:List Nat}{x1:List Nat}(N:Nat){r:List Nat}(h:bZ x0 x1=some r):cJ Tryz.prog 195 N [slc 1 (List.map ah x0),slc 1 (List.map ah x1)] (nw N (slc 1 (List.map ah r))):=by
 refine aN Tryz.func195 rfl (Nat.le_of_ble_eq_true rfl) (fun cG M vs hN hvs=>?_)
 unfold bZ at h
 refine sr<|aI rfl (aA (N:=N) (n:=1) (e:=ah))<|dn<|sr<|mv rfl<|lE h fun dm fD h=>ln rfl fD<|bE h fun gU mB h=>RT.v9 (e:=ah) .none rfl rfl T rfl T mB<|RT.alloc .none T rfl rfl<|RT.gR (cells:=[_]) .none rfl rfl rfl rfl T rfl<|dn<|sr<|RT.tJ .none (cz 1) rfl ⟨rfl,trivial⟩ T rfl rfl<|RT.alloc .none T rfl rfl<|RT.oF (cells:=[_]) .none (s:=.ey _ _) rfl rfl rfl T rfl<|dn<|qq<|sr<|mv rfl ?_
 refine mv rfl<|cl (lJ x0 x1) ⟨rfl,rfl,trivial⟩<|dn<|ak<|bE h fun e7 QT GU=>?_
 obtain⟨DB,QU,QV,QW⟩:=gA QT
 refine dX (lK x0 x1) (fun _ _ _ _ _=>trivial) rfl (fun k=>AS.bG 28 [(5,.ptr 5 0),(6,.ptr 6 0),(15,.sv (gS 214 [ref [slc 1 (List.map ah x0)],ref [slc 1 (List.map ah x1)]]))] [(6,⟨186,[.ey 202 [.box 12]]⟩),(12,⟨128,[.sv (.v (.int .u64 (((DB k).1:Nat):Int)))]⟩),(5,⟨39,[.row 302]⟩)] [(302,TR 130 1 ah (DB k).2)]) [6,12,5] rfl (fun _=>⟨rfl,rfl⟩) (mK rfl) (fun _=>rfl) (mL rfl) (by(try dsimp only);rw[QU];(try dsimp only);exact cH (fun i=>bif Nat.beq i 302 then 11 else i) rfl rfl rfl rfl rfl ⟨.ptr,.ptr,.sv (SV.aa _),trivial⟩ ⟨⟨_,rfl,⟨.ey,trivial⟩⟩,⟨_,rfl,⟨.sv (SV.aa _),trivial⟩⟩,⟨_,rfl,⟨.row rfl,trivial⟩⟩,trivial⟩ ⟨⟨_,rfl,bQ.refl _⟩,trivial⟩ (fun i hi=>by rw[bH (show i≠302 by omega)];rfl)) (fun k hk D hD=>?_) ?_
 have h:=QV k hk
 obtain⟨sk,DC⟩:∃q,DB k=q:=⟨_,rfl⟩
 rw[DC]at h⊢
 obtain⟨vm,gx⟩:=sk
 dsimp only[AS.IT,n8]
 try dsimp only at h
 refine lE h fun YZ U3 h=>?_
 rw[U3]
 refine lE h fun Y0 U4 h=>?_
 rw[U4]
 refine sr<|ag rfl<|dn<|af<|ag rfl<|RT.done ?_
 refine ae.n ⟨rfl,?_⟩
 dsimp only[AS.wL]
 refine ak<|ai mixed<|RT.dN .none (s:=.row _) rfl rfl rfl T<|RT.dN .none (s:=.ey _ _) rfl rfl rfl T<|mv rfl<|mv rfl<|lE h fun iP mD h=>sb _ rfl rfl (UK.sub (a:=4294967295) (b:=Y0) mD)<|lE h fun kA qL h=>ad _ rfl rfl (UK.add (a:=YZ) (b:=iP) qL) ?_
 obtain⟨⟨fR,k9⟩,kD,h⟩:=bS h
 refine cB (aY kD) 12 rfl ⟨rfl,trivial⟩<|bl (l:=[fR]) (e:=ah) (.one rfl (.nil)) rfl rfl rfl rfl rfl rfl<|bE h fun lI nT h=>aR (k:=[fR]) (e:=ah) rfl rfl rfl nT<|RT.gR (cells:=[_]) .none rfl rfl rfl rfl T rfl ?_
 refine RT.done ⟨by kernel_rfl,?_⟩
 refine aG.n ?_
 replace h:=Option.some.inj h
 refine⟨trivial,rfl,rfl,?_⟩
 try dsimp only
 rw[←h]
 try dsimp only
 exact cH (fun i=>bif Nat.beq i 302 then 26 else i) rfl rfl rfl rfl rfl ⟨.ptr,.ptr,.sv (SV.aa _),trivial⟩ ⟨⟨_,rfl,⟨.ey,trivial⟩⟩,⟨_,rfl,⟨.sv (SV.aa _),trivial⟩⟩,⟨_,rfl,⟨.row rfl,trivial⟩⟩,trivial⟩ ⟨⟨_,rfl,bQ.refl _⟩,trivial⟩ (fun i hi=>by rw[bH (show i≠302 by omega)];rfl)
 rw[QW]
 obtain⟨vm,gx⟩:=e7
 try dsimp only
 refine aG.n<|ae.n<|sr<|RT.dN .none (s:=.row _) rfl rfl rfl T<|an (s:=.row _) rfl<|dn<|iM (i:=302) (E1:=130) (n:=1) (e:=ah) (l:=gx) hN (fun _ h=>h) rfl<|aj ?_
 obtain rfl:=O GU
 exact R1 rfl
theorem yh{x0:List Nat}{x1:List Nat}(N:Nat){r:List Nat}(h:dO x0 x1=some r):cJ Tryz.prog 164 N [slc 1 (List.map ah x0),slc 1 (List.map ah x1)] (nw N (slc 1 (List.map ah r))):=by
 refine aN Tryz.func164 rfl (Nat.le_of_ble_eq_true rfl) (fun cG M vs hN hvs=>?_)
 unfold dO at h
 refine sr<|aI rfl (aA (N:=N) (n:=1) (e:=ah))<|dn<|sr<|mv rfl<|lE h fun dB eI h=>ln rfl eI<|mv rfl<|lE h fun eU jg h=>ln rfl jg<|lE h fun dA fE h=>ad _ rfl rfl fE<|bE h fun gu iQ h=>RT.jy (n:=1) (e:=ah) .none rfl rfl T rfl T (by rfl) (by decide) (by exact⟨SV.aa _,trivial⟩) iQ<|an (s:=.row _) rfl<|dn<|qq<|sr<|mv rfl<|lE h fun ek gV h=>ln rfl gV ?_
 refine mv rfl<|dn<|bE h fun e28 U5 U6=>?_
 refine aV (fun(mO:(List Nat))=>AS.bG 63 [(5,.row 16)] [] [(16,TR 130 1 ah mO)]) (fun mO=>mO=e28) ?_ (fun mO U7=>?_)
 refine ak ?_
 refine aW U5 (fun MS=>AS.bG 63 [(1,.sv (slc 1 (List.map ah x1))),(5,.row 16),(17,.sv (slc 1 (List.map ah x0))),(18,.sv (.v (.int .i64 ek))),(19,.sv (.v (.int .i64 MS.1)))] [] [(16,TR 130 1 ah MS.2)]) (wR []) (fun MS y28 G28 h U8 U9=>?_)
 obtain⟨ku,yV⟩:=MS
 try dsimp only
 refine sr<|lE h fun gB lM h=>ls _ rfl rfl lM<|dn<|qq ?_
 cases gB
 refine cF<|aZ<|ae.x<|ae.x<|aG.x<|ae.n ?_
 obtain rfl:=O (F h)
 exact⟨yV,U9 _ rfl,wR []⟩
 refine cT<|aE<|ae.n<|qq<|ak<|sr<|mv rfl<|bE (V h) fun iP mD h=>ix rfl rfl mD<|lr rfl rfl<|ag rfl<|ag rfl<|dn<|sr<|RT.tJ .none (cz 0) rfl ⟨rfl,trivial⟩ T rfl rfl<|an (s:=.ey _ _) rfl<|dn<|qq<|sr<|mv rfl<|lE h fun lI nT h=>ln rfl nT<|mv rfl<|dn<|bE h fun UB Nu eD=>?_
 refine aV (fun(y9:Nat×(List Nat))=>AS.bG 63 [(1,.sv (slc 1 (List.map ah x1))),(5,.row 16),(6,.sv (.v (.int .i64 ku))),(8,.ey 202 [.box 24]),(17,.sv (slc 1 (List.map ah x0))),(18,.sv (.v (.int .i64 ek))),(19,.sv (.v (.int .i64 ku)))] [(24,⟨128,[.sv (.v (.int .u64 ((y9.1:Nat):Int)))]⟩)] [(16,TR 130 1 ah y9.2)]) (fun y9=>y9=UB) ?_ (fun y9 Nv=>?_)
 refine ak ?_
 refine aW Nu (fun Ea=>AS.bG 63 [(1,.sv (slc 1 (List.map ah x1))),(5,.row 16),(6,.sv (.v (.int .i64 ku))),(7,.sv (.v (.int .u32 ((iP:Nat):Int)))),(8,.ey 202 [.box 24]),(17,.sv (slc 1 (List.map ah x0))),(18,.sv (.v (.int .i64 ek))),(19,.sv (.v (.int .i64 ku))),(25,.sv (slc 1 (List.map ah x1))),(26,.sv (.v (.int .i64 lI))),(27,.sv (.v (.int .i64 Ea.1)))] [(24,⟨128,[.sv (.v (.int .u64 ((Ea.2.1:Nat):Int)))]⟩)] [(16,TR 130 1 ah Ea.2.2)]) (wR []) (fun Ea y38 G38 h Nw Nx=>?_)
 obtain⟨wS,qG,rN⟩:=Ea
 try dsimp only
 refine sr<|lE h fun mN rY h=>ls _ rfl rfl rY<|dn<|qq ?_
 cases mN
 refine cF<|aZ<|ae.x<|ae.x<|aG.x<|ae.n ?_
 obtain rfl:=O (F h)
 exact⟨(qG,rN),Nx _ rfl,wR []⟩
 refine cT<|aE<|ae.n<|qq<|ak<|sr<|mv rfl<|bE (V h) fun yW wV h=>ix rfl rfl wV<|lr rfl rfl<|ag rfl<|ag rfl<|dn<|af<|mo (s:=.row _) rfl<|mv rfl<|mv rfl<|lE h fun rO za h=>ad _ rfl rfl za<|mo (s:=.ey _ _) rfl<|mo (s:=.row _) rfl<|mv rfl<|mv rfl<|lE h fun lu nO h=>ad _ rfl rfl nO<|bE h fun rP zb h=>iR rfl rfl rfl zb ?_
 refine bE h fun rB ze h=>lR rfl rfl ze rfl<|lE h fun vn Dj h=>cv _ rfl (UK.nat Dj)<|mv rfl<|lE h fun Di I1 h=>cv _ rfl (UK.nat I1)<|mv rfl<|lE h fun tQ wW h=>cv _ rfl (UK.nat wW)<|lE h fun sO h48 h=>RT.mul .none _ rfl rfl T (UK.mul (a:=Di) (b:=tQ) h48)<|lE h fun MT Ny h=>ad _ rfl rfl (UK.add (a:=vn) (b:=sO) Ny) ?_
 obtain⟨⟨vo,Y1⟩,DD,h⟩:=bS h
 refine cB (aY DD) 24 rfl ⟨rfl,trivial⟩<|bE h fun BF DE h=>iR rfl rfl rfl DE<|bE h fun Qd GV h=>sR vo rfl rfl rfl rfl GV<|RT.done<|aG.n<|ae.n<|af<|lE h fun wj zg h=>ad _ rfl rfl zg<|mv rfl<|RT.done ?_
 obtain rfl:=O h
 exact ae.n ⟨(wj,Y1,Qd),Nw _ rfl,wR []⟩
 subst Nv
 obtain⟨BG,Fa⟩:=y9
 try dsimp only
 refine ae.n<|af<|mo (s:=.row _) rfl<|mv rfl<|mv rfl<|lE eD fun Fb I2 eD=>ln rfl I2<|lE eD fun Qe Vc eD=>ad _ rfl rfl Vc<|mo (s:=.ey _ _) rfl ?_
 obtain⟨⟨IU,k45⟩,QX,eD⟩:=bS eD
 refine cB (aY QX) 24 rfl ⟨rfl,trivial⟩<|bE eD fun JX I3 eD=>iR rfl rfl rfl I3<|bE eD fun Y2 Nz eD=>sR IU rfl rfl rfl rfl Nz<|RT.done<|aG.n<|ae.n<|af<|lE eD fun Fe NA eD=>ad _ rfl rfl NA<|mv rfl<|RT.done ?_
 obtain rfl:=O eD
 exact ae.n ⟨(Fe,Y2),U8 _ rfl,wR []⟩
 subst U7
 try dsimp only
 refine ae.n<|sr<|mo (s:=.row _) rfl<|an (s:=.row _) rfl<|dn<|iM (i:=16) (E1:=130) (n:=1) (e:=ah) (l:=mO) hN (fun _ h=>h) rfl<|aj ?_
 obtain rfl:=O U6
 exact R1 rfl
set_option maxHeartbeats 4000000 in
theorem zB{x0:List Nat}{x1:List Nat}(N:Nat){r:(List Nat)×(List Nat)}(h:fz x0 x1=some r):cJ Tryz.prog 205 N [slc 1 (List.map ah x0),slc 1 (List.map ah x1)] (.vW [nw N (slc 1 (List.map ah r.1)),nw N (slc 1 (List.map ah r.2))]):=by
 refine aN Tryz.func205 rfl (Nat.le_of_ble_eq_true rfl) (fun cG M vs hN hvs=>?_)
 unfold fz at h
 refine sr<|ag rfl<|ag rfl<|dn<|bh (fW 4 306 130 1 rfl rfl T)<|bh (fW 5 308 130 1 rfl rfl T)<|sr<|mv rfl<|lE h fun eT jD h=>ln rfl jD<|ag rfl<|dn<|sr<|mv rfl<|mv rfl<|lE h fun gB lM h=>sb _ rfl rfl lM<|bE h fun iv nS h=>ix rfl rfl nS<|lr rfl rfl<|bE h fun kA qL h=>cl (jr qL) ⟨rfl,trivial⟩ ?_
 refine lE h fun fR kD h=>cv _ rfl (UK.conv kD)<|ag rfl<|dn<|qq<|ai mixed<|mv rfl<|mv rfl<|bE h fun kq m7 h=>cN (oa m7) ⟨rfl,rfl,trivial⟩<|mv rfl<|mv rfl<|bE h fun yW wV h=>cl (oM wV) ⟨rfl,rfl,trivial⟩<|mv rfl<|bE h fun iD kz h=>RT.wP .none 0 eT rfl rfl ⟨_,rfl⟩ T kz<|an (s:=.row _) rfl<|ag rfl ?_
 refine RT.done ⟨by kernel_rfl,?_⟩
 refine ae.n<|sr<|mv rfl<|lE h fun pH ql h=>ln rfl ql<|mv rfl<|lE h fun oC pL h=>sb _ rfl rfl pL<|lE h fun tf xU h=>ad _ rfl rfl xU<|bE h fun Al GS h=>RT.jy (n:=1) (e:=ah) .none rfl rfl T rfl T (by rfl) (by decide) (by exact⟨SV.aa _,trivial⟩) GS<|an (s:=.row _) rfl<|dn<|qq<|sr<|mv rfl<|lE h fun lu nO h=>ln rfl nO<|mv rfl<|lE h fun rB ze h=>sb _ rfl rfl ze ?_
 refine ag rfl<|dn<|bE h fun Zd Vd I7=>?_
 refine aV (fun(zk:(List Nat)×(List Nat))=>AS.bG 141 [(4,.row 38),(6,.sv (.v (.int .i64 eT))),(7,.sv (.v (.int .u64 ((fR:Nat):Int)))),(8,.row 27)] [] [(38,TR 130 1 ah zk.1),(27,TR 130 1 ah zk.2)]) (fun zk=>zk=Zd) ?_ (fun zk Ve=>?_)
 refine ak ?_
 refine aW Vd (fun Lb=>AS.bG 141 [(4,.row 38),(6,.sv (.v (.int .i64 eT))),(7,.sv (.v (.int .u64 ((fR:Nat):Int)))),(8,.row 27),(9,.sv (slc 1 (List.map ah iD))),(10,.sv (.v (.int .i64 Lb.1)))] [] [(38,TR 130 1 ah Lb.2.1),(27,TR 130 1 ah Lb.2.2)]) (wR []) (fun Lb y36 G36 h Vf Vg=>?_)
 obtain⟨fX,mP,qk⟩:=Lb
 try dsimp only
 refine qq<|sr<|mv rfl<|lE h fun vJ zh h=>ge _ rfl rfl zh<|dn ?_
 cases vJ
 refine cF<|aZ<|ae.x<|ae.x<|aG.x<|ae.n ?_
 obtain rfl:=O (F h)
 exact⟨(mP,qk),Vg _ rfl,wR []⟩
 refine cT<|aE<|ae.n<|qq<|ak<|sr<|mo (s:=.row _) rfl<|mv rfl<|mv rfl<|mv rfl<|lE (V h) fun BF DE h=>ad _ rfl rfl DE<|lE h fun wj zg h=>ad _ rfl rfl zg ?_
 obtain⟨⟨o53,n53⟩,QY,h⟩:=bS h
 refine RT.QG .none fX wj rfl rfl ⟨_,rfl⟩ ⟨_,rfl⟩ T QY<|mv rfl ?_
 obtain⟨⟨xz,IA⟩,GW,h⟩:=bS h
 refine bE h fun _ Vh h=>cR (l:=qk) (l':=IA) (e:=ah) (pU GW) (iC Vh) 27 rfl (.cons rfl (.cons rfl (.nil)))<|ag rfl<|dn<|qq<|sr<|mo (s:=.row _) rfl<|mv rfl<|mv rfl<|mv rfl<|lE h fun JX I3 h=>ad _ rfl rfl I3<|lE h fun Fe NA h=>ad _ rfl rfl NA ?_
 obtain⟨⟨o62,n62⟩,h62,h⟩:=bS h
 refine RT.QG .none fX Fe rfl rfl ⟨_,rfl⟩ ⟨_,rfl⟩ T h62<|mv rfl<|mv rfl ?_
 obtain⟨⟨Y6,Lc⟩,h65,h⟩:=bS h
 refine bE h fun _ Vi h=>cR (l:=IA) (l':=Lc) (e:=ah) (ko h65) (iC Vi) 27 rfl (.cons rfl (.cons rfl (.cons rfl (.nil))))<|dn ?_
 refine aF h (fun Ld=>AS.bG 141 [(4,.row 38),(6,.sv (.v (.int .i64 eT))),(7,.sv (.v (.int .u64 ((fR:Nat):Int)))),(8,.row 27),(9,.sv (slc 1 (List.map ah iD))),(10,.sv (.v (.int .i64 fX))),(11,.sv (.v (.int .u64 ((Ld.1:Nat):Int))))] [] [(38,TR 130 1 ah mP),(27,TR 130 1 ah Ld.2)]) (fun h=>?_) (fun Ld h=>?_)
 cases Y6
 exact fs<|⟨(xz,Lc),(F h),wR []⟩
 refine cT<|sr<|mv rfl<|lE (V h) fun Gn QZ h=>sb _ rfl rfl (UK.sub (a:=xz) (b:=1) QZ)<|ag rfl<|dn<|sr<|RT.tJ .none (cz 0) rfl ⟨rfl,trivial⟩ T rfl rfl<|an (s:=.ey _ _) rfl<|dn<|qq<|sr<|mv rfl<|lE h fun M6 Zm h=>ln rfl Zm<|mv rfl<|dn<|bE h fun Zb Vj jF=>?_
 refine aV (fun(zm:Nat×(List Nat))=>AS.bG 141 [(4,.row 38),(6,.sv (.v (.int .i64 eT))),(7,.sv (.v (.int .u64 ((fR:Nat):Int)))),(8,.row 27),(9,.sv (slc 1 (List.map ah iD))),(10,.sv (.v (.int .i64 fX))),(11,.sv (.v (.int .u64 ((Gn:Nat):Int)))),(12,.ey 202 [.box 68])] [(68,⟨128,[.sv (.v (.int .u64 ((zm.1:Nat):Int)))]⟩)] [(38,TR 130 1 ah mP),(27,TR 130 1 ah zm.2)]) (fun zm=>zm=Zb) ?_ (fun zm Vk=>?_)
 refine ak ?_
 refine aW Vj (fun Le=>AS.bG 141 [(4,.row 38),(6,.sv (.v (.int .i64 eT))),(7,.sv (.v (.int .u64 ((fR:Nat):Int)))),(8,.row 27),(9,.sv (slc 1 (List.map ah iD))),(10,.sv (.v (.int .i64 fX))),(11,.sv (.v (.int .u64 ((Gn:Nat):Int)))),(12,.ey 202 [.box 68]),(69,.sv (slc 1 (List.map ah iD))),(70,.sv (.v (.int .i64 M6))),(71,.sv (.v (.int .i64 Le.1)))] [(68,⟨128,[.sv (.v (.int .u64 ((Le.2.1:Nat):Int)))]⟩)] [(38,TR 130 1 ah mP),(27,TR 130 1 ah Le.2.2)]) (wR []) (fun Le y65 G65 h Vl Vm=>?_)
 obtain⟨wU,qJ,rT⟩:=Le
 try dsimp only
 refine sr<|lE h fun L4 Vn h=>ls _ rfl rfl Vn<|dn<|qq ?_
 cases L4
 refine cF<|aZ<|ae.x<|ae.x<|aG.x<|ae.n ?_
 obtain rfl:=O (F h)
 exact⟨(qJ,rT),Vm _ rfl,wR []⟩
 refine cT<|aE<|ae.n<|qq<|ak<|sr<|mv rfl<|bE (V h) fun UF Zn h=>ix rfl rfl Zn<|lr rfl rfl<|ag rfl<|ag rfl<|dn<|af<|mo (s:=.row _) rfl<|mv rfl<|mv rfl<|lE h fun Lf Q0 h=>ad _ rfl rfl Q0<|mo (s:=.ey _ _) rfl<|mo (s:=.row _) rfl<|mv rfl<|mv rfl<|lE h fun x84 h84 h=>ad _ rfl rfl h84<|bE h fun X1 Zo h=>iR rfl rfl rfl Zo ?_
 refine bE h fun Qf Vo h=>lR rfl rfl Vo rfl<|lE h fun QO Vp h=>cv _ rfl (UK.nat Vp)<|mv rfl<|lE h fun QS Zp h=>cv _ rfl (UK.nat Zp)<|lE h fun Qg Vq h=>ad _ rfl rfl (UK.add (a:=QO) (b:=QS) Vq) ?_
 obtain⟨⟨Y8,Y9⟩,h91,h⟩:=bS h
 refine cB (aY h91) 68 rfl ⟨rfl,trivial⟩<|bE h fun x92 h92 h=>iR rfl rfl rfl h92<|bE h fun Za NB h=>sR Y8 rfl rfl rfl rfl NB<|RT.done<|aG.n<|ae.n<|af<|lE h fun SE Zq h=>ad _ rfl rfl Zq<|mv rfl<|RT.done ?_
 obtain rfl:=O h
 exact ae.n ⟨(SE,Y9,Za),Vl _ rfl,wR []⟩
 subst Vk
 obtain⟨BJ,yX⟩:=zm
 try dsimp only
 refine ae.n<|af<|mo (s:=.row _) rfl<|mv rfl<|mv rfl<|lE jF fun X2 Zs jF=>ad _ rfl rfl Zs<|mo (s:=.ey _ _) rfl<|mo (s:=.row _) rfl<|mv rfl<|mv rfl<|lE jF fun UG Vr jF=>ad _ rfl rfl Vr<|bE jF fun IY NC jF=>iR rfl rfl rfl NC<|bE jF fun UH Vs jF=>lR rfl rfl Vs rfl<|lE jF fun UI Vt jF=>cv _ rfl (UK.nat Vt) ?_
 obtain⟨⟨M7,k72⟩,Vu,jF⟩:=bS jF
 exact cB (aY Vu) 68 rfl ⟨rfl,trivial⟩<|bE jF fun UJ Vv jF=>iR rfl rfl rfl Vv<|bE jF fun Zc ND jF=>sR M7 rfl rfl rfl rfl ND<|dn<|⟨(Gn,Zc),jF,wR []⟩
 obtain⟨IX,BI⟩:=Ld
 try dsimp only
 refine ae.n<|af<|mo (s:=.row _) rfl<|mv rfl<|mv rfl<|lE h fun M5 Vw h=>cv _ rfl (UK.nat Vw)<|bE h fun UE Vx h=>iR rfl rfl rfl Vx<|bE h fun Y7 NF h=>sR M5 rfl rfl rfl rfl NF<|RT.done<|aG.n<|ae.n<|af<|mv rfl<|lE h fun vp h46 h=>sb _ rfl rfl h46<|ag rfl<|RT.done ?_
 obtain rfl:=O h
 exact ae.n ⟨(vp,Y7,BI),Vf _ rfl,wR []⟩
 subst Ve
 obtain⟨rU,tR⟩:=zk
 try dsimp only
 refine ae.n<|sr<|mv rfl<|bE I7 fun UL Vy I7=>RT.jy (n:=1) (e:=ah) .none rfl rfl T rfl T (by rfl) (by decide) (by exact⟨SV.aa _,trivial⟩) Vy<|an (s:=.row _) rfl<|dn<|qq<|sr<|mv rfl<|mv rfl<|dn<|bE I7 fun e81 Vz VA=>?_
 refine aV (fun(jW:(List Nat))=>AS.bG 141 [(4,.row 38),(5,.row 114)] [] [(38,TR 130 1 ah rU),(114,TR 130 1 ah jW)]) (fun jW=>jW=e81) ?_ (fun jW VB=>?_)
 refine ak ?_
 refine aW Vz (fun M8=>AS.bG 141 [(4,.row 38),(5,.row 114),(7,.sv (.v (.int .u64 ((fR:Nat):Int)))),(8,.row 27),(115,.sv (.v (.int .i64 eT))),(116,.sv (.v (.int .i64 M8.1)))] [] [(38,TR 130 1 ah rU),(114,TR 130 1 ah M8.2),(27,TR 130 1 ah tR)]) (wR []) (fun M8 y81 G81 h VC VD=>?_)
 obtain⟨rV,rW⟩:=M8
 try dsimp only
 refine sr<|lE h fun M9 VE h=>ls _ rfl rfl VE<|dn<|qq ?_
 cases M9
 refine cF<|aZ<|ae.x<|ae.x<|aG.x<|ae.n ?_
 obtain rfl:=O (F h)
 exact⟨rW,VD _ rfl,wR []⟩
 refine cT<|aE<|ae.n<|qq<|ak<|sr<|mv rfl<|ag rfl<|dn<|ai mixed<|mo (s:=.row _) rfl<|mv rfl<|mo (s:=.row _) rfl<|mv rfl<|bE (V h) fun UM VF h=>iR rfl rfl rfl VF<|bE h fun UN VG h=>lR rfl rfl VG rfl<|lE h fun Na VH h=>cv _ rfl (UK.nat VH)<|mo (s:=.row _) rfl<|mv rfl<|lE h fun UO h128 h=>ad _ rfl rfl h128<|bE h fun UP VI h=>?_
 refine iR rfl rfl rfl VI<|bE h fun UQ VJ h=>lR rfl rfl VJ rfl<|lE h fun Nb VK h=>cv _ rfl (UK.nat VK)<|lE h fun Nc VL h=>RT.shl .none _ rfl rfl T (by decide) (UK.shl (a:=Nb) (q:=32) (s:=32) rfl VL)<|lE h fun Nd VM h=>RT.or .none _ rfl rfl T (UK.or (a:=Na) (b:=Nc) VM)<|mv rfl<|lE h fun UR VN h=>RT.shr .none _ rfl rfl T (Int.natCast_nonneg _) (Aj (k:=.u64) (a:=Nd) (q:=((fR:Nat):Int)) (s:=min fR 64) rfl VN)<|lE h fun Nf VO h=>cv _ rfl (UK.nat VO) ?_
 refine bE h fun US VP h=>iR rfl rfl rfl VP<|bE h fun Ze NG h=>sR Nf rfl rfl rfl rfl NG ?_
 refine RT.done ⟨by kernel_rfl,?_⟩
 refine aG.n<|ae.n<|af<|lE h fun Ng VQ h=>ad _ rfl rfl VQ<|mv rfl<|RT.done ?_
 obtain rfl:=O h
 exact ae.n ⟨(Ng,Ze),VC _ rfl,wR []⟩
 subst VB
 try dsimp only
 refine ae.n<|sr<|mo (s:=.row _) rfl<|mo (s:=.row _) rfl<|an (s:=.row _) rfl<|an (s:=.row _) rfl<|dn<|iM (i:=38) (E1:=130) (n:=1) (e:=ah) (l:=rU) hN (fun _ h=>h) rfl<|iM (i:=114) (E1:=130) (n:=1) (e:=ah) (l:=jW) hN (fun _ h=>h) rfl<|aj ?_
 obtain rfl:=O VA
 exact R2 rfl rfl
theorem pZ{x0:List Nat}{x1:List Nat}(N:Nat){r:(List Nat)×(List Nat)}(h:dP x0 x1=some r):cJ Tryz.prog 193 N [slc 1 (List.map ah x0),slc 1 (List.map ah x1)] (.vW [nw N (slc 1 (List.map ah r.1)),nw N (slc 1 (List.map ah r.2))]):=by
 refine aN Tryz.func193 rfl (Nat.le_of_ble_eq_true rfl) (fun cG M vs hN hvs=>?_)
 unfold dP at h
 refine sr<|ag rfl<|aI rfl (aA (N:=N) (n:=1) (e:=ah))<|dn<|bh (fW 4 304 130 1 rfl rfl T)<|qq<|ak<|sr<|mv rfl<|mv rfl<|bE h fun dB eI h=>cl (dr eI) ⟨rfl,rfl,trivial⟩<|lE h fun fB fT h=>ls _ rfl rfl fT<|ag rfl<|dn ?_
 cases fB
 refine cF<|sr<|mv rfl<|lE (F h) fun ek gV h=>ln rfl gV<|lE h fun kW kx h=>RT.leq .none _ rfl rfl T kx<|ag rfl<|dn ?_
 cases kW
 refine cF<|sr<|mv rfl<|lE (F h) fun oC pL h=>ln rfl pL<|lE h fun tf xU h=>eq _ rfl rfl (vh (p:=oC) (q:=1) xU)<|ag rfl<|dn ?_
 cases tf
 refine cF<|aE<|aG.n<|ae.n<|sr<|mv rfl<|mv rfl ?_
 obtain⟨⟨UT,UU⟩,zg,h⟩:=bS (F h)
 refine RT.aX .none (zB N zg) hN rfl ⟨rfl,rfl,trivial⟩ T<|ex rfl rfl<|ex rfl rfl<|ag rfl<|ag rfl<|dn<|aj ?_
 obtain rfl:=O h
 exact R2 rfl rfl
 refine cT<|sr<|mv rfl<|bE (V h) fun tg BX h=>cN (mQ BX) ⟨rfl,trivial⟩<|an (s:=.row _) rfl<|dn<|sr<|mo (s:=.row _) rfl<|mv rfl<|bE h fun rB ze h=>ix rfl rfl ze<|lr rfl rfl<|lE h fun vJ zh h=>cv _ rfl (UK.nat zh) ?_
 obtain⟨⟨Di,l5⟩,I1,h⟩:=bS h
 refine bE h fun _ he5 h=>cR (l:=tg) (l':=l5) (e:=ah) (pS I1) (iC he5) 39 rfl (.cons rfl (.cons rfl (.nil)))<|ag rfl<|dn<|sr<|mo (s:=.row _) rfl<|mv rfl<|lE h fun sO h48 h=>cv _ rfl (UK.nat h48)<|RT.yg (l:=[sO]) (e:=ah) .none hN (.one rfl (.nil)) T rfl rfl rfl rfl rfl rfl<|an (s:=.row _) rfl<|ag rfl<|dn<|iM (i:=39) (E1:=130) (n:=1) (e:=ah) (l:=l5) hN (fun _ h=>h) rfl ?_
 refine aj<|aG.r<|ae.r ?_
 obtain rfl:=O h
 exact R2 rfl rfl
 refine cT<|sr<|mv rfl<|bE (V h) fun iv nS h=>cl (dg nS) ⟨rfl,trivial⟩<|mv rfl<|bE h fun kA qL h=>cl (dg qL) ⟨rfl,trivial⟩<|ag rfl<|ag rfl<|dn<|qq<|ai mixed<|mv rfl<|mv rfl<|bE h fun lI nT h=>RT.quo .none _ rfl rfl T (nzU nT) (UK.quo nT) ?_
 obtain⟨⟨sP,qK⟩,m7,h⟩:=bS h
 refine RT.aX .none (jR N m7) hN rfl ⟨rfl,rfl,trivial⟩ T<|fl rfl rfl<|mv rfl<|mv rfl<|bE h fun td xS h=>RT.rem .none _ rfl rfl T (XY xS) (KY xS) ?_
 obtain⟨⟨kX,kC⟩,kz,h⟩:=bS h
 refine RT.aX .none (jR N kz) hN rfl ⟨rfl,rfl,trivial⟩ T<|fl rfl rfl<|ag rfl<|ag rfl ?_
 refine RT.done ⟨by kernel_rfl,?_⟩
 refine ae.n<|aj<|aG.r<|ae.r ?_
 obtain rfl:=O h
 exact R2 rfl rfl
 refine cT<|sr<|mv rfl<|bE (V h) fun dA fE h=>RT.aX .none (nU N fE) hN rfl ⟨rfl,trivial⟩ T<|ag rfl<|ag rfl<|dn<|bh (fW 4 310 130 1 rfl rfl T)<|iM (i:=310) (E1:=130) (n:=1) (e:=ah) (l:=[]) hN (fun _ h=>h) rfl<|aj<|aG.r<|ae.r ?_
 obtain rfl:=O h
 exact R2 rfl rfl
end Go.Proofs.YtningmnklfpfjaaGreat
namespace Go.Proofs.YtningmnklfpfjaaGreat
open Go.Fw Go.Fw.Z Go.RowKit
theorem gi{x0:Int}(N:Nat){r:Zr}(h:bw x0=some r):cJ Tryz.prog 90 N [.v (.int .i64 x0)] (.agg ((fZ N) r)):=by
 refine aN Tryz.func90 rfl (Nat.le_of_ble_eq_true rfl) (fun cG M vs hN hvs=>?_)
 unfold bw at h
 refine sr<|al (cs:=[.v (.bool false),nw N (slc 1 (List.map ah []))]) (by exact⟨SV.aa _,aA,trivial⟩) rfl<|dn<|sr<|mv rfl<|lE h fun x5 h5 h=>cv _ rfl (UK.conv h5)<|ag rfl<|dn<|qq<|sr<|mv rfl<|lE h fun x7 h7 h=>ls _ rfl rfl h7<|dn ?_
 refine aF h (fun j2=>AS.bG 14 [(0,.sv (.v (.int .i64 x0))),(2,.ptr 2 0),(3,.sv (.v (.int .u64 ((j2:Nat):Int))))] [(2,⟨41,[.sv (.v (.bool false)),.sv (nw N (slc 1 (List.map ah [])))]⟩)] []) (fun h=>?_) (fun UW h=>?_)
 cases x7
 exact fs<|⟨x5,(F h),wR []⟩
 exact cT<|af<|mv rfl<|lE (V h) fun x9 h9 h=>RT.neg .none _ rfl T (UK.neg h9)<|ag rfl<|dn<|⟨x9,h,wR []⟩
 try dsimp only
 refine ae.n<|sr<|mv rfl<|lE h fun gU mB h=>ls _ rfl rfl mB<|mv rfl ?_
 obtain⟨⟨Ec,Ed⟩,fT,h⟩:=bS h
 refine RT.aX .none (jR N fT) hN rfl ⟨rfl,rfl,trivial⟩ T<|so rfl rfl rfl<|dn<|aj ?_
 obtain rfl:=O h
 exact RZ (.agg rfl rfl (.cons rfl (.cons rfl (.nil))) rfl (.nil))
theorem oZ{x0:Bool}{x1:List Nat}{x2:Bool}{x3:List Nat}(N:Nat){r:Zr}(h:cf x0 x1 x2 x3=some r):cJ Tryz.prog 203 N [.v (.bool x0),slc 1 (List.map ah x1),.v (.bool x2),slc 1 (List.map ah x3)] (.agg ((fZ N) r)):=by
 refine aN Tryz.func203 rfl (Nat.le_of_ble_eq_true rfl) (fun cG M vs hN hvs=>?_)
 unfold cf at h
 refine sr<|al (cs:=[.v (.bool false),nw N (slc 1 (List.map ah []))]) (by exact⟨SV.aa _,aA,trivial⟩) rfl<|dn<|qq<|sr<|mv rfl<|mv rfl<|lE h fun gU mB h=>RT.Yp .none _ rfl rfl T mB<|dn ?_
 cases gU
 refine fs<|qq<|sr<|mv rfl<|mv rfl<|bE (F h) fun kW kx h=>cl (dr kx) ⟨rfl,rfl,trivial⟩<|lE h fun gB lM h=>ls _ rfl rfl lM<|dn ?_
 cases gB
 refine fs<|sr<|mv rfl<|mv rfl<|mv rfl<|bE (F h) fun gH iT h=>RT.aX .none (lT N iT) hN rfl ⟨rfl,rfl,trivial⟩ T ?_
 obtain⟨⟨oK,oL⟩,wV,h⟩:=bS h
 refine RT.aX .none (e5 N wV) hN rfl ⟨rfl,rfl,trivial⟩ T<|so rfl rfl rfl<|dn<|aj ?_
 obtain rfl:=O h
 exact RZ (.agg rfl rfl (.cons rfl (.cons rfl (.nil))) rfl (.nil))
 refine cT<|sr<|mv rfl<|mv rfl<|mv rfl<|bE (V h) fun fR kD h=>RT.aX .none (lT N kD) hN rfl ⟨rfl,rfl,trivial⟩ T ?_
 obtain⟨⟨ik,hG⟩,qM,h⟩:=bS h
 refine RT.aX .none (e5 N qM) hN rfl ⟨rfl,rfl,trivial⟩ T<|so rfl rfl rfl<|dn<|aj<|ae.r ?_
 obtain rfl:=O h
 exact RZ (.agg rfl rfl (.cons rfl (.cons rfl (.nil))) rfl (.nil))
 refine cT<|sr<|mv rfl<|mv rfl<|mv rfl<|bE (V h) fun dA fE h=>RT.aX .none (pY N fE) hN rfl ⟨rfl,rfl,trivial⟩ T ?_
 obtain⟨⟨jz,jA⟩,iQ,h⟩:=bS h
 refine RT.aX .none (e5 N iQ) hN rfl ⟨rfl,rfl,trivial⟩ T<|so rfl rfl rfl<|dn<|aj<|ae.r ?_
 obtain rfl:=O h
 exact RZ (.agg rfl rfl (.cons rfl (.cons rfl (.nil))) rfl (.nil))
theorem FE{x0:Zr}{x1:Zr}(N:Nat){r:Zr}(h:jB x0 x1=some r):cJ Tryz.prog 188 N [.agg (eZ x0),.agg (eZ x1)] (.agg ((fZ N) r)):=by
 obtain⟨aB,aC⟩:=x0
 obtain⟨bF,bC⟩:=x1
 refine aN Tryz.func188 rfl (Nat.le_of_ble_eq_true rfl) (fun cG M vs hN hvs=>?_)
 unfold jB at h
 refine sr<|bx rfl<|bx rfl<|al (cs:=[.v (.bool false),nw N (slc 1 (List.map ah []))]) (by exact⟨SV.aa _,aA,trivial⟩) rfl<|dn<|sr<|ld rfl rfl (.cons rfl (.cons rfl (.nil))) ?_
 obtain⟨⟨xQ,BK⟩,eI,h⟩:=bS h
 refine cl (cP eI) ⟨rfl,trivial⟩<|mv rfl<|ex rfl rfl<|ex rfl rfl<|ag rfl<|ag rfl<|dn<|sr<|ld rfl rfl (.cons rfl (.cons rfl (.nil))) ?_
 obtain⟨⟨yY,BL⟩,jD,h⟩:=bS h
 refine cl (cP jD) ⟨rfl,trivial⟩<|mv rfl<|ex rfl rfl<|ex rfl rfl<|ag rfl<|ag rfl<|dn<|qq<|qq ?_
 refine aF h (fun j3=>AS.bG 48 [(2,.ptr 2 0),(3,.ptr 3 0),(4,.ptr 4 0),(5,.sv (.v (.int .i64 xQ))),(7,.sv (.v (.int .i64 yY))),(23,.sv (.v (.bool j3)))] [(4,⟨41,[.sv (.v (.bool false)),.sv (nw N (slc 1 (List.map ah [])))]⟩),(3,⟨41,[.sv (.v (.bool bF)),.sv (slc 1 (List.map ah bC))]⟩),(2,⟨41,[.sv (.v (.bool aB)),.sv (slc 1 (List.map ah aC))]⟩)] []) (fun h=>?_) (fun tW h=>?_)
 refine af<|mv rfl<|mv rfl<|bE h fun BM wm h=>?_
 cases BK
 obtain rfl:=O (F wm)
 exact ww<|pF rfl<|dn<|⟨false,h,wR []⟩
 refine gm rfl ?_
 obtain rfl:=O (V wm)
 exact pT rfl<|dn<|⟨BL,h,wR []⟩
 try dsimp only
 refine ae.n ?_
 refine aF h (fun j5=>AS.bG 48 [(2,.ptr 2 0),(3,.ptr 3 0),(4,.ptr 4 0)] [(4,⟨41,[.sv (.v (.bool false)),.sv (nw N (slc 1 (List.map ah [])))]⟩),(3,⟨41,[.sv (.v (.bool bF)),.sv (slc 1 (List.map ah bC))]⟩),(2,⟨41,[.sv (.v (.bool aB)),.sv (slc 1 (List.map ah aC))]⟩)] []) (fun h=>?_) (fun j5 h=>?_)
 cases tW
 exact fs<|⟨(),(F h),wR []⟩
 refine cT<|sr<|mv rfl<|mv rfl<|lE (V h) fun lI nT h=>ad _ rfl rfl nT<|ag rfl<|dn<|sr<|mv rfl<|mv rfl<|lE h fun gH iT h=>RT.xor .none _ rfl rfl T iT<|mv rfl<|mv rfl<|lE h fun iD kz h=>RT.xor .none _ rfl rfl T kz<|lE h fun rS rZ h=>RT.and .none _ rfl rfl T rZ<|lE h fun pH ql h=>ge _ rfl rfl ql<|dn ?_
 cases pH
 exact fs<|⟨(),(F h),wR []⟩
 refine cT<|sr<|mv rfl ?_
 obtain⟨⟨tX,tY⟩,pL,h⟩:=bS (V h)
 refine RT.aX .none (gi N pL) hN rfl ⟨rfl,trivial⟩ T<|so rfl rfl rfl<|dn<|aj<|ae.r<|ae.r ?_
 obtain rfl:=O h
 exact RZ (.agg rfl rfl (.cons rfl (.cons rfl (.nil))) rfl (.nil))
 try dsimp only
 refine ae.n<|qq<|ai mixed<|fa rfl rfl<|lV rfl rfl rfl<|fa rfl rfl<|lV rfl rfl rfl<|bE h fun rP zb h=>cl (aS zb) ⟨rfl,trivial⟩<|fa rfl rfl<|lV rfl rfl rfl<|fa rfl rfl<|lV rfl rfl rfl<|bE h fun vp h46 h=>cl (aS h46) ⟨rfl,trivial⟩ ?_
 obtain⟨⟨Ee,Ef⟩,wW,h⟩:=bS h
 refine RT.aX .none (oZ N wW) hN rfl ⟨rfl,rfl,rfl,rfl,trivial⟩ T<|so rfl rfl rfl ?_
 refine RT.done ⟨by kernel_rfl,?_⟩
 refine ae.n<|aj ?_
 obtain rfl:=O h
 exact RZ (.agg rfl rfl (.cons rfl (.cons rfl (.nil))) rfl (.nil))
theorem FF{x0:Zr}{x1:Zr}(N:Nat){r:Zr}(h:jC x0 x1=some r):cJ Tryz.prog 190 N [.agg (eZ x0),.agg (eZ x1)] (.agg ((fZ N) r)):=by
 obtain⟨aB,aC⟩:=x0
 obtain⟨bF,bC⟩:=x1
 refine aN Tryz.func190 rfl (Nat.le_of_ble_eq_true rfl) (fun cG M vs hN hvs=>?_)
 unfold jC at h
 refine sr<|bx rfl<|bx rfl<|al (cs:=[.v (.bool false),nw N (slc 1 (List.map ah []))]) (by exact⟨SV.aa _,aA,trivial⟩) rfl<|dn<|sr<|ld rfl rfl (.cons rfl (.cons rfl (.nil))) ?_
 obtain⟨⟨xQ,BK⟩,eI,h⟩:=bS h
 refine cl (cP eI) ⟨rfl,trivial⟩<|mv rfl<|ex rfl rfl<|ex rfl rfl<|ag rfl<|ag rfl<|dn<|sr<|ld rfl rfl (.cons rfl (.cons rfl (.nil))) ?_
 obtain⟨⟨yY,BL⟩,jD,h⟩:=bS h
 refine cl (cP jD) ⟨rfl,trivial⟩<|mv rfl<|ex rfl rfl<|ex rfl rfl<|ag rfl<|ag rfl<|dn<|qq<|qq ?_
 refine aF h (fun j3=>AS.bG 49 [(2,.ptr 2 0),(3,.ptr 3 0),(4,.ptr 4 0),(5,.sv (.v (.int .i64 xQ))),(7,.sv (.v (.int .i64 yY))),(23,.sv (.v (.bool j3)))] [(4,⟨41,[.sv (.v (.bool false)),.sv (nw N (slc 1 (List.map ah [])))]⟩),(3,⟨41,[.sv (.v (.bool bF)),.sv (slc 1 (List.map ah bC))]⟩),(2,⟨41,[.sv (.v (.bool aB)),.sv (slc 1 (List.map ah aC))]⟩)] []) (fun h=>?_) (fun tW h=>?_)
 refine af<|mv rfl<|mv rfl<|bE h fun BM wm h=>?_
 cases BK
 obtain rfl:=O (F wm)
 exact ww<|pF rfl<|dn<|⟨false,h,wR []⟩
 refine gm rfl ?_
 obtain rfl:=O (V wm)
 exact pT rfl<|dn<|⟨BL,h,wR []⟩
 try dsimp only
 refine ae.n ?_
 refine aF h (fun j5=>AS.bG 49 [(2,.ptr 2 0),(3,.ptr 3 0),(4,.ptr 4 0)] [(4,⟨41,[.sv (.v (.bool false)),.sv (nw N (slc 1 (List.map ah [])))]⟩),(3,⟨41,[.sv (.v (.bool bF)),.sv (slc 1 (List.map ah bC))]⟩),(2,⟨41,[.sv (.v (.bool aB)),.sv (slc 1 (List.map ah aC))]⟩)] []) (fun h=>?_) (fun j5 h=>?_)
 cases tW
 exact fs<|⟨(),(F h),wR []⟩
 refine cT<|sr<|mv rfl<|mv rfl<|lE (V h) fun lI nT h=>sb _ rfl rfl nT<|ag rfl<|dn<|sr<|mv rfl<|mv rfl<|lE h fun gH iT h=>RT.xor .none _ rfl rfl T iT<|mv rfl<|mv rfl<|lE h fun iD kz h=>RT.xor .none _ rfl rfl T kz<|lE h fun rS rZ h=>RT.and .none _ rfl rfl T rZ<|lE h fun pH ql h=>ge _ rfl rfl ql<|dn ?_
 cases pH
 exact fs<|⟨(),(F h),wR []⟩
 refine cT<|sr<|mv rfl ?_
 obtain⟨⟨tX,tY⟩,pL,h⟩:=bS (V h)
 refine RT.aX .none (gi N pL) hN rfl ⟨rfl,trivial⟩ T<|so rfl rfl rfl<|dn<|aj<|ae.r<|ae.r ?_
 obtain rfl:=O h
 exact RZ (.agg rfl rfl (.cons rfl (.cons rfl (.nil))) rfl (.nil))
 try dsimp only
 refine ae.n<|qq<|ai mixed<|fa rfl rfl<|lV rfl rfl rfl<|fa rfl rfl<|lV rfl rfl rfl<|bE h fun rP zb h=>cl (aS zb) ⟨rfl,trivial⟩<|fa rfl rfl<|lV rfl rfl rfl<|lE h fun vJ zh h=>nt rfl _ zh<|fa rfl rfl<|lV rfl rfl rfl<|bE h fun tQ wW h=>cl (aS wW) ⟨rfl,trivial⟩ ?_
 obtain⟨⟨Nh,Ni⟩,h48,h⟩:=bS h
 refine RT.aX .none (oZ N h48) hN rfl ⟨rfl,rfl,rfl,rfl,trivial⟩ T<|so rfl rfl rfl ?_
 refine RT.done ⟨by kernel_rfl,?_⟩
 refine ae.n<|aj ?_
 obtain rfl:=O h
 exact RZ (.agg rfl rfl (.cons rfl (.cons rfl (.nil))) rfl (.nil))
theorem gL{x0:Zr}{x1:Zr}(N:Nat){r:Zr}(h:cu x0 x1=some r):cJ Tryz.prog 130 N [.agg (eZ x0),.agg (eZ x1)] (.agg ((fZ N) r)):=by
 obtain⟨aB,aC⟩:=x0
 obtain⟨bF,bC⟩:=x1
 refine aN Tryz.func130 rfl (Nat.le_of_ble_eq_true rfl) (fun cG M vs hN hvs=>?_)
 unfold cu at h
 refine sr<|bx rfl<|bx rfl<|al (cs:=[.v (.bool false),nw N (slc 1 (List.map ah []))]) (by exact⟨SV.aa _,aA,trivial⟩) rfl<|dn<|qq<|ai mixed<|fa rfl rfl<|lV rfl rfl rfl<|bE h fun x9 h9 h=>cl (aS h9) ⟨rfl,trivial⟩<|fa rfl rfl<|lV rfl rfl rfl<|bE h fun dB eI h=>cl (aS eI) ⟨rfl,trivial⟩<|ag rfl<|ag rfl ?_
 refine RT.done ⟨by kernel_rfl,?_⟩
 refine ae.n<|qq<|qq ?_
 refine aF h (fun j3=>AS.bG 41 [(2,.ptr 2 0),(3,.ptr 3 0),(4,.ptr 4 0),(5,.sv (slc 1 (List.map ah x9))),(6,.sv (slc 1 (List.map ah dB))),(20,.sv (.v (.bool j3)))] [(4,⟨41,[.sv (.v (.bool false)),.sv (nw N (slc 1 (List.map ah [])))]⟩),(3,⟨41,[.sv (.v (.bool bF)),.sv (slc 1 (List.map ah bC))]⟩),(2,⟨41,[.sv (.v (.bool aB)),.sv (slc 1 (List.map ah aC))]⟩)] []) (fun h=>?_) (fun GP h=>?_)
 refine af<|mv rfl<|lE h fun eU jg h=>ln rfl jg<|lE h fun dA fE h=>RT.leq .none _ rfl rfl T fE<|mv rfl<|bE h fun Nl m8 h=>?_
 cases dA
 obtain rfl:=O (F m8)
 exact ww<|ww<|ww<|pF rfl<|dn<|⟨false,h,wR []⟩
 refine gm rfl<|lE (V m8) fun ek gV m8=>gn rfl gV<|lE m8 fun kW kx m8=>RT.leq (.some rfl rfl) _ rfl rfl T kx ?_
 obtain rfl:=O m8
 exact pT rfl<|dn<|⟨kW,h,wR []⟩
 try dsimp only
 refine ae.n ?_
 cases GP
 refine fs<|qq<|ai mixed<|fa rfl rfl<|lV rfl rfl rfl<|fa rfl rfl<|lV rfl rfl rfl<|lE (F h) fun oC pL h=>RT.KQ .none _ rfl rfl T pL<|mv rfl<|mv rfl<|bE h fun tg BX h=>RT.aX .none (yh N BX) hN rfl ⟨rfl,rfl,trivial⟩ T ?_
 obtain⟨⟨tZ,ua⟩,nO,h⟩:=bS h
 refine RT.aX .none (e5 N nO) hN rfl ⟨rfl,rfl,trivial⟩ T<|so rfl rfl rfl ?_
 refine RT.done ⟨by kernel_rfl,?_⟩
 refine ae.n<|aj ?_
 obtain rfl:=O h
 exact RZ (.agg rfl rfl (.cons rfl (.cons rfl (.nil))) rfl (.nil))
 refine cT<|qq<|ai mixed<|fa rfl rfl<|lV rfl rfl rfl<|fa rfl rfl<|lV rfl rfl rfl<|lE (V h) fun yH qM h=>RT.KQ .none _ rfl rfl T qM<|mv rfl<|bE h fun kq m7 h=>cl (dg m7) ⟨rfl,trivial⟩<|mv rfl<|bE h fun gH iT h=>cl (dg iT) ⟨rfl,trivial⟩<|lE h fun yW wV h=>RT.mul .none _ rfl rfl T (UK.mul (a:=kq) (b:=gH) wV) ?_
 obtain⟨⟨Nj,Nk⟩,xS,h⟩:=bS h
 refine RT.aX .none (jR N xS) hN rfl ⟨rfl,rfl,trivial⟩ T<|so rfl rfl rfl ?_
 refine RT.done ⟨by kernel_rfl,?_⟩
 refine ae.n<|aj<|ae.r ?_
 obtain rfl:=O h
 exact RZ (.agg rfl rfl (.cons rfl (.cons rfl (.nil))) rfl (.nil))
theorem yj{x0:Zr}(N:Nat){r:Zr}(h:eV x0=some r):cJ Tryz.prog 145 N [.agg (eZ x0)] (.agg ((fZ N) r)):=by
 obtain⟨aB,aC⟩:=x0
 refine aN Tryz.func145 rfl (Nat.le_of_ble_eq_true rfl) (fun cG M vs hN hvs=>?_)
 unfold eV at h
 refine sr<|bx rfl<|al (cs:=[.v (.bool false),nw N (slc 1 (List.map ah []))]) (by exact⟨SV.aa _,aA,trivial⟩) rfl<|dn<|qq<|ai mixed<|fa rfl rfl<|lV rfl rfl rfl<|lE h fun x5 h5 h=>nt rfl _ h5<|fa rfl rfl<|lV rfl rfl rfl<|bE h fun x8 h8 h=>cl (aS h8) ⟨rfl,trivial⟩<|bE h fun x9 h9 h=>RT.aX .none (nU N h9) hN rfl ⟨rfl,trivial⟩ T ?_
 obtain⟨⟨BN,BO⟩,fD,h⟩:=bS h
 refine RT.aX .none (e5 N fD) hN rfl ⟨rfl,rfl,trivial⟩ T<|so rfl rfl rfl ?_
 refine RT.done ⟨by kernel_rfl,?_⟩
 refine ae.n<|aj ?_
 obtain rfl:=O h
 exact RZ (.agg rfl rfl (.cons rfl (.cons rfl (.nil))) rfl (.nil))
theorem s9{x0:Zr}{x1:Zr}(N:Nat){r:Zr×Zr×Int}(h:dx x0 x1=some r):cJ Tryz.prog 169 N [.agg (eZ x0),.agg (eZ x1)] (.vW [.agg ((fZ N) r.1),.agg ((fZ N) r.2.1),.v (.int .i64 r.2.2)]):=by
 obtain⟨aB,aC⟩:=x0
 obtain⟨bF,bC⟩:=x1
 refine aN Tryz.func169 rfl (Nat.le_of_ble_eq_true rfl) (fun cG M vs hN hvs=>?_)
 unfold dx at h
 refine sr<|bx rfl<|bx rfl<|al (cs:=[.v (.bool false),nw N (slc 1 (List.map ah []))]) (by exact⟨SV.aa _,aA,trivial⟩) rfl<|al (cs:=[.v (.bool false),nw N (slc 1 (List.map ah []))]) (by exact⟨SV.aa _,aA,trivial⟩) rfl<|ag rfl<|dn<|qq<|ai mixed<|fa rfl rfl<|lV rfl rfl rfl<|bE h fun fB fT h=>cl (aS fT) ⟨rfl,trivial⟩<|fa rfl rfl ?_
 refine lV rfl rfl rfl<|bE h fun gu iQ h=>cl (aS iQ) ⟨rfl,trivial⟩<|ag rfl<|ag rfl ?_
 refine RT.done ⟨by kernel_rfl,?_⟩
 refine ae.n<|qq<|sr<|mv rfl<|lE h fun ek gV h=>ln rfl gV<|lE h fun kW kx h=>eq _ rfl rfl (vh (p:=ek) (q:=0) kx)<|dn ?_
 cases kW
 refine fs<|sr<|mv rfl<|mv rfl ?_
 obtain⟨⟨GQ,UX⟩,qM,h⟩:=bS (F h)
 refine RT.aX .none (pZ N qM) hN rfl ⟨rfl,rfl,trivial⟩ T<|mv rfl<|ex rfl rfl<|ex rfl rfl<|ag rfl<|ag rfl<|dn<|sr<|mv rfl<|bE h fun gH iT h=>RT.aX .none (qp N iT) hN rfl ⟨rfl,trivial⟩ T<|ag rfl<|dn<|qq<|qq ?_
 refine aF h (fun j3=>AS.bG 52 [(2,.ptr 2 0),(3,.ptr 3 0),(4,.ptr 4 0),(5,.ptr 5 0),(8,.sv (slc 1 (List.map ah gu))),(9,.sv (nw N (slc 1 (List.map ah GQ)))),(10,.sv (nw N (slc 1 (List.map ah gH)))),(36,.sv (.v (.bool j3.1)))] [(5,⟨41,[.sv (.v (.bool false)),.sv (nw N (slc 1 (List.map ah [])))]⟩),(4,⟨41,[.sv (.v (.bool false)),.sv (nw N (slc 1 (List.map ah [])))]⟩),(3,⟨41,[.sv (.v (.bool bF)),.sv (slc 1 (List.map ah bC))]⟩),(2,⟨41,[.sv (.v (.bool j3.2)),.sv (slc 1 (List.map ah aC))]⟩)] []) (fun h=>?_) (fun j3 h=>?_)
 refine af<|fa rfl rfl<|lV rfl rfl rfl<|mv rfl<|bE h fun Np wm h=>?_
 cases aB
 obtain rfl:=O (F wm)
 exact ww<|ww<|ww<|pF rfl<|dn<|⟨(false,false),h,wR []⟩
 refine gm rfl<|lE (V wm) fun pH ql wm=>RT.Ew (.some rfl rfl) rfl T ql<|lE wm fun rO za wm=>gg _ rfl rfl za ?_
 obtain rfl:=O wm
 exact pT rfl<|dn<|⟨(rO,true),h,wR []⟩
 obtain⟨GR,BP⟩:=j3
 try dsimp only
 refine ae.n ?_
 refine aF h (fun j5=>AS.bG 52 [(2,.ptr 2 0),(3,.ptr 3 0),(4,.ptr 4 0),(5,.ptr 5 0),(9,.sv (nw N (slc 1 (List.map ah j5.1)))),(10,.sv (nw N (slc 1 (List.map ah j5.2))))] [(5,⟨41,[.sv (.v (.bool false)),.sv (nw N (slc 1 (List.map ah [])))]⟩),(4,⟨41,[.sv (.v (.bool false)),.sv (nw N (slc 1 (List.map ah [])))]⟩),(3,⟨41,[.sv (.v (.bool bF)),.sv (slc 1 (List.map ah bC))]⟩),(2,⟨41,[.sv (.v (.bool BP)),.sv (slc 1 (List.map ah aC))]⟩)] []) (fun h=>?_) (fun j5 h=>?_)
 cases GR
 exact fs<|⟨(GQ,gH),(F h),wR []⟩
 exact cT<|sr<|mv rfl<|RT.yg (l:=[1]) (e:=ah) .none hN (.one rfl (.nil)) T rfl rfl rfl rfl rfl rfl<|bE (V h) fun tg BX h=>RT.aX .none ((pY N BX).w (args':=[_,_]) ⟨eJ,eJ,trivial⟩) hN rfl ⟨rfl,rfl,trivial⟩ T<|ag rfl<|dn<|af<|mv rfl<|mv rfl<|bE h fun rB ze h=>RT.aX .none ((lT N ze).w (args':=[_,_]) ⟨(SV.aa _),eJ,trivial⟩) hN rfl ⟨rfl,rfl,trivial⟩ T<|ag rfl<|dn<|⟨(tg,rB),h,wR []⟩
 obtain⟨UY,Nm⟩:=j5
 try dsimp only
 refine ae.n<|sr<|fa rfl rfl<|lV rfl rfl rfl<|fa rfl rfl<|lV rfl rfl rfl<|lE h fun tQ wW h=>RT.KQ .none _ rfl rfl T wW<|mv rfl ?_
 obtain⟨⟨Nn,No⟩,Ny,h⟩:=bS h
 refine RT.aX .none (e5 N Ny) hN rfl ⟨rfl,rfl,trivial⟩ T<|mv rfl ?_
 obtain⟨⟨BQ,BR⟩,DE,h⟩:=bS h
 refine RT.aX .none (e5 N DE) hN rfl ⟨rfl,rfl,trivial⟩ T<|so rfl rfl rfl<|so rfl rfl rfl<|ag rfl<|dn<|aj ?_
 obtain rfl:=O h
 exact RZ (.agg rfl rfl (.cons rfl (.cons rfl (.nil))) rfl (.agg rfl rfl (.cons rfl (.cons rfl (.nil))) rfl (.tmp rfl (.nil))))
 refine cT<|sr<|bI (cs:=[_,_]) (cs':=[.v (.bool false),nw N (slc 1 (List.map ah []))]) (.nil) ⟨SV.aa _,aA,trivial⟩<|bI (cs:=[_,_]) (cs':=[.v (.bool false),nw N (slc 1 (List.map ah []))]) (.nil) ⟨SV.aa _,aA,trivial⟩<|so rfl rfl rfl<|so rfl rfl rfl<|ag rfl<|dn<|aj<|ae.r ?_
 obtain rfl:=O (V h)
 exact RZ (.agg rfl rfl (.cons rfl (.cons rfl (.nil))) rfl (.agg rfl rfl (.cons rfl (.cons rfl (.nil))) rfl (.tmp rfl (.nil))))
theorem FG{x0:Zr}{x1:Zr}(N:Nat){r:Zr}(h:iz x0 x1=some r):cJ Tryz.prog 168 N [.agg (eZ x0),.agg (eZ x1)] (.agg ((fZ N) r)):=by
 obtain⟨aB,aC⟩:=x0
 obtain⟨bF,bC⟩:=x1
 refine aN Tryz.func168 rfl (Nat.le_of_ble_eq_true rfl) (fun cG M vs hN hvs=>?_)
 unfold iz at h
 refine sr<|bx rfl<|bx rfl<|al (cs:=[.v (.bool false),nw N (slc 1 (List.map ah []))]) (by exact⟨SV.aa _,aA,trivial⟩) rfl<|dn<|qq<|ai mixed<|fa rfl rfl<|lV rfl rfl rfl<|bE h fun fB fT h=>cl (aS fT) ⟨rfl,trivial⟩<|fa rfl rfl<|lV rfl rfl rfl<|bE h fun gu iQ h=>cl (aS iQ) ⟨rfl,trivial⟩<|ag rfl<|ag rfl ?_
 refine RT.done ⟨by kernel_rfl,?_⟩
 refine ae.n<|qq<|bE h fun M3 Fi jh=>?_
 refine aV (fun(qN:(List Nat)×(List Nat))=>AS.bG 57 [(4,.ptr 4 0),(5,.sv (slc 1 (List.map ah qN.1))),(6,.sv (slc 1 (List.map ah qN.2)))] [(4,⟨41,[.sv (.v (.bool false)),.sv (nw N (slc 1 (List.map ah [])))]⟩)] []) (fun qN=>qN=M3) ?_ (fun qN I4=>?_)
 refine ak ?_
 refine aW Fi (fun xN=>AS.bG 57 [(4,.ptr 4 0),(5,.sv (slc 1 (List.map ah xN.1))),(6,.sv (slc 1 (List.map ah xN.2)))] [(4,⟨41,[.sv (.v (.bool false)),.sv (nw N (slc 1 (List.map ah [])))]⟩)] []) (wR []) (fun xN y12 G12 h I5 I6=>?_)
 obtain⟨vK,yZ⟩:=xN
 try dsimp only
 refine qq<|qq ?_
 refine aF h (fun Zt=>AS.bG 57 [(4,.ptr 4 0),(5,.sv (slc 1 (List.map ah vK))),(6,.sv (slc 1 (List.map ah yZ))),(29,.sv (.v (.bool Zt)))] [(4,⟨41,[.sv (.v (.bool false)),.sv (nw N (slc 1 (List.map ah [])))]⟩)] []) (fun h=>?_) (fun BS h=>?_)
 refine af<|mv rfl<|lE h fun ek gV h=>ln rfl gV<|lE h fun kW kx h=>gt _ rfl rfl kx<|mv rfl<|bE h fun I0 ju h=>?_
 cases kW
 obtain rfl:=O (F ju)
 exact ww<|ww<|ww<|ww<|wu<|wu<|wu<|ww<|pF rfl<|dn<|⟨false,h,wR []⟩
 refine gm rfl<|lE (V ju) fun iP mD ju=>gn rfl mD<|lE ju fun kA qL ju=>gg _ rfl rfl qL<|gm rfl<|bE ju fun IZ kF ju=>?_
 cases kA
 refine gm rfl<|lE (F kF) fun lI nT kF=>gn rfl nT<|lE kF fun kq m7 kF=>gg _ rfl rfl m7 ?_
 obtain rfl:=O kF
 refine gF rfl ?_
 obtain rfl:=O ju
 exact pT rfl<|dn<|⟨kq,h,wR []⟩
 obtain rfl:=O (V kF)
 refine ww<|ww<|ww<|gT rfl ?_
 obtain rfl:=O ju
 exact pT rfl<|dn<|⟨true,h,wR []⟩
 try dsimp only
 refine ae.n ?_
 cases BS
 refine cF<|aZ<|ae.x<|ae.x<|aG.x<|ae.n ?_
 obtain rfl:=O (F h)
 exact⟨(vK,yZ),I6 _ rfl,wR []⟩
 refine cT<|aE<|ae.n<|ak<|sr<|mv rfl<|mv rfl ?_
 obtain⟨⟨Zf,UZ⟩,rZ,h⟩:=bS (V h)
 refine RT.aX .none (pZ N rZ) hN rfl ⟨rfl,rfl,trivial⟩ T<|mv rfl<|ex rfl rfl<|ex rfl rfl<|ag rfl<|ag rfl<|dn<|af<|mv rfl<|mv rfl<|bE h fun Al GS h=>RT.aX .none (qp N GS) hN rfl ⟨rfl,trivial⟩ T<|ag rfl<|ag rfl<|RT.done<|aG.n ?_
 obtain rfl:=O h
 exact ae.n ⟨(yZ,Al),I5 _ rfl,cH id rfl rfl rfl rfl rfl ⟨.ptr,.sv (SV.aa _),.sv eJ,trivial⟩ ⟨⟨_,rfl,⟨.sv (SV.aa _),.sv (SV.aa _),trivial⟩⟩,trivial⟩ trivial (fun _ _=>rfl)⟩
 subst I4
 obtain⟨JY,JZ⟩:=qN
 try dsimp only
 refine ae.n<|qq<|sr<|mv rfl<|lE jh fun lu nO jh=>ln rfl nO<|lE jh fun rP zb jh=>eq _ rfl rfl (vh (p:=lu) (q:=0) zb)<|dn ?_
 cases rP
 refine fs<|sr<|mv rfl<|bE (F jh) fun vp h46 jh=>cl (dg h46) ⟨rfl,trivial⟩<|mv rfl<|bE jh fun sO h48 jh=>cl (dg h48) ⟨rfl,trivial⟩<|ag rfl<|ag rfl<|dn<|qq<|bE jh fun e24 VR I8=>?_
 refine aV (fun(uc:Nat)=>AS.bG 57 [(4,.ptr 4 0),(9,.sv (.v (.int .u64 ((uc:Nat):Int))))] [(4,⟨41,[.sv (.v (.bool false)),.sv (nw N (slc 1 (List.map ah [])))]⟩)] []) (fun uc=>uc=e24) ?_ (fun uc VS=>?_)
 refine ak ?_
 refine aW VR (fun Nq=>AS.bG 57 [(4,.ptr 4 0),(9,.sv (.v (.int .u64 ((Nq.1:Nat):Int)))),(10,.sv (.v (.int .u64 ((Nq.2:Nat):Int))))] [(4,⟨41,[.sv (.v (.bool false)),.sv (nw N (slc 1 (List.map ah [])))]⟩)] []) (wR []) (fun Nq y24 G24 h VT VU=>?_)
 obtain⟨Ei,rX⟩:=Nq
 try dsimp only
 refine qq<|sr<|mv rfl<|lE h fun vo DD h=>gt _ rfl rfl (YN (p:=0) (q:=rX) DD)<|dn ?_
 cases vo
 refine cF<|aZ<|ae.x<|ae.x<|aG.x<|ae.n ?_
 obtain rfl:=O (F h)
 exact⟨Ei,VU _ rfl,wR []⟩
 refine cT<|aE<|ae.n<|ak<|ai mixed<|mv rfl<|mv rfl<|mv rfl<|bE (V h) fun Dx GX h=>RT.rem .none _ rfl rfl T (XY GX) (KY GX)<|ag rfl<|ag rfl ?_
 refine RT.done ⟨by kernel_rfl,?_⟩
 refine aG.n ?_
 obtain rfl:=O h
 exact ae.n ⟨(rX,Dx),VT _ rfl,wR []⟩
 subst VS
 try dsimp only
 refine ae.n<|sr<|mv rfl ?_
 obtain⟨⟨Nr,Ns⟩,I2,I8⟩:=bS I8
 refine RT.aX .none (jR N I2) hN rfl ⟨rfl,rfl,trivial⟩ T<|so rfl rfl rfl<|dn<|aj ?_
 obtain rfl:=O I8
 exact RZ (.agg rfl rfl (.cons rfl (.cons rfl (.nil))) rfl (.nil))
 refine cT<|sr<|mv rfl<|bE (V jh) fun vn Dj jh=>RT.aX .none (nU N Dj) hN rfl ⟨rfl,trivial⟩ T ?_
 obtain⟨⟨Eg,Eh⟩,zh,jh⟩:=bS jh
 refine RT.aX .none (e5 N zh) hN rfl ⟨rfl,rfl,trivial⟩ T<|so rfl rfl rfl<|dn<|aj<|ae.r ?_
 obtain rfl:=O jh
 exact RZ (.agg rfl rfl (.cons rfl (.cons rfl (.nil))) rfl (.nil))
end Go.Proofs.YtningmnklfpfjaaGreat
namespace Go.Proofs.YtningmnklfpfjaaGreat
open Go.Fw Go.Fw.Z Go.RowKit
theorem lU{x0:Zr}{x1:Zr}(N:Nat){r:Qr}(h:dy x0 x1=some r):cJ Tryz.prog 140 N [.agg (eZ x0),.agg (eZ x1)] (.agg ((fQ N) r)):=by
 obtain⟨aB,aC⟩:=x0
 obtain⟨bF,bC⟩:=x1
 refine aN Tryz.func140 rfl (Nat.le_of_ble_eq_true rfl) (fun cG M vs hN hvs=>?_)
 unfold dy at h
 refine sr<|bx rfl<|bx rfl<|al (cs:=[.v (.bool false),nw N (slc 1 (List.map ah [])),.v (.bool false),nw N (slc 1 (List.map ah []))]) (by exact⟨SV.aa _,aA,SV.aa _,aA,trivial⟩) rfl<|dn<|qq<|sr<|ld rfl rfl (.cons rfl (.cons rfl (.nil)))<|bE h fun x9 h9 h=>cl (dV h9) ⟨rfl,trivial⟩<|lE h fun dm fD h=>ls _ rfl rfl fD<|dn ?_
 refine aF h (fun j2=>AS.bG 46 [(2,.ptr 2 0),(3,.ptr 3 0),(4,.ptr 4 0)] [(4,⟨43,[.sv (.v (.bool false)),.sv (nw N (slc 1 (List.map ah []))),.sv (.v (.bool false)),.sv (nw N (slc 1 (List.map ah [])))]⟩),(3,⟨41,[.sv (.v (.bool j2.1)),.sv (slc 1 (List.map ah j2.2.1))]⟩),(2,⟨41,[.sv (.v (.bool j2.2.2.1)),.sv (slc 1 (List.map ah j2.2.2.2))]⟩)] []) (fun h=>?_) (fun j2 h=>?_)
 cases dm
 exact fs<|⟨(bF,bC,aB,aC),(F h),wR []⟩
 refine cT<|ai mixed<|ld rfl rfl (.cons rfl (.cons rfl (.nil))) ?_
 obtain⟨⟨fY,fO⟩,eI,h⟩:=bS (V h)
 refine RT.aX .none (yj N eI) hN rfl ⟨rfl,trivial⟩ T<|ld rfl rfl (.cons rfl (.cons rfl (.nil))) ?_
 obtain⟨⟨GZ,G0⟩,jg,h⟩:=bS h
 refine RT.aX .none (yj N jg) hN rfl ⟨rfl,trivial⟩ T<|so rfl rfl rfl<|so rfl rfl rfl ?_
 refine RT.done ⟨by kernel_rfl,?_⟩
 exact ae.n<|⟨(GZ,G0,fY,fO),h,cH id rfl rfl rfl rfl rfl ⟨.ptr,.ptr,.ptr,trivial⟩ ⟨⟨_,rfl,⟨.sv (SV.aa _),.sv (SV.aa _),.sv (SV.aa _),.sv (SV.aa _),trivial⟩⟩,⟨_,rfl,⟨.sv (SV.aa _),.sv eJ,trivial⟩⟩,⟨_,rfl,⟨.sv (SV.aa _),.sv eJ,trivial⟩⟩,trivial⟩ trivial (fun _ _=>rfl)⟩
 obtain⟨Fo,Fp,Fq,Fs⟩:=j2
 try dsimp only
 refine ae.n<|sr<|ld rfl rfl (.cons rfl (.cons rfl (.nil)))<|ld rfl rfl (.cons rfl (.cons rfl (.nil))) ?_
 obtain⟨⟨kY,kZ⟩,jD,h⟩:=bS h
 refine RT.aX .none (FG N jD) hN rfl ⟨rfl,rfl,trivial⟩ T<|al (cs:=[.v (.bool false),nw N (slc 1 (List.map ah []))]) (by exact⟨SV.aa _,aA,trivial⟩) rfl<|so rfl rfl rfl<|dn<|sr<|ld rfl rfl (.cons rfl (.cons rfl (.nil)))<|ld rfl rfl (.cons rfl (.cons rfl (.nil))) ?_
 obtain⟨⟨⟨r5,si⟩,⟨NH,NI⟩,Zu⟩,nS,h⟩:=bS h
 refine RT.aX .none ((s9 N nS).w (args':=[_,_]) ⟨(SV.aa _),(SV.jq (show bQ [.v (.bool kY),nw N (slc 1 (List.map ah kZ))] _ from⟨(SV.aa _),eJ,trivial⟩)),trivial⟩) hN rfl ⟨rfl,rfl,trivial⟩ T<|mv rfl<|ex rfl rfl<|ex rfl rfl<|ex rfl rfl<|so rfl rfl rfl<|dn<|sr<|ld rfl rfl (.cons rfl (.cons rfl (.nil)))<|ld rfl rfl (.cons rfl (.cons rfl (.nil))) ?_
 obtain⟨⟨⟨sj,sn⟩,⟨NJ,NK⟩,Zv⟩,rY,h⟩:=bS h
 refine RT.aX .none ((s9 N rY).w (args':=[_,_]) ⟨(SV.aa _),(SV.jq (show bQ [.v (.bool kY),nw N (slc 1 (List.map ah kZ))] _ from⟨(SV.aa _),eJ,trivial⟩)),trivial⟩) hN rfl ⟨rfl,rfl,trivial⟩ T<|mv rfl<|ex rfl rfl<|ex rfl rfl<|ex rfl rfl<|so rfl rfl rfl<|dn<|qq<|sr<|ld rfl rfl (.cons rfl (.cons rfl (.nil))) ?_
 obtain⟨⟨NL,NM⟩,ql,h⟩:=bS h
 refine cl ((cP ql).w (args':=[_]) ⟨(SV.jq (show bQ [.v (.bool sj),nw N (slc 1 (List.map ah sn))] _ from⟨(SV.aa _),eJ,trivial⟩)),trivial⟩) ⟨rfl,trivial⟩<|mv rfl<|ex rfl rfl<|ex rfl rfl<|ag rfl<|ag rfl<|dn<|qq ?_
 refine aF h (fun j5=>AS.bG 46 [(2,.ptr 2 0),(3,.ptr 3 0),(4,.ptr 4 0),(41,.sv (.v (.bool j5)))] [(4,⟨43,[.sv (.v (.bool false)),.sv (nw N (slc 1 (List.map ah []))),.sv (.v (.bool false)),.sv (nw N (slc 1 (List.map ah [])))]⟩),(3,⟨41,[.sv (.v (.bool sj)),.sv (nw N (slc 1 (List.map ah sn)))]⟩),(2,⟨41,[.sv (.v (.bool r5)),.sv (nw N (slc 1 (List.map ah si)))]⟩)] []) (fun h=>?_) (fun GY h=>?_)
 refine af<|mv rfl<|mv rfl<|bE h fun NN B9 h=>?_
 cases NM
 obtain rfl:=O (F B9)
 exact ww<|ww<|pF rfl<|dn<|⟨false,h,wR []⟩
 refine gm rfl<|lE (V B9) fun lu nO B9=>YW _ rfl rfl (vh (p:=NL) (q:=1) nO) ?_
 obtain rfl:=O B9
 exact pT rfl<|dn<|⟨lu,h,wR []⟩
 try dsimp only
 refine ae.n ?_
 refine aF h (fun j7=>AS.bG 46 [(2,.ptr 2 0),(3,.ptr 3 0),(4,.ptr 4 0)] [(4,⟨43,[.sv (.v (.bool false)),.sv (nw N (slc 1 (List.map ah []))),.sv (.v (.bool false)),.sv (nw N (slc 1 (List.map ah [])))]⟩),(3,⟨41,[.sv (.v (.bool j7.1)),.sv (nw N (slc 1 (List.map ah j7.2)))]⟩),(2,⟨41,[.sv (.v (.bool r5)),.sv (nw N (slc 1 (List.map ah si)))]⟩)] []) (fun h=>?_) (fun j7 h=>?_)
 cases GY
 exact fs<|⟨(sj,sn),(F h),wR []⟩
 exact cT<|af<|bI (cs:=[_,_]) (cs':=[.v (.bool false),nw N (slc 1 (List.map ah []))]) (.nil) ⟨SV.aa _,aA,trivial⟩<|so rfl rfl rfl<|dn<|⟨(false,[]),(V h),wR []⟩
 obtain⟨BY,BZ⟩:=j7
 try dsimp only
 refine ae.n<|sr<|ld rfl rfl (.cons rfl (.cons rfl (.nil)))<|ld rfl rfl (.cons rfl (.cons rfl (.nil)))<|bI (cs:=[_,_,_,_]) (cs':=[.v (.bool r5),nw N (slc 1 (List.map ah si)),.v (.bool BY),nw N (slc 1 (List.map ah BZ))]) (.agg rfl (.agg rfl (.nil))) ⟨SV.aa _,SV.aa _,SV.aa _,SV.aa _,trivial⟩<|so rfl rfl rfl<|dn<|aj ?_
 obtain rfl:=O h
 exact RZ (.agg rfl rfl (.cons rfl (.cons rfl (.cons rfl (.cons rfl (.nil))))) rfl (.nil))
theorem nc{x0:Int}{x1:Int}(N:Nat){r:Qr}(h:dY x0 x1=some r):cJ Tryz.prog 135 N [.v (.int .i64 x0),.v (.int .i64 x1)] (.agg ((fQ N) r)):=by
 refine aN Tryz.func135 rfl (Nat.le_of_ble_eq_true rfl) (fun cG M vs hN hvs=>?_)
 unfold dY at h
 refine sr<|al (cs:=[.v (.bool false),nw N (slc 1 (List.map ah [])),.v (.bool false),nw N (slc 1 (List.map ah []))]) (by exact⟨SV.aa _,aA,SV.aa _,aA,trivial⟩) rfl<|dn<|sr<|mv rfl<|mv rfl<|ag rfl<|ag rfl<|dn<|qq<|bE h fun e6 Dy iS=>?_
 refine aV (fun(wY:Int)=>AS.bG 36 [(0,.sv (.v (.int .i64 x0))),(1,.sv (.v (.int .i64 x1))),(4,.ptr 4 0),(5,.sv (.v (.int .i64 wY)))] [(4,⟨43,[.sv (.v (.bool false)),.sv (nw N (slc 1 (List.map ah []))),.sv (.v (.bool false)),.sv (nw N (slc 1 (List.map ah [])))]⟩)] []) (fun wY=>wY=e6) ?_ (fun wY Dz=>?_)
 refine ak ?_
 refine aW Dy (fun s6=>AS.bG 36 [(0,.sv (.v (.int .i64 x0))),(1,.sv (.v (.int .i64 x1))),(4,.ptr 4 0),(5,.sv (.v (.int .i64 s6.1))),(6,.sv (.v (.int .i64 s6.2)))] [(4,⟨43,[.sv (.v (.bool false)),.sv (nw N (slc 1 (List.map ah []))),.sv (.v (.bool false)),.sv (nw N (slc 1 (List.map ah [])))]⟩)] []) (wR []) (fun s6 y6 G6 h DA y7=>?_)
 obtain⟨qF,Fu⟩:=s6
 try dsimp only
 refine qq<|sr<|mv rfl<|lE h fun dm fD h=>ne _ rfl rfl (Gk (p:=Fu) (q:=0) fD)<|dn ?_
 cases dm
 refine cF<|aZ<|ae.x<|ae.x<|aG.x<|ae.n ?_
 obtain rfl:=O (F h)
 exact⟨qF,y7 _ rfl,wR []⟩
 refine cT<|aE<|ae.n<|ak<|ai mixed<|mv rfl<|mv rfl<|mv rfl<|bE (V h) fun eU jg h=>RT.rem .none _ rfl rfl T (YO jg) (YP jg)<|ag rfl<|ag rfl ?_
 refine RT.done ⟨by kernel_rfl,?_⟩
 refine aG.n ?_
 obtain rfl:=O h
 exact ae.n ⟨(Fu,eU),DA _ rfl,wR []⟩
 subst Dz
 try dsimp only
 refine ae.n<|qq<|sr<|mv rfl<|lE iS fun gu iQ iS=>ls _ rfl rfl iQ<|dn ?_
 refine aF iS (fun j8=>AS.bG 36 [(0,.sv (.v (.int .i64 x0))),(1,.sv (.v (.int .i64 x1))),(4,.ptr 4 0),(5,.sv (.v (.int .i64 j8)))] [(4,⟨43,[.sv (.v (.bool false)),.sv (nw N (slc 1 (List.map ah []))),.sv (.v (.bool false)),.sv (nw N (slc 1 (List.map ah [])))]⟩)] []) (fun iS=>?_) (fun G2 iS=>?_)
 cases gu
 exact fs<|⟨wY,(F iS),wR []⟩
 exact cT<|af<|mv rfl<|lE (V iS) fun ek gV iS=>RT.neg .none _ rfl T gV<|ag rfl<|dn<|⟨ek,iS,wR []⟩
 try dsimp only
 refine ae.n<|qq<|sr<|mv rfl<|mv rfl<|lE iS fun iv nS iS=>eq _ rfl rfl (vh (p:=G2) (q:=x1) nS)<|dn ?_
 cases iv
 refine fs<|qq<|ai mixed<|mv rfl<|mv rfl<|bE (F iS) fun gH iT iS=>RT.quo .none _ rfl rfl T (XZ iT) (KZ iT) ?_
 obtain⟨⟨oK,oL⟩,wV,iS⟩:=bS iS
 refine RT.aX .none (gi N wV) hN rfl ⟨rfl,trivial⟩ T<|mv rfl<|mv rfl<|bE iS fun rS rZ iS=>RT.quo .none _ rfl rfl T (XZ rZ) (KZ rZ) ?_
 obtain⟨⟨G3,G4⟩,ql,iS⟩:=bS iS
 refine RT.aX .none (gi N ql) hN rfl ⟨rfl,trivial⟩ T<|bI (cs:=[_,_,_,_]) (cs':=[.v (.bool oK),nw N (slc 1 (List.map ah oL)),.v (.bool G3),nw N (slc 1 (List.map ah G4))]) (.agg rfl (.agg rfl (.nil))) ⟨SV.aa _,SV.aa _,SV.aa _,SV.aa _,trivial⟩<|so rfl rfl rfl ?_
 refine RT.done ⟨by kernel_rfl,?_⟩
 refine ae.n<|aj ?_
 obtain rfl:=O iS
 exact RZ (.agg rfl rfl (.cons rfl (.cons rfl (.cons rfl (.cons rfl (.nil))))) rfl (.nil))
 refine cT<|sr<|mv rfl<|mv rfl<|bE (V iS) fun fR kD iS=>RT.quo .none _ rfl rfl T (XZ kD) (KZ kD) ?_
 obtain⟨⟨ik,hG⟩,qM,iS⟩:=bS iS
 refine RT.aX .none (gi N qM) hN rfl ⟨rfl,trivial⟩ T<|bI (cs:=[_,_,_,_]) (cs':=[.v (.bool ik),nw N (slc 1 (List.map ah hG)),.v (.bool false),nw N (slc 1 (List.map ah []))]) (.agg rfl (.nil)) ⟨SV.aa _,SV.aa _,SV.aa _,aA,trivial⟩<|so rfl rfl rfl<|dn<|aj<|ae.r ?_
 obtain rfl:=O iS
 exact RZ (.agg rfl rfl (.cons rfl (.cons rfl (.cons rfl (.cons rfl (.nil))))) rfl (.nil))
theorem uH{x0:Zr}{x1:Zr}{x2:Zr}{x3:Zr}(N:Nat){r:Zr×Zr}(h:ec x0 x1 x2 x3=some r):cJ Tryz.prog 187 N [.agg (eZ x0),.agg (eZ x1),.agg (eZ x2),.agg (eZ x3)] (.vW [.agg ((fZ N) r.1),.agg ((fZ N) r.2)]):=by
 obtain⟨aB,aC⟩:=x0
 obtain⟨bF,bC⟩:=x1
 obtain⟨lP,lQ⟩:=x2
 obtain⟨vL,vM⟩:=x3
 refine aN Tryz.func187 rfl (Nat.le_of_ble_eq_true rfl) (fun cG M vs hN hvs=>?_)
 unfold ec at h
 refine sr<|bx rfl<|bx rfl<|bx rfl<|bx rfl<|al (cs:=[.v (.bool false),nw N (slc 1 (List.map ah []))]) (by exact⟨SV.aa _,aA,trivial⟩) rfl<|al (cs:=[.v (.bool false),nw N (slc 1 (List.map ah []))]) (by exact⟨SV.aa _,aA,trivial⟩) rfl<|dn<|qq<|ai mixed<|ld rfl rfl (.cons rfl (.cons rfl (.nil)))<|ld rfl rfl (.cons rfl (.cons rfl (.nil))) ?_
 obtain⟨⟨fY,fO⟩,eI,h⟩:=bS h
 refine RT.aX .none (gL N eI) hN rfl ⟨rfl,rfl,trivial⟩ T<|ld rfl rfl (.cons rfl (.cons rfl (.nil)))<|ld rfl rfl (.cons rfl (.cons rfl (.nil))) ?_
 obtain⟨⟨jG,jH⟩,fE,h⟩:=bS h
 refine RT.aX .none (gL N fE) hN rfl ⟨rfl,rfl,trivial⟩ T ?_
 obtain⟨⟨jz,jA⟩,iQ,h⟩:=bS h
 refine RT.aX .none ((FE N iQ).w (args':=[_,_]) ⟨(SV.jq (show bQ [.v (.bool fY),nw N (slc 1 (List.map ah fO))] _ from⟨(SV.aa _),eJ,trivial⟩)),(SV.jq (show bQ [.v (.bool jG),nw N (slc 1 (List.map ah jH))] _ from⟨(SV.aa _),eJ,trivial⟩)),trivial⟩) hN rfl ⟨rfl,rfl,trivial⟩ T<|ld rfl rfl (.cons rfl (.cons rfl (.nil)))<|ld rfl rfl (.cons rfl (.cons rfl (.nil))) ?_
 obtain⟨⟨mE,mF⟩,kx,h⟩:=bS h
 refine RT.aX .none (gL N kx) hN rfl ⟨rfl,rfl,trivial⟩ T<|so rfl rfl rfl<|so rfl rfl rfl ?_
 refine RT.done ⟨by kernel_rfl,?_⟩
 refine ae.n<|aj ?_
 obtain rfl:=O h
 exact RZ (.agg rfl rfl (.cons rfl (.cons rfl (.nil))) rfl (.agg rfl rfl (.cons rfl (.cons rfl (.nil))) rfl (.nil)))
theorem uI{x0:Zr}{x1:Zr}{x2:Zr}{x3:Zr}(N:Nat){r:Zr×Zr}(h:ee x0 x1 x2 x3=some r):cJ Tryz.prog 189 N [.agg (eZ x0),.agg (eZ x1),.agg (eZ x2),.agg (eZ x3)] (.vW [.agg ((fZ N) r.1),.agg ((fZ N) r.2)]):=by
 obtain⟨aB,aC⟩:=x0
 obtain⟨bF,bC⟩:=x1
 obtain⟨lP,lQ⟩:=x2
 obtain⟨vL,vM⟩:=x3
 refine aN Tryz.func189 rfl (Nat.le_of_ble_eq_true rfl) (fun cG M vs hN hvs=>?_)
 unfold ee at h
 refine sr<|bx rfl<|bx rfl<|bx rfl<|bx rfl<|al (cs:=[.v (.bool false),nw N (slc 1 (List.map ah []))]) (by exact⟨SV.aa _,aA,trivial⟩) rfl<|al (cs:=[.v (.bool false),nw N (slc 1 (List.map ah []))]) (by exact⟨SV.aa _,aA,trivial⟩) rfl<|dn<|qq<|ai mixed<|ld rfl rfl (.cons rfl (.cons rfl (.nil)))<|ld rfl rfl (.cons rfl (.cons rfl (.nil))) ?_
 obtain⟨⟨fY,fO⟩,eI,h⟩:=bS h
 refine RT.aX .none (gL N eI) hN rfl ⟨rfl,rfl,trivial⟩ T<|ld rfl rfl (.cons rfl (.cons rfl (.nil)))<|ld rfl rfl (.cons rfl (.cons rfl (.nil))) ?_
 obtain⟨⟨jG,jH⟩,fE,h⟩:=bS h
 refine RT.aX .none (gL N fE) hN rfl ⟨rfl,rfl,trivial⟩ T ?_
 obtain⟨⟨jz,jA⟩,iQ,h⟩:=bS h
 refine RT.aX .none ((FF N iQ).w (args':=[_,_]) ⟨(SV.jq (show bQ [.v (.bool fY),nw N (slc 1 (List.map ah fO))] _ from⟨(SV.aa _),eJ,trivial⟩)),(SV.jq (show bQ [.v (.bool jG),nw N (slc 1 (List.map ah jH))] _ from⟨(SV.aa _),eJ,trivial⟩)),trivial⟩) hN rfl ⟨rfl,rfl,trivial⟩ T<|ld rfl rfl (.cons rfl (.cons rfl (.nil)))<|ld rfl rfl (.cons rfl (.cons rfl (.nil))) ?_
 obtain⟨⟨mE,mF⟩,kx,h⟩:=bS h
 refine RT.aX .none (gL N kx) hN rfl ⟨rfl,rfl,trivial⟩ T<|so rfl rfl rfl<|so rfl rfl rfl ?_
 refine RT.done ⟨by kernel_rfl,?_⟩
 refine ae.n<|aj ?_
 obtain rfl:=O h
 exact RZ (.agg rfl rfl (.cons rfl (.cons rfl (.nil))) rfl (.agg rfl rfl (.cons rfl (.cons rfl (.nil))) rfl (.nil)))
theorem uJ{x0:Zr}{x1:Zr}{x2:Zr}{x3:Zr}(N:Nat){r:Zr×Zr}(h:ef x0 x1 x2 x3=some r):cJ Tryz.prog 191 N [.agg (eZ x0),.agg (eZ x1),.agg (eZ x2),.agg (eZ x3)] (.vW [.agg ((fZ N) r.1),.agg ((fZ N) r.2)]):=by
 obtain⟨aB,aC⟩:=x0
 obtain⟨bF,bC⟩:=x1
 obtain⟨lP,lQ⟩:=x2
 obtain⟨vL,vM⟩:=x3
 refine aN Tryz.func191 rfl (Nat.le_of_ble_eq_true rfl) (fun cG M vs hN hvs=>?_)
 unfold ef at h
 refine sr<|bx rfl<|bx rfl<|bx rfl<|bx rfl<|al (cs:=[.v (.bool false),nw N (slc 1 (List.map ah []))]) (by exact⟨SV.aa _,aA,trivial⟩) rfl<|al (cs:=[.v (.bool false),nw N (slc 1 (List.map ah []))]) (by exact⟨SV.aa _,aA,trivial⟩) rfl<|dn<|qq<|ai mixed<|ld rfl rfl (.cons rfl (.cons rfl (.nil)))<|ld rfl rfl (.cons rfl (.cons rfl (.nil))) ?_
 obtain⟨⟨fY,fO⟩,eI,h⟩:=bS h
 refine RT.aX .none (gL N eI) hN rfl ⟨rfl,rfl,trivial⟩ T<|ld rfl rfl (.cons rfl (.cons rfl (.nil)))<|ld rfl rfl (.cons rfl (.cons rfl (.nil))) ?_
 obtain⟨⟨jG,jH⟩,fE,h⟩:=bS h
 refine RT.aX .none (gL N fE) hN rfl ⟨rfl,rfl,trivial⟩ T<|so rfl rfl rfl<|so rfl rfl rfl ?_
 refine RT.done ⟨by kernel_rfl,?_⟩
 refine ae.n<|aj ?_
 obtain rfl:=O h
 exact RZ (.agg rfl rfl (.cons rfl (.cons rfl (.nil))) rfl (.agg rfl rfl (.cons rfl (.cons rfl (.nil))) rfl (.nil)))
theorem Ax{x1:Qr}{x2:Qr}(N:Nat){r:Qr}(h:ga x1 x2=some r):cJ Tryz.prog 136 N [.v (.int .u8 ((43:Nat):Int)),.agg (eQ x1),.agg (eQ x2)] (.agg ((fQ N) r)):=by
 obtain⟨⟨bF,bC⟩,⟨eX,eY⟩⟩:=x1
 obtain⟨⟨lP,lQ⟩,⟨xV,xW⟩⟩:=x2
 refine aN Tryz.func136 rfl (Nat.le_of_ble_eq_true rfl) (fun cG M vs hN hvs=>?_)
 unfold ga at h
 refine sr<|bx rfl<|bx rfl<|al (cs:=[.v (.bool false),nw N (slc 1 (List.map ah [])),.v (.bool false),nw N (slc 1 (List.map ah []))]) (by exact⟨SV.aa _,aA,SV.aa _,aA,trivial⟩) rfl<|dn<|sr<|ld rfl rfl (.cons rfl (.cons rfl (.cons rfl (.cons rfl (.nil))))) ?_
 obtain⟨⟨⟨iF,iG⟩,⟨ji,jk⟩⟩,fT,h⟩:=bS h
 refine cl (bM fT) ⟨rfl,trivial⟩<|mv rfl<|ex rfl rfl<|ex rfl rfl<|al (cs:=[.v (.bool false),nw N (slc 1 (List.map ah []))]) (by exact⟨SV.aa _,aA,trivial⟩) rfl<|al (cs:=[.v (.bool false),nw N (slc 1 (List.map ah []))]) (by exact⟨SV.aa _,aA,trivial⟩) rfl<|so rfl rfl rfl<|so rfl rfl rfl<|dn<|sr<|ld rfl rfl (.cons rfl (.cons rfl (.cons rfl (.cons rfl (.nil))))) ?_
 obtain⟨⟨⟨iH,iI⟩,⟨jl,jm⟩⟩,gV,h⟩:=bS h
 refine cl (bM gV) ⟨rfl,trivial⟩<|mv rfl<|ex rfl rfl<|ex rfl rfl<|al (cs:=[.v (.bool false),nw N (slc 1 (List.map ah []))]) (by exact⟨SV.aa _,aA,trivial⟩) rfl<|al (cs:=[.v (.bool false),nw N (slc 1 (List.map ah []))]) (by exact⟨SV.aa _,aA,trivial⟩) rfl<|so rfl rfl rfl<|so rfl rfl rfl<|dn<|qq<|ai mixed<|cl dK trivial<|mv rfl ?_
 refine RT.look .none [.func (.func 187) #[] #[]] rfl rfl rfl T<|fl rfl rfl<|ld rfl rfl (.cons rfl (.cons rfl (.nil)))<|ld rfl rfl (.cons rfl (.cons rfl (.nil)))<|ld rfl rfl (.cons rfl (.cons rfl (.nil)))<|ld rfl rfl (.cons rfl (.cons rfl (.nil))) ?_
 obtain⟨⟨⟨jI,jJ⟩,⟨jK,jL⟩⟩,iT,h⟩:=bS h
 refine RT.aX .none (uH N iT) hN rfl ⟨rfl,rfl,rfl,rfl,trivial⟩ T<|ex rfl rfl<|ex rfl rfl ?_
 obtain⟨⟨⟨kX,kC⟩,⟨nu,nv⟩⟩,kz,h⟩:=bS h
 refine RT.aX .none ((lU N kz).w (args':=[_,_]) ⟨(SV.jq (show bQ [.v (.bool jI),nw N (slc 1 (List.map ah jJ))] _ from⟨(SV.aa _),eJ,trivial⟩)),(SV.jq (show bQ [.v (.bool jK),nw N (slc 1 (List.map ah jL))] _ from⟨(SV.aa _),eJ,trivial⟩)),trivial⟩) hN rfl ⟨rfl,rfl,trivial⟩ T<|so rfl rfl rfl ?_
 refine RT.done ⟨by kernel_rfl,?_⟩
 refine ae.n<|aj ?_
 obtain rfl:=O h
 exact RZ (.agg rfl rfl (.cons rfl (.cons rfl (.cons rfl (.cons rfl (.nil))))) rfl (.nil))
theorem Ay{x1:Qr}{x2:Qr}(N:Nat){r:Qr}(h:gb x1 x2=some r):cJ Tryz.prog 136 N [.v (.int .u8 ((45:Nat):Int)),.agg (eQ x1),.agg (eQ x2)] (.agg ((fQ N) r)):=by
 obtain⟨⟨bF,bC⟩,⟨eX,eY⟩⟩:=x1
 obtain⟨⟨lP,lQ⟩,⟨xV,xW⟩⟩:=x2
 refine aN Tryz.func136 rfl (Nat.le_of_ble_eq_true rfl) (fun cG M vs hN hvs=>?_)
 unfold gb at h
 refine sr<|bx rfl<|bx rfl<|al (cs:=[.v (.bool false),nw N (slc 1 (List.map ah [])),.v (.bool false),nw N (slc 1 (List.map ah []))]) (by exact⟨SV.aa _,aA,SV.aa _,aA,trivial⟩) rfl<|dn<|sr<|ld rfl rfl (.cons rfl (.cons rfl (.cons rfl (.cons rfl (.nil))))) ?_
 obtain⟨⟨⟨iF,iG⟩,⟨ji,jk⟩⟩,fT,h⟩:=bS h
 refine cl (bM fT) ⟨rfl,trivial⟩<|mv rfl<|ex rfl rfl<|ex rfl rfl<|al (cs:=[.v (.bool false),nw N (slc 1 (List.map ah []))]) (by exact⟨SV.aa _,aA,trivial⟩) rfl<|al (cs:=[.v (.bool false),nw N (slc 1 (List.map ah []))]) (by exact⟨SV.aa _,aA,trivial⟩) rfl<|so rfl rfl rfl<|so rfl rfl rfl<|dn<|sr<|ld rfl rfl (.cons rfl (.cons rfl (.cons rfl (.cons rfl (.nil))))) ?_
 obtain⟨⟨⟨iH,iI⟩,⟨jl,jm⟩⟩,gV,h⟩:=bS h
 refine cl (bM gV) ⟨rfl,trivial⟩<|mv rfl<|ex rfl rfl<|ex rfl rfl<|al (cs:=[.v (.bool false),nw N (slc 1 (List.map ah []))]) (by exact⟨SV.aa _,aA,trivial⟩) rfl<|al (cs:=[.v (.bool false),nw N (slc 1 (List.map ah []))]) (by exact⟨SV.aa _,aA,trivial⟩) rfl<|so rfl rfl rfl<|so rfl rfl rfl<|dn<|qq<|ai mixed<|cl dK trivial<|mv rfl ?_
 refine RT.look .none [.func (.func 189) #[] #[]] rfl rfl rfl T<|fl rfl rfl<|ld rfl rfl (.cons rfl (.cons rfl (.nil)))<|ld rfl rfl (.cons rfl (.cons rfl (.nil)))<|ld rfl rfl (.cons rfl (.cons rfl (.nil)))<|ld rfl rfl (.cons rfl (.cons rfl (.nil))) ?_
 obtain⟨⟨⟨jI,jJ⟩,⟨jK,jL⟩⟩,iT,h⟩:=bS h
 refine RT.aX .none (uI N iT) hN rfl ⟨rfl,rfl,rfl,rfl,trivial⟩ T<|ex rfl rfl<|ex rfl rfl ?_
 obtain⟨⟨⟨kX,kC⟩,⟨nu,nv⟩⟩,kz,h⟩:=bS h
 refine RT.aX .none ((lU N kz).w (args':=[_,_]) ⟨(SV.jq (show bQ [.v (.bool jI),nw N (slc 1 (List.map ah jJ))] _ from⟨(SV.aa _),eJ,trivial⟩)),(SV.jq (show bQ [.v (.bool jK),nw N (slc 1 (List.map ah jL))] _ from⟨(SV.aa _),eJ,trivial⟩)),trivial⟩) hN rfl ⟨rfl,rfl,trivial⟩ T<|so rfl rfl rfl ?_
 refine RT.done ⟨by kernel_rfl,?_⟩
 refine ae.n<|aj ?_
 obtain rfl:=O h
 exact RZ (.agg rfl rfl (.cons rfl (.cons rfl (.cons rfl (.cons rfl (.nil))))) rfl (.nil))
theorem Az{x1:Qr}{x2:Qr}(N:Nat){r:Qr}(h:gh x1 x2=some r):cJ Tryz.prog 136 N [.v (.int .u8 ((42:Nat):Int)),.agg (eQ x1),.agg (eQ x2)] (.agg ((fQ N) r)):=by
 obtain⟨⟨bF,bC⟩,⟨eX,eY⟩⟩:=x1
 obtain⟨⟨lP,lQ⟩,⟨xV,xW⟩⟩:=x2
 refine aN Tryz.func136 rfl (Nat.le_of_ble_eq_true rfl) (fun cG M vs hN hvs=>?_)
 unfold gh at h
 refine sr<|bx rfl<|bx rfl<|al (cs:=[.v (.bool false),nw N (slc 1 (List.map ah [])),.v (.bool false),nw N (slc 1 (List.map ah []))]) (by exact⟨SV.aa _,aA,SV.aa _,aA,trivial⟩) rfl<|dn<|sr<|ld rfl rfl (.cons rfl (.cons rfl (.cons rfl (.cons rfl (.nil))))) ?_
 obtain⟨⟨⟨iF,iG⟩,⟨ji,jk⟩⟩,fT,h⟩:=bS h
 refine cl (bM fT) ⟨rfl,trivial⟩<|mv rfl<|ex rfl rfl<|ex rfl rfl<|al (cs:=[.v (.bool false),nw N (slc 1 (List.map ah []))]) (by exact⟨SV.aa _,aA,trivial⟩) rfl<|al (cs:=[.v (.bool false),nw N (slc 1 (List.map ah []))]) (by exact⟨SV.aa _,aA,trivial⟩) rfl<|so rfl rfl rfl<|so rfl rfl rfl<|dn<|sr<|ld rfl rfl (.cons rfl (.cons rfl (.cons rfl (.cons rfl (.nil))))) ?_
 obtain⟨⟨⟨iH,iI⟩,⟨jl,jm⟩⟩,gV,h⟩:=bS h
 refine cl (bM gV) ⟨rfl,trivial⟩<|mv rfl<|ex rfl rfl<|ex rfl rfl<|al (cs:=[.v (.bool false),nw N (slc 1 (List.map ah []))]) (by exact⟨SV.aa _,aA,trivial⟩) rfl<|al (cs:=[.v (.bool false),nw N (slc 1 (List.map ah []))]) (by exact⟨SV.aa _,aA,trivial⟩) rfl<|so rfl rfl rfl<|so rfl rfl rfl<|dn<|qq<|ai mixed<|cl dK trivial<|mv rfl ?_
 refine RT.look .none [.func (.func 191) #[] #[]] rfl rfl rfl T<|fl rfl rfl<|ld rfl rfl (.cons rfl (.cons rfl (.nil)))<|ld rfl rfl (.cons rfl (.cons rfl (.nil)))<|ld rfl rfl (.cons rfl (.cons rfl (.nil)))<|ld rfl rfl (.cons rfl (.cons rfl (.nil))) ?_
 obtain⟨⟨⟨jI,jJ⟩,⟨jK,jL⟩⟩,iT,h⟩:=bS h
 refine RT.aX .none (uJ N iT) hN rfl ⟨rfl,rfl,rfl,rfl,trivial⟩ T<|ex rfl rfl<|ex rfl rfl ?_
 obtain⟨⟨⟨kX,kC⟩,⟨nu,nv⟩⟩,kz,h⟩:=bS h
 refine RT.aX .none ((lU N kz).w (args':=[_,_]) ⟨(SV.jq (show bQ [.v (.bool jI),nw N (slc 1 (List.map ah jJ))] _ from⟨(SV.aa _),eJ,trivial⟩)),(SV.jq (show bQ [.v (.bool jK),nw N (slc 1 (List.map ah jL))] _ from⟨(SV.aa _),eJ,trivial⟩)),trivial⟩) hN rfl ⟨rfl,rfl,trivial⟩ T<|so rfl rfl rfl ?_
 refine RT.done ⟨by kernel_rfl,?_⟩
 refine ae.n<|aj ?_
 obtain rfl:=O h
 exact RZ (.agg rfl rfl (.cons rfl (.cons rfl (.cons rfl (.cons rfl (.nil))))) rfl (.nil))
theorem qa{x0:Qr}(N:Nat){r:Qr}(h:bW x0=some r):cJ Tryz.prog 93 N [.agg (eQ x0)] (.agg ((fQ N) r)):=by
 obtain⟨⟨aB,aC⟩,⟨aJ,aL⟩⟩:=x0
 refine aN Tryz.func93 rfl (Nat.le_of_ble_eq_true rfl) (fun cG M vs hN hvs=>?_)
 unfold bW at h
 refine sr<|bx rfl<|al (cs:=[.v (.bool false),nw N (slc 1 (List.map ah [])),.v (.bool false),nw N (slc 1 (List.map ah []))]) (by exact⟨SV.aa _,aA,SV.aa _,aA,trivial⟩) rfl<|dn<|qq<|sr<|ld rfl rfl (.cons rfl (.cons rfl (.cons rfl (.cons rfl (.nil))))) ?_
 obtain⟨⟨x8a,x8b,Zy⟩,h8,h⟩:=bS h
 refine cl (bY h8) ⟨rfl,trivial⟩<|mv rfl<|ex rfl rfl<|ex rfl rfl<|ex rfl rfl<|ag rfl<|ag rfl<|ag rfl<|dn<|sr<|mv rfl<|dn ?_
 cases Zy
 refine fs<|sr<|ld rfl rfl (.cons rfl (.cons rfl (.cons rfl (.cons rfl (.nil))))) ?_
 obtain⟨⟨⟨Ja,Jb⟩,⟨Jc,Jd⟩⟩,jD,h⟩:=bS (F h)
 refine cl (bM jD) ⟨rfl,trivial⟩<|ex rfl rfl<|ex rfl rfl ?_
 obtain⟨⟨⟨NR,NS⟩,⟨NT,NU⟩⟩,lM,h⟩:=bS h
 refine RT.aX .none (lU N lM) hN rfl ⟨rfl,rfl,trivial⟩ T<|so rfl rfl rfl<|dn<|aj ?_
 obtain rfl:=O h
 exact RZ (.agg rfl rfl (.cons rfl (.cons rfl (.cons rfl (.cons rfl (.nil))))) rfl (.nil))
 refine cT<|sr<|mv rfl<|mv rfl ?_
 obtain⟨⟨⟨jG,jH⟩,⟨Ek,El⟩⟩,fE,h⟩:=bS (V h)
 refine RT.aX .none (nc N fE) hN rfl ⟨rfl,rfl,trivial⟩ T<|so rfl rfl rfl<|dn<|aj<|ae.r ?_
 obtain rfl:=O h
 exact RZ (.agg rfl rfl (.cons rfl (.cons rfl (.cons rfl (.cons rfl (.nil))))) rfl (.nil))
theorem Hw{x0:Qr}{x1:Qr}(N:Nat){r:Qr}(h:jN x0 x1=some r):cJ Tryz.prog 132 N [.agg (eQ x0),.agg (eQ x1)] (.agg ((fQ N) r)):=by
 obtain⟨⟨aB,aC⟩,⟨aJ,aL⟩⟩:=x0
 obtain⟨⟨bF,bC⟩,⟨eX,eY⟩⟩:=x1
 refine aN Tryz.func132 rfl (Nat.le_of_ble_eq_true rfl) (fun cG M vs hN hvs=>?_)
 unfold jN at h
 refine sr<|bx rfl<|bx rfl<|al (cs:=[.v (.bool false),nw N (slc 1 (List.map ah [])),.v (.bool false),nw N (slc 1 (List.map ah []))]) (by exact⟨SV.aa _,aA,SV.aa _,aA,trivial⟩) rfl<|dn<|sr<|ld rfl rfl (.cons rfl (.cons rfl (.cons rfl (.cons rfl (.nil))))) ?_
 obtain⟨⟨ue,sq,uf⟩,fT,h⟩:=bS h
 refine cl (bY fT) ⟨rfl,trivial⟩<|mv rfl<|ex rfl rfl<|ex rfl rfl<|ex rfl rfl<|ag rfl<|ag rfl<|ag rfl<|dn<|sr<|ld rfl rfl (.cons rfl (.cons rfl (.cons rfl (.cons rfl (.nil))))) ?_
 obtain⟨⟨ug,su,uh⟩,kx,h⟩:=bS h
 refine cl (bY kx) ⟨rfl,trivial⟩<|mv rfl<|ex rfl rfl<|ex rfl rfl<|ex rfl rfl<|ag rfl<|ag rfl<|ag rfl<|dn<|qq<|qq ?_
 refine aF h (fun j3=>AS.bG 41 [(2,.ptr 2 0),(3,.ptr 3 0),(4,.ptr 4 0),(5,.sv (.v (.int .i64 ue))),(6,.sv (.v (.int .i64 sq))),(8,.sv (.v (.int .i64 ug))),(9,.sv (.v (.int .i64 su))),(26,.sv (.v (.bool j3)))] [(4,⟨43,[.sv (.v (.bool false)),.sv (nw N (slc 1 (List.map ah []))),.sv (.v (.bool false)),.sv (nw N (slc 1 (List.map ah [])))]⟩),(3,⟨43,[.sv (.v (.bool bF)),.sv (slc 1 (List.map ah bC)),.sv (.v (.bool eX)),.sv (slc 1 (List.map ah eY))]⟩),(2,⟨43,[.sv (.v (.bool aB)),.sv (slc 1 (List.map ah aC)),.sv (.v (.bool aJ)),.sv (slc 1 (List.map ah aL))]⟩)] []) (fun h=>?_) (fun nx h=>?_)
 refine af<|mv rfl<|mv rfl<|bE h fun uj m8 h=>?_
 cases uf
 obtain rfl:=O (F m8)
 exact ww<|pF rfl<|dn<|⟨false,h,wR []⟩
 refine gm rfl ?_
 obtain rfl:=O (V m8)
 exact pT rfl<|dn<|⟨uh,h,wR []⟩
 try dsimp only
 refine ae.n ?_
 cases nx
 refine fs<|sr<|ld rfl rfl (.cons rfl (.cons rfl (.cons rfl (.cons rfl (.nil)))))<|ld rfl rfl (.cons rfl (.cons rfl (.cons rfl (.cons rfl (.nil))))) ?_
 obtain⟨⟨⟨tZ,ua⟩,⟨B6,B7⟩⟩,nO,h⟩:=bS (F h)
 refine RT.aX .none (Ax N nO) hN rfl ⟨rfl,rfl,rfl,trivial⟩ T<|so rfl rfl rfl<|dn<|aj ?_
 obtain rfl:=O h
 exact RZ (.agg rfl rfl (.cons rfl (.cons rfl (.cons rfl (.cons rfl (.nil))))) rfl (.nil))
 refine cT<|sr<|mv rfl<|mv rfl<|lE (V h) fun gH iT h=>RT.mul .none _ rfl rfl T iT<|mv rfl<|mv rfl<|lE h fun iD kz h=>RT.mul .none _ rfl rfl T kz<|lE h fun rS rZ h=>ad _ rfl rfl rZ<|mv rfl<|mv rfl<|lE h fun oC pL h=>RT.mul .none _ rfl rfl T pL ?_
 obtain⟨⟨⟨B0,B3⟩,⟨B4,B5⟩⟩,xU,h⟩:=bS h
 refine RT.aX .none (nc N xU) hN rfl ⟨rfl,rfl,trivial⟩ T<|so rfl rfl rfl<|dn<|aj<|ae.r ?_
 obtain rfl:=O h
 exact RZ (.agg rfl rfl (.cons rfl (.cons rfl (.cons rfl (.cons rfl (.nil))))) rfl (.nil))
theorem Hx{x0:Qr}{x1:Qr}(N:Nat){r:Qr}(h:jO x0 x1=some r):cJ Tryz.prog 94 N [.agg (eQ x0),.agg (eQ x1)] (.agg ((fQ N) r)):=by
 obtain⟨⟨aB,aC⟩,⟨aJ,aL⟩⟩:=x0
 obtain⟨⟨bF,bC⟩,⟨eX,eY⟩⟩:=x1
 refine aN Tryz.func94 rfl (Nat.le_of_ble_eq_true rfl) (fun cG M vs hN hvs=>?_)
 unfold jO at h
 refine sr<|bx rfl<|bx rfl<|al (cs:=[.v (.bool false),nw N (slc 1 (List.map ah [])),.v (.bool false),nw N (slc 1 (List.map ah []))]) (by exact⟨SV.aa _,aA,SV.aa _,aA,trivial⟩) rfl<|dn<|sr<|ld rfl rfl (.cons rfl (.cons rfl (.cons rfl (.cons rfl (.nil))))) ?_
 obtain⟨⟨ue,sq,uf⟩,fT,h⟩:=bS h
 refine cl (bY fT) ⟨rfl,trivial⟩<|mv rfl<|ex rfl rfl<|ex rfl rfl<|ex rfl rfl<|ag rfl<|ag rfl<|ag rfl<|dn<|sr<|ld rfl rfl (.cons rfl (.cons rfl (.cons rfl (.cons rfl (.nil))))) ?_
 obtain⟨⟨ug,su,uh⟩,kx,h⟩:=bS h
 refine cl (bY kx) ⟨rfl,trivial⟩<|mv rfl<|ex rfl rfl<|ex rfl rfl<|ex rfl rfl<|ag rfl<|ag rfl<|ag rfl<|dn<|qq<|qq ?_
 refine aF h (fun j3=>AS.bG 41 [(2,.ptr 2 0),(3,.ptr 3 0),(4,.ptr 4 0),(5,.sv (.v (.int .i64 ue))),(6,.sv (.v (.int .i64 sq))),(8,.sv (.v (.int .i64 ug))),(9,.sv (.v (.int .i64 su))),(26,.sv (.v (.bool j3)))] [(4,⟨43,[.sv (.v (.bool false)),.sv (nw N (slc 1 (List.map ah []))),.sv (.v (.bool false)),.sv (nw N (slc 1 (List.map ah [])))]⟩),(3,⟨43,[.sv (.v (.bool bF)),.sv (slc 1 (List.map ah bC)),.sv (.v (.bool eX)),.sv (slc 1 (List.map ah eY))]⟩),(2,⟨43,[.sv (.v (.bool aB)),.sv (slc 1 (List.map ah aC)),.sv (.v (.bool aJ)),.sv (slc 1 (List.map ah aL))]⟩)] []) (fun h=>?_) (fun nx h=>?_)
 refine af<|mv rfl<|mv rfl<|bE h fun uj m8 h=>?_
 cases uf
 obtain rfl:=O (F m8)
 exact ww<|pF rfl<|dn<|⟨false,h,wR []⟩
 refine gm rfl ?_
 obtain rfl:=O (V m8)
 exact pT rfl<|dn<|⟨uh,h,wR []⟩
 try dsimp only
 refine ae.n ?_
 cases nx
 refine fs<|sr<|ld rfl rfl (.cons rfl (.cons rfl (.cons rfl (.cons rfl (.nil)))))<|ld rfl rfl (.cons rfl (.cons rfl (.cons rfl (.cons rfl (.nil))))) ?_
 obtain⟨⟨⟨tZ,ua⟩,⟨B6,B7⟩⟩,nO,h⟩:=bS (F h)
 refine RT.aX .none (Ay N nO) hN rfl ⟨rfl,rfl,rfl,trivial⟩ T<|so rfl rfl rfl<|dn<|aj ?_
 obtain rfl:=O h
 exact RZ (.agg rfl rfl (.cons rfl (.cons rfl (.cons rfl (.cons rfl (.nil))))) rfl (.nil))
 refine cT<|sr<|mv rfl<|mv rfl<|lE (V h) fun gH iT h=>RT.mul .none _ rfl rfl T iT<|mv rfl<|mv rfl<|lE h fun iD kz h=>RT.mul .none _ rfl rfl T kz<|lE h fun rS rZ h=>sb _ rfl rfl rZ<|mv rfl<|mv rfl<|lE h fun oC pL h=>RT.mul .none _ rfl rfl T pL ?_
 obtain⟨⟨⟨B0,B3⟩,⟨B4,B5⟩⟩,xU,h⟩:=bS h
 refine RT.aX .none (nc N xU) hN rfl ⟨rfl,rfl,trivial⟩ T<|so rfl rfl rfl<|dn<|aj<|ae.r ?_
 obtain rfl:=O h
 exact RZ (.agg rfl rfl (.cons rfl (.cons rfl (.cons rfl (.cons rfl (.nil))))) rfl (.nil))
theorem Hy{x0:Qr}{x1:Qr}(N:Nat){r:Qr}(h:iJ x0 x1=some r):cJ Tryz.prog 89 N [.agg (eQ x0),.agg (eQ x1)] (.agg ((fQ N) r)):=by
 obtain⟨⟨aB,aC⟩,⟨aJ,aL⟩⟩:=x0
 obtain⟨⟨bF,bC⟩,⟨eX,eY⟩⟩:=x1
 refine aN Tryz.func89 rfl (Nat.le_of_ble_eq_true rfl) (fun cG M vs hN hvs=>?_)
 unfold iJ at h
 refine sr<|bx rfl<|bx rfl<|al (cs:=[.v (.bool false),nw N (slc 1 (List.map ah [])),.v (.bool false),nw N (slc 1 (List.map ah []))]) (by exact⟨SV.aa _,aA,SV.aa _,aA,trivial⟩) rfl<|dn<|sr<|ld rfl rfl (.cons rfl (.cons rfl (.cons rfl (.cons rfl (.nil))))) ?_
 obtain⟨⟨ue,sq,uf⟩,fT,h⟩:=bS h
 refine cl (bY fT) ⟨rfl,trivial⟩<|mv rfl<|ex rfl rfl<|ex rfl rfl<|ex rfl rfl<|ag rfl<|ag rfl<|ag rfl<|dn<|sr<|ld rfl rfl (.cons rfl (.cons rfl (.cons rfl (.cons rfl (.nil))))) ?_
 obtain⟨⟨ug,su,uh⟩,kx,h⟩:=bS h
 refine cl (bY kx) ⟨rfl,trivial⟩<|mv rfl<|ex rfl rfl<|ex rfl rfl<|ex rfl rfl<|ag rfl<|ag rfl<|ag rfl<|dn<|qq<|qq ?_
 refine aF h (fun j3=>AS.bG 37 [(2,.ptr 2 0),(3,.ptr 3 0),(4,.ptr 4 0),(5,.sv (.v (.int .i64 ue))),(6,.sv (.v (.int .i64 sq))),(8,.sv (.v (.int .i64 ug))),(9,.sv (.v (.int .i64 su))),(26,.sv (.v (.bool j3)))] [(4,⟨43,[.sv (.v (.bool false)),.sv (nw N (slc 1 (List.map ah []))),.sv (.v (.bool false)),.sv (nw N (slc 1 (List.map ah [])))]⟩),(3,⟨43,[.sv (.v (.bool bF)),.sv (slc 1 (List.map ah bC)),.sv (.v (.bool eX)),.sv (slc 1 (List.map ah eY))]⟩),(2,⟨43,[.sv (.v (.bool aB)),.sv (slc 1 (List.map ah aC)),.sv (.v (.bool aJ)),.sv (slc 1 (List.map ah aL))]⟩)] []) (fun h=>?_) (fun nx h=>?_)
 refine af<|mv rfl<|mv rfl<|bE h fun uj m8 h=>?_
 cases uf
 obtain rfl:=O (F m8)
 exact ww<|pF rfl<|dn<|⟨false,h,wR []⟩
 refine gm rfl ?_
 obtain rfl:=O (V m8)
 exact pT rfl<|dn<|⟨uh,h,wR []⟩
 try dsimp only
 refine ae.n ?_
 cases nx
 refine fs<|sr<|ld rfl rfl (.cons rfl (.cons rfl (.cons rfl (.cons rfl (.nil)))))<|ld rfl rfl (.cons rfl (.cons rfl (.cons rfl (.cons rfl (.nil))))) ?_
 obtain⟨⟨⟨tX,tY⟩,⟨NZ,N0⟩⟩,pL,h⟩:=bS (F h)
 refine RT.aX .none (Az N pL) hN rfl ⟨rfl,rfl,rfl,trivial⟩ T<|so rfl rfl rfl<|dn<|aj ?_
 obtain rfl:=O h
 exact RZ (.agg rfl rfl (.cons rfl (.cons rfl (.cons rfl (.cons rfl (.nil))))) rfl (.nil))
 refine cT<|sr<|mv rfl<|mv rfl<|lE (V h) fun gH iT h=>RT.mul .none _ rfl rfl T iT<|mv rfl<|mv rfl<|lE h fun iD kz h=>RT.mul .none _ rfl rfl T kz ?_
 obtain⟨⟨⟨NV,NW⟩,⟨NX,NY⟩⟩,rZ,h⟩:=bS h
 refine RT.aX .none (nc N rZ) hN rfl ⟨rfl,rfl,trivial⟩ T<|so rfl rfl rfl<|dn<|aj<|ae.r ?_
 obtain rfl:=O h
 exact RZ (.agg rfl rfl (.cons rfl (.cons rfl (.cons rfl (.cons rfl (.nil))))) rfl (.nil))
end Go.Proofs.YtningmnklfpfjaaGreat
namespace Go.Fw
open Go.RowKit
abbrev fS(N n:Nat){α:Type}(e:α→List SV)(x:List α):List SV:=[nw N (slc n (x.map e))]
instance{N n:Nat}{α:Type}{e:α→List SV}:EL (fS N n e) 1:=⟨fun _=>rfl,fun _=>inferInstance⟩
instance{N n:Nat}{α:Type}{e:α→List SV}:CG N (fS N n e):=⟨fun _=>inferInstance⟩
theorem adY{N:Nat}{l:List (List Qr)}:SV.imp (nw N (slc 1 (l.map (fS N 4 (fQ N))))) (slc 1 (l.map (eS 4 eQ))):=fun M v h=>J8 (e':=fS N 4 (fQ N)) (e:=eS 4 eQ) (fun _=>⟨X8,trivial⟩) l M v (eJ M v h)
theorem Hz{l:List (List Qr)}:∀(N:Nat) (M:Mem) (v:Value),(nw N (slc 1 (l.map (fS N 4 (fQ N))))).h M v→(slc 1 (l.map (eS 4 eQ))).h (M.fr N) v:=fun N M v h=>adY (M.fr N) v (by
 obtain⟨h1,h2⟩:=h
 rw[←Mem.Hv]at h1
 exact⟨h1,fun g e=>by rw[Mem.Hv];exact h2 g e⟩)
section steps
variable {P:Program}{C:Ctx}{ops:Array Oper}{S:AS}{nd:Bool}{K:List Ac→AS→Prop}{rest:List Oper}{acc:List Ac}{N:Nat}
variable {gd:Option (Nat×Bool)}{rg:List Nat}{d:Nat}{ty:TypeId}{pos:String}{aft:Array Edge}{x y z:Operand}{T U E0:TypeId}
theorem RT.Wr(hg:Gd ops S gd rg){f:FuncId}[bB P f]{g:Operand}{xs:Array Operand}{at_:Array TypeId}{args caps:List SV}{r:SV}(hp:cJ P f N (args++caps) r)(hN:N≤C.w0.heap.size)(hf:S.ev g=.sv (gS f caps))(hargs:gw S xs.toList args)(hd:d<S.n)
  (next:RunT P C ops nd K rest (⟨rg++(au g++xs.toList.flatMap au),[],[],⟨some (d,.sv r),[],[]⟩⟩::acc) (S.set d (.sv r))):RunT P C ops nd K (⟨some d,.call ⟨.value g,xs,at_⟩,ty,pos,aft,gd⟩::rest) acc S:=by
 refine .inl ⟨_,[],[],_,?_,next⟩
 rintro S' hn ht _ _ i a w L Q ho ⟨E,h⟩ hL
 refine bX (C:=C) ho (hg.wanted h (fun s hs=>ht s (List.mem_append_left _ hs)) rfl) ?_
 have tC:(gS f caps).h E.M (a.eval g):=by
  have h1:=h.ev g;rw[aH (fun _ h=>List.mem_append_right _ (List.mem_append_left _ h)) ht,hf]at h1;exact h1
 obtain⟨oI,tC,yT⟩:=tC
 have hall:=SV.dR.append (gw.vals h hargs (fun s hs=>ht s (List.mem_append_right _ (List.mem_append_right _ hs)))) yT
 have hr:(execOp a.eval ⟨some d,.call ⟨.value g,xs,at_⟩,ty,pos,aft,gd⟩).run P w=.ok (.enter f ⟨xs.toList.map a.eval++oI⟩) w:=by
  have e2:xs.map a.eval++⟨oI⟩=⟨xs.toList.map a.eval++oI⟩:=by apply Array.ext';simp
  have e1:=bB.run (P:=P) (f:=f) (xs.map a.eval++⟨oI⟩) w
  rw[←e2]
  simp[execOp,resolve,tC,Deferred.ofValue,invoke,e1]
 refine bR (C:=C) (by intro c h;cases h) hr ?_
 refine⟨fun h=>by simp at h,gC ((hp E.M w _ (Nat.le_trans hN h.grown) h.cM hall).mono ?_)⟩
 rintro e w' ⟨v,M',rfl,hM,hnew,hin,hv,hb⟩
 exact hL _ _ ⟨_,(h.grow hM hnew hin hb).put (x:=.sv r) hv (by show d<S'.n;omega) eR⟩
end steps
end Go.Fw
namespace Go.Proofs.YtningmnklfpfjaaGreat
open Go.Fw Go.Fw.Z Go.RowKit
theorem CH{x0:List Qr}{x1:List Qr}(N:Nat){r:List Qr}(h:iX x0 x1=some r):cJ Tryz.prog 95 N [slc 4 (List.map eQ x0),slc 4 (List.map eQ x1),.v (.func (.func 94) #[] #[])] (nw N (slc 4 (List.map (fQ N) r))):=by
 refine aN Tryz.func95 rfl (Nat.le_of_ble_eq_true rfl) (fun cG M vs hN hvs=>?_)
 unfold iX at h
 refine sr<|RT.vG .none (s:=.sv _) rfl T rfl rfl<|aI rfl (aA (N:=N) (n:=4) (e:=(fQ N)))<|dn<|sr<|mv rfl<|lE h fun gU mB h=>ln rfl mB<|mv rfl<|lE h fun fB fT h=>ln rfl fT<|lE h fun eU jg h=>RT.max .none _ rfl rfl T (GH (p:=gU) (q:=fB) jg)<|bE h fun dA fE h=>RT.v9 (e:=(fQ N)) .none rfl rfl T rfl T fE<|RT.alloc .none T rfl rfl<|RT.gR (cells:=[_]) .none rfl rfl rfl rfl T rfl<|dn<|qq<|sr ?_
 refine mv rfl<|mv rfl<|cl (jY x0 x1) ⟨rfl,rfl,trivial⟩<|dn<|ak<|bE h fun iK Ob Od=>?_
 obtain⟨Hj,Oe,Of,Og⟩:=gA Ob
 refine dX (jZ x0 x1) (fun _ _ _ _ _=>trivial) rfl (fun k=>AS.bG 29 [(5,.ptr 5 0),(7,.ptr 7 0),(18,.sv (gS 165 [ref [slc 4 (List.map eQ x0)],ref [slc 4 (List.map eQ x1)]]))] [(7,⟨23,[.row 302]⟩),(5,⟨106,[.sv (.v (.func (.func 94) #[] #[]))]⟩)] [(302,TR 43 4 (fQ N) (Hj k))]) [7,5] rfl (fun _=>⟨rfl,rfl⟩) (mK rfl) (fun _=>rfl) (mL rfl) (by(try dsimp only);rw[Oe];(try dsimp only);exact cH (fun i=>bif Nat.beq i 302 then 15 else i) rfl rfl rfl rfl rfl ⟨.ptr,.ptr,.sv (SV.aa _),trivial⟩ ⟨⟨_,rfl,⟨.row rfl,trivial⟩⟩,⟨_,rfl,⟨.sv (SV.aa _),trivial⟩⟩,trivial⟩ ⟨⟨_,rfl,bQ.refl _⟩,trivial⟩ (fun i hi=>by rw[bH (show i≠302 by omega)];rfl)) (fun k hk D hD=>?_) ?_
 have h:=Of k hk
 obtain⟨iK,DC⟩:∃q,Hj k=q:=⟨_,rfl⟩
 rw[DC]at h⊢
 dsimp only[AS.IT,n8]
 try dsimp only at h
 obtain⟨⟨⟨Ca,Cb⟩,⟨Cc,Cd⟩⟩,Je,h⟩:=bS h
 rw[Option.some.inj Je]
 obtain⟨⟨⟨Ce,Cf⟩,⟨Cg,Ch⟩⟩,BW,h⟩:=bS h
 rw[Option.some.inj BW]
 refine sr<|al (cs:=[.v (.bool false),nw N (slc 1 (List.map ah [])),.v (.bool false),nw N (slc 1 (List.map ah []))]) (by exact⟨SV.aa _,aA,SV.aa _,aA,trivial⟩) rfl<|so rfl rfl rfl<|dn<|af<|al (cs:=[.v (.bool false),nw N (slc 1 (List.map ah [])),.v (.bool false),nw N (slc 1 (List.map ah []))]) (by exact⟨SV.aa _,aA,SV.aa _,aA,trivial⟩) rfl<|so rfl rfl rfl<|RT.done ?_
 refine ae.n ⟨rfl,?_⟩
 dsimp only[AS.wL]
 refine ak<|ai mixed<|RT.dN .none (s:=.row _) rfl rfl rfl T<|lV rfl rfl rfl<|ld rfl rfl (.cons rfl (.cons rfl (.cons rfl (.cons rfl (.nil)))))<|ld rfl rfl (.cons rfl (.cons rfl (.cons rfl (.cons rfl (.nil))))) ?_
 obtain⟨⟨⟨ik,hG⟩,⟨ny,nA⟩⟩,qM,h⟩:=bS h
 refine RT.aX .none (Hx N qM) (Nat.le_trans hN hD) rfl ⟨rfl,rfl,trivial⟩ T<|bl (l:=[⟨⟨ik,hG⟩,⟨ny,nA⟩⟩]) (e:=(fQ N)) (.agg rfl (.nil)) rfl rfl rfl rfl rfl rfl<|bE h fun kq m7 h=>aR (k:=[⟨⟨ik,hG⟩,⟨ny,nA⟩⟩]) (e:=(fQ N)) rfl rfl rfl m7<|RT.gR (cells:=[_]) .none rfl rfl rfl rfl T rfl ?_
 refine RT.done ⟨by kernel_rfl,?_⟩
 refine aG.n ?_
 replace h:=Option.some.inj h
 refine⟨trivial,rfl,rfl,?_⟩
 try dsimp only
 rw[←h]
 try dsimp only
 exact cH (fun i=>bif Nat.beq i 302 then 27 else i) rfl rfl rfl rfl rfl ⟨.ptr,.ptr,.sv (SV.aa _),trivial⟩ ⟨⟨_,rfl,⟨.row rfl,trivial⟩⟩,⟨_,rfl,⟨.sv (SV.aa _),trivial⟩⟩,trivial⟩ ⟨⟨_,rfl,bQ.refl _⟩,trivial⟩ (fun i hi=>by rw[bH (show i≠302 by omega)];rfl)
 rw[Og]
 try dsimp only
 refine aG.n<|ae.n<|sr<|RT.dN .none (s:=.row _) rfl rfl rfl T<|an (s:=.row _) rfl<|dn<|iM (i:=302) (E1:=43) (n:=4) (e:=(fQ N)) (l:=iK) hN (fun _ h=>h) rfl<|aj ?_
 obtain rfl:=O Od
 exact R1 rfl
theorem xb{x0:Qr}{x1:Qr}{DI:Qr}(N:Nat){r:Qr}(h:gK x0 x1 DI=some r):cJ Tryz.prog 141 N [.agg (eQ x0),.agg (eQ x1),ref (eQ DI)] (.agg ((fQ N) r)):=by
 obtain⟨⟨aB,aC⟩,⟨aJ,aL⟩⟩:=x0
 obtain⟨⟨bF,bC⟩,⟨eX,eY⟩⟩:=x1
 obtain⟨⟨Em,Eo⟩,⟨Ep,Er⟩⟩:=DI
 refine aN Tryz.func141 rfl (Nat.le_of_ble_eq_true rfl) (fun cG M vs hN hvs=>?_)
 unfold gK at h
 refine sr<|bx rfl<|bx rfl<|al (cs:=[.v (.bool false),nw N (slc 1 (List.map ah [])),.v (.bool false),nw N (slc 1 (List.map ah []))]) (by exact⟨SV.aa _,aA,SV.aa _,aA,trivial⟩) rfl<|dn<|qq<|ai mixed<|RT.gD (cs:=[_,_,_,_]) .none rfl T rfl rfl<|ld rfl rfl (.cons rfl (.cons rfl (.cons rfl (.cons rfl (.nil))))) ?_
 obtain⟨⟨⟨vN,vO⟩,⟨Au,Av⟩⟩,h8,h⟩:=bS h
 refine RT.aX .none (Hy N h8) hN rfl ⟨rfl,rfl,trivial⟩ T<|ld rfl rfl (.cons rfl (.cons rfl (.cons rfl (.cons rfl (.nil))))) ?_
 obtain⟨⟨⟨BN,BO⟩,⟨N5,N6⟩⟩,fD,h⟩:=bS h
 refine RT.aX .none ((Hw N fD).w (args':=[_,_]) ⟨(SV.jq (show bQ [.v (.bool vN),nw N (slc 1 (List.map ah vO)),.v (.bool Au),nw N (slc 1 (List.map ah Av))] _ from⟨(SV.aa _),eJ,(SV.aa _),eJ,trivial⟩)),(SV.aa _),trivial⟩) hN rfl ⟨rfl,rfl,trivial⟩ T<|so rfl rfl rfl ?_
 refine RT.done ⟨by kernel_rfl,?_⟩
 refine ae.n<|aj ?_
 obtain rfl:=O h
 exact RZ (.agg rfl rfl (.cons rfl (.cons rfl (.cons rfl (.cons rfl (.nil))))) rfl (.nil))
theorem yl{x0:List Qr}{x1:List Qr}{Fy:Qr}(N:Nat){r:List Qr}(h:fU x0 x1 Fy=some r):cJ Tryz.prog 95 N [slc 4 (List.map eQ x0),slc 4 (List.map eQ x1),gS 141 [ref (eQ Fy)]] (nw N (slc 4 (List.map (fQ N) r))):=by
 obtain⟨⟨Ci,Cj⟩,⟨Ck,Cm⟩⟩:=Fy
 refine aN Tryz.func95 rfl (Nat.le_of_ble_eq_true rfl) (fun cG M vs hN hvs=>?_)
 unfold fU at h
 refine sr<|RT.vG .none (s:=.sv _) rfl T rfl rfl<|aI rfl (aA (N:=N) (n:=4) (e:=(fQ N)))<|dn<|sr<|mv rfl<|lE h fun gU mB h=>ln rfl mB<|mv rfl<|lE h fun fB fT h=>ln rfl fT<|lE h fun eU jg h=>RT.max .none _ rfl rfl T (GH (p:=gU) (q:=fB) jg)<|bE h fun dA fE h=>RT.v9 (e:=(fQ N)) .none rfl rfl T rfl T fE<|RT.alloc .none T rfl rfl<|RT.gR (cells:=[_]) .none rfl rfl rfl rfl T rfl<|dn<|qq<|sr ?_
 refine mv rfl<|mv rfl<|cl (jY x0 x1) ⟨rfl,rfl,trivial⟩<|dn<|ak<|bE h fun iK Ob Od=>?_
 obtain⟨Hj,Oe,Of,Og⟩:=gA Ob
 refine dX (jZ x0 x1) (fun _ _ _ _ _=>trivial) rfl (fun k=>AS.bG 29 [(5,.ptr 5 0),(7,.ptr 7 0),(18,.sv (gS 165 [ref [slc 4 (List.map eQ x0)],ref [slc 4 (List.map eQ x1)]]))] [(7,⟨23,[.row 302]⟩),(5,⟨106,[.sv (gS 141 [ref [.v (.bool Ci),slc 1 (List.map ah Cj),.v (.bool Ck),slc 1 (List.map ah Cm)]])]⟩)] [(302,TR 43 4 (fQ N) (Hj k))]) [7,5] rfl (fun _=>⟨rfl,rfl⟩) (mK rfl) (fun _=>rfl) (mL rfl) (by(try dsimp only);rw[Oe];(try dsimp only);exact cH (fun i=>bif Nat.beq i 302 then 15 else i) rfl rfl rfl rfl rfl ⟨.ptr,.ptr,.sv (SV.aa _),trivial⟩ ⟨⟨_,rfl,⟨.row rfl,trivial⟩⟩,⟨_,rfl,⟨.sv (SV.aa _),trivial⟩⟩,trivial⟩ ⟨⟨_,rfl,bQ.refl _⟩,trivial⟩ (fun i hi=>by rw[bH (show i≠302 by omega)];rfl)) (fun k hk D hD=>?_) ?_
 have h:=Of k hk
 obtain⟨iK,DC⟩:∃q,Hj k=q:=⟨_,rfl⟩
 rw[DC]at h⊢
 dsimp only[AS.IT,n8]
 try dsimp only at h
 obtain⟨⟨⟨Ca,Cb⟩,⟨Cc,Cd⟩⟩,Je,h⟩:=bS h
 rw[Option.some.inj Je]
 obtain⟨⟨⟨Ce,Cf⟩,⟨Cg,Ch⟩⟩,BW,h⟩:=bS h
 rw[Option.some.inj BW]
 refine sr<|al (cs:=[.v (.bool false),nw N (slc 1 (List.map ah [])),.v (.bool false),nw N (slc 1 (List.map ah []))]) (by exact⟨SV.aa _,aA,SV.aa _,aA,trivial⟩) rfl<|so rfl rfl rfl<|dn<|af<|al (cs:=[.v (.bool false),nw N (slc 1 (List.map ah [])),.v (.bool false),nw N (slc 1 (List.map ah []))]) (by exact⟨SV.aa _,aA,SV.aa _,aA,trivial⟩) rfl<|so rfl rfl rfl<|RT.done ?_
 refine ae.n ⟨rfl,?_⟩
 dsimp only[AS.wL]
 refine ak<|ai mixed<|RT.dN .none (s:=.row _) rfl rfl rfl T<|lV rfl rfl rfl<|ld rfl rfl (.cons rfl (.cons rfl (.cons rfl (.cons rfl (.nil)))))<|ld rfl rfl (.cons rfl (.cons rfl (.cons rfl (.cons rfl (.nil))))) ?_
 obtain⟨⟨⟨ik,hG⟩,⟨ny,nA⟩⟩,qM,h⟩:=bS h
 refine RT.Wr (args:=[_,_]) (caps:=[_]) .none (xb N qM) (Nat.le_trans hN hD) rfl ⟨rfl,rfl,trivial⟩ T<|bl (l:=[⟨⟨ik,hG⟩,⟨ny,nA⟩⟩]) (e:=(fQ N)) (.agg rfl (.nil)) rfl rfl rfl rfl rfl rfl<|bE h fun kq m7 h=>aR (k:=[⟨⟨ik,hG⟩,⟨ny,nA⟩⟩]) (e:=(fQ N)) rfl rfl rfl m7<|RT.gR (cells:=[_]) .none rfl rfl rfl rfl T rfl ?_
 refine RT.done ⟨by kernel_rfl,?_⟩
 refine aG.n ?_
 replace h:=Option.some.inj h
 refine⟨trivial,rfl,rfl,?_⟩
 try dsimp only
 rw[←h]
 try dsimp only
 exact cH (fun i=>bif Nat.beq i 302 then 27 else i) rfl rfl rfl rfl rfl ⟨.ptr,.ptr,.sv (SV.aa _),trivial⟩ ⟨⟨_,rfl,⟨.row rfl,trivial⟩⟩,⟨_,rfl,⟨.sv (SV.aa _),trivial⟩⟩,trivial⟩ ⟨⟨_,rfl,bQ.refl _⟩,trivial⟩ (fun i hi=>by rw[bH (show i≠302 by omega)];rfl)
 rw[Og]
 try dsimp only
 refine aG.n<|ae.n<|sr<|RT.dN .none (s:=.row _) rfl rfl rfl T<|an (s:=.row _) rfl<|dn<|iM (i:=302) (E1:=43) (n:=4) (e:=(fQ N)) (l:=iK) hN (fun _ h=>h) rfl<|aj ?_
 obtain rfl:=O Od
 exact R1 rfl
theorem zC{x0:Qr}{x1:List Qr}{x2:List Qr}(N:Nat){r:List Qr}(h:dG x0 x1 x2=some r):cJ Tryz.prog 96 N [.agg (eQ x0),slc 4 (List.map eQ x1),slc 4 (List.map eQ x2)] (nw N (slc 4 (List.map (fQ N) r))):=by
 obtain⟨⟨aB,aC⟩,⟨aJ,aL⟩⟩:=x0
 refine aN Tryz.func96 rfl (Nat.le_of_ble_eq_true rfl) (fun cG M vs hN hvs=>?_)
 unfold dG at h
 refine sr<|bx rfl<|aI rfl (aA (N:=N) (n:=4) (e:=(fQ N)))<|dn ?_
 refine bh (gz (i:=3) rfl [.v (.bool aB),slc 1 (List.map ah aC),.v (.bool aJ),slc 1 (List.map ah aL)] (.cons rfl (.cons rfl (.cons rfl (.cons rfl (.nil))))) .any 0 [(3,.sv (ref [.v (.bool aB),slc 1 (List.map ah aC),.v (.bool aJ),slc 1 (List.map ah aL)]))] (fun _ _ _=>trivial) (qy.h (l:=[.v (.bool aB),slc 1 (List.map ah aC),.v (.bool aJ),slc 1 (List.map ah aL)])) ⟨@FT.ptr _ _ _ _ _ 3 0 rfl,trivial⟩)<|sr<|mv rfl<|mv rfl<|RT.vk (caps:=[_]) .none ⟨rfl,trivial⟩ T<|bE h fun dm fD h=>?_
 refine RT.aX .none (yl N fD) hN rfl ⟨rfl,rfl,rfl,trivial⟩ T<|ag rfl<|dn<|aj ?_
 obtain rfl:=O h
 exact R1 rfl
theorem Ji{x0:List Qr}{x1:List Qr}(N:Nat){r:List Qr}(h:k7 x0 x1=some r):cJ Tryz.prog 50 N [slc 4 (List.map eQ x0),slc 4 (List.map eQ x1)] (nw N (slc 4 (List.map (fQ N) r))):=by
 refine aN Tryz.func50 rfl (Nat.le_of_ble_eq_true rfl) (fun cG M vs hN hvs=>?_)
 unfold k7 at h
 refine sr<|aI rfl (aA (N:=N) (n:=4) (e:=(fQ N)))<|dn<|sr<|mv rfl<|mv rfl<|bE h fun x7 h7 h=>RT.aX .none (CH N h7) hN rfl ⟨rfl,rfl,rfl,trivial⟩ T<|ag rfl<|dn<|aj ?_
 obtain rfl:=O h
 exact R1 rfl
theorem DM{x0:List Qr}{x1:Int}(N:Nat){r:List Qr}(h:fJ x0 x1=some r):cJ Tryz.prog 47 N [slc 4 (List.map eQ x0),.v (.int .i64 x1)] (nw N (slc 4 (List.map (fQ N) r))):=by
 refine aN Tryz.func47 rfl (Nat.le_of_ble_eq_true rfl) (fun cG M vs hN hvs=>?_)
 unfold fJ at h
 refine sr<|aI rfl (aA (N:=N) (n:=4) (e:=(fQ N)))<|dn<|qq<|sr<|mv rfl<|lE h fun x8 h8 h=>ls _ rfl rfl h8<|dn ?_
 cases x8
 refine fs<|sr<|mv rfl<|lE (F h) fun dm fD h=>RT.min .none _ rfl rfl T (E7 (p:=x1) (q:=65536) fD)<|bE h fun gU mB h=>RT.jy (n:=4) (e:=(fQ N)) .none rfl rfl T rfl T (by rfl) (by decide) (by exact⟨SV.aa _,aA,SV.aa _,aA,trivial⟩) mB<|an (s:=.row _) rfl<|dn<|qq<|sr<|mv rfl<|lE h fun fB fT h=>ln rfl fT<|mo (s:=.row _) rfl<|lE h fun dA fE h=>lL rfl rfl fE<|lE h fun gu iQ h=>?_
 refine RT.min .none _ rfl rfl T (E7 (p:=fB) (q:=dA) iQ)<|mv rfl<|dn<|bE h fun e8 Am ud=>?_
 refine aV (fun(lf:(List Qr))=>AS.bG 30 [(5,.row 11)] [] [(11,TR 43 4 (fQ N) lf)]) (fun lf=>lf=e8) ?_ (fun lf An=>?_)
 refine ak ?_
 refine aW Am (fun s8=>AS.bG 30 [(0,.sv (slc 4 (List.map eQ x0))),(5,.row 11),(16,.sv (.v (.int .i64 gu))),(17,.sv (.v (.int .i64 s8.1)))] [] [(11,TR 43 4 (fQ N) s8.2)]) (wR []) (fun s8 y8 G8 h Ao Ap=>?_)
 obtain⟨sS,qO⟩:=s8
 try dsimp only
 refine sr<|lE h fun ek gV h=>ls _ rfl rfl gV<|dn<|qq ?_
 cases ek
 refine cF<|aZ<|ae.x<|ae.x<|aG.x<|ae.n ?_
 obtain rfl:=O (F h)
 exact⟨qO,Ap _ rfl,wR []⟩
 refine cT<|aE<|ae.n<|qq<|ak<|sr<|mv rfl<|ag rfl<|dn<|af<|mo (s:=.row _) rfl<|mv rfl<|mv rfl<|mv rfl ?_
 obtain⟨⟨⟨oc,oe⟩,⟨og,oh⟩⟩,kD,h⟩:=bS (V h)
 refine ix rfl rfl kD<|RT.gD (cs:=[_,_,_,_]) .none rfl T rfl rfl ?_
 obtain⟨⟨⟨sV,sW⟩,⟨sX,sY⟩⟩,nT,h⟩:=bS h
 refine RT.aX .none (qa N nT) hN rfl ⟨rfl,trivial⟩ T<|bE h fun kq m7 h=>iR rfl rfl rfl m7<|bE h fun qH kE h=>sA ⟨⟨sV,sW⟩,⟨sX,sY⟩⟩ rfl rfl rfl kE<|RT.done<|aG.n<|ae.n<|af<|lE h fun mN rY h=>ad _ rfl rfl rY<|mv rfl<|RT.done ?_
 obtain rfl:=O h
 exact ae.n ⟨(mN,qH),Ao _ rfl,wR []⟩
 subst An
 try dsimp only
 refine ae.n<|sr<|mo (s:=.row _) rfl<|an (s:=.row _) rfl<|dn<|iM (i:=11) (E1:=43) (n:=4) (e:=(fQ N)) (l:=lf) hN (fun _ h=>h) rfl<|aj ?_
 obtain rfl:=O ud
 exact R1 rfl
 refine cT<|sr<|aI rfl (aA (N:=N) (n:=4) (e:=(fQ N)))<|dn<|aj<|ae.r ?_
 obtain rfl:=O (V h)
 exact R1 rfl
end Go.Proofs.YtningmnklfpfjaaGreat
namespace Go.Fw
open Go.RowKit
def J9(P:Program)(f:FuncId)(args:Nat→List AV)(T:TypeId)(c:List Oc)(Post:Nat→Mem→World→Value→Prop):Prop:=
 ∀(M:Mem) (w:World) (β:Nat) (vs us:List Value),M.cM w→pX M w β T c us→cO (oX M β) (args β) vs→
  Calls P f ⟨vs⟩ w fun e w'=>∃v M',e=.returned v∧M.le M'∧(∀b o x,M' b o=some x→M b o=some x∨w.heap.size≤b)∧M'.cM w'∧Post w.heap.size M' w' v∧
   pX M' w' β T c us∧w'.os=w.os∧w'.tape=w.tape∧w'.output=w.output∧w.heap.size≤w'.heap.size∧∀k,k<w.heap.size→k≠β→¬dU c us k→w'.heap[k]? =w.heap[k]?
theorem HA{P:Program}{f:FuncId}{fn:Func}{code:Code}{args:Nat→List AV}{T:TypeId}{c:List Oc}{Post:Nat→Mem→World→Value→Prop}(ids:List Nat)(hf:P.funcs[f]? =some fn)(hb:fn.body=some code)(hn:∀β,(args β).length≤fn.ntmps)(J1:∀β,(args β).all AV.oy=true)(Dn:ids.Nodup)(Tf:ids.length=(rowsOf c).length)(hge:(ids.all fun i=>Nat.ble 1000 i)=true)(Ws:FB c)(Rq:AS→Prop)
  (h:∀(w:World) (M:Mem) (β:Nat) (us:List Value),Ok P (Q8 w M β c us ids hge) code (AS.Dh fn.ntmps (args β) [(1000,⟨T,bN ids c⟩)] (ids.zip (rowsOf c))) (fun e S=>(e=.normal∨e=.ret)∧Rq S∧S.b 1000=some ⟨T,bN ids c⟩∧Lv S ids (rowsOf c)))
  (hr:∀(w:World) (M:Mem) (β:Nat) (us:List Value) (S':AS) (E:Env) (a:Act) (w':World),Rq S'→az (Q8 w M β c us ids hge) S' E a w'→S'.b 1000=some ⟨T,bN ids c⟩→(∀g,dU c us g→∃j∈ids,(E.ν j).ownBlock=some g)→(∀j∈ids,∃R,S'.r j=.live R)→∃v,(results fn a.tmps).run P w'=.ok v w'∧Post w.heap.size E.M w' v):J9 P f args T c Post:=by
 intro M w β vs us hM ho hv
 have X5:(bz c us).length=(rowsOf c).length:=by rw[←iA ho.al,List.length_map]
 have hnd:((ids.zip (bz c us)).map (·.1)).Nodup:=by rw[AZ (by omega)];exact Dn
 have Ul:az (Q8 w M β c us ids hge) (AS.Dh fn.ntmps (args β) [(1000,⟨T,bN ids c⟩)] (ids.zip (rowsOf c))) ⟨fun _=>β,kS (ids.zip (bz c us)) (fun _=>.nilIface),fun _=>False,M⟩ {tmps:=⟨vs⟩++Array.replicate (fn.ntmps-(⟨vs⟩:Array Value).size) undef,defers:=[]} w:=by
  have h0:=J0 (n:=fn.ntmps) ids hM ho hv (J1 β) (hn β) Dn Tf
  exact{wf:=h0.wf,marks:=h0.marks,size:=h0.size,os:=h0.os,tape:=h0.tape,output:=h0.output,grown:=h0.grown,frame:=h0.frame,m0:=h0.m0,ez:=h0.ez,cM:=h0.cM,tm:=h0.tm,bx:=h0.bx,inj:=h0.inj,rx:=h0.rx,ff:=h0.ff,gQ:=h0.gQ,dS:=fun i v e=>(by
   obtain⟨R,hm⟩:=FA e
   exact iU hnd hm),kV:=h0.kV,jj:=trivial}
 refine gG rfl hf hb Ul (h w M β us) ?_
 rintro S' E a w' ⟨hq,hB,hL⟩ hh
 have hβ:E.β 1000=β:=hh.gQ 1000 β rfl
 obtain⟨us',ho',kQ⟩:=qR hh hB hL Dn
 rw[hβ]at ho'
 obtain⟨_,_,_,Yv,q2,q3⟩:=hh.bx 1000 _ hB
 rw[hβ,ho'.hp]at q2
 obtain rfl:us'=Yv:=by
  have:=Option.some.inj q2
  injection this with e
  injection e
 obtain⟨_,adZ⟩:=uB hh hL q3
 have jx:bz c us=bz c us':=by
  rw[adZ]
  have key:∀(ids:List Nat) (l:List (Row×Value)) (Rs:List Row),ids.length=l.length→l.map (·.1)=Rs→(∀i R v,(i,R,v)∈ids.zip l→E.ν i=v)→l=Rs.zip (ids.map E.ν):=by
   intro ids
   induction ids with
   |nil=>intro l Rs hl hm _;cases l with|nil=>cases hm;rfl|cons _ _=>simp at hl
   |cons i ids ih=>
    intro l Rs hl hm hν
    cases l with
    |nil=>simp at hl
    |cons p l=>
     cases hm
     obtain⟨R,v⟩:=p
     rw[List.map_cons,List.map_cons,List.zip_cons_cons,hν i R v (by rw[List.zip_cons_cons];simp),←ih l _ (by simpa using hl) rfl (fun i R v hm=>hν i R v (by rw[List.zip_cons_cons];exact List.mem_cons_of_mem _ hm))]
  exact key ids _ _ (by omega) (iA ho.al) (fun i R v hm=>hh.dS i v (Oo hnd hm))
 obtain rfl:us=us':=FC Ws ho.al ho'.al jx
 obtain⟨v,hv,hx⟩:=hr w M β us S' E a w' hq hh hB (fun g hg=>(kQ g).1 hg) (fun j hj=>hL.mem j hj)
 refine⟨v,hv,v,E.M,rfl,hh.m0,fun b o x e=>?_,hh.cM,hx,ho',hh.os,hh.tape,hh.output,hh.grown,fun k hk hne hno=>hh.frame k hk (fun e=>e.elim hne hno)⟩
 rcases hh.ez b o x e with q|q|q|q
 ·exact .inl q
 ·exact .inr q
 ·rw[show b=β from q,ho'.nb o]at e;cases e
 ·rw[(ho'.nr b q).2 o]at e;cases e
section steps
variable {P:Program}{C:Ctx}{ops:Array Oper}{S:AS}{nd:Bool}{K:List Ac→AS→Prop}{rest:List Oper}{acc:List Ac}
variable {gd:Option (Nat×Bool)}{rg:List Nat}{d:Nat}{ty:TypeId}{pos:String}{aft:Array Edge}{x y z:Operand}{T U E0:TypeId}
end steps
end Go.Fw
namespace Go.Fw
open Go.RowKit
section
variable {P:Program}{C:Ctx}{S:AS}{Q:Exit→AS→Prop}
def Mem.ct(M:Mem)(N1 N2:Nat):Mem:=fun b o=>if N1≤b∧b<N2 then none else M b o
def KpS(N1 N2:Nat)(s s':SV):Prop:=∀M v,s.h M v→s'.h (M.ct N1 N2) v
inductive Wt (N1 N2:Nat):AV→AV→Prop
 |sv {s s':SV} (h:KpS N1 N2 s s'):Wt N1 N2 (.sv s) (.sv s')
 |ptr {i o:Nat}:Wt N1 N2 (.ptr i o) (.ptr i o)
theorem Wt.holds{N1 N2:Nat}{x y:AV}{E:Env}{v:Value}(h:Wt N1 N2 x y)(hx:x.holds E v):y.holds {E with M:=E.M.ct N1 N2} v:=by
 cases h with
 |sv h=>exact h _ _ hx
 |ptr=>exact hx
def Lt(N1 N2:Nat):List AV→List AV→Prop
 |[],[]=>True
 |x::l,y::l'=>Wt N1 N2 x y∧Lt N1 N2 l l'
 |_,_=>False
theorem Lt.holds{N1 N2:Nat}{E:Env}:∀{l l':List AV} {vs:List Value},Lt N1 N2 l l'→cO E l vs→cO {E with M:=E.M.ct N1 N2} l' vs
 |[],[],[],_,_=>trivial
 |_::_,_::_,_::_,h,hv=>⟨h.1.holds hv.1,Lt.holds h.2 hv.2⟩
 |[],[],_::_,_,hv=>hv.elim
 |_::_,_::_,[],_,hv=>hv.elim
 |[],_::_,_,h,_=>h.elim
 |_::_,[],_,h,_=>h.elim
def TsK(N1 N2:Nat)(S:AS):List (Nat×AV)→Prop
 |[]=>True
 |(k,x)::l=>Wt N1 N2 (S.t k) x∧TsK N1 N2 S l
def BsK(N1 N2:Nat)(S:AS):List (Nat×om)→Prop
 |[]=>True
 |(k,x)::l=>(∃cs,S.b k=some ⟨x.T,cs⟩∧Lt N1 N2 cs x.cells)∧BsK N1 N2 S l
theorem TsK.mem{N1 N2:Nat}{S:AS}:∀{l:List (Nat×AV)},TsK N1 N2 S l→∀p∈l,Wt N1 N2 (S.t p.1) p.2
 |_::_,h,p,hp=>by
  rcases List.mem_cons.1 hp with rfl|hp
  ·exact h.1
  ·exact TsK.mem h.2 p hp
theorem BsK.mem{N1 N2:Nat}{S:AS}:∀{l:List (Nat×om)},BsK N1 N2 S l→∀p∈l,∃cs,S.b p.1=some ⟨p.2.T,cs⟩∧Lt N1 N2 cs p.2.cells
 |_::_,h,p,hp=>by
  rcases List.mem_cons.1 hp with rfl|hp
  ·exact h.1
  ·exact BsK.mem h.2 p hp
end
section
variable {P:Program}{C:Ctx}{ops:Array Oper}{S:AS}{K:List Ac→AS→Prop}{rest:List Oper}{acc:List Ac}
variable {gd:Option (Nat×Bool)}{rg:List Nat}{d:Nat}{ty:TypeId}{pos:String}{aft:Array Edge}{x y z:Operand}{T U E0:TypeId}
end
end Go.Fw
namespace Go.Fw
open Go.RowKit
structure X9 where
 W:World
 Mx:Mem
 b0:Nat
 o0:Nat
 n:Nat
 sz:Nat
 hin:Mx.cM W
 hb:0<n→∃o,Mx b0 o=some (.agg #[])
 cell:∀i k,i<n→k<sz→∃y,Mx b0 (o0+i*sz+k)=some y∧y.oneCell'=true
def Ow(D:X9)(b:Nat):Prop:=∃o,D.Mx b o=some (.agg #[])
def Ex(D:X9)(g:Nat)(w:World):Prop:=
 (∀i k y,g≤i→i<D.n→k<D.sz→D.Mx D.b0 (D.o0+i*D.sz+k)=some y→w.cell? ⟨D.b0,D.o0+i*D.sz+k,none⟩=some y)∧
 ∀b,Ow D b→∃us vs T,D.W.heap[b]? =some (.cells ⟨us⟩ T (0,0))∧w.heap[b]? =some (.cells ⟨vs⟩ T (0,0))∧vs.length=us.length
theorem Ex.same{D:X9}{g:Nat}{w w':World}(h:Ex D g w)(hs:∀b,Ow D b→w'.heap[b]? =w.heap[b]?):Ex D g w':=by
 refine⟨fun i k y h1 h2 h3 h4=>?_,fun b hb=>?_⟩
 ·rw[World.cell?_of_block (w:=w) (a:=⟨D.b0,D.o0+i*D.sz+k,none⟩) (hs _ (D.hb (by omega)))]
  exact h.1 i k y h1 h2 h3 h4
 ·obtain⟨us,vs,T,q1,q2,q3⟩:=h.2 b hb
  exact⟨us,vs,T,q1,by rw[hs b hb];exact q2,q3⟩
section
variable {P:Program}{D:X9}{M0:Mem}{S:AS}
theorem Ka:∀(xs:List Value) (l:List Value) (k:Nat),(kN l k xs).length=l.length
 |[],_,_=>rfl
 |x::xs,l,k=>by rw[kN,Ka xs];simp
theorem Kb:∀(xs:List Value) (l:List Value) (k j:Nat),(j<k∨k+xs.length≤j)→(kN l k xs)[j]? =l[j]?
 |[],_,_,_,_=>rfl
 |x::xs,l,k,j,h=>by
  rw[List.length_cons]at h
  rw[kN,Kb xs _ _ _ (by omega),List.getElem?_set,if_neg (by omega)]
theorem Ex.put{g g':Nat}{w:World}(h:Ex D g w)(hg:g≤g'){b o:Nat}{us vs:List Value}{T:TypeId}(hw:w.heap[b]? =some (.cells ⟨vs⟩ T (0,0)))
  (hne:∀i k,g'≤i→i<D.n→k<D.sz→b=D.b0→D.o0+i*D.sz+k<o∨o+us.length≤D.o0+i*D.sz+k):Ex D g' (fy w b (kN vs o us) T):=by
 refine⟨fun i k y h1 h2 h3 h4=>?_,fun b' hb=>?_⟩
 ·have e:=h.1 i k y (Nat.le_trans hg h1) h2 h3 h4
  by_cases hb:D.b0=b
  ·subst hb
   have q:=hne i k h1 h2 h3 rfl
   simp only[World.cell?,hw]at e
   simp only[World.cell?,qA hw]
   simp only[Option.isSome_none,Bool.false_eq_true,if_false,List.getElem?_toArray]at e⊢
   rw[Kb us vs o _ q];exact e
  ·rw[World.cell?_of_block (w:=w) (a:=⟨D.b0,D.o0+i*D.sz+k,none⟩) (fH hb)];exact e
 ·obtain⟨Q9,LZ,T0,q1,q2,q3⟩:=h.2 b' hb
  by_cases e:b'=b
  ·subst e
   rw[hw]at q2;cases q2
   exact⟨Q9,kN vs o us,T,q1,qA hw,by rw[Ka];exact q3⟩
  ·exact⟨Q9,LZ,T0,q1,by rw[fH e];exact q2,q3⟩
end
section
variable {P:Program}{C:Ctx}{ops:Array Oper}{S:AS}{nd:Bool}{K:List Ac→AS→Prop}{rest:List Oper}{acc:List Ac}
variable {gd:Option (Nat×Bool)}{rg:List Nat}{d:Nat}{ty:TypeId}{pos:String}{aft:Array Edge}{x y z:Operand}{T U E0:TypeId}{D:X9}{M0:Mem}
instance{a:Option Addr}{n c:Nat}:XN (.v (.slice a n c)) n:=⟨fun _ v h=>⟨a,c,h⟩⟩
end
section
variable {P:Program}
structure SpV (D:X9) {α:Type} (e:α→List SV) (l:List α) (v:Value):Prop where
 n:D.n=l.length
 v:∃a c,v=.slice a l.length c∧(l≠[]→a=some ⟨D.b0,D.o0,none⟩)∧l.length≤9223372036854775807
 row:∀(i:Nat) (x:α),l[i]? =some x→(e x).length=D.sz∧∀(k:Nat) (s:SV),(e x)[k]? =some s→∃y,D.Mx D.b0 (D.o0+i*D.sz+k)=some y∧y.oneCell'=true∧s.h D.Mx y
end
end Go.Fw
namespace Go.Fw
open Go.RowKit
instance{cs:List SV}:One (ref cs):=⟨fun _ _ h=>by obtain⟨b,o,rfl,_⟩:=h;rfl⟩
section steps
variable {P:Program}{C:Ctx}{ops:Array Oper}{S:AS}{nd:Bool}{K:List Ac→AS→Prop}{rest:List Oper}{acc:List Ac}
variable {gd:Option (Nat×Bool)}{rg:List Nat}{d:Nat}{ty:TypeId}{pos:String}{aft:Array Edge}{x y z:Operand}{T U E0:TypeId}
theorem RT.bL(hg:Gd ops S gd rg){cs:List SV}(hx:S.ev x=.sv (ref cs))(hd:d<S.n)
  (next:RunT P C ops nd K rest (⟨rg++au x,[],[],⟨some (d,.sv (ref cs)),[],[]⟩⟩::acc) (S.set d (.sv (ref cs)))):RunT P C ops nd K (⟨some d,.nilCheck x,ty,pos,aft,gd⟩::rest) acc S:=
 RT.value hg (au x) [] [] (.sv (ref cs)) hd (by intro c h;cases h) (fun S' ht _ _ E a w h=>by
  have h1:=h.ev x
  rw[aH (fun _ h=>h) ht,hx]at h1
  have h1:(ref cs).h E.M (a.eval x):=h1
  obtain⟨b,o,e,h2⟩:=h1
  exact⟨a.eval x,by simp[execOp,e],⟨b,o,e,h2⟩,eR⟩) next
theorem RT.Wu(hg:Gd ops S gd rg)[tT:z8 P T]{cs:List SV}(hx:S.ev x=.sv (ref cs))(hy:S.ev y=.sv (.v (.pointer none)))(hd:d<S.n)
  (next:RunT P C ops nd K rest (⟨rg++(au x++au y),[],[],⟨some (d,.sv (.v (.bool false))),[],[]⟩⟩::acc) (S.set d (.sv (.v (.bool false))))):RunT P C ops nd K (⟨some d,.binOp .eql T x y U,ty,pos,aft,gd⟩::rest) acc S:=
 RT.value hg (au x++au y) [] [] (.sv (.v (.bool false))) hd (by intro c h;cases h) (fun S' ht _ _ E a w h=>by
  have h1:=h.ev x
  rw[aH (fun _ h=>List.mem_append_left _ h) ht,hx]at h1
  have h2:=h.ev y
  rw[aH (fun _ h=>List.mem_append_right _ h) ht,hy]at h2
  have h1:(ref cs).h E.M (a.eval x):=h1
  obtain⟨b,o,h1,_⟩:=h1
  have h2:a.eval y=.pointer none:=h2
  have e:=run_eql_pointer_nil (P:=P) w T (some ⟨b,o,none⟩) tT.u
  refine⟨.bool false,?_,rfl,eR⟩
  simp[execOp,h1,h2,eqGuard,e]) next
end steps
end Go.Fw
namespace Go.Fw
open Go.RowKit
noncomputable def wA(M:Mem)(w:World)(p:Nat→Prop):Mem:=fun b o=>@ite _ (p b) (Classical.propDecidable _) (match w.cell? ⟨b,o,none⟩with|some v=>if v.oneCell'=true then some v else none|none=>none) (M b o)
noncomputable def ym(M:Mem)(p:Nat→Prop):Mem:=fun b o=>@ite _ (p b) (Classical.propDecidable _) none (M b o)
theorem HB{M:Mem}{w:World}{p:Nat→Prop}{b o:Nat}{v:Value}(hb:p b)(hc:w.cell? ⟨b,o,none⟩=some v)(h1:v.oneCell'=true):wA M w p b o=some v:=by
 unfold wA;rw[if_pos hb,hc];simp[h1]
theorem Lu{M:Mem}{w:World}{p:Nat→Prop}(h:M.cM w):(wA M w p).cM w:=fun b o v e=>by
 unfold wA at e
 split at e
 ·split at e
  ·rename_i q
   split at e
   ·rename_i h1;cases e;exact Fact.of q h1
   ·cases e
  ·cases e
 ·exact h b o v e
theorem yn{M:Mem}{w:World}{p:Nat→Prop}(h:∀b,p b→∀o,M b o=none):M.le (wA M w p):=fun b o v e=>by
 unfold wA;rw[if_neg];exact e
 intro hb;rw[h b hb o]at e;cases e
theorem HC{M:Mem}{p:Nat→Prop}:(ym M p).le M:=fun b o v e=>by
 unfold ym at e
 split at e
 ·cases e
 ·exact e
theorem HD{M:Mem}{p:Nat→Prop}{b o:Nat}{v:Value}(hb:¬p b)(e:M b o=some v):ym M p b o=some v:=by unfold ym;rw[if_neg hb];exact e
theorem CI{M:Mem}{p:Nat→Prop}{b:Nat}(hb:p b)(o:Nat):ym M p b o=none:=by unfold ym;rw[if_pos hb]
def OcI:List Oc→List SV→Prop
 |[],[]=>True
 |.s x::l,y::k=>(SV.imp x y∧∀M v,x.h M v→v.oneCell'=true)∧OcI l k
 |.r R::l,y::k=>(∃rows,Rows R.sz rows R.cells∧rows.length=R.n∧(∀M vs,SV.dR M R.cells vs→∀v∈vs,v.oneCell'=true)∧SV.imp (slc R.sz rows) y)∧OcI l k
 |_,_=>False
theorem cw{E:TypeId}{n:Nat}{α:Type}{e:α→List SV}{l:List α}[el:EL e n]:∃rows,Rows (TR E n e l).sz rows (TR E n e l).cells∧rows.length=(TR E n e l).n∧(∀M vs,SV.dR M (TR E n e l).cells vs→∀v∈vs,v.oneCell'=true)∧SV.imp (slc (TR E n e l).sz rows) (slc n (l.map e)):=
 ⟨l.map e,qD l,by simp,mM l,SV.aa _⟩
theorem Oy{M:Mem}{w:World}{p:Nat→Prop}{R:Row}{v:Value}{rows:List (List SV)}(hno:∀b,p b→∀o,M b o=none)(hb:∀g,v.ownBlock=some g→p g)(ho:∃vs:List Value,w.ownsRow 0 R.E R.sz v R.n vs∧SV.dR M R.cells vs)
  (jx:Rows R.sz rows R.cells) (hn:rows.length=R.n) (hone:∀M vs,SV.dR M R.cells vs→∀v∈vs,v.oneCell'=true):(slc R.sz rows).h (wA M w p) v∧v.oneCell'=true:=by
 obtain⟨vs,hown,hvs⟩:=ho
 have vX:=tF jx
 rcases hown.2 with⟨h1,h2⟩|⟨g,cap,cur,h1,_,h2,h3,h4,h5,h6⟩
 ·rw[h2]at hn
  exact⟨.inl ⟨none,h1,List.length_eq_zero_iff.1 hn⟩,by rw[h1];rfl⟩
 ·have hg:p g:=hb g (by rw[h1];rfl)
  have hm:maxLen=9223372036854775807:=by decide
  refine⟨.inr ⟨g,0,cap,by rw[h1,hn],by rw[hn];exact h3,by omega,fun k row hk=>?_⟩,by rw[h1];rfl⟩
  obtain⟨q1,q2⟩:=qB jx k row hk
  refine⟨q1,fun j s hs=>?_⟩
  have Dq:=q2 j s hs
  obtain⟨y,hy,hys⟩:=hvs.get Dq
  have hlt:k*R.sz+j<R.n*R.sz:=by
   have:=(List.getElem?_eq_some_iff.1 Dq).1
   rw[vX,hn]at this;exact this
  have h1':=hone _ _ hvs y (List.mem_of_getElem? hy)
  refine⟨y,HB hg ?_ h1',h1',s.mono (yn hno) hys⟩
  rw[←h6,List.getElem?_take,if_pos hlt]at hy
  simp only[World.cell?,h2]
  simpa using hy
theorem FH{M:Mem}{w:World}{p:Nat→Prop}(hno:∀b,p b→∀o,M b o=none):∀{c:List Oc} {cs:List SV} {us:List Value} {k:Nat} {s:SV},OcI c cs→oU M w c us→(∀q∈bz c us,∀g,q.2.ownBlock=some g→p g)→cs[k]? =some s→∃y,us[k]? =some y∧y.oneCell'=true∧s.h (wA M w p) y
 |.s x::l,y::cs,u::us,k,s,hi,ho,hb,hk=>by
  cases k with
  |zero=>cases hk;exact⟨u,rfl,hi.1.2 _ _ ho.1,y.mono (yn hno) (hi.1.1 _ _ ho.1)⟩
  |succ k=>exact FH hno (c:=l) (cs:=cs) (us:=us) (k:=k) hi.2 ho.2 hb hk
 |.r R::l,y::cs,u::us,k,s,hi,ho,hb,hk=>by
  cases k with
  |zero=>
   cases hk
   obtain⟨rows,q1,q2,q3,q4⟩:=hi.1
   obtain⟨r1,r2⟩:=Oy hno (fun g hg=>hb (R,u) (by rw[bz];simp) g hg) ho.1 q1 q2 q3
   exact⟨u,rfl,r2,q4 _ _ r1⟩
  |succ k=>exact FH hno (c:=l) (cs:=cs) (us:=us) (k:=k) hi.2 ho.2 (fun q hq=>hb q (by rw[bz];exact List.mem_cons_of_mem _ hq)) hk
 |[],[],_,_,_,_,_,_,hk=>by simp at hk
 |[],_::_,_,_,_,hi,_,_,_=>hi.elim
 |.s _::_,[],_,_,_,hi,_,_,_=>hi.elim
 |.r _::_,[],_,_,_,hi,_,_,_=>hi.elim
 |.s _::_,_::_,[],_,_,_,ho,_,_=>ho.elim
 |.r _::_,_::_,[],_,_,_,ho,_,_=>ho.elim
theorem xd{M M':Mem}{w w':World}(hM:M.le M'):∀{c:List Oc} {us:List Value},oU M w c us→(∀q∈bz c us,∀g,q.2.ownBlock=some g→w'.heap[g]? =w.heap[g]?)→oU M' w' c us
 |[],[],_,_=>trivial
 |.s x::l,u::us,h,hs=>⟨x.mono hM h.1,xd hM (c:=l) (us:=us) h.2 hs⟩
 |.r R::l,u::us,h,hs=>by
  obtain⟨vs,h1,h2⟩:=h.1
  exact⟨⟨vs,cX h1 (fun g hg=>hs (R,u) (by rw[bz];simp) g hg),h2.mono hM⟩,xd hM (c:=l) (us:=us) h.2 (fun q hq=>hs q (by rw[bz];exact List.mem_cons_of_mem _ hq))⟩
 |[],_::_,h,_=>h.elim
 |.s _::_,[],h,_=>h.elim
 |.r _::_,[],h,_=>h.elim
def AV.ZS(cells:List SV):AV→SV
 |.sv s=>s
 |_=>ref cells
def AV.Tl:AV→Bool
 |.sv _=>true
 |.ptr i o=>Nat.beq i 1000&&Nat.beq o 0
 |_=>false
theorem HE{M M':Mem}{β:Nat}{cells:List SV}(hM:M.le M')(hc:(ref cells).h M' (.pointer (some ⟨β,0,none⟩))):∀{args:List AV} {vs:List Value},(args.all AV.Tl)=true→cO (oX M β) args vs→SV.dR M' (args.map (AV.ZS cells)) vs
 |[],[],_,_=>trivial
 |x::l,v::vs,hy,h=>by
  rw[List.all_cons,Bool.and_eq_true]at hy
  refine⟨?_,HE hM hc hy.2 h.2⟩
  cases x with
  |sv s=>exact s.mono hM h.1
  |ptr i o=>
   have h1:=Bool.and_eq_true_iff.1 hy.1
   have e:v=.pointer (some ⟨β,o,none⟩):=h.1
   rw[e,Nat.eq_of_beq_eq_true h1.2];exact hc
  |_=>exact(Bool.false_ne_true hy.1).elim
 |[],_::_,_,h=>h.elim
 |_::_,[],_,h=>h.elim
theorem dz{P:Program}{f:FuncId}{args:List AV}{T:TypeId}{c:List Oc}{cells:List SV}{r:Nat→SV}{res:SV}(hp:∀N,cJ P f N (args.map (AV.ZS cells)) (r N))(hy:args.all AV.Tl=true)(hi:OcI c cells)(hr:∀N M v,(r N).h M v→res.h (M.fr N) v):zA P f args T c res:=by
 intro M w β vs us hM ho hv
 have hno:∀b,(b=β∨dU c us b)→∀o,M b o=none:=fun b hb o=>by
  rcases hb with rfl|hb
  ·exact ho.nb o
  ·exact(ho.nr b hb).2 o
 have hlt:∀b,(b=β∨dU c us b)→b<w.heap.size:=fun b hb=>by
  rcases hb with rfl|⟨q,hq,hg⟩
  ·exact(Array.getElem?_eq_some_iff.1 ho.hp).1
  ·obtain⟨ws,h1,_⟩:=kT ho.al q hq
   rcases h1.2 with⟨h2,_⟩|⟨g,cap,cur,h2,_,h3,_⟩
   ·rw[h2]at hg;cases hg
   ·rw[h2]at hg;cases hg;exact(Array.getElem?_eq_some_iff.1 h3).1
 have vX:(ref cells).h (wA M w (fun b=>b=β∨dU c us b)) (.pointer (some ⟨β,0,none⟩)):=⟨β,0,rfl,fun k s hk=>by
  obtain⟨y,h1,h2,h3⟩:=FH hno hi ho.al (fun q hq g hg=>.inr ⟨q,hq,hg⟩) hk
  refine⟨y,HB (.inl rfl) ?_ h2,h2,h3⟩
  simp only[World.cell?,ho.hp]
  simpa using h1⟩
 refine(hp w.heap.size _ w vs (Nat.le_refl _) (Lu hM) (HE (yn hno) vX hy hv)).mono ?_
 rintro e w' ⟨v,M',rfl,hM',hnew,ad0,hres,hb⟩
 have hMM:M.le (ym M' (fun b=>b=β∨dU c us b)):=fun b o x e=>HD (fun hb=>by rw[hno b hb o]at e;cases e) (hM' b o x (yn hno b o x e))
 refine⟨v,ym M' (fun b=>b=β∨dU c us b),rfl,hMM,fun b o x e=>?_,fun b o x e=>ad0 b o x (HC b o x e),res.mono (fun b o x e=>?_) (hr _ _ _ hres),?_,hb.os,hb.tape,hb.output,hb.size,fun k hk _ _=>hb.block k hk⟩
 ·rcases hnew b o x (HC b o x e)with q|q
  ·refine .inl ?_
   unfold wA at q
   split at q
   ·rename_i Dg
    have e2:ym M' (fun b=>b=β∨dU c us b) b o=none:=CI (p:=fun b=>b=β∨dU c us b) Dg o
    rw[e2]at e;cases e
   ·exact q
  ·exact .inr q
 ·unfold Mem.fr at e
  split at e
  ·rename_i hN
   exact HD (fun Dg=>by have:=hlt b Dg;omega) e
  ·cases e
 ·exact⟨by rw[hb.block β (hlt β (.inl rfl))];exact ho.hp,xd hMM ho.al (fun q hq g hg=>hb.block g (hlt g (.inr ⟨q,hq,hg⟩))),fun o=>CI (p:=fun b=>b=β∨dU c us b) (.inl rfl) o,fun g hg=>⟨(ho.nr g hg).1,fun o=>CI (p:=fun b=>b=β∨dU c us b) (.inr hg) o⟩,ho.ap⟩
theorem nf{P:Program}{f:FuncId}{args:List SV}{r:SV}(h:Pure P f args r)(N:Nat):cJ P f N args r:=fun M w vs _ hM hv=>h M w vs hM hv
theorem Wv{s:SV}:∀(N:Nat) (M:Mem) (v:Value),(nw N s).h M v→s.h (M.fr N) v:=fun _ _ _ h=>h.1
theorem A4{l:List Qr}:∀(N:Nat) (M:Mem) (v:Value),(nw N (slc 4 (l.map (fQ N)))).h M v→(slc 4 (l.map eQ)).h (M.fr N) v:=fun N M v h=>X8 (M.fr N) v (by
 obtain⟨h1,h2⟩:=h
 rw[←Mem.Hv]at h1
 exact⟨h1,fun g e=>by rw[Mem.Hv];exact h2 g e⟩)
theorem Kc{x:Value}:∀(N:Nat) (M:Mem) (v:Value),(SV.v x).h M v→(SV.v x).h (M.fr N) v:=fun _ _ _ h=>h
theorem FI{P:Program}{f:FuncId}{fn:Func}{code:Code}{args:Nat→List AV}{T:TypeId}{c:List Oc}{res:SV}(ids:List Nat)(hf:P.funcs[f]? =some fn)(hb:fn.body=some code)(hn:∀β,(args β).length≤fn.ntmps)(J1:∀β,(args β).all AV.oy=true)(Dn:ids.Nodup)(Tf:ids.length=(rowsOf c).length)(hge:(ids.all fun i=>Nat.ble 1000 i)=true)(Ws:FB c)
  (h:∀(w:World) (M:Mem) (β:Nat) (us:List Value),Ok P (Q8 w M β c us ids hge) code (AS.Dh fn.ntmps (args β) [(1000,⟨T,bN ids c⟩)] (ids.zip (rowsOf c))) (fun e S=>(e=.normal∨e=.ret)∧Mi P S fn.results.toList res∧S.b 1000=some ⟨T,bN ids c⟩∧Lv S ids (rowsOf c))):J9 P f args T c (fun _ M' _ v=>res.h M' v):=
 HA ids hf hb hn J1 Dn Tf hge Ws _ h (fun w M β us S' E a w' hr hh _ _ _=>by
  obtain⟨v,hv,hx⟩:=(Ag.sv hr).run hh
  exact⟨v,hv,hx⟩)
section steps
variable {P:Program}{C:Ctx}{ops:Array Oper}{S:AS}{nd:Bool}{K:List Ac→AS→Prop}{rest:List Oper}{acc:List Ac}{Q:Exit→AS→Prop}
variable {gd:Option (Nat×Bool)}{rg:List Nat}{d:Nat}{ty:TypeId}{pos:String}{aft:Array Edge}{x y z:Operand}{T U E0:TypeId}
theorem Rf{c:Code}{i k β:Nat}(hp:C.gQ k=some β)(hB:S.b i=some ⟨T,[.ptr k 0]⟩)(h:Ok P C c (S.jV i ⟨T,[.sv (.v (.pointer (some ⟨β,0,none⟩)))]⟩) Q):Ok P C c S Q:=fun a w ⟨E,hh⟩=>by
 refine h a w ⟨E,?_⟩
 have hβ:E.β k=β:=hh.gQ k β hp
 have Af:∀j B,(S.jV i ⟨T,[.sv (.v (.pointer (some ⟨β,0,none⟩)))]⟩).b j=some B→(j=i∧B=⟨T,[.sv (.v (.pointer (some ⟨β,0,none⟩)))]⟩)∨(j≠i∧S.b j=some B):=fun j B e=>by
  by_cases hj:j=i
  ·subst hj;rw[AS.cx]at e;cases e;exact .inl ⟨rfl,rfl⟩
  ·rw[AS.bk _ _ _ _ hj]at e;exact .inr ⟨hj,e⟩
 have bTo:∀j,(∃B,S.b j=some B)→∃B,(S.jV i ⟨T,[.sv (.v (.pointer (some ⟨β,0,none⟩)))]⟩).b j=some B:=fun j ⟨B,e⟩=>by
  by_cases hj:j=i
  ·subst hj;exact⟨_,AS.cx _ _ _⟩
  ·exact⟨B,by rw[AS.bk _ _ _ _ hj];exact e⟩
 have Ww:∀j B,(S.jV i ⟨T,[.sv (.v (.pointer (some ⟨β,0,none⟩)))]⟩).b j=some B→∃B',S.b j=some B':=fun j B e=>by
  rcases Af j B e with⟨rfl,_⟩|⟨_,q⟩
  ·exact⟨_,hB⟩
  ·exact⟨_,q⟩
 exact{hh with
  wf:=⟨fun s j hj=>bTo j (hh.wf.tb s j hj),hh.wf.tr,fun j B e y hy m hm=>by
    rcases Af j B e with⟨rfl,rfl⟩|⟨_,q⟩
    ·obtain rfl:y=_:=by simpa using hy
     exact(hm:False).elim
    ·exact bTo m (hh.wf.bb j B q y hy m hm),fun j B e y hy m hm=>by
    rcases Af j B e with⟨rfl,rfl⟩|⟨_,q⟩
    ·obtain rfl:y=_:=by simpa using hy
     exact(hm:False).elim
    ·exact hh.wf.br j B q y hy m hm⟩
  bx:=fun j B e=>by
   rcases Af j B e with⟨rfl,rfl⟩|⟨_,q⟩
   ·obtain⟨h1,h2,h3,vs,h4,h5⟩:=hh.bx j _ hB
    refine⟨h1,h2,h3,vs,h4,?_⟩
    match vs,h5 with
    |[v],h5=>exact⟨(show v=.pointer (some ⟨β,0,none⟩)from hβ▸h5.1),trivial⟩
   ·exact hh.bx j B q
  inj:=fun j j' B B' e e' q=>by
   obtain⟨_,h1⟩:=Ww j B e
   obtain⟨_,h2⟩:=Ww j' B' e'
   exact hh.inj j j' _ _ h1 h2 q
  rx:=fun j R hR=>by
   obtain⟨p1,p2⟩:=hh.rx j R hR
   refine⟨p1,fun g hg=>?_⟩
   obtain⟨q1,q2,q3,q4⟩:=p2 g hg
   refine⟨q1,q2,q3,fun m B e=>?_⟩
   obtain⟨_,h1⟩:=Ww m B e
   exact q4 m _ h1}
theorem RT.zD(hg:Gd ops S gd rg)[tV:bP P T]{k β:Nat}{B:om}(hx:S.ev x=.sv (ref [.v (.pointer (some ⟨β,0,none⟩))]))(hp:C.gQ k=some β)(hB:S.b k=some B)(hd:d<S.n)
  (next:RunT P C ops nd K rest (⟨rg++au x,[k],[],⟨some (d,.ptr k 0),[],[]⟩⟩::acc) (S.set d (.ptr k 0))):RunT P C ops nd K (⟨some d,.load T x,ty,pos,aft,gd⟩::rest) acc S:=
 RT.value hg (au x) [k] [] (.ptr k 0) hd (by intro c h;cases h) (fun S' ht hb _ E a w h=>by
  have h1:=h.ev x
  rw[aH (fun _ h=>h) ht,hx]at h1
  obtain⟨b,o,e,hc⟩:=h1
  obtain⟨u,hu,XO,hs⟩:=hc 0 _ rfl
  have hβ:E.β k=β:=h.gQ k β hp
  have hs:u=.pointer (some ⟨β,0,none⟩):=hs
  refine⟨u,?_,by show u=.pointer (some ⟨E.β k,0,none⟩);rw[hβ];exact hs,fun j e=>?_,fun j e=>e.elim⟩
  ·have T9:w.cell? ⟨b,o,none⟩=some u:=(h.cM _ _ _ hu).cell XO
   simp[execOp,e,Instr.loadAt,Instr.sureAddr,loadVar,tV.isAgg,T9]
  ·have e:j=k:=e
   subst e
   exact⟨B,by rw[hb j (by simp)];exact hB⟩) next
theorem RT.Rg(hg:Gd ops S gd rg){f:FuncId}[bB P f]{g:Operand}{xs:Array Operand}{at_:Array TypeId}{args:List AV}{caps:Nat→List SV}{β:Nat}{T:TypeId}{c:List Oc}{res:SV}(hp:J9 P f (fun β=>args++(caps β).map AV.sv) T c (fun _ M' _ v=>res.h M' v))(i:Nat)(js:List Nat)(IP:C.gQ i=some β)(hB:S.b i=some ⟨T,bN js c⟩)(hL:Lv S js (rowsOf c))(Th:js.Nodup)
  (J1:args.all AV.oy=true) (hf:S.ev g=.sv (gS f (caps β))) (hargs:wK S xs.toList (args.map (AV.Te i))) (hd:d<S.n)
  (next:RunT P C ops nd K rest (⟨rg++(au g++xs.toList.flatMap au),[i],js,⟨some (d,.sv res),[],[]⟩⟩::acc) (S.set d (.sv res))):RunT P C ops nd K (⟨some d,.call ⟨.value g,xs,at_⟩,ty,pos,aft,gd⟩::rest) acc S:=by
 refine .inl ⟨_,[i],js,_,?_,next⟩
 rintro S' hn ht hb hr k a w L Q ho ⟨E,h⟩ ZL
 refine bX (C:=C) ho (hg.wanted h (fun s hs=>ht s (List.mem_append_left _ hs)) rfl) ?_
 have tC:(gS f (caps β)).h E.M (a.eval g):=by
  have h1:=h.ev g;rw[aH (fun _ h=>List.mem_append_right _ (List.mem_append_left _ h)) ht,hf]at h1;exact h1
 obtain⟨oI,tC,yT⟩:=tC
 have hβ:E.β i=β:=h.gQ i β IP
 have hall:=A0 J1 (wK.vals h hargs (fun s hs=>ht s (List.mem_append_right _ (List.mem_append_right _ hs))))
 have fj:S'.b i=some ⟨T,bN js c⟩:=by rw[hb i (by simp)];exact hB
 have Ti:Lv S' js (rowsOf c):=hL.congr (fun k hk=>hr k hk)
 obtain⟨us,Q7,CD⟩:=qR h fj Ti Th
 have ZT:cO (oX E.M (E.β i)) (args++(caps (E.β i)).map AV.sv) (xs.toList.map a.eval++oI):=hall.append (cO.xB (E:=oX E.M (E.β i)) (by rw[hβ];exact yT))
 have hrun:(execOp a.eval ⟨some d,.call ⟨.value g,xs,at_⟩,ty,pos,aft,gd⟩).run P w=.ok (.enter f ⟨xs.toList.map a.eval++oI⟩) w:=by
  have e2:xs.map a.eval++⟨oI⟩=⟨xs.toList.map a.eval++oI⟩:=by apply Array.ext';simp
  have e1:=bB.run (P:=P) (f:=f) (xs.map a.eval++⟨oI⟩) w
  rw[←e2]
  simp[execOp,resolve,tC,Deferred.ofValue,invoke,e1]
 refine bR (C:=C) (by intro c h;cases h) hrun ?_
 refine⟨fun h=>by simp at h,gC ((hp E.M w (E.β i) _ us h.cM Q7 ZT).mono ?_)⟩
 rintro e w' ⟨v,M',rfl,hM,hnew,hin,hv,J3,hos,qQ,hout,hsize,kQ⟩
 have h1:=h.J6 fj Ti Th Q7 hM hnew hin J3 hos qQ hout hsize kQ
 exact ZL _ _ ⟨_,h1.put (x:=.sv res) (v:=v) hv (by show d<S'.n;omega) eR⟩
theorem Rh{α:Type}(l k:List α):(Gl l k).length=l.length:=by unfold Gl;simp;omega
theorem Ey{M:Mem}{b:Nat}{α:Type}{e:α→List SV}[el:EL e 1]:∀(k:List α) (o:Nat),(∀(i:Nat) (row:List SV),(k.map e)[i]? =some row→∀(q:Nat) (s:SV),row[q]? =some s→∃y,M b (o+i*1+q)=some y∧y.oneCell'=true∧s.h M y)→∃cs:List Value,cs.length=k.length∧SV.dR M (k.flatMap e) cs∧∀j v,cs[j]? =some v→M b (o+j)=some v∧v.oneCell'=true
 |[],_,_=>⟨[],rfl,trivial,fun j v h=>by simp at h⟩
 |x::k,o,h=>by
  obtain⟨cs,h1,h2,h3⟩:=Ey k (o+1) (fun i row hr q s hs=>by
   have:=h (i+1) row (by simpa using hr) q s hs
   rwa[show o+(i+1)*1+q=o+1+i*1+q by omega]at this)
  have hl:=el.len x
  match he:e x,hl with
  |[s],_=>
   obtain⟨y,q1,q2,q3⟩:=h 0 [s] (by simp[he]) 0 s rfl
   refine⟨y::cs,by simp[h1],?_,fun j v hj=>?_⟩
   ·rw[List.flatMap_cons,he];exact⟨q3,h2⟩
   ·cases j with
    |zero=>cases hj;exact⟨by simpa using q1,q2⟩
    |succ j=>rw[show o+(j+1)=o+1+j by omega];exact h3 j v (by simpa using hj)
theorem HF{M:Mem}{α:Type}{e:α→List SV}[el:EL e 1]:∀(l:List α) (vs:List Value) (m:Nat),SV.dR M (l.flatMap e) vs→SV.dR M ((l.drop m).flatMap e) (vs.drop m)
 |l,vs,0,h=>by simpa using h
 |[],vs,m+1,h=>by
  cases vs with
  |nil=>trivial
  |cons _ _=>exact h.elim
 |x::l,vs,m+1,h=>by
  have hl:=el.len x
  match he:e x,hl with
  |[s],_=>
   rw[List.flatMap_cons,he]at h
   match vs,h with
   |v::vs,h=>exact HF l vs m h.2
theorem RT.ZU(hg:Gd ops S gd rg)[tS:eA P T E0 1]{α:Type}{e:α→List SV}[el:EL e 1]{i:Nat}{E1:TypeId}{l k:List α}{m:Int}(hx:S.ev x=.row i)(hR:S.r i=.live (TR E1 1 e l))(hy:S.ev y=.sv (slc 1 (k.map e)))(hd:d<S.n)(hm:((Min.min k.length l.length:Nat):Int)=m)
  (next:RunT P C ops nd K rest (⟨rg++(au x++au y),[],[i],⟨some (d,.sv (.v (.int .i64 m))),[],[(i,.live (TR E1 1 e (Gl l k)))]⟩⟩::acc) ((AS.bA [(i,.live (TR E1 1 e (Gl l k)))] S).set d (.sv (.v (.int .i64 m))))):RunT P C ops nd K (⟨some d,.call ⟨.builtin .copy,#[x,y],#[T,U]⟩,ty,pos,aft,gd⟩::rest) acc S:=by
 subst hm
 refine .inl ⟨_,[],[i],_,?_,next⟩
 rintro S' hn' ht _ Mf ix a w L Q ho ⟨E,h⟩ hL
 refine bX (C:=C) ho (hg.wanted h (fun s hs=>ht s (List.mem_append_left _ hs)) rfl) ?_
 have oB:S'.r i=.live (TR E1 1 e l):=by rw[Mf i (by simp)];exact hR
 have h1:a.eval x=E.ν i:=by
  have h1:=h.ev x
  rw[aH (fun _ h=>List.mem_append_right _ (List.mem_append_left _ h)) ht,hx]at h1;exact h1
 have h2:(slc 1 (k.map e)).h E.M (a.eval y):=by
  have h2:=h.ev y
  rw[aH (fun _ h=>List.mem_append_right _ (List.mem_append_right _ h)) ht,hy]at h2;exact h2
 have hsrc:∃sa sc,a.eval y=.slice sa k.length sc:=by
  rcases h2 with⟨sa,q1,q2⟩|⟨b,o,c,q1,_⟩
  ·have:k=[]:=List.map_eq_nil_iff.1 q2
   subst this;exact⟨sa,0,q1⟩
  ·rw[List.length_map]at q1;exact⟨_,c,q1⟩
 obtain⟨⟨us,hown,AN⟩,_⟩:=h.rx i _ oB
 have ad1:∃da dc,E.ν i=.slice da l.length dc:=by
  rcases hown.2 with⟨q1,q2⟩|⟨g,cap,cur,q1,_⟩
  ·have q2:l.length=0:=q2
   exact⟨none,0,by rw[q2];exact q1⟩
  ·exact⟨_,cap,q1⟩
 obtain⟨sa,sc,hs⟩:=hsrc
 by_cases h0:Nat.min k.length l.length=0
 ·obtain⟨da,dc,hdv⟩:=ad1
  have hc:Gl l k=l:=by
   rcases Nat.eq_zero_or_pos l.length with q|q
   ·have:=List.length_eq_zero_iff.1 q
    subst this;simp[Gl]
   ·have:k.length=0:=by
     have h0:Min.min k.length l.length=0:=h0
     omega
    have:=List.length_eq_zero_iff.1 this
    subst this;simp[Gl]
  have hr:(execOp a.eval ⟨some d,.call ⟨.builtin .copy,#[x,y],#[T,U]⟩,ty,pos,aft,gd⟩).run P w=.ok (.value (goInt 0)) w:=by
   have:=run_copy_none (P:=P) w T U ty E0 da sa l.length dc k.length sc tS.u tS.s h0
   simp[execOp,resolve,invoke,builtin,h1,hs,hdv,this]
  refine bR (C:=C) (by intro c h;cases h) hr (hL _ _ ⟨E,?_⟩)
  rw[hc]
  have e0:((Min.min k.length l.length:Nat):Int)=0:=by
   have h0:Min.min k.length l.length=0:=h0
   rw[h0];rfl
  rw[e0]
  have:AS.app S' ⟨some (d,.sv (.v (.int .i64 0))),[],[(i,.live (TR E1 1 e l))]⟩=S'.set d (.sv (.v (.int .i64 0))):=by
   show(AS.qg S' i _).set d _=_
   rw[AS.D3 oB]
  rw[this]
  exact h.put (x:=.sv (.v (.int .i64 0))) (v:=.int .i64 0) rfl (by show d<S'.n;omega) eR
 ·have hpos:0<Min.min k.length l.length:=Nat.pos_of_ne_zero h0
  obtain⟨g,zT⟩:∃g,(E.ν i).ownBlock=some g:=by
   rcases hown.2 with⟨_,q2⟩|⟨g,cap,cur,q1,_⟩
   ·have q2:l.length=0:=q2
    omega
   ·exact⟨g,by rw[q1];rfl⟩
  obtain⟨cur,vs,q1,q2,q3,q4,cap,q5,q6,q7,q8⟩:=Bs h oB zT
  replace q2:cur.take (l.length*1)=vs:=q2
  replace q3:vs.length=l.length*1:=q3
  replace q6:l.length≤cap:=q6
  replace q8:cur.length=cap*1:=q8
  rcases h2 with⟨sa',r1,r2⟩|⟨b,o,c,r1,_,_,r4⟩
  ·have:k=[]:=List.map_eq_nil_iff.1 r2
   subst this;simp at hpos
  rw[List.length_map]at r1
  rw[hs]at r1
  cases r1
  obtain⟨cs,c1,c2,c3⟩:=Ey (M:=E.M) (b:=b) (e:=e) (k.take (Min.min k.length l.length)) o (fun j row hr q s hq=>by
   refine(r4 j row ?_).2 q s hq
   rw[List.map_take,List.getElem?_take]at hr
   split at hr
   ·exact hr
   ·cases hr)
  have vX:cs.length=Nat.min k.length l.length:=by rw[c1,List.length_take];show Min.min (Min.min k.length l.length) k.length=Min.min k.length l.length;omega
  have Wx:cs.length=Min.min k.length l.length:=vX
  have hrun:=run_copy_row (P:=P) w T U ty E0 g 0 l.length cap ⟨b,o,none⟩ k.length sc ⟨cur⟩ E1 cs tS.u tS.s q1 vX (fun j v hj=>by
   rw[fV];exact(h.cM _ _ _ (c3 j v hj).1).cell (c3 j v hj).2) (by simp;omega) (fun v hv=>by
   obtain⟨j,hj,rfl⟩:=List.getElem_of_mem hv
   exact(c3 j _ (List.getElem?_eq_getElem hj)).2)
  have hr:(execOp a.eval ⟨some d,.call ⟨.builtin .copy,#[x,y],#[T,U]⟩,ty,pos,aft,gd⟩).run P w=.ok (.value (goInt cs.length)) (w.setRow g (cs++cur.drop cs.length).toArray):=by
   have hrun:(Builtin.copy_ #[T,U] ty #[.slice (some ⟨g,0,none⟩) l.length cap,.slice (some ⟨b,o,none⟩) k.length sc]).run P w=.ok (goInt cs.length) (w.setRow g (cs++cur.drop cs.length).toArray):=by simpa using hrun
   have q5:E.ν i=.slice (some ⟨g,0,none⟩) l.length cap:=q5
   simp[execOp,resolve,invoke,builtin,h1,hs,q5,hrun]
  have ad2:Gl l k=k.take (Min.min k.length l.length)++l.drop (Min.min k.length l.length):=by
   unfold Gl
   have e1:k.take l.length=k.take (Min.min k.length l.length):=by rw[List.take_eq_take_iff];omega
   have e2:l.drop k.length=l.drop (Min.min k.length l.length):=by rw[List.drop_eq_drop_iff];omega
   rw[e1,e2]
  have hall:SV.dR E.M ((Gl l k).flatMap e) (cs++vs.drop cs.length):=by
   rw[ad2,List.flatMap_append,←Wx]
   rw[←Wx]at c2
   exact SV.dR.append c2 (HF l vs cs.length q4)
  have hh:=setRow_heap w g ⟨cur⟩ (cs++cur.drop cs.length).toArray E1 (0,0) q1
  have ZV:(w.setRow g (cs++cur.drop cs.length).toArray).ownsRow 0 E1 1 (E.ν i) l.length (cs++vs.drop cs.length):=by
   refine⟨by simp;omega,.inr ⟨g,cap,_,q5,Nat.zero_le _,hh,q6,q7,by simp;omega,?_⟩⟩
   rw[←q2]
   simp only[List.take_append,List.length_take,List.drop_take]
   congr 1
   ·rw[List.take_of_length_le (by omega)]
  have hp:=h.IK oB zT (w':=w.setRow g (cs++cur.drop cs.length).toArray) ⟨_,_,q1⟩ rfl rfl rfl (by simp[World.setRow]) (fun k' hk'=>setRow_other w g k' _ hk') ZV hall
  refine bR (C:=C) (by intro c h;cases h) hr (hL _ _ ⟨E,?_⟩)
  have hrow:(⟨(TR E1 1 e l).E,(TR E1 1 e l).sz,(TR E1 1 e l).n,(Gl l k).flatMap e⟩:Row)=TR E1 1 e (Gl l k):=by
   show Row.mk _ _ l.length _=Row.mk _ _ (Gl l k).length _
   rw[Rh]
  rw[hrow]at hp
  rw[←Wx]
  exact hp.put (x:=.sv (.v (.int .i64 cs.length))) (v:=.int .i64 cs.length) rfl (by show d<S'.n;omega) eR
end steps
end Go.Fw
namespace Go.Proofs.YtningmnklfpfjaaGreat
open Go.Fw
noncomputable def bV(x0:Tb):Option (Bool):=match x0 with|⟨aB,aC,aJ,aL,b9⟩=>cm (fun(ZW:Bool)=>some ZW) fun K3=>(bif false then none else(some (!aB)).bind fun dm=>some dm).bind fun Tm=>K3 Tm
noncomputable def ew(x0:Tb):Option (Int):=match x0 with|⟨aB,aC,aJ,aL,b9⟩=>(some (b9.length:Int)).bind fun gU=>(some (IntKind.i64.wrap (aC+gU))).bind fun dB=>some dB
noncomputable def gM(x0:Tb)(x1:Int):Option (List Qr):=match x0 with|⟨aB,aC,aJ,aL,b9⟩=>(some (b9.length:Int)).bind fun dB=>(AT 64 dB (⟨⟨false,[]⟩,⟨false,[]⟩⟩:Qr)).bind fun fB=>(some (b9.length:Int)).bind fun ek=>(bU (fun(s8:Int×(List Qr))=>match s8 with|⟨Ez,CJ⟩=>(show Option ((Int×(List Qr))⊕((List Qr)))from(some (decide ((Ez:Int)<ek))).bind fun gB=>(bif gB then(cy b9 Ez).bind fun iP=>(cy iP x1).bind fun⟨⟨Oz,OA⟩,⟨OB,OC⟩⟩=>(bW ⟨⟨Oz,OA⟩,⟨OB,OC⟩⟩).bind fun⟨⟨oK,oL⟩,⟨HG,HH⟩⟩=>(pI CJ Ez).bind fun td=>(stM CJ td ⟨⟨oK,oL⟩,⟨HG,HH⟩⟩).bind fun qH=>(some (IntKind.i64.wrap (Ez+1))).bind fun iD=>some (.inl (iD,qH))else some (.inr CJ)))) (0,fB)).bind fun qS=>some qS
noncomputable def iZ(x0:Tb)(x1:Int):Option (List Qr):=match x0 with|⟨aB,aC,aJ,aL,b9⟩=>(some (aJ.length:Int)).bind fun dB=>(some (IntKind.i64.wrap (dB+aC))).bind fun eT=>(AT 64 eT (⟨⟨false,[]⟩,⟨false,[]⟩⟩:Qr)).bind fun ek=>(some (decide ((x1:Int)<aC))).bind fun fR=>cm (fun(OD:(List Qr))=>some OD) fun Tk=>(bif fR then(some (aJ.length:Int)).bind fun gH=>(bU (fun(Ya:Int×(List Qr))=>match Ya with|⟨CK,CL⟩=>(show Option ((Int×(List Qr))⊕((List Qr)))from(some (decide ((CK:Int)<gH))).bind fun td=>(bif td then(cy aJ CK).bind fun rS=>(cy rS x1).bind fun⟨⟨OE,OF⟩,⟨OG,OH⟩⟩=>(pI CL CK).bind fun rP=>(stM CL rP ⟨⟨OE,OF⟩,⟨OG,OH⟩⟩).bind fun Yb=>(some (IntKind.i64.wrap (CK+1))).bind fun rB=>some (.inl (rB,Yb))else some (.inr CL)))) (0,ek)).bind fun xe=>(some (aJ.length:Int)).bind fun sO=>(some (IntKind.i64.wrap (sO+x1))).bind fun vo=>(cA (-1)).bind fun⟨⟨BQ,BR⟩,⟨OI,OJ⟩⟩=>(pI xe vo).bind fun wj=>(stM xe wj ⟨⟨BQ,BR⟩,⟨OI,OJ⟩⟩).bind fun Yc=>Tk Yc else Tk ek)
noncomputable def e9(x0:Tb)(x1:List Qr):Option (List Qr):=match x0 with|⟨aB,aC,aJ,aL,b9⟩=>(some (aJ.length:Int)).bind fun dB=>(some (IntKind.i64.wrap (dB+aC))).bind fun eT=>(AT 64 eT (⟨⟨false,[]⟩,⟨false,[]⟩⟩:Qr)).bind fun ek=>(some (x1.length:Int)).bind fun gB=>(bU (fun(HI:(List Qr)×Int)=>match HI with|⟨uK,mU⟩=>(show Option (((List Qr)×Int)⊕((List Qr)))from(some (decide ((mU:Int)<gB))).bind fun iP=>(bif iP then(cy x1 mU).bind fun⟨⟨oc,oe⟩,⟨og,oh⟩⟩=>cm (fun(CM:Bool)=>cm (fun(HJ:(List Qr))=>(some (IntKind.i64.wrap (mU+1))).bind fun xz=>some (.inl (HJ,xz))) fun X3=>(bif CM then(cy aL mU).bind fun vo=>(iZ ⟨aB,aC,aJ,aL,b9⟩ vo).bind fun wj=>(dG ⟨⟨oc,oe⟩,⟨og,oh⟩⟩ wj uK).bind fun Dx=>X3 Dx else X3 uK)) fun K19=>(cy aL mU).bind fun td=>(some (decide ((td:Int)<aC))).bind fun tf=>(bif tf then(eu ⟨⟨oc,oe⟩,⟨og,oh⟩⟩).bind fun lu=>(some (decide ((lu:Int)≠0))).bind fun rP=>some rP else some false).bind fun Jj=>K19 Jj else some (.inr uK)))) (ek,0)).bind fun uL=>some uL
noncomputable def jS(x0:Tb):Option (List Int):=match x0 with|⟨aB,aC,aJ,aL,b9⟩=>(bV ⟨aB,aC,aJ,aL,b9⟩).bind fun x5=>(bif x5 then some []else(some (aL.length:Int)).bind fun dm=>(AT 8 dm (0:Int)).bind fun gU=>some (Gl gU aL))
noncomputable def fo(x0:Tb):Option (List Qr):=match x0 with|⟨aB,aC,aJ,aL,b9⟩=>(bV ⟨aB,aC,aJ,aL,b9⟩).bind fun x4=>(bif x4 then some []else(ew ⟨aB,aC,aJ,aL,b9⟩).bind fun x7=>(gM ⟨aB,aC,aJ,aL,b9⟩ x7).bind fun x8=>some x8)
noncomputable def cE(x0:Tb)(x1:Int):Option (List Qr):=match x0 with|⟨aB,aC,aJ,aL,b9⟩=>cm (fun(HK:Bool)=>(bif HK then some []else(gM ⟨aB,aC,aJ,aL,b9⟩ x1).bind fun gB=>(e9 ⟨aB,aC,aJ,aL,b9⟩ gB).bind fun iv=>(iZ ⟨aB,aC,aJ,aL,b9⟩ x1).bind fun fR=>(k7 iv fR).bind fun yH=>some yH)) fun K6=>(bV ⟨aB,aC,aJ,aL,b9⟩).bind fun x6=>(bif x6 then some true else(some (decide ((x1:Int)<0))).bind fun x9=>some x9).bind fun OK=>(bif OK then some true else(ew ⟨aB,aC,aJ,aL,b9⟩).bind fun eU=>(some (decide ((eU:Int)≤x1))).bind fun dA=>some dA).bind fun Wy=>K6 Wy
noncomputable def iB(x0:Tb):Option (List Qr):=match x0 with|⟨aB,aC,aJ,aL,b9⟩=>(bV ⟨aB,aC,aJ,aL,b9⟩).bind fun x4=>(bif x4 then some []else(fo ⟨aB,aC,aJ,aL,b9⟩).bind fun x7=>(e9 ⟨aB,aC,aJ,aL,b9⟩ x7).bind fun x8=>some x8)
noncomputable def ir(x0:Tb):Option (List Qr):=match x0 with|⟨aB,aC,aJ,aL,b9⟩=>(bV ⟨aB,aC,aJ,aL,b9⟩).bind fun x7=>(bif x7 then some []else(AT 64 aC (⟨⟨false,[]⟩,⟨false,[]⟩⟩:Qr)).bind fun dB=>(fo ⟨aB,aC,aJ,aL,b9⟩).bind fun eU=>(some (eU.length:Int)).bind fun dA=>(bU (fun(zZ:Int×(List Qr))=>match zZ with|⟨CN,CO⟩=>(show Option ((Int×(List Qr))⊕((List Qr)))from(some (decide ((CN:Int)<dA))).bind fun eT=>(bif eT then(cy eU CN).bind fun⟨⟨mE,mF⟩,⟨Cu,Cv⟩⟩=>(cy aL CN).bind fun lI=>(some (decide ((lI:Int)<aC))).bind fun iD=>cm (fun(Jk:(List Qr))=>(some (IntKind.i64.wrap (CN+1))).bind fun vn=>some (.inl (vn,Jk))) fun L1=>(bif iD then(cy aL CN).bind fun tg=>(pI CO tg).bind fun rB=>(stM CO rB ⟨⟨mE,mF⟩,⟨Cu,Cv⟩⟩).bind fun Qi=>L1 Qi else L1 CO)else some (.inr CO)))) (0,dB)).bind fun CP=>some CP)
noncomputable def mW(x0:Tb):Option (List (List Qr)):=match x0 with|⟨aB,aC,aJ,aL,b9⟩=>(bV ⟨aB,aC,aJ,aL,b9⟩).bind fun x7=>(bif x7 then some []else(some (b9.length:Int)).bind fun dB=>(bU (fun(s6:Int×(List (List Qr)))=>match s6 with|⟨Ke,FJ⟩=>(show Option ((Int×(List (List Qr)))⊕((List (List Qr))))from(some (decide ((Ke:Int)<dB))).bind fun eU=>(bif eU then(cy b9 Ke).bind fun dA=>(ew ⟨aB,aC,aJ,aL,b9⟩).bind fun gB=>(fJ dA gB).bind fun iv=>(xy 24 FJ [iv]).bind fun kA=>(some (IntKind.i64.wrap (Ke+1))).bind fun fR=>some (.inl (fR,kA))else some (.inr FJ)))) (0,[])).bind fun xg=>some xg)
noncomputable def iu(x0:Tb):Option (Bool):=match x0 with|⟨aB,aC,aJ,aL,b9⟩=>(bV ⟨aB,aC,aJ,aL,b9⟩).bind fun x6=>(bif x6 then some false else(fo ⟨aB,aC,aJ,aL,b9⟩).bind fun x8=>(some (x8.length:Int)).bind fun x9=>(bU (fun(Kf:Int)=>(show Option ((Int)⊕((Unit)⊕(Bool)))from(some (decide ((Kf:Int)<x9))).bind fun gU=>(bif gU then(cy x8 Kf).bind fun⟨⟨fY,fO⟩,⟨Kg,Kh⟩⟩=>(eu ⟨⟨fY,fO⟩,⟨Kg,Kh⟩⟩).bind fun dA=>(some (decide ((dA:Int)<0))).bind fun gu=>(bif gu then some (.inr (.inr false))else(some (IntKind.i64.wrap (Kf+1))).bind fun eT=>some (.inl eT))else some (.inr (.inl ()))))) 0).bind fun e6=>match e6 with|.inr v6=>some v6|.inl _=>some true)
noncomputable def gW(x0:Tb):Option (Bool):=match x0 with|⟨aB,aC,aJ,aL,b9⟩=>(bV ⟨aB,aC,aJ,aL,b9⟩).bind fun x5=>(bif x5 then some false else(oJ (fun(k:Nat) (s3:Unit)=>(show Option ((Unit)⊕(Bool))from(some ((k:Nat):Int)).bind fun p8=>(cE ⟨aB,aC,aJ,aL,b9⟩ p8).bind fun gU=>(oT gU).bind fun dB=>(some (decide ((dB:Int)<0))).bind fun fB=>(bif fB then some (.inr false)else some (.inl ())))) ((IntKind.i64.wrap (Tb.vars ⟨aB,aC,aJ,aL,b9⟩+((Tb.rows ⟨aB,aC,aJ,aL,b9⟩).length:Int))).toNat) ()).bind fun e3=>match e3 with|.inr v3=>some v3|.inl _=>some true)
noncomputable def eK(x0:Tb):Option (List (List Qr)):=match x0 with|⟨aB,aC,aJ,aL,b9⟩=>(bV ⟨aB,aC,aJ,aL,b9⟩).bind fun x6=>(bif x6 then some []else(lH (fun(k:Nat) (mS:(List (List Qr)))=>(show Option ((List (List Qr)))from(some ((k:Nat):Int)).bind fun p9=>(cE ⟨aB,aC,aJ,aL,b9⟩ p9).bind fun fB=>(xy 24 mS [fB]).bind fun dA=>some dA)) ((IntKind.i64.wrap (Tb.vars ⟨aB,aC,aJ,aL,b9⟩+((Tb.rows ⟨aB,aC,aJ,aL,b9⟩).length:Int))).toNat) []).bind fun mS=>some mS)
noncomputable def dQ(x0:Lr):Option (Bool×Int×(List (List Qr))×(List Int)×(List (List Qr))):=match x0 with|⟨aB,aC,aJ,aL⟩=>(some (aC.length:Int)).bind fun dA=>(bU (fun(s6:Int×(List (List Qr)))=>match s6 with|⟨Ki,FK⟩=>(show Option ((Int×(List (List Qr)))⊕((List (List Qr))))from(some (decide ((Ki:Int)<dA))).bind fun eT=>(bif eT then(cy aC Ki).bind fun ek=>(fJ ek aB).bind fun mN=>(xy 24 FK [mN]).bind fun yW=>(some (IntKind.i64.wrap (Ki+1))).bind fun rS=>some (.inl (rS,yW))else some (.inr FK)))) (0,[])).bind fun qt=>(some (aJ.length:Int)).bind fun oC=>(bU (fun(Wz:Int×(List Int)×(List (List Qr)))=>match Wz with|⟨o5,vu,vv⟩=>(show Option ((Int×(List Int)×(List (List Qr)))⊕((List Int)×(List (List Qr))))from(some (decide ((o5:Int)<oC))).bind fun Al=>(bif Al then(some (aJ.length:Int)).bind fun vJ=>(some (IntKind.i64.wrap (aB+vJ))).bind fun Di=>(some (IntKind.i64.wrap (Di+1))).bind fun vp=>(AT 64 vp (⟨⟨false,[]⟩,⟨false,[]⟩⟩:Qr)).bind fun tQ=>(bU (fun(Ea:Int×(List Qr))=>match Ea with|⟨CQ,CR⟩=>(show Option ((Int×(List Qr))⊕((List Qr)))from(some (decide ((CQ:Int)<aB))).bind fun BF=>(bif BF then(uz aJ o5 CQ).bind fun⟨⟨Kj,HL⟩,⟨OL,OM⟩⟩=>(pI CR CQ).bind fun JX=>(stM CR JX ⟨⟨Kj,HL⟩,⟨OL,OM⟩⟩).bind fun Lc=>(some (IntKind.i64.wrap (CQ+1))).bind fun Fe=>some (.inl (Fe,Lc))else some (.inr CR)))) (0,tQ)).bind fun xh=>(some (IntKind.i64.wrap (aB+o5))).bind fun L2=>(cA 1).bind fun⟨⟨ON,OO⟩,⟨OP,OQ⟩⟩=>(pI xh L2).bind fun L3=>(stM xh L3 ⟨⟨ON,OO⟩,⟨OP,OQ⟩⟩).bind fun Qd=>(some (Qd.length:Int)).bind fun Tn=>(some (IntKind.i64.wrap (Tn-1))).bind fun L4=>(cy aL o5).bind fun⟨⟨To,Tp⟩,⟨Tq,Tr⟩⟩=>(bW ⟨⟨To,Tp⟩,⟨Tq,Tr⟩⟩).bind fun⟨⟨OR,OS⟩,⟨OT,OU⟩⟩=>(pI Qd L4).bind fun Lf=>(stM Qd Lf ⟨⟨OR,OS⟩,⟨OT,OU⟩⟩).bind fun ZX=>(xy 24 vv [ZX]).bind fun QO=>(some (IntKind.i64.wrap (aB+o5))).bind fun WA=>(xy 8 vu [WA]).bind fun WB=>(some (IntKind.i64.wrap (o5+1))).bind fun IY=>some (.inl (IY,WB,QO))else some (.inr (vu,vv))))) (0,[],[])).bind fun e30=>match e30 with|⟨Kk,Kl⟩=>some (true,aB,qt,Kk,Kl)
noncomputable def gX(x0:Lr):Option (Bool×Int×(List (List Qr))×(List Int)×(List (List Qr))):=match x0 with|⟨aB,aC,aJ,aL⟩=>(iL ⟨aB,aC,aJ,aL⟩).bind fun x5=>(some (!x5)).bind fun x6=>(bif x6 then none else(dQ ⟨aB,aC,aJ,aL⟩).bind fun⟨vN,vO,Au,Av,Ri⟩=>some (vN,vO,Au,Av,Ri))
noncomputable def nJ(x0:List Qr)(DI:Qr):Option (List Qr):=match DI with|⟨⟨Em,Eo⟩,⟨Ep,Er⟩⟩=>(k8 ⟨⟨Em,Eo⟩,⟨Ep,Er⟩⟩ x0).bind fun x6=>some x6
noncomputable def ke(o0:Bool)(o1:Int)(o2:List (List Qr))(o3:List Int)(o4:List (List Qr))(x0:List Qr)(DI:Int)(c_2:Int):Option (List Qr):=(cy x0 DI).bind fun⟨⟨vN,vO⟩,⟨Au,Av⟩⟩=>(eu ⟨⟨vN,vO⟩,⟨Au,Av⟩⟩).bind fun dm=>(some (decide ((dm:Int)=0))).bind fun gU=>(bif gU then some x0 else(cy x0 DI).bind fun⟨⟨jG,jH⟩,⟨Ek,El⟩⟩=>(oP ⟨⟨jG,jH⟩,⟨Ek,El⟩⟩).bind fun⟨⟨kY,kZ⟩,⟨oR,oS⟩⟩=>(pI o4 c_2).bind fun kA=>(o4[kA]?).bind fun fR=>(dG ⟨⟨kY,kZ⟩,⟨oR,oS⟩⟩ fR x0).bind fun lI=>some lI)
noncomputable def c6(o0:Bool)(o1:Int)(o2:List (List Qr))(o3:List Int)(o4:List (List Qr))(x1:Int)(x2:Int):Option ((List (List Qr))×(List Int)×(List (List Qr))):=(cA 1).bind fun⟨⟨Ec,Ed⟩,⟨Ts,Tt⟩⟩=>(pI o4 x1).bind fun kW=>(o4[kW]?).bind fun gB=>(cy gB x2).bind fun⟨⟨nE,nF⟩,⟨nG,nH⟩⟩=>(oO ⟨⟨Ec,Ed⟩,⟨Ts,Tt⟩⟩ ⟨⟨nE,nF⟩,⟨nG,nH⟩⟩).bind fun⟨⟨⟨zE,zF⟩,⟨zG,zH⟩⟩,Lj⟩=>(pI o4 x1).bind fun rP=>(o4[rP]?).bind fun rB=>(nJ rB ⟨⟨zE,zF⟩,⟨zG,zH⟩⟩).bind fun vn=>(pI o4 x1).bind fun vJ=>(stM o4 vJ vn).bind fun l2=>(some (l2.length:Int)).bind fun BF=>(bU (fun(xN:Int×(List (List Qr)))=>match xN with|⟨qb,gp⟩=>(show Option ((Int×(List (List Qr)))⊕((List (List Qr))))from(some (decide ((qb:Int)<BF))).bind fun Tu=>(bif Tu then(pI gp qb).bind fun xz=>(gp[xz]?).bind fun Fb=>(some (decide ((qb:Int)≠x1))).bind fun IU=>cm (fun(uM:(List (List Qr)))=>(some (IntKind.i64.wrap (qb+1))).bind fun M6=>some (.inl (M6,uM))) fun WC=>(bif IU then(ke o0 o1 o2 o3 gp Fb x2 x1).bind fun L3=>(pI gp qb).bind fun MY=>(stM gp MY L3).bind fun ZY=>WC ZY else WC gp)else some (.inr gp)))) (0,l2)).bind fun qT=>some (o2,o3,qT)
noncomputable def aM(o0:Bool)(o1:Int)(o2:List (List Qr))(o3:List Int)(o4:List (List Qr))(x1:Int)(x2:Int):Option (Int×(List (List Qr))×(List Int)×(List (List Qr))):=(bV (⟨o0,o1,o2,o3,o4⟩:Tb)).bind fun dm=>(bif dm then some (2,o2,o3,o4)else cm (fun(OV:Bool)=>(bif OV then some (1,o2,o3,o4)else(some (o3.length:Int)).bind fun oC=>(bU (fun(FL:Int)=>(show Option ((Int)⊕((Unit)⊕(Int×(List (List Qr))×(List Int)×(List (List Qr)))))from(some (decide ((FL:Int)<oC))).bind fun Al=>(bif Al then(pI o3 FL).bind fun tg=>(o3[tg]?).bind fun lu=>(some (decide ((lu:Int)=x2))).bind fun vn=>(bif vn then some (.inr (.inr (1,o2,o3,o4)))else(some (IntKind.i64.wrap (FL+1))).bind fun vJ=>some (.inl vJ))else some (.inr (.inl ()))))) 0).bind fun Jl=>match Jl with|.inr Yd=>some Yd|.inl _=>(pI o4 x1).bind fun vo=>(o4[vo]?).bind fun BF=>(cy BF x2).bind fun⟨⟨Tv,Tw⟩,⟨Tx,Ty⟩⟩=>(eu ⟨⟨Tv,Tw⟩,⟨Tx,Ty⟩⟩).bind fun xz=>(some (decide ((xz:Int)=0))).bind fun Fb=>(bif Fb then some (7,o2,o3,o4)else(c6 o0 o1 o2 o3 o4 x1 x2).bind fun⟨Yb,l21,Yc⟩=>(pI l21 x1).bind fun Gn=>(stM l21 Gn x2).bind fun l24=>some (0,Yb,l24,Yc)))) fun Tk=>(some (decide ((x1:Int)<0))).bind fun dB=>(bif dB then some true else(some (o4.length:Int)).bind fun kW=>(some (decide ((kW:Int)≤x1))).bind fun gB=>some gB).bind fun OW=>(bif OW then some true else(some (decide ((x2:Int)<0))).bind fun fR=>some fR).bind fun WD=>(bif WD then some true else(ew (⟨o0,o1,o2,o3,o4⟩:Tb)).bind fun gH=>(some (decide ((gH:Int)≤x2))).bind fun yW=>some yW).bind fun WE=>Tk WE)
end Go.Proofs.YtningmnklfpfjaaGreat
namespace Go.Proofs.YtningmnklfpfjaaGreat
open Go.Fw Go.Fw.Z Go.RowKit
instance:z8 Tryz.prog 15:=⟨by kernel_rfl⟩
instance:z8 Tryz.prog 16:=⟨by kernel_rfl⟩
instance:z8 Tryz.prog 17:=⟨by kernel_rfl⟩
instance:z8 Tryz.prog 30:=⟨by kernel_rfl⟩
instance:z8 Tryz.prog 34:=⟨by kernel_rfl⟩
instance:z8 Tryz.prog 216:=⟨by kernel_rfl⟩
theorem cQ{x0:Tb}{r:Bool}(h:bV x0=some r):Pure Tryz.prog 57 [ref (rJ x0)] (.v (.bool r)):=by
 obtain⟨aB,aC,aJ,aL,b9⟩:=x0
 refine ay Tryz.func57 rfl (Nat.le_of_ble_eq_true rfl) (fun cG M vs hvs=>?_)
 unfold bV at h
 refine sr<|ag rfl<|dn<|qq ?_
 refine aF h (fun j3=>AS.bG 12 [(2,.sv (.v (.bool j3)))] [] []) (fun h=>?_) (fun ZW h=>?_)
 refine af<|mv rfl<|RT.Wu .none rfl rfl T<|mv rfl<|bE h fun Tm m8 h=>gm rfl<|RT.bL (.some rfl rfl) rfl T<|RT.aT (.some rfl rfl) rfl T rfl<|gr rfl rfl<|lE (F m8) fun dm fD m8=>QM rfl _ fD ?_
 obtain rfl:=O m8
 exact pF rfl<|ag rfl<|dn<|⟨dm,h,wR []⟩
 try dsimp only
 refine ae.n<|aj ?_
 obtain rfl:=O h
 exact R1 rfl
theorem iN{x0:Tb}{r:Int}(h:ew x0=some r):Pure Tryz.prog 58 [ref (rJ x0)] (.v (.int .i64 r)):=by
 obtain⟨aB,aC,aJ,aL,b9⟩:=x0
 refine ay Tryz.func58 rfl (Nat.le_of_ble_eq_true rfl) (fun cG M vs hvs=>?_)
 unfold ew at h
 refine sr<|ag rfl<|dn<|qq<|ai mixed<|mv rfl<|RT.bL .none rfl T<|RT.aT .none rfl T rfl<|lr rfl rfl<|mv rfl<|RT.bL .none rfl T<|RT.aT .none rfl T rfl<|lr rfl rfl<|lE h fun gU mB h=>ln rfl mB<|lE h fun dB eI h=>ad _ rfl rfl eI<|ag rfl ?_
 refine RT.done ⟨by kernel_rfl,?_⟩
 refine ae.n<|aj ?_
 obtain rfl:=O h
 exact R1 rfl
theorem wB{x0:Tb}{x1:Int}{r:List Qr}(h:gM x0 x1=some r):Pure Tryz.prog 64 [ref (rJ x0),.v (.int .i64 x1)] (slc 4 (List.map eQ r)):=by
 obtain⟨aB,aC,aJ,aL,b9⟩:=x0
 refine ay Tryz.func64 rfl (Nat.le_of_ble_eq_true rfl) (fun cG M vs hvs=>?_)
 unfold gM at h
 refine sr<|aI rfl (imp_nil (n:=4) (e:=eQ))<|dn<|sr<|mv rfl<|RT.bL .none rfl T<|RT.aT .none rfl T rfl<|lr rfl rfl<|lE h fun dB eI h=>ln rfl eI<|bE h fun fB fT h=>RT.jy (n:=4) (e:=eQ) .none rfl rfl T rfl T (by rfl) (by decide) (by exact⟨SV.aa _,imp_nil,SV.aa _,imp_nil,trivial⟩) fT<|an (s:=.row _) rfl<|dn<|qq<|sr<|mv rfl<|RT.bL .none rfl T<|RT.aT .none rfl T rfl ?_
 refine lr rfl rfl<|lE h fun ek gV h=>ln rfl gV<|mv rfl<|dn<|bE h fun e8 Am ud=>?_
 refine aV (fun(qS:(List Qr))=>AS.bG 34 [(5,.row 13)] [] [(13,TR 43 4 eQ qS)]) (fun qS=>qS=e8) ?_ (fun qS An=>?_)
 refine ak ?_
 refine aW Am (fun s8=>AS.bG 34 [(1,.sv (.v (.int .i64 x1))),(5,.row 13),(17,.sv (slc 1 (List.map (eS 4 eQ) b9))),(18,.sv (.v (.int .i64 ek))),(19,.sv (.v (.int .i64 s8.1)))] [] [(13,TR 43 4 eQ s8.2)]) (wR []) (fun s8 y8 G8 h Ao Ap=>?_)
 obtain⟨Ez,CJ⟩:=s8
 try dsimp only
 refine sr<|lE h fun gB lM h=>ls _ rfl rfl lM<|dn<|qq ?_
 cases gB
 refine cF<|aZ<|ae.x<|ae.x<|aG.x<|ae.n ?_
 obtain rfl:=O (F h)
 exact⟨CJ,Ap _ rfl,wR []⟩
 refine cT<|aE<|ae.n<|qq<|ak<|sr<|mv rfl<|bE (V h) fun iP mD h=>ix rfl rfl mD<|lr rfl rfl<|ag rfl<|ag rfl<|dn<|af<|mo (s:=.row _) rfl<|mv rfl<|mv rfl<|mv rfl ?_
 obtain⟨⟨⟨Oz,OA⟩,⟨OB,OC⟩⟩,rY,h⟩:=bS h
 refine ix rfl rfl rY<|RT.gD (cs:=[_,_,_,_]) .none rfl T rfl rfl ?_
 obtain⟨⟨⟨oK,oL⟩,⟨HG,HH⟩⟩,wV,h⟩:=bS h
 refine cl (fm wV) ⟨rfl,trivial⟩<|bE h fun td xS h=>iR rfl rfl rfl xS<|bE h fun qH kE h=>sA ⟨⟨oK,oL⟩,⟨HG,HH⟩⟩ rfl rfl rfl kE<|RT.done<|aG.n<|ae.n<|af<|lE h fun iD kz h=>ad _ rfl rfl kz<|mv rfl<|RT.done ?_
 obtain rfl:=O h
 exact ae.n ⟨(iD,qH),Ao _ rfl,wR []⟩
 subst An
 try dsimp only
 refine ae.n<|sr<|mo (s:=.row _) rfl<|an (s:=.row _) rfl<|dn<|bh (c8 (i:=13) (E1:=43) (n:=4) (e:=eQ) (l:=qS) rfl)<|aj ?_
 obtain rfl:=O ud
 exact R1 rfl
theorem wC{x0:Tb}{x1:Int}(N:Nat){r:List Qr}(h:gM x0 x1=some r):cJ Tryz.prog 64 N [ref (rJ x0),.v (.int .i64 x1)] (nw N (slc 4 (List.map (fQ N) r))):=by
 obtain⟨aB,aC,aJ,aL,b9⟩:=x0
 refine aN Tryz.func64 rfl (Nat.le_of_ble_eq_true rfl) (fun cG M vs hN hvs=>?_)
 unfold gM at h
 refine sr<|aI rfl (aA (N:=N) (n:=4) (e:=(fQ N)))<|dn<|sr<|mv rfl<|RT.bL .none rfl T<|RT.aT .none rfl T rfl<|lr rfl rfl<|lE h fun dB eI h=>ln rfl eI<|bE h fun fB fT h=>RT.jy (n:=4) (e:=(fQ N)) .none rfl rfl T rfl T (by rfl) (by decide) (by exact⟨SV.aa _,aA,SV.aa _,aA,trivial⟩) fT<|an (s:=.row _) rfl<|dn<|qq<|sr<|mv rfl<|RT.bL .none rfl T ?_
 refine RT.aT .none rfl T rfl<|lr rfl rfl<|lE h fun ek gV h=>ln rfl gV<|mv rfl<|dn<|bE h fun e8 Am ud=>?_
 refine aV (fun(qS:(List Qr))=>AS.bG 34 [(5,.row 13)] [] [(13,TR 43 4 (fQ N) qS)]) (fun qS=>qS=e8) ?_ (fun qS An=>?_)
 refine ak ?_
 refine aW Am (fun s8=>AS.bG 34 [(1,.sv (.v (.int .i64 x1))),(5,.row 13),(17,.sv (slc 1 (List.map (eS 4 eQ) b9))),(18,.sv (.v (.int .i64 ek))),(19,.sv (.v (.int .i64 s8.1)))] [] [(13,TR 43 4 (fQ N) s8.2)]) (wR []) (fun s8 y8 G8 h Ao Ap=>?_)
 obtain⟨Ez,CJ⟩:=s8
 try dsimp only
 refine sr<|lE h fun gB lM h=>ls _ rfl rfl lM<|dn<|qq ?_
 cases gB
 refine cF<|aZ<|ae.x<|ae.x<|aG.x<|ae.n ?_
 obtain rfl:=O (F h)
 exact⟨CJ,Ap _ rfl,wR []⟩
 refine cT<|aE<|ae.n<|qq<|ak<|sr<|mv rfl<|bE (V h) fun iP mD h=>ix rfl rfl mD<|lr rfl rfl<|ag rfl<|ag rfl<|dn<|af<|mo (s:=.row _) rfl<|mv rfl<|mv rfl<|mv rfl ?_
 obtain⟨⟨⟨Oz,OA⟩,⟨OB,OC⟩⟩,rY,h⟩:=bS h
 refine ix rfl rfl rY<|RT.gD (cs:=[_,_,_,_]) .none rfl T rfl rfl ?_
 obtain⟨⟨⟨oK,oL⟩,⟨HG,HH⟩⟩,wV,h⟩:=bS h
 refine RT.aX .none (qa N wV) hN rfl ⟨rfl,trivial⟩ T<|bE h fun td xS h=>iR rfl rfl rfl xS<|bE h fun qH kE h=>sA ⟨⟨oK,oL⟩,⟨HG,HH⟩⟩ rfl rfl rfl kE<|RT.done<|aG.n<|ae.n<|af<|lE h fun iD kz h=>ad _ rfl rfl kz<|mv rfl<|RT.done ?_
 obtain rfl:=O h
 exact ae.n ⟨(iD,qH),Ao _ rfl,wR []⟩
 subst An
 try dsimp only
 refine ae.n<|sr<|mo (s:=.row _) rfl<|an (s:=.row _) rfl<|dn<|iM (i:=13) (E1:=43) (n:=4) (e:=(fQ N)) (l:=qS) hN (fun _ h=>h) rfl<|aj ?_
 obtain rfl:=O ud
 exact R1 rfl
theorem lW{x0:Tb}{x1:Int}{r:List Qr}(h:iZ x0 x1=some r):Pure Tryz.prog 78 [ref (rJ x0),.v (.int .i64 x1)] (slc 4 (List.map eQ r)):=by
 obtain⟨aB,aC,aJ,aL,b9⟩:=x0
 refine ay Tryz.func78 rfl (Nat.le_of_ble_eq_true rfl) (fun cG M vs hvs=>?_)
 unfold iZ at h
 refine sr<|aI rfl (imp_nil (n:=4) (e:=eQ))<|dn<|qq<|ai mixed<|mv rfl<|RT.bL .none rfl T<|RT.aT .none rfl T rfl<|lr rfl rfl<|lE h fun dB eI h=>ln rfl eI<|mv rfl<|RT.bL .none rfl T<|RT.aT .none rfl T rfl<|lr rfl rfl<|lE h fun eT jD h=>ad _ rfl rfl jD<|bE h fun ek gV h=>RT.jy (n:=4) (e:=eQ) .none rfl rfl T rfl T (by rfl) (by decide) (by exact⟨SV.aa _,imp_nil,SV.aa _,imp_nil,trivial⟩) gV ?_
 refine an (s:=.row _) rfl ?_
 refine RT.done ⟨by kernel_rfl,?_⟩
 refine ae.n<|qq<|sr<|mv rfl<|mv rfl<|RT.bL .none rfl T<|RT.aT .none rfl T rfl<|lr rfl rfl<|lE h fun fR kD h=>ls _ rfl rfl kD<|dn ?_
 refine aF h (fun Wp=>AS.bG 54 [(5,.row 18)] [] [(18,TR 43 4 eQ Wp)]) (fun h=>?_) (fun OD h=>?_)
 cases fR
 exact fs<|⟨ek,(F h),wR []⟩
 refine cT<|qq<|sr<|mv rfl<|RT.bL .none rfl T<|RT.aT .none rfl T rfl<|lr rfl rfl<|lE (V h) fun gH iT h=>ln rfl iT<|mv rfl<|dn<|bE h fun e18 ad5 CS=>?_
 refine aV (fun(xe:(List Qr))=>AS.bG 54 [(0,.sv (ref [.v (.bool aB),.v (.int .i64 aC),slc 1 (List.map (eS 4 eQ) aJ),slc 1 (List.map bT aL),slc 1 (List.map (eS 4 eQ) b9)])),(1,.sv (.v (.int .i64 x1))),(5,.row 18)] [] [(18,TR 43 4 eQ xe)]) (fun xe=>xe=e18) ?_ (fun xe ad6=>?_)
 refine ak ?_
 refine aW ad5 (fun Ya=>AS.bG 54 [(0,.sv (ref [.v (.bool aB),.v (.int .i64 aC),slc 1 (List.map (eS 4 eQ) aJ),slc 1 (List.map bT aL),slc 1 (List.map (eS 4 eQ) b9)])),(1,.sv (.v (.int .i64 x1))),(5,.row 18),(28,.sv (slc 1 (List.map (eS 4 eQ) aJ))),(29,.sv (.v (.int .i64 gH))),(30,.sv (.v (.int .i64 Ya.1)))] [] [(18,TR 43 4 eQ Ya.2)]) (wR []) (fun Ya y18 G18 h ad7 ad8=>?_)
 obtain⟨CK,CL⟩:=Ya
 try dsimp only
 refine sr<|lE h fun td xS h=>ls _ rfl rfl xS<|dn<|qq ?_
 cases td
 refine cF<|aZ<|ae.x<|ae.x<|aG.x<|ae.n ?_
 obtain rfl:=O (F h)
 exact⟨CL,ad8 _ rfl,wR []⟩
 refine cT<|aE<|ae.n<|qq<|ak<|sr<|mv rfl<|bE (V h) fun rS rZ h=>ix rfl rfl rZ<|lr rfl rfl<|ag rfl<|ag rfl<|dn<|af<|mo (s:=.row _) rfl<|mv rfl<|mv rfl<|mv rfl ?_
 obtain⟨⟨⟨OE,OF⟩,⟨OG,OH⟩⟩,BX,h⟩:=bS h
 refine ix rfl rfl BX<|RT.gD (cs:=[_,_,_,_]) .none rfl T rfl rfl<|bE h fun rP zb h=>iR rfl rfl rfl zb<|bE h fun Yb ZZ h=>sA ⟨⟨OE,OF⟩,⟨OG,OH⟩⟩ rfl rfl rfl ZZ<|RT.done<|aG.n<|ae.n<|af<|lE h fun rB ze h=>ad _ rfl rfl ze<|mv rfl<|RT.done ?_
 obtain rfl:=O h
 exact ae.n ⟨(rB,Yb),ad7 _ rfl,wR []⟩
 subst ad6
 try dsimp only
 refine ae.n<|ai mixed<|mo (s:=.row _) rfl<|mv rfl<|RT.bL .none rfl T<|RT.aT .none rfl T rfl<|lr rfl rfl<|lE CS fun sO h48 CS=>ln rfl h48<|mv rfl<|lE CS fun vo DD CS=>ad _ rfl rfl DD ?_
 obtain⟨⟨⟨BQ,BR⟩,⟨OI,OJ⟩⟩,DE,CS⟩:=bS CS
 refine cl (gJ DE) ⟨rfl,trivial⟩<|bE CS fun wj zg CS=>iR rfl rfl rfl zg<|bE CS fun Yc Z0 CS=>sA ⟨⟨BQ,BR⟩,⟨OI,OJ⟩⟩ rfl rfl rfl Z0 ?_
 refine RT.done ⟨by kernel_rfl,?_⟩
 exact ae.n<|⟨Yc,CS,wR []⟩
 try dsimp only
 refine ae.n<|sr<|mo (s:=.row _) rfl<|an (s:=.row _) rfl<|dn<|bh (c8 (i:=18) (E1:=43) (n:=4) (e:=eQ) (l:=OD) rfl)<|aj ?_
 obtain rfl:=O h
 exact R1 rfl
theorem AA{x0:Tb}{x1:List Qr}{r:List Qr}(h:e9 x0 x1=some r):Pure Tryz.prog 77 [ref (rJ x0),slc 4 (List.map eQ x1)] (slc 4 (List.map eQ r)):=by
 obtain⟨aB,aC,aJ,aL,b9⟩:=x0
 refine ay Tryz.func77 rfl (Nat.le_of_ble_eq_true rfl) (fun cG M vs hvs=>?_)
 unfold e9 at h
 refine sr<|aI rfl (imp_nil (n:=4) (e:=eQ))<|dn<|qq<|ai mixed<|mv rfl<|RT.bL .none rfl T<|RT.aT .none rfl T rfl<|lr rfl rfl<|lE h fun dB eI h=>ln rfl eI<|mv rfl<|RT.bL .none rfl T<|RT.aT .none rfl T rfl<|lr rfl rfl<|lE h fun eT jD h=>ad _ rfl rfl jD<|bE h fun ek gV h=>RT.jy (n:=4) (e:=eQ) .none rfl rfl T rfl T (by rfl) (by decide) (by exact⟨SV.aa _,imp_nil,SV.aa _,imp_nil,trivial⟩) gV ?_
 refine an (s:=.row _) rfl ?_
 refine RT.done ⟨by kernel_rfl,?_⟩
 refine ae.n<|qq<|sr<|mv rfl<|lE h fun gB lM h=>ln rfl lM<|mv rfl<|dn<|bh (c8 (i:=18) (E1:=43) (n:=4) (e:=eQ) (l:=ek) rfl)<|bE h fun Jl FM lX=>?_
 refine aV (fun(uL:(List Qr))=>AS.bG 57 [(5,.sv (slc 4 (List.map eQ uL)))] [] []) (fun uL=>uL=Jl) ?_ (fun uL FN=>?_)
 refine ak ?_
 refine aW FM (fun HI=>AS.bG 57 [(0,.sv (ref [.v (.bool aB),.v (.int .i64 aC),slc 1 (List.map (eS 4 eQ) aJ),slc 1 (List.map bT aL),slc 1 (List.map (eS 4 eQ) b9)])),(5,.sv (slc 4 (List.map eQ HI.1))),(19,.sv (slc 4 (List.map eQ x1))),(20,.sv (.v (.int .i64 gB))),(21,.sv (.v (.int .i64 HI.2)))] [] []) (wR []) (fun HI y16 G16 h FO AB=>?_)
 obtain⟨uK,mU⟩:=HI
 try dsimp only
 refine sr<|lE h fun iP mD h=>ls _ rfl rfl mD<|dn<|qq ?_
 cases iP
 refine cF<|aZ<|ae.x<|ae.x<|aG.x<|ae.n ?_
 obtain rfl:=O (F h)
 exact⟨uK,AB _ rfl,wR []⟩
 refine cT<|aE<|ae.n<|qq<|ak<|sr<|mv rfl ?_
 obtain⟨⟨⟨oc,oe⟩,⟨og,oh⟩⟩,kD,h⟩:=bS (V h)
 refine ix rfl rfl kD<|RT.gD (cs:=[_,_,_,_]) .none rfl T rfl rfl<|al (cs:=[.v (.bool false),slc 1 (List.map ah []),.v (.bool false),slc 1 (List.map ah [])]) (by exact⟨SV.aa _,imp_nil,SV.aa _,imp_nil,trivial⟩) rfl<|ag rfl<|so rfl rfl rfl<|dn<|qq ?_
 refine aF h (fun j19=>AS.bG 57 [(0,.sv (ref [.v (.bool aB),.v (.int .i64 aC),slc 1 (List.map (eS 4 eQ) aJ),slc 1 (List.map bT aL),slc 1 (List.map (eS 4 eQ) b9)])),(5,.sv (slc 4 (List.map eQ uK))),(6,.sv (.v (.int .i64 mU))),(7,.ptr 7 0),(19,.sv (slc 4 (List.map eQ x1))),(20,.sv (.v (.int .i64 gB))),(21,.sv (.v (.int .i64 mU))),(42,.sv (.v (.bool j19)))] [(7,⟨43,[.sv (.v (.bool oc)),.sv (slc 1 (List.map ah oe)),.sv (.v (.bool og)),.sv (slc 1 (List.map ah oh))]⟩)] []) (fun h=>?_) (fun CM h=>?_)
 refine ai mixed<|mv rfl<|RT.bL .none rfl T<|RT.aT .none rfl T rfl<|lr rfl rfl<|mv rfl<|bE h fun td xS h=>ix rfl rfl xS<|lr rfl rfl<|mv rfl<|RT.bL .none rfl T<|RT.aT .none rfl T rfl<|lr rfl rfl<|lE h fun tf xU h=>ls _ rfl rfl xU<|mv rfl<|bE h fun Jj uF h=>?_
 cases tf
 obtain rfl:=O (F uF)
 refine ww<|ww<|ww<|pF rfl ?_
 refine RT.done ⟨by kernel_rfl,?_⟩
 exact ae.n<|⟨false,h,wR []⟩
 refine gl rfl rfl (.cons rfl (.cons rfl (.cons rfl (.cons rfl (.nil)))))<|bE (V uF) fun lu nO uF=>gc (fI nO) ⟨rfl,trivial⟩<|lE uF fun rP zb uF=>gq _ rfl rfl (Gk (p:=lu) (q:=0) zb) ?_
 obtain rfl:=O uF
 refine pT rfl ?_
 refine RT.done ⟨by kernel_rfl,?_⟩
 exact ae.n<|⟨rP,h,wR []⟩
 try dsimp only
 refine ae.n ?_
 refine aF h (fun V4=>AS.bG 57 [(0,.sv (ref [.v (.bool aB),.v (.int .i64 aC),slc 1 (List.map (eS 4 eQ) aJ),slc 1 (List.map bT aL),slc 1 (List.map (eS 4 eQ) b9)])),(5,.sv (slc 4 (List.map eQ V4))),(19,.sv (slc 4 (List.map eQ x1))),(20,.sv (.v (.int .i64 gB))),(21,.sv (.v (.int .i64 mU)))] [] []) (fun h=>?_) (fun HJ h=>?_)
 cases CM
 exact fs<|⟨uK,(F h),wR []⟩
 refine cT<|ai mixed<|ld rfl rfl (.cons rfl (.cons rfl (.cons rfl (.cons rfl (.nil)))))<|mv rfl<|mv rfl<|RT.bL .none rfl T<|RT.aT .none rfl T rfl<|lr rfl rfl<|mv rfl<|bE (V h) fun vo DD h=>ix rfl rfl DD<|lr rfl rfl<|bE h fun wj zg h=>cl (lW zg) ⟨rfl,rfl,trivial⟩<|mv rfl<|bE h fun Dx GX h=>cl (mR GX) ⟨rfl,rfl,rfl,trivial⟩<|ag rfl ?_
 refine RT.done ⟨by kernel_rfl,?_⟩
 exact ae.n<|⟨Dx,h,wR []⟩
 try dsimp only
 refine aG.n<|ae.n<|af<|lE h fun xz GW h=>ad _ rfl rfl GW<|mv rfl<|RT.done ?_
 obtain rfl:=O h
 exact ae.n ⟨(HJ,xz),FO _ rfl,wR []⟩
 subst FN
 try dsimp only
 refine ae.n<|sr<|mv rfl<|ag rfl<|dn<|aj ?_
 obtain rfl:=O lX
 exact R1 rfl
theorem tc{x0:Tb}{x1:List Qr}(N:Nat){r:List Qr}(h:e9 x0 x1=some r):cJ Tryz.prog 77 N [ref (rJ x0),slc 4 (List.map eQ x1)] (nw N (slc 4 (List.map (fQ N) r))):=by
 obtain⟨aB,aC,aJ,aL,b9⟩:=x0
 refine aN Tryz.func77 rfl (Nat.le_of_ble_eq_true rfl) (fun cG M vs hN hvs=>?_)
 unfold e9 at h
 refine sr<|aI rfl (aA (N:=N) (n:=4) (e:=(fQ N)))<|dn<|qq<|ai mixed<|mv rfl<|RT.bL .none rfl T<|RT.aT .none rfl T rfl<|lr rfl rfl<|lE h fun dB eI h=>ln rfl eI<|mv rfl<|RT.bL .none rfl T<|RT.aT .none rfl T rfl<|lr rfl rfl<|lE h fun eT jD h=>ad _ rfl rfl jD<|bE h fun ek gV h=>RT.jy (n:=4) (e:=(fQ N)) .none rfl rfl T rfl T (by rfl) (by decide) (by exact⟨SV.aa _,aA,SV.aa _,aA,trivial⟩) gV ?_
 refine an (s:=.row _) rfl ?_
 refine RT.done ⟨by kernel_rfl,?_⟩
 refine ae.n<|qq<|sr<|mv rfl<|lE h fun gB lM h=>ln rfl lM<|mv rfl<|dn<|iM (i:=18) (E1:=43) (n:=4) (e:=(fQ N)) (l:=ek) hN (fun _ h=>h) rfl<|bE h fun Jl FM lX=>?_
 refine aV (fun(uL:(List Qr))=>AS.bG 57 [(5,.sv (nw N (slc 4 (List.map (fQ N) uL))))] [] []) (fun uL=>uL=Jl) ?_ (fun uL FN=>?_)
 refine ak ?_
 refine aW FM (fun HI=>AS.bG 57 [(0,.sv (ref [.v (.bool aB),.v (.int .i64 aC),slc 1 (List.map (eS 4 eQ) aJ),slc 1 (List.map bT aL),slc 1 (List.map (eS 4 eQ) b9)])),(5,.sv (nw N (slc 4 (List.map (fQ N) HI.1)))),(19,.sv (slc 4 (List.map eQ x1))),(20,.sv (.v (.int .i64 gB))),(21,.sv (.v (.int .i64 HI.2)))] [] []) (wR []) (fun HI y16 G16 h FO AB=>?_)
 obtain⟨uK,mU⟩:=HI
 try dsimp only
 refine sr<|lE h fun iP mD h=>ls _ rfl rfl mD<|dn<|qq ?_
 cases iP
 refine cF<|aZ<|ae.x<|ae.x<|aG.x<|ae.n ?_
 obtain rfl:=O (F h)
 exact⟨uK,AB _ rfl,wR []⟩
 refine cT<|aE<|ae.n<|qq<|ak<|sr<|mv rfl ?_
 obtain⟨⟨⟨oc,oe⟩,⟨og,oh⟩⟩,kD,h⟩:=bS (V h)
 refine ix rfl rfl kD<|RT.gD (cs:=[_,_,_,_]) .none rfl T rfl rfl<|al (cs:=[.v (.bool false),nw N (slc 1 (List.map ah [])),.v (.bool false),nw N (slc 1 (List.map ah []))]) (by exact⟨SV.aa _,aA,SV.aa _,aA,trivial⟩) rfl<|ag rfl<|so rfl rfl rfl<|dn<|qq ?_
 refine aF h (fun j19=>AS.bG 57 [(0,.sv (ref [.v (.bool aB),.v (.int .i64 aC),slc 1 (List.map (eS 4 eQ) aJ),slc 1 (List.map bT aL),slc 1 (List.map (eS 4 eQ) b9)])),(5,.sv (nw N (slc 4 (List.map (fQ N) uK)))),(6,.sv (.v (.int .i64 mU))),(7,.ptr 7 0),(19,.sv (slc 4 (List.map eQ x1))),(20,.sv (.v (.int .i64 gB))),(21,.sv (.v (.int .i64 mU))),(42,.sv (.v (.bool j19)))] [(7,⟨43,[.sv (.v (.bool oc)),.sv (slc 1 (List.map ah oe)),.sv (.v (.bool og)),.sv (slc 1 (List.map ah oh))]⟩)] []) (fun h=>?_) (fun CM h=>?_)
 refine ai mixed<|mv rfl<|RT.bL .none rfl T<|RT.aT .none rfl T rfl<|lr rfl rfl<|mv rfl<|bE h fun td xS h=>ix rfl rfl xS<|lr rfl rfl<|mv rfl<|RT.bL .none rfl T<|RT.aT .none rfl T rfl<|lr rfl rfl<|lE h fun tf xU h=>ls _ rfl rfl xU<|mv rfl<|bE h fun Jj uF h=>?_
 cases tf
 obtain rfl:=O (F uF)
 refine ww<|ww<|ww<|pF rfl ?_
 refine RT.done ⟨by kernel_rfl,?_⟩
 exact ae.n<|⟨false,h,wR []⟩
 refine gl rfl rfl (.cons rfl (.cons rfl (.cons rfl (.cons rfl (.nil)))))<|bE (V uF) fun lu nO uF=>gc (fI nO) ⟨rfl,trivial⟩<|lE uF fun rP zb uF=>gq _ rfl rfl (Gk (p:=lu) (q:=0) zb) ?_
 obtain rfl:=O uF
 refine pT rfl ?_
 refine RT.done ⟨by kernel_rfl,?_⟩
 exact ae.n<|⟨rP,h,wR []⟩
 try dsimp only
 refine ae.n ?_
 refine aF h (fun V4=>AS.bG 57 [(0,.sv (ref [.v (.bool aB),.v (.int .i64 aC),slc 1 (List.map (eS 4 eQ) aJ),slc 1 (List.map bT aL),slc 1 (List.map (eS 4 eQ) b9)])),(5,.sv (nw N (slc 4 (List.map (fQ N) V4)))),(19,.sv (slc 4 (List.map eQ x1))),(20,.sv (.v (.int .i64 gB))),(21,.sv (.v (.int .i64 mU)))] [] []) (fun h=>?_) (fun HJ h=>?_)
 cases CM
 exact fs<|⟨uK,(F h),wR []⟩
 refine cT<|ai mixed<|ld rfl rfl (.cons rfl (.cons rfl (.cons rfl (.cons rfl (.nil)))))<|mv rfl<|mv rfl<|RT.bL .none rfl T<|RT.aT .none rfl T rfl<|lr rfl rfl<|mv rfl<|bE (V h) fun vo DD h=>ix rfl rfl DD<|lr rfl rfl<|bE h fun wj zg h=>cl (lW zg) ⟨rfl,rfl,trivial⟩<|mv rfl<|bE h fun Dx GX h=>RT.aX .none ((zC N GX).w (args':=[_,_,_]) ⟨(SV.aa _),(SV.aa _),X8,trivial⟩) hN rfl ⟨rfl,rfl,rfl,trivial⟩ T ?_
 refine ag rfl ?_
 refine RT.done ⟨by kernel_rfl,?_⟩
 exact ae.n<|⟨Dx,h,wR []⟩
 try dsimp only
 refine aG.n<|ae.n<|af<|lE h fun xz GW h=>ad _ rfl rfl GW<|mv rfl<|RT.done ?_
 obtain rfl:=O h
 exact ae.n ⟨(HJ,xz),FO _ rfl,wR []⟩
 subst FN
 try dsimp only
 refine ae.n<|sr<|mv rfl<|ag rfl<|dn<|aj ?_
 obtain rfl:=O lX
 exact R1 rfl
theorem FP{x0:Tb}(N:Nat){r:List Int}(h:jS x0=some r):cJ Tryz.prog 17 N [ref (rJ x0)] (nw N (slc 1 (List.map bT r))):=by
 obtain⟨aB,aC,aJ,aL,b9⟩:=x0
 refine aN Tryz.func17 rfl (Nat.le_of_ble_eq_true rfl) (fun cG M vs hN hvs=>?_)
 unfold jS at h
 refine sr<|aI rfl (aA (N:=N) (n:=1) (e:=bT))<|dn<|qq<|sr<|mv rfl<|bE h fun x5 h5 h=>cl (cQ h5) ⟨rfl,trivial⟩<|dn ?_
 cases x5
 refine fs<|sr<|mv rfl<|RT.bL .none rfl T<|RT.aT .none rfl T rfl<|lr rfl rfl<|lE (F h) fun dm fD h=>ln rfl fD<|bE h fun gU mB h=>RT.jy (n:=1) (e:=bT) .none rfl rfl T rfl T (by rfl) (by decide) (by exact⟨SV.aa _,trivial⟩) mB<|an (s:=.row _) rfl<|dn<|sr<|mo (s:=.row _) rfl<|mv rfl<|RT.bL .none rfl T<|RT.aT .none rfl T rfl<|lr rfl rfl ?_
 refine RT.ZU (l:=gU) (k:=aL) (e:=bT) .none rfl rfl rfl T rfl<|dn<|sr<|mo (s:=.row _) rfl<|an (s:=.row _) rfl<|dn<|iM (i:=11) (E1:=3) (n:=1) (e:=bT) (l:=(Gl gU aL)) hN (fun _ h=>h) rfl<|aj ?_
 obtain rfl:=O h
 exact R1 rfl
 refine cT<|sr<|aI rfl (aA (N:=N) (n:=1) (e:=bT))<|dn<|aj<|ae.r ?_
 obtain rfl:=O (V h)
 exact R1 rfl
theorem Jm{x0:Tb}{r:List Qr}(h:fo x0=some r):Pure Tryz.prog 19 [ref (rJ x0)] (slc 4 (List.map eQ r)):=by
 obtain⟨aB,aC,aJ,aL,b9⟩:=x0
 refine ay Tryz.func19 rfl (Nat.le_of_ble_eq_true rfl) (fun cG M vs hvs=>?_)
 unfold fo at h
 refine sr<|aI rfl (imp_nil (n:=4) (e:=eQ))<|dn<|qq<|sr<|mv rfl<|bE h fun x4 h4 h=>cl (cQ h4) ⟨rfl,trivial⟩<|dn ?_
 cases x4
 refine fs<|sr<|mv rfl<|mv rfl<|bE (F h) fun x7 h7 h=>cl (iN h7) ⟨rfl,trivial⟩<|bE h fun x8 h8 h=>cl (wB h8) ⟨rfl,rfl,trivial⟩<|ag rfl<|dn<|aj ?_
 obtain rfl:=O h
 exact R1 rfl
 refine cT<|sr<|aI rfl (imp_nil (n:=4) (e:=eQ))<|dn<|aj<|ae.r ?_
 obtain rfl:=O (V h)
 exact R1 rfl
theorem xj{x0:Tb}(N:Nat){r:List Qr}(h:fo x0=some r):cJ Tryz.prog 19 N [ref (rJ x0)] (nw N (slc 4 (List.map (fQ N) r))):=by
 obtain⟨aB,aC,aJ,aL,b9⟩:=x0
 refine aN Tryz.func19 rfl (Nat.le_of_ble_eq_true rfl) (fun cG M vs hN hvs=>?_)
 unfold fo at h
 refine sr<|aI rfl (aA (N:=N) (n:=4) (e:=(fQ N)))<|dn<|qq<|sr<|mv rfl<|bE h fun x4 h4 h=>cl (cQ h4) ⟨rfl,trivial⟩<|dn ?_
 cases x4
 refine fs<|sr<|mv rfl<|mv rfl<|bE (F h) fun x7 h7 h=>cl (iN h7) ⟨rfl,trivial⟩<|bE h fun x8 h8 h=>RT.aX .none (wC N h8) hN rfl ⟨rfl,rfl,trivial⟩ T<|ag rfl<|dn<|aj ?_
 obtain rfl:=O h
 exact R1 rfl
 refine cT<|sr<|aI rfl (aA (N:=N) (n:=4) (e:=(fQ N)))<|dn<|aj<|ae.r ?_
 obtain rfl:=O (V h)
 exact R1 rfl
theorem xk{x0:Tb}{x1:Int}{r:List Qr}(h:cE x0 x1=some r):Pure Tryz.prog 28 [ref (rJ x0),.v (.int .i64 x1)] (slc 4 (List.map eQ r)):=by
 obtain⟨aB,aC,aJ,aL,b9⟩:=x0
 refine ay Tryz.func28 rfl (Nat.le_of_ble_eq_true rfl) (fun cG M vs hvs=>?_)
 unfold cE at h
 refine sr<|aI rfl (imp_nil (n:=4) (e:=eQ))<|dn<|qq<|qq ?_
 refine aF h (fun j6=>AS.bG 26 [(0,.sv (ref [.v (.bool aB),.v (.int .i64 aC),slc 1 (List.map (eS 4 eQ) aJ),slc 1 (List.map bT aL),slc 1 (List.map (eS 4 eQ) b9)])),(1,.sv (.v (.int .i64 x1))),(16,.sv (.v (.bool j6)))] [] []) (fun h=>?_) (fun HK h=>?_)
 refine af<|mv rfl<|bE h fun x6 h6 h=>cl (cQ h6) ⟨rfl,trivial⟩<|mv rfl<|bE h fun OK L5 h=>?_
 cases x6
 refine gm rfl<|lE (F L5) fun x9 h9 L5=>RT.lss (.some rfl rfl) _ rfl rfl T h9 ?_
 obtain rfl:=O L5
 refine pF rfl<|mv rfl<|bE h fun Z1 B9 h=>?_
 cases x9
 refine gm rfl<|gm rfl<|bE (F B9) fun eU jg B9=>gc (iN jg) ⟨rfl,trivial⟩<|lE B9 fun dA fE B9=>RT.geq (.some rfl rfl) _ rfl rfl T fE ?_
 obtain rfl:=O B9
 exact pF rfl<|dn<|⟨dA,h,wR []⟩
 obtain rfl:=O (V B9)
 exact ww<|ww<|ww<|ww<|pT rfl<|dn<|⟨true,h,wR []⟩
 obtain rfl:=O (V L5)
 refine ww<|ww<|pT rfl<|mv rfl<|bE h fun Z2 hg9 h=>?_
 obtain rfl:=O (V hg9)
 exact ww<|ww<|ww<|ww<|pT rfl<|dn<|⟨true,h,wR []⟩
 try dsimp only
 refine ae.n ?_
 cases HK
 refine fs<|sr<|mv rfl<|mv rfl<|mv rfl<|bE (F h) fun gB lM h=>cl (wB lM) ⟨rfl,rfl,trivial⟩<|bE h fun iv nS h=>cl (AA nS) ⟨rfl,rfl,trivial⟩<|mv rfl<|mv rfl<|bE h fun fR kD h=>cl (lW kD) ⟨rfl,rfl,trivial⟩<|bE h fun yH qM h=>cl (Cx qM) ⟨rfl,rfl,trivial⟩<|ag rfl<|dn<|aj ?_
 obtain rfl:=O h
 exact R1 rfl
 refine cT<|sr<|aI rfl (imp_nil (n:=4) (e:=eQ))<|dn<|aj<|ae.r ?_
 obtain rfl:=O (V h)
 exact R1 rfl
theorem o6{x0:Tb}{x1:Int}(N:Nat){r:List Qr}(h:cE x0 x1=some r):cJ Tryz.prog 28 N [ref (rJ x0),.v (.int .i64 x1)] (nw N (slc 4 (List.map (fQ N) r))):=by
 obtain⟨aB,aC,aJ,aL,b9⟩:=x0
 refine aN Tryz.func28 rfl (Nat.le_of_ble_eq_true rfl) (fun cG M vs hN hvs=>?_)
 unfold cE at h
 refine sr<|aI rfl (aA (N:=N) (n:=4) (e:=(fQ N)))<|dn<|qq<|qq ?_
 refine aF h (fun j6=>AS.bG 26 [(0,.sv (ref [.v (.bool aB),.v (.int .i64 aC),slc 1 (List.map (eS 4 eQ) aJ),slc 1 (List.map bT aL),slc 1 (List.map (eS 4 eQ) b9)])),(1,.sv (.v (.int .i64 x1))),(16,.sv (.v (.bool j6)))] [] []) (fun h=>?_) (fun HK h=>?_)
 refine af<|mv rfl<|bE h fun x6 h6 h=>cl (cQ h6) ⟨rfl,trivial⟩<|mv rfl<|bE h fun OK L5 h=>?_
 cases x6
 refine gm rfl<|lE (F L5) fun x9 h9 L5=>RT.lss (.some rfl rfl) _ rfl rfl T h9 ?_
 obtain rfl:=O L5
 refine pF rfl<|mv rfl<|bE h fun Z1 B9 h=>?_
 cases x9
 refine gm rfl<|gm rfl<|bE (F B9) fun eU jg B9=>gc (iN jg) ⟨rfl,trivial⟩<|lE B9 fun dA fE B9=>RT.geq (.some rfl rfl) _ rfl rfl T fE ?_
 obtain rfl:=O B9
 exact pF rfl<|dn<|⟨dA,h,wR []⟩
 obtain rfl:=O (V B9)
 exact ww<|ww<|ww<|ww<|pT rfl<|dn<|⟨true,h,wR []⟩
 obtain rfl:=O (V L5)
 refine ww<|ww<|pT rfl<|mv rfl<|bE h fun Z2 hg9 h=>?_
 obtain rfl:=O (V hg9)
 exact ww<|ww<|ww<|ww<|pT rfl<|dn<|⟨true,h,wR []⟩
 try dsimp only
 refine ae.n ?_
 cases HK
 refine fs<|sr<|mv rfl<|mv rfl<|mv rfl<|bE (F h) fun gB lM h=>RT.aX .none (wC N lM) hN rfl ⟨rfl,rfl,trivial⟩ T<|bE h fun iv nS h=>RT.aX .none ((tc N nS).w (args':=[_,_]) ⟨(SV.aa _),X8,trivial⟩) hN rfl ⟨rfl,rfl,trivial⟩ T<|mv rfl<|mv rfl<|bE h fun fR kD h=>cl (lW kD) ⟨rfl,rfl,trivial⟩<|bE h fun yH qM h=>RT.aX .none ((Ji N qM).w (args':=[_,_]) ⟨X8,(SV.aa _),trivial⟩) hN rfl ⟨rfl,rfl,trivial⟩ T ?_
 refine ag rfl<|dn<|aj ?_
 obtain rfl:=O h
 exact R1 rfl
 refine cT<|sr<|aI rfl (aA (N:=N) (n:=4) (e:=(fQ N)))<|dn<|aj<|ae.r ?_
 obtain rfl:=O (V h)
 exact R1 rfl
theorem FR{x0:Tb}(N:Nat){r:List Qr}(h:iB x0=some r):cJ Tryz.prog 38 N [ref (rJ x0)] (nw N (slc 4 (List.map (fQ N) r))):=by
 obtain⟨aB,aC,aJ,aL,b9⟩:=x0
 refine aN Tryz.func38 rfl (Nat.le_of_ble_eq_true rfl) (fun cG M vs hN hvs=>?_)
 unfold iB at h
 refine sr<|aI rfl (aA (N:=N) (n:=4) (e:=(fQ N)))<|dn<|qq<|sr<|mv rfl<|bE h fun x4 h4 h=>cl (cQ h4) ⟨rfl,trivial⟩<|dn ?_
 cases x4
 refine fs<|sr<|mv rfl<|mv rfl<|bE (F h) fun x7 h7 h=>RT.aX .none (xj N h7) hN rfl ⟨rfl,trivial⟩ T<|bE h fun x8 h8 h=>RT.aX .none ((tc N h8).w (args':=[_,_]) ⟨(SV.aa _),X8,trivial⟩) hN rfl ⟨rfl,rfl,trivial⟩ T<|ag rfl<|dn<|aj ?_
 obtain rfl:=O h
 exact R1 rfl
 refine cT<|sr<|aI rfl (aA (N:=N) (n:=4) (e:=(fQ N)))<|dn<|aj<|ae.r ?_
 obtain rfl:=O (V h)
 exact R1 rfl
theorem AD{x0:Tb}(N:Nat){r:List Qr}(h:ir x0=some r):cJ Tryz.prog 21 N [ref (rJ x0)] (nw N (slc 4 (List.map (fQ N) r))):=by
 obtain⟨aB,aC,aJ,aL,b9⟩:=x0
 refine aN Tryz.func21 rfl (Nat.le_of_ble_eq_true rfl) (fun cG M vs hN hvs=>?_)
 unfold ir at h
 refine sr<|aI rfl (aA (N:=N) (n:=4) (e:=(fQ N)))<|dn<|qq<|sr<|mv rfl<|bE h fun x7 h7 h=>cl (cQ h7) ⟨rfl,trivial⟩<|dn ?_
 cases x7
 refine fs<|sr<|mv rfl<|RT.bL .none rfl T<|RT.aT .none rfl T rfl<|lr rfl rfl<|bE (F h) fun dB eI h=>RT.jy (n:=4) (e:=(fQ N)) .none rfl rfl T rfl T (by rfl) (by decide) (by exact⟨SV.aa _,aA,SV.aa _,aA,trivial⟩) eI<|an (s:=.row _) rfl<|dn<|qq<|sr<|mv rfl<|bE h fun eU jg h=>RT.aX .none (xj N jg) hN rfl ⟨rfl,trivial⟩ T<|lE h fun dA fE h=>RT.Ew .none rfl T fE<|mv rfl ?_
 refine dn<|bE h fun Lg BT xR=>?_
 refine aV (fun(CP:(List Qr))=>AS.bG 45 [(3,.row 12)] [] [(12,TR 43 4 (fQ N) CP)]) (fun CP=>CP=Lg) ?_ (fun CP BU=>?_)
 refine ak ?_
 refine aW BT (fun zZ=>AS.bG 45 [(0,.sv (ref [.v (.bool aB),.v (.int .i64 aC),slc 1 (List.map (eS 4 eQ) aJ),slc 1 (List.map bT aL),slc 1 (List.map (eS 4 eQ) b9)])),(3,.row 12),(14,.sv (nw N (slc 4 (List.map (fQ N) eU)))),(15,.sv (.v (.int .i64 dA))),(16,.sv (.v (.int .i64 zZ.1)))] [] [(12,TR 43 4 (fQ N) zZ.2)]) (wR []) (fun zZ Zg Zh h BV y5=>?_)
 obtain⟨CN,CO⟩:=zZ
 try dsimp only
 refine sr<|lE h fun eT jD h=>ls _ rfl rfl jD<|dn<|qq ?_
 cases eT
 refine cF<|aZ<|ae.x<|ae.x<|aG.x<|ae.n ?_
 obtain rfl:=O (F h)
 exact⟨CO,y5 _ rfl,wR []⟩
 refine cT<|aE<|ae.n<|qq<|ak<|sr<|mv rfl ?_
 obtain⟨⟨⟨mE,mF⟩,⟨Cu,Cv⟩⟩,kx,h⟩:=bS (V h)
 refine RT.ZQ .none rfl rfl T kx<|RT.gD (cs:=[_,_,_,_]) .none rfl T rfl rfl<|al (cs:=[.v (.bool false),nw N (slc 1 (List.map ah [])),.v (.bool false),nw N (slc 1 (List.map ah []))]) (by exact⟨SV.aa _,aA,SV.aa _,aA,trivial⟩) rfl<|ag rfl<|so rfl rfl rfl<|dn<|qq<|ai mixed<|mv rfl<|RT.bL .none rfl T<|RT.aT .none rfl T rfl<|lr rfl rfl<|mv rfl<|bE h fun lI nT h=>ix rfl rfl nT ?_
 refine lr rfl rfl<|mv rfl<|RT.bL .none rfl T<|RT.aT .none rfl T rfl<|lr rfl rfl<|lE h fun iD kz h=>ls _ rfl rfl kz ?_
 refine RT.done ⟨by kernel_rfl,?_⟩
 refine ae.n ?_
 refine aF h (fun Lh=>AS.bG 45 [(0,.sv (ref [.v (.bool aB),.v (.int .i64 aC),slc 1 (List.map (eS 4 eQ) aJ),slc 1 (List.map bT aL),slc 1 (List.map (eS 4 eQ) b9)])),(3,.row 12),(14,.sv (nw N (slc 4 (List.map (fQ N) eU)))),(15,.sv (.v (.int .i64 dA))),(16,.sv (.v (.int .i64 CN)))] [] [(12,TR 43 4 (fQ N) Lh)]) (fun h=>?_) (fun Jk h=>?_)
 cases iD
 exact fs<|⟨CO,(F h),wR []⟩
 refine cT<|ai mixed<|mo (s:=.row _) rfl<|mv rfl<|RT.bL .none rfl T<|RT.aT .none rfl T rfl<|lr rfl rfl<|mv rfl<|bE (V h) fun tg BX h=>ix rfl rfl BX<|lr rfl rfl<|ld rfl rfl (.cons rfl (.cons rfl (.cons rfl (.cons rfl (.nil)))))<|bE h fun rB ze h=>iR rfl rfl rfl ze<|bE h fun Qi Z3 h=>sA ⟨⟨mE,mF⟩,⟨Cu,Cv⟩⟩ rfl rfl rfl Z3 ?_
 refine RT.done ⟨by kernel_rfl,?_⟩
 exact ae.n<|⟨Qi,h,wR []⟩
 try dsimp only
 refine aG.n<|ae.n<|af<|lE h fun vn Dj h=>ad _ rfl rfl Dj<|mv rfl<|RT.done ?_
 obtain rfl:=O h
 exact ae.n ⟨(vn,Jk),BV _ rfl,wR []⟩
 subst BU
 try dsimp only
 refine ae.n<|sr<|mo (s:=.row _) rfl<|an (s:=.row _) rfl<|dn<|iM (i:=12) (E1:=43) (n:=4) (e:=(fQ N)) (l:=CP) hN (fun _ h=>h) rfl<|aj ?_
 obtain rfl:=O xR
 exact R1 rfl
 refine cT<|sr<|aI rfl (aA (N:=N) (n:=4) (e:=(fQ N)))<|dn<|aj<|ae.r ?_
 obtain rfl:=O (V h)
 exact R1 rfl
theorem HM{x0:Tb}(N:Nat){r:List (List Qr)}(h:mW x0=some r):cJ Tryz.prog 18 N [ref (rJ x0)] (nw N (slc 1 (List.map (fS N 4 (fQ N)) r))):=by
 obtain⟨aB,aC,aJ,aL,b9⟩:=x0
 refine aN Tryz.func18 rfl (Nat.le_of_ble_eq_true rfl) (fun cG M vs hN hvs=>?_)
 unfold mW at h
 refine sr<|aI rfl (aA (N:=N) (n:=1) (e:=(fS N 4 (fQ N))))<|dn<|qq<|sr<|mv rfl<|bE h fun x7 h7 h=>cl (cQ h7) ⟨rfl,trivial⟩<|dn ?_
 cases x7
 refine fs<|sr<|ag rfl<|dn<|bh (fW 3 304 23 1 rfl rfl T)<|qq<|sr<|mv rfl<|RT.bL .none rfl T<|RT.aT .none rfl T rfl<|lr rfl rfl<|lE (F h) fun dB eI h=>ln rfl eI<|mv rfl<|dn<|bE h fun e6 Dy iS=>?_
 refine aV (fun(xg:(List (List Qr)))=>AS.bG 26 [(3,.row 306)] [] [(306,TR 23 1 (fS N 4 (fQ N)) xg)]) (fun xg=>xg=e6) ?_ (fun xg Dz=>?_)
 refine ak ?_
 refine aW Dy (fun s6=>AS.bG 26 [(0,.sv (ref [.v (.bool aB),.v (.int .i64 aC),slc 1 (List.map (eS 4 eQ) aJ),slc 1 (List.map bT aL),slc 1 (List.map (eS 4 eQ) b9)])),(3,.row 306),(11,.sv (slc 1 (List.map (eS 4 eQ) b9))),(12,.sv (.v (.int .i64 dB))),(13,.sv (.v (.int .i64 s6.1)))] [] [(306,TR 23 1 (fS N 4 (fQ N)) s6.2)]) (cH (fun i=>bif Nat.beq i 306 then 304 else i) rfl rfl rfl rfl rfl ⟨.sv (SV.aa _),.row rfl,.sv (SV.aa _),.sv (SV.aa _),.sv (SV.aa _),trivial⟩ trivial ⟨⟨_,rfl,bQ.refl _⟩,trivial⟩ (fun i hi=>by rw[bH (show i≠306 by omega)];rfl)) (fun s6 y6 G6 h DA y7=>?_)
 obtain⟨Ke,FJ⟩:=s6
 try dsimp only
 refine sr<|lE h fun eU jg h=>ls _ rfl rfl jg<|dn<|qq ?_
 cases eU
 refine cF<|aZ<|ae.x<|ae.x<|aG.x<|ae.n ?_
 obtain rfl:=O (F h)
 exact⟨FJ,y7 _ rfl,wR []⟩
 refine cT<|aE<|ae.n<|qq<|ak<|sr<|bE (V h) fun dA fE h=>ix rfl rfl fE<|lr rfl rfl<|ag rfl<|dn<|af<|mo (s:=.row _) rfl<|mv rfl<|mv rfl<|bE h fun gB lM h=>cl (iN lM) ⟨rfl,trivial⟩<|bE h fun iv nS h=>RT.aX .none (DM N nS) hN rfl ⟨rfl,rfl,trivial⟩ T<|bl (l:=[iv]) (e:=(fS N 4 (fQ N))) (.one rfl (.nil)) rfl rfl rfl rfl rfl rfl<|bE h fun kA qL h=>aR (k:=[iv]) (e:=(fS N 4 (fQ N))) rfl rfl rfl qL ?_
 refine an (s:=.row _) rfl<|RT.done<|aG.n<|ae.n<|af<|lE h fun fR kD h=>ad _ rfl rfl kD<|mv rfl<|RT.done ?_
 obtain rfl:=O h
 exact ae.n ⟨(fR,kA),DA _ rfl,cH (fun i=>bif Nat.beq i 306 then 23 else i) rfl rfl rfl rfl rfl ⟨.sv (SV.aa _),.row rfl,.sv (SV.aa _),.sv (SV.aa _),.sv (SV.aa _),trivial⟩ trivial ⟨⟨_,rfl,bQ.refl _⟩,trivial⟩ (fun i hi=>by rw[bH (show i≠306 by omega)];rfl)⟩
 subst Dz
 try dsimp only
 refine ae.n<|sr<|mo (s:=.row _) rfl<|an (s:=.row _) rfl<|dn<|iM (i:=306) (E1:=23) (n:=1) (e:=(fS N 4 (fQ N))) (l:=xg) hN (fun _ h=>h) rfl<|aj ?_
 obtain rfl:=O iS
 exact R1 rfl
 refine cT<|sr<|aI rfl (aA (N:=N) (n:=1) (e:=(fS N 4 (fQ N))))<|dn<|aj<|ae.r ?_
 obtain rfl:=O (V h)
 exact R1 rfl
theorem AE{x0:Tb}{r:Bool}(h:iu x0=some r):Pure Tryz.prog 35 [ref (rJ x0)] (.v (.bool r)):=by
 obtain⟨aB,aC,aJ,aL,b9⟩:=x0
 refine ay Tryz.func35 rfl (Nat.le_of_ble_eq_true rfl) (fun cG M vs hvs=>?_)
 unfold iu at h
 refine sr<|ag rfl<|dn<|qq<|sr<|mv rfl<|bE h fun x6 h6 h=>cl (cQ h6) ⟨rfl,trivial⟩<|dn ?_
 cases x6
 refine fs<|qq<|sr<|mv rfl<|bE (F h) fun x8 h8 h=>cl (Jm h8) ⟨rfl,trivial⟩<|lE h fun x9 h9 h=>ln rfl h9<|mv rfl<|dn<|bE h fun e6 Dy iS=>?_
 refine aV (fun(Fh:Unit)=>AS.bG 18 [] [] []) (fun Fh=>.inl Fh=e6) ?_ (fun Fh Dz=>?_)
 refine ak ?_
 refine aW Dy (fun s6=>AS.bG 18 [(8,.sv (slc 4 (List.map eQ x8))),(9,.sv (.v (.int .i64 x9))),(10,.sv (.v (.int .i64 s6)))] [] []) (wR []) (fun Kf y6 G6 h DA y7=>?_)
 try dsimp only
 refine sr<|lE h fun gU mB h=>ls _ rfl rfl mB<|dn<|qq ?_
 cases gU
 refine cF<|aZ<|ae.x<|ae.x<|aG.x<|ae.n ?_
 obtain rfl:=O (F h)
 exact⟨(),y7 _ rfl,wR []⟩
 refine cT<|aE<|ae.n<|qq<|ak<|sr ?_
 obtain⟨⟨⟨fY,fO⟩,⟨Kg,Kh⟩⟩,eI,h⟩:=bS (V h)
 refine ix rfl rfl eI<|RT.gD (cs:=[_,_,_,_]) .none rfl T rfl rfl<|al (cs:=[.v (.bool false),slc 1 (List.map ah []),.v (.bool false),slc 1 (List.map ah [])]) (by exact⟨SV.aa _,imp_nil,SV.aa _,imp_nil,trivial⟩) rfl<|so rfl rfl rfl<|dn<|sr<|ld rfl rfl (.cons rfl (.cons rfl (.cons rfl (.cons rfl (.nil)))))<|bE h fun dA fE h=>cl (fI fE) ⟨rfl,trivial⟩<|lE h fun gu iQ h=>ls _ rfl rfl iQ<|dn ?_
 cases gu
 refine cF<|aE<|aG.n<|ae.n<|af<|lE (F h) fun eT jD h=>ad _ rfl rfl jD<|mv rfl<|RT.done ?_
 obtain rfl:=O h
 exact ae.n ⟨eT,DA _ rfl,wR []⟩
 refine cT<|sr<|ag rfl<|dn<|aj<|aG.r<|ae.r ?_
 obtain rfl:=O (V h)
 have Nt:=y7 _ rfl
 subst Nt
 refine ae.r<|aG.r<|ae.r<|ae.r ?_
 obtain rfl:=O iS
 exact R1 rfl
 subst Dz
 try dsimp only
 refine ae.n<|sr<|ag rfl<|dn<|aj ?_
 obtain rfl:=O iS
 exact R1 rfl
 refine cT<|sr<|ag rfl<|dn<|aj<|ae.r ?_
 obtain rfl:=O (V h)
 exact R1 rfl
theorem uN(t:Tb):Pure Tryz.prog 65 [ref (rJ t)] (gS 114 [ref [ref (rJ t)]]):=by
 refine ay Tryz.func65 rfl (Nat.le_of_ble_eq_true rfl) (fun cG M vs hvs=>?_)
 exact sr<|RT.vG .none (s:=.sv _) rfl T rfl rfl<|ag rfl<|dn<|sr<|RT.makeFunc .none (.box rfl (.nil)) T<|an (s:=.ey _ _) rfl<|dn<|bh (gz (i:=1) rfl [ref (rJ t)] (.cons rfl .nil) .any 0 [(2,.ey 114 [.val (ref [ref (rJ t)])])] (fun _ _ _=>trivial) (qy.h (l:=[ref (rJ t)])) ⟨@FT.ey _ _ _ _ _ 2 114 [.box 1] rfl,trivial⟩)<|bh (E4 2 (gS 114 [ref [ref (rJ t)]]) (fun _ _ h=>E5 h))<|aj<|⟨.inr rfl,EZ (.tmp rfl (.nil)) rfl⟩
theorem Rj(n:Int):IntKind.i64.wrap n≤9223372036854775807:=by
 show(if(true&&decide (n%18446744073709551616≥9223372036854775808))=true then n%18446744073709551616-18446744073709551616 else n%18446744073709551616)≤9223372036854775807
 by_cases h:n%18446744073709551616≥9223372036854775808
 ·simp only[h,decide_true,Bool.and_self,if_true];omega
 ·simp only[h,decide_false,Bool.and_false,Bool.false_eq_true,if_false];omega
theorem width_eq(t:Tb):ew t=some (IntKind.i64.wrap (t.vars+(t.rows.length:Int))):=by
 cases t;rfl
theorem uO(t:Tb):Iter Tryz.prog 114 [ref [ref (rJ t)]] (IntKind.i64.wrap (t.vars+(t.rows.length:Int))).toNat (fun k=>[.v (.int .i64 (k:Int))]):=by
 refine rI Tryz.func114 rfl rfl (Nat.le_of_ble_eq_true rfl) (fun cG M O l J hJ yT hr=>?_)
 have hw:=Rj (t.vars+(t.rows.length:Int))
 have hwd:=width_eq t
 generalize (IntKind.i64.wrap (t.vars+(t.rows.length:Int)))=W at hw hwd hr⊢
 refine aO ?_
 refine af ?_
 refine RT.cV .none rfl rfl (tl rfl) ?_
 refine RT.call .none (iN hwd) rfl ⟨rfl,trivial⟩ (tl rfl) ?_
 refine RT.mv .none rfl (tl rfl) ?_
 refine RT.done ?_
 refine ae.n ?_
 refine ak ?_
 refine xE (I:=fun x:{i:Nat//i≤W.toNat}=>AS.bG 14 [(0,.sv (.v (.func (.yield l) #[] #[]))),(1,.sv (ref [ref (rJ t)])),(5,.sv (.v (.int .i64 W))),(6,.sv (.v (.int .i64 ((x.1:Nat):Int))))] [] [] (x.1)) (μ:=fun x=>W.toNat-x.1) ⟨0,by omega⟩ (by(try dsimp only);exact cH id rfl rfl rfl rfl rfl ⟨.sv (by first|exact SV.aa _|exact SV.aq (by omega)|exact SV.aq (by push_cast;omega)|exact SV.aq (by dsimp only;omega)|exact SV.imp_eq (by simp)),.sv (by first|exact SV.aa _|exact SV.aq (by omega)|exact SV.aq (by push_cast;omega)|exact SV.aq (by dsimp only;omega)|exact SV.imp_eq (by simp)),.sv (by first|exact SV.aa _|exact SV.aq (by omega)|exact SV.aq (by push_cast;omega)|exact SV.aq (by dsimp only;omega)|exact SV.imp_eq (by simp)),.sv (by first|exact SV.aa _|exact SV.aq (by omega)|exact SV.aq (by push_cast;omega)|exact SV.aq (by dsimp only;omega)|exact SV.imp_eq (by simp)),trivial⟩ trivial trivial (fun _ _=>rfl)) ?_
 rintro⟨i,U0⟩
 try dsimp only
 rcases Nat.lt_or_eq_of_le U0 with hi|hi
 ·
  refine aO ?_
  refine af ?_
  refine RT.lss .none (true) rfl rfl (tl rfl) (by simp;omega) ?_
  refine RT.done ?_
  refine ae.n ?_
  refine aO ?_
  refine cj rfl ?_
  refine aE ?_
  refine ae.n ?_
  refine aO ?_
  refine ak ?_
  refine aO ?_
  refine af ?_
  refine RT.mv .none rfl (tl rfl) ?_
  refine RT.Br .none rfl (tl rfl) ?_
  refine RT.done ?_
  refine ae.n ?_
  refine aO ?_
  refine af ?_
  refine RT.mv .none rfl (tl rfl) ?_
  refine RT.mv .none rfl (tl rfl) ?_
  refine RT.yield .none hr rfl (fun _ h=>h) rfl (i) rfl rfl (by omega) (by exact⟨rfl,trivial⟩) (tl rfl) (fun yb=>?_)
  cases yb
  ·
   refine RT.not .none rfl (tl rfl) true rfl ?_
   refine RT.done ?_
   refine ae.n ?_
   refine cj rfl ?_
   refine aj ?_
   refine aG.r ?_
   refine ae.r ?_
   refine ae.r ?_
   refine aG.r ?_
   exact⟨.inr rfl,(fun h=>by cases h)⟩
  ·
   refine RT.not .none rfl (tl rfl) false rfl ?_
   refine RT.done ?_
   refine ae.n ?_
   refine dM rfl ?_
   refine aE ?_
   refine aG.n ?_
   refine ae.n ?_
   refine af ?_
   refine RT.add .none (((i:Nat):Int)+1) rfl rfl (tl rfl) (lG (by omega)) ?_
   refine RT.mv .none rfl (tl rfl) ?_
   refine RT.done ?_
   refine ae.n ?_
   refine⟨⟨i+1,by omega⟩,(by dsimp only;omega),?_⟩
   try dsimp only
   exact cH id rfl rfl rfl rfl rfl ⟨.sv (by first|exact SV.aa _|exact SV.aq (by omega)|exact SV.aq (by push_cast;omega)|exact SV.aq (by dsimp only;omega)|exact SV.imp_eq (by simp)),.sv (by first|exact SV.aa _|exact SV.aq (by omega)|exact SV.aq (by push_cast;omega)|exact SV.aq (by dsimp only;omega)|exact SV.imp_eq (by simp)),.sv (by first|exact SV.aa _|exact SV.aq (by omega)|exact SV.aq (by push_cast;omega)|exact SV.aq (by dsimp only;omega)|exact SV.imp_eq (by simp)),.sv (by first|exact SV.aa _|exact SV.aq (by omega)|exact SV.aq (by push_cast;omega)|exact SV.aq (by dsimp only;omega)|exact SV.imp_eq (by simp)),trivial⟩ trivial trivial (fun _ _=>rfl)
 ·
  subst hi
  refine aO ?_
  refine af ?_
  refine RT.lss .none (false) rfl rfl (tl rfl) (by simp;omega) ?_
  refine RT.done ?_
  refine ae.n ?_
  refine aO ?_
  refine dM rfl ?_
  refine aZ ?_
  refine ae.x ?_
  refine ae.x ?_
  refine aG.x ?_
  exact⟨.inl rfl,(fun _=>rfl)⟩
theorem CT{x0:Tb}{r:Bool}(h:gW x0=some r):Pure Tryz.prog 42 [ref (rJ x0)] (.v (.bool r)):=by
 obtain⟨aB,aC,aJ,aL,b9⟩:=x0
 refine ay Tryz.func42 rfl (Nat.le_of_ble_eq_true rfl) (fun cG M vs hvs=>?_)
 unfold gW at h
 refine sr<|RT.vG .none (s:=.sv _) rfl T rfl rfl<|al (cs:=[.v (.bool false)]) (by exact⟨SV.aa _,trivial⟩) rfl<|dn<|qq<|sr<|lV rfl rfl rfl<|bE h fun x5 h5 h=>cl (cQ h5) ⟨rfl,trivial⟩<|dn ?_
 cases x5
 refine fs<|qq<|sr<|lV rfl rfl rfl<|cl (uN ⟨aB,aC,aJ,aL,b9⟩) ⟨rfl,trivial⟩<|dn<|ak<|bE (F h) fun e3 Us We=>?_
 obtain⟨m3,st3,hs3,ht3,hn3⟩:=D8 Us
 refine qj (uO ⟨aB,aC,aJ,aL,b9⟩) (fun _ _ _ _ _=>trivial) rfl (fun k=>AS.bG 14 [(1,.ptr 1 0),(2,.ptr 2 0),(7,.sv (gS 114 [ref [ref [.v (.bool aB),.v (.int .i64 aC),slc 1 (List.map (eS 4 eQ) aJ),slc 1 (List.map bT aL),slc 1 (List.map (eS 4 eQ) b9)]]]))] [(2,⟨4,[.sv (.v (.bool false))]⟩),(1,⟨30,[.sv (ref [.v (.bool aB),.v (.int .i64 aC),slc 1 (List.map (eS 4 eQ) aJ),slc 1 (List.map bT aL),slc 1 (List.map (eS 4 eQ) b9)])]⟩)] []) [2,1] rfl (fun _=>⟨rfl,rfl⟩) (mK rfl) (fun _=>rfl) (mL rfl) (by(try dsimp only);(try dsimp only);exact cH id rfl rfl rfl rfl rfl ⟨.ptr,.ptr,.sv (SV.aa _),trivial⟩ ⟨⟨_,rfl,⟨.sv (SV.aa _),trivial⟩⟩,⟨_,rfl,⟨.sv (SV.aa _),trivial⟩⟩,trivial⟩ trivial (fun _ _=>rfl)) m3 (fun k hk hkm D hD=>?_) (fun hdn=>?_)
 obtain⟨y3,h,hG3,hE3⟩:=ht3 k hk hkm
 dsimp only[AS.IT,n8]
 try dsimp only at h
 refine lE h fun p8 hp8 h=>?_
 rw[hp8]
 refine af<|ag rfl<|RT.done ?_
 refine ae.n ⟨rfl,?_⟩
 dsimp only[AS.wL]
 refine ak<|sr<|lV rfl rfl rfl<|mv rfl<|bE h fun gU mB h=>cl (xk mB) ⟨rfl,rfl,trivial⟩<|bE h fun dB eI h=>cl (Hl eI) ⟨rfl,trivial⟩<|lE h fun fB fT h=>ls _ rfl rfl fT<|dn ?_
 cases fB
 refine cF<|aE<|aG.n ?_
 obtain rfl:=O (F h)
 obtain⟨hm3,hq3⟩:=hG3 _ rfl
 exact⟨hm3,rfl,rfl,wR []⟩
 refine cT<|sr<|RT.oF (cells:=[_]) .none (s:=.sv _) rfl rfl rfl T rfl<|dn<|aj<|aG.r ?_
 obtain rfl:=O (V h)
 have he3:=hE3 _ rfl
 subst he3
 refine⟨rfl,rfl,?_⟩
 refine aG.r<|ae.r ?_
 obtain rfl:=O We
 exact RZ (.one rfl rfl rfl (.nil))
 have hd3:=hn3 hdn
 subst hd3
 obtain⟨ee3,Wg⟩:∃q,st3 ((IntKind.i64.wrap (Tb.vars ⟨aB,aC,aJ,aL,b9⟩+((Tb.rows ⟨aB,aC,aJ,aL,b9⟩).length:Int))).toNat)=q:=⟨_,rfl⟩
 rw[Wg]at We
 try dsimp only
 refine aG.n<|ae.n<|sr<|RT.oF (cells:=[_]) .none (s:=.sv _) rfl rfl rfl T rfl<|dn<|aj ?_
 obtain rfl:=O We
 exact RZ (.one rfl rfl rfl (.nil))
 refine cT<|sr<|RT.oF (cells:=[_]) .none (s:=.sv _) rfl rfl rfl T rfl<|dn<|aj<|ae.r ?_
 obtain rfl:=O (V h)
 exact RZ (.one rfl rfl rfl (.nil))
theorem vQ{x0:Tb}(N:Nat){r:List (List Qr)}(h:eK x0=some r):cJ Tryz.prog 20 N [ref (rJ x0)] (nw N (slc 1 (List.map (fS N 4 (fQ N)) r))):=by
 obtain⟨aB,aC,aJ,aL,b9⟩:=x0
 refine aN Tryz.func20 rfl (Nat.le_of_ble_eq_true rfl) (fun cG M vs hN hvs=>?_)
 unfold eK at h
 refine sr<|RT.vG .none (s:=.sv _) rfl T rfl rfl<|aI rfl (aA (N:=N) (n:=1) (e:=(fS N 4 (fQ N))))<|dn<|qq<|sr<|lV rfl rfl rfl<|bE h fun x6 h6 h=>cl (cQ h6) ⟨rfl,trivial⟩<|dn ?_
 cases x6
 refine fs<|sr<|RT.alloc .none T rfl rfl<|dn<|bh (qE 3 0 302 23 1 rfl rfl rfl T)<|qq<|sr<|lV rfl rfl rfl<|cl (uN ⟨aB,aC,aJ,aL,b9⟩) ⟨rfl,trivial⟩<|dn<|ak<|bE (F h) fun mS Ob Od=>?_
 obtain⟨Hj,Oe,Of,Og⟩:=gA Ob
 refine dX (uO ⟨aB,aC,aJ,aL,b9⟩) (fun _ _ _ _ _=>trivial) rfl (fun k=>AS.bG 17 [(1,.ptr 1 0),(3,.ptr 3 0),(8,.sv (gS 114 [ref [ref [.v (.bool aB),.v (.int .i64 aC),slc 1 (List.map (eS 4 eQ) aJ),slc 1 (List.map bT aL),slc 1 (List.map (eS 4 eQ) b9)]]]))] [(3,⟨22,[.row 304]⟩),(1,⟨30,[.sv (ref [.v (.bool aB),.v (.int .i64 aC),slc 1 (List.map (eS 4 eQ) aJ),slc 1 (List.map bT aL),slc 1 (List.map (eS 4 eQ) b9)])]⟩)] [(304,TR 23 1 (fS N 4 (fQ N)) (Hj k))]) [3,1] rfl (fun _=>⟨rfl,rfl⟩) (mK rfl) (fun _=>rfl) (mL rfl) (by(try dsimp only);rw[Oe];(try dsimp only);exact cH (fun i=>bif Nat.beq i 304 then 302 else i) rfl rfl rfl rfl rfl ⟨.ptr,.ptr,.sv (SV.aa _),trivial⟩ ⟨⟨_,rfl,⟨.row rfl,trivial⟩⟩,⟨_,rfl,⟨.sv (SV.aa _),trivial⟩⟩,trivial⟩ ⟨⟨_,rfl,bQ.refl _⟩,trivial⟩ (fun i hi=>by rw[bH (show i≠304 by omega)];rfl)) (fun k hk D hD=>?_) ?_
 have h:=Of k hk
 obtain⟨mS,DC⟩:∃q,Hj k=q:=⟨_,rfl⟩
 rw[DC]at h⊢
 dsimp only[AS.IT,n8]
 try dsimp only at h
 refine lE h fun p9 hp9 h=>?_
 rw[hp9]
 refine af<|ag rfl<|RT.done ?_
 refine ae.n ⟨rfl,?_⟩
 dsimp only[AS.wL]
 refine ak<|ai mixed<|RT.dN .none (s:=.row _) rfl rfl rfl T<|lV rfl rfl rfl<|mv rfl<|bE h fun fB fT h=>RT.aX .none (o6 N fT) (Nat.le_trans hN hD) rfl ⟨rfl,rfl,trivial⟩ T<|bl (l:=[fB]) (e:=(fS N 4 (fQ N))) (.one rfl (.nil)) rfl rfl rfl rfl rfl rfl<|bE h fun dA fE h=>aR (k:=[fB]) (e:=(fS N 4 (fQ N))) rfl rfl rfl fE<|RT.gR (cells:=[_]) .none rfl rfl rfl rfl T rfl ?_
 refine RT.done ⟨by kernel_rfl,?_⟩
 refine aG.n ?_
 replace h:=Option.some.inj h
 refine⟨trivial,rfl,rfl,?_⟩
 try dsimp only
 rw[←h]
 try dsimp only
 exact cH (fun i=>bif Nat.beq i 304 then 15 else i) rfl rfl rfl rfl rfl ⟨.ptr,.ptr,.sv (SV.aa _),trivial⟩ ⟨⟨_,rfl,⟨.row rfl,trivial⟩⟩,⟨_,rfl,⟨.sv (SV.aa _),trivial⟩⟩,trivial⟩ ⟨⟨_,rfl,bQ.refl _⟩,trivial⟩ (fun i hi=>by rw[bH (show i≠304 by omega)];rfl)
 rw[Og]
 try dsimp only
 refine aG.n<|ae.n<|sr<|RT.dN .none (s:=.row _) rfl rfl rfl T<|an (s:=.row _) rfl<|dn<|iM (i:=304) (E1:=23) (n:=1) (e:=(fS N 4 (fQ N))) (l:=mS) hN (fun _ h=>h) rfl<|aj ?_
 obtain rfl:=O Od
 exact R1 rfl
 refine cT<|sr<|aI rfl (aA (N:=N) (n:=1) (e:=(fS N 4 (fQ N))))<|dn<|aj<|ae.r ?_
 obtain rfl:=O (V h)
 exact R1 rfl
theorem CU{o0:Bool}{o1:Int}{o2:List (List Qr)}{o3:List Int}{o4:List (List Qr)}{r:Bool}(h:bV (⟨o0,o1,o2,o3,o4⟩:Tb)=some r):zA Tryz.prog 57 [.ptr 1000 0] 79 [.s (.v (.bool o0)),.s (.v (.int .i64 o1)),.r (TR 23 1 (eS 4 eQ) o2),.r (TR 3 1 bT o3),.r (TR 23 1 (eS 4 eQ) o4)] (.v (.bool r)):=dz (cells:=rJ (⟨o0,o1,o2,o3,o4⟩:Tb)) (r:=fun N=>.v (.bool r)) (fun N=>by exact nf (cQ h) N) rfl ⟨⟨SV.aa _,fun _ _ q=>One.h _ _ q⟩,⟨SV.aa _,fun _ _ q=>One.h _ _ q⟩,cw,cw,cw,trivial⟩ Kc
theorem FU{o0:Bool}{o1:Int}{o2:List (List Qr)}{o3:List Int}{o4:List (List Qr)}{r:Int}(h:ew (⟨o0,o1,o2,o3,o4⟩:Tb)=some r):zA Tryz.prog 58 [.ptr 1000 0] 79 [.s (.v (.bool o0)),.s (.v (.int .i64 o1)),.r (TR 23 1 (eS 4 eQ) o2),.r (TR 3 1 bT o3),.r (TR 23 1 (eS 4 eQ) o4)] (.v (.int .i64 r)):=dz (cells:=rJ (⟨o0,o1,o2,o3,o4⟩:Tb)) (r:=fun N=>.v (.int .i64 r)) (fun N=>by exact nf (iN h) N) rfl ⟨⟨SV.aa _,fun _ _ q=>One.h _ _ q⟩,⟨SV.aa _,fun _ _ q=>One.h _ _ q⟩,cw,cw,cw,trivial⟩ Kc
theorem FV{o0:Bool}{o1:Int}{o2:List (List Qr)}{o3:List Int}{o4:List (List Qr)}{r:List Int}(h:jS (⟨o0,o1,o2,o3,o4⟩:Tb)=some r):zA Tryz.prog 17 [.ptr 1000 0] 79 [.s (.v (.bool o0)),.s (.v (.int .i64 o1)),.r (TR 23 1 (eS 4 eQ) o2),.r (TR 3 1 bT o3),.r (TR 23 1 (eS 4 eQ) o4)] (slc 1 (List.map bT r)):=dz (cells:=rJ (⟨o0,o1,o2,o3,o4⟩:Tb)) (r:=fun N=>nw N (slc 1 (List.map bT r))) (fun N=>by exact FP N h) rfl ⟨⟨SV.aa _,fun _ _ q=>One.h _ _ q⟩,⟨SV.aa _,fun _ _ q=>One.h _ _ q⟩,cw,cw,cw,trivial⟩ Wv
theorem sB{o0:Bool}{o1:Int}{o2:List (List Qr)}{o3:List Int}{o4:List (List Qr)}{r:List Qr}(h:fo (⟨o0,o1,o2,o3,o4⟩:Tb)=some r):zA Tryz.prog 19 [.ptr 1000 0] 79 [.s (.v (.bool o0)),.s (.v (.int .i64 o1)),.r (TR 23 1 (eS 4 eQ) o2),.r (TR 3 1 bT o3),.r (TR 23 1 (eS 4 eQ) o4)] (slc 4 (List.map eQ r)):=dz (cells:=rJ (⟨o0,o1,o2,o3,o4⟩:Tb)) (r:=fun N=>nw N (slc 4 (List.map (fQ N) r))) (fun N=>by exact xj N h) rfl ⟨⟨SV.aa _,fun _ _ q=>One.h _ _ q⟩,⟨SV.aa _,fun _ _ q=>One.h _ _ q⟩,cw,cw,cw,trivial⟩ A4
theorem xl{o0:Bool}{o1:Int}{o2:List (List Qr)}{o3:List Int}{o4:List (List Qr)}{x1:Int}{r:List Qr}(h:cE (⟨o0,o1,o2,o3,o4⟩:Tb) x1=some r):zA Tryz.prog 28 [.ptr 1000 0,.sv (.v (.int .i64 x1))] 79 [.s (.v (.bool o0)),.s (.v (.int .i64 o1)),.r (TR 23 1 (eS 4 eQ) o2),.r (TR 3 1 bT o3),.r (TR 23 1 (eS 4 eQ) o4)] (slc 4 (List.map eQ r)):=dz (cells:=rJ (⟨o0,o1,o2,o3,o4⟩:Tb)) (r:=fun N=>nw N (slc 4 (List.map (fQ N) r))) (fun N=>by exact o6 N h) rfl ⟨⟨SV.aa _,fun _ _ q=>One.h _ _ q⟩,⟨SV.aa _,fun _ _ q=>One.h _ _ q⟩,cw,cw,cw,trivial⟩ A4
theorem sD{o0:Bool}{o1:Int}{o2:List (List Qr)}{o3:List Int}{o4:List (List Qr)}{r:List Qr}(h:iB (⟨o0,o1,o2,o3,o4⟩:Tb)=some r):zA Tryz.prog 38 [.ptr 1000 0] 79 [.s (.v (.bool o0)),.s (.v (.int .i64 o1)),.r (TR 23 1 (eS 4 eQ) o2),.r (TR 3 1 bT o3),.r (TR 23 1 (eS 4 eQ) o4)] (slc 4 (List.map eQ r)):=dz (cells:=rJ (⟨o0,o1,o2,o3,o4⟩:Tb)) (r:=fun N=>nw N (slc 4 (List.map (fQ N) r))) (fun N=>by exact FR N h) rfl ⟨⟨SV.aa _,fun _ _ q=>One.h _ _ q⟩,⟨SV.aa _,fun _ _ q=>One.h _ _ q⟩,cw,cw,cw,trivial⟩ A4
theorem AF{o0:Bool}{o1:Int}{o2:List (List Qr)}{o3:List Int}{o4:List (List Qr)}{r:List Qr}(h:ir (⟨o0,o1,o2,o3,o4⟩:Tb)=some r):zA Tryz.prog 21 [.ptr 1000 0] 79 [.s (.v (.bool o0)),.s (.v (.int .i64 o1)),.r (TR 23 1 (eS 4 eQ) o2),.r (TR 3 1 bT o3),.r (TR 23 1 (eS 4 eQ) o4)] (slc 4 (List.map eQ r)):=dz (cells:=rJ (⟨o0,o1,o2,o3,o4⟩:Tb)) (r:=fun N=>nw N (slc 4 (List.map (fQ N) r))) (fun N=>by exact AD N h) rfl ⟨⟨SV.aa _,fun _ _ q=>One.h _ _ q⟩,⟨SV.aa _,fun _ _ q=>One.h _ _ q⟩,cw,cw,cw,trivial⟩ A4
theorem AG{o0:Bool}{o1:Int}{o2:List (List Qr)}{o3:List Int}{o4:List (List Qr)}{r:Bool}(h:iu (⟨o0,o1,o2,o3,o4⟩:Tb)=some r):zA Tryz.prog 35 [.ptr 1000 0] 79 [.s (.v (.bool o0)),.s (.v (.int .i64 o1)),.r (TR 23 1 (eS 4 eQ) o2),.r (TR 3 1 bT o3),.r (TR 23 1 (eS 4 eQ) o4)] (.v (.bool r)):=dz (cells:=rJ (⟨o0,o1,o2,o3,o4⟩:Tb)) (r:=fun N=>.v (.bool r)) (fun N=>by exact nf (AE h) N) rfl ⟨⟨SV.aa _,fun _ _ q=>One.h _ _ q⟩,⟨SV.aa _,fun _ _ q=>One.h _ _ q⟩,cw,cw,cw,trivial⟩ Kc
theorem uP{o0:Bool}{o1:Int}{o2:List (List Qr)}{o3:List Int}{o4:List (List Qr)}{r:Bool}(h:gW (⟨o0,o1,o2,o3,o4⟩:Tb)=some r):zA Tryz.prog 42 [.ptr 1000 0] 79 [.s (.v (.bool o0)),.s (.v (.int .i64 o1)),.r (TR 23 1 (eS 4 eQ) o2),.r (TR 3 1 bT o3),.r (TR 23 1 (eS 4 eQ) o4)] (.v (.bool r)):=dz (cells:=rJ (⟨o0,o1,o2,o3,o4⟩:Tb)) (r:=fun N=>.v (.bool r)) (fun N=>by exact nf (CT h) N) rfl ⟨⟨SV.aa _,fun _ _ q=>One.h _ _ q⟩,⟨SV.aa _,fun _ _ q=>One.h _ _ q⟩,cw,cw,cw,trivial⟩ Kc
theorem HN{o0:Bool}{o1:Int}{o2:List (List Qr)}{o3:List Int}{o4:List (List Qr)}{r:List (List Qr)}(h:mW (⟨o0,o1,o2,o3,o4⟩:Tb)=some r):zA Tryz.prog 18 [.ptr 1000 0] 79 [.s (.v (.bool o0)),.s (.v (.int .i64 o1)),.r (TR 23 1 (eS 4 eQ) o2),.r (TR 3 1 bT o3),.r (TR 23 1 (eS 4 eQ) o4)] (slc 1 (List.map (eS 4 eQ) r)):=dz (cells:=rJ (⟨o0,o1,o2,o3,o4⟩:Tb)) (r:=fun N=>nw N (slc 1 (List.map (fS N 4 (fQ N)) r))) (fun N=>by exact HM N h) rfl ⟨⟨SV.aa _,fun _ _ q=>One.h _ _ q⟩,⟨SV.aa _,fun _ _ q=>One.h _ _ q⟩,cw,cw,cw,trivial⟩ Hz
theorem vR{o0:Bool}{o1:Int}{o2:List (List Qr)}{o3:List Int}{o4:List (List Qr)}{r:List (List Qr)}(h:eK (⟨o0,o1,o2,o3,o4⟩:Tb)=some r):zA Tryz.prog 20 [.ptr 1000 0] 79 [.s (.v (.bool o0)),.s (.v (.int .i64 o1)),.r (TR 23 1 (eS 4 eQ) o2),.r (TR 3 1 bT o3),.r (TR 23 1 (eS 4 eQ) o4)] (slc 1 (List.map (eS 4 eQ) r)):=dz (cells:=rJ (⟨o0,o1,o2,o3,o4⟩:Tb)) (r:=fun N=>nw N (slc 1 (List.map (fS N 4 (fQ N)) r))) (fun N=>by exact vQ N h) rfl ⟨⟨SV.aa _,fun _ _ q=>One.h _ _ q⟩,⟨SV.aa _,fun _ _ q=>One.h _ _ q⟩,cw,cw,cw,trivial⟩ Hz
end Go.Proofs.YtningmnklfpfjaaGreat
namespace Go.Proofs.YtningmnklfpfjaaGreat
open Go.Fw Go.Fw.Z Go.RowKit
set_option maxHeartbeats 4000000 in
theorem mG{x0:Lr}{r:Bool×Int×(List (List Qr))×(List Int)×(List (List Qr))}(h:dQ x0=some r):Lq Tryz.prog 56 [.agg (Gm x0)] false [] 79 [.s (.v (.bool r.1)),.s (.v (.int .i64 r.2.1)),.r (TR 23 1 (eS 4 eQ) r.2.2.1),.r (TR 3 1 bT r.2.2.2.1),.r (TR 23 1 (eS 4 eQ) r.2.2.2.2)]:=by
 obtain⟨aB,aC,aJ,aL⟩:=x0
 refine Hs Tryz.func56 rfl (Nat.le_of_ble_eq_true rfl) (fun cG M vs hvs=>?_)
 unfold dQ at h
 refine sr<|bx rfl<|ag rfl<|dn<|sr<|fa rfl rfl<|lV rfl rfl rfl<|bI (cs:=[_,_,_,_,_]) (cs':=[.v (.bool true),.v (.int .i64 aB),.v (.slice none 0 0),.v (.slice none 0 0),.v (.slice none 0 0)]) (.one rfl (.one rfl (.nil))) ⟨SV.aa _,SV.aa _,SV.aa _,SV.aa _,SV.aa _,trivial⟩<|bx rfl<|an (s:=.ptr _ _) rfl<|dn<|bh (qE 12 2 304 23 1 rfl rfl rfl T)<|bh (qE 12 3 305 3 1 rfl rfl rfl T) ?_
 refine bh (qE 12 4 306 23 1 rfl rfl rfl T)<|qq<|sr<|fa rfl rfl<|lV rfl rfl rfl<|lE h fun dA fE h=>ln rfl fE<|mv rfl<|dn<|bE h fun e6 Dy iS=>?_
 refine aV (fun(qt:(List (List Qr)))=>AS.bG 105 [(1,.ptr 1 0),(3,.ptr 12 0)] [(12,⟨79,[.sv (.v (.bool true)),.sv (.v (.int .i64 aB)),.row 308,.row 305,.row 306]⟩),(1,⟨25,[.sv (.v (.int .i64 aB)),.sv (slc 1 (List.map (eS 4 eQ) aC)),.sv (slc 1 (List.map (eS 4 eQ) aJ)),.sv (slc 4 (List.map eQ aL))]⟩)] [(308,TR 23 1 (eS 4 eQ) qt),(305,TR 3 1 bT []),(306,TR 23 1 (eS 4 eQ) [])]) (fun qt=>qt=e6) ?_ (fun qt Dz=>?_)
 refine ak ?_
 refine aW Dy (fun s6=>AS.bG 105 [(1,.ptr 1 0),(3,.ptr 12 0),(14,.sv (slc 1 (List.map (eS 4 eQ) aC))),(15,.sv (.v (.int .i64 dA))),(16,.sv (.v (.int .i64 s6.1)))] [(12,⟨79,[.sv (.v (.bool true)),.sv (.v (.int .i64 aB)),.row 308,.row 305,.row 306]⟩),(1,⟨25,[.sv (.v (.int .i64 aB)),.sv (slc 1 (List.map (eS 4 eQ) aC)),.sv (slc 1 (List.map (eS 4 eQ) aJ)),.sv (slc 4 (List.map eQ aL))]⟩)] [(308,TR 23 1 (eS 4 eQ) s6.2),(305,TR 3 1 bT []),(306,TR 23 1 (eS 4 eQ) [])]) (cH (fun i=>bif Nat.beq i 308 then 304 else i) rfl rfl rfl rfl rfl ⟨.ptr,.ptr,.sv (SV.aa _),.sv (SV.aa _),.sv (SV.aa _),trivial⟩ ⟨⟨_,rfl,⟨.sv (SV.aa _),.sv (SV.aa _),.row rfl,.row rfl,.row rfl,trivial⟩⟩,⟨_,rfl,⟨.sv (SV.aa _),.sv (SV.aa _),.sv (SV.aa _),.sv (SV.aa _),trivial⟩⟩,trivial⟩ ⟨⟨_,rfl,bQ.refl _⟩,⟨_,rfl,bQ.refl _⟩,⟨_,rfl,bQ.refl _⟩,trivial⟩ (fun i hi=>by rw[bH (show i≠308 by omega)];rfl)) (fun s6 y6 G6 h DA y7=>?_)
 obtain⟨Ki,FK⟩:=s6
 try dsimp only
 refine sr<|lE h fun eT jD h=>ls _ rfl rfl jD<|dn<|qq ?_
 cases eT
 refine cF<|aZ<|ae.x<|ae.x<|aG.x<|ae.n ?_
 obtain rfl:=O (F h)
 exact⟨FK,y7 _ rfl,wR []⟩
 refine cT<|aE<|ae.n<|qq<|ak<|sr<|bE (V h) fun ek gV h=>ix rfl rfl gV<|lr rfl rfl<|ag rfl<|dn<|ai mixed<|mo (s:=.ptr _ _) rfl<|mo (s:=.ptr _ _) rfl<|RT.ei .none rfl T<|fa rfl rfl<|RT.dN .none (s:=.row _) rfl rfl rfl T<|mv rfl<|fa rfl rfl<|lV rfl rfl rfl<|bE h fun mN rY h=>cl (wv rY) ⟨rfl,rfl,trivial⟩<|bl (l:=[mN]) (e:=(eS 4 eQ)) (.one rfl (.nil)) rfl rfl rfl rfl rfl rfl ?_
 refine bE h fun yW wV h=>aR (k:=[mN]) (e:=(eS 4 eQ)) rfl rfl rfl wV<|RT.ei .none rfl T<|fa rfl rfl<|RT.gR (cells:=[_,_,_,_,_]) .none rfl rfl rfl rfl T rfl ?_
 refine RT.done ⟨by kernel_rfl,?_⟩
 refine aG.n<|ae.n<|af<|lE h fun rS rZ h=>ad _ rfl rfl rZ<|mv rfl<|RT.done ?_
 obtain rfl:=O h
 exact ae.n ⟨(rS,yW),DA _ rfl,cH (fun i=>bif Nat.beq i 308 then 30 else i) rfl rfl rfl rfl rfl ⟨.ptr,.ptr,.sv (SV.aa _),.sv (SV.aa _),.sv (SV.aa _),trivial⟩ ⟨⟨_,rfl,⟨.sv (SV.aa _),.sv (SV.aa _),.row rfl,.row rfl,.row rfl,trivial⟩⟩,⟨_,rfl,⟨.sv (SV.aa _),.sv (SV.aa _),.sv (SV.aa _),.sv (SV.aa _),trivial⟩⟩,trivial⟩ ⟨⟨_,rfl,bQ.refl _⟩,⟨_,rfl,bQ.refl _⟩,⟨_,rfl,bQ.refl _⟩,trivial⟩ (fun i hi=>by rw[bH (show i≠308 by omega)];rfl)⟩
 subst Dz
 try dsimp only
 refine ae.n<|qq<|sr<|fa rfl rfl<|lV rfl rfl rfl<|lE iS fun oC pL iS=>ln rfl pL<|mv rfl<|dn<|bE iS fun e30 aeb aec=>?_
 refine aV (fun(Lw:(List Int)×(List (List Qr)))=>AS.bG 105 [(3,.ptr 12 0)] [(12,⟨79,[.sv (.v (.bool true)),.sv (.v (.int .i64 aB)),.row 308,.row 312,.row 313]⟩)] [(308,TR 23 1 (eS 4 eQ) qt),(312,TR 3 1 bT Lw.1),(313,TR 23 1 (eS 4 eQ) Lw.2)]) (fun Lw=>Lw=e30) ?_ (fun Lw aed=>?_)
 refine ak ?_
 refine aW aeb (fun Wz=>AS.bG 105 [(1,.ptr 1 0),(3,.ptr 12 0),(36,.sv (.v (.int .i64 oC))),(37,.sv (.v (.int .i64 Wz.1)))] [(12,⟨79,[.sv (.v (.bool true)),.sv (.v (.int .i64 aB)),.row 308,.row 312,.row 313]⟩),(1,⟨25,[.sv (.v (.int .i64 aB)),.sv (slc 1 (List.map (eS 4 eQ) aC)),.sv (slc 1 (List.map (eS 4 eQ) aJ)),.sv (slc 4 (List.map eQ aL))]⟩)] [(308,TR 23 1 (eS 4 eQ) qt),(312,TR 3 1 bT Wz.2.1),(313,TR 23 1 (eS 4 eQ) Wz.2.2)]) (cH (fun i=>bif Nat.beq i 312 then 305 else bif Nat.beq i 313 then 306 else i) rfl rfl rfl rfl rfl ⟨.ptr,.ptr,.sv (SV.aa _),.sv (SV.aa _),trivial⟩ ⟨⟨_,rfl,⟨.sv (SV.aa _),.sv (SV.aa _),.row rfl,.row rfl,.row rfl,trivial⟩⟩,⟨_,rfl,⟨.sv (SV.aa _),.sv (SV.aa _),.sv (SV.aa _),.sv (SV.aa _),trivial⟩⟩,trivial⟩ ⟨⟨_,rfl,bQ.refl _⟩,⟨_,rfl,bQ.refl _⟩,⟨_,rfl,bQ.refl _⟩,trivial⟩ (fun i hi=>by rw[bH (show i≠312 by omega)];rw[bH (show i≠313 by omega)];rfl)) (fun Wz y30 G30 h aee aef=>?_)
 obtain⟨o5,vu,vv⟩:=Wz
 try dsimp only
 refine sr<|lE h fun Al GS h=>ls _ rfl rfl GS<|dn<|qq ?_
 cases Al
 refine cF<|aZ<|ae.x<|ae.x<|aG.x<|ae.n ?_
 obtain rfl:=O (F h)
 exact⟨(vu,vv),aef _ rfl,wR []⟩
 refine cT<|aE<|ae.n<|qq<|ak<|sr<|mv rfl<|ag rfl<|dn<|sr<|fa rfl rfl<|lV rfl rfl rfl<|fa rfl rfl<|lV rfl rfl rfl<|lE (V h) fun vJ zh h=>ln rfl zh<|lE h fun Di I1 h=>ad _ rfl rfl I1<|lE h fun vp h46 h=>ad _ rfl rfl h46<|bE h fun tQ wW h=>RT.jy (n:=4) (e:=eQ) .none rfl rfl T rfl T (by rfl) (by decide) (by exact⟨SV.aa _,imp_nil,SV.aa _,imp_nil,trivial⟩) wW ?_
 refine an (s:=.row _) rfl<|dn<|qq<|sr<|fa rfl rfl<|lV rfl rfl rfl<|mv rfl<|dn<|bE h fun UB Nu eD=>?_
 refine aV (fun(xh:(List Qr))=>AS.bG 105 [(1,.ptr 1 0),(3,.ptr 12 0),(6,.sv (.v (.int .i64 o5))),(7,.row 47),(36,.sv (.v (.int .i64 oC))),(37,.sv (.v (.int .i64 o5)))] [(12,⟨79,[.sv (.v (.bool true)),.sv (.v (.int .i64 aB)),.row 308,.row 312,.row 313]⟩),(1,⟨25,[.sv (.v (.int .i64 aB)),.sv (slc 1 (List.map (eS 4 eQ) aC)),.sv (slc 1 (List.map (eS 4 eQ) aJ)),.sv (slc 4 (List.map eQ aL))]⟩)] [(47,TR 43 4 eQ xh),(308,TR 23 1 (eS 4 eQ) qt),(312,TR 3 1 bT vu),(313,TR 23 1 (eS 4 eQ) vv)]) (fun xh=>xh=UB) ?_ (fun xh Nv=>?_)
 refine ak ?_
 refine aW Nu (fun Ea=>AS.bG 105 [(1,.ptr 1 0),(3,.ptr 12 0),(6,.sv (.v (.int .i64 o5))),(7,.row 47),(36,.sv (.v (.int .i64 oC))),(37,.sv (.v (.int .i64 o5))),(49,.sv (.v (.int .i64 aB))),(50,.sv (.v (.int .i64 Ea.1)))] [(12,⟨79,[.sv (.v (.bool true)),.sv (.v (.int .i64 aB)),.row 308,.row 312,.row 313]⟩),(1,⟨25,[.sv (.v (.int .i64 aB)),.sv (slc 1 (List.map (eS 4 eQ) aC)),.sv (slc 1 (List.map (eS 4 eQ) aJ)),.sv (slc 4 (List.map eQ aL))]⟩)] [(47,TR 43 4 eQ Ea.2),(308,TR 23 1 (eS 4 eQ) qt),(312,TR 3 1 bT vu),(313,TR 23 1 (eS 4 eQ) vv)]) (wR []) (fun Ea y38 G38 h Nw Nx=>?_)
 obtain⟨CQ,CR⟩:=Ea
 try dsimp only
 refine sr<|lE h fun BF DE h=>ls _ rfl rfl DE<|dn<|qq ?_
 cases BF
 refine cF<|aZ<|ae.x<|ae.x<|aG.x<|ae.n ?_
 obtain rfl:=O (F h)
 exact⟨CR,Nx _ rfl,wR []⟩
 refine cT<|aE<|ae.n<|qq<|ak<|sr<|mv rfl<|ag rfl<|dn<|af<|mo (s:=.row _) rfl<|mv rfl<|fa rfl rfl<|lV rfl rfl rfl<|mv rfl<|mv rfl ?_
 obtain⟨⟨⟨Kj,HL⟩,⟨OL,OM⟩⟩,QX,h⟩:=bS (V h)
 refine cl (Lm QX) ⟨rfl,rfl,rfl,trivial⟩<|bE h fun JX I3 h=>iR rfl rfl rfl I3<|bE h fun Lc Z4 h=>sA ⟨⟨Kj,HL⟩,⟨OL,OM⟩⟩ rfl rfl rfl Z4<|RT.done<|aG.n<|ae.n<|af<|lE h fun Fe NA h=>ad _ rfl rfl NA<|mv rfl<|RT.done ?_
 obtain rfl:=O h
 exact ae.n ⟨(Fe,Lc),Nw _ rfl,wR []⟩
 subst Nv
 try dsimp only
 refine ae.n<|qq<|ai mixed<|mo (s:=.row _) rfl<|fa rfl rfl<|lV rfl rfl rfl<|mv rfl<|lE eD fun L2 Zi eD=>ad _ rfl rfl Zi ?_
 obtain⟨⟨⟨ON,OO⟩,⟨OP,OQ⟩⟩,QZ,eD⟩:=bS eD
 refine cl (gJ QZ) ⟨rfl,trivial⟩<|bE eD fun L3 Zj eD=>iR rfl rfl rfl Zj<|bE eD fun Qd GV eD=>sA ⟨⟨ON,OO⟩,⟨OP,OQ⟩⟩ rfl rfl rfl GV ?_
 refine RT.done ⟨by kernel_rfl,?_⟩
 refine ae.n<|sr<|mo (s:=.row _) rfl<|mo (s:=.row _) rfl<|lE eD fun Tn Z5 eD=>lL rfl rfl Z5<|lE eD fun L4 Vn eD=>sb _ rfl rfl Vn<|fa rfl rfl<|lV rfl rfl rfl<|mv rfl ?_
 obtain⟨⟨⟨To,Tp⟩,⟨Tq,Tr⟩⟩,h76,eD⟩:=bS eD
 refine ix rfl rfl h76<|RT.gD (cs:=[_,_,_,_]) .none rfl T rfl rfl ?_
 obtain⟨⟨⟨OR,OS⟩,⟨OT,OU⟩⟩,h78,eD⟩:=bS eD
 refine cl (fm h78) ⟨rfl,trivial⟩<|bE eD fun Lf Q0 eD=>iR rfl rfl rfl Q0<|bE eD fun ZX Z6 eD=>sA ⟨⟨OR,OS⟩,⟨OT,OU⟩⟩ rfl rfl rfl Z6<|dn<|qq<|bh (c8 (i:=47) (E1:=43) (n:=4) (e:=eQ) (l:=ZX) rfl)<|af<|mo (s:=.ptr _ _) rfl<|mo (s:=.ptr _ _) rfl<|RT.ei .none rfl T<|fa rfl rfl<|RT.dN .none (s:=.row _) rfl rfl rfl T<|mv rfl<|bl (l:=[ZX]) (e:=(eS 4 eQ)) (.one rfl (.nil)) rfl rfl rfl rfl rfl rfl ?_
 refine bE eD fun QO Vp eD=>aR (k:=[ZX]) (e:=(eS 4 eQ)) rfl rfl rfl Vp<|RT.ei .none rfl T<|fa rfl rfl<|RT.gR (cells:=[_,_,_,_,_]) .none rfl rfl rfl rfl T rfl<|dn<|ai mixed<|mo (s:=.ptr _ _) rfl<|mo (s:=.ptr _ _) rfl<|RT.ei .none rfl T<|fa rfl rfl<|RT.dN .none (s:=.row _) rfl rfl rfl T<|fa rfl rfl<|lV rfl rfl rfl<|mv rfl<|lE eD fun WA h98 eD=>ad _ rfl rfl h98 ?_
 refine bl (l:=[WA]) (e:=bT) (.one rfl (.nil)) rfl rfl rfl rfl rfl rfl<|bE eD fun WB aej eD=>aR (k:=[WA]) (e:=bT) rfl rfl rfl aej<|RT.ei .none rfl T<|fa rfl rfl<|RT.gR (cells:=[_,_,_,_,_]) .none rfl rfl rfl rfl T rfl ?_
 refine RT.done ⟨by kernel_rfl,?_⟩
 refine aG.n<|ae.n<|af<|lE eD fun IY NC eD=>ad _ rfl rfl NC<|mv rfl<|RT.done ?_
 obtain rfl:=O eD
 exact ae.n ⟨(IY,WB,QO),aee _ rfl,cH (fun i=>bif Nat.beq i 312 then 100 else bif Nat.beq i 313 then 87 else i) rfl rfl rfl rfl rfl ⟨.ptr,.ptr,.sv (SV.aa _),.sv (SV.aa _),trivial⟩ ⟨⟨_,rfl,⟨.sv (SV.aa _),.sv (SV.aa _),.row rfl,.row rfl,.row rfl,trivial⟩⟩,⟨_,rfl,⟨.sv (SV.aa _),.sv (SV.aa _),.sv (SV.aa _),.sv (SV.aa _),trivial⟩⟩,trivial⟩ ⟨⟨_,rfl,bQ.refl _⟩,⟨_,rfl,bQ.refl _⟩,⟨_,rfl,bQ.refl _⟩,trivial⟩ (fun i hi=>by rw[bH (show i≠312 by omega)];rw[bH (show i≠313 by omega)];rfl)⟩
 subst aed
 obtain⟨Kk,Kl⟩:=Lw
 try dsimp only
 refine ae.n<|sr<|mo (s:=.ptr _ _) rfl<|an (s:=.ptr _ _) rfl<|dn<|aj ?_
 obtain rfl:=O aec
 exact⟨.inr rfl,12,[308,312,313],.tmp rfl,rfl,⟨rfl,rfl,rfl,trivial⟩,by decide⟩
theorem uQ{x0:Lr}{r:Bool×Int×(List (List Qr))×(List Int)×(List (List Qr))}(h:gX x0=some r):Lq Tryz.prog 12 [.agg (Gm x0)] true [.v (.int .i64 0)] 79 [.s (.v (.bool r.1)),.s (.v (.int .i64 r.2.1)),.r (TR 23 1 (eS 4 eQ) r.2.2.1),.r (TR 3 1 bT r.2.2.2.1),.r (TR 23 1 (eS 4 eQ) r.2.2.2.2)]:=by
 obtain⟨aB,aC,aJ,aL⟩:=x0
 refine Ht (t1:=2) (t2:=3) Tryz.func12 rfl (Nat.le_of_ble_eq_true rfl) rfl (fun cG M vs hvs=>?_)
 unfold gX at h
 refine sr<|bx rfl<|ag rfl<|ag rfl<|dn<|qq<|sr<|ld rfl rfl (.cons rfl (.cons rfl (.cons rfl (.cons rfl (.nil)))))<|bE h fun x5 h5 h=>cl (uE h5) ⟨rfl,trivial⟩<|lE h fun x6 h6 h=>nt rfl _ h6<|dn ?_
 cases x6
 refine fs<|sr<|ld rfl rfl (.cons rfl (.cons rfl (.cons rfl (.cons rfl (.nil))))) ?_
 obtain⟨⟨vN,vO,Au,Av,Ri⟩,h8,h⟩:=bS (F h)
 refine RT.On .none (mG h8) [304,305,306] (by decide) rfl ⟨⟨rfl,T⟩,⟨rfl,T⟩,⟨rfl,T⟩,trivial⟩ rfl ⟨rfl,trivial⟩ T rfl rfl<|an (s:=.ptr _ _) rfl<|ag rfl<|dn<|aj ?_
 obtain rfl:=O h
 exact⟨.inr rfl,8,[304,305,306],rfl,rfl,rfl,⟨rfl,rfl,rfl,trivial⟩,by decide⟩
 refine cT<|sr<|ag rfl<|ag rfl<|dn<|aj<|ae.r ?_
 replace h:=V h
 cases h
theorem FW{x0:List Qr}{DI:Qr}{r:List Qr}(h:nJ x0 DI=some r):Pure Tryz.prog 106 [slc 4 (List.map eQ x0),ref (eQ DI)] (slc 4 (List.map eQ r)):=by
 obtain⟨⟨Em,Eo⟩,⟨Ep,Er⟩⟩:=DI
 refine ay Tryz.func106 rfl (Nat.le_of_ble_eq_true rfl) (fun cG M vs hvs=>?_)
 unfold nJ at h
 refine sr<|aI rfl (imp_nil (n:=4) (e:=eQ))<|dn<|sr<|RT.gD (cs:=[_,_,_,_]) .none rfl T rfl rfl<|mv rfl<|bE h fun x6 h6 h=>cl (xY h6) ⟨rfl,rfl,trivial⟩<|ag rfl<|dn<|aj ?_
 obtain rfl:=O h
 exact R1 rfl
theorem DN{o0:Bool}{o1:Int}{o2:List (List Qr)}{o3:List Int}{o4:List (List Qr)}{x0:List Qr}{DI:Int}{c_2:Int}{r:List Qr}(h:ke o0 o1 o2 o3 o4 x0 DI c_2=some r):J9 Tryz.prog 107 (fun β=>[.sv (slc 4 (List.map eQ x0)),.sv (ref [.v (.int .i64 DI)]),.sv (ref [.v (.pointer (some ⟨β,0,none⟩))]),.sv (ref [.v (.int .i64 c_2)])]) 79 [.s (.v (.bool o0)),.s (.v (.int .i64 o1)),.r (TR 23 1 (eS 4 eQ) o2),.r (TR 3 1 bT o3),.r (TR 23 1 (eS 4 eQ) o4)] (fun _ M' _ v=>SV.h (slc 4 (List.map eQ r)) M' v):=by
 refine FI [1001,1002,1003] Tryz.func107 rfl (fun _=>(Nat.le_of_ble_eq_true rfl)) (fun _=>rfl) (by decide) rfl rfl ⟨⟨_,rfl⟩,⟨_,rfl⟩,trivial,trivial,trivial,trivial⟩ (fun cG M β us=>?_)
 unfold ke at h
 refine sr<|aI rfl (imp_nil (n:=4) (e:=eQ))<|dn<|qq<|sr<|mv rfl<|lr rfl rfl ?_
 obtain⟨⟨⟨vN,vO⟩,⟨Au,Av⟩⟩,h8,h⟩:=bS h
 refine ix rfl rfl h8<|RT.gD (cs:=[_,_,_,_]) .none rfl T rfl rfl<|bE h fun dm fD h=>cl (fI fD) ⟨rfl,trivial⟩<|lE h fun gU mB h=>eq _ rfl rfl (vh (p:=dm) (q:=0) mB)<|dn ?_
 cases gU
 refine fs<|qq<|ai mixed<|mv rfl<|lr rfl rfl ?_
 obtain⟨⟨⟨jG,jH⟩,⟨Ek,El⟩⟩,fE,h⟩:=bS (F h)
 refine ix rfl rfl fE<|RT.gD (cs:=[_,_,_,_]) .none rfl T rfl rfl ?_
 obtain⟨⟨⟨kY,kZ⟩,⟨oR,oS⟩⟩,jD,h⟩:=bS h
 refine cl (G9 jD) ⟨rfl,trivial⟩<|RT.zD (k:=1000) .none rfl rfl rfl T<|RT.ei .none rfl T<|fa rfl rfl<|RT.dN .none (s:=.row _) rfl rfl rfl T<|lr rfl rfl<|bE h fun kA qL h=>iR rfl rfl rfl qL<|bE h fun fR kD h=>lR (e:=(eS 4 eQ)) rfl rfl kD rfl<|mv rfl<|bE h fun lI nT h=>cl (mR nT) ⟨rfl,rfl,rfl,trivial⟩<|ag rfl ?_
 refine RT.done ⟨by kernel_rfl,?_⟩
 refine ae.n<|aj ?_
 obtain rfl:=O h
 exact⟨.inr rfl,gE (.tmp rfl (.nil)) (SV.aa _),rfl,⟨rfl,rfl,rfl,trivial⟩⟩
 refine cT<|sr<|mv rfl<|ag rfl<|dn<|aj<|ae.r ?_
 obtain rfl:=O (V h)
 exact⟨.inr rfl,gE (.tmp rfl (.nil)) (SV.aa _),rfl,⟨rfl,rfl,rfl,trivial⟩⟩
set_option maxHeartbeats 4000000 in
theorem ou{o0:Bool}{o1:Int}{o2:List (List Qr)}{o3:List Int}{o4:List (List Qr)}{x1:Int}{x2:Int}{r:(List (List Qr))×(List Int)×(List (List Qr))}(h:c6 o0 o1 o2 o3 o4 x1 x2=some r):Q4 Tryz.prog 60 [.ptr 1000 0,.sv (.v (.int .i64 x1)),.sv (.v (.int .i64 x2))] 79 [.s (.v (.bool o0)),.s (.v (.int .i64 o1)),.r (TR 23 1 (eS 4 eQ) o2),.r (TR 3 1 bT o3),.r (TR 23 1 (eS 4 eQ) o4)] (.any) [.s (.v (.bool o0)),.s (.v (.int .i64 o1)),.r (TR 23 1 (eS 4 eQ) r.1),.r (TR 3 1 bT r.2.1),.r (TR 23 1 (eS 4 eQ) r.2.2)]:=by
 refine CC [1001,1002,1003] Tryz.func60 rfl (Nat.le_of_ble_eq_true rfl) rfl (by decide) rfl (fun cG M β us=>?_)
 unfold c6 at h
 refine sr<|RT.vG .none (s:=.ptr _ _) rfl T rfl rfl<|RT.vG .none (s:=.sv _) rfl T rfl rfl<|RT.vG .none (s:=.sv _) rfl T rfl rfl<|dn<|Rf (i:=3) rfl rfl<|bh (gz (i:=3) rfl [.v (.pointer (some ⟨β,0,none⟩))] (.cons rfl (.nil)) .any 0 [(3,.sv (ref [.v (.pointer (some ⟨β,0,none⟩))]))] (fun _ _ _=>trivial) (qy.h (l:=[.v (.pointer (some ⟨β,0,none⟩))])) ⟨@FT.ptr _ _ _ _ _ 3 0 rfl,trivial⟩)<|bh (gz (i:=4) rfl [.v (.int .i64 x1)] (.cons rfl (.nil)) .any 0 [(4,.sv (ref [.v (.int .i64 x1)]))] (fun _ _ _=>trivial) (qy.h (l:=[.v (.int .i64 x1)])) ⟨@FT.ptr _ _ _ _ _ 4 0 rfl,trivial⟩) ?_
 refine bh (gz (i:=5) rfl [.v (.int .i64 x2)] (.cons rfl (.nil)) .any 0 [(5,.sv (ref [.v (.int .i64 x2)]))] (fun _ _ _=>trivial) (qy.h (l:=[.v (.int .i64 x2)])) ⟨@FT.ptr _ _ _ _ _ 5 0 rfl,trivial⟩)<|qq<|ai mixed ?_
 obtain⟨⟨⟨Ec,Ed⟩,⟨Ts,Tt⟩⟩,fT,h⟩:=bS h
 refine cl (gJ fT) ⟨rfl,trivial⟩<|RT.zD (k:=1000) .none rfl rfl rfl T<|RT.ei .none rfl T<|fa rfl rfl<|RT.dN .none (s:=.row _) rfl rfl rfl T<|lr rfl rfl<|bE h fun kW kx h=>iR rfl rfl rfl kx<|bE h fun gB lM h=>lR (e:=(eS 4 eQ)) rfl rfl lM rfl<|lr rfl rfl ?_
 obtain⟨⟨⟨nE,nF⟩,⟨nG,nH⟩⟩,mD,h⟩:=bS h
 refine ix rfl rfl mD<|RT.gD (cs:=[_,_,_,_]) .none rfl T rfl rfl ?_
 obtain⟨⟨⟨⟨zE,zF⟩,⟨zG,zH⟩⟩,Lj⟩,kD,h⟩:=bS h
 refine cl (G7 kD) ⟨rfl,rfl,trivial⟩<|mv rfl<|ex rfl rfl<|ex rfl rfl<|al (cs:=[.v (.bool false),slc 1 (List.map ah []),.v (.bool false),slc 1 (List.map ah [])]) (by exact⟨SV.aa _,imp_nil,SV.aa _,imp_nil,trivial⟩) rfl<|so rfl rfl rfl<|ag rfl ?_
 refine RT.done ⟨by kernel_rfl,?_⟩
 refine ae.n ?_
 refine bh (gz (i:=6) rfl [.v (.bool zE),slc 1 (List.map ah zF),.v (.bool zG),slc 1 (List.map ah zH)] (.cons rfl (.cons rfl (.cons rfl (.cons rfl (.nil))))) .any 0 [(6,.sv (ref [.v (.bool zE),slc 1 (List.map ah zF),.v (.bool zG),slc 1 (List.map ah zH)]))] (fun _ _ _=>trivial) (qy.h (l:=[.v (.bool zE),slc 1 (List.map ah zF),.v (.bool zG),slc 1 (List.map ah zH)])) ⟨@FT.ptr _ _ _ _ _ 6 0 rfl,trivial⟩)<|sr<|RT.vk (caps:=[_]) .none ⟨rfl,trivial⟩ T<|bI (cs:=[_]) (cs':=[gS 106 [ref [.v (.bool zE),slc 1 (List.map ah zF),.v (.bool zG),slc 1 (List.map ah zH)]]]) (.one rfl (.nil)) ⟨SV.aa _,trivial⟩ ?_
 refine RT.alloc .none T rfl rfl<|so rfl rfl rfl<|dn<|qq<|ai mixed<|RT.zD (k:=1000) .none rfl rfl rfl T<|RT.ei .none rfl T<|fa rfl rfl<|RT.dN .none (s:=.row _) rfl rfl rfl T<|lr rfl rfl<|fa rfl rfl<|lV rfl rfl rfl<|RT.zD (k:=1000) .none rfl rfl rfl T<|RT.ei .none rfl T<|fa rfl rfl<|RT.dN .none (s:=.row _) rfl rfl rfl T<|lr rfl rfl<|bE h fun rP zb h=>iR rfl rfl rfl zb ?_
 refine bE h fun rB ze h=>lR (e:=(eS 4 eQ)) rfl rfl ze rfl<|bE h fun vn Dj h=>RT.SD (args:=[_]) (caps:=[_]) .none (FW Dj) rfl ⟨rfl,trivial⟩ T<|bE h fun vJ zh h=>iR rfl rfl rfl zh<|bE h fun l2 aek h=>sR vn rfl rfl rfl rfl aek ?_
 refine RT.done ⟨by kernel_rfl,?_⟩
 refine ae.n<|sr<|RT.vk (caps:=[_,_,_]) .none ⟨rfl,rfl,rfl,trivial⟩ T<|bI (cs:=[_]) (cs':=[gS 107 [ref [.v (.int .i64 x2)],ref [.v (.pointer (some ⟨β,0,none⟩))],ref [.v (.int .i64 x1)]]]) (.one rfl (.nil)) ⟨SV.aa _,trivial⟩<|RT.alloc .none T rfl rfl<|so rfl rfl rfl<|dn<|sr<|RT.zD (k:=1000) .none rfl rfl rfl T<|RT.ei .none rfl T<|fa rfl rfl<|RT.dN .none (s:=.row _) rfl rfl rfl T<|lE h fun BF DE h=>lL rfl rfl DE ?_
 refine mv rfl<|dn<|bE h fun M3 Fi jh=>?_
 refine aV (fun(qT:(List (List Qr)))=>AS.bG 71 [] [(1000,⟨79,[.sv (.v (.bool o0)),.sv (.v (.int .i64 o1)),.row 1001,.row 1002,.row 1003]⟩)] [(1001,TR 23 1 (eS 4 eQ) o2),(1002,TR 3 1 bT o3),(1003,TR 23 1 (eS 4 eQ) qT)]) (fun qT=>qT=M3) ?_ (fun qT I4=>?_)
 refine ak ?_
 refine aW Fi (fun xN=>AS.bG 71 [(3,.sv (ref [.v (.pointer (some ⟨β,0,none⟩))])),(4,.sv (ref [.v (.int .i64 x1)])),(9,.ptr 9 0),(50,.row 1003),(51,.sv (.v (.int .i64 BF))),(52,.sv (.v (.int .i64 xN.1)))] [(1000,⟨79,[.sv (.v (.bool o0)),.sv (.v (.int .i64 o1)),.row 1001,.row 1002,.row 1003]⟩),(9,⟨124,[.sv (gS 107 [ref [.v (.int .i64 x2)],ref [.v (.pointer (some ⟨β,0,none⟩))],ref [.v (.int .i64 x1)]])]⟩)] [(1003,TR 23 1 (eS 4 eQ) xN.2),(1001,TR 23 1 (eS 4 eQ) o2),(1002,TR 3 1 bT o3)]) (wR []) (fun xN y12 G12 h I5 I6=>?_)
 obtain⟨qb,gp⟩:=xN
 try dsimp only
 refine sr<|lE h fun Tu QY h=>ls _ rfl rfl QY<|dn<|qq ?_
 cases Tu
 refine cF<|aZ<|ae.x<|ae.x<|aG.x<|ae.n ?_
 obtain rfl:=O (F h)
 exact⟨gp,I6 _ rfl,wR []⟩
 refine cT<|aE<|ae.n<|qq<|ak<|sr<|mv rfl<|bE (V h) fun xz GW h=>iR rfl rfl rfl GW<|bE h fun Fb I2 h=>lR (e:=(eS 4 eQ)) rfl rfl I2 rfl<|ag rfl<|ag rfl<|dn<|sr<|mv rfl<|lr rfl rfl<|lE h fun IU QX h=>ne _ rfl rfl (Gk (p:=qb) (q:=x1) QX)<|dn ?_
 refine aF h (fun j15=>AS.bG 71 [(3,.sv (ref [.v (.pointer (some ⟨β,0,none⟩))])),(4,.sv (ref [.v (.int .i64 x1)])),(9,.ptr 9 0),(50,.row 1003),(51,.sv (.v (.int .i64 BF))),(52,.sv (.v (.int .i64 qb)))] [(1000,⟨79,[.sv (.v (.bool o0)),.sv (.v (.int .i64 o1)),.row 1001,.row 1002,.row 1003]⟩),(9,⟨124,[.sv (gS 107 [ref [.v (.int .i64 x2)],ref [.v (.pointer (some ⟨β,0,none⟩))],ref [.v (.int .i64 x1)]])]⟩)] [(1003,TR 23 1 (eS 4 eQ) j15),(1001,TR 23 1 (eS 4 eQ) o2),(1002,TR 3 1 bT o3)]) (fun h=>?_) (fun uM h=>?_)
 cases IU
 exact fs<|⟨gp,(F h),wR []⟩
 refine cT<|ai mixed<|RT.zD (k:=1000) .none rfl rfl rfl T<|RT.ei .none rfl T<|fa rfl rfl<|RT.dN .none (s:=.row _) rfl rfl rfl T<|mv rfl<|fa rfl rfl<|lV rfl rfl rfl<|mv rfl<|bE (V h) fun L3 Zj h=>RT.Rg (args:=[.sv (slc 4 (List.map eQ Fb))]) (caps:=fun β=>[ref [.v (.int .i64 x2)],ref [.v (.pointer (some ⟨β,0,none⟩))],ref [.v (.int .i64 x1)]]) .none (DN Zj) 1000 [1001,1002,1003] rfl rfl ⟨rfl,rfl,rfl,trivial⟩ (by decide) rfl rfl (.cons rfl (.nil)) T ?_
 refine bE h fun MY Zk h=>iR rfl rfl rfl Zk<|bE h fun ZY Z7 h=>sR L3 rfl rfl rfl rfl Z7 ?_
 refine RT.done ⟨by kernel_rfl,?_⟩
 exact ae.n<|⟨ZY,h,wR []⟩
 try dsimp only
 refine aG.n<|ae.n<|af<|lE h fun M6 Zm h=>ad _ rfl rfl Zm<|mv rfl<|RT.done ?_
 obtain rfl:=O h
 exact ae.n ⟨(M6,uM),I5 _ rfl,wR []⟩
 subst I4
 try dsimp only
 obtain rfl:=O jh
 exact⟨.inl rfl,gE .nil (fun _ _ _=>trivial),[1001,1002,1003],rfl,⟨rfl,rfl,rfl,trivial⟩,by decide⟩
set_option maxHeartbeats 4000000 in
theorem gY{o0:Bool}{o1:Int}{o2:List (List Qr)}{o3:List Int}{o4:List (List Qr)}{x1:Int}{x2:Int}{r:Int×(List (List Qr))×(List Int)×(List (List Qr))}(h:aM o0 o1 o2 o3 o4 x1 x2=some r):Q4 Tryz.prog 14 [.ptr 1000 0,.sv (.v (.int .i64 x1)),.sv (.v (.int .i64 x2))] 79 [.s (.v (.bool o0)),.s (.v (.int .i64 o1)),.r (TR 23 1 (eS 4 eQ) o2),.r (TR 3 1 bT o3),.r (TR 23 1 (eS 4 eQ) o4)] (.v (.int .i64 r.1)) [.s (.v (.bool o0)),.s (.v (.int .i64 o1)),.r (TR 23 1 (eS 4 eQ) r.2.1),.r (TR 3 1 bT r.2.2.1),.r (TR 23 1 (eS 4 eQ) r.2.2.2)]:=by
 refine CC [1001,1002,1003] Tryz.func14 rfl (Nat.le_of_ble_eq_true rfl) rfl (by decide) rfl (fun cG M β us=>?_)
 unfold aM at h
 refine sr<|ag rfl<|dn<|qq<|sr<|mo (s:=.ptr _ _) rfl<|bE h fun dm fD h=>RT.jQ .none (CU fD) 1000 [1001,1002,1003] rfl ⟨rfl,rfl,rfl,trivial⟩ (by decide) rfl rfl (.cons rfl (.nil)) T<|dn ?_
 cases dm
 refine fs<|qq<|qq ?_
 refine aF (F h) (fun Wp=>AS.bG 68 [(0,.ptr 1000 0),(1,.sv (.v (.int .i64 x1))),(2,.sv (.v (.int .i64 x2))),(31,.sv (.v (.bool Wp)))] [(1000,⟨79,[.sv (.v (.bool o0)),.sv (.v (.int .i64 o1)),.row 1001,.row 1002,.row 1003]⟩)] [(1001,TR 23 1 (eS 4 eQ) o2),(1002,TR 3 1 bT o3),(1003,TR 23 1 (eS 4 eQ) o4)]) (fun h=>?_) (fun OV h=>?_)
 refine af<|mv rfl<|lE h fun dB eI h=>ls _ rfl rfl eI<|mv rfl<|bE h fun OW xm h=>?_
 cases dB
 refine gm rfl<|RT.move (.some rfl rfl) (s:=.ptr _ _) rfl T<|RT.ei (.some rfl rfl) rfl T<|RT.fieldAddr (.some rfl rfl) rfl T rfl<|RT.dN (.some rfl rfl) (s:=.row _) rfl rfl rfl T<|lE (F xm) fun kW kx xm=>RT.SA (.some rfl rfl) rfl rfl T kx<|lE xm fun gB lM xm=>RT.geq (.some rfl rfl) _ rfl rfl T lM ?_
 obtain rfl:=O xm
 refine pF rfl<|mv rfl<|bE h fun aem FX h=>?_
 cases gB
 refine gm rfl<|lE (F FX) fun fR kD FX=>RT.lss (.some rfl rfl) _ rfl rfl T kD ?_
 obtain rfl:=O FX
 refine pF rfl<|mv rfl<|bE h fun aen th h=>?_
 cases fR
 refine gm rfl<|RT.move (.some rfl rfl) (s:=.ptr _ _) rfl T<|bE (F th) fun gH iT th=>RT.jQ (.some rfl rfl) (FU iT) 1000 [1001,1002,1003] rfl ⟨rfl,rfl,rfl,trivial⟩ (by decide) rfl rfl (.cons rfl (.nil)) T<|lE th fun yW wV th=>RT.geq (.some rfl rfl) _ rfl rfl T wV ?_
 obtain rfl:=O th
 exact pF rfl<|dn<|⟨yW,h,wR []⟩
 obtain rfl:=O (V th)
 exact ww<|ww<|ww<|ww<|pT rfl<|dn<|⟨true,h,wR []⟩
 obtain rfl:=O (V FX)
 refine ww<|ww<|pT rfl<|mv rfl<|bE h fun aeo zo h=>?_
 obtain rfl:=O (V zo)
 exact ww<|ww<|ww<|ww<|pT rfl<|dn<|⟨true,h,wR []⟩
 obtain rfl:=O (V xm)
 refine ww<|ww<|ww<|ww<|ww<|ww<|ww<|pT rfl<|mv rfl<|bE h fun aep zu h=>?_
 obtain rfl:=O (V zu)
 refine ww<|ww<|pT rfl<|mv rfl<|bE h fun aeq wZ h=>?_
 obtain rfl:=O (V wZ)
 exact ww<|ww<|ww<|ww<|pT rfl<|dn<|⟨true,h,wR []⟩
 try dsimp only
 refine ae.n ?_
 cases OV
 refine fs<|qq<|sr<|mo (s:=.ptr _ _) rfl<|RT.ei .none rfl T<|fa rfl rfl<|RT.dN .none (s:=.row _) rfl rfl rfl T<|lE (F h) fun oC pL h=>lL rfl rfl pL<|mv rfl<|dn<|bE h fun Jl FM lX=>?_
 refine aV (fun(CV:Unit)=>AS.bG 68 [(0,.ptr 1000 0),(1,.sv (.v (.int .i64 x1))),(2,.sv (.v (.int .i64 x2)))] [(1000,⟨79,[.sv (.v (.bool o0)),.sv (.v (.int .i64 o1)),.row 1001,.row 1002,.row 1003]⟩)] [(1001,TR 23 1 (eS 4 eQ) o2),(1002,TR 3 1 bT o3),(1003,TR 23 1 (eS 4 eQ) o4)]) (fun CV=>.inl CV=Jl) ?_ (fun CV FN=>?_)
 refine ak ?_
 refine aW FM (fun HI=>AS.bG 68 [(0,.ptr 1000 0),(1,.sv (.v (.int .i64 x1))),(2,.sv (.v (.int .i64 x2))),(35,.row 1002),(36,.sv (.v (.int .i64 oC))),(37,.sv (.v (.int .i64 HI)))] [(1000,⟨79,[.sv (.v (.bool o0)),.sv (.v (.int .i64 o1)),.row 1001,.row 1002,.row 1003]⟩)] [(1002,TR 3 1 bT o3),(1001,TR 23 1 (eS 4 eQ) o2),(1003,TR 23 1 (eS 4 eQ) o4)]) (wR []) (fun FL y16 G16 h FO AB=>?_)
 try dsimp only
 refine sr<|lE h fun Al GS h=>ls _ rfl rfl GS<|dn<|qq ?_
 cases Al
 refine cF<|aZ<|ae.x<|ae.x<|aG.x<|ae.n ?_
 obtain rfl:=O (F h)
 exact⟨(),AB _ rfl,wR []⟩
 refine cT<|aE<|ae.n<|qq<|ak<|sr<|bE (V h) fun tg BX h=>iR rfl rfl rfl BX<|bE h fun lu nO h=>lR rfl rfl nO rfl<|ag rfl<|dn<|sr<|mv rfl<|mv rfl<|lE h fun vn Dj h=>eq _ rfl rfl (vh (p:=lu) (q:=x2) Dj)<|dn ?_
 cases vn
 refine cF<|aE<|aG.n<|ae.n<|af<|lE (F h) fun vJ zh h=>ad _ rfl rfl zh<|mv rfl<|RT.done ?_
 obtain rfl:=O h
 exact ae.n ⟨vJ,FO _ rfl,wR []⟩
 refine cT<|sr<|ag rfl<|dn<|aj<|aG.r<|ae.r ?_
 obtain rfl:=O (V h)
 have OX:=AB _ rfl
 subst OX
 refine ae.r<|aG.r<|ae.r<|ae.r ?_
 obtain rfl:=O lX
 exact⟨.inr rfl,gE (.tmp rfl (.nil)) (SV.aa _),[1001,1002,1003],rfl,⟨rfl,rfl,rfl,trivial⟩,by decide⟩
 subst FN
 try dsimp only
 refine ae.n<|qq<|sr<|mo (s:=.ptr _ _) rfl<|RT.ei .none rfl T<|fa rfl rfl<|RT.dN .none (s:=.row _) rfl rfl rfl T<|mv rfl<|bE lX fun vo DD lX=>iR rfl rfl rfl DD<|bE lX fun BF DE lX=>lR (e:=(eS 4 eQ)) rfl rfl DE rfl<|mv rfl ?_
 obtain⟨⟨⟨Tv,Tw⟩,⟨Tx,Ty⟩⟩,QY,lX⟩:=bS lX
 refine ix rfl rfl QY<|RT.gD (cs:=[_,_,_,_]) .none rfl T rfl rfl<|bE lX fun xz GW lX=>cl (fI GW) ⟨rfl,trivial⟩<|lE lX fun Fb I2 lX=>eq _ rfl rfl (vh (p:=xz) (q:=0) I2)<|dn ?_
 cases Fb
 refine fs<|sr<|mo (s:=.ptr _ _) rfl<|mv rfl<|mv rfl ?_
 obtain⟨⟨Yb,l21,Yc⟩,I3,lX⟩:=bS (F lX)
 refine RT.J2 .none (ou I3) 1000 [1001,1002,1003] [304,305,306] rfl ⟨rfl,rfl,rfl,trivial⟩ (by decide) (by decide) rfl ⟨⟨rfl,T⟩,⟨rfl,T⟩,⟨rfl,T⟩,trivial⟩ rfl rfl (.cons rfl (.cons rfl (.cons rfl (.nil)))) T<|dn<|sr<|mo (s:=.ptr _ _) rfl<|RT.ei .none rfl T<|fa rfl rfl<|RT.dN .none (s:=.row _) rfl rfl rfl T<|mv rfl<|mv rfl<|bE lX fun Gn QZ lX=>iR rfl rfl rfl QZ<|bE lX fun l24 Z8 lX=>sR x2 rfl rfl rfl rfl Z8 ?_
 refine dn<|sr<|ag rfl<|dn<|aj ?_
 obtain rfl:=O lX
 exact⟨.inr rfl,gE (.tmp rfl (.nil)) (SV.aa _),[304,305,306],rfl,⟨rfl,rfl,rfl,trivial⟩,by decide⟩
 refine cT<|sr<|ag rfl<|dn<|aj<|ae.r ?_
 obtain rfl:=O (V lX)
 exact⟨.inr rfl,gE (.tmp rfl (.nil)) (SV.aa _),[1001,1002,1003],rfl,⟨rfl,rfl,rfl,trivial⟩,by decide⟩
 refine cT<|sr<|ag rfl<|dn<|aj<|ae.r ?_
 obtain rfl:=O (V h)
 exact⟨.inr rfl,gE (.tmp rfl (.nil)) (SV.aa _),[1001,1002,1003],rfl,⟨rfl,rfl,rfl,trivial⟩,by decide⟩
 refine cT<|sr<|ag rfl<|dn<|aj<|ae.r ?_
 obtain rfl:=O (V h)
 exact⟨.inr rfl,gE (.tmp rfl (.nil)) (SV.aa _),[1001,1002,1003],rfl,⟨rfl,rfl,rfl,trivial⟩,by decide⟩
end Go.Proofs.YtningmnklfpfjaaGreat
namespace Go.Proofs.YtningmnklfpfjaaGreat
open Go.Fw
noncomputable def kf(x0:List (List Qr)):Option (Int):=(bU (fun(s6:Int×Int)=>match s6 with|⟨qm,Rk⟩=>(show Option ((Int×Int)⊕(Int))from(some (x0.length:Int)).bind fun x7=>(some (decide ((Rk:Int)<x7))).bind fun x8=>(bif x8 then(cy x0 Rk).bind fun eU=>(some (eU.length:Int)).bind fun gu=>(some (max (qm:Int) gu)).bind fun eT=>(some (IntKind.i64.wrap (Rk+1))).bind fun dm=>some (.inl (eT,dm))else some (.inr qm)))) (0,0)).bind fun zw=>some zw
noncomputable def ja(x0:List (List Qr))(x1:Int):Option (Bool):=(kf x0).bind fun x6=>(some (decide ((x6:Int)≤x1))).bind fun x8=>some x8
noncomputable def lj(x0:Lr):Option (Bool):=match x0 with|⟨aB,aC,aJ,aL⟩=>cm (fun(Jn:Bool)=>(bif Jn then some false else cm (fun(G1:Bool)=>some G1) fun K24=>(ja aC aB).bind fun rB=>(bif rB then(ja aJ aB).bind fun sO=>some sO else some false).bind fun OY=>K24 OY)) fun X3=>(some (decide ((aB:Int)<0))).bind fun x5=>(bif x5 then some true else(some (decide ((64:Int)<aB))).bind fun x9=>some x9).bind fun OZ=>(bif OZ then some true else(some (aC.length:Int)).bind fun eU=>(some (decide ((eU:Int)<1))).bind fun dA=>some dA).bind fun WG=>(bif WG then some true else(some (aC.length:Int)).bind fun gB=>(some (decide ((4:Int)<gB))).bind fun iv=>some iv).bind fun WH=>(bif WH then some true else(some (aJ.length:Int)).bind fun lI=>(some (decide ((128:Int)<lI))).bind fun kq=>some kq).bind fun WI=>(bif WI then some true else(some (aL.length:Int)).bind fun iD=>(some (aJ.length:Int)).bind fun rO=>(some (decide ((iD:Int)≠rO))).bind fun oC=>some oC).bind fun WJ=>X3 WJ
end Go.Proofs.YtningmnklfpfjaaGreat
namespace Go.Proofs.YtningmnklfpfjaaGreat
open Go.Fw Go.Fw.Z Go.RowKit
theorem wD{x0:List (List Qr)}{r:Int}(h:kf x0=some r):Pure Tryz.prog 118 [slc 1 (List.map (eS 4 eQ) x0)] (.v (.int .i64 r)):=by
 refine ay Tryz.func118 rfl (Nat.le_of_ble_eq_true rfl) (fun cG M vs hvs=>?_)
 unfold kf at h
 refine sr<|ag rfl<|dn<|sr<|ag rfl<|dn<|qq<|sr<|ag rfl<|dn<|bE h fun e6 Dy iS=>?_
 refine aV (fun(zw:Int)=>AS.bG 19 [(3,.sv (.v (.int .i64 zw)))] [] []) (fun zw=>zw=e6) ?_ (fun zw Dz=>?_)
 refine ak ?_
 refine aW Dy (fun s6=>AS.bG 19 [(0,.sv (slc 1 (List.map (eS 4 eQ) x0))),(3,.sv (.v (.int .i64 s6.1))),(4,.sv (.v (.int .i64 s6.2)))] [] []) (wR []) (fun s6 y6 G6 h DA y7=>?_)
 obtain⟨qm,Rk⟩:=s6
 try dsimp only
 refine qq<|sr<|mv rfl<|mv rfl<|lE h fun x7 h7 h=>ln rfl h7<|lE h fun x8 h8 h=>ls _ rfl rfl h8<|dn ?_
 cases x8
 refine cF<|aZ<|ae.x<|ae.x<|aG.x<|ae.n ?_
 obtain rfl:=O (F h)
 exact⟨qm,y7 _ rfl,wR []⟩
 refine cT<|aE<|ae.n<|qq<|ak<|af<|mv rfl<|mv rfl<|mv rfl<|bE (V h) fun eU jg h=>ix rfl rfl jg<|lr rfl rfl<|lE h fun gu iQ h=>ln rfl iQ<|lE h fun eT jD h=>RT.max .none _ rfl rfl T (GH (p:=qm) (q:=gu) jD)<|ag rfl<|RT.done<|aG.n<|ae.n<|af<|mv rfl<|lE h fun dm fD h=>ad _ rfl rfl fD<|ag rfl<|RT.done ?_
 obtain rfl:=O h
 exact ae.n ⟨(eT,dm),DA _ rfl,wR []⟩
 subst Dz
 try dsimp only
 refine ae.n<|sr<|mv rfl<|ag rfl<|dn<|aj ?_
 obtain rfl:=O iS
 exact R1 rfl
theorem uR{x0:List (List Qr)}{x1:Int}{r:Bool}(h:ja x0 x1=some r):Pure Tryz.prog 72 [slc 1 (List.map (eS 4 eQ) x0),.v (.int .i64 x1)] (.v (.bool r)):=by
 refine ay Tryz.func72 rfl (Nat.le_of_ble_eq_true rfl) (fun cG M vs hvs=>?_)
 unfold ja at h
 refine sr<|ag rfl<|dn<|sr<|mv rfl<|bE h fun x6 h6 h=>cl (wD h6) ⟨rfl,trivial⟩<|mv rfl<|lE h fun x8 h8 h=>RT.leq .none _ rfl rfl T h8<|ag rfl<|dn<|aj ?_
 obtain rfl:=O h
 exact R1 rfl
theorem sE{x0:Lr}{r:Bool}(h:lj x0=some r):Pure Tryz.prog 24 [.agg (Gm x0)] (.v (.bool r)):=by
 obtain⟨aB,aC,aJ,aL⟩:=x0
 refine ay Tryz.func24 rfl (Nat.le_of_ble_eq_true rfl) (fun cG M vs hvs=>?_)
 unfold lj at h
 refine sr<|bx rfl<|ag rfl<|dn<|qq<|qq ?_
 refine aF h (fun V4=>AS.bG 50 [(1,.ptr 1 0),(37,.sv (.v (.bool V4)))] [(1,⟨25,[.sv (.v (.int .i64 aB)),.sv (slc 1 (List.map (eS 4 eQ) aC)),.sv (slc 1 (List.map (eS 4 eQ) aJ)),.sv (slc 4 (List.map eQ aL))]⟩)] []) (fun h=>?_) (fun Jn h=>?_)
 refine af<|fa rfl rfl<|lV rfl rfl rfl<|lE h fun x5 h5 h=>ls _ rfl rfl h5<|mv rfl<|bE h fun OZ FX h=>?_
 cases x5
 refine RT.fieldAddr (.some rfl rfl) rfl T rfl<|RT.tH (.some rfl rfl) rfl rfl rfl T<|lE (F FX) fun x9 h9 FX=>gg _ rfl rfl h9 ?_
 obtain rfl:=O FX
 refine pF rfl<|mv rfl<|bE h fun aer th h=>?_
 cases x9
 refine RT.fieldAddr (.some rfl rfl) rfl T rfl<|RT.tH (.some rfl rfl) rfl rfl rfl T<|lE (F th) fun eU jg th=>gn rfl jg<|lE th fun dA fE th=>RT.lss (.some rfl rfl) _ rfl rfl T fE ?_
 obtain rfl:=O th
 refine pF rfl<|mv rfl<|bE h fun aes zo h=>?_
 cases dA
 refine RT.fieldAddr (.some rfl rfl) rfl T rfl<|RT.tH (.some rfl rfl) rfl rfl rfl T<|lE (F zo) fun gB lM zo=>gn rfl lM<|lE zo fun iv nS zo=>gg _ rfl rfl nS ?_
 obtain rfl:=O zo
 refine pF rfl<|mv rfl<|bE h fun aet zu h=>?_
 cases iv
 refine RT.fieldAddr (.some rfl rfl) rfl T rfl<|RT.tH (.some rfl rfl) rfl rfl rfl T<|lE (F zu) fun lI nT zu=>gn rfl nT<|lE zu fun kq m7 zu=>gg _ rfl rfl m7 ?_
 obtain rfl:=O zu
 refine pF rfl<|mv rfl<|bE h fun aeu wZ h=>?_
 cases kq
 refine RT.fieldAddr (.some rfl rfl) rfl T rfl<|RT.tH (.some rfl rfl) rfl rfl rfl T<|lE (F wZ) fun iD kz wZ=>gn rfl kz<|RT.fieldAddr (.some rfl rfl) rfl T rfl<|RT.tH (.some rfl rfl) rfl rfl rfl T<|lE wZ fun rO za wZ=>gn rfl za<|lE wZ fun oC pL wZ=>gq _ rfl rfl (Gk (p:=iD) (q:=rO) pL) ?_
 obtain rfl:=O wZ
 exact pF rfl<|dn<|⟨oC,h,wR []⟩
 obtain rfl:=O (V wZ)
 exact ww<|ww<|ww<|ww<|ww<|ww<|ww<|pT rfl<|dn<|⟨true,h,wR []⟩
 obtain rfl:=O (V zu)
 refine ww<|ww<|ww<|ww<|pT rfl<|mv rfl<|bE h fun aev Lk h=>?_
 obtain rfl:=O (V Lk)
 exact ww<|ww<|ww<|ww<|ww<|ww<|ww<|pT rfl<|dn<|⟨true,h,wR []⟩
 obtain rfl:=O (V zo)
 refine ww<|ww<|ww<|ww<|pT rfl<|mv rfl<|bE h fun aew V5 h=>?_
 obtain rfl:=O (V V5)
 refine ww<|ww<|ww<|ww<|pT rfl<|mv rfl<|bE h fun aex V6 h=>?_
 obtain rfl:=O (V V6)
 exact ww<|ww<|ww<|ww<|ww<|ww<|ww<|pT rfl<|dn<|⟨true,h,wR []⟩
 obtain rfl:=O (V th)
 refine ww<|ww<|ww<|ww<|pT rfl<|mv rfl<|bE h fun aey V7 h=>?_
 obtain rfl:=O (V V7)
 refine ww<|ww<|ww<|ww<|pT rfl<|mv rfl<|bE h fun aez V8 h=>?_
 obtain rfl:=O (V V8)
 refine ww<|ww<|ww<|ww<|pT rfl<|mv rfl<|bE h fun aeA V9 h=>?_
 obtain rfl:=O (V V9)
 exact ww<|ww<|ww<|ww<|ww<|ww<|ww<|pT rfl<|dn<|⟨true,h,wR []⟩
 obtain rfl:=O (V FX)
 refine ww<|ww<|ww<|pT rfl<|mv rfl<|bE h fun aeB Wa h=>?_
 obtain rfl:=O (V Wa)
 refine ww<|ww<|ww<|ww<|pT rfl<|mv rfl<|bE h fun aeC Wb h=>?_
 obtain rfl:=O (V Wb)
 refine ww<|ww<|ww<|ww<|pT rfl<|mv rfl<|bE h fun aeD Wc h=>?_
 obtain rfl:=O (V Wc)
 refine ww<|ww<|ww<|ww<|pT rfl<|mv rfl<|bE h fun aeE Wd h=>?_
 obtain rfl:=O (V Wd)
 exact ww<|ww<|ww<|ww<|ww<|ww<|ww<|pT rfl<|dn<|⟨true,h,wR []⟩
 try dsimp only
 refine ae.n ?_
 cases Jn
 refine fs<|qq ?_
 refine aF (F h) (fun SH=>AS.bG 50 [(2,.sv (.v (.bool SH)))] [] []) (fun h=>?_) (fun G1 h=>?_)
 refine af<|fa rfl rfl<|lV rfl rfl rfl<|fa rfl rfl<|lV rfl rfl rfl<|bE h fun rB ze h=>cl (uR ze) ⟨rfl,rfl,trivial⟩<|mv rfl<|bE h fun OY xm h=>?_
 cases rB
 obtain rfl:=O (F xm)
 exact ww<|ww<|ww<|ww<|ww<|pF rfl<|ag rfl<|dn<|⟨false,h,wR []⟩
 refine RT.fieldAddr (.some rfl rfl) rfl T rfl<|RT.tH (.some rfl rfl) rfl rfl rfl T<|RT.fieldAddr (.some rfl rfl) rfl T rfl<|RT.tH (.some rfl rfl) rfl rfl rfl T<|bE (V xm) fun sO h48 xm=>gc (uR h48) ⟨rfl,rfl,trivial⟩ ?_
 obtain rfl:=O xm
 exact pT rfl<|ag rfl<|dn<|⟨sO,h,wR []⟩
 try dsimp only
 refine ae.n<|aj ?_
 obtain rfl:=O h
 exact R1 rfl
 refine cT<|sr<|ag rfl<|dn<|aj<|ae.r ?_
 obtain rfl:=O (V h)
 exact R1 rfl
end Go.Proofs.YtningmnklfpfjaaGreat
namespace Go.Proofs.YtningmnklfpfjaaGreat
open Go.Fw
noncomputable def lY(x0:List Zr):Option (Bool):=(bU (fun(qm:Int)=>(show Option ((Int)⊕((Unit)⊕(Bool)))from(some (x0.length:Int)).bind fun x6=>(some (decide ((qm:Int)<x6))).bind fun x7=>(bif x7 then(cy x0 qm).bind fun⟨fY,fO⟩=>(some (fO.length:Int)).bind fun dA=>(some (decide ((12:Int)<dA))).bind fun gu=>(bif gu then some (.inr (.inr true))else(some (IntKind.i64.wrap (qm+1))).bind fun x9=>some (.inl x9))else some (.inr (.inl ()))))) 0).bind fun e6=>match e6 with|.inr v6=>some v6|.inl _=>some false
end Go.Proofs.YtningmnklfpfjaaGreat
namespace Go.Proofs.YtningmnklfpfjaaGreat
open Go.Fw Go.Fw.Z Go.RowKit
theorem DO{x0:List Zr}{r:Bool}(h:lY x0=some r):Pure Tryz.prog 125 [slc 2 (List.map eZ x0)] (.v (.bool r)):=by
 refine ay Tryz.func125 rfl (Nat.le_of_ble_eq_true rfl) (fun cG M vs hvs=>?_)
 unfold lY at h
 refine sr<|ag rfl<|dn<|qq<|sr<|ag rfl<|dn<|bE h fun e6 Dy iS=>?_
 refine aV (fun(Fh:Unit)=>AS.bG 17 [] [] []) (fun Fh=>.inl Fh=e6) ?_ (fun Fh Dz=>?_)
 refine ak ?_
 refine aW Dy (fun s6=>AS.bG 17 [(0,.sv (slc 2 (List.map eZ x0))),(3,.sv (.v (.int .i64 s6)))] [] []) (wR []) (fun qm y6 G6 h DA y7=>?_)
 try dsimp only
 refine qq<|sr<|mv rfl<|mv rfl<|lE h fun x6 h6 h=>ln rfl h6<|lE h fun x7 h7 h=>ls _ rfl rfl h7<|dn ?_
 cases x7
 refine cF<|aZ<|ae.x<|ae.x<|aG.x<|ae.n ?_
 obtain rfl:=O (F h)
 exact⟨(),y7 _ rfl,wR []⟩
 refine cT<|aE<|ae.n<|qq<|ak<|sr<|mv rfl<|mv rfl ?_
 obtain⟨⟨fY,fO⟩,eI,h⟩:=bS (V h)
 refine ix rfl rfl eI<|RT.aT .none rfl T rfl<|lr rfl rfl<|lE h fun dA fE h=>ln rfl fE<|lE h fun gu iQ h=>gt _ rfl rfl iQ<|dn ?_
 cases gu
 refine cF<|aE<|aG.n<|ae.n<|af<|mv rfl<|lE (F h) fun x9 h9 h=>ad _ rfl rfl h9<|ag rfl<|RT.done ?_
 obtain rfl:=O h
 exact ae.n ⟨x9,DA _ rfl,wR []⟩
 refine cT<|sr<|ag rfl<|dn<|aj<|aG.r<|ae.r ?_
 obtain rfl:=O (V h)
 have Nt:=y7 _ rfl
 subst Nt
 refine ae.r<|aG.r<|ae.r<|ae.r ?_
 obtain rfl:=O iS
 exact R1 rfl
 subst Dz
 try dsimp only
 refine ae.n<|sr<|ag rfl<|dn<|aj ?_
 obtain rfl:=O iS
 exact R1 rfl
end Go.Proofs.YtningmnklfpfjaaGreat
namespace Go.Proofs.YtningmnklfpfjaaGreat
open Go.Fw
noncomputable def lZ(x0:List Qr):Option (Bool):=(bU (fun(vS:Int)=>(show Option ((Int)⊕((Unit)⊕(Bool)))from(some (x0.length:Int)).bind fun x6=>(some (decide ((vS:Int)<x6))).bind fun x7=>(bif x7 then cm (fun(Jo:Bool)=>(bif Jo then some (.inr (.inr true))else(some (IntKind.i64.wrap (vS+1))).bind fun x9=>some (.inl x9))) fun K22=>(cy x0 vS).bind fun⟨⟨fY,fO⟩,⟨Kg,Kh⟩⟩=>(cy x0 vS).bind fun⟨⟨kY,kZ⟩,⟨oR,oS⟩⟩=>(lY [⟨fY,fO⟩,⟨oR,oS⟩]).bind fun iv=>(bif iv then some true else(cy x0 vS).bind fun⟨⟨ik,hG⟩,⟨ny,nA⟩⟩=>(some (hG.length:Int)).bind fun gH=>(some (decide ((6:Int)<gH))).bind fun yW=>some yW).bind fun O0=>(bif O0 then some true else(cy x0 vS).bind fun⟨⟨Z9,aaa⟩,⟨aab,Tz⟩⟩=>(some (Tz.length:Int)).bind fun tg=>(some (decide ((6:Int)<tg))).bind fun lu=>some lu).bind fun WK=>K22 WK else some (.inr (.inl ()))))) 0).bind fun Jl=>match Jl with|.inr Yd=>some Yd|.inl _=>some false
end Go.Proofs.YtningmnklfpfjaaGreat
namespace Go.Proofs.YtningmnklfpfjaaGreat
open Go.Fw Go.Fw.Z Go.RowKit
theorem DP{x0:List Qr}{r:Bool}(h:lZ x0=some r):Pure Tryz.prog 82 [slc 4 (List.map eQ x0)] (.v (.bool r)):=by
 refine ay Tryz.func82 rfl (Nat.le_of_ble_eq_true rfl) (fun cG M vs hvs=>?_)
 unfold lZ at h
 refine sr<|ag rfl<|dn<|qq<|sr<|ag rfl<|dn<|bE h fun Jl FM lX=>?_
 refine aV (fun(CV:Unit)=>AS.bG 42 [] [] []) (fun CV=>.inl CV=Jl) ?_ (fun CV FN=>?_)
 refine ak ?_
 refine aW FM (fun HI=>AS.bG 42 [(0,.sv (slc 4 (List.map eQ x0))),(3,.sv (.v (.int .i64 HI)))] [] []) (wR []) (fun vS y16 G16 h FO AB=>?_)
 try dsimp only
 refine qq<|sr<|mv rfl<|mv rfl<|lE h fun x6 h6 h=>ln rfl h6<|lE h fun x7 h7 h=>ls _ rfl rfl h7<|dn ?_
 cases x7
 refine cF<|aZ<|ae.x<|ae.x<|aG.x<|ae.n ?_
 obtain rfl:=O (F h)
 exact⟨(),AB _ rfl,wR []⟩
 refine cT<|aE<|ae.n<|qq<|ak<|qq ?_
 refine aF (V h) (fun j22=>AS.bG 42 [(0,.sv (slc 4 (List.map eQ x0))),(3,.sv (.v (.int .i64 vS))),(41,.sv (.v (.bool j22)))] [] []) (fun h=>?_) (fun Jo h=>?_)
 refine ai mixed<|mv rfl<|mv rfl ?_
 obtain⟨⟨⟨fY,fO⟩,⟨Kg,Kh⟩⟩,eI,h⟩:=bS h
 refine ix rfl rfl eI<|RT.aT .none rfl T rfl<|RT.gD (cs:=[_,_]) .none rfl T rfl rfl<|mv rfl<|mv rfl ?_
 obtain⟨⟨⟨kY,kZ⟩,⟨oR,oS⟩⟩,jD,h⟩:=bS h
 refine ix rfl rfl jD<|RT.aT .none rfl T rfl<|RT.gD (cs:=[_,_]) .none rfl T rfl rfl<|bl (l:=[⟨fY,fO⟩,⟨oR,oS⟩]) (e:=eZ) (.agg rfl (.agg rfl (.nil))) rfl rfl rfl rfl rfl rfl<|bE h fun iv nS h=>cl (DO nS) ⟨rfl,trivial⟩<|mv rfl<|bE h fun O0 sy h=>?_
 cases iv
 refine gm rfl<|gm rfl ?_
 obtain⟨⟨⟨ik,hG⟩,⟨ny,nA⟩⟩,qM,sy⟩:=bS (F sy)
 refine RT.Uv (.some rfl rfl) rfl rfl T qM<|RT.aT (.some rfl rfl) rfl T rfl<|RT.aT (.some rfl rfl) rfl T rfl<|gr rfl rfl<|lE sy fun gH iT sy=>gn rfl iT<|lE sy fun yW wV sy=>gg _ rfl rfl wV ?_
 obtain rfl:=O sy
 refine pF rfl<|mv rfl<|bE h fun aeH uG h=>?_
 cases yW
 refine gm rfl<|gm rfl ?_
 obtain⟨⟨⟨Z9,aaa⟩,⟨aab,Tz⟩⟩,za,uG⟩:=bS (F uG)
 refine RT.Uv (.some rfl rfl) rfl rfl T za<|RT.aT (.some rfl rfl) rfl T rfl<|RT.aT (.some rfl rfl) rfl T rfl<|gr rfl rfl<|lE uG fun tg BX uG=>gn rfl BX<|lE uG fun lu nO uG=>gg _ rfl rfl nO ?_
 obtain rfl:=O uG
 refine pF rfl ?_
 refine RT.done ⟨by kernel_rfl,?_⟩
 exact ae.n<|⟨lu,h,wR []⟩
 obtain rfl:=O (V uG)
 refine ww<|ww<|ww<|ww<|ww<|ww<|ww<|ww<|pT rfl ?_
 refine RT.done ⟨by kernel_rfl,?_⟩
 exact ae.n<|⟨true,h,wR []⟩
 obtain rfl:=O (V sy)
 refine ww<|ww<|ww<|ww<|ww<|ww<|ww<|ww<|pT rfl<|mv rfl<|bE h fun aeI xm h=>?_
 obtain rfl:=O (V xm)
 refine ww<|ww<|ww<|ww<|ww<|ww<|ww<|ww<|pT rfl ?_
 refine RT.done ⟨by kernel_rfl,?_⟩
 exact ae.n<|⟨true,h,wR []⟩
 try dsimp only
 refine ae.n ?_
 cases Jo
 refine cF<|aE<|aG.n<|ae.n<|af<|mv rfl<|lE (F h) fun x9 h9 h=>ad _ rfl rfl h9<|ag rfl<|RT.done ?_
 obtain rfl:=O h
 exact ae.n ⟨x9,FO _ rfl,wR []⟩
 refine cT<|sr<|ag rfl<|dn<|aj<|aG.r<|ae.r ?_
 obtain rfl:=O (V h)
 have OX:=AB _ rfl
 subst OX
 refine ae.r<|aG.r<|ae.r<|ae.r ?_
 obtain rfl:=O lX
 exact R1 rfl
 subst FN
 try dsimp only
 refine ae.n<|sr<|ag rfl<|dn<|aj ?_
 obtain rfl:=O lX
 exact R1 rfl
end Go.Proofs.YtningmnklfpfjaaGreat
namespace Go.Proofs.YtningmnklfpfjaaGreat
open Go.Fw
noncomputable def gN(x0:List (List Qr)):Option (Bool):=(bU (fun(Lx:Int)=>(show Option ((Int)⊕((Unit)⊕(Bool)))from(some (x0.length:Int)).bind fun x6=>(some (decide ((Lx:Int)<x6))).bind fun x7=>(bif x7 then cm (fun(Jp:Bool)=>(bif Jp then some (.inr (.inr true))else(some (IntKind.i64.wrap (Lx+1))).bind fun x9=>some (.inl x9))) fun L1=>(cy x0 Lx).bind fun dB=>(some (dB.length:Int)).bind fun eU=>(some (decide ((20:Int)<eU))).bind fun dA=>(bif dA then some true else(cy x0 Lx).bind fun kW=>(lZ kW).bind fun iv=>some iv).bind fun O1=>L1 O1 else some (.inr (.inl ()))))) 0).bind fun Lg=>match Lg with|.inr v10=>some v10|.inl _=>some false
noncomputable def kg(x0:List (List (List Qr))):Option (Bool):=(bU (fun(vS:Int)=>(show Option ((Int)⊕((Unit)⊕(Bool)))from(some (x0.length:Int)).bind fun x6=>(some (decide ((vS:Int)<x6))).bind fun x7=>(bif x7 then cm (fun(Jq:Bool)=>(bif Jq then some (.inr (.inr true))else(some (IntKind.i64.wrap (vS+1))).bind fun x9=>some (.inl x9))) fun K22=>(cy x0 vS).bind fun dB=>(some (dB.length:Int)).bind fun eU=>(some (decide ((8:Int)<eU))).bind fun dA=>(bif dA then some true else(cy x0 vS).bind fun kW=>(kf kW).bind fun iv=>(some (decide ((8:Int)<iv))).bind fun iP=>some iP).bind fun FY=>(bif FY then some true else(cy x0 vS).bind fun kq=>(gN kq).bind fun gH=>some gH).bind fun WL=>K22 WL else some (.inr (.inl ()))))) 0).bind fun Jl=>match Jl with|.inr Yd=>some Yd|.inl _=>some false
noncomputable def nh:Option (Lr):=(iq [[3,5]]).bind fun x3=>(iq [[1,0],[0,2],[3,2]]).bind fun x8=>(cC [4,12,18]).bind fun dm=>some ⟨2,x3,x8,dm⟩
noncomputable def l7(x0:List (List Qr)):Option (Bool):=(bU (fun(qm:Int)=>(show Option ((Int)⊕((Unit)⊕(Bool)))from(some (x0.length:Int)).bind fun x6=>(some (decide ((qm:Int)<x6))).bind fun x7=>(bif x7 then(cy x0 qm).bind fun dB=>(some (dB.length:Int)).bind fun eU=>(some (decide ((0:Int)<eU))).bind fun dA=>(bif dA then some (.inr (.inr false))else(some (IntKind.i64.wrap (qm+1))).bind fun x9=>some (.inl x9))else some (.inr (.inl ()))))) 0).bind fun e6=>match e6 with|.inr v6=>some v6|.inl _=>some true
noncomputable def nK(x0:List Qr):Option (List Qr):=(some (x0.length:Int)).bind fun x5=>(some (min (x5:Int) 20)).bind fun x6=>(xK x0 0 x6).bind fun x7=>some x7
noncomputable def l8(x0:Lr):Option (Bool):=match x0 with|⟨aB,aC,aJ,aL⟩=>cm (fun(TA:Bool)=>some TA) fun K59=>(some (aC.length:Int)).bind fun x5=>(some (decide ((6:Int)<x5))).bind fun x6=>(bif x6 then some true else(some (aJ.length:Int)).bind fun dm=>(some (decide ((140:Int)<dm))).bind fun gU=>some gU).bind fun O2=>(bif O2 then some true else(some (aL.length:Int)).bind fun gu=>(some (decide ((140:Int)<gu))).bind fun eT=>some eT).bind fun Rl=>(bif Rl then some true else(some (aJ.length:Int)).bind fun iP=>(some (decide ((8:Int)<iP))).bind fun kA=>(bif kA then(l7 aJ).bind fun kq=>(some (!kq)).bind fun mN=>some mN else some false).bind fun Rm=>some Rm).bind fun Rn=>(bif Rn then some true else(some (aJ.length:Int)).bind fun pH=>(some (decide ((pH:Int)≤8))).bind fun rO=>(bif rO then(kg [aJ]).bind fun lu=>some lu else some false).bind fun Ro=>some Ro).bind fun Rp=>(bif Rp then some true else(kg [aC]).bind fun tQ=>some tQ).bind fun Rr=>(bif Rr then some true else(nK aL).bind fun wj=>(gN [wj]).bind fun Dx=>some Dx).bind fun Rt=>K59 Rt
end Go.Proofs.YtningmnklfpfjaaGreat
namespace Go.Proofs.YtningmnklfpfjaaGreat
open Go.Fw Go.Fw.Z Go.RowKit
theorem gZ{x0:List (List Qr)}{r:Bool}(h:gN x0=some r):Pure Tryz.prog 33 [slc 1 (List.map (eS 4 eQ) x0)] (.v (.bool r)):=by
 refine ay Tryz.func33 rfl (Nat.le_of_ble_eq_true rfl) (fun cG M vs hvs=>?_)
 unfold gN at h
 refine sr<|ag rfl<|dn<|qq<|sr<|ag rfl<|dn<|bE h fun Lg BT xR=>?_
 refine aV (fun(WM:Unit)=>AS.bG 23 [] [] []) (fun WM=>.inl WM=Lg) ?_ (fun WM BU=>?_)
 refine ak ?_
 refine aW BT (fun zZ=>AS.bG 23 [(0,.sv (slc 1 (List.map (eS 4 eQ) x0))),(3,.sv (.v (.int .i64 zZ)))] [] []) (wR []) (fun Lx Zg Zh h BV y5=>?_)
 try dsimp only
 refine qq<|sr<|mv rfl<|mv rfl<|lE h fun x6 h6 h=>ln rfl h6<|lE h fun x7 h7 h=>ls _ rfl rfl h7<|dn ?_
 cases x7
 refine cF<|aZ<|ae.x<|ae.x<|aG.x<|ae.n ?_
 obtain rfl:=O (F h)
 exact⟨(),y5 _ rfl,wR []⟩
 refine cT<|aE<|ae.n<|qq<|ak<|qq ?_
 refine aF (V h) (fun Lh=>AS.bG 23 [(0,.sv (slc 1 (List.map (eS 4 eQ) x0))),(3,.sv (.v (.int .i64 Lx))),(22,.sv (.v (.bool Lh)))] [] []) (fun h=>?_) (fun Jp h=>?_)
 refine af<|mv rfl<|mv rfl<|bE h fun dB eI h=>ix rfl rfl eI<|lr rfl rfl<|lE h fun eU jg h=>ln rfl jg<|lE h fun dA fE h=>gt _ rfl rfl fE<|mv rfl<|bE h fun O1 eC h=>?_
 cases dA
 refine gm rfl<|gm rfl<|bE (F eC) fun kW kx eC=>RT.Uv (.some rfl rfl) rfl rfl T kx<|gr rfl rfl<|bE eC fun iv nS eC=>gc (DP nS) ⟨rfl,trivial⟩ ?_
 obtain rfl:=O eC
 exact pF rfl<|dn<|⟨iv,h,wR []⟩
 obtain rfl:=O (V eC)
 exact ww<|ww<|ww<|ww<|ww<|pT rfl<|dn<|⟨true,h,wR []⟩
 try dsimp only
 refine ae.n ?_
 cases Jp
 refine cF<|aE<|aG.n<|ae.n<|af<|mv rfl<|lE (F h) fun x9 h9 h=>ad _ rfl rfl h9<|ag rfl<|RT.done ?_
 obtain rfl:=O h
 exact ae.n ⟨x9,BV _ rfl,wR []⟩
 refine cT<|sr<|ag rfl<|dn<|aj<|aG.r<|ae.r ?_
 obtain rfl:=O (V h)
 have aeJ:=y5 _ rfl
 subst aeJ
 refine ae.r<|aG.r<|ae.r<|ae.r ?_
 obtain rfl:=O xR
 exact R1 rfl
 subst BU
 try dsimp only
 refine ae.n<|sr<|ag rfl<|dn<|aj ?_
 obtain rfl:=O xR
 exact R1 rfl
theorem jb{x0:List (List (List Qr))}{r:Bool}(h:kg x0=some r):Pure Tryz.prog 98 [slc 1 (List.map (eS 1 (eS 4 eQ)) x0)] (.v (.bool r)):=by
 refine ay Tryz.func98 rfl (Nat.le_of_ble_eq_true rfl) (fun cG M vs hvs=>?_)
 unfold kg at h
 refine sr<|ag rfl<|dn<|qq<|sr<|ag rfl<|dn<|bE h fun Jl FM lX=>?_
 refine aV (fun(CV:Unit)=>AS.bG 31 [] [] []) (fun CV=>.inl CV=Jl) ?_ (fun CV FN=>?_)
 refine ak ?_
 refine aW FM (fun HI=>AS.bG 31 [(0,.sv (slc 1 (List.map (eS 1 (eS 4 eQ)) x0))),(3,.sv (.v (.int .i64 HI)))] [] []) (wR []) (fun vS y16 G16 h FO AB=>?_)
 try dsimp only
 refine qq<|sr<|mv rfl<|mv rfl<|lE h fun x6 h6 h=>ln rfl h6<|lE h fun x7 h7 h=>ls _ rfl rfl h7<|dn ?_
 cases x7
 refine cF<|aZ<|ae.x<|ae.x<|aG.x<|ae.n ?_
 obtain rfl:=O (F h)
 exact⟨(),AB _ rfl,wR []⟩
 refine cT<|aE<|ae.n<|qq<|ak<|qq ?_
 refine aF (V h) (fun j22=>AS.bG 31 [(0,.sv (slc 1 (List.map (eS 1 (eS 4 eQ)) x0))),(3,.sv (.v (.int .i64 vS))),(30,.sv (.v (.bool j22)))] [] []) (fun h=>?_) (fun Jq h=>?_)
 refine af<|mv rfl<|mv rfl<|bE h fun dB eI h=>ix rfl rfl eI<|lr rfl rfl<|lE h fun eU jg h=>ln rfl jg<|lE h fun dA fE h=>gt _ rfl rfl fE<|mv rfl<|bE h fun FY sy h=>?_
 cases dA
 refine gm rfl<|gm rfl<|bE (F sy) fun kW kx sy=>RT.Uv (.some rfl rfl) rfl rfl T kx<|gr rfl rfl<|bE sy fun iv nS sy=>gc (wD nS) ⟨rfl,trivial⟩<|lE sy fun iP mD sy=>gg _ rfl rfl mD ?_
 obtain rfl:=O sy
 refine pF rfl<|mv rfl<|bE h fun aeK uG h=>?_
 cases iP
 refine gm rfl<|gm rfl<|bE (F uG) fun kq m7 uG=>RT.Uv (.some rfl rfl) rfl rfl T m7<|gr rfl rfl<|bE uG fun gH iT uG=>gc (gZ iT) ⟨rfl,trivial⟩ ?_
 obtain rfl:=O uG
 exact pF rfl<|dn<|⟨gH,h,wR []⟩
 obtain rfl:=O (V uG)
 exact ww<|ww<|ww<|ww<|ww<|pT rfl<|dn<|⟨true,h,wR []⟩
 obtain rfl:=O (V sy)
 refine ww<|ww<|ww<|ww<|ww<|ww<|pT rfl<|mv rfl<|bE h fun aeL xm h=>?_
 obtain rfl:=O (V xm)
 exact ww<|ww<|ww<|ww<|ww<|pT rfl<|dn<|⟨true,h,wR []⟩
 try dsimp only
 refine ae.n ?_
 cases Jq
 refine cF<|aE<|aG.n<|ae.n<|af<|mv rfl<|lE (F h) fun x9 h9 h=>ad _ rfl rfl h9<|ag rfl<|RT.done ?_
 obtain rfl:=O h
 exact ae.n ⟨x9,FO _ rfl,wR []⟩
 refine cT<|sr<|ag rfl<|dn<|aj<|aG.r<|ae.r ?_
 obtain rfl:=O (V h)
 have OX:=AB _ rfl
 subst OX
 refine ae.r<|aG.r<|ae.r<|ae.r ?_
 obtain rfl:=O lX
 exact R1 rfl
 subst FN
 try dsimp only
 refine ae.n<|sr<|ag rfl<|dn<|aj ?_
 obtain rfl:=O lX
 exact R1 rfl
theorem CW{r:Lr}(h:nh=some r):Pure Tryz.prog 53 [] (.agg (Gm r)):=by
 refine ay Tryz.func53 rfl (Nat.le_of_ble_eq_true rfl) (fun cG M vs hvs=>?_)
 unfold nh at h
 refine sr<|al (cs:=[.v (.int .i64 0),slc 1 (List.map (eS 4 eQ) []),slc 1 (List.map (eS 4 eQ) []),slc 4 (List.map eQ [])]) (by exact⟨SV.aa _,imp_nil,imp_nil,imp_nil,trivial⟩) rfl<|dn<|sr<|bl (l:=[3,5]) (e:=bT) (.one rfl (.one rfl (.nil))) rfl rfl rfl rfl rfl rfl<|bl (l:=[[3,5]]) (e:=(eS 1 bT)) (.one rfl (.nil)) rfl rfl rfl rfl rfl rfl<|bE h fun x3 h3 h=>cl (sZ h3) ⟨rfl,trivial⟩<|bl (l:=[1,0]) (e:=bT) (.one rfl (.one rfl (.nil))) rfl rfl rfl rfl rfl rfl ?_
 refine bl (l:=[0,2]) (e:=bT) (.one rfl (.one rfl (.nil))) rfl rfl rfl rfl rfl rfl<|bl (l:=[3,2]) (e:=bT) (.one rfl (.one rfl (.nil))) rfl rfl rfl rfl rfl rfl<|bl (l:=[[1,0],[0,2],[3,2]]) (e:=(eS 1 bT)) (.one rfl (.one rfl (.one rfl (.nil)))) rfl rfl rfl rfl rfl rfl<|bE h fun x8 h8 h=>cl (sZ h8) ⟨rfl,trivial⟩<|bl (l:=[4,12,18]) (e:=bT) (.one rfl (.one rfl (.one rfl (.nil)))) rfl rfl rfl rfl rfl rfl<|bE h fun dm fD h=>cl (dH fD) ⟨rfl,trivial⟩ ?_
 refine bI (cs:=[_,_,_,_]) (cs':=[.v (.int .i64 2),slc 1 (List.map (eS 4 eQ) x3),slc 1 (List.map (eS 4 eQ) x8),slc 4 (List.map eQ dm)]) (.one rfl (.one rfl (.one rfl (.one rfl (.nil))))) ⟨SV.aa _,SV.aa _,SV.aa _,SV.aa _,trivial⟩<|so rfl rfl rfl<|dn<|aj ?_
 obtain rfl:=O h
 exact RZ (.agg rfl rfl (.cons rfl (.cons rfl (.cons rfl (.cons rfl (.nil))))) rfl (.nil))
theorem DQ{x0:List (List Qr)}{r:Bool}(h:l7 x0=some r):Pure Tryz.prog 97 [slc 1 (List.map (eS 4 eQ) x0)] (.v (.bool r)):=by
 refine ay Tryz.func97 rfl (Nat.le_of_ble_eq_true rfl) (fun cG M vs hvs=>?_)
 unfold l7 at h
 refine sr<|ag rfl<|dn<|qq<|sr<|ag rfl<|dn<|bE h fun e6 Dy iS=>?_
 refine aV (fun(Fh:Unit)=>AS.bG 16 [] [] []) (fun Fh=>.inl Fh=e6) ?_ (fun Fh Dz=>?_)
 refine ak ?_
 refine aW Dy (fun s6=>AS.bG 16 [(0,.sv (slc 1 (List.map (eS 4 eQ) x0))),(3,.sv (.v (.int .i64 s6)))] [] []) (wR []) (fun qm y6 G6 h DA y7=>?_)
 try dsimp only
 refine qq<|sr<|mv rfl<|mv rfl<|lE h fun x6 h6 h=>ln rfl h6<|lE h fun x7 h7 h=>ls _ rfl rfl h7<|dn ?_
 cases x7
 refine cF<|aZ<|ae.x<|ae.x<|aG.x<|ae.n ?_
 obtain rfl:=O (F h)
 exact⟨(),y7 _ rfl,wR []⟩
 refine cT<|aE<|ae.n<|qq<|ak<|sr<|mv rfl<|mv rfl<|bE (V h) fun dB eI h=>ix rfl rfl eI<|lr rfl rfl<|lE h fun eU jg h=>ln rfl jg<|lE h fun dA fE h=>gt _ rfl rfl fE<|dn ?_
 cases dA
 refine cF<|aE<|aG.n<|ae.n<|af<|mv rfl<|lE (F h) fun x9 h9 h=>ad _ rfl rfl h9<|ag rfl<|RT.done ?_
 obtain rfl:=O h
 exact ae.n ⟨x9,DA _ rfl,wR []⟩
 refine cT<|sr<|ag rfl<|dn<|aj<|aG.r<|ae.r ?_
 obtain rfl:=O (V h)
 have Nt:=y7 _ rfl
 subst Nt
 refine ae.r<|aG.r<|ae.r<|ae.r ?_
 obtain rfl:=O iS
 exact R1 rfl
 subst Dz
 try dsimp only
 refine ae.n<|sr<|ag rfl<|dn<|aj ?_
 obtain rfl:=O iS
 exact R1 rfl
theorem ow{x0:List Qr}{r:List Qr}(h:nK x0=some r):Pure Tryz.prog 99 [slc 4 (List.map eQ x0)] (slc 4 (List.map eQ r)):=by
 refine ay Tryz.func99 rfl (Nat.le_of_ble_eq_true rfl) (fun cG M vs hvs=>?_)
 unfold nK at h
 refine sr<|aI rfl (imp_nil (n:=4) (e:=eQ))<|dn<|sr<|mv rfl<|mv rfl<|lE h fun x5 h5 h=>ln rfl h5<|lE h fun x6 h6 h=>RT.min .none _ rfl rfl T (E7 (p:=x5) (q:=20) h6)<|bE h fun x7 h7 h=>RT.wP .none 0 x6 rfl rfl ⟨_,rfl⟩ T h7<|ag rfl<|dn<|aj ?_
 obtain rfl:=O h
 exact R1 rfl
set_option maxHeartbeats 4000000 in
theorem DR{x0:Lr}{r:Bool}(h:l8 x0=some r):Pure Tryz.prog 52 [.agg (Gm x0)] (.v (.bool r)):=by
 obtain⟨aB,aC,aJ,aL⟩:=x0
 refine ay Tryz.func52 rfl (Nat.le_of_ble_eq_true rfl) (fun cG M vs hvs=>?_)
 unfold l8 at h
 refine sr<|bx rfl<|ag rfl<|dn<|qq ?_
 refine aF h (fun j59=>AS.bG 56 [(2,.sv (.v (.bool j59)))] [] []) (fun h=>?_) (fun TA h=>?_)
 refine af<|fa rfl rfl<|lV rfl rfl rfl<|lE h fun x5 h5 h=>ln rfl h5<|lE h fun x6 h6 h=>gt _ rfl rfl h6<|mv rfl<|bE h fun O2 HO h=>?_
 cases x6
 refine RT.fieldAddr (.some rfl rfl) rfl T rfl<|RT.tH (.some rfl rfl) rfl rfl rfl T<|lE (F HO) fun dm fD HO=>gn rfl fD<|lE HO fun gU mB HO=>gg _ rfl rfl mB ?_
 obtain rfl:=O HO
 refine pF rfl<|mv rfl<|bE h fun aeM HP h=>?_
 cases gU
 refine RT.fieldAddr (.some rfl rfl) rfl T rfl<|RT.tH (.some rfl rfl) rfl rfl rfl T<|lE (F HP) fun gu iQ HP=>gn rfl iQ<|lE HP fun eT jD HP=>gg _ rfl rfl jD ?_
 obtain rfl:=O HP
 refine pF rfl<|mv rfl<|bE h fun aeN CX h=>?_
 cases eT
 refine RT.fieldAddr (.some rfl rfl) rfl T rfl<|RT.tH (.some rfl rfl) rfl rfl rfl T<|lE (F CX) fun iP mD CX=>gn rfl mD<|lE CX fun kA qL CX=>gg _ rfl rfl qL<|gm rfl<|bE CX fun aeO HQ CX=>?_
 cases kA
 obtain rfl:=O (F HQ)
 refine ww<|ww<|ww<|ww<|gF rfl ?_
 obtain rfl:=O CX
 refine pF rfl<|mv rfl<|bE h fun aeP DS h=>RT.fieldAddr (.some rfl rfl) rfl T rfl<|RT.tH (.some rfl rfl) rfl rfl rfl T<|lE (F DS) fun pH ql DS=>gn rfl ql<|lE DS fun rO za DS=>RT.leq (.some rfl rfl) _ rfl rfl T za<|gm rfl<|bE DS fun aeQ Ly DS=>?_
 cases rO
 obtain rfl:=O (F Ly)
 refine ww<|ww<|ww<|ww<|gF rfl ?_
 obtain rfl:=O DS
 refine pF rfl<|mv rfl<|bE h fun aeR O3 h=>RT.fieldAddr (.some rfl rfl) rfl T rfl<|RT.tH (.some rfl rfl) rfl rfl rfl T<|RT.eO (l:=[aC]) (e:=(eS 1 (eS 4 eQ))) (.some rfl rfl) (.one rfl (.nil)) T rfl rfl rfl rfl rfl rfl<|bE (F O3) fun tQ wW O3=>gc (jb wW) ⟨rfl,trivial⟩ ?_
 obtain rfl:=O O3
 refine pF rfl<|mv rfl<|bE h fun aeS yo h=>?_
 cases tQ
 refine RT.fieldAddr (.some rfl rfl) rfl T rfl<|RT.tH (.some rfl rfl) rfl rfl rfl T<|bE (F yo) fun wj zg yo=>gc (ow zg) ⟨rfl,trivial⟩<|RT.eO (l:=[wj]) (e:=(eS 4 eQ)) (.some rfl rfl) (.one rfl (.nil)) T rfl rfl rfl rfl rfl rfl<|bE yo fun Dx GX yo=>gc (gZ GX) ⟨rfl,trivial⟩ ?_
 obtain rfl:=O yo
 exact pF rfl<|ag rfl<|dn<|⟨Dx,h,wR []⟩
 obtain rfl:=O (V yo)
 exact ww<|ww<|ww<|ww<|ww<|pT rfl<|ag rfl<|dn<|⟨true,h,wR []⟩
 refine RT.fieldAddr (.some rfl rfl) rfl T rfl<|RT.tH (.some rfl rfl) rfl rfl rfl T<|RT.eO (l:=[aJ]) (e:=(eS 1 (eS 4 eQ))) (.some rfl rfl) (.one rfl (.nil)) T rfl rfl rfl rfl rfl rfl<|bE (V Ly) fun lu nO Ly=>gc (jb nO) ⟨rfl,trivial⟩ ?_
 obtain rfl:=O Ly
 refine gT rfl ?_
 obtain rfl:=O DS
 refine pF rfl<|mv rfl<|bE h fun aeT Lz h=>?_
 cases lu
 refine RT.fieldAddr (.some rfl rfl) rfl T rfl<|RT.tH (.some rfl rfl) rfl rfl rfl T<|RT.eO (l:=[aC]) (e:=(eS 1 (eS 4 eQ))) (.some rfl rfl) (.one rfl (.nil)) T rfl rfl rfl rfl rfl rfl<|bE (F Lz) fun tQ wW Lz=>gc (jb wW) ⟨rfl,trivial⟩ ?_
 obtain rfl:=O Lz
 refine pF rfl<|mv rfl<|bE h fun aeU LA h=>?_
 cases tQ
 refine RT.fieldAddr (.some rfl rfl) rfl T rfl<|RT.tH (.some rfl rfl) rfl rfl rfl T<|bE (F LA) fun wj zg LA=>gc (ow zg) ⟨rfl,trivial⟩<|RT.eO (l:=[wj]) (e:=(eS 4 eQ)) (.some rfl rfl) (.one rfl (.nil)) T rfl rfl rfl rfl rfl rfl<|bE LA fun Dx GX LA=>gc (gZ GX) ⟨rfl,trivial⟩ ?_
 obtain rfl:=O LA
 exact pF rfl<|ag rfl<|dn<|⟨Dx,h,wR []⟩
 obtain rfl:=O (V LA)
 exact ww<|ww<|ww<|ww<|ww<|pT rfl<|ag rfl<|dn<|⟨true,h,wR []⟩
 obtain rfl:=O (V Lz)
 refine ww<|ww<|ww<|ww<|pT rfl<|mv rfl<|bE h fun aeV aeW h=>?_
 obtain rfl:=O (V aeW)
 exact ww<|ww<|ww<|ww<|ww<|pT rfl<|ag rfl<|dn<|⟨true,h,wR []⟩
 refine RT.fieldAddr (.some rfl rfl) rfl T rfl<|RT.tH (.some rfl rfl) rfl rfl rfl T<|bE (V HQ) fun kq m7 HQ=>gc (DQ m7) ⟨rfl,trivial⟩<|lE HQ fun mN rY HQ=>QM rfl _ rY ?_
 obtain rfl:=O HQ
 refine gT rfl ?_
 obtain rfl:=O CX
 refine pF rfl<|mv rfl<|bE h fun aeX CY h=>?_
 cases mN
 refine RT.fieldAddr (.some rfl rfl) rfl T rfl<|RT.tH (.some rfl rfl) rfl rfl rfl T<|lE (F CY) fun pH ql CY=>gn rfl ql<|lE CY fun rO za CY=>RT.leq (.some rfl rfl) _ rfl rfl T za<|gm rfl<|bE CY fun aeY LB CY=>?_
 cases rO
 obtain rfl:=O (F LB)
 refine ww<|ww<|ww<|ww<|gF rfl ?_
 obtain rfl:=O CY
 refine pF rfl<|mv rfl<|bE h fun aeZ WN h=>RT.fieldAddr (.some rfl rfl) rfl T rfl<|RT.tH (.some rfl rfl) rfl rfl rfl T<|RT.eO (l:=[aC]) (e:=(eS 1 (eS 4 eQ))) (.some rfl rfl) (.one rfl (.nil)) T rfl rfl rfl rfl rfl rfl<|bE (F WN) fun tQ wW WN=>gc (jb wW) ⟨rfl,trivial⟩ ?_
 obtain rfl:=O WN
 refine pF rfl<|mv rfl<|bE h fun ae0 LC h=>?_
 cases tQ
 refine RT.fieldAddr (.some rfl rfl) rfl T rfl<|RT.tH (.some rfl rfl) rfl rfl rfl T<|bE (F LC) fun wj zg LC=>gc (ow zg) ⟨rfl,trivial⟩<|RT.eO (l:=[wj]) (e:=(eS 4 eQ)) (.some rfl rfl) (.one rfl (.nil)) T rfl rfl rfl rfl rfl rfl<|bE LC fun Dx GX LC=>gc (gZ GX) ⟨rfl,trivial⟩ ?_
 obtain rfl:=O LC
 exact pF rfl<|ag rfl<|dn<|⟨Dx,h,wR []⟩
 obtain rfl:=O (V LC)
 exact ww<|ww<|ww<|ww<|ww<|pT rfl<|ag rfl<|dn<|⟨true,h,wR []⟩
 refine RT.fieldAddr (.some rfl rfl) rfl T rfl<|RT.tH (.some rfl rfl) rfl rfl rfl T<|RT.eO (l:=[aJ]) (e:=(eS 1 (eS 4 eQ))) (.some rfl rfl) (.one rfl (.nil)) T rfl rfl rfl rfl rfl rfl<|bE (V LB) fun lu nO LB=>gc (jb nO) ⟨rfl,trivial⟩ ?_
 obtain rfl:=O LB
 refine gT rfl ?_
 obtain rfl:=O CY
 refine pF rfl<|mv rfl<|bE h fun ae1 LD h=>?_
 cases lu
 refine RT.fieldAddr (.some rfl rfl) rfl T rfl<|RT.tH (.some rfl rfl) rfl rfl rfl T<|RT.eO (l:=[aC]) (e:=(eS 1 (eS 4 eQ))) (.some rfl rfl) (.one rfl (.nil)) T rfl rfl rfl rfl rfl rfl<|bE (F LD) fun tQ wW LD=>gc (jb wW) ⟨rfl,trivial⟩ ?_
 obtain rfl:=O LD
 refine pF rfl<|mv rfl<|bE h fun ae2 HR h=>?_
 cases tQ
 refine RT.fieldAddr (.some rfl rfl) rfl T rfl<|RT.tH (.some rfl rfl) rfl rfl rfl T<|bE (F HR) fun wj zg HR=>gc (ow zg) ⟨rfl,trivial⟩<|RT.eO (l:=[wj]) (e:=(eS 4 eQ)) (.some rfl rfl) (.one rfl (.nil)) T rfl rfl rfl rfl rfl rfl<|bE HR fun Dx GX HR=>gc (gZ GX) ⟨rfl,trivial⟩ ?_
 obtain rfl:=O HR
 exact pF rfl<|ag rfl<|dn<|⟨Dx,h,wR []⟩
 obtain rfl:=O (V HR)
 exact ww<|ww<|ww<|ww<|ww<|pT rfl<|ag rfl<|dn<|⟨true,h,wR []⟩
 obtain rfl:=O (V LD)
 refine ww<|ww<|ww<|ww<|pT rfl<|mv rfl<|bE h fun ae3 WO h=>?_
 obtain rfl:=O (V WO)
 exact ww<|ww<|ww<|ww<|ww<|pT rfl<|ag rfl<|dn<|⟨true,h,wR []⟩
 obtain rfl:=O (V CY)
 refine ww<|ww<|ww<|ww<|ww<|wu<|wu<|wu<|wu<|ww<|pT rfl<|mv rfl<|bE h fun ae4 AH h=>?_
 obtain rfl:=O (V AH)
 refine ww<|ww<|ww<|ww<|pT rfl<|mv rfl<|bE h fun ae5 LF h=>?_
 obtain rfl:=O (V LF)
 exact ww<|ww<|ww<|ww<|ww<|pT rfl<|ag rfl<|dn<|⟨true,h,wR []⟩
 obtain rfl:=O (V CX)
 refine ww<|ww<|ww<|ww<|ww<|wu<|wu<|wu<|wu<|ww<|pT rfl<|mv rfl<|bE h fun ae6 ae7 h=>?_
 obtain rfl:=O (V ae7)
 refine ww<|ww<|ww<|ww<|ww<|wu<|wu<|wu<|wu<|ww<|pT rfl<|mv rfl<|bE h fun ae8 ae9 h=>?_
 obtain rfl:=O (V ae9)
 refine ww<|ww<|ww<|ww<|pT rfl<|mv rfl<|bE h fun abE aac h=>?_
 obtain rfl:=O (V aac)
 exact ww<|ww<|ww<|ww<|ww<|pT rfl<|ag rfl<|dn<|⟨true,h,wR []⟩
 obtain rfl:=O (V HP)
 refine ww<|ww<|ww<|ww<|pT rfl<|mv rfl<|bE h fun abF aad h=>?_
 obtain rfl:=O (V aad)
 refine ww<|ww<|ww<|ww<|ww<|wu<|wu<|wu<|wu<|ww<|pT rfl<|mv rfl<|bE h fun abG aae h=>?_
 obtain rfl:=O (V aae)
 refine ww<|ww<|ww<|ww<|ww<|wu<|wu<|wu<|wu<|ww<|pT rfl<|mv rfl<|bE h fun abH aaf h=>?_
 obtain rfl:=O (V aaf)
 refine ww<|ww<|ww<|ww<|pT rfl<|mv rfl<|bE h fun abI aag h=>?_
 obtain rfl:=O (V aag)
 exact ww<|ww<|ww<|ww<|ww<|pT rfl<|ag rfl<|dn<|⟨true,h,wR []⟩
 obtain rfl:=O (V HO)
 refine ww<|ww<|ww<|ww<|pT rfl<|mv rfl<|bE h fun abJ aah h=>?_
 obtain rfl:=O (V aah)
 refine ww<|ww<|ww<|ww<|pT rfl<|mv rfl<|bE h fun abK aai h=>?_
 obtain rfl:=O (V aai)
 refine ww<|ww<|ww<|ww<|ww<|wu<|wu<|wu<|wu<|ww<|pT rfl<|mv rfl<|bE h fun abL aaj h=>?_
 obtain rfl:=O (V aaj)
 refine ww<|ww<|ww<|ww<|ww<|wu<|wu<|wu<|wu<|ww<|pT rfl<|mv rfl<|bE h fun abM aak h=>?_
 obtain rfl:=O (V aak)
 refine ww<|ww<|ww<|ww<|pT rfl<|mv rfl<|bE h fun abN aal h=>?_
 obtain rfl:=O (V aal)
 exact ww<|ww<|ww<|ww<|ww<|pT rfl<|ag rfl<|dn<|⟨true,h,wR []⟩
 try dsimp only
 refine ae.n<|aj ?_
 obtain rfl:=O h
 exact R1 rfl
end Go.Proofs.YtningmnklfpfjaaGreat
namespace Go.Proofs.YtningmnklfpfjaaGreat
open Go.Fw
noncomputable def l9(x0:List Int)(x1:List Int):Option (Bool):=(some (x0.length:Int)).bind fun x7=>(some (x1.length:Int)).bind fun x9=>(some (decide ((x7:Int)≠x9))).bind fun dm=>(bif dm then some false else(bU (fun(qF:Int)=>(show Option ((Int)⊕((Unit)⊕(Bool)))from(some (x0.length:Int)).bind fun fB=>(some (decide ((qF:Int)<fB))).bind fun eU=>(bif eU then(cy x0 qF).bind fun kW=>(cy x1 qF).bind fun kA=>(some (decide ((kW:Int)≠kA))).bind fun yH=>(bif yH then some (.inr (.inr false))else(some (IntKind.i64.wrap (qF+1))).bind fun gu=>some (.inl gu))else some (.inr (.inl ()))))) 0).bind fun e6=>match e6 with|.inr v6=>some v6|.inl _=>some true)
noncomputable def dW:Option (Bool):=(nh).bind fun⟨aam,aan,aao,aap⟩=>(gX ⟨aam,aan,aao,aap⟩).bind fun⟨vT,vU,LG,LH,LI⟩=>cm (fun(O4:Bool)=>(bif O4 then some false else(aM vT vU LG LH LI 1 1).bind fun⟨lu,Ye,Qi,Yf⟩=>cm (fun(Jr:Bool)=>(bif Jr then some false else(aM vT vU Ye Qi Yf 2 0).bind fun⟨x64,Yg,Yh,Yi⟩=>cm (fun(TB:Bool)=>some TB) fun K53=>(some (decide ((x64:Int)=0))).bind fun L2=>(bif L2 then(fo (⟨vT,vU,Yg,Yh,Yi⟩:Tb)).bind fun MY=>(cC [2,6,2]).bind fun Tn=>(cU MY Tn).bind fun L4=>some L4 else some false).bind fun O5=>(bif O5 then(ir (⟨vT,vU,Yg,Yh,Yi⟩:Tb)).bind fun x76=>(cC [2,6]).bind fun x78=>(cU x76 x78).bind fun Lf=>some Lf else some false).bind fun WQ=>(bif WQ then(iB (⟨vT,vU,Yg,Yh,Yi⟩:Tb)).bind fun Yj=>(cC [36,(-2),(-6)]).bind fun X1=>(cU Yj X1).bind fun Qf=>some Qf else some false).bind fun WR=>(bif WR then(gW (⟨vT,vU,Yg,Yh,Yi⟩:Tb)).bind fun Qg=>some Qg else some false).bind fun WS=>(bif WS then(iu (⟨vT,vU,Yg,Yh,Yi⟩:Tb)).bind fun x94=>some x94 else some false).bind fun WT=>K53 WT)) fun K26=>(some (decide ((lu:Int)≠0))).bind fun rB=>(bif rB then some true else(fo (⟨vT,vU,Ye,Qi,Yf⟩:Tb)).bind fun Di=>(cC [4,6,6]).bind fun tQ=>(cU Di tQ).bind fun sO=>(some (!sO)).bind fun MT=>some MT).bind fun O6=>(bif O6 then some true else(iB (⟨vT,vU,Ye,Qi,Yf⟩:Tb)).bind fun Tu=>(cC [30,0,(-6)]).bind fun xz=>(cU Tu xz).bind fun Fb=>(some (!Fb)).bind fun Qe=>some Qe).bind fun WU=>(bif WU then some true else(gW (⟨vT,vU,Ye,Qi,Yf⟩:Tb)).bind fun Fe=>some Fe).bind fun WV=>K26 WV)) fun Tk=>(bif false then none else some false).bind fun O7=>(bif O7 then some true else(jS (⟨vT,vU,LG,LH,LI⟩:Tb)).bind fun ek=>(l9 ek [2,3,4]).bind fun gB=>(some (!gB)).bind fun iv=>some iv).bind fun WW=>(bif WW then some true else(fo (⟨vT,vU,LG,LH,LI⟩:Tb)).bind fun yH=>(cC [4,12,18]).bind fun kq=>(cU yH kq).bind fun mN=>(some (!mN)).bind fun gH=>some gH).bind fun WX=>(bif WX then some true else(cE (⟨vT,vU,LG,LH,LI⟩:Tb) 0).bind fun rS=>(cC [(-3),1,0]).bind fun rO=>(cU rS rO).bind fun oC=>(some (!oC)).bind fun tf=>some tf).bind fun WY=>Tk WY
end Go.Proofs.YtningmnklfpfjaaGreat
namespace Go.Proofs.YtningmnklfpfjaaGreat
open Go.Fw Go.Fw.Z Go.RowKit
theorem DT{x0:List Int}{x1:List Int}{r:Bool}(h:l9 x0 x1=some r):Pure Tryz.prog 45 [slc 1 (List.map bT x0),slc 1 (List.map bT x1)] (.v (.bool r)):=by
 refine ay Tryz.func45 rfl (Nat.le_of_ble_eq_true rfl) (fun cG M vs hvs=>?_)
 unfold l9 at h
 refine sr<|ag rfl<|dn<|qq<|sr<|mv rfl<|lE h fun x7 h7 h=>ln rfl h7<|mv rfl<|lE h fun x9 h9 h=>ln rfl h9<|lE h fun dm fD h=>ne _ rfl rfl (Gk (p:=x7) (q:=x9) fD)<|dn ?_
 cases dm
 refine fs<|qq<|sr<|ag rfl<|dn<|bE (F h) fun e6 Dy iS=>?_
 refine aV (fun(Fh:Unit)=>AS.bG 26 [] [] []) (fun Fh=>.inl Fh=e6) ?_ (fun Fh Dz=>?_)
 refine ak ?_
 refine aW Dy (fun s6=>AS.bG 26 [(0,.sv (slc 1 (List.map bT x0))),(1,.sv (slc 1 (List.map bT x1))),(5,.sv (.v (.int .i64 s6)))] [] []) (wR []) (fun qF y6 G6 h DA y7=>?_)
 try dsimp only
 refine qq<|sr<|mv rfl<|mv rfl<|lE h fun fB fT h=>ln rfl fT<|lE h fun eU jg h=>ls _ rfl rfl jg<|dn ?_
 cases eU
 refine cF<|aZ<|ae.x<|ae.x<|aG.x<|ae.n ?_
 obtain rfl:=O (F h)
 exact⟨(),y7 _ rfl,wR []⟩
 refine cT<|aE<|ae.n<|qq<|ak<|qq<|ai mixed<|mv rfl<|mv rfl<|bE (V h) fun kW kx h=>ix rfl rfl kx<|lr rfl rfl<|mv rfl<|mv rfl<|bE h fun kA qL h=>ix rfl rfl qL<|lr rfl rfl<|lE h fun yH qM h=>ne _ rfl rfl (Gk (p:=kW) (q:=kA) qM) ?_
 refine RT.done ⟨by kernel_rfl,?_⟩
 refine ae.n ?_
 cases yH
 refine cF<|aE<|aG.n<|ae.n<|af<|mv rfl<|lE (F h) fun gu iQ h=>ad _ rfl rfl iQ<|ag rfl<|RT.done ?_
 obtain rfl:=O h
 exact ae.n ⟨gu,DA _ rfl,wR []⟩
 refine cT<|sr<|ag rfl<|dn<|aj<|aG.r<|ae.r ?_
 obtain rfl:=O (V h)
 have Nt:=y7 _ rfl
 subst Nt
 refine ae.r<|aG.r<|ae.r<|ae.r ?_
 obtain rfl:=O iS
 exact R1 rfl
 subst Dz
 try dsimp only
 refine ae.n<|sr<|ag rfl<|dn<|aj ?_
 obtain rfl:=O iS
 exact R1 rfl
 refine cT<|sr<|ag rfl<|dn<|aj<|ae.r ?_
 obtain rfl:=O (V h)
 exact R1 rfl
set_option maxHeartbeats 4000000 in
theorem me{r:Bool}(h:dW=some r):Pure Tryz.prog 10 [] (.v (.bool r)):=by
 refine ay Tryz.func10 rfl (Nat.le_of_ble_eq_true rfl) (fun cG M vs hvs=>?_)
 unfold dW at h
 refine sr<|ag rfl<|dn<|sr ?_
 obtain⟨⟨aam,aan,aao,aap⟩,h6,h⟩:=bS h
 refine cl (CW h6) trivial ?_
 obtain⟨⟨vT,vU,LG,LH,LI⟩,h7,h⟩:=bS h
 refine RT.J5 .none (uQ h7) [304,305,306] (by decide) rfl ⟨⟨rfl,T⟩,⟨rfl,T⟩,⟨rfl,T⟩,trivial⟩ rfl ⟨rfl,trivial⟩ T rfl rfl<|mo (s:=.cmp _ _) rfl<|RT.yd .none rfl rfl T<|RT.yd .none rfl rfl T<|an (s:=.ptr _ _) rfl<|ag rfl<|dn<|qq<|qq ?_
 refine aF h (fun Wp=>AS.bG 96 [(1,.ptr 7 0),(38,.sv (.v (.bool Wp)))] [(7,⟨79,[.sv (.v (.bool vT)),.sv (.v (.int .i64 vU)),.row 304,.row 305,.row 306]⟩)] [(304,TR 23 1 (eS 4 eQ) LG),(305,TR 3 1 bT LH),(306,TR 23 1 (eS 4 eQ) LI)]) (fun h=>?_) (fun O4 h=>?_)
 refine af<|mv rfl<|ne false rfl rfl (by decide)<|mv rfl<|bE h fun O7 O3 h=>RT.move (.some rfl rfl) (s:=.ptr _ _) rfl T<|RT.Om (.some rfl rfl) rfl rfl T ?_
 obtain rfl:=O (F O3)
 refine pF rfl<|mv rfl<|bE h fun afc yo h=>RT.move (.some rfl rfl) (s:=.ptr _ _) rfl T<|bE (F yo) fun ek gV yo=>RT.jQ (.some rfl rfl) (FV gV) 7 [304,305,306] rfl ⟨rfl,rfl,rfl,trivial⟩ (by decide) rfl rfl (.cons rfl (.nil)) T<|RT.eO (l:=[2,3,4]) (e:=bT) (.some rfl rfl) (.one rfl (.one rfl (.one rfl (.nil)))) T rfl rfl rfl rfl rfl rfl<|bE yo fun gB lM yo=>gc (DT lM) ⟨rfl,rfl,trivial⟩<|lE yo fun iv nS yo=>QM rfl _ nS ?_
 obtain rfl:=O yo
 refine pF rfl<|mv rfl<|bE h fun afd DU h=>?_
 cases iv
 refine RT.move (.some rfl rfl) (s:=.ptr _ _) rfl T<|bE (F DU) fun yH qM DU=>RT.jQ (.some rfl rfl) (sB qM) 7 [304,305,306] rfl ⟨rfl,rfl,rfl,trivial⟩ (by decide) rfl rfl (.cons rfl (.nil)) T<|RT.eO (l:=[4,12,18]) (e:=bT) (.some rfl rfl) (.one rfl (.one rfl (.one rfl (.nil)))) T rfl rfl rfl rfl rfl rfl<|bE DU fun kq m7 DU=>gc (dH m7) ⟨rfl,trivial⟩<|bE DU fun mN rY DU=>gc (fK rY) ⟨rfl,rfl,trivial⟩<|lE DU fun gH iT DU=>QM rfl _ iT ?_
 obtain rfl:=O DU
 refine pF rfl<|mv rfl<|bE h fun afe DV h=>?_
 cases gH
 refine RT.move (.some rfl rfl) (s:=.ptr _ _) rfl T<|bE (F DV) fun rS rZ DV=>RT.jQ (.some rfl rfl) (xl rZ) 7 [304,305,306] rfl ⟨rfl,rfl,rfl,trivial⟩ (by decide) rfl rfl (.cons rfl (.cons rfl (.nil))) T<|RT.eO (l:=[(-3),1,0]) (e:=bT) (.some rfl rfl) (.one rfl (.one rfl (.one rfl (.nil)))) T rfl rfl rfl rfl rfl rfl<|bE DV fun rO za DV=>gc (dH za) ⟨rfl,trivial⟩<|bE DV fun oC pL DV=>gc (fK pL) ⟨rfl,rfl,trivial⟩<|lE DV fun tf xU DV=>?_
 refine QM rfl _ xU ?_
 obtain rfl:=O DV
 exact pF rfl<|dn<|⟨tf,h,wR []⟩
 obtain rfl:=O (V DV)
 exact ww<|ww<|ww<|ww<|ww<|ww<|pT rfl<|dn<|⟨true,h,wR []⟩
 obtain rfl:=O (V DU)
 refine ww<|ww<|ww<|ww<|ww<|ww<|pT rfl<|mv rfl<|bE h fun aff afg h=>?_
 obtain rfl:=O (V afg)
 exact ww<|ww<|ww<|ww<|ww<|ww<|pT rfl<|dn<|⟨true,h,wR []⟩
 try dsimp only
 refine ae.n ?_
 cases O4
 refine fs<|sr<|mo (s:=.ptr _ _) rfl ?_
 obtain⟨⟨lu,Ye,Qi,Yf⟩,nO,h⟩:=bS (F h)
 refine RT.J2 .none (gY nO) 7 [304,305,306] [310,311,312] rfl ⟨rfl,rfl,rfl,trivial⟩ (by decide) (by decide) rfl ⟨⟨rfl,T⟩,⟨rfl,T⟩,⟨rfl,T⟩,trivial⟩ rfl rfl (.cons rfl (.cons rfl (.cons rfl (.nil)))) T<|ag rfl<|dn<|qq<|qq ?_
 refine aF h (fun SJ=>AS.bG 96 [(1,.ptr 7 0),(62,.sv (.v (.bool SJ)))] [(7,⟨79,[.sv (.v (.bool vT)),.sv (.v (.int .i64 vU)),.row 310,.row 311,.row 312]⟩)] [(310,TR 23 1 (eS 4 eQ) Ye),(311,TR 3 1 bT Qi),(312,TR 23 1 (eS 4 eQ) Yf)]) (fun h=>?_) (fun Jr h=>?_)
 refine af<|mv rfl<|lE h fun rB ze h=>ne _ rfl rfl (Gk (p:=lu) (q:=0) ze)<|mv rfl<|bE h fun O6 DW h=>?_
 cases rB
 refine RT.move (.some rfl rfl) (s:=.ptr _ _) rfl T<|bE (F DW) fun Di I1 DW=>RT.jQ (.some rfl rfl) (sB I1) 7 [310,311,312] rfl ⟨rfl,rfl,rfl,trivial⟩ (by decide) rfl rfl (.cons rfl (.nil)) T<|RT.eO (l:=[4,6,6]) (e:=bT) (.some rfl rfl) (.one rfl (.one rfl (.one rfl (.nil)))) T rfl rfl rfl rfl rfl rfl<|bE DW fun tQ wW DW=>gc (dH wW) ⟨rfl,trivial⟩<|bE DW fun sO h48 DW=>gc (fK h48) ⟨rfl,rfl,trivial⟩<|lE DW fun MT Ny DW=>QM rfl _ Ny ?_
 obtain rfl:=O DW
 refine pF rfl<|mv rfl<|bE h fun afh AH h=>?_
 cases MT
 refine RT.move (.some rfl rfl) (s:=.ptr _ _) rfl T<|bE (F AH) fun Tu QY AH=>RT.jQ (.some rfl rfl) (sD QY) 7 [310,311,312] rfl ⟨rfl,rfl,rfl,trivial⟩ (by decide) rfl rfl (.cons rfl (.nil)) T<|RT.eO (l:=[30,0,(-6)]) (e:=bT) (.some rfl rfl) (.one rfl (.one rfl (.one rfl (.nil)))) T rfl rfl rfl rfl rfl rfl<|bE AH fun xz GW AH=>gc (dH GW) ⟨rfl,trivial⟩<|bE AH fun Fb I2 AH=>gc (fK I2) ⟨rfl,rfl,trivial⟩<|lE AH fun Qe Vc AH=>QM rfl _ Vc ?_
 obtain rfl:=O AH
 refine pF rfl<|mv rfl<|bE h fun afi LF h=>?_
 cases Qe
 refine RT.move (.some rfl rfl) (s:=.ptr _ _) rfl T<|bE (F LF) fun Fe NA LF=>RT.jQ (.some rfl rfl) (uP NA) 7 [310,311,312] rfl ⟨rfl,rfl,rfl,trivial⟩ (by decide) rfl rfl (.cons rfl (.nil)) T ?_
 obtain rfl:=O LF
 exact pF rfl<|dn<|⟨Fe,h,wR []⟩
 obtain rfl:=O (V LF)
 exact ww<|ww<|pT rfl<|dn<|⟨true,h,wR []⟩
 obtain rfl:=O (V AH)
 refine ww<|ww<|ww<|ww<|ww<|ww<|pT rfl<|mv rfl<|bE h fun afj DS h=>?_
 obtain rfl:=O (V DS)
 exact ww<|ww<|pT rfl<|dn<|⟨true,h,wR []⟩
 obtain rfl:=O (V DW)
 refine ww<|ww<|ww<|ww<|ww<|ww<|pT rfl<|mv rfl<|bE h fun afk Ly h=>?_
 obtain rfl:=O (V Ly)
 refine ww<|ww<|ww<|ww<|ww<|ww<|pT rfl<|mv rfl<|bE h fun afl Lz h=>?_
 obtain rfl:=O (V Lz)
 exact ww<|ww<|pT rfl<|dn<|⟨true,h,wR []⟩
 try dsimp only
 refine ae.n ?_
 cases Jr
 refine fs<|sr<|mo (s:=.ptr _ _) rfl ?_
 obtain⟨⟨x64,Yg,Yh,Yi⟩,h64,h⟩:=bS (F h)
 refine RT.J2 .none (gY h64) 7 [310,311,312] [316,317,318] rfl ⟨rfl,rfl,rfl,trivial⟩ (by decide) (by decide) rfl ⟨⟨rfl,T⟩,⟨rfl,T⟩,⟨rfl,T⟩,trivial⟩ rfl rfl (.cons rfl (.cons rfl (.cons rfl (.nil)))) T<|ag rfl<|dn<|qq ?_
 refine aF h (fun Ld=>AS.bG 96 [(0,.sv (.v (.bool Ld)))] [] []) (fun h=>?_) (fun TB h=>?_)
 refine af<|mv rfl<|lE h fun L2 Zi h=>eq _ rfl rfl (vh (p:=x64) (q:=0) Zi)<|mv rfl<|bE h fun O5 HS h=>?_
 cases L2
 obtain rfl:=O (F HS)
 refine ww<|ww<|ww<|ww<|ww<|pF rfl<|mv rfl<|bE h fun afm LB h=>?_
 obtain rfl:=O (F LB)
 refine ww<|ww<|ww<|ww<|ww<|pF rfl<|mv rfl<|bE h fun afn LD h=>?_
 obtain rfl:=O (F LD)
 refine ww<|ww<|ww<|ww<|ww<|pF rfl<|mv rfl<|bE h fun afo HR h=>?_
 obtain rfl:=O (F HR)
 refine ww<|ww<|pF rfl<|mv rfl<|bE h fun afp WO h=>?_
 obtain rfl:=O (F WO)
 exact ww<|ww<|pF rfl<|ag rfl<|dn<|⟨false,h,wR []⟩
 refine RT.move (.some rfl rfl) (s:=.ptr _ _) rfl T<|bE (V HS) fun MY Zk HS=>RT.jQ (.some rfl rfl) (sB Zk) 7 [316,317,318] rfl ⟨rfl,rfl,rfl,trivial⟩ (by decide) rfl rfl (.cons rfl (.nil)) T<|RT.eO (l:=[2,6,2]) (e:=bT) (.some rfl rfl) (.one rfl (.one rfl (.one rfl (.nil)))) T rfl rfl rfl rfl rfl rfl<|bE HS fun Tn Z5 HS=>gc (dH Z5) ⟨rfl,trivial⟩<|bE HS fun L4 Vn HS=>gc (fK Vn) ⟨rfl,rfl,trivial⟩ ?_
 obtain rfl:=O HS
 refine pT rfl<|mv rfl<|bE h fun afq HT h=>?_
 cases L4
 obtain rfl:=O (F HT)
 refine ww<|ww<|ww<|ww<|ww<|pF rfl<|mv rfl<|bE h fun afr CX h=>?_
 obtain rfl:=O (F CX)
 refine ww<|ww<|ww<|ww<|ww<|pF rfl<|mv rfl<|bE h fun afs HQ h=>?_
 obtain rfl:=O (F HQ)
 refine ww<|ww<|pF rfl<|mv rfl<|bE h fun afu CY h=>?_
 obtain rfl:=O (F CY)
 exact ww<|ww<|pF rfl<|ag rfl<|dn<|⟨false,h,wR []⟩
 refine RT.move (.some rfl rfl) (s:=.ptr _ _) rfl T<|bE (V HT) fun x76 h76 HT=>RT.jQ (.some rfl rfl) (AF h76) 7 [316,317,318] rfl ⟨rfl,rfl,rfl,trivial⟩ (by decide) rfl rfl (.cons rfl (.nil)) T<|RT.eO (l:=[2,6]) (e:=bT) (.some rfl rfl) (.one rfl (.one rfl (.nil))) T rfl rfl rfl rfl rfl rfl<|bE HT fun x78 h78 HT=>gc (dH h78) ⟨rfl,trivial⟩<|bE HT fun Lf Q0 HT=>gc (fK Q0) ⟨rfl,rfl,trivial⟩ ?_
 obtain rfl:=O HT
 refine pT rfl<|mv rfl<|bE h fun afv HU h=>?_
 cases Lf
 obtain rfl:=O (F HU)
 refine ww<|ww<|ww<|ww<|ww<|pF rfl<|mv rfl<|bE h fun afw HO h=>?_
 obtain rfl:=O (F HO)
 refine ww<|ww<|pF rfl<|mv rfl<|bE h fun afx HP h=>?_
 obtain rfl:=O (F HP)
 exact ww<|ww<|pF rfl<|ag rfl<|dn<|⟨false,h,wR []⟩
 refine RT.move (.some rfl rfl) (s:=.ptr _ _) rfl T<|bE (V HU) fun Yj h83 HU=>RT.jQ (.some rfl rfl) (sD h83) 7 [316,317,318] rfl ⟨rfl,rfl,rfl,trivial⟩ (by decide) rfl rfl (.cons rfl (.nil)) T<|RT.eO (l:=[36,(-2),(-6)]) (e:=bT) (.some rfl rfl) (.one rfl (.one rfl (.one rfl (.nil)))) T rfl rfl rfl rfl rfl rfl<|bE HU fun X1 Zo HU=>gc (dH Zo) ⟨rfl,trivial⟩<|bE HU fun Qf Vo HU=>gc (fK Vo) ⟨rfl,rfl,trivial⟩ ?_
 obtain rfl:=O HU
 refine pT rfl<|mv rfl<|bE h fun afz Ru h=>?_
 cases Qf
 obtain rfl:=O (F Ru)
 refine ww<|ww<|pF rfl<|mv rfl<|bE h fun afA afB h=>?_
 obtain rfl:=O (F afB)
 exact ww<|ww<|pF rfl<|ag rfl<|dn<|⟨false,h,wR []⟩
 refine RT.move (.some rfl rfl) (s:=.ptr _ _) rfl T<|bE (V Ru) fun Qg Vq Ru=>RT.jQ (.some rfl rfl) (uP Vq) 7 [316,317,318] rfl ⟨rfl,rfl,rfl,trivial⟩ (by decide) rfl rfl (.cons rfl (.nil)) T ?_
 obtain rfl:=O Ru
 refine pT rfl<|mv rfl<|bE h fun afC Rv h=>?_
 cases Qg
 obtain rfl:=O (F Rv)
 exact ww<|ww<|pF rfl<|ag rfl<|dn<|⟨false,h,wR []⟩
 refine RT.move (.some rfl rfl) (s:=.ptr _ _) rfl T<|bE (V Rv) fun x94 h94 Rv=>RT.jQ (.some rfl rfl) (AG h94) 7 [316,317,318] rfl ⟨rfl,rfl,rfl,trivial⟩ (by decide) rfl rfl (.cons rfl (.nil)) T ?_
 obtain rfl:=O Rv
 exact pT rfl<|ag rfl<|dn<|⟨x94,h,wR []⟩
 try dsimp only
 refine ae.n<|aj ?_
 obtain rfl:=O h
 exact R1 rfl
 refine cT<|sr<|ag rfl<|dn<|aj<|ae.r ?_
 obtain rfl:=O (V h)
 exact R1 rfl
 refine cT<|sr<|ag rfl<|dn<|aj<|ae.r ?_
 obtain rfl:=O (V h)
 exact R1 rfl
end Go.Proofs.YtningmnklfpfjaaGreat
namespace Go.Proofs.YtningmnklfpfjaaGreat
open Go.Fw
noncomputable def o7(x0:Lr):Option (Unit):=match x0 with|⟨aB,aC,aJ,aL⟩=>(iL ⟨aB,aC,aJ,aL⟩).bind fun x5=>(some (!x5)).bind fun x6=>(bif x6 then some ()else(dQ ⟨aB,aC,aJ,aL⟩).bind fun⟨vN,vO,Au,Av,Ri⟩=>none)
noncomputable def kj(x0:Lr):Option (Bool):=match x0 with|⟨aB,aC,aJ,aL⟩=>cm (fun(TC:Bool)=>some TC) fun L1=>(l8 ⟨aB,aC,aJ,aL⟩).bind fun x4=>(bif x4 then some true else(some (aJ.length:Int)).bind fun x8=>(some (decide ((5:Int)<x8))).bind fun x9=>(bif x9 then(lj ⟨aB,aC,aJ,aL⟩).bind fun dB=>some dB else some false).bind fun O8=>some O8).bind fun yU=>(bif yU then some true else(some (decide ((6:Int)<aB))).bind fun ek=>(bif ek then(lj ⟨aB,aC,aJ,aL⟩).bind fun iv=>some iv else some false).bind fun WZ=>some WZ).bind fun FY=>L1 FY
end Go.Proofs.YtningmnklfpfjaaGreat
