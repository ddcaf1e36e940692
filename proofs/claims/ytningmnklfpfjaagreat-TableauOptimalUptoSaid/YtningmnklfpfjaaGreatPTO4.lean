/- A part of the proof: the framework, the plain functions, the followed functions, the plain laws. -/
import Derived.Test.YtningmnklfpfjaaGreatPTO3
set_option linter.unusedVariables false
set_option linter.unusedSimpArgs false
namespace Go.Fw
open Go.RowKit
def Mem.fr(M:Mem)(N:Nat):Mem:=fun b o=>if N≤b then M b o else none
theorem Mem.Z3(M:Mem)(N:Nat):(M.fr N).le M:=fun b o v h=>by
 unfold Mem.fr at h
 split at h
 ·exact h
 ·cases h
theorem Mem.J4{M M':Mem}(h:M.le M')(N:Nat):(M.fr N).le (M'.fr N):=fun b o v e=>by
 unfold Mem.fr at*
 split at e
 ·rename_i hn;rw[if_pos hn];exact h b o v e
 ·cases e
theorem Mem.Ou(M:Mem)(N:Nat):(M.fr N).fr N=M.fr N:=by
 funext b o;unfold Mem.fr;split<;>rfl
def nw(N:Nat)(s:SV):SV:=⟨fun M v=>s.h (M.fr N) v∧∀g,v.ownBlock=some g→∃o,M.fr N g o=some (.agg #[]),fun hM h=>⟨s.mono (Mem.J4 hM N) h.1,fun g e=>by obtain⟨o,q⟩:=h.2 g e;exact⟨o,Mem.J4 hM N _ _ _ q⟩⟩⟩
theorem eO{N:Nat}{s:SV}:SV.imp (nw N s) s:=fun M _ h=>s.mono (Mem.Z3 M N) h.1
instance{N:Nat}{s:SV}{n:Nat}[h:X5 s n]:X5 (nw N s) n:=⟨fun M v hv=>h.h M v (eO M v hv)⟩
instance{N:Nat}{s:SV}{n:Nat}{rows:List (List SV)}[h:Ql s n rows]:Ql (nw N s) n rows:=⟨fun M v hv=>h.h M v (eO M v hv)⟩
instance{N:Nat}{s:SV}{n sz:Nat}{f:Nat→Nat→SV}[h:Sub s n sz f]:Sub (nw N s) n sz (fun a b=>nw N (f a b)):=⟨fun M v hv=>by
 obtain⟨a,c,e,hc,hs⟩:=h.h (M.fr N) v hv.1
 refine⟨a,c,e,hc,fun lo hi h1 h2=>⟨hs lo hi h1 h2,fun g hg=>hv.2 g ?_⟩⟩
 subst e
 cases a with
 |none=>split at hg<;>cases hg
 |some a=>
  split at hg
  ·exact hg
  ·have e:(a.add (lo*sz)).block=a.block:=by unfold Addr.add;split<;>rfl
   rw[show(Value.slice (Option.map (fun x=>x.add (lo*sz)) (some a)) (hi-lo) (c-lo)).ownBlock=some (a.add (lo*sz)).block from rfl,e]at hg
   exact hg⟩
instance{N:Nat}{s:SV}[h:One s]:One (nw N s):=⟨fun M v hv=>h.h _ v hv.1⟩
class Sup (N:Nat) (s:SV):Prop where
 h:∀M v,s.h M v→s.h (M.fr N) v
instance{N:Nat}{x:Value}:Sup N (.v x):=⟨fun _ _ h=>h⟩
instance{N:Nat}{s:SV}:Sup N (nw N s):=⟨fun M v h=>by show s.h ((M.fr N).fr N) v∧∀g,v.ownBlock=some g→∃o,(M.fr N).fr N g o=some (.agg #[]);rw[Mem.Ou];exact h⟩
class Q6 (N:Nat) (l:List SV):Prop where
 h:∀s∈l,∀M v,s.h M v→s.h (M.fr N) v
instance{N:Nat}:Q6 N []:=⟨fun s h=>by cases h⟩
instance{N:Nat}{s:SV}{l:List SV}[a:Sup N s][b:Q6 N l]:Q6 N (s::l):=⟨fun t ht=>by
 rcases List.mem_cons.1 ht with rfl|ht
 ·exact a.h
 ·exact b.h t ht⟩
class Dt (N:Nat) {α:Type} (e:α→List SV):Prop where
 h:∀x,Q6 N (e x)
instance{N:Nat}:Dt N ah:=⟨fun _=>inferInstance⟩
instance{N:Nat}:Dt N bU:=⟨fun _=>inferInstance⟩
instance{N:Nat}:Dt N eB:=⟨fun _=>inferInstance⟩
abbrev fZ(N:Nat)(z:Zr):List SV:=[.v (.bool z.neg),nw N (slc 1 (z.w.map ah))]
abbrev fQ(N:Nat)(q:Qr):List SV:=[.v (.bool q.num.neg),nw N (slc 1 (q.num.w.map ah)),.v (.bool q.den.neg),nw N (slc 1 (q.den.w.map ah))]
instance{N:Nat}:EL (fZ N) 2:=⟨fun _=>rfl,fun _=>inferInstance⟩
instance{N:Nat}:EL (fQ N) 4:=⟨fun _=>rfl,fun _=>inferInstance⟩
instance{N:Nat}:Dt N (fZ N):=⟨fun _=>inferInstance⟩
instance{N:Nat}:Dt N (fQ N):=⟨fun _=>inferInstance⟩
theorem aC{α:Type}{N n:Nat}{e:α→List SV}:SV.imp (.v (.slice none 0 0)) (nw N (slc n (([]:List α).map e))):=fun _ _ h=>⟨.inl ⟨none,h,rfl⟩,fun g e=>by rw[show _=Value.slice none 0 0 from h]at e;cases e⟩
theorem bV.at:∀{l l':List SV},bV l l'→∀(k:Nat) (s':SV),l'[k]? =some s'→∃s,l[k]? =some s∧SV.imp s s':=fun h _ _ e=>bV.get h e
theorem Q7{α:Type}{n:Nat}{e e':α→List SV}(h:∀x,bV (e' x) (e x))(l:List α):SV.imp (slc n (l.map e')) (slc n (l.map e)):=by
 rintro M v (⟨a,h1,h2⟩|⟨b,o,c,h1,h2,h3,h4⟩)
 ·exact .inl ⟨a,h1,by have:=List.map_eq_nil_iff.1 h2;rw[this];rfl⟩
 ·refine .inr ⟨b,o,c,by simpa using h1,by simpa using h2,by simpa using h3,fun i row hr=>?_⟩
  rw[List.getElem?_map]at hr
  cases hx:l[i]? with
  |none=>rw[hx]at hr;cases hr
  |some x=>
   rw[hx]at hr
   have hr:e x=row:=Option.some.inj hr
   subst hr
   obtain⟨g1,g2⟩:=h4 i (e' x) (by rw[List.getElem?_map,hx];rfl)
   refine⟨by rw[bV.len (h x)];exact g1,fun k s hs=>?_⟩
   obtain⟨s2,C6,hi⟩:=bV.get (h x) hs
   obtain⟨y,hy,ho,hh⟩:=g2 k s2 C6
   exact⟨y,hy,ho,hi M y hh⟩
theorem qI(N:Nat)(q:Qr):bV (fQ N q) (eQ q):=⟨SV.aa _,eO,SV.aa _,eO,trivial⟩
theorem Z4{N:Nat}{l:List Qr}:SV.imp (nw N (slc 4 (l.map (fQ N)))) (slc 4 (l.map eQ)):=fun M v h=>Q7 (qI N) l M v (eO M v h)
theorem FE{N n:Nat}{α:Type}{e:α→List SV}[he:Dt N e]{l:List α}{M:Mem}{v:Value}(h:(slc n (l.map e)).h M v)(hb:∀g,v.ownBlock=some g→N≤g∧∃o,M g o=some (.agg #[])):(nw N (slc n (l.map e))).h M v:=by
 refine⟨?_,fun g hg=>by obtain⟨h1,o,h2⟩:=hb g hg;exact⟨o,by unfold Mem.fr;rw[if_pos h1];exact h2⟩⟩
 rcases h with⟨a,h1,h2⟩|⟨b,o,c,h1,h2,h3,h4⟩
 ·exact .inl ⟨a,h1,h2⟩
 ·have hN:N≤b:=(hb b (by rw[h1];rfl)).1
  refine .inr ⟨b,o,c,h1,h2,h3,fun i row hr=>⟨(h4 i row hr).1,fun k s hs=>?_⟩⟩
  obtain⟨y,hy,ho,hh⟩:=(h4 i row hr).2 k s hs
  refine⟨y,by unfold Mem.fr;rw[if_pos hN];exact hy,ho,?_⟩
  rw[List.getElem?_map]at hr
  cases hx:l[i]? with
  |none=>rw[hx]at hr;cases hr
  |some x=>
   rw[hx]at hr
   have hr:e x=row:=Option.some.inj hr
   subst hr
   exact(he.h x).h s (List.mem_of_getElem? hs) M y hh
section
variable {P:Program}{C:Ctx}{S:AS}{Q:Exit→AS→Prop}
theorem az.Q8{E:Env}{a:Act}{w:World}(h:az C S E a w)(vs:List Value)(T:TypeId)(hone:∀v∈vs,v.oneCell'=true):az C S {E with M:=fun b o=>if b=w.heap.size then(vs++[.agg #[]])[o]? else E.M b o} a (w.alloc (.cells ⟨vs⟩ T)):=by
 have hno:∀o,E.M w.heap.size o=none:=fun o=>by
  cases e:E.M w.heap.size o with
  |none=>rfl
  |some v=>have:=nG h.cH e;omega
 refine h.grow (fun b o v e=>?_) (fun b o v e=>?_) (fun b o v e=>?_) (((Below.refl _ _).alloc (Nat.le_refl _) _))
 ·have:b≠w.heap.size:=by rintro rfl;rw[hno o]at e;cases e
  simp[this,e]
 ·by_cases hb:b=w.heap.size
  ·exact .inr (by omega)
  ·simp only[if_neg hb]at e;exact .inl e
 ·by_cases hb:b=w.heap.size
  ·subst hb
   simp only[if_true]at e
   by_cases ho:o<vs.length
   ·rw[List.getElem?_append_left ho]at e
    refine .of ?_ (hone v (List.mem_of_getElem? e))
    rw[World.cell?_alloc_new];simpa using e
   ·rw[List.getElem?_append_right (by omega)]at e
    cases JZ:o-vs.length with
    |succ k=>rw[JZ]at e;simp at e
    |zero=>
     rw[JZ]at e
     simp at e
     subst e
     exact⟨⟨vs⟩,T,by show(w.heap.push _)[w.heap.size]? =_;rw[Array.getElem?_push,if_pos rfl]⟩
  ·simp only[if_neg hb]at e
   refine(h.cH b o v e).same ?_
   show(w.heap.push _)[b]? =_
   rw[Array.getElem?_push,if_neg hb]
theorem kC{c:Code}{i n N:Nat}{E1:TypeId}{α:Type}{e:α→List SV}{l:List α}[el:EL e n][he:Dt N e](hN:N≤C.w0.heap.size)(hb:∀k,¬C.uO k)(hR:S.r i=.live (TR E1 n e l))(hk:Ok P C c (S.nQ i (nw N (slc n (l.map e)))) Q):Ok P C c S Q:=fun a w hs=>by
 obtain⟨E,h⟩:=hs
 have hlen:l.length≤9223372036854775807:=by
  obtain⟨⟨vs,ho,hv⟩,_⟩:=h.rx i _ hR
  rcases ho.2 with⟨_,q2⟩|⟨g',cap,cur,q1,_,q2,q3,q4,q5,q6⟩
  ·have q2:l.length=0:=q2
   omega
  ·have q3:l.length≤cap:=q3
   have:maxLen=9223372036854775807:=by decide
   omega
 exact hk a w (h.nQ hR (qx l) (by rw[List.length_map]) hlen (mA l) (fun M v hv hg=>FE hv (fun g e=>⟨(hg g e).1.elim (fun q=>Nat.le_trans hN q) (fun q=>absurd q (hb g)),(hg g e).2⟩)))
def cM(P:Program)(f:FuncId)(N:Nat)(args:List SV)(r:SV):Prop:=
 ∀(M:Mem) (w:World) (vs:List Value),N≤w.heap.size→M.cH w→SV.dO M args vs→
  Calls P f ⟨vs⟩ w fun e w'=>∃v M',e=.returned v∧M.le M'∧(∀b o x,M' b o=some x→M b o=some x∨w.heap.size≤b)∧M'.cH w'∧r.h M' v∧Below w.heap.size w w'
theorem cM.w{f:FuncId}{N:Nat}{args args':List SV}{r:SV}(h:cM P f N args r)(hi:bV args' args):cM P f N args' r:=fun M w vs hN hM hv=>h M w vs hN hM (hi.holds hv)
theorem aP{f:FuncId}{fn:Func}{code:Code}{N:Nat}{args:List SV}{r:SV}(hf:P.funcs[f]? =some fn)(hb:fn.body=some code)(hn:args.length≤fn.ntmps)
  (h:∀(w:World) (M:Mem) (vs:List Value),N≤w.heap.size→SV.dO M args vs→Ok P (Gw w M) code (AS.init fn.ntmps args) (fun e S=>(e=.normal∨e=.ret)∧Mj P S fn.results.toList r)):cM P f N args r:=by
 intro M w vs hN hM hvs
 refine(callsIn_wide (n:=0)).1 (callsIn_of_wp_marks (F:=Fence.wide) hf hb trivial ?_)
 refine wpIn_mono (h w M vs hN hvs _ w ⟨_,kH hM hvs hn⟩) ?_
 rintro e a' w' ⟨S',⟨he,ss,Sx,himp⟩,E,hh⟩
 have key:LeavesInM Fence.wide 0 P fn a'.tmps (fun e w'=>∃v M',e=.returned v∧M.le M'∧(∀b o x,M' b o=some x→M b o=some x∨w.heap.size≤b)∧M'.cH w'∧r.h M' v∧Below w.heap.size w w') a'.defers .returning w':=by
  obtain⟨ds,h1,h2,h3⟩:=hh.marks
  rw[h1]
  refine nW ds w' h2 (fun r hr=>(h3 r hr).2.2) (fun w2 g1 g2 g3 g4 g5=>?_)
  have C5:=hh.AU h3 g1 g2 g3 g4 g5
  obtain⟨v,hv,hs⟩:=EI C5 Sx
  refine⟨v,hv,v,E.M,rfl,C5.m0,fun b o x e=>?_,C5.cH,himp _ _ hs,C5.os,C5.tape,C5.output,C5.grown,fun k hk=>C5.frame k hk (fun h=>h)⟩
  rcases C5.ep b o x e with h|h|h
  ·exact .inl h
  ·exact .inr h
  ·exact h.elim
 rcases he with rfl|rfl
 ·exact key
 ·exact key
theorem Q9{f:FuncId}{N:Nat}{args:List SV}{E1:TypeId}{n:Nat}{α:Type}{e:α→List SV}{l:List α}[el:EL e n][he:Dt N e](hp:A8 P f args (TR E1 n e l)):cM P f N args (nw N (slc n (l.map e))):=by
 intro M w vs hN hM hvs
 refine(hp M w vs hM hvs).mono ?_
 rintro ex w' ⟨v,M',us,rfl,hle,hnew,hin,hown,Aq,kI,Z5⟩
 have jv:Rows n (l.map e) (l.flatMap e):=qx l
 have vH:=tj jv
 rcases hown.2 with⟨h1,h2⟩|⟨g,cap,cur,h1,_,h2,h3,_,h5,h6⟩
 ·exact⟨v,M',rfl,hle,hnew,hin,⟨.inl ⟨none,h1,by have h2:l.length=0:=h2;rw[List.length_eq_zero_iff.1 h2];rfl⟩,fun g e=>by rw[h1]at e;cases e⟩,Z5⟩
 ·have hg:v.ownBlock=some g:=by rw[h1];rfl
  obtain⟨hge,hno⟩:=kI g hg
  have h3:l.length≤cap:=h3
  have ai0:maxLen=9223372036854775807:=by decide
  refine⟨v,fun b o=>if b=g∧o<l.length*n then us[o]? else if b=g∧o=l.length*n then some (.agg #[])else M' b o,rfl,fun b o x q=>?_,fun b o x q=>?_,fun b o x q=>?_,?_,Z5⟩
  ·have:=hle b o x q
   have:b≠g:=by rintro rfl;rw[hno o]at this;cases this
   simp[this];assumption
  ·simp only at q
   split at q
   ·rename_i hc;exact .inr (by rw[hc.1];exact hge)
   ·split at q
    ·rename_i hc;exact .inr (by rw[hc.1];exact hge)
    ·exact hnew b o x q
  ·simp only at q
   split at q
   ·rename_i hc
    obtain⟨rfl,Gv⟩:=hc
    refine .of ?_ (mA l _ _ Aq x (List.mem_of_getElem? q))
    simp only[World.cell?,h2]
    have h6:cur.toList.take (l.length*n)=us:=h6
    rw[←h6,List.getElem?_take,if_pos Gv]at q
    simpa using q
   ·split at q
    ·rename_i hc
     cases q
     rw[hc.1];exact⟨_,_,h2⟩
    ·exact hin b o x q
  ·refine FE ?_ (fun g' e'=>by rw[hg]at e';cases e';exact⟨Nat.le_trans hN hge,l.length*n,by simp⟩)
   refine .inr ⟨g,0,cap,by rw[h1,List.length_map],by rw[List.length_map];exact h3,by rw[List.length_map];omega,fun k row hk=>?_⟩
   obtain⟨q1,q2⟩:=qu jv k row hk
   refine⟨q1,fun j s hs=>?_⟩
   have C6:=q2 j s hs
   obtain⟨y,hy,hys⟩:=Aq.get C6
   have hlt:k*n+j<l.length*n:=by
    have:=(List.getElem?_eq_some_iff.1 C6).1
    rw[vH,List.length_map]at this;exact this
   refine⟨y,by simp[hlt,hy],mA l _ _ Aq y (List.mem_of_getElem? hy),s.mono (fun b o x q=>?_) hys⟩
   have:b≠g:=by rintro rfl;rw[hno o]at q;cases q
   simp[this,q]
end
section
variable {P:Program}{C:Ctx}{ops:Array Oper}{S:AS}{nd:Bool}{K:List Ac→AS→Prop}{rest:List Oper}{acc:List Ac}
variable {gd:Option (Nat×Bool)}{rg:List Nat}{d:Nat}{ty:TypeId}{pos:String}{aft:Array Edge}{x y z:Operand}{T U E0:TypeId}
variable {α:Type}{l l' k:List α}{e:α→List SV}{n by_ N:Nat}{zv:Value}
theorem RT.aX(hg:Gd ops S gd rg){f:FuncId}[bA P f]{g:Operand}{xs:Array Operand}{at_:Array TypeId}{args:List SV}{r:SV}(hp:cM P f N args r)(hN:N≤C.w0.heap.size)(hf:S.ev g=.sv (.v (.func (.func f) #[] #[])))(hargs:gi S xs.toList args)(hd:d<S.n)
  (next:RunT P C ops nd K rest (⟨rg++(au g++xs.toList.flatMap au),[],[],⟨some (d,.sv r),[],[]⟩⟩::acc) (S.set d (.sv r))):RunT P C ops nd K (⟨some d,.call ⟨.value g,xs,at_⟩,ty,pos,aft,gd⟩::rest) acc S:=by
 refine .inl ⟨_,[],[],_,?_,next⟩
 rintro S' hn ht _ _ i a w L Q ho ⟨E,h⟩ hL
 refine bR (C:=C) ho (hg.wanted h (fun s hs=>ht s (List.mem_append_left _ hs)) rfl) ?_
 have tg:a.eval g=.func (.func f) #[] #[]:=by
  have h1:=h.ev g;rw[aH (fun _ h=>List.mem_append_right _ (List.mem_append_left _ h)) ht,hf]at h1;exact h1
 have hall:=gi.vals h hargs (fun s hs=>ht s (List.mem_append_right _ (List.mem_append_right _ hs)))
 have hr:(execOp a.eval ⟨some d,.call ⟨.value g,xs,at_⟩,ty,pos,aft,gd⟩).run P w=.ok (.enter f ⟨xs.toList.map a.eval⟩) w:=by
  have e2:xs.map a.eval=⟨xs.toList.map a.eval⟩:=by apply Array.ext';simp
  have e1:=bA.run (P:=P) (f:=f) (xs.map a.eval) w
  rw[←e2]
  simp[execOp,resolve,tg,Deferred.ofValue,invoke,e1]
 refine bP (C:=C) (by intro c h;cases h) hr ?_
 refine⟨fun h=>by simp at h,gu ((hp E.M w _ (Nat.le_trans hN h.grown) h.cH hall).mono ?_)⟩
 rintro e w' ⟨v,M',rfl,hM,hnew,hin,hv,hb⟩
 exact hL _ _ ⟨_,(h.grow hM hnew hin hb).put (x:=.sv r) hv (by show d<S'.n;omega) eI⟩
theorem RT.Eg(hg:Gd ops S gd rg){m:Nat}[tS:eu P T E0 m]{c:Int}(hx:S.ev x=.sv (nw N (slc n (l.map e))))(hd:d<S.n)(hc:(l.length:Int)=c)
  (next:RunT P C ops nd K rest (⟨rg++au x,[],[],⟨some (d,.sv (.v (.int .i64 c))),[],[]⟩⟩::acc) (S.set d (.sv (.v (.int .i64 c))))):RunT P C ops nd K (⟨some d,.call ⟨.builtin .len,#[x],#[T]⟩,ty,pos,aft,gd⟩::rest) acc S:=
 RT.len hg hx hd (by rw[List.length_map,hc];exact next)
theorem RT.Z6(hg:Gd ops S gd rg)[tS:eu P T E0 n]{kk:IntKind}{i:Int}{a:α}(hx:S.ev x=.sv (nw N (slc n (l.map e))))(hy:S.ev y=.sv (.v (.int kk i)))(hd:d<S.n)(ha:cC l i=some a)
  (next:RunT P C ops nd K rest (⟨rg++(au x++au y),[],[],⟨some (d,.sv (ref (e a))),[],[]⟩⟩::acc) (S.set d (.sv (ref (e a))))):RunT P C ops nd K (⟨some d,.indexAddr T x y,ty,pos,aft,gd⟩::rest) acc S:=
 RT.indexAddr hg (e a) hx hy hd (qw ha).1 (by rw[List.getElem?_map,(qw ha).2];rfl) next
theorem RT.Ra(hg:Gd ops S gd rg)[tS:eu P T E0 n]{lo hi:Option Operand}(a b:Int)(hx:S.ev x=.sv (nw N (slc n (l.map e))))(hlo:A0 S 0 lo a)(hhi:A0 S l.length hi b)(hd:d<S.n)(h:zT l a b=some l')
  (next:RunT P C ops nd K rest (⟨rg++(au x++(nS lo++nS hi)),[],[],⟨some (d,.sv (nw N (slc n (l'.map e)))),[],[]⟩⟩::acc) (S.set d (.sv (nw N (slc n (l'.map e)))))):RunT P C ops nd K (⟨some d,.slice T x lo hi none,ty,pos,aft,gd⟩::rest) acc S:=by
 obtain⟨h0,h1,h2,h3⟩:=DN h
 exact RT.slice hg hx a b hlo (by rw[List.length_map];exact hhi) hd h0 h1 (by rw[List.length_map];exact h2) _ (by rw[JD,h3]) next
theorem RT.Z7(hg:Gd ops S gd rg)[tS:eu P T E0 n][tE:aJ P E0 n by_ zv][el:EL e n][he:Dt N e]{i:Nat}(hN:N≤C.w0.heap.size)(hb:∀k,¬C.uO k)(hx:S.ev x=.row i)(hR:S.r i=.live (TR E0 n e l))(hy:S.ev y=.sv (slc n (k.map e)))(hd:d<S.n)(yq:S.r d=.un)(xd:d<1000)(h:Av by_ l k=some l')
  (next:RunT P C ops nd K rest (⟨rg++(au x++au y),[],[d,i],⟨some (d,.sv (nw N (slc n (l'.map e)))),[],[(i,.dead),(d,.dead)]⟩⟩::acc) ((AS.bu [(i,.dead),(d,.dead)] S).set d (.sv (nw N (slc n (l'.map e)))))):RunT P C ops nd K (⟨some d,.call ⟨.builtin .append,#[x,y],#[T,T]⟩,ty,pos,aft,gd⟩::rest) acc S:=by
 obtain⟨h1,h2,rfl⟩:=tw h
 have hf:l.flatMap e++(k.map e).flatten=(l++k).flatMap e:=by simp[tD]
 exact RT.JJ hg (.row hx hR) hy hd yq xd (by simpa using h1) (by simpa using h2) _ (rows':=(l++k).map e) (fun _ _ hv hg=>FE hv (fun g e=>⟨(hg g e).1.elim (fun q=>Nat.le_trans hN q) (fun q=>absurd q (hb g)),(hg g e).2⟩)) (by rw[hf];exact qx _) (by simp) (by rw[hf];exact mA _) next
theorem RT.xP(hg:Gd ops S gd rg)[tS:eu P T E0 n][tE:aJ P E0 n by_ zv][he:Dt N e](hN:N≤C.w0.heap.size){len:Nat}{parts:Array (Nat×Operand)}{qs:List (Nat×List SV)}(hp:nR S parts.toList qs)(hd:d<S.n)
  (hc:qc 0 qs=true) (hl:qs.length=len) (hsz:(qs.all fun q=>Nat.beq q.2.length n)=true) (hlen:Nat.ble (len*n) 16777216=true) (KU:(zv.cells.toList.all fun v=>v.oneCell')=true) (jv:qs.map (·.2)=l.map e)
  (next:RunT P C ops nd K rest (⟨rg++kZ parts.toList,[],[],⟨some (d,.sv (nw N (slc n (l.map e)))),[],[]⟩⟩::acc) (S.set d (.sv (nw N (slc n (l.map e)))))):RunT P C ops nd K (⟨some d,.buildSlice T len parts,ty,pos,aft,gd⟩::rest) acc S:=by
 refine .inl ⟨_,[],[],_,?_,next⟩
 rintro S' hn ht _ _ i a w L Q ho ⟨E,h⟩ hL
 refine bR (C:=C) ho (hg.wanted h (fun s hs=>ht s (List.mem_append_left _ hs)) rfl) ?_
 obtain⟨vs,hr,hall,hone⟩:=om (P:=P) (T:=T) (E0:=E0) (n:=n) (by_:=by_) (zv:=zv) (d:=d) (ty:=ty) (pos:=pos) (aft:=aft) (gd:=gd) h hp (fun s hs=>ht s (List.mem_append_right _ hs)) hc hl hsz (Nat.le_of_ble_eq_true hlen) (List.all_eq_true.1 KU)
 refine bP (C:=C) (by intro c h;cases h) hr (hL _ _ ⟨_,(h.Q8 vs E0 hone).put (d:=d) (x:=.sv (nw N (slc n (l.map e)))) (v:=.slice (some ⟨w.heap.size,0,none⟩) len len) ?_ (by show d<S'.n;omega) eI⟩)
 have hrw:Rows n (qs.map (·.2)) (qs.map (·.2)).flatten:=⟨rfl,fun r hr=>by
  obtain⟨q,hq,rfl⟩:=List.mem_map.1 hr
  exact Nat.eq_of_beq_eq_true (List.all_eq_true.1 hsz q hq)⟩
 have Ms:=tE.p
 have hlb:len≤16777216:=Nat.le_trans (Nat.le_mul_of_pos_right _ Ms) (Nat.le_of_ble_eq_true hlen)
 refine FE ?_ (fun g e=>by cases e;exact⟨Nat.le_trans hN h.grown,vs.length,by simp⟩)
 rw[←jv]
 refine .inr ⟨w.heap.size,0,len,by rw[List.length_map,hl],by rw[List.length_map,hl];exact Nat.le_refl _,by rw[List.length_map,hl];omega,fun k row hk=>?_⟩
 obtain⟨q1,q2⟩:=qu hrw k row hk
 refine⟨q1,fun j s hs=>?_⟩
 obtain⟨y,hy,hys⟩:=hall.get (q2 j s hs)
 refine⟨y,by show(if w.heap.size=w.heap.size then(vs++[Value.agg #[]])[0+k*n+j]? else _)=_;rw[if_pos rfl,Nat.zero_add,List.getElem?_append_left (List.getElem?_eq_some_iff.1 hy).1];exact hy,hone y (List.mem_of_getElem? hy),s.mono (fun b o v e=>?_) hys⟩
 have:b≠w.heap.size:=by rintro rfl;have:=nG h.cH e;omega
 simp[this,e]
end
end Go.Fw
namespace Go.Proofs.YtningmnklfpfjaaGreat
open Go.Fw Go.Fw.Z Go.RowKit
theorem nL{x0:List Nat}(N:Nat){r:List Nat}(h:cV x0=some r):cM Tryz.prog 175 N [slc 1 (List.map ah x0)] (nw N (slc 1 (List.map ah r))):=Q9 (mF h)
theorem qi{x0:List Nat}(N:Nat){r:List Nat}(h:aD x0=some r):cM Tryz.prog 144 N [nw N (slc 1 (List.map ah x0))] (nw N (slc 1 (List.map ah r))):=by
 refine aP Tryz.func144 rfl (Nat.le_of_ble_eq_true rfl) (fun cE M vs hN hvs=>?_)
 unfold aD at h
 refine sr<|aI rfl (aC (N:=N) (n:=1) (e:=ah))<|dn<|qq<|bE h fun Nv E6 zW=>?_
 refine aV (fun(Bi:(List Nat))=>AS.bG 21 [(0,.sv (nw N (slc 1 (List.map ah Bi))))] [] []) (fun Bi=>Bi=Nv) ?_ (fun Bi E7=>?_)
 refine aq ?_
 refine aW E6 (fun EZ=>AS.bG 21 [(0,.sv (nw N (slc 1 (List.map ah EZ))))] [] []) (wR []) (fun zV y10 G10 h E8 By=>?_)
 try dsimp only
 refine qq<|qq ?_
 refine aF h (fun Lh=>AS.bG 21 [(0,.sv (nw N (slc 1 (List.map ah zV)))),(14,.sv (.v (.bool Lh)))] [] []) (fun h=>?_) (fun Bh h=>?_)
 refine af<|mv rfl<|lE h fun x4 h4 h=>RT.Eg .none rfl T h4<|lE h fun x5 h5 h=>gt _ rfl rfl h5<|mv rfl<|bE h fun yE ew h=>?_
 cases x5
 obtain rfl:=O (F ew)
 exact ww<|ww<|ww<|ww<|ww<|ww<|ww<|pF rfl<|dn<|⟨false,h,wR []⟩
 refine gm rfl<|gm rfl<|lE (V ew) fun x9 h9 ew=>RT.Eg (.some rfl rfl) rfl T h9<|lE ew fun dB fM ew=>RT.sub (.some rfl rfl) _ rfl rfl T fM<|bE ew fun gY mG ew=>RT.Z6 (.some rfl rfl) rfl rfl T mG<|gr rfl rfl<|lE ew fun iu gN ew=>Za _ rfl rfl (Yd (p:=gY) (q:=0) gN) ?_
 obtain rfl:=O ew
 exact pT rfl<|dn<|⟨iu,h,wR []⟩
 try dsimp only
 refine ae.n ?_
 cases Bh
 refine cF<|aZ<|ae.x<|ae.x<|aG.x<|ae.n ?_
 obtain rfl:=O (F h)
 exact⟨zV,By _ rfl,wR []⟩
 refine cT<|aE<|ae.n<|aq<|af<|mv rfl<|mv rfl<|lE (V h) fun gh kJ h=>RT.Eg .none rfl T kJ<|lE h fun eD ij h=>sb _ rfl rfl ij<|bE h fun k8 kn h=>RT.Ra .none 0 eD rfl rfl ⟨_,rfl⟩ T kn<|ag rfl<|RT.done<|aG.n ?_
 obtain rfl:=O h
 exact ae.n ⟨k8,E8 _ rfl,wR []⟩
 subst E7
 try dsimp only
 refine ae.n<|sr<|mv rfl<|ag rfl<|dn<|aj ?_
 obtain rfl:=O zW
 exact R1 rfl
theorem eP{x0:Bool}{x1:List Nat}(N:Nat){r:Zr}(h:bF x0 x1=some r):cM Tryz.prog 163 N [.v (.bool x0),nw N (slc 1 (List.map ah x1))] (.agg ((fZ N) r)):=by
 refine aP Tryz.func163 rfl (Nat.le_of_ble_eq_true rfl) (fun cE M vs hN hvs=>?_)
 unfold bF at h
 refine sr<|al (cs:=[.v (.bool false),nw N (slc 1 (List.map ah []))]) (by exact⟨SV.aa _,aC,trivial⟩) rfl<|dn<|sr<|mv rfl<|bE h fun x6 h6 h=>RT.aX .none (qi N h6) hN rfl ⟨rfl,trivial⟩ T<|ag rfl<|dn<|qq<|sr<|mv rfl<|lE h fun x8 h8 h=>RT.Eg .none rfl T h8<|lE h fun x9 h9 h=>eq _ rfl rfl (tB (p:=x8) (q:=0) h9)<|dn ?_
 cases x9
 refine fs<|sr<|mv rfl<|mv rfl<|bI (cs:=[_,_]) (cs':=[.v (.bool x0),nw N (slc 1 (List.map ah x6))]) (.one rfl (.one rfl (.nil))) ⟨SV.aa _,SV.aa _,trivial⟩<|so rfl rfl rfl<|dn<|aj ?_
 obtain rfl:=O (F h)
 exact RZ (.agg rfl rfl (.cons rfl (.cons rfl (.nil))) rfl (.nil))
 refine cT<|sr<|bI (cs:=[_,_]) (cs':=[.v (.bool false),nw N (slc 1 (List.map ah []))]) (.nil) ⟨SV.aa _,aC,trivial⟩<|so rfl rfl rfl<|dn<|aj<|ae.r ?_
 obtain rfl:=O (V h)
 exact RZ (.agg rfl rfl (.cons rfl (.cons rfl (.nil))) rfl (.nil))
theorem jL{x0:Bool}{x1:Nat}(N:Nat){r:Zr}(h:dm x0 x1=some r):cM Tryz.prog 137 N [.v (.bool x0),.v (.int .u64 ((x1:Nat):Int))] (.agg ((fZ N) r)):=by
 refine aP Tryz.func137 rfl (Nat.le_of_ble_eq_true rfl) (fun cE M vs hN hvs=>?_)
 unfold dm at h
 refine sr<|al (cs:=[.v (.bool false),nw N (slc 1 (List.map ah []))]) (by exact⟨SV.aa _,aC,trivial⟩) rfl<|dn<|qq<|aq<|sr<|mv rfl<|lE h fun x7 h7 h=>eq _ rfl rfl (Yd (p:=x1) (q:=0) h7)<|ag rfl<|dn ?_
 cases x7
 refine cF<|sr<|mv rfl<|lE (F h) fun gY mG h=>RT.shr .none _ rfl rfl T (by decide) (zU (k:=.u64) (a:=x1) (q:=32) (s:=32) rfl mG)<|lE h fun dh ey h=>eq _ rfl rfl (Yd (p:=gY) (q:=0) ey)<|ag rfl<|dn ?_
 cases dh
 refine cF<|aE<|aG.n<|ae.n<|sr<|mv rfl<|mv rfl<|lE (F h) fun gV l8 h=>cv _ rfl (UK.nat l8)<|mv rfl<|lE h fun kf nK h=>RT.shr .none _ rfl rfl T (by decide) (zU (k:=.u64) (a:=x1) (q:=32) (s:=32) rfl nK)<|lE h fun jw pz h=>cv _ rfl (UK.nat pz)<|RT.xP (l:=[gV,jw]) (e:=ah) .none hN (.one rfl (.one rfl (.nil))) T rfl rfl rfl rfl rfl rfl<|bI (cs:=[_,_]) (cs':=[.v (.bool x0),nw N (slc 1 (List.map ah [gV,jw]))]) (.one rfl (.one rfl (.nil))) ⟨SV.aa _,SV.aa _,trivial⟩ ?_
 refine so rfl rfl rfl<|dn<|aj ?_
 obtain rfl:=O h
 exact RZ (.agg rfl rfl (.cons rfl (.cons rfl (.nil))) rfl (.nil))
 refine cT<|sr<|mv rfl<|mv rfl<|lE (V h) fun dQ fN h=>cv _ rfl (UK.nat fN)<|RT.xP (l:=[dQ]) (e:=ah) .none hN (.one rfl (.nil)) T rfl rfl rfl rfl rfl rfl<|bI (cs:=[_,_]) (cs':=[.v (.bool x0),nw N (slc 1 (List.map ah [dQ]))]) (.one rfl (.one rfl (.nil))) ⟨SV.aa _,SV.aa _,trivial⟩<|so rfl rfl rfl<|dn<|aj<|aG.r<|ae.r ?_
 obtain rfl:=O h
 exact RZ (.agg rfl rfl (.cons rfl (.cons rfl (.nil))) rfl (.nil))
 refine cT<|sr<|bI (cs:=[_,_]) (cs':=[.v (.bool false),nw N (slc 1 (List.map ah []))]) (.nil) ⟨SV.aa _,aC,trivial⟩<|so rfl rfl rfl<|dn<|aj<|aG.r<|ae.r ?_
 obtain rfl:=O (V h)
 exact RZ (.agg rfl rfl (.cons rfl (.cons rfl (.nil))) rfl (.nil))
theorem pU{x0:List Nat}{x1:List Nat}(N:Nat){r:List Nat}(h:c6 x0 x1=some r):cM Tryz.prog 194 N [slc 1 (List.map ah x0),slc 1 (List.map ah x1)] (nw N (slc 1 (List.map ah r))):=by
 refine aP Tryz.func194 rfl (Nat.le_of_ble_eq_true rfl) (fun cE M vs hN hvs=>?_)
 unfold c6 at h
 refine sr<|aI rfl (aC (N:=N) (n:=1) (e:=ah))<|dn<|sr<|mv rfl<|lE h fun dB fM h=>ln rfl fM<|mv rfl<|lE h fun dh ey h=>ln rfl ey<|lE h fun iu gN h=>RT.max .none _ rfl rfl T (GG (p:=dB) (q:=dh) gN)<|lE h fun eH jc h=>ad _ rfl rfl jc<|bE h fun dQ fN h=>RT.vK (e:=ah) .none rfl rfl T rfl T fN<|RT.alloc .none T rfl rfl<|RT.iC (cells:=[_]) .none rfl rfl rfl rfl T rfl<|dn<|sr ?_
 refine RT.tu .none (cw 0) rfl ⟨rfl,trivial⟩ T rfl rfl<|RT.alloc .none T rfl rfl<|RT.mz (cells:=[_]) .none (s:=.ek _ _) rfl rfl rfl T rfl<|dn<|qq<|sr<|mv rfl<|mv rfl<|cl (lj x0 x1) ⟨rfl,rfl,trivial⟩<|dn<|aq<|bE h fun e7 QM GR=>?_
 obtain⟨Df,QN,QO,QS⟩:=iU QM
 refine fz (lp x0 x1) (fun _ _ _ _ _=>trivial) rfl (fun k=>AS.bG 35 [(5,.ptr 5 0),(6,.ptr 6 0),(19,.sv (gX 214 [ref [slc 1 (List.map ah x0)],ref [slc 1 (List.map ah x1)]]))] [(6,⟨186,[.ek 202 [.box 16]]⟩),(16,⟨128,[.sv (.v (.int .u64 (((Df k).1:Nat):Int)))]⟩),(5,⟨39,[.row 302]⟩)] [(302,TR 130 1 ah (Df k).2)]) [6,16,5] rfl (fun _=>⟨rfl,rfl⟩) (nH rfl) (fun _=>rfl) (nI rfl) (by(try dsimp only);rw[QN];(try dsimp only);exact cS (fun i=>bif Nat.beq i 302 then 15 else i) rfl rfl rfl rfl rfl ⟨.ptr,.ptr,.sv (SV.aa _),trivial⟩ ⟨⟨_,rfl,⟨.ek,trivial⟩⟩,⟨_,rfl,⟨.sv (SV.aa _),trivial⟩⟩,⟨_,rfl,⟨.row rfl,trivial⟩⟩,trivial⟩ ⟨⟨_,rfl,bV.refl _⟩,trivial⟩ (fun i hi=>by rw[bQ (show i≠302 by omega)];rfl)) (fun k hk D hD=>?_) ?_
 have h:=QO k hk
 obtain⟨sk,GS⟩:∃q,Df k=q:=⟨_,rfl⟩
 rw[GS]at h⊢
 obtain⟨rH,gj⟩:=sk
 dsimp only[AS.JH,ot]
 try dsimp only at h
 refine lE h fun Zb Bz h=>?_
 rw[Bz]
 refine lE h fun Zc Vk h=>?_
 rw[Vk]
 refine sr<|ag rfl<|dn<|af<|ag rfl<|RT.done ?_
 refine ae.n ⟨rfl,?_⟩
 dsimp only[AS.xw]
 refine aq<|ai mixed<|RT.eA .none (s:=.row _) rfl rfl rfl T<|RT.eA .none (s:=.ek _ _) rfl rfl rfl T<|mv rfl<|mv rfl<|lE h fun lf nY h=>ad _ rfl rfl (UK.add (a:=Zb) (b:=Zc) nY) ?_
 obtain⟨⟨kj,k9⟩,og,h⟩:=bS h
 refine cB (aU og) 16 rfl ⟨rfl,trivial⟩<|bl (l:=[kj]) (e:=ah) (.one rfl (.nil)) rfl rfl rfl rfl rfl rfl<|bE h fun gA iP h=>aR (k:=[kj]) (e:=ah) rfl rfl rfl iP<|RT.iC (cells:=[_]) .none rfl rfl rfl rfl T rfl ?_
 refine RT.done ⟨by kernel_rfl,?_⟩
 refine aG.n ?_
 replace h:=Option.some.inj h
 refine⟨trivial,rfl,rfl,?_⟩
 try dsimp only
 rw[←h]
 try dsimp only
 exact cS (fun i=>bif Nat.beq i 302 then 29 else i) rfl rfl rfl rfl rfl ⟨.ptr,.ptr,.sv (SV.aa _),trivial⟩ ⟨⟨_,rfl,⟨.ek,trivial⟩⟩,⟨_,rfl,⟨.sv (SV.aa _),trivial⟩⟩,⟨_,rfl,⟨.row rfl,trivial⟩⟩,trivial⟩ ⟨⟨_,rfl,bV.refl _⟩,trivial⟩ (fun i hi=>by rw[bQ (show i≠302 by omega)];rfl)
 rw[QS]
 obtain⟨rH,gj⟩:=e7
 try dsimp only
 refine aG.n<|ae.n<|qq<|ai mixed<|RT.eA .none (s:=.row _) rfl rfl rfl T<|RT.eA .none (s:=.ek _ _) rfl rfl rfl T ?_
 obtain⟨⟨iE,k11⟩,kA,GR⟩:=bS GR
 refine cB (aU kA) 16 rfl ⟨rfl,trivial⟩<|bl (l:=[iE]) (e:=ah) (.one rfl (.nil)) rfl rfl rfl rfl rfl rfl<|bE GR fun o9 qf GR=>RT.Z7 (k:=[iE]) (e:=ah) .none hN (fun _ h=>h) rfl rfl rfl T rfl T qf<|ag rfl ?_
 refine RT.done ⟨by kernel_rfl,?_⟩
 refine ae.n<|aj ?_
 obtain rfl:=O GR
 exact R1 rfl
theorem lH{x0:List Nat}{x1:List Nat}(N:Nat){r:List Nat}(h:bY x0 x1=some r):cM Tryz.prog 195 N [slc 1 (List.map ah x0),slc 1 (List.map ah x1)] (nw N (slc 1 (List.map ah r))):=by
 refine aP Tryz.func195 rfl (Nat.le_of_ble_eq_true rfl) (fun cE M vs hN hvs=>?_)
 unfold bY at h
 refine sr<|aI rfl (aC (N:=N) (n:=1) (e:=ah))<|dn<|sr<|mv rfl<|lE h fun dB fM h=>ln rfl fM<|bE h fun gY mG h=>RT.vK (e:=ah) .none rfl rfl T rfl T mG<|RT.alloc .none T rfl rfl<|RT.iC (cells:=[_]) .none rfl rfl rfl rfl T rfl<|dn<|sr<|RT.tu .none (cw 1) rfl ⟨rfl,trivial⟩ T rfl rfl<|RT.alloc .none T rfl rfl<|RT.mz (cells:=[_]) .none (s:=.ek _ _) rfl rfl rfl T rfl<|dn<|qq<|sr<|mv rfl ?_
 refine mv rfl<|cl (lj x0 x1) ⟨rfl,rfl,trivial⟩<|dn<|aq<|bE h fun e7 QM GR=>?_
 obtain⟨Df,QN,QO,QS⟩:=iU QM
 refine fz (lp x0 x1) (fun _ _ _ _ _=>trivial) rfl (fun k=>AS.bG 28 [(5,.ptr 5 0),(6,.ptr 6 0),(15,.sv (gX 214 [ref [slc 1 (List.map ah x0)],ref [slc 1 (List.map ah x1)]]))] [(6,⟨186,[.ek 202 [.box 12]]⟩),(12,⟨128,[.sv (.v (.int .u64 (((Df k).1:Nat):Int)))]⟩),(5,⟨39,[.row 302]⟩)] [(302,TR 130 1 ah (Df k).2)]) [6,12,5] rfl (fun _=>⟨rfl,rfl⟩) (nH rfl) (fun _=>rfl) (nI rfl) (by(try dsimp only);rw[QN];(try dsimp only);exact cS (fun i=>bif Nat.beq i 302 then 11 else i) rfl rfl rfl rfl rfl ⟨.ptr,.ptr,.sv (SV.aa _),trivial⟩ ⟨⟨_,rfl,⟨.ek,trivial⟩⟩,⟨_,rfl,⟨.sv (SV.aa _),trivial⟩⟩,⟨_,rfl,⟨.row rfl,trivial⟩⟩,trivial⟩ ⟨⟨_,rfl,bV.refl _⟩,trivial⟩ (fun i hi=>by rw[bQ (show i≠302 by omega)];rfl)) (fun k hk D hD=>?_) ?_
 have h:=QO k hk
 obtain⟨sk,GS⟩:∃q,Df k=q:=⟨_,rfl⟩
 rw[GS]at h⊢
 obtain⟨uU,gj⟩:=sk
 dsimp only[AS.JH,ot]
 try dsimp only at h
 refine lE h fun Zd Vl h=>?_
 rw[Vl]
 refine lE h fun Ze Vm h=>?_
 rw[Vm]
 refine sr<|ag rfl<|dn<|af<|ag rfl<|RT.done ?_
 refine ae.n ⟨rfl,?_⟩
 dsimp only[AS.xw]
 refine aq<|ai mixed<|RT.eA .none (s:=.row _) rfl rfl rfl T<|RT.eA .none (s:=.ek _ _) rfl rfl rfl T<|mv rfl<|mv rfl<|lE h fun kf nK h=>sb _ rfl rfl (UK.sub (a:=4294967295) (b:=Ze) nK)<|lE h fun jw pz h=>ad _ rfl rfl (UK.add (a:=Zd) (b:=kf) pz) ?_
 obtain⟨⟨gM,k9⟩,l9,h⟩:=bS h
 refine cB (aU l9) 12 rfl ⟨rfl,trivial⟩<|bl (l:=[gM]) (e:=ah) (.one rfl (.nil)) rfl rfl rfl rfl rfl rfl<|bE h fun lf nY h=>aR (k:=[gM]) (e:=ah) rfl rfl rfl nY<|RT.iC (cells:=[_]) .none rfl rfl rfl rfl T rfl ?_
 refine RT.done ⟨by kernel_rfl,?_⟩
 refine aG.n ?_
 replace h:=Option.some.inj h
 refine⟨trivial,rfl,rfl,?_⟩
 try dsimp only
 rw[←h]
 try dsimp only
 exact cS (fun i=>bif Nat.beq i 302 then 26 else i) rfl rfl rfl rfl rfl ⟨.ptr,.ptr,.sv (SV.aa _),trivial⟩ ⟨⟨_,rfl,⟨.ek,trivial⟩⟩,⟨_,rfl,⟨.sv (SV.aa _),trivial⟩⟩,⟨_,rfl,⟨.row rfl,trivial⟩⟩,trivial⟩ ⟨⟨_,rfl,bV.refl _⟩,trivial⟩ (fun i hi=>by rw[bQ (show i≠302 by omega)];rfl)
 rw[QS]
 obtain⟨uU,gj⟩:=e7
 try dsimp only
 refine aG.n<|ae.n<|sr<|RT.eA .none (s:=.row _) rfl rfl rfl T<|an (s:=.row _) rfl<|dn<|kC (i:=302) (E1:=130) (n:=1) (e:=ah) (l:=gj) hN (fun _ h=>h) rfl<|aj ?_
 obtain rfl:=O GR
 exact R1 rfl
theorem xQ{x0:List Nat}{x1:List Nat}(N:Nat){r:List Nat}(h:dL x0 x1=some r):cM Tryz.prog 164 N [slc 1 (List.map ah x0),slc 1 (List.map ah x1)] (nw N (slc 1 (List.map ah r))):=by
 refine aP Tryz.func164 rfl (Nat.le_of_ble_eq_true rfl) (fun cE M vs hN hvs=>?_)
 unfold dL at h
 refine sr<|aI rfl (aC (N:=N) (n:=1) (e:=ah))<|dn<|sr<|mv rfl<|lE h fun dh ey h=>ln rfl ey<|mv rfl<|lE h fun eH jc h=>ln rfl jc<|lE h fun dQ fN h=>ad _ rfl rfl fN<|bE h fun gy jA h=>RT.kO (n:=1) (e:=ah) .none rfl rfl T rfl T (by rfl) (by decide) (by exact⟨SV.aa _,trivial⟩) jA<|an (s:=.row _) rfl<|dn<|qq<|sr<|mv rfl<|lE h fun eD ij h=>ln rfl ij ?_
 refine mv rfl<|dn<|bE h fun e28 Vn Vo=>?_
 refine aV (fun(mD:(List Nat))=>AS.bG 63 [(5,.row 16)] [] [(16,TR 130 1 ah mD)]) (fun mD=>mD=e28) ?_ (fun mD Vp=>?_)
 refine aq ?_
 refine aW Vn (fun MV=>AS.bG 63 [(1,.sv (slc 1 (List.map ah x1))),(5,.row 16),(17,.sv (slc 1 (List.map ah x0))),(18,.sv (.v (.int .i64 eD))),(19,.sv (.v (.int .i64 MV.1)))] [] [(16,TR 130 1 ah MV.2)]) (wR []) (fun MV y28 G28 h Vq Vr=>?_)
 obtain⟨j1,yF⟩:=MV
 try dsimp only
 refine sr<|lE h fun gV l8 h=>ls _ rfl rfl l8<|dn<|qq ?_
 cases gV
 refine cF<|aZ<|ae.x<|ae.x<|aG.x<|ae.n ?_
 obtain rfl:=O (F h)
 exact⟨yF,Vr _ rfl,wR []⟩
 refine cT<|aE<|ae.n<|qq<|aq<|sr<|mv rfl<|bE (V h) fun kf nK h=>ix rfl rfl nK<|lr rfl rfl<|ag rfl<|ag rfl<|dn<|sr<|RT.tu .none (cw 0) rfl ⟨rfl,trivial⟩ T rfl rfl<|an (s:=.ek _ _) rfl<|dn<|qq<|sr<|mv rfl<|lE h fun lf nY h=>ln rfl nY<|mv rfl<|dn<|bE h fun UT Nx ez=>?_
 refine aV (fun(yL:Nat×(List Nat))=>AS.bG 63 [(1,.sv (slc 1 (List.map ah x1))),(5,.row 16),(6,.sv (.v (.int .i64 j1))),(8,.ek 202 [.box 24]),(17,.sv (slc 1 (List.map ah x0))),(18,.sv (.v (.int .i64 eD))),(19,.sv (.v (.int .i64 j1)))] [(24,⟨128,[.sv (.v (.int .u64 ((yL.1:Nat):Int)))]⟩)] [(16,TR 130 1 ah yL.2)]) (fun yL=>yL=UT) ?_ (fun yL Ny=>?_)
 refine aq ?_
 refine aW Nx (fun DU=>AS.bG 63 [(1,.sv (slc 1 (List.map ah x1))),(5,.row 16),(6,.sv (.v (.int .i64 j1))),(7,.sv (.v (.int .u32 ((kf:Nat):Int)))),(8,.ek 202 [.box 24]),(17,.sv (slc 1 (List.map ah x0))),(18,.sv (.v (.int .i64 eD))),(19,.sv (.v (.int .i64 j1))),(25,.sv (slc 1 (List.map ah x1))),(26,.sv (.v (.int .i64 lf))),(27,.sv (.v (.int .i64 DU.1)))] [(24,⟨128,[.sv (.v (.int .u64 ((DU.2.1:Nat):Int)))]⟩)] [(16,TR 130 1 ah DU.2.2)]) (wR []) (fun DU y38 G38 h Nz NA=>?_)
 obtain⟨wB,qA,rI⟩:=DU
 try dsimp only
 refine sr<|lE h fun nX tR h=>ls _ rfl rfl tR<|dn<|qq ?_
 cases nX
 refine cF<|aZ<|ae.x<|ae.x<|aG.x<|ae.n ?_
 obtain rfl:=O (F h)
 exact⟨(qA,rI),NA _ rfl,wR []⟩
 refine cT<|aE<|ae.n<|qq<|aq<|sr<|mv rfl<|bE (V h) fun yG wD h=>ix rfl rfl wD<|lr rfl rfl<|ag rfl<|ag rfl<|dn<|af<|mo (s:=.row _) rfl<|mv rfl<|mv rfl<|lE h fun rJ yM h=>ad _ rfl rfl yM<|mo (s:=.ek _ _) rfl<|mo (s:=.row _) rfl<|mv rfl<|mv rfl<|lE h fun kg mQ h=>ad _ rfl rfl mQ<|bE h fun tH zY h=>iR rfl rfl rfl zY ?_
 refine bE h fun rf yN h=>lR rfl rfl yN rfl<|lE h fun ri AA h=>cv _ rfl (UK.nat AA)<|mv rfl<|lE h fun C0 IS h=>cv _ rfl (UK.nat IS)<|mv rfl<|lE h fun sL vo h=>cv _ rfl (UK.nat vo)<|lE h fun rK h48 h=>RT.mul .none _ rfl rfl T (UK.mul (a:=C0) (b:=sL) h48)<|lE h fun US QT h=>ad _ rfl rfl (UK.add (a:=ri) (b:=rK) QT) ?_
 obtain⟨⟨sM,Zf⟩,BA,h⟩:=bS h
 refine cB (aU BA) 24 rfl ⟨rfl,trivial⟩<|bE h fun EU Fg h=>iR rfl rfl rfl Fg<|bE h fun P9 GU h=>sR sM rfl rfl rfl rfl GU<|RT.done<|aG.n<|ae.n<|af<|lE h fun vO yO h=>ad _ rfl rfl yO<|mv rfl<|RT.done ?_
 obtain rfl:=O h
 exact ae.n ⟨(vO,Zf,P9),Nz _ rfl,wR []⟩
 subst Ny
 obtain⟨Bj,EV⟩:=yL
 try dsimp only
 refine ae.n<|af<|mo (s:=.row _) rfl<|mv rfl<|mv rfl<|lE ez fun EW IT ez=>ln rfl IT<|lE ez fun Qa Vs ez=>ad _ rfl rfl Vs<|mo (s:=.ek _ _) rfl ?_
 obtain⟨⟨II,k45⟩,NB,ez⟩:=bS ez
 refine cB (aU NB) 24 rfl ⟨rfl,trivial⟩<|bE ez fun JR Li ez=>iR rfl rfl rfl Li<|bE ez fun Zg NC ez=>sR II rfl rfl rfl rfl NC<|RT.done<|aG.n<|ae.n<|af<|lE ez fun EX ND ez=>ad _ rfl rfl ND<|mv rfl<|RT.done ?_
 obtain rfl:=O ez
 exact ae.n ⟨(EX,Zg),Vq _ rfl,wR []⟩
 subst Vp
 try dsimp only
 refine ae.n<|sr<|mo (s:=.row _) rfl<|an (s:=.row _) rfl<|dn<|kC (i:=16) (E1:=130) (n:=1) (e:=ah) (l:=mD) hN (fun _ h=>h) rfl<|aj ?_
 obtain rfl:=O Vo
 exact R1 rfl
set_option maxHeartbeats 4000000 in
theorem yY{x0:List Nat}{x1:List Nat}(N:Nat){r:(List Nat)×(List Nat)}(h:fm x0 x1=some r):cM Tryz.prog 205 N [slc 1 (List.map ah x0),slc 1 (List.map ah x1)] (.vG [nw N (slc 1 (List.map ah r.1)),nw N (slc 1 (List.map ah r.2))]):=by
 refine aP Tryz.func205 rfl (Nat.le_of_ble_eq_true rfl) (fun cE M vs hN hvs=>?_)
 unfold fm at h
 refine sr<|ag rfl<|ag rfl<|dn<|bz (iO 4 306 130 1 rfl rfl T)<|bz (iO 5 308 130 1 rfl rfl T)<|sr<|mv rfl<|lE h fun gh kJ h=>ln rfl kJ<|ag rfl<|dn<|sr<|mv rfl<|mv rfl<|lE h fun gV l8 h=>sb _ rfl rfl l8<|bE h fun gz mH h=>ix rfl rfl mH<|lr rfl rfl<|bE h fun jw pz h=>cl (jo pz) ⟨rfl,trivial⟩ ?_
 refine lE h fun gM l9 h=>cv _ rfl (UK.conv l9)<|ag rfl<|dn<|qq<|ai mixed<|mv rfl<|mv rfl<|bE h fun kj og h=>cN (nU og) ⟨rfl,rfl,trivial⟩<|mv rfl<|mv rfl<|bE h fun yG wD h=>cl (oA wD) ⟨rfl,rfl,trivial⟩<|mv rfl<|bE h fun iE kA h=>RT.yz .none 0 gh rfl rfl ⟨_,rfl⟩ T kA<|an (s:=.row _) rfl<|ag rfl ?_
 refine RT.done ⟨by kernel_rfl,?_⟩
 refine ae.n<|sr<|mv rfl<|lE h fun o9 qf h=>ln rfl qf<|mv rfl<|lE h fun pH pA h=>sb _ rfl rfl pA<|lE h fun vn yP h=>ad _ rfl rfl yP<|bE h fun xy Ff h=>RT.kO (n:=1) (e:=ah) .none rfl rfl T rfl T (by rfl) (by decide) (by exact⟨SV.aa _,trivial⟩) Ff<|an (s:=.row _) rfl<|dn<|qq<|sr<|mv rfl<|lE h fun kg mQ h=>ln rfl mQ<|mv rfl<|lE h fun rf yN h=>sb _ rfl rfl yN ?_
 refine ag rfl<|dn<|bE h fun Zt Vv IW=>?_
 refine aV (fun(yR:(List Nat)×(List Nat))=>AS.bG 141 [(4,.row 38),(6,.sv (.v (.int .i64 gh))),(7,.sv (.v (.int .u64 ((gM:Nat):Int)))),(8,.row 27)] [] [(38,TR 130 1 ah yR.1),(27,TR 130 1 ah yR.2)]) (fun yR=>yR=Zt) ?_ (fun yR Vw=>?_)
 refine aq ?_
 refine aW Vv (fun Lc=>AS.bG 141 [(4,.row 38),(6,.sv (.v (.int .i64 gh))),(7,.sv (.v (.int .u64 ((gM:Nat):Int)))),(8,.row 27),(9,.sv (slc 1 (List.map ah iE))),(10,.sv (.v (.int .i64 Lc.1)))] [] [(38,TR 130 1 ah Lc.2.1),(27,TR 130 1 ah Lc.2.2)]) (wR []) (fun Lc y36 G36 h Vx Vy=>?_)
 obtain⟨fS,mE,qe⟩:=Lc
 try dsimp only
 refine qq<|sr<|mv rfl<|lE h fun yH zZ h=>ge _ rfl rfl zZ<|dn ?_
 cases yH
 refine cF<|aZ<|ae.x<|ae.x<|aG.x<|ae.n ?_
 obtain rfl:=O (F h)
 exact⟨(mE,qe),Vy _ rfl,wR []⟩
 refine cT<|aE<|ae.n<|qq<|aq<|sr<|mo (s:=.row _) rfl<|mv rfl<|mv rfl<|mv rfl<|lE (V h) fun EU Fg h=>ad _ rfl rfl Fg<|lE h fun vO yO h=>ad _ rfl rfl yO ?_
 obtain⟨⟨o53,n53⟩,QU,h⟩:=bS h
 refine RT.QD .none fS vO rfl rfl ⟨_,rfl⟩ ⟨_,rfl⟩ T QU<|mv rfl ?_
 obtain⟨⟨xe,Im⟩,IU,h⟩:=bS h
 refine bE h fun _ Vz h=>cR (l:=qe) (l':=Im) (e:=ah) (pM IU) (iD Vz) 27 rfl (.cons rfl (.cons rfl (.nil)))<|ag rfl<|dn<|qq<|sr<|mo (s:=.row _) rfl<|mv rfl<|mv rfl<|mv rfl<|lE h fun JR Li h=>ad _ rfl rfl Li<|lE h fun EX ND h=>ad _ rfl rfl ND ?_
 obtain⟨⟨o62,n62⟩,Zy,h⟩:=bS h
 refine RT.QD .none fS EX rfl rfl ⟨_,rfl⟩ ⟨_,rfl⟩ T Zy<|mv rfl<|mv rfl ?_
 obtain⟨⟨Zl,Ld⟩,h65,h⟩:=bS h
 refine bE h fun _ VA h=>cR (l:=Im) (l':=Ld) (e:=ah) (jZ h65) (iD VA) 27 rfl (.cons rfl (.cons rfl (.cons rfl (.nil))))<|dn ?_
 refine aF h (fun Le=>AS.bG 141 [(4,.row 38),(6,.sv (.v (.int .i64 gh))),(7,.sv (.v (.int .u64 ((gM:Nat):Int)))),(8,.row 27),(9,.sv (slc 1 (List.map ah iE))),(10,.sv (.v (.int .i64 fS))),(11,.sv (.v (.int .u64 ((Le.1:Nat):Int))))] [] [(38,TR 130 1 ah mE),(27,TR 130 1 ah Le.2)]) (fun h=>?_) (fun Le h=>?_)
 cases Zl
 exact fs<|⟨(xe,Ld),(F h),wR []⟩
 refine cT<|sr<|mv rfl<|lE (V h) fun L2 VB h=>sb _ rfl rfl (UK.sub (a:=xe) (b:=1) VB)<|ag rfl<|dn<|sr<|RT.tu .none (cw 0) rfl ⟨rfl,trivial⟩ T rfl rfl<|an (s:=.ek _ _) rfl<|dn<|qq<|sr<|mv rfl<|lE h fun M6 Zz h=>ln rfl Zz<|mv rfl<|dn<|bE h fun Zq VC jB=>?_
 refine aV (fun(yS:Nat×(List Nat))=>AS.bG 141 [(4,.row 38),(6,.sv (.v (.int .i64 gh))),(7,.sv (.v (.int .u64 ((gM:Nat):Int)))),(8,.row 27),(9,.sv (slc 1 (List.map ah iE))),(10,.sv (.v (.int .i64 fS))),(11,.sv (.v (.int .u64 ((L2:Nat):Int)))),(12,.ek 202 [.box 68])] [(68,⟨128,[.sv (.v (.int .u64 ((yS.1:Nat):Int)))]⟩)] [(38,TR 130 1 ah mE),(27,TR 130 1 ah yS.2)]) (fun yS=>yS=Zq) ?_ (fun yS VD=>?_)
 refine aq ?_
 refine aW VC (fun Lf=>AS.bG 141 [(4,.row 38),(6,.sv (.v (.int .i64 gh))),(7,.sv (.v (.int .u64 ((gM:Nat):Int)))),(8,.row 27),(9,.sv (slc 1 (List.map ah iE))),(10,.sv (.v (.int .i64 fS))),(11,.sv (.v (.int .u64 ((L2:Nat):Int)))),(12,.ek 202 [.box 68]),(69,.sv (slc 1 (List.map ah iE))),(70,.sv (.v (.int .i64 M6))),(71,.sv (.v (.int .i64 Lf.1)))] [(68,⟨128,[.sv (.v (.int .u64 ((Lf.2.1:Nat):Int)))]⟩)] [(38,TR 130 1 ah mE),(27,TR 130 1 ah Lf.2.2)]) (wR []) (fun Lf y65 G65 h VE VF=>?_)
 obtain⟨wC,qB,rO⟩:=Lf
 try dsimp only
 refine sr<|lE h fun IN QV h=>ls _ rfl rfl QV<|dn<|qq ?_
 cases IN
 refine cF<|aZ<|ae.x<|ae.x<|aG.x<|ae.n ?_
 obtain rfl:=O (F h)
 exact⟨(qB,rO),VF _ rfl,wR []⟩
 refine cT<|aE<|ae.n<|qq<|aq<|sr<|mv rfl<|bE (V h) fun x74 h74 h=>ix rfl rfl h74<|lr rfl rfl<|ag rfl<|ag rfl<|dn<|af<|mo (s:=.row _) rfl<|mv rfl<|mv rfl<|lE h fun Qb VG h=>ad _ rfl rfl VG<|mo (s:=.ek _ _) rfl<|mo (s:=.row _) rfl<|mv rfl<|mv rfl<|lE h fun x84 ZA h=>ad _ rfl rfl ZA<|bE h fun Yg ZB h=>iR rfl rfl rfl ZB ?_
 refine bE h fun M7 VH h=>lR rfl rfl VH rfl<|lE h fun L3 VI h=>cv _ rfl (UK.nat VI)<|mv rfl<|lE h fun QK ZC h=>cv _ rfl (UK.nat ZC)<|lE h fun UX ZD h=>ad _ rfl rfl (UK.add (a:=L3) (b:=QK) ZD) ?_
 obtain⟨⟨Zn,Zo⟩,h91,h⟩:=bS h
 refine cB (aU h91) 68 rfl ⟨rfl,trivial⟩<|bE h fun Yh ZE h=>iR rfl rfl rfl ZE<|bE h fun Zp NF h=>sR Zn rfl rfl rfl rfl NF<|RT.done<|aG.n<|ae.n<|af<|lE h fun QL ZF h=>ad _ rfl rfl ZF<|mv rfl<|RT.done ?_
 obtain rfl:=O h
 exact ae.n ⟨(QL,Zo,Zp),VE _ rfl,wR []⟩
 subst VD
 obtain⟨Bn,yI⟩:=yS
 try dsimp only
 refine ae.n<|af<|mo (s:=.row _) rfl<|mv rfl<|mv rfl<|lE jB fun UY ZG jB=>ad _ rfl rfl ZG<|mo (s:=.ek _ _) rfl<|mo (s:=.row _) rfl<|mv rfl<|mv rfl<|lE jB fun Lg NG jB=>ad _ rfl rfl NG<|bE jB fun Bo IX jB=>iR rfl rfl rfl IX<|bE jB fun UZ VJ jB=>lR rfl rfl VJ rfl<|lE jB fun U0 VK jB=>cv _ rfl (UK.nat VK) ?_
 obtain⟨⟨M8,k72⟩,VL,jB⟩:=bS jB
 exact cB (aU VL) 68 rfl ⟨rfl,trivial⟩<|bE jB fun U1 VM jB=>iR rfl rfl rfl VM<|bE jB fun Zs NH jB=>sR M8 rfl rfl rfl rfl NH<|dn<|⟨(L2,Zs),jB,wR []⟩
 obtain⟨IM,Bm⟩:=Le
 try dsimp only
 refine ae.n<|af<|mo (s:=.row _) rfl<|mv rfl<|mv rfl<|lE h fun M5 VN h=>cv _ rfl (UK.nat VN)<|bE h fun UW VO h=>iR rfl rfl rfl VO<|bE h fun Zm NI h=>sR M5 rfl rfl rfl rfl NI<|RT.done<|aG.n<|ae.n<|af<|mv rfl<|lE h fun uV h46 h=>sb _ rfl rfl h46<|ag rfl<|RT.done ?_
 obtain rfl:=O h
 exact ae.n ⟨(uV,Zm,Bm),Vx _ rfl,wR []⟩
 subst Vw
 obtain⟨rP,tK⟩:=yR
 try dsimp only
 refine ae.n<|sr<|mv rfl<|bE IW fun U3 VP IW=>RT.kO (n:=1) (e:=ah) .none rfl rfl T rfl T (by rfl) (by decide) (by exact⟨SV.aa _,trivial⟩) VP<|an (s:=.row _) rfl<|dn<|qq<|sr<|mv rfl<|mv rfl<|dn<|bE IW fun e81 VQ VR=>?_
 refine aV (fun(jP:(List Nat))=>AS.bG 141 [(4,.row 38),(5,.row 114)] [] [(38,TR 130 1 ah rP),(114,TR 130 1 ah jP)]) (fun jP=>jP=e81) ?_ (fun jP VS=>?_)
 refine aq ?_
 refine aW VQ (fun M9=>AS.bG 141 [(4,.row 38),(5,.row 114),(7,.sv (.v (.int .u64 ((gM:Nat):Int)))),(8,.row 27),(115,.sv (.v (.int .i64 gh))),(116,.sv (.v (.int .i64 M9.1)))] [] [(38,TR 130 1 ah rP),(114,TR 130 1 ah M9.2),(27,TR 130 1 ah tK)]) (wR []) (fun M9 y81 G81 h VT VU=>?_)
 obtain⟨rQ,rR⟩:=M9
 try dsimp only
 refine sr<|lE h fun Na VV h=>ls _ rfl rfl VV<|dn<|qq ?_
 cases Na
 refine cF<|aZ<|ae.x<|ae.x<|aG.x<|ae.n ?_
 obtain rfl:=O (F h)
 exact⟨rR,VU _ rfl,wR []⟩
 refine cT<|aE<|ae.n<|qq<|aq<|sr<|mv rfl<|ag rfl<|dn<|ai mixed<|mo (s:=.row _) rfl<|mv rfl<|mo (s:=.row _) rfl<|mv rfl<|bE (V h) fun U4 VW h=>iR rfl rfl rfl VW<|bE h fun U5 VX h=>lR rfl rfl VX rfl<|lE h fun Nb VY h=>cv _ rfl (UK.nat VY)<|mo (s:=.row _) rfl<|mv rfl<|lE h fun U6 h128 h=>ad _ rfl rfl h128<|bE h fun U7 VZ h=>?_
 refine iR rfl rfl rfl VZ<|bE h fun U8 V0 h=>lR rfl rfl V0 rfl<|lE h fun Nc V1 h=>cv _ rfl (UK.nat V1)<|lE h fun Nd V3 h=>RT.shl .none _ rfl rfl T (by decide) (UK.shl (a:=Nc) (q:=32) (s:=32) rfl V3)<|lE h fun Nf V4 h=>RT.or .none _ rfl rfl T (UK.or (a:=Nb) (b:=Nd) V4)<|mv rfl<|lE h fun U9 V5 h=>RT.shr .none _ rfl rfl T (Int.natCast_nonneg _) (zU (k:=.u64) (a:=Nf) (q:=((gM:Nat):Int)) (s:=min gM 64) rfl V5)<|lE h fun Ng V6 h=>cv _ rfl (UK.nat V6) ?_
 refine bE h fun Vc V7 h=>iR rfl rfl rfl V7<|bE h fun Zu NJ h=>sR Ng rfl rfl rfl rfl NJ ?_
 refine RT.done ⟨by kernel_rfl,?_⟩
 refine aG.n<|ae.n<|af<|lE h fun Nh V8 h=>ad _ rfl rfl V8<|mv rfl<|RT.done ?_
 obtain rfl:=O h
 exact ae.n ⟨(Nh,Zu),VT _ rfl,wR []⟩
 subst VS
 try dsimp only
 refine ae.n<|sr<|mo (s:=.row _) rfl<|mo (s:=.row _) rfl<|an (s:=.row _) rfl<|an (s:=.row _) rfl<|dn<|kC (i:=38) (E1:=130) (n:=1) (e:=ah) (l:=rP) hN (fun _ h=>h) rfl<|kC (i:=114) (E1:=130) (n:=1) (e:=ah) (l:=jP) hN (fun _ h=>h) rfl<|aj ?_
 obtain rfl:=O VR
 exact R2 rfl rfl
theorem pV{x0:List Nat}{x1:List Nat}(N:Nat){r:(List Nat)×(List Nat)}(h:dM x0 x1=some r):cM Tryz.prog 193 N [slc 1 (List.map ah x0),slc 1 (List.map ah x1)] (.vG [nw N (slc 1 (List.map ah r.1)),nw N (slc 1 (List.map ah r.2))]):=by
 refine aP Tryz.func193 rfl (Nat.le_of_ble_eq_true rfl) (fun cE M vs hN hvs=>?_)
 unfold dM at h
 refine sr<|ag rfl<|aI rfl (aC (N:=N) (n:=1) (e:=ah))<|dn<|bz (iO 4 304 130 1 rfl rfl T)<|qq<|aq<|sr<|mv rfl<|mv rfl<|bE h fun dh ey h=>cl (dj ey) ⟨rfl,rfl,trivial⟩<|lE h fun iu gN h=>ls _ rfl rfl gN<|ag rfl<|dn ?_
 cases iu
 refine cF<|sr<|mv rfl<|lE (F h) fun eD ij h=>ln rfl ij<|lE h fun k8 kn h=>RT.leq .none _ rfl rfl T kn<|ag rfl<|dn ?_
 cases k8
 refine cF<|sr<|mv rfl<|lE (F h) fun pH pA h=>ln rfl pA<|lE h fun vn yP h=>eq _ rfl rfl (tB (p:=pH) (q:=1) yP)<|ag rfl<|dn ?_
 cases vn
 refine cF<|aE<|aG.n<|ae.n<|sr<|mv rfl<|mv rfl ?_
 obtain⟨⟨Vd,Ve⟩,yO,h⟩:=bS (F h)
 refine RT.aX .none (yY N yO) hN rfl ⟨rfl,rfl,trivial⟩ T<|ex rfl rfl<|ex rfl rfl<|ag rfl<|ag rfl<|dn<|aj ?_
 obtain rfl:=O h
 exact R2 rfl rfl
 refine cT<|sr<|mv rfl<|bE (V h) fun rj z4 h=>cN (mF z4) ⟨rfl,trivial⟩<|an (s:=.row _) rfl<|dn<|sr<|mo (s:=.row _) rfl<|mv rfl<|bE h fun rf yN h=>ix rfl rfl yN<|lr rfl rfl<|lE h fun yH zZ h=>cv _ rfl (UK.nat zZ) ?_
 obtain⟨⟨C0,l5⟩,IS,h⟩:=bS h
 refine bE h fun _ he5 h=>cR (l:=rj) (l':=l5) (e:=ah) (pL IS) (iD he5) 39 rfl (.cons rfl (.cons rfl (.nil)))<|ag rfl<|dn<|sr<|mo (s:=.row _) rfl<|mv rfl<|lE h fun rK h48 h=>cv _ rfl (UK.nat h48)<|RT.xP (l:=[rK]) (e:=ah) .none hN (.one rfl (.nil)) T rfl rfl rfl rfl rfl rfl<|an (s:=.row _) rfl<|ag rfl<|dn<|kC (i:=39) (E1:=130) (n:=1) (e:=ah) (l:=l5) hN (fun _ h=>h) rfl ?_
 refine aj<|aG.r<|ae.r ?_
 obtain rfl:=O h
 exact R2 rfl rfl
 refine cT<|sr<|mv rfl<|bE (V h) fun gz mH h=>cl (c7 mH) ⟨rfl,trivial⟩<|mv rfl<|bE h fun jw pz h=>cl (c7 pz) ⟨rfl,trivial⟩<|ag rfl<|ag rfl<|dn<|qq<|ai mixed<|mv rfl<|mv rfl<|bE h fun lf nY h=>RT.quo .none _ rfl rfl T (nzU nY) (UK.quo nY) ?_
 obtain⟨⟨SL,Ni⟩,og,h⟩:=bS h
 refine RT.aX .none (jL N og) hN rfl ⟨rfl,rfl,trivial⟩ T<|fl rfl rfl<|mv rfl<|mv rfl<|bE h fun sW xD h=>RT.rem .none _ rfl rfl T (Ye xD) (KY xD) ?_
 obtain⟨⟨m9,mc⟩,kA,h⟩:=bS h
 refine RT.aX .none (jL N kA) hN rfl ⟨rfl,rfl,trivial⟩ T<|fl rfl rfl<|ag rfl<|ag rfl ?_
 refine RT.done ⟨by kernel_rfl,?_⟩
 refine ae.n<|aj<|aG.r<|ae.r ?_
 obtain rfl:=O h
 exact R2 rfl rfl
 refine cT<|sr<|mv rfl<|bE (V h) fun dQ fN h=>RT.aX .none (nL N fN) hN rfl ⟨rfl,trivial⟩ T<|ag rfl<|ag rfl<|dn<|bz (iO 4 310 130 1 rfl rfl T)<|kC (i:=310) (E1:=130) (n:=1) (e:=ah) (l:=[]) hN (fun _ h=>h) rfl<|aj<|aG.r<|ae.r ?_
 obtain rfl:=O h
 exact R2 rfl rfl
end Go.Proofs.YtningmnklfpfjaaGreat
namespace Go.Proofs.YtningmnklfpfjaaGreat
open Go.Fw Go.Fw.Z Go.RowKit
theorem fX{x0:Int}(N:Nat){r:Zr}(h:bp x0=some r):cM Tryz.prog 90 N [.v (.int .i64 x0)] (.agg ((fZ N) r)):=by
 refine aP Tryz.func90 rfl (Nat.le_of_ble_eq_true rfl) (fun cE M vs hN hvs=>?_)
 unfold bp at h
 refine sr<|al (cs:=[.v (.bool false),nw N (slc 1 (List.map ah []))]) (by exact⟨SV.aa _,aC,trivial⟩) rfl<|dn<|sr<|mv rfl<|lE h fun x5 h5 h=>cv _ rfl (UK.conv h5)<|ag rfl<|dn<|qq<|sr<|mv rfl<|lE h fun x7 h7 h=>ls _ rfl rfl h7<|dn ?_
 refine aF h (fun j2=>AS.bG 14 [(0,.sv (.v (.int .i64 x0))),(2,.ptr 2 0),(3,.sv (.v (.int .u64 ((j2:Nat):Int))))] [(2,⟨41,[.sv (.v (.bool false)),.sv (nw N (slc 1 (List.map ah [])))]⟩)] []) (fun h=>?_) (fun Vf h=>?_)
 cases x7
 exact fs<|⟨x5,(F h),wR []⟩
 exact cT<|af<|mv rfl<|lE (V h) fun x9 h9 h=>RT.neg .none _ rfl T (UK.neg h9)<|ag rfl<|dn<|⟨x9,h,wR []⟩
 try dsimp only
 refine ae.n<|sr<|mv rfl<|lE h fun gY mG h=>ls _ rfl rfl mG<|mv rfl ?_
 obtain⟨⟨DW,DX⟩,gN,h⟩:=bS h
 refine RT.aX .none (jL N gN) hN rfl ⟨rfl,rfl,trivial⟩ T<|so rfl rfl rfl<|dn<|aj ?_
 obtain rfl:=O h
 exact RZ (.agg rfl rfl (.cons rfl (.cons rfl (.nil))) rfl (.nil))
theorem oR{x0:Bool}{x1:List Nat}{x2:Bool}{x3:List Nat}(N:Nat){r:Zr}(h:cc x0 x1 x2 x3=some r):cM Tryz.prog 203 N [.v (.bool x0),slc 1 (List.map ah x1),.v (.bool x2),slc 1 (List.map ah x3)] (.agg ((fZ N) r)):=by
 refine aP Tryz.func203 rfl (Nat.le_of_ble_eq_true rfl) (fun cE M vs hN hvs=>?_)
 unfold cc at h
 refine sr<|al (cs:=[.v (.bool false),nw N (slc 1 (List.map ah []))]) (by exact⟨SV.aa _,aC,trivial⟩) rfl<|dn<|qq<|sr<|mv rfl<|mv rfl<|lE h fun gY mG h=>RT.YC .none _ rfl rfl T mG<|dn ?_
 cases gY
 refine fs<|qq<|sr<|mv rfl<|mv rfl<|bE (F h) fun k8 kn h=>cl (dj kn) ⟨rfl,rfl,trivial⟩<|lE h fun gV l8 h=>ls _ rfl rfl l8<|dn ?_
 cases gV
 refine fs<|sr<|mv rfl<|mv rfl<|mv rfl<|bE (F h) fun gA iP h=>RT.aX .none (lH N iP) hN rfl ⟨rfl,rfl,trivial⟩ T ?_
 obtain⟨⟨ow,oz⟩,wD,h⟩:=bS h
 refine RT.aX .none (eP N wD) hN rfl ⟨rfl,rfl,trivial⟩ T<|so rfl rfl rfl<|dn<|aj ?_
 obtain rfl:=O h
 exact RZ (.agg rfl rfl (.cons rfl (.cons rfl (.nil))) rfl (.nil))
 refine cT<|sr<|mv rfl<|mv rfl<|mv rfl<|bE (V h) fun gM l9 h=>RT.aX .none (lH N l9) hN rfl ⟨rfl,rfl,trivial⟩ T ?_
 obtain⟨⟨ig,gW⟩,qC,h⟩:=bS h
 refine RT.aX .none (eP N qC) hN rfl ⟨rfl,rfl,trivial⟩ T<|so rfl rfl rfl<|dn<|aj<|ae.r ?_
 obtain rfl:=O h
 exact RZ (.agg rfl rfl (.cons rfl (.cons rfl (.nil))) rfl (.nil))
 refine cT<|sr<|mv rfl<|mv rfl<|mv rfl<|bE (V h) fun dQ fN h=>RT.aX .none (pU N fN) hN rfl ⟨rfl,rfl,trivial⟩ T ?_
 obtain⟨⟨kQ,kR⟩,jA,h⟩:=bS h
 refine RT.aX .none (eP N jA) hN rfl ⟨rfl,rfl,trivial⟩ T<|so rfl rfl rfl<|dn<|aj<|ae.r ?_
 obtain rfl:=O h
 exact RZ (.agg rfl rfl (.cons rfl (.cons rfl (.nil))) rfl (.nil))
theorem FF{x0:Zr}{x1:Zr}(N:Nat){r:Zr}(h:jx x0 x1=some r):cM Tryz.prog 188 N [.agg (eZ x0),.agg (eZ x1)] (.agg ((fZ N) r)):=by
 obtain⟨aA,aB⟩:=x0
 obtain⟨bD,bC⟩:=x1
 refine aP Tryz.func188 rfl (Nat.le_of_ble_eq_true rfl) (fun cE M vs hN hvs=>?_)
 unfold jx at h
 refine sr<|bx rfl<|bx rfl<|al (cs:=[.v (.bool false),nw N (slc 1 (List.map ah []))]) (by exact⟨SV.aa _,aC,trivial⟩) rfl<|dn<|sr<|ld rfl rfl (.cons rfl (.cons rfl (.nil))) ?_
 obtain⟨⟨xC,Bp⟩,ey,h⟩:=bS h
 refine cl (cJ ey) ⟨rfl,trivial⟩<|mv rfl<|ex rfl rfl<|ex rfl rfl<|ag rfl<|ag rfl<|dn<|sr<|ld rfl rfl (.cons rfl (.cons rfl (.nil))) ?_
 obtain⟨⟨yJ,Bq⟩,kJ,h⟩:=bS h
 refine cl (cJ kJ) ⟨rfl,trivial⟩<|mv rfl<|ex rfl rfl<|ex rfl rfl<|ag rfl<|ag rfl<|dn<|qq<|qq ?_
 refine aF h (fun j3=>AS.bG 48 [(2,.ptr 2 0),(3,.ptr 3 0),(4,.ptr 4 0),(5,.sv (.v (.int .i64 xC))),(7,.sv (.v (.int .i64 yJ))),(23,.sv (.v (.bool j3)))] [(4,⟨41,[.sv (.v (.bool false)),.sv (nw N (slc 1 (List.map ah [])))]⟩),(3,⟨41,[.sv (.v (.bool bD)),.sv (slc 1 (List.map ah bC))]⟩),(2,⟨41,[.sv (.v (.bool aA)),.sv (slc 1 (List.map ah aB))]⟩)] []) (fun h=>?_) (fun tL h=>?_)
 refine af<|mv rfl<|mv rfl<|bE h fun Br vP h=>?_
 cases Bp
 obtain rfl:=O (F vP)
 exact ww<|pF rfl<|dn<|⟨false,h,wR []⟩
 refine gm rfl ?_
 obtain rfl:=O (V vP)
 exact pT rfl<|dn<|⟨Bq,h,wR []⟩
 try dsimp only
 refine ae.n ?_
 refine aF h (fun j5=>AS.bG 48 [(2,.ptr 2 0),(3,.ptr 3 0),(4,.ptr 4 0)] [(4,⟨41,[.sv (.v (.bool false)),.sv (nw N (slc 1 (List.map ah [])))]⟩),(3,⟨41,[.sv (.v (.bool bD)),.sv (slc 1 (List.map ah bC))]⟩),(2,⟨41,[.sv (.v (.bool aA)),.sv (slc 1 (List.map ah aB))]⟩)] []) (fun h=>?_) (fun j5 h=>?_)
 cases tL
 exact fs<|⟨(),(F h),wR []⟩
 refine cT<|sr<|mv rfl<|mv rfl<|lE (V h) fun lf nY h=>ad _ rfl rfl nY<|ag rfl<|dn<|sr<|mv rfl<|mv rfl<|lE h fun gA iP h=>RT.xor .none _ rfl rfl T iP<|mv rfl<|mv rfl<|lE h fun iE kA h=>RT.xor .none _ rfl rfl T kA<|lE h fun rN rT h=>RT.and .none _ rfl rfl T rT<|lE h fun o9 qf h=>ge _ rfl rfl qf<|dn ?_
 cases o9
 exact fs<|⟨(),(F h),wR []⟩
 refine cT<|sr<|mv rfl ?_
 obtain⟨⟨pI,pJ⟩,pA,h⟩:=bS (V h)
 refine RT.aX .none (fX N pA) hN rfl ⟨rfl,trivial⟩ T<|so rfl rfl rfl<|dn<|aj<|ae.r<|ae.r ?_
 obtain rfl:=O h
 exact RZ (.agg rfl rfl (.cons rfl (.cons rfl (.nil))) rfl (.nil))
 try dsimp only
 refine ae.n<|qq<|ai mixed<|fa rfl rfl<|lV rfl rfl rfl<|fa rfl rfl<|lV rfl rfl rfl<|bE h fun tH zY h=>cl (aS zY) ⟨rfl,trivial⟩<|fa rfl rfl<|lV rfl rfl rfl<|fa rfl rfl<|lV rfl rfl rfl<|bE h fun uV h46 h=>cl (aS h46) ⟨rfl,trivial⟩ ?_
 obtain⟨⟨DY,DZ⟩,vo,h⟩:=bS h
 refine RT.aX .none (oR N vo) hN rfl ⟨rfl,rfl,rfl,rfl,trivial⟩ T<|so rfl rfl rfl ?_
 refine RT.done ⟨by kernel_rfl,?_⟩
 refine ae.n<|aj ?_
 obtain rfl:=O h
 exact RZ (.agg rfl rfl (.cons rfl (.cons rfl (.nil))) rfl (.nil))
theorem FG{x0:Zr}{x1:Zr}(N:Nat){r:Zr}(h:jy x0 x1=some r):cM Tryz.prog 190 N [.agg (eZ x0),.agg (eZ x1)] (.agg ((fZ N) r)):=by
 obtain⟨aA,aB⟩:=x0
 obtain⟨bD,bC⟩:=x1
 refine aP Tryz.func190 rfl (Nat.le_of_ble_eq_true rfl) (fun cE M vs hN hvs=>?_)
 unfold jy at h
 refine sr<|bx rfl<|bx rfl<|al (cs:=[.v (.bool false),nw N (slc 1 (List.map ah []))]) (by exact⟨SV.aa _,aC,trivial⟩) rfl<|dn<|sr<|ld rfl rfl (.cons rfl (.cons rfl (.nil))) ?_
 obtain⟨⟨xC,Bp⟩,ey,h⟩:=bS h
 refine cl (cJ ey) ⟨rfl,trivial⟩<|mv rfl<|ex rfl rfl<|ex rfl rfl<|ag rfl<|ag rfl<|dn<|sr<|ld rfl rfl (.cons rfl (.cons rfl (.nil))) ?_
 obtain⟨⟨yJ,Bq⟩,kJ,h⟩:=bS h
 refine cl (cJ kJ) ⟨rfl,trivial⟩<|mv rfl<|ex rfl rfl<|ex rfl rfl<|ag rfl<|ag rfl<|dn<|qq<|qq ?_
 refine aF h (fun j3=>AS.bG 49 [(2,.ptr 2 0),(3,.ptr 3 0),(4,.ptr 4 0),(5,.sv (.v (.int .i64 xC))),(7,.sv (.v (.int .i64 yJ))),(23,.sv (.v (.bool j3)))] [(4,⟨41,[.sv (.v (.bool false)),.sv (nw N (slc 1 (List.map ah [])))]⟩),(3,⟨41,[.sv (.v (.bool bD)),.sv (slc 1 (List.map ah bC))]⟩),(2,⟨41,[.sv (.v (.bool aA)),.sv (slc 1 (List.map ah aB))]⟩)] []) (fun h=>?_) (fun tL h=>?_)
 refine af<|mv rfl<|mv rfl<|bE h fun Br vP h=>?_
 cases Bp
 obtain rfl:=O (F vP)
 exact ww<|pF rfl<|dn<|⟨false,h,wR []⟩
 refine gm rfl ?_
 obtain rfl:=O (V vP)
 exact pT rfl<|dn<|⟨Bq,h,wR []⟩
 try dsimp only
 refine ae.n ?_
 refine aF h (fun j5=>AS.bG 49 [(2,.ptr 2 0),(3,.ptr 3 0),(4,.ptr 4 0)] [(4,⟨41,[.sv (.v (.bool false)),.sv (nw N (slc 1 (List.map ah [])))]⟩),(3,⟨41,[.sv (.v (.bool bD)),.sv (slc 1 (List.map ah bC))]⟩),(2,⟨41,[.sv (.v (.bool aA)),.sv (slc 1 (List.map ah aB))]⟩)] []) (fun h=>?_) (fun j5 h=>?_)
 cases tL
 exact fs<|⟨(),(F h),wR []⟩
 refine cT<|sr<|mv rfl<|mv rfl<|lE (V h) fun lf nY h=>sb _ rfl rfl nY<|ag rfl<|dn<|sr<|mv rfl<|mv rfl<|lE h fun gA iP h=>RT.xor .none _ rfl rfl T iP<|mv rfl<|mv rfl<|lE h fun iE kA h=>RT.xor .none _ rfl rfl T kA<|lE h fun rN rT h=>RT.and .none _ rfl rfl T rT<|lE h fun o9 qf h=>ge _ rfl rfl qf<|dn ?_
 cases o9
 exact fs<|⟨(),(F h),wR []⟩
 refine cT<|sr<|mv rfl ?_
 obtain⟨⟨pI,pJ⟩,pA,h⟩:=bS (V h)
 refine RT.aX .none (fX N pA) hN rfl ⟨rfl,trivial⟩ T<|so rfl rfl rfl<|dn<|aj<|ae.r<|ae.r ?_
 obtain rfl:=O h
 exact RZ (.agg rfl rfl (.cons rfl (.cons rfl (.nil))) rfl (.nil))
 try dsimp only
 refine ae.n<|qq<|ai mixed<|fa rfl rfl<|lV rfl rfl rfl<|fa rfl rfl<|lV rfl rfl rfl<|bE h fun tH zY h=>cl (aS zY) ⟨rfl,trivial⟩<|fa rfl rfl<|lV rfl rfl rfl<|lE h fun yH zZ h=>nt rfl _ zZ<|fa rfl rfl<|lV rfl rfl rfl<|bE h fun sL vo h=>cl (aS vo) ⟨rfl,trivial⟩ ?_
 obtain⟨⟨Nj,Nk⟩,h48,h⟩:=bS h
 refine RT.aX .none (oR N h48) hN rfl ⟨rfl,rfl,rfl,rfl,trivial⟩ T<|so rfl rfl rfl ?_
 refine RT.done ⟨by kernel_rfl,?_⟩
 refine ae.n<|aj ?_
 obtain rfl:=O h
 exact RZ (.agg rfl rfl (.cons rfl (.cons rfl (.nil))) rfl (.nil))
theorem gG{x0:Zr}{x1:Zr}(N:Nat){r:Zr}(h:cq x0 x1=some r):cM Tryz.prog 130 N [.agg (eZ x0),.agg (eZ x1)] (.agg ((fZ N) r)):=by
 obtain⟨aA,aB⟩:=x0
 obtain⟨bD,bC⟩:=x1
 refine aP Tryz.func130 rfl (Nat.le_of_ble_eq_true rfl) (fun cE M vs hN hvs=>?_)
 unfold cq at h
 refine sr<|bx rfl<|bx rfl<|al (cs:=[.v (.bool false),nw N (slc 1 (List.map ah []))]) (by exact⟨SV.aa _,aC,trivial⟩) rfl<|dn<|qq<|ai mixed<|fa rfl rfl<|lV rfl rfl rfl<|bE h fun x9 h9 h=>cl (aS h9) ⟨rfl,trivial⟩<|fa rfl rfl<|lV rfl rfl rfl<|bE h fun dh ey h=>cl (aS ey) ⟨rfl,trivial⟩<|ag rfl<|ag rfl ?_
 refine RT.done ⟨by kernel_rfl,?_⟩
 refine ae.n<|qq<|qq ?_
 refine aF h (fun j3=>AS.bG 41 [(2,.ptr 2 0),(3,.ptr 3 0),(4,.ptr 4 0),(5,.sv (slc 1 (List.map ah x9))),(6,.sv (slc 1 (List.map ah dh))),(20,.sv (.v (.bool j3)))] [(4,⟨41,[.sv (.v (.bool false)),.sv (nw N (slc 1 (List.map ah [])))]⟩),(3,⟨41,[.sv (.v (.bool bD)),.sv (slc 1 (List.map ah bC))]⟩),(2,⟨41,[.sv (.v (.bool aA)),.sv (slc 1 (List.map ah aB))]⟩)] []) (fun h=>?_) (fun GO h=>?_)
 refine af<|mv rfl<|lE h fun eH jc h=>ln rfl jc<|lE h fun dQ fN h=>RT.leq .none _ rfl rfl T fN<|mv rfl<|bE h fun Nn mR h=>?_
 cases dQ
 obtain rfl:=O (F mR)
 exact ww<|ww<|ww<|pF rfl<|dn<|⟨false,h,wR []⟩
 refine gm rfl<|lE (V mR) fun eD ij mR=>gn rfl ij<|lE mR fun k8 kn mR=>RT.leq (.some rfl rfl) _ rfl rfl T kn ?_
 obtain rfl:=O mR
 exact pT rfl<|dn<|⟨k8,h,wR []⟩
 try dsimp only
 refine ae.n ?_
 cases GO
 refine fs<|qq<|ai mixed<|fa rfl rfl<|lV rfl rfl rfl<|fa rfl rfl<|lV rfl rfl rfl<|lE (F h) fun pH pA h=>RT.Ip .none _ rfl rfl T pA<|mv rfl<|mv rfl<|bE h fun rj z4 h=>RT.aX .none (xQ N z4) hN rfl ⟨rfl,rfl,trivial⟩ T ?_
 obtain⟨⟨tN,tO⟩,mQ,h⟩:=bS h
 refine RT.aX .none (eP N mQ) hN rfl ⟨rfl,rfl,trivial⟩ T<|so rfl rfl rfl ?_
 refine RT.done ⟨by kernel_rfl,?_⟩
 refine ae.n<|aj ?_
 obtain rfl:=O h
 exact RZ (.agg rfl rfl (.cons rfl (.cons rfl (.nil))) rfl (.nil))
 refine cT<|qq<|ai mixed<|fa rfl rfl<|lV rfl rfl rfl<|fa rfl rfl<|lV rfl rfl rfl<|lE (V h) fun ym qC h=>RT.Ip .none _ rfl rfl T qC<|mv rfl<|bE h fun kj og h=>cl (c7 og) ⟨rfl,trivial⟩<|mv rfl<|bE h fun gA iP h=>cl (c7 iP) ⟨rfl,trivial⟩<|lE h fun yG wD h=>RT.mul .none _ rfl rfl T (UK.mul (a:=kj) (b:=gA) wD) ?_
 obtain⟨⟨Nl,Nm⟩,xD,h⟩:=bS h
 refine RT.aX .none (jL N xD) hN rfl ⟨rfl,rfl,trivial⟩ T<|so rfl rfl rfl ?_
 refine RT.done ⟨by kernel_rfl,?_⟩
 refine ae.n<|aj<|ae.r ?_
 obtain rfl:=O h
 exact RZ (.agg rfl rfl (.cons rfl (.cons rfl (.nil))) rfl (.nil))
theorem xR{x0:Zr}(N:Nat){r:Zr}(h:eJ x0=some r):cM Tryz.prog 145 N [.agg (eZ x0)] (.agg ((fZ N) r)):=by
 obtain⟨aA,aB⟩:=x0
 refine aP Tryz.func145 rfl (Nat.le_of_ble_eq_true rfl) (fun cE M vs hN hvs=>?_)
 unfold eJ at h
 refine sr<|bx rfl<|al (cs:=[.v (.bool false),nw N (slc 1 (List.map ah []))]) (by exact⟨SV.aa _,aC,trivial⟩) rfl<|dn<|qq<|ai mixed<|fa rfl rfl<|lV rfl rfl rfl<|lE h fun x5 h5 h=>nt rfl _ h5<|fa rfl rfl<|lV rfl rfl rfl<|bE h fun x8 h8 h=>cl (aS h8) ⟨rfl,trivial⟩<|bE h fun x9 h9 h=>RT.aX .none (nL N h9) hN rfl ⟨rfl,trivial⟩ T ?_
 obtain⟨⟨Bs,Bt⟩,fM,h⟩:=bS h
 refine RT.aX .none (eP N fM) hN rfl ⟨rfl,rfl,trivial⟩ T<|so rfl rfl rfl ?_
 refine RT.done ⟨by kernel_rfl,?_⟩
 refine ae.n<|aj ?_
 obtain rfl:=O h
 exact RZ (.agg rfl rfl (.cons rfl (.cons rfl (.nil))) rfl (.nil))
theorem sP{x0:Zr}{x1:Zr}(N:Nat){r:Zr×Zr×Int}(h:dr x0 x1=some r):cM Tryz.prog 169 N [.agg (eZ x0),.agg (eZ x1)] (.vG [.agg ((fZ N) r.1),.agg ((fZ N) r.2.1),.v (.int .i64 r.2.2)]):=by
 obtain⟨aA,aB⟩:=x0
 obtain⟨bD,bC⟩:=x1
 refine aP Tryz.func169 rfl (Nat.le_of_ble_eq_true rfl) (fun cE M vs hN hvs=>?_)
 unfold dr at h
 refine sr<|bx rfl<|bx rfl<|al (cs:=[.v (.bool false),nw N (slc 1 (List.map ah []))]) (by exact⟨SV.aa _,aC,trivial⟩) rfl<|al (cs:=[.v (.bool false),nw N (slc 1 (List.map ah []))]) (by exact⟨SV.aa _,aC,trivial⟩) rfl<|ag rfl<|dn<|qq<|ai mixed<|fa rfl rfl<|lV rfl rfl rfl<|bE h fun iu gN h=>cl (aS gN) ⟨rfl,trivial⟩<|fa rfl rfl ?_
 refine lV rfl rfl rfl<|bE h fun gy jA h=>cl (aS jA) ⟨rfl,trivial⟩<|ag rfl<|ag rfl ?_
 refine RT.done ⟨by kernel_rfl,?_⟩
 refine ae.n<|qq<|sr<|mv rfl<|lE h fun eD ij h=>ln rfl ij<|lE h fun k8 kn h=>eq _ rfl rfl (tB (p:=eD) (q:=0) kn)<|dn ?_
 cases k8
 refine fs<|sr<|mv rfl<|mv rfl ?_
 obtain⟨⟨GP,Vg⟩,qC,h⟩:=bS (F h)
 refine RT.aX .none (pV N qC) hN rfl ⟨rfl,rfl,trivial⟩ T<|mv rfl<|ex rfl rfl<|ex rfl rfl<|ag rfl<|ag rfl<|dn<|sr<|mv rfl<|bE h fun gA iP h=>RT.aX .none (qi N iP) hN rfl ⟨rfl,trivial⟩ T<|ag rfl<|dn<|qq<|qq ?_
 refine aF h (fun j3=>AS.bG 52 [(2,.ptr 2 0),(3,.ptr 3 0),(4,.ptr 4 0),(5,.ptr 5 0),(8,.sv (slc 1 (List.map ah gy))),(9,.sv (nw N (slc 1 (List.map ah GP)))),(10,.sv (nw N (slc 1 (List.map ah gA)))),(36,.sv (.v (.bool j3.1)))] [(5,⟨41,[.sv (.v (.bool false)),.sv (nw N (slc 1 (List.map ah [])))]⟩),(4,⟨41,[.sv (.v (.bool false)),.sv (nw N (slc 1 (List.map ah [])))]⟩),(3,⟨41,[.sv (.v (.bool bD)),.sv (slc 1 (List.map ah bC))]⟩),(2,⟨41,[.sv (.v (.bool j3.2)),.sv (slc 1 (List.map ah aB))]⟩)] []) (fun h=>?_) (fun j3 h=>?_)
 refine af<|fa rfl rfl<|lV rfl rfl rfl<|mv rfl<|bE h fun Nr vP h=>?_
 cases aA
 obtain rfl:=O (F vP)
 exact ww<|ww<|ww<|pF rfl<|dn<|⟨(false,false),h,wR []⟩
 refine gm rfl<|lE (V vP) fun o9 qf vP=>RT.Eg (.some rfl rfl) rfl T qf<|lE vP fun rJ yM vP=>gg _ rfl rfl yM ?_
 obtain rfl:=O vP
 exact pT rfl<|dn<|⟨(rJ,true),h,wR []⟩
 obtain⟨GQ,Bu⟩:=j3
 try dsimp only
 refine ae.n ?_
 refine aF h (fun j5=>AS.bG 52 [(2,.ptr 2 0),(3,.ptr 3 0),(4,.ptr 4 0),(5,.ptr 5 0),(9,.sv (nw N (slc 1 (List.map ah j5.1)))),(10,.sv (nw N (slc 1 (List.map ah j5.2))))] [(5,⟨41,[.sv (.v (.bool false)),.sv (nw N (slc 1 (List.map ah [])))]⟩),(4,⟨41,[.sv (.v (.bool false)),.sv (nw N (slc 1 (List.map ah [])))]⟩),(3,⟨41,[.sv (.v (.bool bD)),.sv (slc 1 (List.map ah bC))]⟩),(2,⟨41,[.sv (.v (.bool Bu)),.sv (slc 1 (List.map ah aB))]⟩)] []) (fun h=>?_) (fun j5 h=>?_)
 cases GQ
 exact fs<|⟨(GP,gA),(F h),wR []⟩
 exact cT<|sr<|mv rfl<|RT.xP (l:=[1]) (e:=ah) .none hN (.one rfl (.nil)) T rfl rfl rfl rfl rfl rfl<|bE (V h) fun rj z4 h=>RT.aX .none ((pU N z4).w (args':=[_,_]) ⟨eO,eO,trivial⟩) hN rfl ⟨rfl,rfl,trivial⟩ T<|ag rfl<|dn<|af<|mv rfl<|mv rfl<|bE h fun rf yN h=>RT.aX .none ((lH N yN).w (args':=[_,_]) ⟨(SV.aa _),eO,trivial⟩) hN rfl ⟨rfl,rfl,trivial⟩ T<|ag rfl<|dn<|⟨(rj,rf),h,wR []⟩
 obtain⟨Vh,No⟩:=j5
 try dsimp only
 refine ae.n<|sr<|fa rfl rfl<|lV rfl rfl rfl<|fa rfl rfl<|lV rfl rfl rfl<|lE h fun sL vo h=>RT.Ip .none _ rfl rfl T vo<|mv rfl ?_
 obtain⟨⟨Np,Nq⟩,QT,h⟩:=bS h
 refine RT.aX .none (eP N QT) hN rfl ⟨rfl,rfl,trivial⟩ T<|mv rfl ?_
 obtain⟨⟨Bv,Bw⟩,Fg,h⟩:=bS h
 refine RT.aX .none (eP N Fg) hN rfl ⟨rfl,rfl,trivial⟩ T<|so rfl rfl rfl<|so rfl rfl rfl<|ag rfl<|dn<|aj ?_
 obtain rfl:=O h
 exact RZ (.agg rfl rfl (.cons rfl (.cons rfl (.nil))) rfl (.agg rfl rfl (.cons rfl (.cons rfl (.nil))) rfl (.tmp rfl (.nil))))
 refine cT<|sr<|bI (cs:=[_,_]) (cs':=[.v (.bool false),nw N (slc 1 (List.map ah []))]) (.nil) ⟨SV.aa _,aC,trivial⟩<|bI (cs:=[_,_]) (cs':=[.v (.bool false),nw N (slc 1 (List.map ah []))]) (.nil) ⟨SV.aa _,aC,trivial⟩<|so rfl rfl rfl<|so rfl rfl rfl<|ag rfl<|dn<|aj<|ae.r ?_
 obtain rfl:=O (V h)
 exact RZ (.agg rfl rfl (.cons rfl (.cons rfl (.nil))) rfl (.agg rfl rfl (.cons rfl (.cons rfl (.nil))) rfl (.tmp rfl (.nil))))
theorem FH{x0:Zr}{x1:Zr}(N:Nat){r:Zr}(h:iz x0 x1=some r):cM Tryz.prog 168 N [.agg (eZ x0),.agg (eZ x1)] (.agg ((fZ N) r)):=by
 obtain⟨aA,aB⟩:=x0
 obtain⟨bD,bC⟩:=x1
 refine aP Tryz.func168 rfl (Nat.le_of_ble_eq_true rfl) (fun cE M vs hN hvs=>?_)
 unfold iz at h
 refine sr<|bx rfl<|bx rfl<|al (cs:=[.v (.bool false),nw N (slc 1 (List.map ah []))]) (by exact⟨SV.aa _,aC,trivial⟩) rfl<|dn<|qq<|ai mixed<|fa rfl rfl<|lV rfl rfl rfl<|bE h fun iu gN h=>cl (aS gN) ⟨rfl,trivial⟩<|fa rfl rfl<|lV rfl rfl rfl<|bE h fun gy jA h=>cl (aS jA) ⟨rfl,trivial⟩<|ag rfl<|ag rfl ?_
 refine RT.done ⟨by kernel_rfl,?_⟩
 refine ae.n<|qq<|bE h fun JS BB ik=>?_
 refine aV (fun(qD:(List Nat)×(List Nat))=>AS.bG 57 [(4,.ptr 4 0),(5,.sv (slc 1 (List.map ah qD.1))),(6,.sv (slc 1 (List.map ah qD.2)))] [(4,⟨41,[.sv (.v (.bool false)),.sv (nw N (slc 1 (List.map ah [])))]⟩)] []) (fun qD=>qD=JS) ?_ (fun qD IV=>?_)
 refine aq ?_
 refine aW BB (fun xg=>AS.bG 57 [(4,.ptr 4 0),(5,.sv (slc 1 (List.map ah xg.1))),(6,.sv (slc 1 (List.map ah xg.2)))] [(4,⟨41,[.sv (.v (.bool false)),.sv (nw N (slc 1 (List.map ah [])))]⟩)] []) (wR []) (fun xg y12 G12 h Fh Fi=>?_)
 obtain⟨E5,yK⟩:=xg
 try dsimp only
 refine qq<|qq ?_
 refine aF h (fun ZH=>AS.bG 57 [(4,.ptr 4 0),(5,.sv (slc 1 (List.map ah E5))),(6,.sv (slc 1 (List.map ah yK))),(29,.sv (.v (.bool ZH)))] [(4,⟨41,[.sv (.v (.bool false)),.sv (nw N (slc 1 (List.map ah [])))]⟩)] []) (fun h=>?_) (fun Bx h=>?_)
 refine af<|mv rfl<|lE h fun eD ij h=>ln rfl ij<|lE h fun k8 kn h=>gt _ rfl rfl kn<|mv rfl<|bE h fun IQ jr h=>?_
 cases k8
 obtain rfl:=O (F jr)
 exact ww<|ww<|ww<|ww<|wu<|wu<|wu<|ww<|pF rfl<|dn<|⟨false,h,wR []⟩
 refine gm rfl<|lE (V jr) fun kf nK jr=>gn rfl nK<|lE jr fun jw pz jr=>gg _ rfl rfl pz<|gm rfl<|bE jr fun IP ko jr=>?_
 cases jw
 refine gm rfl<|lE (F ko) fun lf nY ko=>gn rfl nY<|lE ko fun kj og ko=>gg _ rfl rfl og ?_
 obtain rfl:=O ko
 refine gF rfl ?_
 obtain rfl:=O jr
 exact pT rfl<|dn<|⟨kj,h,wR []⟩
 obtain rfl:=O (V ko)
 refine ww<|ww<|ww<|gT rfl ?_
 obtain rfl:=O jr
 exact pT rfl<|dn<|⟨true,h,wR []⟩
 try dsimp only
 refine ae.n ?_
 cases Bx
 refine cF<|aZ<|ae.x<|ae.x<|aG.x<|ae.n ?_
 obtain rfl:=O (F h)
 exact⟨(E5,yK),Fi _ rfl,wR []⟩
 refine cT<|aE<|ae.n<|aq<|sr<|mv rfl<|mv rfl ?_
 obtain⟨⟨Zv,Vi⟩,rT,h⟩:=bS (V h)
 refine RT.aX .none (pV N rT) hN rfl ⟨rfl,rfl,trivial⟩ T<|mv rfl<|ex rfl rfl<|ex rfl rfl<|ag rfl<|ag rfl<|dn<|af<|mv rfl<|mv rfl<|bE h fun xy Ff h=>RT.aX .none (qi N Ff) hN rfl ⟨rfl,trivial⟩ T<|ag rfl<|ag rfl<|RT.done<|aG.n ?_
 obtain rfl:=O h
 exact ae.n ⟨(yK,xy),Fh _ rfl,cS id rfl rfl rfl rfl rfl ⟨.ptr,.sv (SV.aa _),.sv eO,trivial⟩ ⟨⟨_,rfl,⟨.sv (SV.aa _),.sv (SV.aa _),trivial⟩⟩,trivial⟩ trivial (fun _ _=>rfl)⟩
 subst IV
 obtain⟨JU,JV⟩:=qD
 try dsimp only
 refine ae.n<|qq<|sr<|mv rfl<|lE ik fun kg mQ ik=>ln rfl mQ<|lE ik fun tH zY ik=>eq _ rfl rfl (tB (p:=kg) (q:=0) zY)<|dn ?_
 cases tH
 refine fs<|sr<|mv rfl<|bE (F ik) fun uV h46 ik=>cl (c7 h46) ⟨rfl,trivial⟩<|mv rfl<|bE ik fun rK h48 ik=>cl (c7 h48) ⟨rfl,trivial⟩<|ag rfl<|ag rfl<|dn<|qq<|bE ik fun e24 V9 IY=>?_
 refine aV (fun(tQ:Nat)=>AS.bG 57 [(4,.ptr 4 0),(9,.sv (.v (.int .u64 ((tQ:Nat):Int))))] [(4,⟨41,[.sv (.v (.bool false)),.sv (nw N (slc 1 (List.map ah [])))]⟩)] []) (fun tQ=>tQ=e24) ?_ (fun tQ Wa=>?_)
 refine aq ?_
 refine aW V9 (fun Ns=>AS.bG 57 [(4,.ptr 4 0),(9,.sv (.v (.int .u64 ((Ns.1:Nat):Int)))),(10,.sv (.v (.int .u64 ((Ns.2:Nat):Int))))] [(4,⟨41,[.sv (.v (.bool false)),.sv (nw N (slc 1 (List.map ah [])))]⟩)] []) (wR []) (fun Ns y24 G24 h Wb Wc=>?_)
 obtain⟨D2,rS⟩:=Ns
 try dsimp only
 refine qq<|sr<|mv rfl<|lE h fun sM BA h=>gt _ rfl rfl (Y0 (p:=0) (q:=rS) BA)<|dn ?_
 cases sM
 refine cF<|aZ<|ae.x<|ae.x<|aG.x<|ae.n ?_
 obtain rfl:=O (F h)
 exact⟨D2,Wc _ rfl,wR []⟩
 refine cT<|aE<|ae.n<|aq<|ai mixed<|mv rfl<|mv rfl<|mv rfl<|bE (V h) fun De Fo h=>RT.rem .none _ rfl rfl T (Ye Fo) (KY Fo)<|ag rfl<|ag rfl ?_
 refine RT.done ⟨by kernel_rfl,?_⟩
 refine aG.n ?_
 obtain rfl:=O h
 exact ae.n ⟨(rS,De),Wb _ rfl,wR []⟩
 subst Wa
 try dsimp only
 refine ae.n<|sr<|mv rfl ?_
 obtain⟨⟨Nt,Nu⟩,IT,IY⟩:=bS IY
 refine RT.aX .none (jL N IT) hN rfl ⟨rfl,rfl,trivial⟩ T<|so rfl rfl rfl<|dn<|aj ?_
 obtain rfl:=O IY
 exact RZ (.agg rfl rfl (.cons rfl (.cons rfl (.nil))) rfl (.nil))
 refine cT<|sr<|mv rfl<|bE (V ik) fun ri AA ik=>RT.aX .none (nL N AA) hN rfl ⟨rfl,trivial⟩ T ?_
 obtain⟨⟨D0,D1⟩,zZ,ik⟩:=bS ik
 refine RT.aX .none (eP N zZ) hN rfl ⟨rfl,rfl,trivial⟩ T<|so rfl rfl rfl<|dn<|aj<|ae.r ?_
 obtain rfl:=O ik
 exact RZ (.agg rfl rfl (.cons rfl (.cons rfl (.nil))) rfl (.nil))
end Go.Proofs.YtningmnklfpfjaaGreat
namespace Go.Proofs.YtningmnklfpfjaaGreat
open Go.Fw Go.Fw.Z Go.RowKit
theorem lI{x0:Zr}{x1:Zr}(N:Nat){r:Qr}(h:dw x0 x1=some r):cM Tryz.prog 140 N [.agg (eZ x0),.agg (eZ x1)] (.agg ((fQ N) r)):=by
 obtain⟨aA,aB⟩:=x0
 obtain⟨bD,bC⟩:=x1
 refine aP Tryz.func140 rfl (Nat.le_of_ble_eq_true rfl) (fun cE M vs hN hvs=>?_)
 unfold dw at h
 refine sr<|bx rfl<|bx rfl<|al (cs:=[.v (.bool false),nw N (slc 1 (List.map ah [])),.v (.bool false),nw N (slc 1 (List.map ah []))]) (by exact⟨SV.aa _,aC,SV.aa _,aC,trivial⟩) rfl<|dn<|qq<|sr<|ld rfl rfl (.cons rfl (.cons rfl (.nil)))<|bE h fun x9 h9 h=>cl (dS h9) ⟨rfl,trivial⟩<|lE h fun dB fM h=>ls _ rfl rfl fM<|dn ?_
 refine aF h (fun j2=>AS.bG 46 [(2,.ptr 2 0),(3,.ptr 3 0),(4,.ptr 4 0)] [(4,⟨43,[.sv (.v (.bool false)),.sv (nw N (slc 1 (List.map ah []))),.sv (.v (.bool false)),.sv (nw N (slc 1 (List.map ah [])))]⟩),(3,⟨41,[.sv (.v (.bool j2.1)),.sv (slc 1 (List.map ah j2.2.1))]⟩),(2,⟨41,[.sv (.v (.bool j2.2.2.1)),.sv (slc 1 (List.map ah j2.2.2.2))]⟩)] []) (fun h=>?_) (fun j2 h=>?_)
 cases dB
 exact fs<|⟨(bD,bC,aA,aB),(F h),wR []⟩
 refine cT<|ai mixed<|ld rfl rfl (.cons rfl (.cons rfl (.nil))) ?_
 obtain⟨⟨fT,fH⟩,ey,h⟩:=bS (V h)
 refine RT.aX .none (xR N ey) hN rfl ⟨rfl,trivial⟩ T<|ld rfl rfl (.cons rfl (.cons rfl (.nil))) ?_
 obtain⟨⟨GW,GX⟩,jc,h⟩:=bS h
 refine RT.aX .none (xR N jc) hN rfl ⟨rfl,trivial⟩ T<|so rfl rfl rfl<|so rfl rfl rfl ?_
 refine RT.done ⟨by kernel_rfl,?_⟩
 exact ae.n<|⟨(GW,GX,fT,fH),h,cS id rfl rfl rfl rfl rfl ⟨.ptr,.ptr,.ptr,trivial⟩ ⟨⟨_,rfl,⟨.sv (SV.aa _),.sv (SV.aa _),.sv (SV.aa _),.sv (SV.aa _),trivial⟩⟩,⟨_,rfl,⟨.sv (SV.aa _),.sv eO,trivial⟩⟩,⟨_,rfl,⟨.sv (SV.aa _),.sv eO,trivial⟩⟩,trivial⟩ trivial (fun _ _=>rfl)⟩
 obtain⟨Fp,Fq,Fs,Ft⟩:=j2
 try dsimp only
 refine ae.n<|sr<|ld rfl rfl (.cons rfl (.cons rfl (.nil)))<|ld rfl rfl (.cons rfl (.cons rfl (.nil))) ?_
 obtain⟨⟨oC,oD⟩,kJ,h⟩:=bS h
 refine RT.aX .none (FH N kJ) hN rfl ⟨rfl,rfl,trivial⟩ T<|al (cs:=[.v (.bool false),nw N (slc 1 (List.map ah []))]) (by exact⟨SV.aa _,aC,trivial⟩) rfl<|so rfl rfl rfl<|dn<|sr<|ld rfl rfl (.cons rfl (.cons rfl (.nil)))<|ld rfl rfl (.cons rfl (.cons rfl (.nil))) ?_
 obtain⟨⟨⟨rU,rV⟩,⟨NK,NL⟩,ZI⟩,mH,h⟩:=bS h
 refine RT.aX .none ((sP N mH).w (args':=[_,_]) ⟨(SV.aa _),(SV.jn (show bV [.v (.bool oC),nw N (slc 1 (List.map ah oD))] _ from⟨(SV.aa _),eO,trivial⟩)),trivial⟩) hN rfl ⟨rfl,rfl,trivial⟩ T<|mv rfl<|ex rfl rfl<|ex rfl rfl<|ex rfl rfl<|so rfl rfl rfl<|dn<|sr<|ld rfl rfl (.cons rfl (.cons rfl (.nil)))<|ld rfl rfl (.cons rfl (.cons rfl (.nil))) ?_
 obtain⟨⟨⟨rW,rX⟩,⟨NM,NN⟩,ZJ⟩,tR,h⟩:=bS h
 refine RT.aX .none ((sP N tR).w (args':=[_,_]) ⟨(SV.aa _),(SV.jn (show bV [.v (.bool oC),nw N (slc 1 (List.map ah oD))] _ from⟨(SV.aa _),eO,trivial⟩)),trivial⟩) hN rfl ⟨rfl,rfl,trivial⟩ T<|mv rfl<|ex rfl rfl<|ex rfl rfl<|ex rfl rfl<|so rfl rfl rfl<|dn<|qq<|sr<|ld rfl rfl (.cons rfl (.cons rfl (.nil))) ?_
 obtain⟨⟨NO,NP⟩,qf,h⟩:=bS h
 refine cl ((cJ qf).w (args':=[_]) ⟨(SV.jn (show bV [.v (.bool rW),nw N (slc 1 (List.map ah rX))] _ from⟨(SV.aa _),eO,trivial⟩)),trivial⟩) ⟨rfl,trivial⟩<|mv rfl<|ex rfl rfl<|ex rfl rfl<|ag rfl<|ag rfl<|dn<|qq ?_
 refine aF h (fun j5=>AS.bG 46 [(2,.ptr 2 0),(3,.ptr 3 0),(4,.ptr 4 0),(41,.sv (.v (.bool j5)))] [(4,⟨43,[.sv (.v (.bool false)),.sv (nw N (slc 1 (List.map ah []))),.sv (.v (.bool false)),.sv (nw N (slc 1 (List.map ah [])))]⟩),(3,⟨41,[.sv (.v (.bool rW)),.sv (nw N (slc 1 (List.map ah rX)))]⟩),(2,⟨41,[.sv (.v (.bool rU)),.sv (nw N (slc 1 (List.map ah rV)))]⟩)] []) (fun h=>?_) (fun GV h=>?_)
 refine af<|mv rfl<|mv rfl<|bE h fun NQ BL h=>?_
 cases NP
 obtain rfl:=O (F BL)
 exact ww<|ww<|pF rfl<|dn<|⟨false,h,wR []⟩
 refine gm rfl<|lE (V BL) fun kg mQ BL=>Za _ rfl rfl (tB (p:=NO) (q:=1) mQ) ?_
 obtain rfl:=O BL
 exact pT rfl<|dn<|⟨kg,h,wR []⟩
 try dsimp only
 refine ae.n ?_
 refine aF h (fun j7=>AS.bG 46 [(2,.ptr 2 0),(3,.ptr 3 0),(4,.ptr 4 0)] [(4,⟨43,[.sv (.v (.bool false)),.sv (nw N (slc 1 (List.map ah []))),.sv (.v (.bool false)),.sv (nw N (slc 1 (List.map ah [])))]⟩),(3,⟨41,[.sv (.v (.bool j7.1)),.sv (nw N (slc 1 (List.map ah j7.2)))]⟩),(2,⟨41,[.sv (.v (.bool rU)),.sv (nw N (slc 1 (List.map ah rV)))]⟩)] []) (fun h=>?_) (fun j7 h=>?_)
 cases GV
 exact fs<|⟨(rW,rX),(F h),wR []⟩
 exact cT<|af<|bI (cs:=[_,_]) (cs':=[.v (.bool false),nw N (slc 1 (List.map ah []))]) (.nil) ⟨SV.aa _,aC,trivial⟩<|so rfl rfl rfl<|dn<|⟨(false,[]),(V h),wR []⟩
 obtain⟨BC,BD⟩:=j7
 try dsimp only
 refine ae.n<|sr<|ld rfl rfl (.cons rfl (.cons rfl (.nil)))<|ld rfl rfl (.cons rfl (.cons rfl (.nil)))<|bI (cs:=[_,_,_,_]) (cs':=[.v (.bool rU),nw N (slc 1 (List.map ah rV)),.v (.bool BC),nw N (slc 1 (List.map ah BD))]) (.agg rfl (.agg rfl (.nil))) ⟨SV.aa _,SV.aa _,SV.aa _,SV.aa _,trivial⟩<|so rfl rfl rfl<|dn<|aj ?_
 obtain rfl:=O h
 exact RZ (.agg rfl rfl (.cons rfl (.cons rfl (.cons rfl (.cons rfl (.nil))))) rfl (.nil))
theorem mS{x0:Int}{x1:Int}(N:Nat){r:Qr}(h:dV x0 x1=some r):cM Tryz.prog 135 N [.v (.int .i64 x0),.v (.int .i64 x1)] (.agg ((fQ N) r)):=by
 refine aP Tryz.func135 rfl (Nat.le_of_ble_eq_true rfl) (fun cE M vs hN hvs=>?_)
 unfold dV at h
 refine sr<|al (cs:=[.v (.bool false),nw N (slc 1 (List.map ah [])),.v (.bool false),nw N (slc 1 (List.map ah []))]) (by exact⟨SV.aa _,aC,SV.aa _,aC,trivial⟩) rfl<|dn<|sr<|mv rfl<|mv rfl<|ag rfl<|ag rfl<|dn<|qq<|bE h fun e6 E9 jd=>?_
 refine aV (fun(wG:Int)=>AS.bG 36 [(0,.sv (.v (.int .i64 x0))),(1,.sv (.v (.int .i64 x1))),(4,.ptr 4 0),(5,.sv (.v (.int .i64 wG)))] [(4,⟨43,[.sv (.v (.bool false)),.sv (nw N (slc 1 (List.map ah []))),.sv (.v (.bool false)),.sv (nw N (slc 1 (List.map ah [])))]⟩)] []) (fun wG=>wG=e6) ?_ (fun wG Fb=>?_)
 refine aq ?_
 refine aW E9 (fun s6=>AS.bG 36 [(0,.sv (.v (.int .i64 x0))),(1,.sv (.v (.int .i64 x1))),(4,.ptr 4 0),(5,.sv (.v (.int .i64 s6.1))),(6,.sv (.v (.int .i64 s6.2)))] [(4,⟨43,[.sv (.v (.bool false)),.sv (nw N (slc 1 (List.map ah []))),.sv (.v (.bool false)),.sv (nw N (slc 1 (List.map ah [])))]⟩)] []) (wR []) (fun s6 y6 G6 h Fe zX=>?_)
 obtain⟨qy,Fv⟩:=s6
 try dsimp only
 refine qq<|sr<|mv rfl<|lE h fun dB fM h=>ne _ rfl rfl (ER (p:=Fv) (q:=0) fM)<|dn ?_
 cases dB
 refine cF<|aZ<|ae.x<|ae.x<|aG.x<|ae.n ?_
 obtain rfl:=O (F h)
 exact⟨qy,zX _ rfl,wR []⟩
 refine cT<|aE<|ae.n<|aq<|ai mixed<|mv rfl<|mv rfl<|mv rfl<|bE (V h) fun eH jc h=>RT.rem .none _ rfl rfl T (Y1 jc) (Y2 jc)<|ag rfl<|ag rfl ?_
 refine RT.done ⟨by kernel_rfl,?_⟩
 refine aG.n ?_
 obtain rfl:=O h
 exact ae.n ⟨(Fv,eH),Fe _ rfl,wR []⟩
 subst Fb
 try dsimp only
 refine ae.n<|qq<|sr<|mv rfl<|lE jd fun gy jA jd=>ls _ rfl rfl jA<|dn ?_
 refine aF jd (fun j8=>AS.bG 36 [(0,.sv (.v (.int .i64 x0))),(1,.sv (.v (.int .i64 x1))),(4,.ptr 4 0),(5,.sv (.v (.int .i64 j8)))] [(4,⟨43,[.sv (.v (.bool false)),.sv (nw N (slc 1 (List.map ah []))),.sv (.v (.bool false)),.sv (nw N (slc 1 (List.map ah [])))]⟩)] []) (fun jd=>?_) (fun GZ jd=>?_)
 cases gy
 exact fs<|⟨wG,(F jd),wR []⟩
 exact cT<|af<|mv rfl<|lE (V jd) fun eD ij jd=>RT.neg .none _ rfl T ij<|ag rfl<|dn<|⟨eD,jd,wR []⟩
 try dsimp only
 refine ae.n<|qq<|sr<|mv rfl<|mv rfl<|lE jd fun gz mH jd=>eq _ rfl rfl (tB (p:=GZ) (q:=x1) mH)<|dn ?_
 cases gz
 refine fs<|qq<|ai mixed<|mv rfl<|mv rfl<|bE (F jd) fun gA iP jd=>RT.quo .none _ rfl rfl T (Yf iP) (KZ iP) ?_
 obtain⟨⟨ow,oz⟩,wD,jd⟩:=bS jd
 refine RT.aX .none (fX N wD) hN rfl ⟨rfl,trivial⟩ T<|mv rfl<|mv rfl<|bE jd fun rN rT jd=>RT.quo .none _ rfl rfl T (Yf rT) (KZ rT) ?_
 obtain⟨⟨G0,G1⟩,qf,jd⟩:=bS jd
 refine RT.aX .none (fX N qf) hN rfl ⟨rfl,trivial⟩ T<|bI (cs:=[_,_,_,_]) (cs':=[.v (.bool ow),nw N (slc 1 (List.map ah oz)),.v (.bool G0),nw N (slc 1 (List.map ah G1))]) (.agg rfl (.agg rfl (.nil))) ⟨SV.aa _,SV.aa _,SV.aa _,SV.aa _,trivial⟩<|so rfl rfl rfl ?_
 refine RT.done ⟨by kernel_rfl,?_⟩
 refine ae.n<|aj ?_
 obtain rfl:=O jd
 exact RZ (.agg rfl rfl (.cons rfl (.cons rfl (.cons rfl (.cons rfl (.nil))))) rfl (.nil))
 refine cT<|sr<|mv rfl<|mv rfl<|bE (V jd) fun gM l9 jd=>RT.quo .none _ rfl rfl T (Yf l9) (KZ l9) ?_
 obtain⟨⟨ig,gW⟩,qC,jd⟩:=bS jd
 refine RT.aX .none (fX N qC) hN rfl ⟨rfl,trivial⟩ T<|bI (cs:=[_,_,_,_]) (cs':=[.v (.bool ig),nw N (slc 1 (List.map ah gW)),.v (.bool false),nw N (slc 1 (List.map ah []))]) (.agg rfl (.nil)) ⟨SV.aa _,SV.aa _,SV.aa _,aC,trivial⟩<|so rfl rfl rfl<|dn<|aj<|ae.r ?_
 obtain rfl:=O jd
 exact RZ (.agg rfl rfl (.cons rfl (.cons rfl (.cons rfl (.cons rfl (.nil))))) rfl (.nil))
theorem uz{x0:Zr}{x1:Zr}{x2:Zr}{x3:Zr}(N:Nat){r:Zr×Zr}(h:dX x0 x1 x2 x3=some r):cM Tryz.prog 187 N [.agg (eZ x0),.agg (eZ x1),.agg (eZ x2),.agg (eZ x3)] (.vG [.agg ((fZ N) r.1),.agg ((fZ N) r.2)]):=by
 obtain⟨aA,aB⟩:=x0
 obtain⟨bD,bC⟩:=x1
 obtain⟨lz,lA⟩:=x2
 obtain⟨vp,vr⟩:=x3
 refine aP Tryz.func187 rfl (Nat.le_of_ble_eq_true rfl) (fun cE M vs hN hvs=>?_)
 unfold dX at h
 refine sr<|bx rfl<|bx rfl<|bx rfl<|bx rfl<|al (cs:=[.v (.bool false),nw N (slc 1 (List.map ah []))]) (by exact⟨SV.aa _,aC,trivial⟩) rfl<|al (cs:=[.v (.bool false),nw N (slc 1 (List.map ah []))]) (by exact⟨SV.aa _,aC,trivial⟩) rfl<|dn<|qq<|ai mixed<|ld rfl rfl (.cons rfl (.cons rfl (.nil)))<|ld rfl rfl (.cons rfl (.cons rfl (.nil))) ?_
 obtain⟨⟨fT,fH⟩,ey,h⟩:=bS h
 refine RT.aX .none (gG N ey) hN rfl ⟨rfl,rfl,trivial⟩ T<|ld rfl rfl (.cons rfl (.cons rfl (.nil)))<|ld rfl rfl (.cons rfl (.cons rfl (.nil))) ?_
 obtain⟨⟨jC,jD⟩,fN,h⟩:=bS h
 refine RT.aX .none (gG N fN) hN rfl ⟨rfl,rfl,trivial⟩ T ?_
 obtain⟨⟨kQ,kR⟩,jA,h⟩:=bS h
 refine RT.aX .none ((FF N jA).w (args':=[_,_]) ⟨(SV.jn (show bV [.v (.bool fT),nw N (slc 1 (List.map ah fH))] _ from⟨(SV.aa _),eO,trivial⟩)),(SV.jn (show bV [.v (.bool jC),nw N (slc 1 (List.map ah jD))] _ from⟨(SV.aa _),eO,trivial⟩)),trivial⟩) hN rfl ⟨rfl,rfl,trivial⟩ T<|ld rfl rfl (.cons rfl (.cons rfl (.nil)))<|ld rfl rfl (.cons rfl (.cons rfl (.nil))) ?_
 obtain⟨⟨me,mg⟩,kn,h⟩:=bS h
 refine RT.aX .none (gG N kn) hN rfl ⟨rfl,rfl,trivial⟩ T<|so rfl rfl rfl<|so rfl rfl rfl ?_
 refine RT.done ⟨by kernel_rfl,?_⟩
 refine ae.n<|aj ?_
 obtain rfl:=O h
 exact RZ (.agg rfl rfl (.cons rfl (.cons rfl (.nil))) rfl (.agg rfl rfl (.cons rfl (.cons rfl (.nil))) rfl (.nil)))
theorem uA{x0:Zr}{x1:Zr}{x2:Zr}{x3:Zr}(N:Nat){r:Zr×Zr}(h:dY x0 x1 x2 x3=some r):cM Tryz.prog 189 N [.agg (eZ x0),.agg (eZ x1),.agg (eZ x2),.agg (eZ x3)] (.vG [.agg ((fZ N) r.1),.agg ((fZ N) r.2)]):=by
 obtain⟨aA,aB⟩:=x0
 obtain⟨bD,bC⟩:=x1
 obtain⟨lz,lA⟩:=x2
 obtain⟨vp,vr⟩:=x3
 refine aP Tryz.func189 rfl (Nat.le_of_ble_eq_true rfl) (fun cE M vs hN hvs=>?_)
 unfold dY at h
 refine sr<|bx rfl<|bx rfl<|bx rfl<|bx rfl<|al (cs:=[.v (.bool false),nw N (slc 1 (List.map ah []))]) (by exact⟨SV.aa _,aC,trivial⟩) rfl<|al (cs:=[.v (.bool false),nw N (slc 1 (List.map ah []))]) (by exact⟨SV.aa _,aC,trivial⟩) rfl<|dn<|qq<|ai mixed<|ld rfl rfl (.cons rfl (.cons rfl (.nil)))<|ld rfl rfl (.cons rfl (.cons rfl (.nil))) ?_
 obtain⟨⟨fT,fH⟩,ey,h⟩:=bS h
 refine RT.aX .none (gG N ey) hN rfl ⟨rfl,rfl,trivial⟩ T<|ld rfl rfl (.cons rfl (.cons rfl (.nil)))<|ld rfl rfl (.cons rfl (.cons rfl (.nil))) ?_
 obtain⟨⟨jC,jD⟩,fN,h⟩:=bS h
 refine RT.aX .none (gG N fN) hN rfl ⟨rfl,rfl,trivial⟩ T ?_
 obtain⟨⟨kQ,kR⟩,jA,h⟩:=bS h
 refine RT.aX .none ((FG N jA).w (args':=[_,_]) ⟨(SV.jn (show bV [.v (.bool fT),nw N (slc 1 (List.map ah fH))] _ from⟨(SV.aa _),eO,trivial⟩)),(SV.jn (show bV [.v (.bool jC),nw N (slc 1 (List.map ah jD))] _ from⟨(SV.aa _),eO,trivial⟩)),trivial⟩) hN rfl ⟨rfl,rfl,trivial⟩ T<|ld rfl rfl (.cons rfl (.cons rfl (.nil)))<|ld rfl rfl (.cons rfl (.cons rfl (.nil))) ?_
 obtain⟨⟨me,mg⟩,kn,h⟩:=bS h
 refine RT.aX .none (gG N kn) hN rfl ⟨rfl,rfl,trivial⟩ T<|so rfl rfl rfl<|so rfl rfl rfl ?_
 refine RT.done ⟨by kernel_rfl,?_⟩
 refine ae.n<|aj ?_
 obtain rfl:=O h
 exact RZ (.agg rfl rfl (.cons rfl (.cons rfl (.nil))) rfl (.agg rfl rfl (.cons rfl (.cons rfl (.nil))) rfl (.nil)))
theorem uB{x0:Zr}{x1:Zr}{x2:Zr}{x3:Zr}(N:Nat){r:Zr×Zr}(h:dZ x0 x1 x2 x3=some r):cM Tryz.prog 191 N [.agg (eZ x0),.agg (eZ x1),.agg (eZ x2),.agg (eZ x3)] (.vG [.agg ((fZ N) r.1),.agg ((fZ N) r.2)]):=by
 obtain⟨aA,aB⟩:=x0
 obtain⟨bD,bC⟩:=x1
 obtain⟨lz,lA⟩:=x2
 obtain⟨vp,vr⟩:=x3
 refine aP Tryz.func191 rfl (Nat.le_of_ble_eq_true rfl) (fun cE M vs hN hvs=>?_)
 unfold dZ at h
 refine sr<|bx rfl<|bx rfl<|bx rfl<|bx rfl<|al (cs:=[.v (.bool false),nw N (slc 1 (List.map ah []))]) (by exact⟨SV.aa _,aC,trivial⟩) rfl<|al (cs:=[.v (.bool false),nw N (slc 1 (List.map ah []))]) (by exact⟨SV.aa _,aC,trivial⟩) rfl<|dn<|qq<|ai mixed<|ld rfl rfl (.cons rfl (.cons rfl (.nil)))<|ld rfl rfl (.cons rfl (.cons rfl (.nil))) ?_
 obtain⟨⟨fT,fH⟩,ey,h⟩:=bS h
 refine RT.aX .none (gG N ey) hN rfl ⟨rfl,rfl,trivial⟩ T<|ld rfl rfl (.cons rfl (.cons rfl (.nil)))<|ld rfl rfl (.cons rfl (.cons rfl (.nil))) ?_
 obtain⟨⟨jC,jD⟩,fN,h⟩:=bS h
 refine RT.aX .none (gG N fN) hN rfl ⟨rfl,rfl,trivial⟩ T<|so rfl rfl rfl<|so rfl rfl rfl ?_
 refine RT.done ⟨by kernel_rfl,?_⟩
 refine ae.n<|aj ?_
 obtain rfl:=O h
 exact RZ (.agg rfl rfl (.cons rfl (.cons rfl (.nil))) rfl (.agg rfl rfl (.cons rfl (.cons rfl (.nil))) rfl (.nil)))
theorem Ad{x1:Qr}{x2:Qr}(N:Nat){r:Qr}(h:fU x1 x2=some r):cM Tryz.prog 136 N [.v (.int .u8 ((43:Nat):Int)),.agg (eQ x1),.agg (eQ x2)] (.agg ((fQ N) r)):=by
 obtain⟨⟨bD,bC⟩,⟨eL,eM⟩⟩:=x1
 obtain⟨⟨lz,lA⟩,⟨xF,xG⟩⟩:=x2
 refine aP Tryz.func136 rfl (Nat.le_of_ble_eq_true rfl) (fun cE M vs hN hvs=>?_)
 unfold fU at h
 refine sr<|bx rfl<|bx rfl<|al (cs:=[.v (.bool false),nw N (slc 1 (List.map ah [])),.v (.bool false),nw N (slc 1 (List.map ah []))]) (by exact⟨SV.aa _,aC,SV.aa _,aC,trivial⟩) rfl<|dn<|sr<|ld rfl rfl (.cons rfl (.cons rfl (.cons rfl (.cons rfl (.nil))))) ?_
 obtain⟨⟨⟨iG,iH⟩,⟨je,jg⟩⟩,gN,h⟩:=bS h
 refine cl (bJ gN) ⟨rfl,trivial⟩<|mv rfl<|ex rfl rfl<|ex rfl rfl<|al (cs:=[.v (.bool false),nw N (slc 1 (List.map ah []))]) (by exact⟨SV.aa _,aC,trivial⟩) rfl<|al (cs:=[.v (.bool false),nw N (slc 1 (List.map ah []))]) (by exact⟨SV.aa _,aC,trivial⟩) rfl<|so rfl rfl rfl<|so rfl rfl rfl<|dn<|sr<|ld rfl rfl (.cons rfl (.cons rfl (.cons rfl (.cons rfl (.nil))))) ?_
 obtain⟨⟨⟨iI,iJ⟩,⟨jh,ji⟩⟩,ij,h⟩:=bS h
 refine cl (bJ ij) ⟨rfl,trivial⟩<|mv rfl<|ex rfl rfl<|ex rfl rfl<|al (cs:=[.v (.bool false),nw N (slc 1 (List.map ah []))]) (by exact⟨SV.aa _,aC,trivial⟩) rfl<|al (cs:=[.v (.bool false),nw N (slc 1 (List.map ah []))]) (by exact⟨SV.aa _,aC,trivial⟩) rfl<|so rfl rfl rfl<|so rfl rfl rfl<|dn<|qq<|ai mixed<|cl dG trivial<|mv rfl ?_
 refine RT.look .none [.func (.func 187) #[] #[]] rfl rfl rfl T<|fl rfl rfl<|ld rfl rfl (.cons rfl (.cons rfl (.nil)))<|ld rfl rfl (.cons rfl (.cons rfl (.nil)))<|ld rfl rfl (.cons rfl (.cons rfl (.nil)))<|ld rfl rfl (.cons rfl (.cons rfl (.nil))) ?_
 obtain⟨⟨⟨jE,jF⟩,⟨jG,jH⟩⟩,iP,h⟩:=bS h
 refine RT.aX .none (uz N iP) hN rfl ⟨rfl,rfl,rfl,rfl,trivial⟩ T<|ex rfl rfl<|ex rfl rfl ?_
 obtain⟨⟨⟨m9,mc⟩,⟨pP,pQ⟩⟩,kA,h⟩:=bS h
 refine RT.aX .none ((lI N kA).w (args':=[_,_]) ⟨(SV.jn (show bV [.v (.bool jE),nw N (slc 1 (List.map ah jF))] _ from⟨(SV.aa _),eO,trivial⟩)),(SV.jn (show bV [.v (.bool jG),nw N (slc 1 (List.map ah jH))] _ from⟨(SV.aa _),eO,trivial⟩)),trivial⟩) hN rfl ⟨rfl,rfl,trivial⟩ T<|so rfl rfl rfl ?_
 refine RT.done ⟨by kernel_rfl,?_⟩
 refine ae.n<|aj ?_
 obtain rfl:=O h
 exact RZ (.agg rfl rfl (.cons rfl (.cons rfl (.cons rfl (.cons rfl (.nil))))) rfl (.nil))
theorem Ae{x1:Qr}{x2:Qr}(N:Nat){r:Qr}(h:fV x1 x2=some r):cM Tryz.prog 136 N [.v (.int .u8 ((45:Nat):Int)),.agg (eQ x1),.agg (eQ x2)] (.agg ((fQ N) r)):=by
 obtain⟨⟨bD,bC⟩,⟨eL,eM⟩⟩:=x1
 obtain⟨⟨lz,lA⟩,⟨xF,xG⟩⟩:=x2
 refine aP Tryz.func136 rfl (Nat.le_of_ble_eq_true rfl) (fun cE M vs hN hvs=>?_)
 unfold fV at h
 refine sr<|bx rfl<|bx rfl<|al (cs:=[.v (.bool false),nw N (slc 1 (List.map ah [])),.v (.bool false),nw N (slc 1 (List.map ah []))]) (by exact⟨SV.aa _,aC,SV.aa _,aC,trivial⟩) rfl<|dn<|sr<|ld rfl rfl (.cons rfl (.cons rfl (.cons rfl (.cons rfl (.nil))))) ?_
 obtain⟨⟨⟨iG,iH⟩,⟨je,jg⟩⟩,gN,h⟩:=bS h
 refine cl (bJ gN) ⟨rfl,trivial⟩<|mv rfl<|ex rfl rfl<|ex rfl rfl<|al (cs:=[.v (.bool false),nw N (slc 1 (List.map ah []))]) (by exact⟨SV.aa _,aC,trivial⟩) rfl<|al (cs:=[.v (.bool false),nw N (slc 1 (List.map ah []))]) (by exact⟨SV.aa _,aC,trivial⟩) rfl<|so rfl rfl rfl<|so rfl rfl rfl<|dn<|sr<|ld rfl rfl (.cons rfl (.cons rfl (.cons rfl (.cons rfl (.nil))))) ?_
 obtain⟨⟨⟨iI,iJ⟩,⟨jh,ji⟩⟩,ij,h⟩:=bS h
 refine cl (bJ ij) ⟨rfl,trivial⟩<|mv rfl<|ex rfl rfl<|ex rfl rfl<|al (cs:=[.v (.bool false),nw N (slc 1 (List.map ah []))]) (by exact⟨SV.aa _,aC,trivial⟩) rfl<|al (cs:=[.v (.bool false),nw N (slc 1 (List.map ah []))]) (by exact⟨SV.aa _,aC,trivial⟩) rfl<|so rfl rfl rfl<|so rfl rfl rfl<|dn<|qq<|ai mixed<|cl dG trivial<|mv rfl ?_
 refine RT.look .none [.func (.func 189) #[] #[]] rfl rfl rfl T<|fl rfl rfl<|ld rfl rfl (.cons rfl (.cons rfl (.nil)))<|ld rfl rfl (.cons rfl (.cons rfl (.nil)))<|ld rfl rfl (.cons rfl (.cons rfl (.nil)))<|ld rfl rfl (.cons rfl (.cons rfl (.nil))) ?_
 obtain⟨⟨⟨jE,jF⟩,⟨jG,jH⟩⟩,iP,h⟩:=bS h
 refine RT.aX .none (uA N iP) hN rfl ⟨rfl,rfl,rfl,rfl,trivial⟩ T<|ex rfl rfl<|ex rfl rfl ?_
 obtain⟨⟨⟨m9,mc⟩,⟨pP,pQ⟩⟩,kA,h⟩:=bS h
 refine RT.aX .none ((lI N kA).w (args':=[_,_]) ⟨(SV.jn (show bV [.v (.bool jE),nw N (slc 1 (List.map ah jF))] _ from⟨(SV.aa _),eO,trivial⟩)),(SV.jn (show bV [.v (.bool jG),nw N (slc 1 (List.map ah jH))] _ from⟨(SV.aa _),eO,trivial⟩)),trivial⟩) hN rfl ⟨rfl,rfl,trivial⟩ T<|so rfl rfl rfl ?_
 refine RT.done ⟨by kernel_rfl,?_⟩
 refine ae.n<|aj ?_
 obtain rfl:=O h
 exact RZ (.agg rfl rfl (.cons rfl (.cons rfl (.cons rfl (.cons rfl (.nil))))) rfl (.nil))
theorem Af{x1:Qr}{x2:Qr}(N:Nat){r:Qr}(h:fW x1 x2=some r):cM Tryz.prog 136 N [.v (.int .u8 ((42:Nat):Int)),.agg (eQ x1),.agg (eQ x2)] (.agg ((fQ N) r)):=by
 obtain⟨⟨bD,bC⟩,⟨eL,eM⟩⟩:=x1
 obtain⟨⟨lz,lA⟩,⟨xF,xG⟩⟩:=x2
 refine aP Tryz.func136 rfl (Nat.le_of_ble_eq_true rfl) (fun cE M vs hN hvs=>?_)
 unfold fW at h
 refine sr<|bx rfl<|bx rfl<|al (cs:=[.v (.bool false),nw N (slc 1 (List.map ah [])),.v (.bool false),nw N (slc 1 (List.map ah []))]) (by exact⟨SV.aa _,aC,SV.aa _,aC,trivial⟩) rfl<|dn<|sr<|ld rfl rfl (.cons rfl (.cons rfl (.cons rfl (.cons rfl (.nil))))) ?_
 obtain⟨⟨⟨iG,iH⟩,⟨je,jg⟩⟩,gN,h⟩:=bS h
 refine cl (bJ gN) ⟨rfl,trivial⟩<|mv rfl<|ex rfl rfl<|ex rfl rfl<|al (cs:=[.v (.bool false),nw N (slc 1 (List.map ah []))]) (by exact⟨SV.aa _,aC,trivial⟩) rfl<|al (cs:=[.v (.bool false),nw N (slc 1 (List.map ah []))]) (by exact⟨SV.aa _,aC,trivial⟩) rfl<|so rfl rfl rfl<|so rfl rfl rfl<|dn<|sr<|ld rfl rfl (.cons rfl (.cons rfl (.cons rfl (.cons rfl (.nil))))) ?_
 obtain⟨⟨⟨iI,iJ⟩,⟨jh,ji⟩⟩,ij,h⟩:=bS h
 refine cl (bJ ij) ⟨rfl,trivial⟩<|mv rfl<|ex rfl rfl<|ex rfl rfl<|al (cs:=[.v (.bool false),nw N (slc 1 (List.map ah []))]) (by exact⟨SV.aa _,aC,trivial⟩) rfl<|al (cs:=[.v (.bool false),nw N (slc 1 (List.map ah []))]) (by exact⟨SV.aa _,aC,trivial⟩) rfl<|so rfl rfl rfl<|so rfl rfl rfl<|dn<|qq<|ai mixed<|cl dG trivial<|mv rfl ?_
 refine RT.look .none [.func (.func 191) #[] #[]] rfl rfl rfl T<|fl rfl rfl<|ld rfl rfl (.cons rfl (.cons rfl (.nil)))<|ld rfl rfl (.cons rfl (.cons rfl (.nil)))<|ld rfl rfl (.cons rfl (.cons rfl (.nil)))<|ld rfl rfl (.cons rfl (.cons rfl (.nil))) ?_
 obtain⟨⟨⟨jE,jF⟩,⟨jG,jH⟩⟩,iP,h⟩:=bS h
 refine RT.aX .none (uB N iP) hN rfl ⟨rfl,rfl,rfl,rfl,trivial⟩ T<|ex rfl rfl<|ex rfl rfl ?_
 obtain⟨⟨⟨m9,mc⟩,⟨pP,pQ⟩⟩,kA,h⟩:=bS h
 refine RT.aX .none ((lI N kA).w (args':=[_,_]) ⟨(SV.jn (show bV [.v (.bool jE),nw N (slc 1 (List.map ah jF))] _ from⟨(SV.aa _),eO,trivial⟩)),(SV.jn (show bV [.v (.bool jG),nw N (slc 1 (List.map ah jH))] _ from⟨(SV.aa _),eO,trivial⟩)),trivial⟩) hN rfl ⟨rfl,rfl,trivial⟩ T<|so rfl rfl rfl ?_
 refine RT.done ⟨by kernel_rfl,?_⟩
 refine ae.n<|aj ?_
 obtain rfl:=O h
 exact RZ (.agg rfl rfl (.cons rfl (.cons rfl (.cons rfl (.cons rfl (.nil))))) rfl (.nil))
theorem xS{x0:Qr}(N:Nat){r:Qr}(h:bZ x0=some r):cM Tryz.prog 93 N [.agg (eQ x0)] (.agg ((fQ N) r)):=by
 obtain⟨⟨aA,aB⟩,⟨aK,aL⟩⟩:=x0
 refine aP Tryz.func93 rfl (Nat.le_of_ble_eq_true rfl) (fun cE M vs hN hvs=>?_)
 unfold bZ at h
 refine sr<|bx rfl<|al (cs:=[.v (.bool false),nw N (slc 1 (List.map ah [])),.v (.bool false),nw N (slc 1 (List.map ah []))]) (by exact⟨SV.aa _,aC,SV.aa _,aC,trivial⟩) rfl<|dn<|qq<|sr<|ld rfl rfl (.cons rfl (.cons rfl (.cons rfl (.cons rfl (.nil))))) ?_
 obtain⟨⟨x8a,x8b,ZM⟩,h8,h⟩:=bS h
 refine cl (bW h8) ⟨rfl,trivial⟩<|mv rfl<|ex rfl rfl<|ex rfl rfl<|ex rfl rfl<|ag rfl<|ag rfl<|ag rfl<|dn<|sr<|mv rfl<|dn ?_
 cases ZM
 refine fs<|sr<|ld rfl rfl (.cons rfl (.cons rfl (.cons rfl (.cons rfl (.nil))))) ?_
 obtain⟨⟨⟨I0,I1⟩,⟨I2,I3⟩⟩,kJ,h⟩:=bS (F h)
 refine cl (bJ kJ) ⟨rfl,trivial⟩<|ex rfl rfl<|ex rfl rfl ?_
 obtain⟨⟨⟨NU,NV⟩,⟨NW,NX⟩⟩,l8,h⟩:=bS h
 refine RT.aX .none (lI N l8) hN rfl ⟨rfl,rfl,trivial⟩ T<|so rfl rfl rfl<|dn<|aj ?_
 obtain rfl:=O h
 exact RZ (.agg rfl rfl (.cons rfl (.cons rfl (.cons rfl (.cons rfl (.nil))))) rfl (.nil))
 refine cT<|sr<|mv rfl<|mv rfl ?_
 obtain⟨⟨⟨jC,jD⟩,⟨D4,D5⟩⟩,fN,h⟩:=bS (V h)
 refine RT.aX .none (mS N fN) hN rfl ⟨rfl,rfl,trivial⟩ T<|so rfl rfl rfl<|dn<|aj<|ae.r ?_
 obtain rfl:=O h
 exact RZ (.agg rfl rfl (.cons rfl (.cons rfl (.cons rfl (.cons rfl (.nil))))) rfl (.nil))
theorem Hr{x0:Qr}{x1:Qr}(N:Nat){r:Qr}(h:jJ x0 x1=some r):cM Tryz.prog 132 N [.agg (eQ x0),.agg (eQ x1)] (.agg ((fQ N) r)):=by
 obtain⟨⟨aA,aB⟩,⟨aK,aL⟩⟩:=x0
 obtain⟨⟨bD,bC⟩,⟨eL,eM⟩⟩:=x1
 refine aP Tryz.func132 rfl (Nat.le_of_ble_eq_true rfl) (fun cE M vs hN hvs=>?_)
 unfold jJ at h
 refine sr<|bx rfl<|bx rfl<|al (cs:=[.v (.bool false),nw N (slc 1 (List.map ah [])),.v (.bool false),nw N (slc 1 (List.map ah []))]) (by exact⟨SV.aa _,aC,SV.aa _,aC,trivial⟩) rfl<|dn<|sr<|ld rfl rfl (.cons rfl (.cons rfl (.cons rfl (.cons rfl (.nil))))) ?_
 obtain⟨⟨tW,rY,tX⟩,gN,h⟩:=bS h
 refine cl (bW gN) ⟨rfl,trivial⟩<|mv rfl<|ex rfl rfl<|ex rfl rfl<|ex rfl rfl<|ag rfl<|ag rfl<|ag rfl<|dn<|sr<|ld rfl rfl (.cons rfl (.cons rfl (.cons rfl (.cons rfl (.nil))))) ?_
 obtain⟨⟨tY,rZ,tZ⟩,kn,h⟩:=bS h
 refine cl (bW kn) ⟨rfl,trivial⟩<|mv rfl<|ex rfl rfl<|ex rfl rfl<|ex rfl rfl<|ag rfl<|ag rfl<|ag rfl<|dn<|qq<|qq ?_
 refine aF h (fun j3=>AS.bG 41 [(2,.ptr 2 0),(3,.ptr 3 0),(4,.ptr 4 0),(5,.sv (.v (.int .i64 tW))),(6,.sv (.v (.int .i64 rY))),(8,.sv (.v (.int .i64 tY))),(9,.sv (.v (.int .i64 rZ))),(26,.sv (.v (.bool j3)))] [(4,⟨43,[.sv (.v (.bool false)),.sv (nw N (slc 1 (List.map ah []))),.sv (.v (.bool false)),.sv (nw N (slc 1 (List.map ah [])))]⟩),(3,⟨43,[.sv (.v (.bool bD)),.sv (slc 1 (List.map ah bC)),.sv (.v (.bool eL)),.sv (slc 1 (List.map ah eM))]⟩),(2,⟨43,[.sv (.v (.bool aA)),.sv (slc 1 (List.map ah aB)),.sv (.v (.bool aK)),.sv (slc 1 (List.map ah aL))]⟩)] []) (fun h=>?_) (fun nh h=>?_)
 refine af<|mv rfl<|mv rfl<|bE h fun ua mR h=>?_
 cases tX
 obtain rfl:=O (F mR)
 exact ww<|pF rfl<|dn<|⟨false,h,wR []⟩
 refine gm rfl ?_
 obtain rfl:=O (V mR)
 exact pT rfl<|dn<|⟨tZ,h,wR []⟩
 try dsimp only
 refine ae.n ?_
 cases nh
 refine fs<|sr<|ld rfl rfl (.cons rfl (.cons rfl (.cons rfl (.cons rfl (.nil)))))<|ld rfl rfl (.cons rfl (.cons rfl (.cons rfl (.cons rfl (.nil))))) ?_
 obtain⟨⟨⟨tN,tO⟩,⟨BI,BJ⟩⟩,mQ,h⟩:=bS (F h)
 refine RT.aX .none (Ad N mQ) hN rfl ⟨rfl,rfl,rfl,trivial⟩ T<|so rfl rfl rfl<|dn<|aj ?_
 obtain rfl:=O h
 exact RZ (.agg rfl rfl (.cons rfl (.cons rfl (.cons rfl (.cons rfl (.nil))))) rfl (.nil))
 refine cT<|sr<|mv rfl<|mv rfl<|lE (V h) fun gA iP h=>RT.mul .none _ rfl rfl T iP<|mv rfl<|mv rfl<|lE h fun iE kA h=>RT.mul .none _ rfl rfl T kA<|lE h fun rN rT h=>ad _ rfl rfl rT<|mv rfl<|mv rfl<|lE h fun pH pA h=>RT.mul .none _ rfl rfl T pA ?_
 obtain⟨⟨⟨BE,BF⟩,⟨BG,BH⟩⟩,yP,h⟩:=bS h
 refine RT.aX .none (mS N yP) hN rfl ⟨rfl,rfl,trivial⟩ T<|so rfl rfl rfl<|dn<|aj<|ae.r ?_
 obtain rfl:=O h
 exact RZ (.agg rfl rfl (.cons rfl (.cons rfl (.cons rfl (.cons rfl (.nil))))) rfl (.nil))
theorem Hs{x0:Qr}{x1:Qr}(N:Nat){r:Qr}(h:kK x0 x1=some r):cM Tryz.prog 94 N [.agg (eQ x0),.agg (eQ x1)] (.agg ((fQ N) r)):=by
 obtain⟨⟨aA,aB⟩,⟨aK,aL⟩⟩:=x0
 obtain⟨⟨bD,bC⟩,⟨eL,eM⟩⟩:=x1
 refine aP Tryz.func94 rfl (Nat.le_of_ble_eq_true rfl) (fun cE M vs hN hvs=>?_)
 unfold kK at h
 refine sr<|bx rfl<|bx rfl<|al (cs:=[.v (.bool false),nw N (slc 1 (List.map ah [])),.v (.bool false),nw N (slc 1 (List.map ah []))]) (by exact⟨SV.aa _,aC,SV.aa _,aC,trivial⟩) rfl<|dn<|sr<|ld rfl rfl (.cons rfl (.cons rfl (.cons rfl (.cons rfl (.nil))))) ?_
 obtain⟨⟨tW,rY,tX⟩,gN,h⟩:=bS h
 refine cl (bW gN) ⟨rfl,trivial⟩<|mv rfl<|ex rfl rfl<|ex rfl rfl<|ex rfl rfl<|ag rfl<|ag rfl<|ag rfl<|dn<|sr<|ld rfl rfl (.cons rfl (.cons rfl (.cons rfl (.cons rfl (.nil))))) ?_
 obtain⟨⟨tY,rZ,tZ⟩,kn,h⟩:=bS h
 refine cl (bW kn) ⟨rfl,trivial⟩<|mv rfl<|ex rfl rfl<|ex rfl rfl<|ex rfl rfl<|ag rfl<|ag rfl<|ag rfl<|dn<|qq<|qq ?_
 refine aF h (fun j3=>AS.bG 41 [(2,.ptr 2 0),(3,.ptr 3 0),(4,.ptr 4 0),(5,.sv (.v (.int .i64 tW))),(6,.sv (.v (.int .i64 rY))),(8,.sv (.v (.int .i64 tY))),(9,.sv (.v (.int .i64 rZ))),(26,.sv (.v (.bool j3)))] [(4,⟨43,[.sv (.v (.bool false)),.sv (nw N (slc 1 (List.map ah []))),.sv (.v (.bool false)),.sv (nw N (slc 1 (List.map ah [])))]⟩),(3,⟨43,[.sv (.v (.bool bD)),.sv (slc 1 (List.map ah bC)),.sv (.v (.bool eL)),.sv (slc 1 (List.map ah eM))]⟩),(2,⟨43,[.sv (.v (.bool aA)),.sv (slc 1 (List.map ah aB)),.sv (.v (.bool aK)),.sv (slc 1 (List.map ah aL))]⟩)] []) (fun h=>?_) (fun nh h=>?_)
 refine af<|mv rfl<|mv rfl<|bE h fun ua mR h=>?_
 cases tX
 obtain rfl:=O (F mR)
 exact ww<|pF rfl<|dn<|⟨false,h,wR []⟩
 refine gm rfl ?_
 obtain rfl:=O (V mR)
 exact pT rfl<|dn<|⟨tZ,h,wR []⟩
 try dsimp only
 refine ae.n ?_
 cases nh
 refine fs<|sr<|ld rfl rfl (.cons rfl (.cons rfl (.cons rfl (.cons rfl (.nil)))))<|ld rfl rfl (.cons rfl (.cons rfl (.cons rfl (.cons rfl (.nil))))) ?_
 obtain⟨⟨⟨tN,tO⟩,⟨BI,BJ⟩⟩,mQ,h⟩:=bS (F h)
 refine RT.aX .none (Ae N mQ) hN rfl ⟨rfl,rfl,rfl,trivial⟩ T<|so rfl rfl rfl<|dn<|aj ?_
 obtain rfl:=O h
 exact RZ (.agg rfl rfl (.cons rfl (.cons rfl (.cons rfl (.cons rfl (.nil))))) rfl (.nil))
 refine cT<|sr<|mv rfl<|mv rfl<|lE (V h) fun gA iP h=>RT.mul .none _ rfl rfl T iP<|mv rfl<|mv rfl<|lE h fun iE kA h=>RT.mul .none _ rfl rfl T kA<|lE h fun rN rT h=>sb _ rfl rfl rT<|mv rfl<|mv rfl<|lE h fun pH pA h=>RT.mul .none _ rfl rfl T pA ?_
 obtain⟨⟨⟨BE,BF⟩,⟨BG,BH⟩⟩,yP,h⟩:=bS h
 refine RT.aX .none (mS N yP) hN rfl ⟨rfl,rfl,trivial⟩ T<|so rfl rfl rfl<|dn<|aj<|ae.r ?_
 obtain rfl:=O h
 exact RZ (.agg rfl rfl (.cons rfl (.cons rfl (.cons rfl (.cons rfl (.nil))))) rfl (.nil))
theorem Ht{x0:Qr}{x1:Qr}(N:Nat){r:Qr}(h:iK x0 x1=some r):cM Tryz.prog 89 N [.agg (eQ x0),.agg (eQ x1)] (.agg ((fQ N) r)):=by
 obtain⟨⟨aA,aB⟩,⟨aK,aL⟩⟩:=x0
 obtain⟨⟨bD,bC⟩,⟨eL,eM⟩⟩:=x1
 refine aP Tryz.func89 rfl (Nat.le_of_ble_eq_true rfl) (fun cE M vs hN hvs=>?_)
 unfold iK at h
 refine sr<|bx rfl<|bx rfl<|al (cs:=[.v (.bool false),nw N (slc 1 (List.map ah [])),.v (.bool false),nw N (slc 1 (List.map ah []))]) (by exact⟨SV.aa _,aC,SV.aa _,aC,trivial⟩) rfl<|dn<|sr<|ld rfl rfl (.cons rfl (.cons rfl (.cons rfl (.cons rfl (.nil))))) ?_
 obtain⟨⟨tW,rY,tX⟩,gN,h⟩:=bS h
 refine cl (bW gN) ⟨rfl,trivial⟩<|mv rfl<|ex rfl rfl<|ex rfl rfl<|ex rfl rfl<|ag rfl<|ag rfl<|ag rfl<|dn<|sr<|ld rfl rfl (.cons rfl (.cons rfl (.cons rfl (.cons rfl (.nil))))) ?_
 obtain⟨⟨tY,rZ,tZ⟩,kn,h⟩:=bS h
 refine cl (bW kn) ⟨rfl,trivial⟩<|mv rfl<|ex rfl rfl<|ex rfl rfl<|ex rfl rfl<|ag rfl<|ag rfl<|ag rfl<|dn<|qq<|qq ?_
 refine aF h (fun j3=>AS.bG 37 [(2,.ptr 2 0),(3,.ptr 3 0),(4,.ptr 4 0),(5,.sv (.v (.int .i64 tW))),(6,.sv (.v (.int .i64 rY))),(8,.sv (.v (.int .i64 tY))),(9,.sv (.v (.int .i64 rZ))),(26,.sv (.v (.bool j3)))] [(4,⟨43,[.sv (.v (.bool false)),.sv (nw N (slc 1 (List.map ah []))),.sv (.v (.bool false)),.sv (nw N (slc 1 (List.map ah [])))]⟩),(3,⟨43,[.sv (.v (.bool bD)),.sv (slc 1 (List.map ah bC)),.sv (.v (.bool eL)),.sv (slc 1 (List.map ah eM))]⟩),(2,⟨43,[.sv (.v (.bool aA)),.sv (slc 1 (List.map ah aB)),.sv (.v (.bool aK)),.sv (slc 1 (List.map ah aL))]⟩)] []) (fun h=>?_) (fun nh h=>?_)
 refine af<|mv rfl<|mv rfl<|bE h fun ua mR h=>?_
 cases tX
 obtain rfl:=O (F mR)
 exact ww<|pF rfl<|dn<|⟨false,h,wR []⟩
 refine gm rfl ?_
 obtain rfl:=O (V mR)
 exact pT rfl<|dn<|⟨tZ,h,wR []⟩
 try dsimp only
 refine ae.n ?_
 cases nh
 refine fs<|sr<|ld rfl rfl (.cons rfl (.cons rfl (.cons rfl (.cons rfl (.nil)))))<|ld rfl rfl (.cons rfl (.cons rfl (.cons rfl (.cons rfl (.nil))))) ?_
 obtain⟨⟨⟨pI,pJ⟩,⟨D6,D7⟩⟩,pA,h⟩:=bS (F h)
 refine RT.aX .none (Af N pA) hN rfl ⟨rfl,rfl,rfl,trivial⟩ T<|so rfl rfl rfl<|dn<|aj ?_
 obtain rfl:=O h
 exact RZ (.agg rfl rfl (.cons rfl (.cons rfl (.cons rfl (.cons rfl (.nil))))) rfl (.nil))
 refine cT<|sr<|mv rfl<|mv rfl<|lE (V h) fun gA iP h=>RT.mul .none _ rfl rfl T iP<|mv rfl<|mv rfl<|lE h fun iE kA h=>RT.mul .none _ rfl rfl T kA ?_
 obtain⟨⟨⟨NY,NZ⟩,⟨N0,N3⟩⟩,rT,h⟩:=bS h
 refine RT.aX .none (mS N rT) hN rfl ⟨rfl,rfl,trivial⟩ T<|so rfl rfl rfl<|dn<|aj<|ae.r ?_
 obtain rfl:=O h
 exact RZ (.agg rfl rfl (.cons rfl (.cons rfl (.cons rfl (.cons rfl (.nil))))) rfl (.nil))
end Go.Proofs.YtningmnklfpfjaaGreat
namespace Go.Fw
open Go.RowKit
section steps
variable {P:Program}{C:Ctx}{ops:Array Oper}{S:AS}{nd:Bool}{K:List Ac→AS→Prop}{rest:List Oper}{acc:List Ac}{N:Nat}
variable {gd:Option (Nat×Bool)}{rg:List Nat}{d:Nat}{ty:TypeId}{pos:String}{aft:Array Edge}{x y z:Operand}{T U E0:TypeId}
theorem RT.WN(hg:Gd ops S gd rg){f:FuncId}[bA P f]{g:Operand}{xs:Array Operand}{at_:Array TypeId}{args caps:List SV}{r:SV}(hp:cM P f N (args++caps) r)(hN:N≤C.w0.heap.size)(hf:S.ev g=.sv (gX f caps))(hargs:gi S xs.toList args)(hd:d<S.n)
  (next:RunT P C ops nd K rest (⟨rg++(au g++xs.toList.flatMap au),[],[],⟨some (d,.sv r),[],[]⟩⟩::acc) (S.set d (.sv r))):RunT P C ops nd K (⟨some d,.call ⟨.value g,xs,at_⟩,ty,pos,aft,gd⟩::rest) acc S:=by
 refine .inl ⟨_,[],[],_,?_,next⟩
 rintro S' hn ht _ _ i a w L Q ho ⟨E,h⟩ hL
 refine bR (C:=C) ho (hg.wanted h (fun s hs=>ht s (List.mem_append_left _ hs)) rfl) ?_
 have tg:(gX f caps).h E.M (a.eval g):=by
  have h1:=h.ev g;rw[aH (fun _ h=>List.mem_append_right _ (List.mem_append_left _ h)) ht,hf]at h1;exact h1
 obtain⟨oq,tg,yD⟩:=tg
 have hall:=SV.dO.append (gi.vals h hargs (fun s hs=>ht s (List.mem_append_right _ (List.mem_append_right _ hs)))) yD
 have hr:(execOp a.eval ⟨some d,.call ⟨.value g,xs,at_⟩,ty,pos,aft,gd⟩).run P w=.ok (.enter f ⟨xs.toList.map a.eval++oq⟩) w:=by
  have e2:xs.map a.eval++⟨oq⟩=⟨xs.toList.map a.eval++oq⟩:=by apply Array.ext';simp
  have e1:=bA.run (P:=P) (f:=f) (xs.map a.eval++⟨oq⟩) w
  rw[←e2]
  simp[execOp,resolve,tg,Deferred.ofValue,invoke,e1]
 refine bP (C:=C) (by intro c h;cases h) hr ?_
 refine⟨fun h=>by simp at h,gu ((hp E.M w _ (Nat.le_trans hN h.grown) h.cH hall).mono ?_)⟩
 rintro e w' ⟨v,M',rfl,hM,hnew,hin,hv,hb⟩
 exact hL _ _ ⟨_,(h.grow hM hnew hin hb).put (x:=.sv r) hv (by show d<S'.n;omega) eI⟩
end steps
end Go.Fw
namespace Go.Proofs.YtningmnklfpfjaaGreat
open Go.Fw Go.Fw.Z Go.RowKit
theorem Cj{x0:List Qr}{x1:List Qr}(N:Nat){r:List Qr}(h:iV x0 x1=some r):cM Tryz.prog 95 N [slc 4 (List.map eQ x0),slc 4 (List.map eQ x1),.v (.func (.func 94) #[] #[])] (nw N (slc 4 (List.map (fQ N) r))):=by
 refine aP Tryz.func95 rfl (Nat.le_of_ble_eq_true rfl) (fun cE M vs hN hvs=>?_)
 unfold iV at h
 refine sr<|RT.vZ .none (s:=.sv _) rfl T rfl rfl<|aI rfl (aC (N:=N) (n:=4) (e:=(fQ N)))<|dn<|sr<|mv rfl<|lE h fun gY mG h=>ln rfl mG<|mv rfl<|lE h fun iu gN h=>ln rfl gN<|lE h fun eH jc h=>RT.max .none _ rfl rfl T (GG (p:=gY) (q:=iu) jc)<|bE h fun dQ fN h=>RT.vK (e:=(fQ N)) .none rfl rfl T rfl T fN<|RT.alloc .none T rfl rfl<|RT.iC (cells:=[_]) .none rfl rfl rfl rfl T rfl<|dn<|qq<|sr ?_
 refine mv rfl<|mv rfl<|cl (jR x0 x1) ⟨rfl,rfl,trivial⟩<|dn<|aq<|bE h fun iL Ww Wx=>?_
 obtain⟨Od,Wy,Wz,WA⟩:=iU Ww
 refine fz (jS x0 x1) (fun _ _ _ _ _=>trivial) rfl (fun k=>AS.bG 29 [(5,.ptr 5 0),(7,.ptr 7 0),(18,.sv (gX 165 [ref [slc 4 (List.map eQ x0)],ref [slc 4 (List.map eQ x1)]]))] [(7,⟨23,[.row 302]⟩),(5,⟨106,[.sv (.v (.func (.func 94) #[] #[]))]⟩)] [(302,TR 43 4 (fQ N) (Od k))]) [7,5] rfl (fun _=>⟨rfl,rfl⟩) (nH rfl) (fun _=>rfl) (nI rfl) (by(try dsimp only);rw[Wy];(try dsimp only);exact cS (fun i=>bif Nat.beq i 302 then 15 else i) rfl rfl rfl rfl rfl ⟨.ptr,.ptr,.sv (SV.aa _),trivial⟩ ⟨⟨_,rfl,⟨.row rfl,trivial⟩⟩,⟨_,rfl,⟨.sv (SV.aa _),trivial⟩⟩,trivial⟩ ⟨⟨_,rfl,bV.refl _⟩,trivial⟩ (fun i hi=>by rw[bQ (show i≠302 by omega)];rfl)) (fun k hk D hD=>?_) ?_
 have h:=Wz k hk
 obtain⟨iL,GS⟩:∃q,Od k=q:=⟨_,rfl⟩
 rw[GS]at h⊢
 dsimp only[AS.JH,ot]
 try dsimp only at h
 obtain⟨⟨⟨BM,BN⟩,⟨BO,BP⟩⟩,I4,h⟩:=bS h
 rw[Option.some.inj I4]
 obtain⟨⟨⟨BQ,BR⟩,⟨BS,BT⟩⟩,Bz,h⟩:=bS h
 rw[Option.some.inj Bz]
 refine sr<|al (cs:=[.v (.bool false),nw N (slc 1 (List.map ah [])),.v (.bool false),nw N (slc 1 (List.map ah []))]) (by exact⟨SV.aa _,aC,SV.aa _,aC,trivial⟩) rfl<|so rfl rfl rfl<|dn<|af<|al (cs:=[.v (.bool false),nw N (slc 1 (List.map ah [])),.v (.bool false),nw N (slc 1 (List.map ah []))]) (by exact⟨SV.aa _,aC,SV.aa _,aC,trivial⟩) rfl<|so rfl rfl rfl<|RT.done ?_
 refine ae.n ⟨rfl,?_⟩
 dsimp only[AS.xw]
 refine aq<|ai mixed<|RT.eA .none (s:=.row _) rfl rfl rfl T<|lV rfl rfl rfl<|ld rfl rfl (.cons rfl (.cons rfl (.cons rfl (.cons rfl (.nil)))))<|ld rfl rfl (.cons rfl (.cons rfl (.cons rfl (.cons rfl (.nil))))) ?_
 obtain⟨⟨⟨ig,gW⟩,⟨ni,nj⟩⟩,qC,h⟩:=bS h
 refine RT.aX .none (Hs N qC) (Nat.le_trans hN hD) rfl ⟨rfl,rfl,trivial⟩ T<|bl (l:=[⟨⟨ig,gW⟩,⟨ni,nj⟩⟩]) (e:=(fQ N)) (.agg rfl (.nil)) rfl rfl rfl rfl rfl rfl<|bE h fun kj og h=>aR (k:=[⟨⟨ig,gW⟩,⟨ni,nj⟩⟩]) (e:=(fQ N)) rfl rfl rfl og<|RT.iC (cells:=[_]) .none rfl rfl rfl rfl T rfl ?_
 refine RT.done ⟨by kernel_rfl,?_⟩
 refine aG.n ?_
 replace h:=Option.some.inj h
 refine⟨trivial,rfl,rfl,?_⟩
 try dsimp only
 rw[←h]
 try dsimp only
 exact cS (fun i=>bif Nat.beq i 302 then 27 else i) rfl rfl rfl rfl rfl ⟨.ptr,.ptr,.sv (SV.aa _),trivial⟩ ⟨⟨_,rfl,⟨.row rfl,trivial⟩⟩,⟨_,rfl,⟨.sv (SV.aa _),trivial⟩⟩,trivial⟩ ⟨⟨_,rfl,bV.refl _⟩,trivial⟩ (fun i hi=>by rw[bQ (show i≠302 by omega)];rfl)
 rw[WA]
 try dsimp only
 refine aG.n<|ae.n<|sr<|RT.eA .none (s:=.row _) rfl rfl rfl T<|an (s:=.row _) rfl<|dn<|kC (i:=302) (E1:=43) (n:=4) (e:=(fQ N)) (l:=iL) hN (fun _ h=>h) rfl<|aj ?_
 obtain rfl:=O Wx
 exact R1 rfl
theorem wN{x0:Qr}{x1:Qr}{Dn:Qr}(N:Nat){r:Qr}(h:gE x0 x1 Dn=some r):cM Tryz.prog 141 N [.agg (eQ x0),.agg (eQ x1),ref (eQ Dn)] (.agg ((fQ N) r)):=by
 obtain⟨⟨aA,aB⟩,⟨aK,aL⟩⟩:=x0
 obtain⟨⟨bD,bC⟩,⟨eL,eM⟩⟩:=x1
 obtain⟨⟨D8,D9⟩,⟨Ea,Eb⟩⟩:=Dn
 refine aP Tryz.func141 rfl (Nat.le_of_ble_eq_true rfl) (fun cE M vs hN hvs=>?_)
 unfold gE at h
 refine sr<|bx rfl<|bx rfl<|al (cs:=[.v (.bool false),nw N (slc 1 (List.map ah [])),.v (.bool false),nw N (slc 1 (List.map ah []))]) (by exact⟨SV.aa _,aC,SV.aa _,aC,trivial⟩) rfl<|dn<|qq<|ai mixed<|RT.iw (cs:=[_,_,_,_]) .none rfl T rfl rfl<|ld rfl rfl (.cons rfl (.cons rfl (.cons rfl (.cons rfl (.nil))))) ?_
 obtain⟨⟨⟨vu,vv⟩,⟨z9,Aa⟩⟩,h8,h⟩:=bS h
 refine RT.aX .none (Ht N h8) hN rfl ⟨rfl,rfl,trivial⟩ T<|ld rfl rfl (.cons rfl (.cons rfl (.cons rfl (.cons rfl (.nil))))) ?_
 obtain⟨⟨⟨Bs,Bt⟩,⟨N6,N7⟩⟩,fM,h⟩:=bS h
 refine RT.aX .none ((Hr N fM).w (args':=[_,_]) ⟨(SV.jn (show bV [.v (.bool vu),nw N (slc 1 (List.map ah vv)),.v (.bool z9),nw N (slc 1 (List.map ah Aa))] _ from⟨(SV.aa _),eO,(SV.aa _),eO,trivial⟩)),(SV.aa _),trivial⟩) hN rfl ⟨rfl,rfl,trivial⟩ T<|so rfl rfl rfl ?_
 refine RT.done ⟨by kernel_rfl,?_⟩
 refine ae.n<|aj ?_
 obtain rfl:=O h
 exact RZ (.agg rfl rfl (.cons rfl (.cons rfl (.cons rfl (.cons rfl (.nil))))) rfl (.nil))
theorem xT{x0:List Qr}{x1:List Qr}{Fz:Qr}(N:Nat){r:List Qr}(h:fO x0 x1 Fz=some r):cM Tryz.prog 95 N [slc 4 (List.map eQ x0),slc 4 (List.map eQ x1),gX 141 [ref (eQ Fz)]] (nw N (slc 4 (List.map (fQ N) r))):=by
 obtain⟨⟨BU,BV⟩,⟨BW,BX⟩⟩:=Fz
 refine aP Tryz.func95 rfl (Nat.le_of_ble_eq_true rfl) (fun cE M vs hN hvs=>?_)
 unfold fO at h
 refine sr<|RT.vZ .none (s:=.sv _) rfl T rfl rfl<|aI rfl (aC (N:=N) (n:=4) (e:=(fQ N)))<|dn<|sr<|mv rfl<|lE h fun gY mG h=>ln rfl mG<|mv rfl<|lE h fun iu gN h=>ln rfl gN<|lE h fun eH jc h=>RT.max .none _ rfl rfl T (GG (p:=gY) (q:=iu) jc)<|bE h fun dQ fN h=>RT.vK (e:=(fQ N)) .none rfl rfl T rfl T fN<|RT.alloc .none T rfl rfl<|RT.iC (cells:=[_]) .none rfl rfl rfl rfl T rfl<|dn<|qq<|sr ?_
 refine mv rfl<|mv rfl<|cl (jR x0 x1) ⟨rfl,rfl,trivial⟩<|dn<|aq<|bE h fun iL Ww Wx=>?_
 obtain⟨Od,Wy,Wz,WA⟩:=iU Ww
 refine fz (jS x0 x1) (fun _ _ _ _ _=>trivial) rfl (fun k=>AS.bG 29 [(5,.ptr 5 0),(7,.ptr 7 0),(18,.sv (gX 165 [ref [slc 4 (List.map eQ x0)],ref [slc 4 (List.map eQ x1)]]))] [(7,⟨23,[.row 302]⟩),(5,⟨106,[.sv (gX 141 [ref [.v (.bool BU),slc 1 (List.map ah BV),.v (.bool BW),slc 1 (List.map ah BX)]])]⟩)] [(302,TR 43 4 (fQ N) (Od k))]) [7,5] rfl (fun _=>⟨rfl,rfl⟩) (nH rfl) (fun _=>rfl) (nI rfl) (by(try dsimp only);rw[Wy];(try dsimp only);exact cS (fun i=>bif Nat.beq i 302 then 15 else i) rfl rfl rfl rfl rfl ⟨.ptr,.ptr,.sv (SV.aa _),trivial⟩ ⟨⟨_,rfl,⟨.row rfl,trivial⟩⟩,⟨_,rfl,⟨.sv (SV.aa _),trivial⟩⟩,trivial⟩ ⟨⟨_,rfl,bV.refl _⟩,trivial⟩ (fun i hi=>by rw[bQ (show i≠302 by omega)];rfl)) (fun k hk D hD=>?_) ?_
 have h:=Wz k hk
 obtain⟨iL,GS⟩:∃q,Od k=q:=⟨_,rfl⟩
 rw[GS]at h⊢
 dsimp only[AS.JH,ot]
 try dsimp only at h
 obtain⟨⟨⟨BM,BN⟩,⟨BO,BP⟩⟩,I4,h⟩:=bS h
 rw[Option.some.inj I4]
 obtain⟨⟨⟨BQ,BR⟩,⟨BS,BT⟩⟩,Bz,h⟩:=bS h
 rw[Option.some.inj Bz]
 refine sr<|al (cs:=[.v (.bool false),nw N (slc 1 (List.map ah [])),.v (.bool false),nw N (slc 1 (List.map ah []))]) (by exact⟨SV.aa _,aC,SV.aa _,aC,trivial⟩) rfl<|so rfl rfl rfl<|dn<|af<|al (cs:=[.v (.bool false),nw N (slc 1 (List.map ah [])),.v (.bool false),nw N (slc 1 (List.map ah []))]) (by exact⟨SV.aa _,aC,SV.aa _,aC,trivial⟩) rfl<|so rfl rfl rfl<|RT.done ?_
 refine ae.n ⟨rfl,?_⟩
 dsimp only[AS.xw]
 refine aq<|ai mixed<|RT.eA .none (s:=.row _) rfl rfl rfl T<|lV rfl rfl rfl<|ld rfl rfl (.cons rfl (.cons rfl (.cons rfl (.cons rfl (.nil)))))<|ld rfl rfl (.cons rfl (.cons rfl (.cons rfl (.cons rfl (.nil))))) ?_
 obtain⟨⟨⟨ig,gW⟩,⟨ni,nj⟩⟩,qC,h⟩:=bS h
 refine RT.WN (args:=[_,_]) (caps:=[_]) .none (wN N qC) (Nat.le_trans hN hD) rfl ⟨rfl,rfl,trivial⟩ T<|bl (l:=[⟨⟨ig,gW⟩,⟨ni,nj⟩⟩]) (e:=(fQ N)) (.agg rfl (.nil)) rfl rfl rfl rfl rfl rfl<|bE h fun kj og h=>aR (k:=[⟨⟨ig,gW⟩,⟨ni,nj⟩⟩]) (e:=(fQ N)) rfl rfl rfl og<|RT.iC (cells:=[_]) .none rfl rfl rfl rfl T rfl ?_
 refine RT.done ⟨by kernel_rfl,?_⟩
 refine aG.n ?_
 replace h:=Option.some.inj h
 refine⟨trivial,rfl,rfl,?_⟩
 try dsimp only
 rw[←h]
 try dsimp only
 exact cS (fun i=>bif Nat.beq i 302 then 27 else i) rfl rfl rfl rfl rfl ⟨.ptr,.ptr,.sv (SV.aa _),trivial⟩ ⟨⟨_,rfl,⟨.row rfl,trivial⟩⟩,⟨_,rfl,⟨.sv (SV.aa _),trivial⟩⟩,trivial⟩ ⟨⟨_,rfl,bV.refl _⟩,trivial⟩ (fun i hi=>by rw[bQ (show i≠302 by omega)];rfl)
 rw[WA]
 try dsimp only
 refine aG.n<|ae.n<|sr<|RT.eA .none (s:=.row _) rfl rfl rfl T<|an (s:=.row _) rfl<|dn<|kC (i:=302) (E1:=43) (n:=4) (e:=(fQ N)) (l:=iL) hN (fun _ h=>h) rfl<|aj ?_
 obtain rfl:=O Wx
 exact R1 rfl
theorem yZ{x0:Qr}{x1:List Qr}{x2:List Qr}(N:Nat){r:List Qr}(h:ei x0 x1 x2=some r):cM Tryz.prog 96 N [.agg (eQ x0),slc 4 (List.map eQ x1),slc 4 (List.map eQ x2)] (nw N (slc 4 (List.map (fQ N) r))):=by
 obtain⟨⟨aA,aB⟩,⟨aK,aL⟩⟩:=x0
 refine aP Tryz.func96 rfl (Nat.le_of_ble_eq_true rfl) (fun cE M vs hN hvs=>?_)
 unfold ei at h
 refine sr<|bx rfl<|aI rfl (aC (N:=N) (n:=4) (e:=(fQ N)))<|dn ?_
 refine bz (gp (i:=3) rfl [.v (.bool aA),slc 1 (List.map ah aB),.v (.bool aK),slc 1 (List.map ah aL)] (.cons rfl (.cons rfl (.cons rfl (.cons rfl (.nil))))) .any 0 [(3,.sv (ref [.v (.bool aA),slc 1 (List.map ah aB),.v (.bool aK),slc 1 (List.map ah aL)]))] (fun _ _ _=>trivial) (qp.h (l:=[.v (.bool aA),slc 1 (List.map ah aB),.v (.bool aK),slc 1 (List.map ah aL)])) ⟨@FT.ptr _ _ _ _ _ 3 0 rfl,trivial⟩)<|sr<|mv rfl<|mv rfl<|RT.uT (caps:=[_]) .none ⟨rfl,trivial⟩ T<|bE h fun dB fM h=>?_
 refine RT.aX .none (xT N fM) hN rfl ⟨rfl,rfl,rfl,trivial⟩ T<|ag rfl<|dn<|aj ?_
 obtain rfl:=O h
 exact R1 rfl
theorem I9{x0:List Qr}{x1:List Qr}(N:Nat){r:List Qr}(h:mJ x0 x1=some r):cM Tryz.prog 50 N [slc 4 (List.map eQ x0),slc 4 (List.map eQ x1)] (nw N (slc 4 (List.map (fQ N) r))):=by
 refine aP Tryz.func50 rfl (Nat.le_of_ble_eq_true rfl) (fun cE M vs hN hvs=>?_)
 unfold mJ at h
 refine sr<|aI rfl (aC (N:=N) (n:=4) (e:=(fQ N)))<|dn<|sr<|mv rfl<|mv rfl<|bE h fun x7 h7 h=>RT.aX .none (Cj N h7) hN rfl ⟨rfl,rfl,rfl,trivial⟩ T<|ag rfl<|dn<|aj ?_
 obtain rfl:=O h
 exact R1 rfl
end Go.Proofs.YtningmnklfpfjaaGreat
namespace Go.Fw
open Go.RowKit
def J5(P:Program)(f:FuncId)(args:Nat→List AV)(T:TypeId)(c:List Oc)(Post:Nat→Mem→World→Value→Prop):Prop:=
 ∀(M:Mem) (w:World) (β:Nat) (vs us:List Value),M.cH w→pR M w β T c us→cI (oQ M β) (args β) vs→
  Calls P f ⟨vs⟩ w fun e w'=>∃v M',e=.returned v∧M.le M'∧(∀b o x,M' b o=some x→M b o=some x∨w.heap.size≤b)∧M'.cH w'∧Post w.heap.size M' w' v∧
   pR M' w' β T c us∧w'.os=w.os∧w'.tape=w.tape∧w'.output=w.output∧w.heap.size≤w'.heap.size∧∀k,k<w.heap.size→k≠β→¬dR c us k→w'.heap[k]? =w.heap[k]?
theorem Hu{P:Program}{f:FuncId}{fn:Func}{code:Code}{args:Nat→List AV}{T:TypeId}{c:List Oc}{Post:Nat→Mem→World→Value→Prop}(ids:List Nat)(hf:P.funcs[f]? =some fn)(hb:fn.body=some code)(hn:∀β,(args β).length≤fn.ntmps)(JX:∀β,(args β).all AV.oy=true)(C4:ids.Nodup)(Tq:ids.length=(rowsOf c).length)(hge:(ids.all fun i=>Nat.ble 1000 i)=true)(WO:FC c)(Rq:AS→Prop)
  (h:∀(w:World) (M:Mem) (β:Nat) (us:List Value),Ok P (Q3 w M β c us ids hge) code (AS.CY fn.ntmps (args β) [(1000,⟨T,bK ids c⟩)] (ids.zip (rowsOf c))) (fun e S=>(e=.normal∨e=.ret)∧Rq S∧S.b 1000=some ⟨T,bK ids c⟩∧Lv S ids (rowsOf c)))
  (hr:∀(w:World) (M:Mem) (β:Nat) (us:List Value) (S':AS) (E:Env) (a:Act) (w':World),Rq S'→az (Q3 w M β c us ids hge) S' E a w'→S'.b 1000=some ⟨T,bK ids c⟩→(∀g,dR c us g→∃j∈ids,(E.ν j).ownBlock=some g)→(∀j∈ids,∃R,S'.r j=.live R)→∃v,(results fn a.tmps).run P w'=.ok v w'∧Post w.heap.size E.M w' v):J5 P f args T c Post:=by
 intro M w β vs us hM ho hv
 have Yj:(bt c us).length=(rowsOf c).length:=by rw[←iA ho.al,List.length_map]
 have hnd:((ids.zip (bt c us)).map (·.1)).Nodup:=by rw[AB (by omega)];exact C4
 have UB:az (Q3 w M β c us ids hge) (AS.CY fn.ntmps (args β) [(1000,⟨T,bK ids c⟩)] (ids.zip (rowsOf c))) ⟨fun _=>β,kL (ids.zip (bt c us)) (fun _=>.nilIface),fun _=>False,M⟩ {tmps:=⟨vs⟩++Array.replicate (fn.ntmps-(⟨vs⟩:Array Value).size) undef,defers:=[]} w:=by
  have h0:=JW (n:=fn.ntmps) ids hM ho hv (JX β) (hn β) C4 Tq
  exact{wf:=h0.wf,marks:=h0.marks,size:=h0.size,os:=h0.os,tape:=h0.tape,output:=h0.output,grown:=h0.grown,frame:=h0.frame,m0:=h0.m0,ep:=h0.ep,cH:=h0.cH,tm:=h0.tm,bx:=h0.bx,inj:=h0.inj,rx:=h0.rx,eX:=h0.eX,gL:=h0.gL,dP:=fun i v e=>(by
   obtain⟨R,hm⟩:=FB e
   exact iQ hnd hm),kN:=h0.kN,jj:=trivial}
 refine gx rfl hf hb UB (h w M β us) ?_
 rintro S' E a w' ⟨hq,hB,hL⟩ hh
 have hβ:E.β 1000=β:=hh.gL 1000 β rfl
 obtain⟨us',ho',kI⟩:=qH hh hB hL C4
 rw[hβ]at ho'
 obtain⟨_,_,_,YJ,q2,q3⟩:=hh.bx 1000 _ hB
 rw[hβ,ho'.hp]at q2
 obtain rfl:us'=YJ:=by
  have:=Option.some.inj q2
  injection this with e
  injection e
 obtain⟨_,aex⟩:=um hh hL q3
 have jv:bt c us=bt c us':=by
  rw[aex]
  have key:∀(ids:List Nat) (l:List (Row×Value)) (Rs:List Row),ids.length=l.length→l.map (·.1)=Rs→(∀i R v,(i,R,v)∈ids.zip l→E.ν i=v)→l=Rs.zip (ids.map E.ν):=by
   intro ids
   induction ids with
   |nil=>intro l Rs hl hm _;cases l with|nil=>cases hm;rfl|cons _ _=>simp at hl
   |cons i ids ih=>
    intro l Rs hl hm hν
    cases l with
    |nil=>simp at hl
    |cons p l=>
     cases hm
     obtain⟨R,v⟩:=p
     rw[List.map_cons,List.map_cons,List.zip_cons_cons,hν i R v (by rw[List.zip_cons_cons];simp),←ih l _ (by simpa using hl) rfl (fun i R v hm=>hν i R v (by rw[List.zip_cons_cons];exact List.mem_cons_of_mem _ hm))]
  exact key ids _ _ (by omega) (iA ho.al) (fun i R v hm=>hh.dP i v (Oj hnd hm))
 obtain rfl:us=us':=FD WO ho.al ho'.al jv
 obtain⟨v,hv,hx⟩:=hr w M β us S' E a w' hq hh hB (fun g hg=>(kI g).1 hg) (fun j hj=>hL.mem j hj)
 refine⟨v,hv,v,E.M,rfl,hh.m0,fun b o x e=>?_,hh.cH,hx,ho',hh.os,hh.tape,hh.output,hh.grown,fun k hk hne hno=>hh.frame k hk (fun e=>e.elim hne hno)⟩
 rcases hh.ep b o x e with q|q|q|q
 ·exact .inl q
 ·exact .inr q
 ·rw[show b=β from q,ho'.nb o]at e;cases e
 ·rw[(ho'.nr b q).2 o]at e;cases e
section steps
variable {P:Program}{C:Ctx}{ops:Array Oper}{S:AS}{nd:Bool}{K:List Ac→AS→Prop}{rest:List Oper}{acc:List Ac}
variable {gd:Option (Nat×Bool)}{rg:List Nat}{d:Nat}{ty:TypeId}{pos:String}{aft:Array Edge}{x y z:Operand}{T U E0:TypeId}
end steps
end Go.Fw
namespace Go.Fw
open Go.RowKit
section
variable {P:Program}{C:Ctx}{S:AS}{Q:Exit→AS→Prop}
def Mem.ct(M:Mem)(N1 N2:Nat):Mem:=fun b o=>if N1≤b∧b<N2 then none else M b o
def KpS(N1 N2:Nat)(s s':SV):Prop:=∀M v,s.h M v→s'.h (M.ct N1 N2) v
inductive WQ (N1 N2:Nat):AV→AV→Prop
 |sv {s s':SV} (h:KpS N1 N2 s s'):WQ N1 N2 (.sv s) (.sv s')
 |ptr {i o:Nat}:WQ N1 N2 (.ptr i o) (.ptr i o)
theorem WQ.holds{N1 N2:Nat}{x y:AV}{E:Env}{v:Value}(h:WQ N1 N2 x y)(hx:x.holds E v):y.holds {E with M:=E.M.ct N1 N2} v:=by
 cases h with
 |sv h=>exact h _ _ hx
 |ptr=>exact hx
def Lu(N1 N2:Nat):List AV→List AV→Prop
 |[],[]=>True
 |x::l,y::l'=>WQ N1 N2 x y∧Lu N1 N2 l l'
 |_,_=>False
theorem Lu.holds{N1 N2:Nat}{E:Env}:∀{l l':List AV} {vs:List Value},Lu N1 N2 l l'→cI E l vs→cI {E with M:=E.M.ct N1 N2} l' vs
 |[],[],[],_,_=>trivial
 |_::_,_::_,_::_,h,hv=>⟨h.1.holds hv.1,Lu.holds h.2 hv.2⟩
 |[],[],_::_,_,hv=>hv.elim
 |_::_,_::_,[],_,hv=>hv.elim
 |[],_::_,_,h,_=>h.elim
 |_::_,[],_,h,_=>h.elim
def TsK(N1 N2:Nat)(S:AS):List (Nat×AV)→Prop
 |[]=>True
 |(k,x)::l=>WQ N1 N2 (S.t k) x∧TsK N1 N2 S l
def BsK(N1 N2:Nat)(S:AS):List (Nat×nV)→Prop
 |[]=>True
 |(k,x)::l=>(∃cs,S.b k=some ⟨x.T,cs⟩∧Lu N1 N2 cs x.cells)∧BsK N1 N2 S l
theorem TsK.mem{N1 N2:Nat}{S:AS}:∀{l:List (Nat×AV)},TsK N1 N2 S l→∀p∈l,WQ N1 N2 (S.t p.1) p.2
 |_::_,h,p,hp=>by
  rcases List.mem_cons.1 hp with rfl|hp
  ·exact h.1
  ·exact TsK.mem h.2 p hp
theorem BsK.mem{N1 N2:Nat}{S:AS}:∀{l:List (Nat×nV)},BsK N1 N2 S l→∀p∈l,∃cs,S.b p.1=some ⟨p.2.T,cs⟩∧Lu N1 N2 cs p.2.cells
 |_::_,h,p,hp=>by
  rcases List.mem_cons.1 hp with rfl|hp
  ·exact h.1
  ·exact BsK.mem h.2 p hp
end
section
variable {P:Program}{C:Ctx}{ops:Array Oper}{S:AS}{K:List Ac→AS→Prop}{rest:List Oper}{acc:List Ac}
variable {gd:Option (Nat×Bool)}{rg:List Nat}{d:Nat}{ty:TypeId}{pos:String}{aft:Array Edge}{x y z:Operand}{T U E0:TypeId}
end
end Go.Fw
namespace Go.Fw
open Go.RowKit
structure Ym where
 W:World
 Mx:Mem
 b0:Nat
 o0:Nat
 n:Nat
 sz:Nat
 hin:Mx.cH W
 hb:0<n→∃o,Mx b0 o=some (.agg #[])
 cell:∀i k,i<n→k<sz→∃y,Mx b0 (o0+i*sz+k)=some y∧y.oneCell'=true
def Ow(D:Ym)(b:Nat):Prop:=∃o,D.Mx b o=some (.agg #[])
def Eh(D:Ym)(g:Nat)(w:World):Prop:=
 (∀i k y,g≤i→i<D.n→k<D.sz→D.Mx D.b0 (D.o0+i*D.sz+k)=some y→w.cell? ⟨D.b0,D.o0+i*D.sz+k,none⟩=some y)∧
 ∀b,Ow D b→∃us vs T,D.W.heap[b]? =some (.cells ⟨us⟩ T (0,0))∧w.heap[b]? =some (.cells ⟨vs⟩ T (0,0))∧vs.length=us.length
theorem Eh.same{D:Ym}{g:Nat}{w w':World}(h:Eh D g w)(hs:∀b,Ow D b→w'.heap[b]? =w.heap[b]?):Eh D g w':=by
 refine⟨fun i k y h1 h2 h3 h4=>?_,fun b hb=>?_⟩
 ·rw[World.cell?_of_block (w:=w) (a:=⟨D.b0,D.o0+i*D.sz+k,none⟩) (hs _ (D.hb (by omega)))]
  exact h.1 i k y h1 h2 h3 h4
 ·obtain⟨us,vs,T,q1,q2,q3⟩:=h.2 b hb
  exact⟨us,vs,T,q1,by rw[hs b hb];exact q2,q3⟩
section
variable {P:Program}{D:Ym}{M0:Mem}{S:AS}
theorem J6:∀(xs:List Value) (l:List Value) (k:Nat),(kF l k xs).length=l.length
 |[],_,_=>rfl
 |x::xs,l,k=>by rw[kF,J6 xs];simp
theorem J7:∀(xs:List Value) (l:List Value) (k j:Nat),(j<k∨k+xs.length≤j)→(kF l k xs)[j]? =l[j]?
 |[],_,_,_,_=>rfl
 |x::xs,l,k,j,h=>by
  rw[List.length_cons]at h
  rw[kF,J7 xs _ _ _ (by omega),List.getElem?_set,if_neg (by omega)]
theorem Eh.put{g g':Nat}{w:World}(h:Eh D g w)(hg:g≤g'){b o:Nat}{us vs:List Value}{T:TypeId}(hw:w.heap[b]? =some (.cells ⟨vs⟩ T (0,0)))
  (hne:∀i k,g'≤i→i<D.n→k<D.sz→b=D.b0→D.o0+i*D.sz+k<o∨o+us.length≤D.o0+i*D.sz+k):Eh D g' (fk w b (kF vs o us) T):=by
 refine⟨fun i k y h1 h2 h3 h4=>?_,fun b' hb=>?_⟩
 ·have e:=h.1 i k y (Nat.le_trans hg h1) h2 h3 h4
  by_cases hb:D.b0=b
  ·subst hb
   have q:=hne i k h1 h2 h3 rfl
   simp only[World.cell?,hw]at e
   simp only[World.cell?,qt hw]
   simp only[Option.isSome_none,Bool.false_eq_true,if_false,List.getElem?_toArray]at e⊢
   rw[J7 us vs o _ q];exact e
  ·rw[World.cell?_of_block (w:=w) (a:=⟨D.b0,D.o0+i*D.sz+k,none⟩) (fy hb)];exact e
 ·obtain⟨Q4,LX,T0,q1,q2,q3⟩:=h.2 b' hb
  by_cases e:b'=b
  ·subst e
   rw[hw]at q2;cases q2
   exact⟨Q4,kF vs o us,T,q1,qt hw,by rw[J6];exact q3⟩
  ·exact⟨Q4,LX,T0,q1,by rw[fy e];exact q2,q3⟩
end
section
variable {P:Program}{C:Ctx}{ops:Array Oper}{S:AS}{nd:Bool}{K:List Ac→AS→Prop}{rest:List Oper}{acc:List Ac}
variable {gd:Option (Nat×Bool)}{rg:List Nat}{d:Nat}{ty:TypeId}{pos:String}{aft:Array Edge}{x y z:Operand}{T U E0:TypeId}{D:Ym}{M0:Mem}
instance{a:Option Addr}{n c:Nat}:X5 (.v (.slice a n c)) n:=⟨fun _ v h=>⟨a,c,h⟩⟩
end
section
variable {P:Program}
structure SpV (D:Ym) {α:Type} (e:α→List SV) (l:List α) (v:Value):Prop where
 n:D.n=l.length
 v:∃a c,v=.slice a l.length c∧(l≠[]→a=some ⟨D.b0,D.o0,none⟩)∧l.length≤9223372036854775807
 row:∀(i:Nat) (x:α),l[i]? =some x→(e x).length=D.sz∧∀(k:Nat) (s:SV),(e x)[k]? =some s→∃y,D.Mx D.b0 (D.o0+i*D.sz+k)=some y∧y.oneCell'=true∧s.h D.Mx y
end
end Go.Fw
namespace Go.Fw
open Go.RowKit
instance{cs:List SV}:One (ref cs):=⟨fun _ _ h=>by obtain⟨b,o,rfl,_⟩:=h;rfl⟩
section steps
variable {P:Program}{C:Ctx}{ops:Array Oper}{S:AS}{nd:Bool}{K:List Ac→AS→Prop}{rest:List Oper}{acc:List Ac}
variable {gd:Option (Nat×Bool)}{rg:List Nat}{d:Nat}{ty:TypeId}{pos:String}{aft:Array Edge}{x y z:Operand}{T U E0:TypeId}
theorem RT.bO(hg:Gd ops S gd rg){cs:List SV}(hx:S.ev x=.sv (ref cs))(hd:d<S.n)
  (next:RunT P C ops nd K rest (⟨rg++au x,[],[],⟨some (d,.sv (ref cs)),[],[]⟩⟩::acc) (S.set d (.sv (ref cs)))):RunT P C ops nd K (⟨some d,.nilCheck x,ty,pos,aft,gd⟩::rest) acc S:=
 RT.value hg (au x) [] [] (.sv (ref cs)) hd (by intro c h;cases h) (fun S' ht _ _ E a w h=>by
  have h1:=h.ev x
  rw[aH (fun _ h=>h) ht,hx]at h1
  have h1:(ref cs).h E.M (a.eval x):=h1
  obtain⟨b,o,e,h2⟩:=h1
  exact⟨a.eval x,by simp[execOp,e],⟨b,o,e,h2⟩,eI⟩) next
theorem RT.WR(hg:Gd ops S gd rg)[tT:zI P T]{cs:List SV}(hx:S.ev x=.sv (ref cs))(hy:S.ev y=.sv (.v (.pointer none)))(hd:d<S.n)
  (next:RunT P C ops nd K rest (⟨rg++(au x++au y),[],[],⟨some (d,.sv (.v (.bool false))),[],[]⟩⟩::acc) (S.set d (.sv (.v (.bool false))))):RunT P C ops nd K (⟨some d,.binOp .eql T x y U,ty,pos,aft,gd⟩::rest) acc S:=
 RT.value hg (au x++au y) [] [] (.sv (.v (.bool false))) hd (by intro c h;cases h) (fun S' ht _ _ E a w h=>by
  have h1:=h.ev x
  rw[aH (fun _ h=>List.mem_append_left _ h) ht,hx]at h1
  have h2:=h.ev y
  rw[aH (fun _ h=>List.mem_append_right _ h) ht,hy]at h2
  have h1:(ref cs).h E.M (a.eval x):=h1
  obtain⟨b,o,h1,_⟩:=h1
  have h2:a.eval y=.pointer none:=h2
  have e:=run_eql_pointer_nil (P:=P) w T (some ⟨b,o,none⟩) tT.u
  refine⟨.bool false,?_,rfl,eI⟩
  simp[execOp,h1,h2,eqGuard,e]) next
end steps
end Go.Fw
namespace Go.Fw
open Go.RowKit
noncomputable def vS(M:Mem)(w:World)(p:Nat→Prop):Mem:=fun b o=>@ite _ (p b) (Classical.propDecidable _) (match w.cell? ⟨b,o,none⟩with|some v=>if v.oneCell'=true then some v else none|none=>none) (M b o)
noncomputable def xU(M:Mem)(p:Nat→Prop):Mem:=fun b o=>@ite _ (p b) (Classical.propDecidable _) none (M b o)
theorem Hv{M:Mem}{w:World}{p:Nat→Prop}{b o:Nat}{v:Value}(hb:p b)(hc:w.cell? ⟨b,o,none⟩=some v)(h1:v.oneCell'=true):vS M w p b o=some v:=by
 unfold vS;rw[if_pos hb,hc];simp[h1]
theorem Lw{M:Mem}{w:World}{p:Nat→Prop}(h:M.cH w):(vS M w p).cH w:=fun b o v e=>by
 unfold vS at e
 split at e
 ·split at e
  ·rename_i q
   split at e
   ·rename_i h1;cases e;exact Fact.of q h1
   ·cases e
  ·cases e
 ·exact h b o v e
theorem xV{M:Mem}{w:World}{p:Nat→Prop}(h:∀b,p b→∀o,M b o=none):M.le (vS M w p):=fun b o v e=>by
 unfold vS;rw[if_neg];exact e
 intro hb;rw[h b hb o]at e;cases e
theorem Hw{M:Mem}{p:Nat→Prop}:(xU M p).le M:=fun b o v e=>by
 unfold xU at e
 split at e
 ·cases e
 ·exact e
theorem Hx{M:Mem}{p:Nat→Prop}{b o:Nat}{v:Value}(hb:¬p b)(e:M b o=some v):xU M p b o=some v:=by unfold xU;rw[if_neg hb];exact e
theorem Ck{M:Mem}{p:Nat→Prop}{b:Nat}(hb:p b)(o:Nat):xU M p b o=none:=by unfold xU;rw[if_pos hb]
def OcI:List Oc→List SV→Prop
 |[],[]=>True
 |.s x::l,y::k=>(SV.imp x y∧∀M v,x.h M v→v.oneCell'=true)∧OcI l k
 |.r R::l,y::k=>(∃rows,Rows R.sz rows R.cells∧rows.length=R.n∧(∀M vs,SV.dO M R.cells vs→∀v∈vs,v.oneCell'=true)∧SV.imp (slc R.sz rows) y)∧OcI l k
 |_,_=>False
theorem c9{E:TypeId}{n:Nat}{α:Type}{e:α→List SV}{l:List α}[el:EL e n]:∃rows,Rows (TR E n e l).sz rows (TR E n e l).cells∧rows.length=(TR E n e l).n∧(∀M vs,SV.dO M (TR E n e l).cells vs→∀v∈vs,v.oneCell'=true)∧SV.imp (slc (TR E n e l).sz rows) (slc n (l.map e)):=
 ⟨l.map e,qx l,by simp,mA l,SV.aa _⟩
theorem Ov{M:Mem}{w:World}{p:Nat→Prop}{R:Row}{v:Value}{rows:List (List SV)}(hno:∀b,p b→∀o,M b o=none)(hb:∀g,v.ownBlock=some g→p g)(ho:∃vs:List Value,w.ownsRow 0 R.E R.sz v R.n vs∧SV.dO M R.cells vs)
  (jv:Rows R.sz rows R.cells) (hn:rows.length=R.n) (hone:∀M vs,SV.dO M R.cells vs→∀v∈vs,v.oneCell'=true):(slc R.sz rows).h (vS M w p) v∧v.oneCell'=true:=by
 obtain⟨vs,hown,hvs⟩:=ho
 have vH:=tj jv
 rcases hown.2 with⟨h1,h2⟩|⟨g,cap,cur,h1,_,h2,h3,h4,h5,h6⟩
 ·rw[h2]at hn
  exact⟨.inl ⟨none,h1,List.length_eq_zero_iff.1 hn⟩,by rw[h1];rfl⟩
 ·have hg:p g:=hb g (by rw[h1];rfl)
  have hm:maxLen=9223372036854775807:=by decide
  refine⟨.inr ⟨g,0,cap,by rw[h1,hn],by rw[hn];exact h3,by omega,fun k row hk=>?_⟩,by rw[h1];rfl⟩
  obtain⟨q1,q2⟩:=qu jv k row hk
  refine⟨q1,fun j s hs=>?_⟩
  have C6:=q2 j s hs
  obtain⟨y,hy,hys⟩:=hvs.get C6
  have hlt:k*R.sz+j<R.n*R.sz:=by
   have:=(List.getElem?_eq_some_iff.1 C6).1
   rw[vH,hn]at this;exact this
  have h1':=hone _ _ hvs y (List.mem_of_getElem? hy)
  refine⟨y,Hv hg ?_ h1',h1',s.mono (xV hno) hys⟩
  rw[←h6,List.getElem?_take,if_pos hlt]at hy
  simp only[World.cell?,h2]
  simpa using hy
theorem FI{M:Mem}{w:World}{p:Nat→Prop}(hno:∀b,p b→∀o,M b o=none):∀{c:List Oc} {cs:List SV} {us:List Value} {k:Nat} {s:SV},OcI c cs→oN M w c us→(∀q∈bt c us,∀g,q.2.ownBlock=some g→p g)→cs[k]? =some s→∃y,us[k]? =some y∧y.oneCell'=true∧s.h (vS M w p) y
 |.s x::l,y::cs,u::us,k,s,hi,ho,hb,hk=>by
  cases k with
  |zero=>cases hk;exact⟨u,rfl,hi.1.2 _ _ ho.1,y.mono (xV hno) (hi.1.1 _ _ ho.1)⟩
  |succ k=>exact FI hno (c:=l) (cs:=cs) (us:=us) (k:=k) hi.2 ho.2 hb hk
 |.r R::l,y::cs,u::us,k,s,hi,ho,hb,hk=>by
  cases k with
  |zero=>
   cases hk
   obtain⟨rows,q1,q2,q3,q4⟩:=hi.1
   obtain⟨r1,r2⟩:=Ov hno (fun g hg=>hb (R,u) (by rw[bt];simp) g hg) ho.1 q1 q2 q3
   exact⟨u,rfl,r2,q4 _ _ r1⟩
  |succ k=>exact FI hno (c:=l) (cs:=cs) (us:=us) (k:=k) hi.2 ho.2 (fun q hq=>hb q (by rw[bt];exact List.mem_cons_of_mem _ hq)) hk
 |[],[],_,_,_,_,_,_,hk=>by simp at hk
 |[],_::_,_,_,_,hi,_,_,_=>hi.elim
 |.s _::_,[],_,_,_,hi,_,_,_=>hi.elim
 |.r _::_,[],_,_,_,hi,_,_,_=>hi.elim
 |.s _::_,_::_,[],_,_,_,ho,_,_=>ho.elim
 |.r _::_,_::_,[],_,_,_,ho,_,_=>ho.elim
theorem wO{M M':Mem}{w w':World}(hM:M.le M'):∀{c:List Oc} {us:List Value},oN M w c us→(∀q∈bt c us,∀g,q.2.ownBlock=some g→w'.heap[g]? =w.heap[g]?)→oN M' w' c us
 |[],[],_,_=>trivial
 |.s x::l,u::us,h,hs=>⟨x.mono hM h.1,wO hM (c:=l) (us:=us) h.2 hs⟩
 |.r R::l,u::us,h,hs=>by
  obtain⟨vs,h1,h2⟩:=h.1
  exact⟨⟨vs,cP h1 (fun g hg=>hs (R,u) (by rw[bt];simp) g hg),h2.mono hM⟩,wO hM (c:=l) (us:=us) h.2 (fun q hq=>hs q (by rw[bt];exact List.mem_cons_of_mem _ hq))⟩
 |[],_::_,h,_=>h.elim
 |.s _::_,[],h,_=>h.elim
 |.r _::_,[],h,_=>h.elim
def AV.Z8(cells:List SV):AV→SV
 |.sv s=>s
 |_=>ref cells
def AV.TA:AV→Bool
 |.sv _=>true
 |.ptr i o=>Nat.beq i 1000&&Nat.beq o 0
 |_=>false
theorem Hy{M M':Mem}{β:Nat}{cells:List SV}(hM:M.le M')(hc:(ref cells).h M' (.pointer (some ⟨β,0,none⟩))):∀{args:List AV} {vs:List Value},(args.all AV.TA)=true→cI (oQ M β) args vs→SV.dO M' (args.map (AV.Z8 cells)) vs
 |[],[],_,_=>trivial
 |x::l,v::vs,hy,h=>by
  rw[List.all_cons,Bool.and_eq_true]at hy
  refine⟨?_,Hy hM hc hy.2 h.2⟩
  cases x with
  |sv s=>exact s.mono hM h.1
  |ptr i o=>
   have h1:=Bool.and_eq_true_iff.1 hy.1
   have e:v=.pointer (some ⟨β,o,none⟩):=h.1
   rw[e,Nat.eq_of_beq_eq_true h1.2];exact hc
  |_=>exact(Bool.false_ne_true hy.1).elim
 |[],_::_,_,h=>h.elim
 |_::_,[],_,h=>h.elim
theorem eG{P:Program}{f:FuncId}{args:List AV}{T:TypeId}{c:List Oc}{cells:List SV}{r:Nat→SV}{res:SV}(hp:∀N,cM P f N (args.map (AV.Z8 cells)) (r N))(hy:args.all AV.TA=true)(hi:OcI c cells)(hr:∀N M v,(r N).h M v→res.h (M.fr N) v):Ch P f args T c res:=by
 intro M w β vs us hM ho hv
 have hno:∀b,(b=β∨dR c us b)→∀o,M b o=none:=fun b hb o=>by
  rcases hb with rfl|hb
  ·exact ho.nb o
  ·exact(ho.nr b hb).2 o
 have hlt:∀b,(b=β∨dR c us b)→b<w.heap.size:=fun b hb=>by
  rcases hb with rfl|⟨q,hq,hg⟩
  ·exact(Array.getElem?_eq_some_iff.1 ho.hp).1
  ·obtain⟨ws,h1,_⟩:=kM ho.al q hq
   rcases h1.2 with⟨h2,_⟩|⟨g,cap,cur,h2,_,h3,_⟩
   ·rw[h2]at hg;cases hg
   ·rw[h2]at hg;cases hg;exact(Array.getElem?_eq_some_iff.1 h3).1
 have vH:(ref cells).h (vS M w (fun b=>b=β∨dR c us b)) (.pointer (some ⟨β,0,none⟩)):=⟨β,0,rfl,fun k s hk=>by
  obtain⟨y,h1,h2,h3⟩:=FI hno hi ho.al (fun q hq g hg=>.inr ⟨q,hq,hg⟩) hk
  refine⟨y,Hv (.inl rfl) ?_ h2,h2,h3⟩
  simp only[World.cell?,ho.hp]
  simpa using h1⟩
 refine(hp w.heap.size _ w vs (Nat.le_refl _) (Lw hM) (Hy (xV hno) vH hy hv)).mono ?_
 rintro e w' ⟨v,M',rfl,hM',hnew,aey,hres,hb⟩
 have hMM:M.le (xU M' (fun b=>b=β∨dR c us b)):=fun b o x e=>Hx (fun hb=>by rw[hno b hb o]at e;cases e) (hM' b o x (xV hno b o x e))
 refine⟨v,xU M' (fun b=>b=β∨dR c us b),rfl,hMM,fun b o x e=>?_,fun b o x e=>aey b o x (Hw b o x e),res.mono (fun b o x e=>?_) (hr _ _ _ hres),?_,hb.os,hb.tape,hb.output,hb.size,fun k hk _ _=>hb.block k hk⟩
 ·rcases hnew b o x (Hw b o x e)with q|q
  ·refine .inl ?_
   unfold vS at q
   split at q
   ·rename_i CX
    have e2:xU M' (fun b=>b=β∨dR c us b) b o=none:=Ck (p:=fun b=>b=β∨dR c us b) CX o
    rw[e2]at e;cases e
   ·exact q
  ·exact .inr q
 ·unfold Mem.fr at e
  split at e
  ·rename_i hN
   exact Hx (fun CX=>by have:=hlt b CX;omega) e
  ·cases e
 ·exact⟨by rw[hb.block β (hlt β (.inl rfl))];exact ho.hp,wO hMM ho.al (fun q hq g hg=>hb.block g (hlt g (.inr ⟨q,hq,hg⟩))),fun o=>Ck (p:=fun b=>b=β∨dR c us b) (.inl rfl) o,fun g hg=>⟨(ho.nr g hg).1,fun o=>Ck (p:=fun b=>b=β∨dR c us b) (.inr hg) o⟩,ho.ap⟩
theorem mU{P:Program}{f:FuncId}{args:List SV}{r:SV}(h:Pure P f args r)(N:Nat):cM P f N args r:=fun M w vs _ hM hv=>h M w vs hM hv
theorem WS{s:SV}:∀(N:Nat) (M:Mem) (v:Value),(nw N s).h M v→s.h (M.fr N) v:=fun _ _ _ h=>h.1
theorem AE{l:List Qr}:∀(N:Nat) (M:Mem) (v:Value),(nw N (slc 4 (l.map (fQ N)))).h M v→(slc 4 (l.map eQ)).h (M.fr N) v:=fun N M v h=>Z4 (M.fr N) v (by
 obtain⟨h1,h2⟩:=h
 rw[←Mem.Ou]at h1
 exact⟨h1,fun g e=>by rw[Mem.Ou];exact h2 g e⟩)
theorem J8{x:Value}:∀(N:Nat) (M:Mem) (v:Value),(SV.v x).h M v→(SV.v x).h (M.fr N) v:=fun _ _ _ h=>h
theorem FJ{P:Program}{f:FuncId}{fn:Func}{code:Code}{args:Nat→List AV}{T:TypeId}{c:List Oc}{res:SV}(ids:List Nat)(hf:P.funcs[f]? =some fn)(hb:fn.body=some code)(hn:∀β,(args β).length≤fn.ntmps)(JX:∀β,(args β).all AV.oy=true)(C4:ids.Nodup)(Tq:ids.length=(rowsOf c).length)(hge:(ids.all fun i=>Nat.ble 1000 i)=true)(WO:FC c)
  (h:∀(w:World) (M:Mem) (β:Nat) (us:List Value),Ok P (Q3 w M β c us ids hge) code (AS.CY fn.ntmps (args β) [(1000,⟨T,bK ids c⟩)] (ids.zip (rowsOf c))) (fun e S=>(e=.normal∨e=.ret)∧Mj P S fn.results.toList res∧S.b 1000=some ⟨T,bK ids c⟩∧Lv S ids (rowsOf c))):J5 P f args T c (fun _ M' _ v=>res.h M' v):=
 Hu ids hf hb hn JX C4 Tq hge WO _ h (fun w M β us S' E a w' hr hh _ _ _=>by
  obtain⟨v,hv,hx⟩:=(zR.sv hr).run hh
  exact⟨v,hv,hx⟩)
section steps
variable {P:Program}{C:Ctx}{ops:Array Oper}{S:AS}{nd:Bool}{K:List Ac→AS→Prop}{rest:List Oper}{acc:List Ac}{Q:Exit→AS→Prop}
variable {gd:Option (Nat×Bool)}{rg:List Nat}{d:Nat}{ty:TypeId}{pos:String}{aft:Array Edge}{x y z:Operand}{T U E0:TypeId}
theorem Rb{c:Code}{i k β:Nat}(hp:C.gL k=some β)(hB:S.b i=some ⟨T,[.ptr k 0]⟩)(h:Ok P C c (S.jO i ⟨T,[.sv (.v (.pointer (some ⟨β,0,none⟩)))]⟩) Q):Ok P C c S Q:=fun a w ⟨E,hh⟩=>by
 refine h a w ⟨E,?_⟩
 have hβ:E.β k=β:=hh.gL k β hp
 have zQ:∀j B,(S.jO i ⟨T,[.sv (.v (.pointer (some ⟨β,0,none⟩)))]⟩).b j=some B→(j=i∧B=⟨T,[.sv (.v (.pointer (some ⟨β,0,none⟩)))]⟩)∨(j≠i∧S.b j=some B):=fun j B e=>by
  by_cases hj:j=i
  ·subst hj;rw[AS.cu]at e;cases e;exact .inl ⟨rfl,rfl⟩
  ·rw[AS.bh _ _ _ _ hj]at e;exact .inr ⟨hj,e⟩
 have bTo:∀j,(∃B,S.b j=some B)→∃B,(S.jO i ⟨T,[.sv (.v (.pointer (some ⟨β,0,none⟩)))]⟩).b j=some B:=fun j ⟨B,e⟩=>by
  by_cases hj:j=i
  ·subst hj;exact⟨_,AS.cu _ _ _⟩
  ·exact⟨B,by rw[AS.bh _ _ _ _ hj];exact e⟩
 have WT:∀j B,(S.jO i ⟨T,[.sv (.v (.pointer (some ⟨β,0,none⟩)))]⟩).b j=some B→∃B',S.b j=some B':=fun j B e=>by
  rcases zQ j B e with⟨rfl,_⟩|⟨_,q⟩
  ·exact⟨_,hB⟩
  ·exact⟨_,q⟩
 exact{hh with
  wf:=⟨fun s j hj=>bTo j (hh.wf.tb s j hj),hh.wf.tr,fun j B e y hy m hm=>by
    rcases zQ j B e with⟨rfl,rfl⟩|⟨_,q⟩
    ·obtain rfl:y=_:=by simpa using hy
     exact(hm:False).elim
    ·exact bTo m (hh.wf.bb j B q y hy m hm),fun j B e y hy m hm=>by
    rcases zQ j B e with⟨rfl,rfl⟩|⟨_,q⟩
    ·obtain rfl:y=_:=by simpa using hy
     exact(hm:False).elim
    ·exact hh.wf.br j B q y hy m hm⟩
  bx:=fun j B e=>by
   rcases zQ j B e with⟨rfl,rfl⟩|⟨_,q⟩
   ·obtain⟨h1,h2,h3,vs,h4,h5⟩:=hh.bx j _ hB
    refine⟨h1,h2,h3,vs,h4,?_⟩
    match vs,h5 with
    |[v],h5=>exact⟨(show v=.pointer (some ⟨β,0,none⟩)from hβ▸h5.1),trivial⟩
   ·exact hh.bx j B q
  inj:=fun j j' B B' e e' q=>by
   obtain⟨_,h1⟩:=WT j B e
   obtain⟨_,h2⟩:=WT j' B' e'
   exact hh.inj j j' _ _ h1 h2 q
  rx:=fun j R hR=>by
   obtain⟨p1,p2⟩:=hh.rx j R hR
   refine⟨p1,fun g hg=>?_⟩
   obtain⟨q1,q2,q3,q4⟩:=p2 g hg
   refine⟨q1,q2,q3,fun m B e=>?_⟩
   obtain⟨_,h1⟩:=WT m B e
   exact q4 m _ h1}
theorem RT.y4(hg:Gd ops S gd rg)[tV:bM P T]{k β:Nat}{B:nV}(hx:S.ev x=.sv (ref [.v (.pointer (some ⟨β,0,none⟩))]))(hp:C.gL k=some β)(hB:S.b k=some B)(hd:d<S.n)
  (next:RunT P C ops nd K rest (⟨rg++au x,[k],[],⟨some (d,.ptr k 0),[],[]⟩⟩::acc) (S.set d (.ptr k 0))):RunT P C ops nd K (⟨some d,.load T x,ty,pos,aft,gd⟩::rest) acc S:=
 RT.value hg (au x) [k] [] (.ptr k 0) hd (by intro c h;cases h) (fun S' ht hb _ E a w h=>by
  have h1:=h.ev x
  rw[aH (fun _ h=>h) ht,hx]at h1
  obtain⟨b,o,e,hc⟩:=h1
  obtain⟨u,hu,YE,hs⟩:=hc 0 _ rfl
  have hβ:E.β k=β:=h.gL k β hp
  have hs:u=.pointer (some ⟨β,0,none⟩):=hs
  refine⟨u,?_,by show u=.pointer (some ⟨E.β k,0,none⟩);rw[hβ];exact hs,fun j e=>?_,fun j e=>e.elim⟩
  ·have Up:w.cell? ⟨b,o,none⟩=some u:=(h.cH _ _ _ hu).cell YE
   simp[execOp,e,Instr.loadAt,Instr.sureAddr,loadVar,tV.isAgg,Up]
  ·have e:j=k:=e
   subst e
   exact⟨B,by rw[hb j (by simp)];exact hB⟩) next
theorem RT.Rc(hg:Gd ops S gd rg){f:FuncId}[bA P f]{g:Operand}{xs:Array Operand}{at_:Array TypeId}{args:List AV}{caps:Nat→List SV}{β:Nat}{T:TypeId}{c:List Oc}{res:SV}(hp:J5 P f (fun β=>args++(caps β).map AV.sv) T c (fun _ M' _ v=>res.h M' v))(i:Nat)(js:List Nat)(ID:C.gL i=some β)(hB:S.b i=some ⟨T,bK js c⟩)(hL:Lv S js (rowsOf c))(Ts:js.Nodup)
  (JX:args.all AV.oy=true) (hf:S.ev g=.sv (gX f (caps β))) (hargs:wj S xs.toList (args.map (AV.Tp i))) (hd:d<S.n)
  (next:RunT P C ops nd K rest (⟨rg++(au g++xs.toList.flatMap au),[i],js,⟨some (d,.sv res),[],[]⟩⟩::acc) (S.set d (.sv res))):RunT P C ops nd K (⟨some d,.call ⟨.value g,xs,at_⟩,ty,pos,aft,gd⟩::rest) acc S:=by
 refine .inl ⟨_,[i],js,_,?_,next⟩
 rintro S' hn ht hb hr k a w L Q ho ⟨E,h⟩ ZZ
 refine bR (C:=C) ho (hg.wanted h (fun s hs=>ht s (List.mem_append_left _ hs)) rfl) ?_
 have tg:(gX f (caps β)).h E.M (a.eval g):=by
  have h1:=h.ev g;rw[aH (fun _ h=>List.mem_append_right _ (List.mem_append_left _ h)) ht,hf]at h1;exact h1
 obtain⟨oq,tg,yD⟩:=tg
 have hβ:E.β i=β:=h.gL i β ID
 have hall:=AD JX (wj.vals h hargs (fun s hs=>ht s (List.mem_append_right _ (List.mem_append_right _ hs))))
 have e5:S'.b i=some ⟨T,bK js c⟩:=by rw[hb i (by simp)];exact hB
 have Tt:Lv S' js (rowsOf c):=hL.congr (fun k hk=>hr k hk)
 obtain⟨us,Q2,Cf⟩:=qH h e5 Tt Ts
 have Z9:cI (oQ E.M (E.β i)) (args++(caps (E.β i)).map AV.sv) (xs.toList.map a.eval++oq):=hall.append (cI.xj (E:=oQ E.M (E.β i)) (by rw[hβ];exact yD))
 have hrun:(execOp a.eval ⟨some d,.call ⟨.value g,xs,at_⟩,ty,pos,aft,gd⟩).run P w=.ok (.enter f ⟨xs.toList.map a.eval++oq⟩) w:=by
  have e2:xs.map a.eval++⟨oq⟩=⟨xs.toList.map a.eval++oq⟩:=by apply Array.ext';simp
  have e1:=bA.run (P:=P) (f:=f) (xs.map a.eval++⟨oq⟩) w
  rw[←e2]
  simp[execOp,resolve,tg,Deferred.ofValue,invoke,e1]
 refine bP (C:=C) (by intro c h;cases h) hrun ?_
 refine⟨fun h=>by simp at h,gu ((hp E.M w (E.β i) _ us h.cH Q2 Z9).mono ?_)⟩
 rintro e w' ⟨v,M',rfl,hM,hnew,hin,hv,JZ,hos,qG,hout,hsize,kI⟩
 have h1:=h.J2 e5 Tt Ts Q2 hM hnew hin JZ hos qG hout hsize kI
 exact ZZ _ _ ⟨_,h1.put (x:=.sv res) (v:=v) hv (by show d<S'.n;omega) eI⟩
theorem Rd{α:Type}(l k:List α):(Gl l k).length=l.length:=by unfold Gl;simp;omega
theorem Ei{M:Mem}{b:Nat}{α:Type}{e:α→List SV}[el:EL e 1]:∀(k:List α) (o:Nat),(∀(i:Nat) (row:List SV),(k.map e)[i]? =some row→∀(q:Nat) (s:SV),row[q]? =some s→∃y,M b (o+i*1+q)=some y∧y.oneCell'=true∧s.h M y)→∃cs:List Value,cs.length=k.length∧SV.dO M (k.flatMap e) cs∧∀j v,cs[j]? =some v→M b (o+j)=some v∧v.oneCell'=true
 |[],_,_=>⟨[],rfl,trivial,fun j v h=>by simp at h⟩
 |x::k,o,h=>by
  obtain⟨cs,h1,h2,h3⟩:=Ei k (o+1) (fun i row hr q s hs=>by
   have:=h (i+1) row (by simpa using hr) q s hs
   rwa[show o+(i+1)*1+q=o+1+i*1+q by omega]at this)
  have hl:=el.len x
  match he:e x,hl with
  |[s],_=>
   obtain⟨y,q1,q2,q3⟩:=h 0 [s] (by simp[he]) 0 s rfl
   refine⟨y::cs,by simp[h1],?_,fun j v hj=>?_⟩
   ·rw[List.flatMap_cons,he];exact⟨q3,h2⟩
   ·cases j with
    |zero=>cases hj;exact⟨by simpa using q1,q2⟩
    |succ j=>rw[show o+(j+1)=o+1+j by omega];exact h3 j v (by simpa using hj)
theorem Hz{M:Mem}{α:Type}{e:α→List SV}[el:EL e 1]:∀(l:List α) (vs:List Value) (m:Nat),SV.dO M (l.flatMap e) vs→SV.dO M ((l.drop m).flatMap e) (vs.drop m)
 |l,vs,0,h=>by simpa using h
 |[],vs,m+1,h=>by
  cases vs with
  |nil=>trivial
  |cons _ _=>exact h.elim
 |x::l,vs,m+1,h=>by
  have hl:=el.len x
  match he:e x,hl with
  |[s],_=>
   rw[List.flatMap_cons,he]at h
   match vs,h with
   |v::vs,h=>exact Hz l vs m h.2
theorem RT.aaa(hg:Gd ops S gd rg)[tS:eu P T E0 1]{α:Type}{e:α→List SV}[el:EL e 1]{i:Nat}{E1:TypeId}{l k:List α}{m:Int}(hx:S.ev x=.row i)(hR:S.r i=.live (TR E1 1 e l))(hy:S.ev y=.sv (slc 1 (k.map e)))(hd:d<S.n)(hm:((Min.min k.length l.length:Nat):Int)=m)
  (next:RunT P C ops nd K rest (⟨rg++(au x++au y),[],[i],⟨some (d,.sv (.v (.int .i64 m))),[],[(i,.live (TR E1 1 e (Gl l k)))]⟩⟩::acc) ((AS.bu [(i,.live (TR E1 1 e (Gl l k)))] S).set d (.sv (.v (.int .i64 m))))):RunT P C ops nd K (⟨some d,.call ⟨.builtin .copy,#[x,y],#[T,U]⟩,ty,pos,aft,gd⟩::rest) acc S:=by
 subst hm
 refine .inl ⟨_,[],[i],_,?_,next⟩
 rintro S' hn' ht _ Mg ix a w L Q ho ⟨E,h⟩ hL
 refine bR (C:=C) ho (hg.wanted h (fun s hs=>ht s (List.mem_append_left _ hs)) rfl) ?_
 have oe:S'.r i=.live (TR E1 1 e l):=by rw[Mg i (by simp)];exact hR
 have h1:a.eval x=E.ν i:=by
  have h1:=h.ev x
  rw[aH (fun _ h=>List.mem_append_right _ (List.mem_append_left _ h)) ht,hx]at h1;exact h1
 have h2:(slc 1 (k.map e)).h E.M (a.eval y):=by
  have h2:=h.ev y
  rw[aH (fun _ h=>List.mem_append_right _ (List.mem_append_right _ h)) ht,hy]at h2;exact h2
 have hsrc:∃sa sc,a.eval y=.slice sa k.length sc:=by
  rcases h2 with⟨sa,q1,q2⟩|⟨b,o,c,q1,_⟩
  ·have:k=[]:=List.map_eq_nil_iff.1 q2
   subst this;exact⟨sa,0,q1⟩
  ·rw[List.length_map]at q1;exact⟨_,c,q1⟩
 obtain⟨⟨us,hown,Aq⟩,_⟩:=h.rx i _ oe
 have aez:∃da dc,E.ν i=.slice da l.length dc:=by
  rcases hown.2 with⟨q1,q2⟩|⟨g,cap,cur,q1,_⟩
  ·have q2:l.length=0:=q2
   exact⟨none,0,by rw[q2];exact q1⟩
  ·exact⟨_,cap,q1⟩
 obtain⟨sa,sc,hs⟩:=hsrc
 by_cases h0:Nat.min k.length l.length=0
 ·obtain⟨da,dc,hdv⟩:=aez
  have hc:Gl l k=l:=by
   rcases Nat.eq_zero_or_pos l.length with q|q
   ·have:=List.length_eq_zero_iff.1 q
    subst this;simp[Gl]
   ·have:k.length=0:=by
     have h0:Min.min k.length l.length=0:=h0
     omega
    have:=List.length_eq_zero_iff.1 this
    subst this;simp[Gl]
  have hr:(execOp a.eval ⟨some d,.call ⟨.builtin .copy,#[x,y],#[T,U]⟩,ty,pos,aft,gd⟩).run P w=.ok (.value (goInt 0)) w:=by
   have:=run_copy_none (P:=P) w T U ty E0 da sa l.length dc k.length sc tS.u tS.s h0
   simp[execOp,resolve,invoke,builtin,h1,hs,hdv,this]
  refine bP (C:=C) (by intro c h;cases h) hr (hL _ _ ⟨E,?_⟩)
  rw[hc]
  have e0:((Min.min k.length l.length:Nat):Int)=0:=by
   have h0:Min.min k.length l.length=0:=h0
   rw[h0];rfl
  rw[e0]
  have:AS.app S' ⟨some (d,.sv (.v (.int .i64 0))),[],[(i,.live (TR E1 1 e l))]⟩=S'.set d (.sv (.v (.int .i64 0))):=by
   show(AS.qa S' i _).set d _=_
   rw[AS.DM oe]
  rw[this]
  exact h.put (x:=.sv (.v (.int .i64 0))) (v:=.int .i64 0) rfl (by show d<S'.n;omega) eI
 ·have hpos:0<Min.min k.length l.length:=Nat.pos_of_ne_zero h0
  obtain⟨g,zy⟩:∃g,(E.ν i).ownBlock=some g:=by
   rcases hown.2 with⟨_,q2⟩|⟨g,cap,cur,q1,_⟩
   ·have q2:l.length=0:=q2
    omega
   ·exact⟨g,by rw[q1];rfl⟩
  obtain⟨cur,vs,q1,q2,q3,q4,cap,q5,q6,q7,q8⟩:=A5 h oe zy
  replace q2:cur.take (l.length*1)=vs:=q2
  replace q3:vs.length=l.length*1:=q3
  replace q6:l.length≤cap:=q6
  replace q8:cur.length=cap*1:=q8
  rcases h2 with⟨sa',r1,r2⟩|⟨b,o,c,r1,_,_,r4⟩
  ·have:k=[]:=List.map_eq_nil_iff.1 r2
   subst this;simp at hpos
  rw[List.length_map]at r1
  rw[hs]at r1
  cases r1
  obtain⟨cs,c1,c2,c3⟩:=Ei (M:=E.M) (b:=b) (e:=e) (k.take (Min.min k.length l.length)) o (fun j row hr q s hq=>by
   refine(r4 j row ?_).2 q s hq
   rw[List.map_take,List.getElem?_take]at hr
   split at hr
   ·exact hr
   ·cases hr)
  have vH:cs.length=Nat.min k.length l.length:=by rw[c1,List.length_take];show Min.min (Min.min k.length l.length) k.length=Min.min k.length l.length;omega
  have WU:cs.length=Min.min k.length l.length:=vH
  have hrun:=run_copy_row (P:=P) w T U ty E0 g 0 l.length cap ⟨b,o,none⟩ k.length sc ⟨cur⟩ E1 cs tS.u tS.s q1 vH (fun j v hj=>by
   rw[fR];exact(h.cH _ _ _ (c3 j v hj).1).cell (c3 j v hj).2) (by simp;omega) (fun v hv=>by
   obtain⟨j,hj,rfl⟩:=List.getElem_of_mem hv
   exact(c3 j _ (List.getElem?_eq_getElem hj)).2)
  have hr:(execOp a.eval ⟨some d,.call ⟨.builtin .copy,#[x,y],#[T,U]⟩,ty,pos,aft,gd⟩).run P w=.ok (.value (goInt cs.length)) (w.setRow g (cs++cur.drop cs.length).toArray):=by
   have hrun:(Builtin.copy_ #[T,U] ty #[.slice (some ⟨g,0,none⟩) l.length cap,.slice (some ⟨b,o,none⟩) k.length sc]).run P w=.ok (goInt cs.length) (w.setRow g (cs++cur.drop cs.length).toArray):=by simpa using hrun
   have q5:E.ν i=.slice (some ⟨g,0,none⟩) l.length cap:=q5
   simp[execOp,resolve,invoke,builtin,h1,hs,q5,hrun]
  have aeA:Gl l k=k.take (Min.min k.length l.length)++l.drop (Min.min k.length l.length):=by
   unfold Gl
   have e1:k.take l.length=k.take (Min.min k.length l.length):=by rw[List.take_eq_take_iff];omega
   have e2:l.drop k.length=l.drop (Min.min k.length l.length):=by rw[List.drop_eq_drop_iff];omega
   rw[e1,e2]
  have hall:SV.dO E.M ((Gl l k).flatMap e) (cs++vs.drop cs.length):=by
   rw[aeA,List.flatMap_append,←WU]
   rw[←WU]at c2
   exact SV.dO.append c2 (Hz l vs cs.length q4)
  have hh:=setRow_heap w g ⟨cur⟩ (cs++cur.drop cs.length).toArray E1 (0,0) q1
  have aab:(w.setRow g (cs++cur.drop cs.length).toArray).ownsRow 0 E1 1 (E.ν i) l.length (cs++vs.drop cs.length):=by
   refine⟨by simp;omega,.inr ⟨g,cap,_,q5,Nat.zero_le _,hh,q6,q7,by simp;omega,?_⟩⟩
   rw[←q2]
   simp only[List.take_append,List.length_take,List.drop_take]
   congr 1
   ·rw[List.take_of_length_le (by omega)]
  have hp:=h.Iz oe zy (w':=w.setRow g (cs++cur.drop cs.length).toArray) ⟨_,_,q1⟩ rfl rfl rfl (by simp[World.setRow]) (fun k' hk'=>setRow_other w g k' _ hk') aab hall
  refine bP (C:=C) (by intro c h;cases h) hr (hL _ _ ⟨E,?_⟩)
  have hrow:(⟨(TR E1 1 e l).E,(TR E1 1 e l).sz,(TR E1 1 e l).n,(Gl l k).flatMap e⟩:Row)=TR E1 1 e (Gl l k):=by
   show Row.mk _ _ l.length _=Row.mk _ _ (Gl l k).length _
   rw[Rd]
  rw[hrow]at hp
  rw[←WU]
  exact hp.put (x:=.sv (.v (.int .i64 cs.length))) (v:=.int .i64 cs.length) rfl (by show d<S'.n;omega) eI
end steps
end Go.Fw
namespace Go.Proofs.YtningmnklfpfjaaGreat
open Go.Fw
noncomputable def cg(x0:Tb):Option (Bool):=match x0 with|⟨aA,aB,aK,aL,cU⟩=>cm (fun(aac:Bool)=>some aac) fun K3=>(bif false then none else(some (!aA)).bind fun dB=>some dB).bind fun TB=>K3 TB
noncomputable def eR(x0:Tb):Option (Int):=match x0 with|⟨aA,aB,aK,aL,cU⟩=>(some (cU.length:Int)).bind fun gY=>(some (IntKind.i64.wrap (aB+gY))).bind fun dh=>some dh
noncomputable def gH(x0:Tb)(x1:Int):Option (List Qr):=match x0 with|⟨aA,aB,aK,aL,cU⟩=>(some (cU.length:Int)).bind fun dh=>(CZ 64 dh (⟨⟨false,[]⟩,⟨false,[]⟩⟩:Qr)).bind fun iu=>(some (cU.length:Int)).bind fun eD=>(bT (fun(s8:Int×(List Qr))=>match s8 with|⟨Ej,Cm⟩=>(show Option ((Int×(List Qr))⊕((List Qr)))from(some (decide ((Ej:Int)<eD))).bind fun gV=>(bif gV then(cC cU Ej).bind fun kf=>(cC kf x1).bind fun⟨⟨Ox,Oy⟩,⟨Oz,OA⟩⟩=>(bZ ⟨⟨Ox,Oy⟩,⟨Oz,OA⟩⟩).bind fun⟨⟨ow,oz⟩,⟨HA,HB⟩⟩=>(pG Cm Ej).bind fun sW=>(stM Cm sW ⟨⟨ow,oz⟩,⟨HA,HB⟩⟩).bind fun tJ=>(some (IntKind.i64.wrap (Ej+1))).bind fun iE=>some (.inl (iE,tJ))else some (.inr Cm)))) (0,iu)).bind fun qJ=>some qJ
noncomputable def iX(x0:Tb)(x1:Int):Option (List Qr):=match x0 with|⟨aA,aB,aK,aL,cU⟩=>(some (aK.length:Int)).bind fun dh=>(some (IntKind.i64.wrap (dh+aB))).bind fun gh=>(CZ 64 gh (⟨⟨false,[]⟩,⟨false,[]⟩⟩:Qr)).bind fun eD=>(some (decide ((x1:Int)<aB))).bind fun gM=>cm (fun(OB:(List Qr))=>some OB) fun Tv=>(bif gM then(some (aK.length:Int)).bind fun gA=>(bT (fun(Yn:Int×(List Qr))=>match Yn with|⟨Co,Cp⟩=>(show Option ((Int×(List Qr))⊕((List Qr)))from(some (decide ((Co:Int)<gA))).bind fun sW=>(bif sW then(cC aK Co).bind fun rN=>(cC rN x1).bind fun⟨⟨OC,OD⟩,⟨OE,OF⟩⟩=>(pG Cp Co).bind fun tH=>(stM Cp tH ⟨⟨OC,OD⟩,⟨OE,OF⟩⟩).bind fun Yo=>(some (IntKind.i64.wrap (Co+1))).bind fun rf=>some (.inl (rf,Yo))else some (.inr Cp)))) (0,eD)).bind fun wP=>(some (aK.length:Int)).bind fun rK=>(some (IntKind.i64.wrap (rK+x1))).bind fun sM=>(cx (-1)).bind fun⟨⟨Bv,Bw⟩,⟨OG,OH⟩⟩=>(pG wP sM).bind fun vO=>(stM wP vO ⟨⟨Bv,Bw⟩,⟨OG,OH⟩⟩).bind fun Yp=>Tv Yp else Tv eD)
noncomputable def eT(x0:Tb)(x1:List Qr):Option (List Qr):=match x0 with|⟨aA,aB,aK,aL,cU⟩=>(some (aK.length:Int)).bind fun dh=>(some (IntKind.i64.wrap (dh+aB))).bind fun gh=>(CZ 64 gh (⟨⟨false,[]⟩,⟨false,[]⟩⟩:Qr)).bind fun eD=>(some (x1.length:Int)).bind fun gV=>(bT (fun(HC:(List Qr)×Int)=>match HC with|⟨uC,mL⟩=>(show Option (((List Qr)×Int)⊕((List Qr)))from(some (decide ((mL:Int)<gV))).bind fun kf=>(bif kf then(cC x1 mL).bind fun⟨⟨oH,oI⟩,⟨oJ,oK⟩⟩=>cm (fun(Cq:Bool)=>cm (fun(HD:(List Qr))=>(some (IntKind.i64.wrap (mL+1))).bind fun xe=>some (.inl (HD,xe))) fun Yi=>(bif Cq then(cC aL mL).bind fun sM=>(iX ⟨aA,aB,aK,aL,cU⟩ sM).bind fun vO=>(ei ⟨⟨oH,oI⟩,⟨oJ,oK⟩⟩ vO uC).bind fun De=>Yi De else Yi uC)) fun K19=>(cC aL mL).bind fun sW=>(some (decide ((sW:Int)<aB))).bind fun vn=>(bif vn then(ef ⟨⟨oH,oI⟩,⟨oJ,oK⟩⟩).bind fun kg=>(some (decide ((kg:Int)≠0))).bind fun tH=>some tH else some false).bind fun Ja=>K19 Ja else some (.inr uC)))) (eD,0)).bind fun uD=>some uD
noncomputable def jM(x0:Tb):Option (List Int):=match x0 with|⟨aA,aB,aK,aL,cU⟩=>(cg ⟨aA,aB,aK,aL,cU⟩).bind fun x5=>(bif x5 then some []else(some (aL.length:Int)).bind fun dB=>(CZ 8 dB (0:Int)).bind fun gY=>some (Gl gY aL))
noncomputable def fP(x0:Tb):Option (List Qr):=match x0 with|⟨aA,aB,aK,aL,cU⟩=>(cg ⟨aA,aB,aK,aL,cU⟩).bind fun x4=>(bif x4 then some []else(eR ⟨aA,aB,aK,aL,cU⟩).bind fun x7=>(gH ⟨aA,aB,aK,aL,cU⟩ x7).bind fun x8=>some x8)
noncomputable def cQ(x0:Tb)(x1:Int):Option (List Qr):=match x0 with|⟨aA,aB,aK,aL,cU⟩=>cm (fun(HE:Bool)=>(bif HE then some []else(gH ⟨aA,aB,aK,aL,cU⟩ x1).bind fun gV=>(eT ⟨aA,aB,aK,aL,cU⟩ gV).bind fun gz=>(iX ⟨aA,aB,aK,aL,cU⟩ x1).bind fun gM=>(mJ gz gM).bind fun ym=>some ym)) fun K6=>(cg ⟨aA,aB,aK,aL,cU⟩).bind fun x6=>(bif x6 then some true else(some (decide ((x1:Int)<0))).bind fun x9=>some x9).bind fun OI=>(bif OI then some true else(eR ⟨aA,aB,aK,aL,cU⟩).bind fun eH=>(some (decide ((eH:Int)≤x1))).bind fun dQ=>some dQ).bind fun WV=>K6 WV
noncomputable def iB(x0:Tb):Option (List Qr):=match x0 with|⟨aA,aB,aK,aL,cU⟩=>(cg ⟨aA,aB,aK,aL,cU⟩).bind fun x4=>(bif x4 then some []else(fP ⟨aA,aB,aK,aL,cU⟩).bind fun x7=>(eT ⟨aA,aB,aK,aL,cU⟩ x7).bind fun x8=>some x8)
noncomputable def fY(x0:Tb):Option (List Qr):=match x0 with|⟨aA,aB,aK,aL,cU⟩=>(cg ⟨aA,aB,aK,aL,cU⟩).bind fun x7=>(bif x7 then some []else(CZ 64 aB (⟨⟨false,[]⟩,⟨false,[]⟩⟩:Qr)).bind fun dh=>(fP ⟨aA,aB,aK,aL,cU⟩).bind fun eH=>(some (eH.length:Int)).bind fun dQ=>(bT (fun(EZ:Int×(List Qr))=>match EZ with|⟨Cr,Cs⟩=>(show Option ((Int×(List Qr))⊕((List Qr)))from(some (decide ((Cr:Int)<dQ))).bind fun gh=>(bif gh then(cC eH Cr).bind fun⟨⟨me,mg⟩,⟨B9,Ca⟩⟩=>(cC aL Cr).bind fun lf=>(some (decide ((lf:Int)<aB))).bind fun iE=>cm (fun(Jb:(List Qr))=>(some (IntKind.i64.wrap (Cr+1))).bind fun ri=>some (.inl (ri,Jb))) fun L0=>(bif iE then(cC aL Cr).bind fun rj=>(pG Cs rj).bind fun rf=>(stM Cs rf ⟨⟨me,mg⟩,⟨B9,Ca⟩⟩).bind fun Qd=>L0 Qd else L0 Cs)else some (.inr Cs)))) (0,dh)).bind fun Ct=>some Ct)
noncomputable def eU(x0:Tb):Option (Bool):=match x0 with|⟨aA,aB,aK,aL,cU⟩=>(cg ⟨aA,aB,aK,aL,cU⟩).bind fun x6=>(bif x6 then some false else(fP ⟨aA,aB,aK,aL,cU⟩).bind fun x8=>(some (x8.length:Int)).bind fun x9=>(bT (fun(J9:Int)=>(show Option ((Int)⊕((Unit)⊕(Bool)))from(some (decide ((J9:Int)<x9))).bind fun gY=>(bif gY then(cC x8 J9).bind fun⟨⟨fT,fH⟩,⟨Ka,Kb⟩⟩=>(ef ⟨⟨fT,fH⟩,⟨Ka,Kb⟩⟩).bind fun dQ=>(some (decide ((dQ:Int)<0))).bind fun gy=>(bif gy then some (.inr (.inr false))else(some (IntKind.i64.wrap (J9+1))).bind fun gh=>some (.inl gh))else some (.inr (.inl ()))))) 0).bind fun e6=>match e6 with|.inr v6=>some v6|.inl _=>some true)
noncomputable def fK(x0:Tb):Option (Bool):=match x0 with|⟨aA,aB,aK,aL,cU⟩=>(cg ⟨aA,aB,aK,aL,cU⟩).bind fun x5=>(bif x5 then some false else(mB (fun(k:Nat) (s3:Unit)=>(show Option ((Unit)⊕(Bool))from(some ((k:Nat):Int)).bind fun p8=>(cQ ⟨aA,aB,aK,aL,cU⟩ p8).bind fun gY=>(oG gY).bind fun dh=>(some (decide ((dh:Int)<0))).bind fun iu=>(bif iu then some (.inr false)else some (.inl ())))) ((IntKind.i64.wrap (Tb.vars ⟨aA,aB,aK,aL,cU⟩+((Tb.rows ⟨aA,aB,aK,aL,cU⟩).length:Int))).toNat) ()).bind fun e3=>match e3 with|.inr v3=>some v3|.inl _=>some true)
noncomputable def dN(x0:Lr):Option (Bool×Int×(List (List Qr))×(List Int)×(List (List Qr))):=match x0 with|⟨aA,aB,aK,aL⟩=>(some (aB.length:Int)).bind fun dQ=>(bT (fun(s6:Int×(List (List Qr)))=>match s6 with|⟨Kc,FK⟩=>(show Option ((Int×(List (List Qr)))⊕((List (List Qr))))from(some (decide ((Kc:Int)<dQ))).bind fun gh=>(bif gh then(cC aB Kc).bind fun eD=>(lB eD aA).bind fun nX=>(Av 24 FK [nX]).bind fun yG=>(some (IntKind.i64.wrap (Kc+1))).bind fun rN=>some (.inl (rN,yG))else some (.inr FK)))) (0,[])).bind fun qj=>(some (aK.length:Int)).bind fun pH=>(bT (fun(WW:Int×(List Int)×(List (List Qr)))=>match WW with|⟨oS,uX,uY⟩=>(show Option ((Int×(List Int)×(List (List Qr)))⊕((List Int)×(List (List Qr))))from(some (decide ((oS:Int)<pH))).bind fun xy=>(bif xy then(some (aK.length:Int)).bind fun yH=>(some (IntKind.i64.wrap (aA+yH))).bind fun C0=>(some (IntKind.i64.wrap (C0+1))).bind fun uV=>(CZ 64 uV (⟨⟨false,[]⟩,⟨false,[]⟩⟩:Qr)).bind fun sL=>(bT (fun(DU:Int×(List Qr))=>match DU with|⟨Cu,Cv⟩=>(show Option ((Int×(List Qr))⊕((List Qr)))from(some (decide ((Cu:Int)<aA))).bind fun EU=>(bif EU then(uj aK oS Cu).bind fun⟨⟨Ek,zJ⟩,⟨OJ,OK⟩⟩=>(pG Cv Cu).bind fun JR=>(stM Cv JR ⟨⟨Ek,zJ⟩,⟨OJ,OK⟩⟩).bind fun Ld=>(some (IntKind.i64.wrap (Cu+1))).bind fun EX=>some (.inl (EX,Ld))else some (.inr Cv)))) (0,sL)).bind fun wQ=>(some (IntKind.i64.wrap (aA+oS))).bind fun Il=>(cx 1).bind fun⟨⟨OL,OM⟩,⟨ON,OO⟩⟩=>(pG wQ Il).bind fun L1=>(stM wQ L1 ⟨⟨OL,OM⟩,⟨ON,OO⟩⟩).bind fun P9=>(some (P9.length:Int)).bind fun x71=>(some (IntKind.i64.wrap (x71-1))).bind fun IN=>(cC aL oS).bind fun⟨⟨TC,TD⟩,⟨TE,TF⟩⟩=>(bZ ⟨⟨TC,TD⟩,⟨TE,TF⟩⟩).bind fun⟨⟨OP,OQ⟩,⟨OR,OS⟩⟩=>(pG P9 IN).bind fun Qb=>(stM P9 Qb ⟨⟨OP,OQ⟩,⟨OR,OS⟩⟩).bind fun l44=>(Av 24 uY [l44]).bind fun L3=>(some (IntKind.i64.wrap (aA+oS))).bind fun x98=>(Av 8 uX [x98]).bind fun WX=>(some (IntKind.i64.wrap (oS+1))).bind fun Bo=>some (.inl (Bo,WX,L3))else some (.inr (uX,uY))))) (0,[],[])).bind fun e30=>match e30 with|⟨Ke,Kf⟩=>some (true,aA,qj,Ke,Kf)
noncomputable def gP(x0:Lr):Option (Bool×Int×(List (List Qr))×(List Int)×(List (List Qr))):=match x0 with|⟨aA,aB,aK,aL⟩=>(gO ⟨aA,aB,aK,aL⟩).bind fun x5=>(some (!x5)).bind fun x6=>(bif x6 then none else(dN ⟨aA,aB,aK,aL⟩).bind fun⟨vu,vv,z9,Aa,Re⟩=>some (vu,vv,z9,Aa,Re))
noncomputable def nB(x0:List Qr)(Dn:Qr):Option (List Qr):=match Dn with|⟨⟨D8,D9⟩,⟨Ea,Eb⟩⟩=>(kS ⟨⟨D8,D9⟩,⟨Ea,Eb⟩⟩ x0).bind fun x6=>some x6
noncomputable def jT(o0:Bool)(o1:Int)(o2:List (List Qr))(o3:List Int)(o4:List (List Qr))(x0:List Qr)(Dn:Int)(c_2:Int):Option (List Qr):=(cC x0 Dn).bind fun⟨⟨vu,vv⟩,⟨z9,Aa⟩⟩=>(ef ⟨⟨vu,vv⟩,⟨z9,Aa⟩⟩).bind fun dB=>(some (decide ((dB:Int)=0))).bind fun gY=>(bif gY then some x0 else(cC x0 Dn).bind fun⟨⟨jC,jD⟩,⟨D4,D5⟩⟩=>(oF ⟨⟨jC,jD⟩,⟨D4,D5⟩⟩).bind fun⟨⟨oC,oD⟩,⟨vQ,vR⟩⟩=>(pG o4 c_2).bind fun jw=>(o4[jw]?).bind fun gM=>(ei ⟨⟨oC,oD⟩,⟨vQ,vR⟩⟩ gM x0).bind fun lf=>some lf)
noncomputable def cX(o0:Bool)(o1:Int)(o2:List (List Qr))(o3:List Int)(o4:List (List Qr))(x1:Int)(x2:Int):Option ((List (List Qr))×(List Int)×(List (List Qr))):=(cx 1).bind fun⟨⟨DW,DX⟩,⟨TG,TH⟩⟩=>(pG o4 x1).bind fun k8=>(o4[k8]?).bind fun gV=>(cC gV x2).bind fun⟨⟨nu,nv⟩,⟨nx,ny⟩⟩=>(oE ⟨⟨DW,DX⟩,⟨TG,TH⟩⟩ ⟨⟨nu,nv⟩,⟨nx,ny⟩⟩).bind fun⟨⟨⟨y5,y7⟩,⟨za,zb⟩⟩,Lk⟩=>(pG o4 x1).bind fun tH=>(o4[tH]?).bind fun rf=>(nB rf ⟨⟨y5,y7⟩,⟨za,zb⟩⟩).bind fun ri=>(pG o4 x1).bind fun yH=>(stM o4 yH ri).bind fun l2=>(some (l2.length:Int)).bind fun EU=>(bT (fun(xg:Int×(List (List Qr)))=>match xg with|⟨pW,gb⟩=>(show Option ((Int×(List (List Qr)))⊕((List (List Qr))))from(some (decide ((pW:Int)<EU))).bind fun TI=>(bif TI then(pG gb pW).bind fun xe=>(gb[xe]?).bind fun EW=>(some (decide ((pW:Int)≠x1))).bind fun II=>cm (fun(uE:(List (List Qr)))=>(some (IntKind.i64.wrap (pW+1))).bind fun M6=>some (.inl (M6,uE))) fun WY=>(bif II then(jT o0 o1 o2 o3 gb EW x2 x1).bind fun L1=>(pG gb pW).bind fun IL=>(stM gb IL L1).bind fun l17=>WY l17 else WY gb)else some (.inr gb)))) (0,l2)).bind fun qK=>some (o2,o3,qK)
noncomputable def aM(o0:Bool)(o1:Int)(o2:List (List Qr))(o3:List Int)(o4:List (List Qr))(x1:Int)(x2:Int):Option (Int×(List (List Qr))×(List Int)×(List (List Qr))):=(cg (⟨o0,o1,o2,o3,o4⟩:Tb)).bind fun dB=>(bif dB then some (2,o2,o3,o4)else cm (fun(OT:Bool)=>(bif OT then some (1,o2,o3,o4)else(some (o3.length:Int)).bind fun pH=>(bT (fun(FL:Int)=>(show Option ((Int)⊕((Unit)⊕(Int×(List (List Qr))×(List Int)×(List (List Qr)))))from(some (decide ((FL:Int)<pH))).bind fun xy=>(bif xy then(pG o3 FL).bind fun rj=>(o3[rj]?).bind fun kg=>(some (decide ((kg:Int)=x2))).bind fun ri=>(bif ri then some (.inr (.inr (1,o2,o3,o4)))else(some (IntKind.i64.wrap (FL+1))).bind fun yH=>some (.inl yH))else some (.inr (.inl ()))))) 0).bind fun Jc=>match Jc with|.inr Yq=>some Yq|.inl _=>(pG o4 x1).bind fun sM=>(o4[sM]?).bind fun EU=>(cC EU x2).bind fun⟨⟨TJ,TK⟩,⟨TL,TM⟩⟩=>(ef ⟨⟨TJ,TK⟩,⟨TL,TM⟩⟩).bind fun xe=>(some (decide ((xe:Int)=0))).bind fun EW=>(bif EW then some (7,o2,o3,o4)else(cX o0 o1 o2 o3 o4 x1 x2).bind fun⟨Yo,l21,Yp⟩=>(pG l21 x1).bind fun L2=>(stM l21 L2 x2).bind fun l24=>some (0,Yo,l24,Yp)))) fun Tv=>(some (decide ((x1:Int)<0))).bind fun dh=>(bif dh then some true else(some (o4.length:Int)).bind fun k8=>(some (decide ((k8:Int)≤x1))).bind fun gV=>some gV).bind fun OU=>(bif OU then some true else(some (decide ((x2:Int)<0))).bind fun gM=>some gM).bind fun WZ=>(bif WZ then some true else(eR (⟨o0,o1,o2,o3,o4⟩:Tb)).bind fun gA=>(some (decide ((gA:Int)≤x2))).bind fun yG=>some yG).bind fun W0=>Tv W0)
end Go.Proofs.YtningmnklfpfjaaGreat
namespace Go.Proofs.YtningmnklfpfjaaGreat
open Go.Fw Go.Fw.Z Go.RowKit
instance:zI Tryz.prog 15:=⟨by kernel_rfl⟩
instance:zI Tryz.prog 16:=⟨by kernel_rfl⟩
instance:zI Tryz.prog 17:=⟨by kernel_rfl⟩
instance:zI Tryz.prog 30:=⟨by kernel_rfl⟩
instance:zI Tryz.prog 34:=⟨by kernel_rfl⟩
instance:zI Tryz.prog 216:=⟨by kernel_rfl⟩
theorem dx{x0:Tb}{r:Bool}(h:cg x0=some r):Pure Tryz.prog 57 [ref (tC x0)] (.v (.bool r)):=by
 obtain⟨aA,aB,aK,aL,cU⟩:=x0
 refine ay Tryz.func57 rfl (Nat.le_of_ble_eq_true rfl) (fun cE M vs hvs=>?_)
 unfold cg at h
 refine sr<|ag rfl<|dn<|qq ?_
 refine aF h (fun j3=>AS.bG 12 [(2,.sv (.v (.bool j3)))] [] []) (fun h=>?_) (fun aac h=>?_)
 refine af<|mv rfl<|RT.WR .none rfl rfl T<|mv rfl<|bE h fun TB mR h=>gm rfl<|RT.bO (.some rfl rfl) rfl T<|RT.aT (.some rfl rfl) rfl T rfl<|gr rfl rfl<|lE (F mR) fun dB fM mR=>LZ rfl _ fM ?_
 obtain rfl:=O mR
 exact pF rfl<|ag rfl<|dn<|⟨dB,h,wR []⟩
 try dsimp only
 refine ae.n<|aj ?_
 obtain rfl:=O h
 exact R1 rfl
theorem jU{x0:Tb}{r:Int}(h:eR x0=some r):Pure Tryz.prog 58 [ref (tC x0)] (.v (.int .i64 r)):=by
 obtain⟨aA,aB,aK,aL,cU⟩:=x0
 refine ay Tryz.func58 rfl (Nat.le_of_ble_eq_true rfl) (fun cE M vs hvs=>?_)
 unfold eR at h
 refine sr<|ag rfl<|dn<|qq<|ai mixed<|mv rfl<|RT.bO .none rfl T<|RT.aT .none rfl T rfl<|lr rfl rfl<|mv rfl<|RT.bO .none rfl T<|RT.aT .none rfl T rfl<|lr rfl rfl<|lE h fun gY mG h=>ln rfl mG<|lE h fun dh ey h=>ad _ rfl rfl ey<|ag rfl ?_
 refine RT.done ⟨by kernel_rfl,?_⟩
 refine ae.n<|aj ?_
 obtain rfl:=O h
 exact R1 rfl
theorem vT{x0:Tb}{x1:Int}{r:List Qr}(h:gH x0 x1=some r):Pure Tryz.prog 64 [ref (tC x0),.v (.int .i64 x1)] (slc 4 (List.map eQ r)):=by
 obtain⟨aA,aB,aK,aL,cU⟩:=x0
 refine ay Tryz.func64 rfl (Nat.le_of_ble_eq_true rfl) (fun cE M vs hvs=>?_)
 unfold gH at h
 refine sr<|aI rfl (imp_nil (n:=4) (e:=eQ))<|dn<|sr<|mv rfl<|RT.bO .none rfl T<|RT.aT .none rfl T rfl<|lr rfl rfl<|lE h fun dh ey h=>ln rfl ey<|bE h fun iu gN h=>RT.kO (n:=4) (e:=eQ) .none rfl rfl T rfl T (by rfl) (by decide) (by exact⟨SV.aa _,imp_nil,SV.aa _,imp_nil,trivial⟩) gN<|an (s:=.row _) rfl<|dn<|qq<|sr<|mv rfl<|RT.bO .none rfl T<|RT.aT .none rfl T rfl ?_
 refine lr rfl rfl<|lE h fun eD ij h=>ln rfl ij<|mv rfl<|dn<|bE h fun e8 Dg wE=>?_
 refine aV (fun(qJ:(List Qr))=>AS.bG 34 [(5,.row 13)] [] [(13,TR 43 4 eQ qJ)]) (fun qJ=>qJ=e8) ?_ (fun qJ Dh=>?_)
 refine aq ?_
 refine aW Dg (fun s8=>AS.bG 34 [(1,.sv (.v (.int .i64 x1))),(5,.row 13),(17,.sv (slc 1 (List.map (eS 4 eQ) cU))),(18,.sv (.v (.int .i64 eD))),(19,.sv (.v (.int .i64 s8.1)))] [] [(13,TR 43 4 eQ s8.2)]) (wR []) (fun s8 y8 G8 h Di Dj=>?_)
 obtain⟨Ej,Cm⟩:=s8
 try dsimp only
 refine sr<|lE h fun gV l8 h=>ls _ rfl rfl l8<|dn<|qq ?_
 cases gV
 refine cF<|aZ<|ae.x<|ae.x<|aG.x<|ae.n ?_
 obtain rfl:=O (F h)
 exact⟨Cm,Dj _ rfl,wR []⟩
 refine cT<|aE<|ae.n<|qq<|aq<|sr<|mv rfl<|bE (V h) fun kf nK h=>ix rfl rfl nK<|lr rfl rfl<|ag rfl<|ag rfl<|dn<|af<|mo (s:=.row _) rfl<|mv rfl<|mv rfl<|mv rfl ?_
 obtain⟨⟨⟨Ox,Oy⟩,⟨Oz,OA⟩⟩,tR,h⟩:=bS h
 refine ix rfl rfl tR<|RT.iw (cs:=[_,_,_,_]) .none rfl T rfl rfl ?_
 obtain⟨⟨⟨ow,oz⟩,⟨HA,HB⟩⟩,wD,h⟩:=bS h
 refine cl (gD wD) ⟨rfl,trivial⟩<|bE h fun sW xD h=>iR rfl rfl rfl xD<|bE h fun tJ nf h=>sA ⟨⟨ow,oz⟩,⟨HA,HB⟩⟩ rfl rfl rfl nf<|RT.done<|aG.n<|ae.n<|af<|lE h fun iE kA h=>ad _ rfl rfl kA<|mv rfl<|RT.done ?_
 obtain rfl:=O h
 exact ae.n ⟨(iE,tJ),Di _ rfl,wR []⟩
 subst Dh
 try dsimp only
 refine ae.n<|sr<|mo (s:=.row _) rfl<|an (s:=.row _) rfl<|dn<|bz (dK (i:=13) (E1:=43) (n:=4) (e:=eQ) (l:=qJ) rfl)<|aj ?_
 obtain rfl:=O wE
 exact R1 rfl
theorem vU{x0:Tb}{x1:Int}(N:Nat){r:List Qr}(h:gH x0 x1=some r):cM Tryz.prog 64 N [ref (tC x0),.v (.int .i64 x1)] (nw N (slc 4 (List.map (fQ N) r))):=by
 obtain⟨aA,aB,aK,aL,cU⟩:=x0
 refine aP Tryz.func64 rfl (Nat.le_of_ble_eq_true rfl) (fun cE M vs hN hvs=>?_)
 unfold gH at h
 refine sr<|aI rfl (aC (N:=N) (n:=4) (e:=(fQ N)))<|dn<|sr<|mv rfl<|RT.bO .none rfl T<|RT.aT .none rfl T rfl<|lr rfl rfl<|lE h fun dh ey h=>ln rfl ey<|bE h fun iu gN h=>RT.kO (n:=4) (e:=(fQ N)) .none rfl rfl T rfl T (by rfl) (by decide) (by exact⟨SV.aa _,aC,SV.aa _,aC,trivial⟩) gN<|an (s:=.row _) rfl<|dn<|qq<|sr<|mv rfl<|RT.bO .none rfl T ?_
 refine RT.aT .none rfl T rfl<|lr rfl rfl<|lE h fun eD ij h=>ln rfl ij<|mv rfl<|dn<|bE h fun e8 Dg wE=>?_
 refine aV (fun(qJ:(List Qr))=>AS.bG 34 [(5,.row 13)] [] [(13,TR 43 4 (fQ N) qJ)]) (fun qJ=>qJ=e8) ?_ (fun qJ Dh=>?_)
 refine aq ?_
 refine aW Dg (fun s8=>AS.bG 34 [(1,.sv (.v (.int .i64 x1))),(5,.row 13),(17,.sv (slc 1 (List.map (eS 4 eQ) cU))),(18,.sv (.v (.int .i64 eD))),(19,.sv (.v (.int .i64 s8.1)))] [] [(13,TR 43 4 (fQ N) s8.2)]) (wR []) (fun s8 y8 G8 h Di Dj=>?_)
 obtain⟨Ej,Cm⟩:=s8
 try dsimp only
 refine sr<|lE h fun gV l8 h=>ls _ rfl rfl l8<|dn<|qq ?_
 cases gV
 refine cF<|aZ<|ae.x<|ae.x<|aG.x<|ae.n ?_
 obtain rfl:=O (F h)
 exact⟨Cm,Dj _ rfl,wR []⟩
 refine cT<|aE<|ae.n<|qq<|aq<|sr<|mv rfl<|bE (V h) fun kf nK h=>ix rfl rfl nK<|lr rfl rfl<|ag rfl<|ag rfl<|dn<|af<|mo (s:=.row _) rfl<|mv rfl<|mv rfl<|mv rfl ?_
 obtain⟨⟨⟨Ox,Oy⟩,⟨Oz,OA⟩⟩,tR,h⟩:=bS h
 refine ix rfl rfl tR<|RT.iw (cs:=[_,_,_,_]) .none rfl T rfl rfl ?_
 obtain⟨⟨⟨ow,oz⟩,⟨HA,HB⟩⟩,wD,h⟩:=bS h
 refine RT.aX .none (xS N wD) hN rfl ⟨rfl,trivial⟩ T<|bE h fun sW xD h=>iR rfl rfl rfl xD<|bE h fun tJ nf h=>sA ⟨⟨ow,oz⟩,⟨HA,HB⟩⟩ rfl rfl rfl nf<|RT.done<|aG.n<|ae.n<|af<|lE h fun iE kA h=>ad _ rfl rfl kA<|mv rfl<|RT.done ?_
 obtain rfl:=O h
 exact ae.n ⟨(iE,tJ),Di _ rfl,wR []⟩
 subst Dh
 try dsimp only
 refine ae.n<|sr<|mo (s:=.row _) rfl<|an (s:=.row _) rfl<|dn<|kC (i:=13) (E1:=43) (n:=4) (e:=(fQ N)) (l:=qJ) hN (fun _ h=>h) rfl<|aj ?_
 obtain rfl:=O wE
 exact R1 rfl
theorem lJ{x0:Tb}{x1:Int}{r:List Qr}(h:iX x0 x1=some r):Pure Tryz.prog 78 [ref (tC x0),.v (.int .i64 x1)] (slc 4 (List.map eQ r)):=by
 obtain⟨aA,aB,aK,aL,cU⟩:=x0
 refine ay Tryz.func78 rfl (Nat.le_of_ble_eq_true rfl) (fun cE M vs hvs=>?_)
 unfold iX at h
 refine sr<|aI rfl (imp_nil (n:=4) (e:=eQ))<|dn<|qq<|ai mixed<|mv rfl<|RT.bO .none rfl T<|RT.aT .none rfl T rfl<|lr rfl rfl<|lE h fun dh ey h=>ln rfl ey<|mv rfl<|RT.bO .none rfl T<|RT.aT .none rfl T rfl<|lr rfl rfl<|lE h fun gh kJ h=>ad _ rfl rfl kJ<|bE h fun eD ij h=>RT.kO (n:=4) (e:=eQ) .none rfl rfl T rfl T (by rfl) (by decide) (by exact⟨SV.aa _,imp_nil,SV.aa _,imp_nil,trivial⟩) ij ?_
 refine an (s:=.row _) rfl ?_
 refine RT.done ⟨by kernel_rfl,?_⟩
 refine ae.n<|qq<|sr<|mv rfl<|mv rfl<|RT.bO .none rfl T<|RT.aT .none rfl T rfl<|lr rfl rfl<|lE h fun gM l9 h=>ls _ rfl rfl l9<|dn ?_
 refine aF h (fun WL=>AS.bG 54 [(5,.row 18)] [] [(18,TR 43 4 eQ WL)]) (fun h=>?_) (fun OB h=>?_)
 cases gM
 exact fs<|⟨eD,(F h),wR []⟩
 refine cT<|qq<|sr<|mv rfl<|RT.bO .none rfl T<|RT.aT .none rfl T rfl<|lr rfl rfl<|lE (V h) fun gA iP h=>ln rfl iP<|mv rfl<|dn<|bE h fun e18 aeD Cw=>?_
 refine aV (fun(wP:(List Qr))=>AS.bG 54 [(0,.sv (ref [.v (.bool aA),.v (.int .i64 aB),slc 1 (List.map (eS 4 eQ) aK),slc 1 (List.map bU aL),slc 1 (List.map (eS 4 eQ) cU)])),(1,.sv (.v (.int .i64 x1))),(5,.row 18)] [] [(18,TR 43 4 eQ wP)]) (fun wP=>wP=e18) ?_ (fun wP aeE=>?_)
 refine aq ?_
 refine aW aeD (fun Yn=>AS.bG 54 [(0,.sv (ref [.v (.bool aA),.v (.int .i64 aB),slc 1 (List.map (eS 4 eQ) aK),slc 1 (List.map bU aL),slc 1 (List.map (eS 4 eQ) cU)])),(1,.sv (.v (.int .i64 x1))),(5,.row 18),(28,.sv (slc 1 (List.map (eS 4 eQ) aK))),(29,.sv (.v (.int .i64 gA))),(30,.sv (.v (.int .i64 Yn.1)))] [] [(18,TR 43 4 eQ Yn.2)]) (wR []) (fun Yn y18 G18 h aeF aeG=>?_)
 obtain⟨Co,Cp⟩:=Yn
 try dsimp only
 refine sr<|lE h fun sW xD h=>ls _ rfl rfl xD<|dn<|qq ?_
 cases sW
 refine cF<|aZ<|ae.x<|ae.x<|aG.x<|ae.n ?_
 obtain rfl:=O (F h)
 exact⟨Cp,aeG _ rfl,wR []⟩
 refine cT<|aE<|ae.n<|qq<|aq<|sr<|mv rfl<|bE (V h) fun rN rT h=>ix rfl rfl rT<|lr rfl rfl<|ag rfl<|ag rfl<|dn<|af<|mo (s:=.row _) rfl<|mv rfl<|mv rfl<|mv rfl ?_
 obtain⟨⟨⟨OC,OD⟩,⟨OE,OF⟩⟩,z4,h⟩:=bS h
 refine ix rfl rfl z4<|RT.iw (cs:=[_,_,_,_]) .none rfl T rfl rfl<|bE h fun tH zY h=>iR rfl rfl rfl zY<|bE h fun Yo aag h=>sA ⟨⟨OC,OD⟩,⟨OE,OF⟩⟩ rfl rfl rfl aag<|RT.done<|aG.n<|ae.n<|af<|lE h fun rf yN h=>ad _ rfl rfl yN<|mv rfl<|RT.done ?_
 obtain rfl:=O h
 exact ae.n ⟨(rf,Yo),aeF _ rfl,wR []⟩
 subst aeE
 try dsimp only
 refine ae.n<|ai mixed<|mo (s:=.row _) rfl<|mv rfl<|RT.bO .none rfl T<|RT.aT .none rfl T rfl<|lr rfl rfl<|lE Cw fun rK h48 Cw=>ln rfl h48<|mv rfl<|lE Cw fun sM BA Cw=>ad _ rfl rfl BA ?_
 obtain⟨⟨⟨Bv,Bw⟩,⟨OG,OH⟩⟩,Fg,Cw⟩:=bS Cw
 refine cl (gC Fg) ⟨rfl,trivial⟩<|bE Cw fun vO yO Cw=>iR rfl rfl rfl yO<|bE Cw fun Yp aah Cw=>sA ⟨⟨Bv,Bw⟩,⟨OG,OH⟩⟩ rfl rfl rfl aah ?_
 refine RT.done ⟨by kernel_rfl,?_⟩
 exact ae.n<|⟨Yp,Cw,wR []⟩
 try dsimp only
 refine ae.n<|sr<|mo (s:=.row _) rfl<|an (s:=.row _) rfl<|dn<|bz (dK (i:=18) (E1:=43) (n:=4) (e:=eQ) (l:=OB) rfl)<|aj ?_
 obtain rfl:=O h
 exact R1 rfl
theorem Ag{x0:Tb}{x1:List Qr}{r:List Qr}(h:eT x0 x1=some r):Pure Tryz.prog 77 [ref (tC x0),slc 4 (List.map eQ x1)] (slc 4 (List.map eQ r)):=by
 obtain⟨aA,aB,aK,aL,cU⟩:=x0
 refine ay Tryz.func77 rfl (Nat.le_of_ble_eq_true rfl) (fun cE M vs hvs=>?_)
 unfold eT at h
 refine sr<|aI rfl (imp_nil (n:=4) (e:=eQ))<|dn<|qq<|ai mixed<|mv rfl<|RT.bO .none rfl T<|RT.aT .none rfl T rfl<|lr rfl rfl<|lE h fun dh ey h=>ln rfl ey<|mv rfl<|RT.bO .none rfl T<|RT.aT .none rfl T rfl<|lr rfl rfl<|lE h fun gh kJ h=>ad _ rfl rfl kJ<|bE h fun eD ij h=>RT.kO (n:=4) (e:=eQ) .none rfl rfl T rfl T (by rfl) (by decide) (by exact⟨SV.aa _,imp_nil,SV.aa _,imp_nil,trivial⟩) ij ?_
 refine an (s:=.row _) rfl ?_
 refine RT.done ⟨by kernel_rfl,?_⟩
 refine ae.n<|qq<|sr<|mv rfl<|lE h fun gV l8 h=>ln rfl l8<|mv rfl<|dn<|bz (dK (i:=18) (E1:=43) (n:=4) (e:=eQ) (l:=eD) rfl)<|bE h fun Jc FM lK=>?_
 refine aV (fun(uD:(List Qr))=>AS.bG 57 [(5,.sv (slc 4 (List.map eQ uD)))] [] []) (fun uD=>uD=Jc) ?_ (fun uD FN=>?_)
 refine aq ?_
 refine aW FM (fun HC=>AS.bG 57 [(0,.sv (ref [.v (.bool aA),.v (.int .i64 aB),slc 1 (List.map (eS 4 eQ) aK),slc 1 (List.map bU aL),slc 1 (List.map (eS 4 eQ) cU)])),(5,.sv (slc 4 (List.map eQ HC.1))),(19,.sv (slc 4 (List.map eQ x1))),(20,.sv (.v (.int .i64 gV))),(21,.sv (.v (.int .i64 HC.2)))] [] []) (wR []) (fun HC y16 G16 h FO Ah=>?_)
 obtain⟨uC,mL⟩:=HC
 try dsimp only
 refine sr<|lE h fun kf nK h=>ls _ rfl rfl nK<|dn<|qq ?_
 cases kf
 refine cF<|aZ<|ae.x<|ae.x<|aG.x<|ae.n ?_
 obtain rfl:=O (F h)
 exact⟨uC,Ah _ rfl,wR []⟩
 refine cT<|aE<|ae.n<|qq<|aq<|sr<|mv rfl ?_
 obtain⟨⟨⟨oH,oI⟩,⟨oJ,oK⟩⟩,l9,h⟩:=bS (V h)
 refine ix rfl rfl l9<|RT.iw (cs:=[_,_,_,_]) .none rfl T rfl rfl<|al (cs:=[.v (.bool false),slc 1 (List.map ah []),.v (.bool false),slc 1 (List.map ah [])]) (by exact⟨SV.aa _,imp_nil,SV.aa _,imp_nil,trivial⟩) rfl<|ag rfl<|so rfl rfl rfl<|dn<|qq ?_
 refine aF h (fun j19=>AS.bG 57 [(0,.sv (ref [.v (.bool aA),.v (.int .i64 aB),slc 1 (List.map (eS 4 eQ) aK),slc 1 (List.map bU aL),slc 1 (List.map (eS 4 eQ) cU)])),(5,.sv (slc 4 (List.map eQ uC))),(6,.sv (.v (.int .i64 mL))),(7,.ptr 7 0),(19,.sv (slc 4 (List.map eQ x1))),(20,.sv (.v (.int .i64 gV))),(21,.sv (.v (.int .i64 mL))),(42,.sv (.v (.bool j19)))] [(7,⟨43,[.sv (.v (.bool oH)),.sv (slc 1 (List.map ah oI)),.sv (.v (.bool oJ)),.sv (slc 1 (List.map ah oK))]⟩)] []) (fun h=>?_) (fun Cq h=>?_)
 refine ai mixed<|mv rfl<|RT.bO .none rfl T<|RT.aT .none rfl T rfl<|lr rfl rfl<|mv rfl<|bE h fun sW xD h=>ix rfl rfl xD<|lr rfl rfl<|mv rfl<|RT.bO .none rfl T<|RT.aT .none rfl T rfl<|lr rfl rfl<|lE h fun vn yP h=>ls _ rfl rfl yP<|mv rfl<|bE h fun Ja uu h=>?_
 cases vn
 obtain rfl:=O (F uu)
 refine ww<|ww<|ww<|pF rfl ?_
 refine RT.done ⟨by kernel_rfl,?_⟩
 exact ae.n<|⟨false,h,wR []⟩
 refine gl rfl rfl (.cons rfl (.cons rfl (.cons rfl (.cons rfl (.nil)))))<|bE (V uu) fun kg mQ uu=>gc (fB mQ) ⟨rfl,trivial⟩<|lE uu fun tH zY uu=>gq _ rfl rfl (ER (p:=kg) (q:=0) zY) ?_
 obtain rfl:=O uu
 refine pT rfl ?_
 refine RT.done ⟨by kernel_rfl,?_⟩
 exact ae.n<|⟨tH,h,wR []⟩
 try dsimp only
 refine ae.n ?_
 refine aF h (fun Wm=>AS.bG 57 [(0,.sv (ref [.v (.bool aA),.v (.int .i64 aB),slc 1 (List.map (eS 4 eQ) aK),slc 1 (List.map bU aL),slc 1 (List.map (eS 4 eQ) cU)])),(5,.sv (slc 4 (List.map eQ Wm))),(19,.sv (slc 4 (List.map eQ x1))),(20,.sv (.v (.int .i64 gV))),(21,.sv (.v (.int .i64 mL)))] [] []) (fun h=>?_) (fun HD h=>?_)
 cases Cq
 exact fs<|⟨uC,(F h),wR []⟩
 refine cT<|ai mixed<|ld rfl rfl (.cons rfl (.cons rfl (.cons rfl (.cons rfl (.nil)))))<|mv rfl<|mv rfl<|RT.bO .none rfl T<|RT.aT .none rfl T rfl<|lr rfl rfl<|mv rfl<|bE (V h) fun sM BA h=>ix rfl rfl BA<|lr rfl rfl<|bE h fun vO yO h=>cl (lJ yO) ⟨rfl,rfl,trivial⟩<|mv rfl<|bE h fun De Fo h=>cl (qE Fo) ⟨rfl,rfl,rfl,trivial⟩<|ag rfl ?_
 refine RT.done ⟨by kernel_rfl,?_⟩
 exact ae.n<|⟨De,h,wR []⟩
 try dsimp only
 refine aG.n<|ae.n<|af<|lE h fun xe IU h=>ad _ rfl rfl IU<|mv rfl<|RT.done ?_
 obtain rfl:=O h
 exact ae.n ⟨(HD,xe),FO _ rfl,wR []⟩
 subst FN
 try dsimp only
 refine ae.n<|sr<|mv rfl<|ag rfl<|dn<|aj ?_
 obtain rfl:=O lK
 exact R1 rfl
theorem sQ{x0:Tb}{x1:List Qr}(N:Nat){r:List Qr}(h:eT x0 x1=some r):cM Tryz.prog 77 N [ref (tC x0),slc 4 (List.map eQ x1)] (nw N (slc 4 (List.map (fQ N) r))):=by
 obtain⟨aA,aB,aK,aL,cU⟩:=x0
 refine aP Tryz.func77 rfl (Nat.le_of_ble_eq_true rfl) (fun cE M vs hN hvs=>?_)
 unfold eT at h
 refine sr<|aI rfl (aC (N:=N) (n:=4) (e:=(fQ N)))<|dn<|qq<|ai mixed<|mv rfl<|RT.bO .none rfl T<|RT.aT .none rfl T rfl<|lr rfl rfl<|lE h fun dh ey h=>ln rfl ey<|mv rfl<|RT.bO .none rfl T<|RT.aT .none rfl T rfl<|lr rfl rfl<|lE h fun gh kJ h=>ad _ rfl rfl kJ<|bE h fun eD ij h=>RT.kO (n:=4) (e:=(fQ N)) .none rfl rfl T rfl T (by rfl) (by decide) (by exact⟨SV.aa _,aC,SV.aa _,aC,trivial⟩) ij ?_
 refine an (s:=.row _) rfl ?_
 refine RT.done ⟨by kernel_rfl,?_⟩
 refine ae.n<|qq<|sr<|mv rfl<|lE h fun gV l8 h=>ln rfl l8<|mv rfl<|dn<|kC (i:=18) (E1:=43) (n:=4) (e:=(fQ N)) (l:=eD) hN (fun _ h=>h) rfl<|bE h fun Jc FM lK=>?_
 refine aV (fun(uD:(List Qr))=>AS.bG 57 [(5,.sv (nw N (slc 4 (List.map (fQ N) uD))))] [] []) (fun uD=>uD=Jc) ?_ (fun uD FN=>?_)
 refine aq ?_
 refine aW FM (fun HC=>AS.bG 57 [(0,.sv (ref [.v (.bool aA),.v (.int .i64 aB),slc 1 (List.map (eS 4 eQ) aK),slc 1 (List.map bU aL),slc 1 (List.map (eS 4 eQ) cU)])),(5,.sv (nw N (slc 4 (List.map (fQ N) HC.1)))),(19,.sv (slc 4 (List.map eQ x1))),(20,.sv (.v (.int .i64 gV))),(21,.sv (.v (.int .i64 HC.2)))] [] []) (wR []) (fun HC y16 G16 h FO Ah=>?_)
 obtain⟨uC,mL⟩:=HC
 try dsimp only
 refine sr<|lE h fun kf nK h=>ls _ rfl rfl nK<|dn<|qq ?_
 cases kf
 refine cF<|aZ<|ae.x<|ae.x<|aG.x<|ae.n ?_
 obtain rfl:=O (F h)
 exact⟨uC,Ah _ rfl,wR []⟩
 refine cT<|aE<|ae.n<|qq<|aq<|sr<|mv rfl ?_
 obtain⟨⟨⟨oH,oI⟩,⟨oJ,oK⟩⟩,l9,h⟩:=bS (V h)
 refine ix rfl rfl l9<|RT.iw (cs:=[_,_,_,_]) .none rfl T rfl rfl<|al (cs:=[.v (.bool false),nw N (slc 1 (List.map ah [])),.v (.bool false),nw N (slc 1 (List.map ah []))]) (by exact⟨SV.aa _,aC,SV.aa _,aC,trivial⟩) rfl<|ag rfl<|so rfl rfl rfl<|dn<|qq ?_
 refine aF h (fun j19=>AS.bG 57 [(0,.sv (ref [.v (.bool aA),.v (.int .i64 aB),slc 1 (List.map (eS 4 eQ) aK),slc 1 (List.map bU aL),slc 1 (List.map (eS 4 eQ) cU)])),(5,.sv (nw N (slc 4 (List.map (fQ N) uC)))),(6,.sv (.v (.int .i64 mL))),(7,.ptr 7 0),(19,.sv (slc 4 (List.map eQ x1))),(20,.sv (.v (.int .i64 gV))),(21,.sv (.v (.int .i64 mL))),(42,.sv (.v (.bool j19)))] [(7,⟨43,[.sv (.v (.bool oH)),.sv (slc 1 (List.map ah oI)),.sv (.v (.bool oJ)),.sv (slc 1 (List.map ah oK))]⟩)] []) (fun h=>?_) (fun Cq h=>?_)
 refine ai mixed<|mv rfl<|RT.bO .none rfl T<|RT.aT .none rfl T rfl<|lr rfl rfl<|mv rfl<|bE h fun sW xD h=>ix rfl rfl xD<|lr rfl rfl<|mv rfl<|RT.bO .none rfl T<|RT.aT .none rfl T rfl<|lr rfl rfl<|lE h fun vn yP h=>ls _ rfl rfl yP<|mv rfl<|bE h fun Ja uu h=>?_
 cases vn
 obtain rfl:=O (F uu)
 refine ww<|ww<|ww<|pF rfl ?_
 refine RT.done ⟨by kernel_rfl,?_⟩
 exact ae.n<|⟨false,h,wR []⟩
 refine gl rfl rfl (.cons rfl (.cons rfl (.cons rfl (.cons rfl (.nil)))))<|bE (V uu) fun kg mQ uu=>gc (fB mQ) ⟨rfl,trivial⟩<|lE uu fun tH zY uu=>gq _ rfl rfl (ER (p:=kg) (q:=0) zY) ?_
 obtain rfl:=O uu
 refine pT rfl ?_
 refine RT.done ⟨by kernel_rfl,?_⟩
 exact ae.n<|⟨tH,h,wR []⟩
 try dsimp only
 refine ae.n ?_
 refine aF h (fun Wm=>AS.bG 57 [(0,.sv (ref [.v (.bool aA),.v (.int .i64 aB),slc 1 (List.map (eS 4 eQ) aK),slc 1 (List.map bU aL),slc 1 (List.map (eS 4 eQ) cU)])),(5,.sv (nw N (slc 4 (List.map (fQ N) Wm)))),(19,.sv (slc 4 (List.map eQ x1))),(20,.sv (.v (.int .i64 gV))),(21,.sv (.v (.int .i64 mL)))] [] []) (fun h=>?_) (fun HD h=>?_)
 cases Cq
 exact fs<|⟨uC,(F h),wR []⟩
 refine cT<|ai mixed<|ld rfl rfl (.cons rfl (.cons rfl (.cons rfl (.cons rfl (.nil)))))<|mv rfl<|mv rfl<|RT.bO .none rfl T<|RT.aT .none rfl T rfl<|lr rfl rfl<|mv rfl<|bE (V h) fun sM BA h=>ix rfl rfl BA<|lr rfl rfl<|bE h fun vO yO h=>cl (lJ yO) ⟨rfl,rfl,trivial⟩<|mv rfl<|bE h fun De Fo h=>RT.aX .none ((yZ N Fo).w (args':=[_,_,_]) ⟨(SV.aa _),(SV.aa _),Z4,trivial⟩) hN rfl ⟨rfl,rfl,rfl,trivial⟩ T ?_
 refine ag rfl ?_
 refine RT.done ⟨by kernel_rfl,?_⟩
 exact ae.n<|⟨De,h,wR []⟩
 try dsimp only
 refine aG.n<|ae.n<|af<|lE h fun xe IU h=>ad _ rfl rfl IU<|mv rfl<|RT.done ?_
 obtain rfl:=O h
 exact ae.n ⟨(HD,xe),FO _ rfl,wR []⟩
 subst FN
 try dsimp only
 refine ae.n<|sr<|mv rfl<|ag rfl<|dn<|aj ?_
 obtain rfl:=O lK
 exact R1 rfl
theorem FP{x0:Tb}(N:Nat){r:List Int}(h:jM x0=some r):cM Tryz.prog 17 N [ref (tC x0)] (nw N (slc 1 (List.map bU r))):=by
 obtain⟨aA,aB,aK,aL,cU⟩:=x0
 refine aP Tryz.func17 rfl (Nat.le_of_ble_eq_true rfl) (fun cE M vs hN hvs=>?_)
 unfold jM at h
 refine sr<|aI rfl (aC (N:=N) (n:=1) (e:=bU))<|dn<|qq<|sr<|mv rfl<|bE h fun x5 h5 h=>cl (dx h5) ⟨rfl,trivial⟩<|dn ?_
 cases x5
 refine fs<|sr<|mv rfl<|RT.bO .none rfl T<|RT.aT .none rfl T rfl<|lr rfl rfl<|lE (F h) fun dB fM h=>ln rfl fM<|bE h fun gY mG h=>RT.kO (n:=1) (e:=bU) .none rfl rfl T rfl T (by rfl) (by decide) (by exact⟨SV.aa _,trivial⟩) mG<|an (s:=.row _) rfl<|dn<|sr<|mo (s:=.row _) rfl<|mv rfl<|RT.bO .none rfl T<|RT.aT .none rfl T rfl<|lr rfl rfl ?_
 refine RT.aaa (l:=gY) (k:=aL) (e:=bU) .none rfl rfl rfl T rfl<|dn<|sr<|mo (s:=.row _) rfl<|an (s:=.row _) rfl<|dn<|kC (i:=11) (E1:=3) (n:=1) (e:=bU) (l:=(Gl gY aL)) hN (fun _ h=>h) rfl<|aj ?_
 obtain rfl:=O h
 exact R1 rfl
 refine cT<|sr<|aI rfl (aC (N:=N) (n:=1) (e:=bU))<|dn<|aj<|ae.r ?_
 obtain rfl:=O (V h)
 exact R1 rfl
theorem Jd{x0:Tb}{r:List Qr}(h:fP x0=some r):Pure Tryz.prog 19 [ref (tC x0)] (slc 4 (List.map eQ r)):=by
 obtain⟨aA,aB,aK,aL,cU⟩:=x0
 refine ay Tryz.func19 rfl (Nat.le_of_ble_eq_true rfl) (fun cE M vs hvs=>?_)
 unfold fP at h
 refine sr<|aI rfl (imp_nil (n:=4) (e:=eQ))<|dn<|qq<|sr<|mv rfl<|bE h fun x4 h4 h=>cl (dx h4) ⟨rfl,trivial⟩<|dn ?_
 cases x4
 refine fs<|sr<|mv rfl<|mv rfl<|bE (F h) fun x7 h7 h=>cl (jU h7) ⟨rfl,trivial⟩<|bE h fun x8 h8 h=>cl (vT h8) ⟨rfl,rfl,trivial⟩<|ag rfl<|dn<|aj ?_
 obtain rfl:=O h
 exact R1 rfl
 refine cT<|sr<|aI rfl (imp_nil (n:=4) (e:=eQ))<|dn<|aj<|ae.r ?_
 obtain rfl:=O (V h)
 exact R1 rfl
theorem wS{x0:Tb}(N:Nat){r:List Qr}(h:fP x0=some r):cM Tryz.prog 19 N [ref (tC x0)] (nw N (slc 4 (List.map (fQ N) r))):=by
 obtain⟨aA,aB,aK,aL,cU⟩:=x0
 refine aP Tryz.func19 rfl (Nat.le_of_ble_eq_true rfl) (fun cE M vs hN hvs=>?_)
 unfold fP at h
 refine sr<|aI rfl (aC (N:=N) (n:=4) (e:=(fQ N)))<|dn<|qq<|sr<|mv rfl<|bE h fun x4 h4 h=>cl (dx h4) ⟨rfl,trivial⟩<|dn ?_
 cases x4
 refine fs<|sr<|mv rfl<|mv rfl<|bE (F h) fun x7 h7 h=>cl (jU h7) ⟨rfl,trivial⟩<|bE h fun x8 h8 h=>RT.aX .none (vU N h8) hN rfl ⟨rfl,rfl,trivial⟩ T<|ag rfl<|dn<|aj ?_
 obtain rfl:=O h
 exact R1 rfl
 refine cT<|sr<|aI rfl (aC (N:=N) (n:=4) (e:=(fQ N)))<|dn<|aj<|ae.r ?_
 obtain rfl:=O (V h)
 exact R1 rfl
theorem wU{x0:Tb}{x1:Int}{r:List Qr}(h:cQ x0 x1=some r):Pure Tryz.prog 28 [ref (tC x0),.v (.int .i64 x1)] (slc 4 (List.map eQ r)):=by
 obtain⟨aA,aB,aK,aL,cU⟩:=x0
 refine ay Tryz.func28 rfl (Nat.le_of_ble_eq_true rfl) (fun cE M vs hvs=>?_)
 unfold cQ at h
 refine sr<|aI rfl (imp_nil (n:=4) (e:=eQ))<|dn<|qq<|qq ?_
 refine aF h (fun j6=>AS.bG 26 [(0,.sv (ref [.v (.bool aA),.v (.int .i64 aB),slc 1 (List.map (eS 4 eQ) aK),slc 1 (List.map bU aL),slc 1 (List.map (eS 4 eQ) cU)])),(1,.sv (.v (.int .i64 x1))),(16,.sv (.v (.bool j6)))] [] []) (fun h=>?_) (fun HE h=>?_)
 refine af<|mv rfl<|bE h fun x6 h6 h=>cl (dx h6) ⟨rfl,trivial⟩<|mv rfl<|bE h fun OI L4 h=>?_
 cases x6
 refine gm rfl<|lE (F L4) fun x9 h9 L4=>RT.lss (.some rfl rfl) _ rfl rfl T h9 ?_
 obtain rfl:=O L4
 refine pF rfl<|mv rfl<|bE h fun aai BL h=>?_
 cases x9
 refine gm rfl<|gm rfl<|bE (F BL) fun eH jc BL=>gc (jU jc) ⟨rfl,trivial⟩<|lE BL fun dQ fN BL=>RT.geq (.some rfl rfl) _ rfl rfl T fN ?_
 obtain rfl:=O BL
 exact pF rfl<|dn<|⟨dQ,h,wR []⟩
 obtain rfl:=O (V BL)
 exact ww<|ww<|ww<|ww<|pT rfl<|dn<|⟨true,h,wR []⟩
 obtain rfl:=O (V L4)
 refine ww<|ww<|pT rfl<|mv rfl<|bE h fun aaj hg9 h=>?_
 obtain rfl:=O (V hg9)
 exact ww<|ww<|ww<|ww<|pT rfl<|dn<|⟨true,h,wR []⟩
 try dsimp only
 refine ae.n ?_
 cases HE
 refine fs<|sr<|mv rfl<|mv rfl<|mv rfl<|bE (F h) fun gV l8 h=>cl (vT l8) ⟨rfl,rfl,trivial⟩<|bE h fun gz mH h=>cl (Ag mH) ⟨rfl,rfl,trivial⟩<|mv rfl<|mv rfl<|bE h fun gM l9 h=>cl (lJ l9) ⟨rfl,rfl,trivial⟩<|bE h fun ym qC h=>cl (I5 qC) ⟨rfl,rfl,trivial⟩<|ag rfl<|dn<|aj ?_
 obtain rfl:=O h
 exact R1 rfl
 refine cT<|sr<|aI rfl (imp_nil (n:=4) (e:=eQ))<|dn<|aj<|ae.r ?_
 obtain rfl:=O (V h)
 exact R1 rfl
theorem wV{x0:Tb}{x1:Int}(N:Nat){r:List Qr}(h:cQ x0 x1=some r):cM Tryz.prog 28 N [ref (tC x0),.v (.int .i64 x1)] (nw N (slc 4 (List.map (fQ N) r))):=by
 obtain⟨aA,aB,aK,aL,cU⟩:=x0
 refine aP Tryz.func28 rfl (Nat.le_of_ble_eq_true rfl) (fun cE M vs hN hvs=>?_)
 unfold cQ at h
 refine sr<|aI rfl (aC (N:=N) (n:=4) (e:=(fQ N)))<|dn<|qq<|qq ?_
 refine aF h (fun j6=>AS.bG 26 [(0,.sv (ref [.v (.bool aA),.v (.int .i64 aB),slc 1 (List.map (eS 4 eQ) aK),slc 1 (List.map bU aL),slc 1 (List.map (eS 4 eQ) cU)])),(1,.sv (.v (.int .i64 x1))),(16,.sv (.v (.bool j6)))] [] []) (fun h=>?_) (fun HE h=>?_)
 refine af<|mv rfl<|bE h fun x6 h6 h=>cl (dx h6) ⟨rfl,trivial⟩<|mv rfl<|bE h fun OI L4 h=>?_
 cases x6
 refine gm rfl<|lE (F L4) fun x9 h9 L4=>RT.lss (.some rfl rfl) _ rfl rfl T h9 ?_
 obtain rfl:=O L4
 refine pF rfl<|mv rfl<|bE h fun aai BL h=>?_
 cases x9
 refine gm rfl<|gm rfl<|bE (F BL) fun eH jc BL=>gc (jU jc) ⟨rfl,trivial⟩<|lE BL fun dQ fN BL=>RT.geq (.some rfl rfl) _ rfl rfl T fN ?_
 obtain rfl:=O BL
 exact pF rfl<|dn<|⟨dQ,h,wR []⟩
 obtain rfl:=O (V BL)
 exact ww<|ww<|ww<|ww<|pT rfl<|dn<|⟨true,h,wR []⟩
 obtain rfl:=O (V L4)
 refine ww<|ww<|pT rfl<|mv rfl<|bE h fun aaj hg9 h=>?_
 obtain rfl:=O (V hg9)
 exact ww<|ww<|ww<|ww<|pT rfl<|dn<|⟨true,h,wR []⟩
 try dsimp only
 refine ae.n ?_
 cases HE
 refine fs<|sr<|mv rfl<|mv rfl<|mv rfl<|bE (F h) fun gV l8 h=>RT.aX .none (vU N l8) hN rfl ⟨rfl,rfl,trivial⟩ T<|bE h fun gz mH h=>RT.aX .none ((sQ N mH).w (args':=[_,_]) ⟨(SV.aa _),Z4,trivial⟩) hN rfl ⟨rfl,rfl,trivial⟩ T<|mv rfl<|mv rfl<|bE h fun gM l9 h=>cl (lJ l9) ⟨rfl,rfl,trivial⟩<|bE h fun ym qC h=>RT.aX .none ((I9 N qC).w (args':=[_,_]) ⟨Z4,(SV.aa _),trivial⟩) hN rfl ⟨rfl,rfl,trivial⟩ T ?_
 refine ag rfl<|dn<|aj ?_
 obtain rfl:=O h
 exact R1 rfl
 refine cT<|sr<|aI rfl (aC (N:=N) (n:=4) (e:=(fQ N)))<|dn<|aj<|ae.r ?_
 obtain rfl:=O (V h)
 exact R1 rfl
theorem FR{x0:Tb}(N:Nat){r:List Qr}(h:iB x0=some r):cM Tryz.prog 38 N [ref (tC x0)] (nw N (slc 4 (List.map (fQ N) r))):=by
 obtain⟨aA,aB,aK,aL,cU⟩:=x0
 refine aP Tryz.func38 rfl (Nat.le_of_ble_eq_true rfl) (fun cE M vs hN hvs=>?_)
 unfold iB at h
 refine sr<|aI rfl (aC (N:=N) (n:=4) (e:=(fQ N)))<|dn<|qq<|sr<|mv rfl<|bE h fun x4 h4 h=>cl (dx h4) ⟨rfl,trivial⟩<|dn ?_
 cases x4
 refine fs<|sr<|mv rfl<|mv rfl<|bE (F h) fun x7 h7 h=>RT.aX .none (wS N h7) hN rfl ⟨rfl,trivial⟩ T<|bE h fun x8 h8 h=>RT.aX .none ((sQ N h8).w (args':=[_,_]) ⟨(SV.aa _),Z4,trivial⟩) hN rfl ⟨rfl,rfl,trivial⟩ T<|ag rfl<|dn<|aj ?_
 obtain rfl:=O h
 exact R1 rfl
 refine cT<|sr<|aI rfl (aC (N:=N) (n:=4) (e:=(fQ N)))<|dn<|aj<|ae.r ?_
 obtain rfl:=O (V h)
 exact R1 rfl
theorem Ai{x0:Tb}(N:Nat){r:List Qr}(h:fY x0=some r):cM Tryz.prog 21 N [ref (tC x0)] (nw N (slc 4 (List.map (fQ N) r))):=by
 obtain⟨aA,aB,aK,aL,cU⟩:=x0
 refine aP Tryz.func21 rfl (Nat.le_of_ble_eq_true rfl) (fun cE M vs hN hvs=>?_)
 unfold fY at h
 refine sr<|aI rfl (aC (N:=N) (n:=4) (e:=(fQ N)))<|dn<|qq<|sr<|mv rfl<|bE h fun x7 h7 h=>cl (dx h7) ⟨rfl,trivial⟩<|dn ?_
 cases x7
 refine fs<|sr<|mv rfl<|RT.bO .none rfl T<|RT.aT .none rfl T rfl<|lr rfl rfl<|bE (F h) fun dh ey h=>RT.kO (n:=4) (e:=(fQ N)) .none rfl rfl T rfl T (by rfl) (by decide) (by exact⟨SV.aa _,aC,SV.aa _,aC,trivial⟩) ey<|an (s:=.row _) rfl<|dn<|qq<|sr<|mv rfl<|bE h fun eH jc h=>RT.aX .none (wS N jc) hN rfl ⟨rfl,trivial⟩ T<|lE h fun dQ fN h=>RT.Eg .none rfl T fN<|mv rfl ?_
 refine dn<|bE h fun Nv E6 zW=>?_
 refine aV (fun(Ct:(List Qr))=>AS.bG 45 [(3,.row 12)] [] [(12,TR 43 4 (fQ N) Ct)]) (fun Ct=>Ct=Nv) ?_ (fun Ct E7=>?_)
 refine aq ?_
 refine aW E6 (fun EZ=>AS.bG 45 [(0,.sv (ref [.v (.bool aA),.v (.int .i64 aB),slc 1 (List.map (eS 4 eQ) aK),slc 1 (List.map bU aL),slc 1 (List.map (eS 4 eQ) cU)])),(3,.row 12),(14,.sv (nw N (slc 4 (List.map (fQ N) eH)))),(15,.sv (.v (.int .i64 dQ))),(16,.sv (.v (.int .i64 EZ.1)))] [] [(12,TR 43 4 (fQ N) EZ.2)]) (wR []) (fun EZ y10 G10 h E8 By=>?_)
 obtain⟨Cr,Cs⟩:=EZ
 try dsimp only
 refine sr<|lE h fun gh kJ h=>ls _ rfl rfl kJ<|dn<|qq ?_
 cases gh
 refine cF<|aZ<|ae.x<|ae.x<|aG.x<|ae.n ?_
 obtain rfl:=O (F h)
 exact⟨Cs,By _ rfl,wR []⟩
 refine cT<|aE<|ae.n<|qq<|aq<|sr<|mv rfl ?_
 obtain⟨⟨⟨me,mg⟩,⟨B9,Ca⟩⟩,kn,h⟩:=bS (V h)
 refine RT.Z6 .none rfl rfl T kn<|RT.iw (cs:=[_,_,_,_]) .none rfl T rfl rfl<|al (cs:=[.v (.bool false),nw N (slc 1 (List.map ah [])),.v (.bool false),nw N (slc 1 (List.map ah []))]) (by exact⟨SV.aa _,aC,SV.aa _,aC,trivial⟩) rfl<|ag rfl<|so rfl rfl rfl<|dn<|qq<|ai mixed<|mv rfl<|RT.bO .none rfl T<|RT.aT .none rfl T rfl<|lr rfl rfl<|mv rfl<|bE h fun lf nY h=>ix rfl rfl nY ?_
 refine lr rfl rfl<|mv rfl<|RT.bO .none rfl T<|RT.aT .none rfl T rfl<|lr rfl rfl<|lE h fun iE kA h=>ls _ rfl rfl kA ?_
 refine RT.done ⟨by kernel_rfl,?_⟩
 refine ae.n ?_
 refine aF h (fun Lh=>AS.bG 45 [(0,.sv (ref [.v (.bool aA),.v (.int .i64 aB),slc 1 (List.map (eS 4 eQ) aK),slc 1 (List.map bU aL),slc 1 (List.map (eS 4 eQ) cU)])),(3,.row 12),(14,.sv (nw N (slc 4 (List.map (fQ N) eH)))),(15,.sv (.v (.int .i64 dQ))),(16,.sv (.v (.int .i64 Cr)))] [] [(12,TR 43 4 (fQ N) Lh)]) (fun h=>?_) (fun Jb h=>?_)
 cases iE
 exact fs<|⟨Cs,(F h),wR []⟩
 refine cT<|ai mixed<|mo (s:=.row _) rfl<|mv rfl<|RT.bO .none rfl T<|RT.aT .none rfl T rfl<|lr rfl rfl<|mv rfl<|bE (V h) fun rj z4 h=>ix rfl rfl z4<|lr rfl rfl<|ld rfl rfl (.cons rfl (.cons rfl (.cons rfl (.cons rfl (.nil)))))<|bE h fun rf yN h=>iR rfl rfl rfl yN<|bE h fun Qd aak h=>sA ⟨⟨me,mg⟩,⟨B9,Ca⟩⟩ rfl rfl rfl aak ?_
 refine RT.done ⟨by kernel_rfl,?_⟩
 exact ae.n<|⟨Qd,h,wR []⟩
 try dsimp only
 refine aG.n<|ae.n<|af<|lE h fun ri AA h=>ad _ rfl rfl AA<|mv rfl<|RT.done ?_
 obtain rfl:=O h
 exact ae.n ⟨(ri,Jb),E8 _ rfl,wR []⟩
 subst E7
 try dsimp only
 refine ae.n<|sr<|mo (s:=.row _) rfl<|an (s:=.row _) rfl<|dn<|kC (i:=12) (E1:=43) (n:=4) (e:=(fQ N)) (l:=Ct) hN (fun _ h=>h) rfl<|aj ?_
 obtain rfl:=O zW
 exact R1 rfl
 refine cT<|sr<|aI rfl (aC (N:=N) (n:=4) (e:=(fQ N)))<|dn<|aj<|ae.r ?_
 obtain rfl:=O (V h)
 exact R1 rfl
theorem Aj{x0:Tb}{r:Bool}(h:eU x0=some r):Pure Tryz.prog 35 [ref (tC x0)] (.v (.bool r)):=by
 obtain⟨aA,aB,aK,aL,cU⟩:=x0
 refine ay Tryz.func35 rfl (Nat.le_of_ble_eq_true rfl) (fun cE M vs hvs=>?_)
 unfold eU at h
 refine sr<|ag rfl<|dn<|qq<|sr<|mv rfl<|bE h fun x6 h6 h=>cl (dx h6) ⟨rfl,trivial⟩<|dn ?_
 cases x6
 refine fs<|qq<|sr<|mv rfl<|bE (F h) fun x8 h8 h=>cl (Jd h8) ⟨rfl,trivial⟩<|lE h fun x9 h9 h=>ln rfl h9<|mv rfl<|dn<|bE h fun e6 E9 jd=>?_
 refine aV (fun(Fa:Unit)=>AS.bG 18 [] [] []) (fun Fa=>.inl Fa=e6) ?_ (fun Fa Fb=>?_)
 refine aq ?_
 refine aW E9 (fun s6=>AS.bG 18 [(8,.sv (slc 4 (List.map eQ x8))),(9,.sv (.v (.int .i64 x9))),(10,.sv (.v (.int .i64 s6)))] [] []) (wR []) (fun J9 y6 G6 h Fe zX=>?_)
 try dsimp only
 refine sr<|lE h fun gY mG h=>ls _ rfl rfl mG<|dn<|qq ?_
 cases gY
 refine cF<|aZ<|ae.x<|ae.x<|aG.x<|ae.n ?_
 obtain rfl:=O (F h)
 exact⟨(),zX _ rfl,wR []⟩
 refine cT<|aE<|ae.n<|qq<|aq<|sr ?_
 obtain⟨⟨⟨fT,fH⟩,⟨Ka,Kb⟩⟩,ey,h⟩:=bS (V h)
 refine ix rfl rfl ey<|RT.iw (cs:=[_,_,_,_]) .none rfl T rfl rfl<|al (cs:=[.v (.bool false),slc 1 (List.map ah []),.v (.bool false),slc 1 (List.map ah [])]) (by exact⟨SV.aa _,imp_nil,SV.aa _,imp_nil,trivial⟩) rfl<|so rfl rfl rfl<|dn<|sr<|ld rfl rfl (.cons rfl (.cons rfl (.cons rfl (.cons rfl (.nil)))))<|bE h fun dQ fN h=>cl (fB fN) ⟨rfl,trivial⟩<|lE h fun gy jA h=>ls _ rfl rfl jA<|dn ?_
 cases gy
 refine cF<|aE<|aG.n<|ae.n<|af<|lE (F h) fun gh kJ h=>ad _ rfl rfl kJ<|mv rfl<|RT.done ?_
 obtain rfl:=O h
 exact ae.n ⟨gh,Fe _ rfl,wR []⟩
 refine cT<|sr<|ag rfl<|dn<|aj<|aG.r<|ae.r ?_
 obtain rfl:=O (V h)
 have Nw:=zX _ rfl
 subst Nw
 refine ae.r<|aG.r<|ae.r<|ae.r ?_
 obtain rfl:=O jd
 exact R1 rfl
 subst Fb
 try dsimp only
 refine ae.n<|sr<|ag rfl<|dn<|aj ?_
 obtain rfl:=O jd
 exact R1 rfl
 refine cT<|sr<|ag rfl<|dn<|aj<|ae.r ?_
 obtain rfl:=O (V h)
 exact R1 rfl
theorem Cx(t:Tb):Pure Tryz.prog 65 [ref (tC t)] (gX 114 [ref [ref (tC t)]]):=by
 refine ay Tryz.func65 rfl (Nat.le_of_ble_eq_true rfl) (fun cE M vs hvs=>?_)
 exact sr<|RT.vZ .none (s:=.sv _) rfl T rfl rfl<|ag rfl<|dn<|sr<|RT.makeFunc .none (.box rfl (.nil)) T<|an (s:=.ek _ _) rfl<|dn<|bz (gp (i:=1) rfl [ref (tC t)] (.cons rfl .nil) .any 0 [(2,.ek 114 [.val (ref [ref (tC t)])])] (fun _ _ _=>trivial) (qp.h (l:=[ref (tC t)])) ⟨@FT.ek _ _ _ _ _ 2 114 [.box 1] rfl,trivial⟩)<|bz (EN 2 (gX 114 [ref [ref (tC t)]]) (fun _ _ h=>EO h))<|aj<|⟨.inr rfl,EM (.tmp rfl (.nil)) rfl⟩
theorem Rf(n:Int):IntKind.i64.wrap n≤9223372036854775807:=by
 show(if(true&&decide (n%18446744073709551616≥9223372036854775808))=true then n%18446744073709551616-18446744073709551616 else n%18446744073709551616)≤9223372036854775807
 by_cases h:n%18446744073709551616≥9223372036854775808
 ·simp only[h,decide_true,Bool.and_self,if_true];omega
 ·simp only[h,decide_false,Bool.and_false,Bool.false_eq_true,if_false];omega
theorem width_eq(t:Tb):eR t=some (IntKind.i64.wrap (t.vars+(t.rows.length:Int))):=by
 cases t;rfl
theorem Cy(t:Tb):Iter Tryz.prog 114 [ref [ref (tC t)]] (IntKind.i64.wrap (t.vars+(t.rows.length:Int))).toNat (fun k=>[.v (.int .i64 (k:Int))]):=by
 refine rE Tryz.func114 rfl rfl (Nat.le_of_ble_eq_true rfl) (fun cE M O l J hJ yD hr=>?_)
 have hw:=Rf (t.vars+(t.rows.length:Int))
 have hwd:=width_eq t
 generalize (IntKind.i64.wrap (t.vars+(t.rows.length:Int)))=W at hw hwd hr⊢
 refine aN ?_
 refine af ?_
 refine RT.cO .none rfl rfl (tl rfl) ?_
 refine RT.call .none (jU hwd) rfl ⟨rfl,trivial⟩ (tl rfl) ?_
 refine RT.mv .none rfl (tl rfl) ?_
 refine RT.done ?_
 refine ae.n ?_
 refine aq ?_
 refine xm (I:=fun x:{i:Nat//i≤W.toNat}=>AS.bG 14 [(0,.sv (.v (.func (.yield l) #[] #[]))),(1,.sv (ref [ref (tC t)])),(5,.sv (.v (.int .i64 W))),(6,.sv (.v (.int .i64 ((x.1:Nat):Int))))] [] [] (x.1)) (μ:=fun x=>W.toNat-x.1) ⟨0,by omega⟩ (by(try dsimp only);exact cS id rfl rfl rfl rfl rfl ⟨.sv (by first|exact SV.aa _|exact SV.ak (by omega)|exact SV.ak (by push_cast;omega)|exact SV.ak (by dsimp only;omega)|exact SV.imp_eq (by simp)),.sv (by first|exact SV.aa _|exact SV.ak (by omega)|exact SV.ak (by push_cast;omega)|exact SV.ak (by dsimp only;omega)|exact SV.imp_eq (by simp)),.sv (by first|exact SV.aa _|exact SV.ak (by omega)|exact SV.ak (by push_cast;omega)|exact SV.ak (by dsimp only;omega)|exact SV.imp_eq (by simp)),.sv (by first|exact SV.aa _|exact SV.ak (by omega)|exact SV.ak (by push_cast;omega)|exact SV.ak (by dsimp only;omega)|exact SV.imp_eq (by simp)),trivial⟩ trivial trivial (fun _ _=>rfl)) ?_
 rintro⟨i,Vj⟩
 try dsimp only
 rcases Nat.lt_or_eq_of_le Vj with hi|hi
 ·
  refine aN ?_
  refine af ?_
  refine RT.lss .none (true) rfl rfl (tl rfl) (by simp;omega) ?_
  refine RT.done ?_
  refine ae.n ?_
  refine aN ?_
  refine cj rfl ?_
  refine aE ?_
  refine ae.n ?_
  refine aN ?_
  refine aq ?_
  refine aN ?_
  refine af ?_
  refine RT.mv .none rfl (tl rfl) ?_
  refine RT.A4 .none rfl (tl rfl) ?_
  refine RT.done ?_
  refine ae.n ?_
  refine aN ?_
  refine af ?_
  refine RT.mv .none rfl (tl rfl) ?_
  refine RT.mv .none rfl (tl rfl) ?_
  refine RT.yield .none hr rfl (fun _ h=>h) rfl (i) rfl rfl (by omega) (by exact⟨rfl,trivial⟩) (tl rfl) (fun yb=>?_)
  cases yb
  ·
   refine RT.not .none rfl (tl rfl) true rfl ?_
   refine RT.done ?_
   refine ae.n ?_
   refine cj rfl ?_
   refine aj ?_
   refine aG.r ?_
   refine ae.r ?_
   refine ae.r ?_
   refine aG.r ?_
   exact⟨.inr rfl,(fun h=>by cases h)⟩
  ·
   refine RT.not .none rfl (tl rfl) false rfl ?_
   refine RT.done ?_
   refine ae.n ?_
   refine dJ rfl ?_
   refine aE ?_
   refine aG.n ?_
   refine ae.n ?_
   refine af ?_
   refine RT.add .none (((i:Nat):Int)+1) rfl rfl (tl rfl) (k7 (by omega)) ?_
   refine RT.mv .none rfl (tl rfl) ?_
   refine RT.done ?_
   refine ae.n ?_
   refine⟨⟨i+1,by omega⟩,(by dsimp only;omega),?_⟩
   try dsimp only
   exact cS id rfl rfl rfl rfl rfl ⟨.sv (by first|exact SV.aa _|exact SV.ak (by omega)|exact SV.ak (by push_cast;omega)|exact SV.ak (by dsimp only;omega)|exact SV.imp_eq (by simp)),.sv (by first|exact SV.aa _|exact SV.ak (by omega)|exact SV.ak (by push_cast;omega)|exact SV.ak (by dsimp only;omega)|exact SV.imp_eq (by simp)),.sv (by first|exact SV.aa _|exact SV.ak (by omega)|exact SV.ak (by push_cast;omega)|exact SV.ak (by dsimp only;omega)|exact SV.imp_eq (by simp)),.sv (by first|exact SV.aa _|exact SV.ak (by omega)|exact SV.ak (by push_cast;omega)|exact SV.ak (by dsimp only;omega)|exact SV.imp_eq (by simp)),trivial⟩ trivial trivial (fun _ _=>rfl)
 ·
  subst hi
  refine aN ?_
  refine af ?_
  refine RT.lss .none (false) rfl rfl (tl rfl) (by simp;omega) ?_
  refine RT.done ?_
  refine ae.n ?_
  refine aN ?_
  refine dJ rfl ?_
  refine aZ ?_
  refine ae.x ?_
  refine ae.x ?_
  refine aG.x ?_
  exact⟨.inl rfl,(fun _=>rfl)⟩
theorem Cz{x0:Tb}{r:Bool}(h:fK x0=some r):Pure Tryz.prog 42 [ref (tC x0)] (.v (.bool r)):=by
 obtain⟨aA,aB,aK,aL,cU⟩:=x0
 refine ay Tryz.func42 rfl (Nat.le_of_ble_eq_true rfl) (fun cE M vs hvs=>?_)
 unfold fK at h
 refine sr<|RT.vZ .none (s:=.sv _) rfl T rfl rfl<|al (cs:=[.v (.bool false)]) (by exact⟨SV.aa _,trivial⟩) rfl<|dn<|qq<|sr<|lV rfl rfl rfl<|bE h fun x5 h5 h=>cl (dx h5) ⟨rfl,trivial⟩<|dn ?_
 cases x5
 refine fs<|qq<|sr<|lV rfl rfl rfl<|cl (Cx ⟨aA,aB,aK,aL,cU⟩) ⟨rfl,trivial⟩<|dn<|aq<|bE (F h) fun e3 UH WB=>?_
 obtain⟨m3,st3,hs3,ht3,hn3⟩:=yA UH
 refine mP (Cy ⟨aA,aB,aK,aL,cU⟩) (fun _ _ _ _ _=>trivial) rfl (fun k=>AS.bG 14 [(1,.ptr 1 0),(2,.ptr 2 0),(7,.sv (gX 114 [ref [ref [.v (.bool aA),.v (.int .i64 aB),slc 1 (List.map (eS 4 eQ) aK),slc 1 (List.map bU aL),slc 1 (List.map (eS 4 eQ) cU)]]]))] [(2,⟨4,[.sv (.v (.bool false))]⟩),(1,⟨30,[.sv (ref [.v (.bool aA),.v (.int .i64 aB),slc 1 (List.map (eS 4 eQ) aK),slc 1 (List.map bU aL),slc 1 (List.map (eS 4 eQ) cU)])]⟩)] []) [2,1] rfl (fun _=>⟨rfl,rfl⟩) (nH rfl) (fun _=>rfl) (nI rfl) (by(try dsimp only);(try dsimp only);exact cS id rfl rfl rfl rfl rfl ⟨.ptr,.ptr,.sv (SV.aa _),trivial⟩ ⟨⟨_,rfl,⟨.sv (SV.aa _),trivial⟩⟩,⟨_,rfl,⟨.sv (SV.aa _),trivial⟩⟩,trivial⟩ trivial (fun _ _=>rfl)) m3 (fun k hk hkm D hD=>?_) (fun hdn=>?_)
 obtain⟨y3,h,hG3,hE3⟩:=ht3 k hk hkm
 dsimp only[AS.JH,ot]
 try dsimp only at h
 refine lE h fun p8 hp8 h=>?_
 rw[hp8]
 refine af<|ag rfl<|RT.done ?_
 refine ae.n ⟨rfl,?_⟩
 dsimp only[AS.xw]
 refine aq<|sr<|lV rfl rfl rfl<|mv rfl<|bE h fun gY mG h=>cl (wU mG) ⟨rfl,rfl,trivial⟩<|bE h fun dh ey h=>cl (Hh ey) ⟨rfl,trivial⟩<|lE h fun iu gN h=>ls _ rfl rfl gN<|dn ?_
 cases iu
 refine cF<|aE<|aG.n ?_
 obtain rfl:=O (F h)
 obtain⟨hm3,hq3⟩:=hG3 _ rfl
 exact⟨hm3,rfl,rfl,wR []⟩
 refine cT<|sr<|RT.mz (cells:=[_]) .none (s:=.sv _) rfl rfl rfl T rfl<|dn<|aj<|aG.r ?_
 obtain rfl:=O (V h)
 have he3:=hE3 _ rfl
 subst he3
 refine⟨rfl,rfl,?_⟩
 refine aG.r<|ae.r ?_
 obtain rfl:=O WB
 exact RZ (.one rfl rfl rfl (.nil))
 have hd3:=hn3 hdn
 subst hd3
 obtain⟨ee3,WC⟩:∃q,st3 ((IntKind.i64.wrap (Tb.vars ⟨aA,aB,aK,aL,cU⟩+((Tb.rows ⟨aA,aB,aK,aL,cU⟩).length:Int))).toNat)=q:=⟨_,rfl⟩
 rw[WC]at WB
 try dsimp only
 refine aG.n<|ae.n<|sr<|RT.mz (cells:=[_]) .none (s:=.sv _) rfl rfl rfl T rfl<|dn<|aj ?_
 obtain rfl:=O WB
 exact RZ (.one rfl rfl rfl (.nil))
 refine cT<|sr<|RT.mz (cells:=[_]) .none (s:=.sv _) rfl rfl rfl T rfl<|dn<|aj<|ae.r ?_
 obtain rfl:=O (V h)
 exact RZ (.one rfl rfl rfl (.nil))
theorem CA{o0:Bool}{o1:Int}{o2:List (List Qr)}{o3:List Int}{o4:List (List Qr)}{r:Bool}(h:cg (⟨o0,o1,o2,o3,o4⟩:Tb)=some r):Ch Tryz.prog 57 [.ptr 1000 0] 79 [.s (.v (.bool o0)),.s (.v (.int .i64 o1)),.r (TR 23 1 (eS 4 eQ) o2),.r (TR 3 1 bU o3),.r (TR 23 1 (eS 4 eQ) o4)] (.v (.bool r)):=eG (cells:=tC (⟨o0,o1,o2,o3,o4⟩:Tb)) (r:=fun N=>.v (.bool r)) (fun N=>by exact mU (dx h) N) rfl ⟨⟨SV.aa _,fun _ _ q=>One.h _ _ q⟩,⟨SV.aa _,fun _ _ q=>One.h _ _ q⟩,c9,c9,c9,trivial⟩ J8
theorem FU{o0:Bool}{o1:Int}{o2:List (List Qr)}{o3:List Int}{o4:List (List Qr)}{r:Int}(h:eR (⟨o0,o1,o2,o3,o4⟩:Tb)=some r):Ch Tryz.prog 58 [.ptr 1000 0] 79 [.s (.v (.bool o0)),.s (.v (.int .i64 o1)),.r (TR 23 1 (eS 4 eQ) o2),.r (TR 3 1 bU o3),.r (TR 23 1 (eS 4 eQ) o4)] (.v (.int .i64 r)):=eG (cells:=tC (⟨o0,o1,o2,o3,o4⟩:Tb)) (r:=fun N=>.v (.int .i64 r)) (fun N=>by exact mU (jU h) N) rfl ⟨⟨SV.aa _,fun _ _ q=>One.h _ _ q⟩,⟨SV.aa _,fun _ _ q=>One.h _ _ q⟩,c9,c9,c9,trivial⟩ J8
theorem FV{o0:Bool}{o1:Int}{o2:List (List Qr)}{o3:List Int}{o4:List (List Qr)}{r:List Int}(h:jM (⟨o0,o1,o2,o3,o4⟩:Tb)=some r):Ch Tryz.prog 17 [.ptr 1000 0] 79 [.s (.v (.bool o0)),.s (.v (.int .i64 o1)),.r (TR 23 1 (eS 4 eQ) o2),.r (TR 3 1 bU o3),.r (TR 23 1 (eS 4 eQ) o4)] (slc 1 (List.map bU r)):=eG (cells:=tC (⟨o0,o1,o2,o3,o4⟩:Tb)) (r:=fun N=>nw N (slc 1 (List.map bU r))) (fun N=>by exact FP N h) rfl ⟨⟨SV.aa _,fun _ _ q=>One.h _ _ q⟩,⟨SV.aa _,fun _ _ q=>One.h _ _ q⟩,c9,c9,c9,trivial⟩ WS
theorem wW{o0:Bool}{o1:Int}{o2:List (List Qr)}{o3:List Int}{o4:List (List Qr)}{r:List Qr}(h:fP (⟨o0,o1,o2,o3,o4⟩:Tb)=some r):Ch Tryz.prog 19 [.ptr 1000 0] 79 [.s (.v (.bool o0)),.s (.v (.int .i64 o1)),.r (TR 23 1 (eS 4 eQ) o2),.r (TR 3 1 bU o3),.r (TR 23 1 (eS 4 eQ) o4)] (slc 4 (List.map eQ r)):=eG (cells:=tC (⟨o0,o1,o2,o3,o4⟩:Tb)) (r:=fun N=>nw N (slc 4 (List.map (fQ N) r))) (fun N=>by exact wS N h) rfl ⟨⟨SV.aa _,fun _ _ q=>One.h _ _ q⟩,⟨SV.aa _,fun _ _ q=>One.h _ _ q⟩,c9,c9,c9,trivial⟩ AE
theorem wX{o0:Bool}{o1:Int}{o2:List (List Qr)}{o3:List Int}{o4:List (List Qr)}{x1:Int}{r:List Qr}(h:cQ (⟨o0,o1,o2,o3,o4⟩:Tb) x1=some r):Ch Tryz.prog 28 [.ptr 1000 0,.sv (.v (.int .i64 x1))] 79 [.s (.v (.bool o0)),.s (.v (.int .i64 o1)),.r (TR 23 1 (eS 4 eQ) o2),.r (TR 3 1 bU o3),.r (TR 23 1 (eS 4 eQ) o4)] (slc 4 (List.map eQ r)):=eG (cells:=tC (⟨o0,o1,o2,o3,o4⟩:Tb)) (r:=fun N=>nw N (slc 4 (List.map (fQ N) r))) (fun N=>by exact wV N h) rfl ⟨⟨SV.aa _,fun _ _ q=>One.h _ _ q⟩,⟨SV.aa _,fun _ _ q=>One.h _ _ q⟩,c9,c9,c9,trivial⟩ AE
theorem si{o0:Bool}{o1:Int}{o2:List (List Qr)}{o3:List Int}{o4:List (List Qr)}{r:List Qr}(h:iB (⟨o0,o1,o2,o3,o4⟩:Tb)=some r):Ch Tryz.prog 38 [.ptr 1000 0] 79 [.s (.v (.bool o0)),.s (.v (.int .i64 o1)),.r (TR 23 1 (eS 4 eQ) o2),.r (TR 3 1 bU o3),.r (TR 23 1 (eS 4 eQ) o4)] (slc 4 (List.map eQ r)):=eG (cells:=tC (⟨o0,o1,o2,o3,o4⟩:Tb)) (r:=fun N=>nw N (slc 4 (List.map (fQ N) r))) (fun N=>by exact FR N h) rfl ⟨⟨SV.aa _,fun _ _ q=>One.h _ _ q⟩,⟨SV.aa _,fun _ _ q=>One.h _ _ q⟩,c9,c9,c9,trivial⟩ AE
theorem sS{o0:Bool}{o1:Int}{o2:List (List Qr)}{o3:List Int}{o4:List (List Qr)}{r:List Qr}(h:fY (⟨o0,o1,o2,o3,o4⟩:Tb)=some r):Ch Tryz.prog 21 [.ptr 1000 0] 79 [.s (.v (.bool o0)),.s (.v (.int .i64 o1)),.r (TR 23 1 (eS 4 eQ) o2),.r (TR 3 1 bU o3),.r (TR 23 1 (eS 4 eQ) o4)] (slc 4 (List.map eQ r)):=eG (cells:=tC (⟨o0,o1,o2,o3,o4⟩:Tb)) (r:=fun N=>nw N (slc 4 (List.map (fQ N) r))) (fun N=>by exact Ai N h) rfl ⟨⟨SV.aa _,fun _ _ q=>One.h _ _ q⟩,⟨SV.aa _,fun _ _ q=>One.h _ _ q⟩,c9,c9,c9,trivial⟩ AE
theorem nM{o0:Bool}{o1:Int}{o2:List (List Qr)}{o3:List Int}{o4:List (List Qr)}{r:Bool}(h:eU (⟨o0,o1,o2,o3,o4⟩:Tb)=some r):Ch Tryz.prog 35 [.ptr 1000 0] 79 [.s (.v (.bool o0)),.s (.v (.int .i64 o1)),.r (TR 23 1 (eS 4 eQ) o2),.r (TR 3 1 bU o3),.r (TR 23 1 (eS 4 eQ) o4)] (.v (.bool r)):=eG (cells:=tC (⟨o0,o1,o2,o3,o4⟩:Tb)) (r:=fun N=>.v (.bool r)) (fun N=>by exact mU (Aj h) N) rfl ⟨⟨SV.aa _,fun _ _ q=>One.h _ _ q⟩,⟨SV.aa _,fun _ _ q=>One.h _ _ q⟩,c9,c9,c9,trivial⟩ J8
theorem oT{o0:Bool}{o1:Int}{o2:List (List Qr)}{o3:List Int}{o4:List (List Qr)}{r:Bool}(h:fK (⟨o0,o1,o2,o3,o4⟩:Tb)=some r):Ch Tryz.prog 42 [.ptr 1000 0] 79 [.s (.v (.bool o0)),.s (.v (.int .i64 o1)),.r (TR 23 1 (eS 4 eQ) o2),.r (TR 3 1 bU o3),.r (TR 23 1 (eS 4 eQ) o4)] (.v (.bool r)):=eG (cells:=tC (⟨o0,o1,o2,o3,o4⟩:Tb)) (r:=fun N=>.v (.bool r)) (fun N=>by exact mU (Cz h) N) rfl ⟨⟨SV.aa _,fun _ _ q=>One.h _ _ q⟩,⟨SV.aa _,fun _ _ q=>One.h _ _ q⟩,c9,c9,c9,trivial⟩ J8
end Go.Proofs.YtningmnklfpfjaaGreat
namespace Go.Proofs.YtningmnklfpfjaaGreat
open Go.Fw Go.Fw.Z Go.RowKit
set_option maxHeartbeats 4000000 in
theorem mh{x0:Lr}{r:Bool×Int×(List (List Qr))×(List Int)×(List (List Qr))}(h:dN x0=some r):Lq Tryz.prog 56 [.agg (DO x0)] false [] 79 [.s (.v (.bool r.1)),.s (.v (.int .i64 r.2.1)),.r (TR 23 1 (eS 4 eQ) r.2.2.1),.r (TR 3 1 bU r.2.2.2.1),.r (TR 23 1 (eS 4 eQ) r.2.2.2.2)]:=by
 obtain⟨aA,aB,aK,aL⟩:=x0
 refine Hp Tryz.func56 rfl (Nat.le_of_ble_eq_true rfl) (fun cE M vs hvs=>?_)
 unfold dN at h
 refine sr<|bx rfl<|ag rfl<|dn<|sr<|fa rfl rfl<|lV rfl rfl rfl<|bI (cs:=[_,_,_,_,_]) (cs':=[.v (.bool true),.v (.int .i64 aA),.v (.slice none 0 0),.v (.slice none 0 0),.v (.slice none 0 0)]) (.one rfl (.one rfl (.nil))) ⟨SV.aa _,SV.aa _,SV.aa _,SV.aa _,SV.aa _,trivial⟩<|bx rfl<|an (s:=.ptr _ _) rfl<|dn<|bz (yC 12 2 304 23 1 rfl rfl rfl T)<|bz (yC 12 3 305 3 1 rfl rfl rfl T) ?_
 refine bz (yC 12 4 306 23 1 rfl rfl rfl T)<|qq<|sr<|fa rfl rfl<|lV rfl rfl rfl<|lE h fun dQ fN h=>ln rfl fN<|mv rfl<|dn<|bE h fun e6 E9 jd=>?_
 refine aV (fun(qj:(List (List Qr)))=>AS.bG 105 [(1,.ptr 1 0),(3,.ptr 12 0)] [(12,⟨79,[.sv (.v (.bool true)),.sv (.v (.int .i64 aA)),.row 308,.row 305,.row 306]⟩),(1,⟨25,[.sv (.v (.int .i64 aA)),.sv (slc 1 (List.map (eS 4 eQ) aB)),.sv (slc 1 (List.map (eS 4 eQ) aK)),.sv (slc 4 (List.map eQ aL))]⟩)] [(308,TR 23 1 (eS 4 eQ) qj),(305,TR 3 1 bU []),(306,TR 23 1 (eS 4 eQ) [])]) (fun qj=>qj=e6) ?_ (fun qj Fb=>?_)
 refine aq ?_
 refine aW E9 (fun s6=>AS.bG 105 [(1,.ptr 1 0),(3,.ptr 12 0),(14,.sv (slc 1 (List.map (eS 4 eQ) aB))),(15,.sv (.v (.int .i64 dQ))),(16,.sv (.v (.int .i64 s6.1)))] [(12,⟨79,[.sv (.v (.bool true)),.sv (.v (.int .i64 aA)),.row 308,.row 305,.row 306]⟩),(1,⟨25,[.sv (.v (.int .i64 aA)),.sv (slc 1 (List.map (eS 4 eQ) aB)),.sv (slc 1 (List.map (eS 4 eQ) aK)),.sv (slc 4 (List.map eQ aL))]⟩)] [(308,TR 23 1 (eS 4 eQ) s6.2),(305,TR 3 1 bU []),(306,TR 23 1 (eS 4 eQ) [])]) (cS (fun i=>bif Nat.beq i 308 then 304 else i) rfl rfl rfl rfl rfl ⟨.ptr,.ptr,.sv (SV.aa _),.sv (SV.aa _),.sv (SV.aa _),trivial⟩ ⟨⟨_,rfl,⟨.sv (SV.aa _),.sv (SV.aa _),.row rfl,.row rfl,.row rfl,trivial⟩⟩,⟨_,rfl,⟨.sv (SV.aa _),.sv (SV.aa _),.sv (SV.aa _),.sv (SV.aa _),trivial⟩⟩,trivial⟩ ⟨⟨_,rfl,bV.refl _⟩,⟨_,rfl,bV.refl _⟩,⟨_,rfl,bV.refl _⟩,trivial⟩ (fun i hi=>by rw[bQ (show i≠308 by omega)];rfl)) (fun s6 y6 G6 h Fe zX=>?_)
 obtain⟨Kc,FK⟩:=s6
 try dsimp only
 refine sr<|lE h fun gh kJ h=>ls _ rfl rfl kJ<|dn<|qq ?_
 cases gh
 refine cF<|aZ<|ae.x<|ae.x<|aG.x<|ae.n ?_
 obtain rfl:=O (F h)
 exact⟨FK,zX _ rfl,wR []⟩
 refine cT<|aE<|ae.n<|qq<|aq<|sr<|bE (V h) fun eD ij h=>ix rfl rfl ij<|lr rfl rfl<|ag rfl<|dn<|ai mixed<|mo (s:=.ptr _ _) rfl<|mo (s:=.ptr _ _) rfl<|RT.ec .none rfl T<|fa rfl rfl<|RT.eA .none (s:=.row _) rfl rfl rfl T<|mv rfl<|fa rfl rfl<|lV rfl rfl rfl<|bE h fun nX tR h=>cl (Dp tR) ⟨rfl,rfl,trivial⟩<|bl (l:=[nX]) (e:=(eS 4 eQ)) (.one rfl (.nil)) rfl rfl rfl rfl rfl rfl ?_
 refine bE h fun yG wD h=>aR (k:=[nX]) (e:=(eS 4 eQ)) rfl rfl rfl wD<|RT.ec .none rfl T<|fa rfl rfl<|RT.iC (cells:=[_,_,_,_,_]) .none rfl rfl rfl rfl T rfl ?_
 refine RT.done ⟨by kernel_rfl,?_⟩
 refine aG.n<|ae.n<|af<|lE h fun rN rT h=>ad _ rfl rfl rT<|mv rfl<|RT.done ?_
 obtain rfl:=O h
 exact ae.n ⟨(rN,yG),Fe _ rfl,cS (fun i=>bif Nat.beq i 308 then 30 else i) rfl rfl rfl rfl rfl ⟨.ptr,.ptr,.sv (SV.aa _),.sv (SV.aa _),.sv (SV.aa _),trivial⟩ ⟨⟨_,rfl,⟨.sv (SV.aa _),.sv (SV.aa _),.row rfl,.row rfl,.row rfl,trivial⟩⟩,⟨_,rfl,⟨.sv (SV.aa _),.sv (SV.aa _),.sv (SV.aa _),.sv (SV.aa _),trivial⟩⟩,trivial⟩ ⟨⟨_,rfl,bV.refl _⟩,⟨_,rfl,bV.refl _⟩,⟨_,rfl,bV.refl _⟩,trivial⟩ (fun i hi=>by rw[bQ (show i≠308 by omega)];rfl)⟩
 subst Fb
 try dsimp only
 refine ae.n<|qq<|sr<|fa rfl rfl<|lV rfl rfl rfl<|lE jd fun pH pA jd=>ln rfl pA<|mv rfl<|dn<|bE jd fun e30 aeJ aeK=>?_
 refine aV (fun(Lx:(List Int)×(List (List Qr)))=>AS.bG 105 [(3,.ptr 12 0)] [(12,⟨79,[.sv (.v (.bool true)),.sv (.v (.int .i64 aA)),.row 308,.row 312,.row 313]⟩)] [(308,TR 23 1 (eS 4 eQ) qj),(312,TR 3 1 bU Lx.1),(313,TR 23 1 (eS 4 eQ) Lx.2)]) (fun Lx=>Lx=e30) ?_ (fun Lx aeL=>?_)
 refine aq ?_
 refine aW aeJ (fun WW=>AS.bG 105 [(1,.ptr 1 0),(3,.ptr 12 0),(36,.sv (.v (.int .i64 pH))),(37,.sv (.v (.int .i64 WW.1)))] [(12,⟨79,[.sv (.v (.bool true)),.sv (.v (.int .i64 aA)),.row 308,.row 312,.row 313]⟩),(1,⟨25,[.sv (.v (.int .i64 aA)),.sv (slc 1 (List.map (eS 4 eQ) aB)),.sv (slc 1 (List.map (eS 4 eQ) aK)),.sv (slc 4 (List.map eQ aL))]⟩)] [(308,TR 23 1 (eS 4 eQ) qj),(312,TR 3 1 bU WW.2.1),(313,TR 23 1 (eS 4 eQ) WW.2.2)]) (cS (fun i=>bif Nat.beq i 312 then 305 else bif Nat.beq i 313 then 306 else i) rfl rfl rfl rfl rfl ⟨.ptr,.ptr,.sv (SV.aa _),.sv (SV.aa _),trivial⟩ ⟨⟨_,rfl,⟨.sv (SV.aa _),.sv (SV.aa _),.row rfl,.row rfl,.row rfl,trivial⟩⟩,⟨_,rfl,⟨.sv (SV.aa _),.sv (SV.aa _),.sv (SV.aa _),.sv (SV.aa _),trivial⟩⟩,trivial⟩ ⟨⟨_,rfl,bV.refl _⟩,⟨_,rfl,bV.refl _⟩,⟨_,rfl,bV.refl _⟩,trivial⟩ (fun i hi=>by rw[bQ (show i≠312 by omega)];rw[bQ (show i≠313 by omega)];rfl)) (fun WW y30 G30 h aeM aeN=>?_)
 obtain⟨oS,uX,uY⟩:=WW
 try dsimp only
 refine sr<|lE h fun xy Ff h=>ls _ rfl rfl Ff<|dn<|qq ?_
 cases xy
 refine cF<|aZ<|ae.x<|ae.x<|aG.x<|ae.n ?_
 obtain rfl:=O (F h)
 exact⟨(uX,uY),aeN _ rfl,wR []⟩
 refine cT<|aE<|ae.n<|qq<|aq<|sr<|mv rfl<|ag rfl<|dn<|sr<|fa rfl rfl<|lV rfl rfl rfl<|fa rfl rfl<|lV rfl rfl rfl<|lE (V h) fun yH zZ h=>ln rfl zZ<|lE h fun C0 IS h=>ad _ rfl rfl IS<|lE h fun uV h46 h=>ad _ rfl rfl h46<|bE h fun sL vo h=>RT.kO (n:=4) (e:=eQ) .none rfl rfl T rfl T (by rfl) (by decide) (by exact⟨SV.aa _,imp_nil,SV.aa _,imp_nil,trivial⟩) vo ?_
 refine an (s:=.row _) rfl<|dn<|qq<|sr<|fa rfl rfl<|lV rfl rfl rfl<|mv rfl<|dn<|bE h fun UT Nx ez=>?_
 refine aV (fun(wQ:(List Qr))=>AS.bG 105 [(1,.ptr 1 0),(3,.ptr 12 0),(6,.sv (.v (.int .i64 oS))),(7,.row 47),(36,.sv (.v (.int .i64 pH))),(37,.sv (.v (.int .i64 oS)))] [(12,⟨79,[.sv (.v (.bool true)),.sv (.v (.int .i64 aA)),.row 308,.row 312,.row 313]⟩),(1,⟨25,[.sv (.v (.int .i64 aA)),.sv (slc 1 (List.map (eS 4 eQ) aB)),.sv (slc 1 (List.map (eS 4 eQ) aK)),.sv (slc 4 (List.map eQ aL))]⟩)] [(47,TR 43 4 eQ wQ),(308,TR 23 1 (eS 4 eQ) qj),(312,TR 3 1 bU uX),(313,TR 23 1 (eS 4 eQ) uY)]) (fun wQ=>wQ=UT) ?_ (fun wQ Ny=>?_)
 refine aq ?_
 refine aW Nx (fun DU=>AS.bG 105 [(1,.ptr 1 0),(3,.ptr 12 0),(6,.sv (.v (.int .i64 oS))),(7,.row 47),(36,.sv (.v (.int .i64 pH))),(37,.sv (.v (.int .i64 oS))),(49,.sv (.v (.int .i64 aA))),(50,.sv (.v (.int .i64 DU.1)))] [(12,⟨79,[.sv (.v (.bool true)),.sv (.v (.int .i64 aA)),.row 308,.row 312,.row 313]⟩),(1,⟨25,[.sv (.v (.int .i64 aA)),.sv (slc 1 (List.map (eS 4 eQ) aB)),.sv (slc 1 (List.map (eS 4 eQ) aK)),.sv (slc 4 (List.map eQ aL))]⟩)] [(47,TR 43 4 eQ DU.2),(308,TR 23 1 (eS 4 eQ) qj),(312,TR 3 1 bU uX),(313,TR 23 1 (eS 4 eQ) uY)]) (wR []) (fun DU y38 G38 h Nz NA=>?_)
 obtain⟨Cu,Cv⟩:=DU
 try dsimp only
 refine sr<|lE h fun EU Fg h=>ls _ rfl rfl Fg<|dn<|qq ?_
 cases EU
 refine cF<|aZ<|ae.x<|ae.x<|aG.x<|ae.n ?_
 obtain rfl:=O (F h)
 exact⟨Cv,NA _ rfl,wR []⟩
 refine cT<|aE<|ae.n<|qq<|aq<|sr<|mv rfl<|ag rfl<|dn<|af<|mo (s:=.row _) rfl<|mv rfl<|fa rfl rfl<|lV rfl rfl rfl<|mv rfl<|mv rfl ?_
 obtain⟨⟨⟨Ek,zJ⟩,⟨OJ,OK⟩⟩,NB,h⟩:=bS (V h)
 refine cl (Lm NB) ⟨rfl,rfl,rfl,trivial⟩<|bE h fun JR Li h=>iR rfl rfl rfl Li<|bE h fun Ld aal h=>sA ⟨⟨Ek,zJ⟩,⟨OJ,OK⟩⟩ rfl rfl rfl aal<|RT.done<|aG.n<|ae.n<|af<|lE h fun EX ND h=>ad _ rfl rfl ND<|mv rfl<|RT.done ?_
 obtain rfl:=O h
 exact ae.n ⟨(EX,Ld),Nz _ rfl,wR []⟩
 subst Ny
 try dsimp only
 refine ae.n<|qq<|ai mixed<|mo (s:=.row _) rfl<|fa rfl rfl<|lV rfl rfl rfl<|mv rfl<|lE ez fun Il Vt ez=>ad _ rfl rfl Vt ?_
 obtain⟨⟨⟨OL,OM⟩,⟨ON,OO⟩⟩,VB,ez⟩:=bS ez
 refine cl (gC VB) ⟨rfl,trivial⟩<|bE ez fun L1 Zw ez=>iR rfl rfl rfl Zw<|bE ez fun P9 GU ez=>sA ⟨⟨OL,OM⟩,⟨ON,OO⟩⟩ rfl rfl rfl GU ?_
 refine RT.done ⟨by kernel_rfl,?_⟩
 refine ae.n<|sr<|mo (s:=.row _) rfl<|mo (s:=.row _) rfl<|lE ez fun x71 h71 ez=>lL rfl rfl h71<|lE ez fun IN QV ez=>sb _ rfl rfl QV<|fa rfl rfl<|lV rfl rfl rfl<|mv rfl ?_
 obtain⟨⟨⟨TC,TD⟩,⟨TE,TF⟩⟩,h76,ez⟩:=bS ez
 refine ix rfl rfl h76<|RT.iw (cs:=[_,_,_,_]) .none rfl T rfl rfl ?_
 obtain⟨⟨⟨OP,OQ⟩,⟨OR,OS⟩⟩,h78,ez⟩:=bS ez
 refine cl (gD h78) ⟨rfl,trivial⟩<|bE ez fun Qb VG ez=>iR rfl rfl rfl VG<|bE ez fun l44 aan ez=>sA ⟨⟨OP,OQ⟩,⟨OR,OS⟩⟩ rfl rfl rfl aan<|dn<|qq<|bz (dK (i:=47) (E1:=43) (n:=4) (e:=eQ) (l:=l44) rfl)<|af<|mo (s:=.ptr _ _) rfl<|mo (s:=.ptr _ _) rfl<|RT.ec .none rfl T<|fa rfl rfl<|RT.eA .none (s:=.row _) rfl rfl rfl T<|mv rfl<|bl (l:=[l44]) (e:=(eS 4 eQ)) (.one rfl (.nil)) rfl rfl rfl rfl rfl rfl ?_
 refine bE ez fun L3 VI ez=>aR (k:=[l44]) (e:=(eS 4 eQ)) rfl rfl rfl VI<|RT.ec .none rfl T<|fa rfl rfl<|RT.iC (cells:=[_,_,_,_,_]) .none rfl rfl rfl rfl T rfl<|dn<|ai mixed<|mo (s:=.ptr _ _) rfl<|mo (s:=.ptr _ _) rfl<|RT.ec .none rfl T<|fa rfl rfl<|RT.eA .none (s:=.row _) rfl rfl rfl T<|fa rfl rfl<|lV rfl rfl rfl<|mv rfl<|lE ez fun x98 h98 ez=>ad _ rfl rfl h98 ?_
 refine bl (l:=[x98]) (e:=bU) (.one rfl (.nil)) rfl rfl rfl rfl rfl rfl<|bE ez fun WX aeQ ez=>aR (k:=[x98]) (e:=bU) rfl rfl rfl aeQ<|RT.ec .none rfl T<|fa rfl rfl<|RT.iC (cells:=[_,_,_,_,_]) .none rfl rfl rfl rfl T rfl ?_
 refine RT.done ⟨by kernel_rfl,?_⟩
 refine aG.n<|ae.n<|af<|lE ez fun Bo IX ez=>ad _ rfl rfl IX<|mv rfl<|RT.done ?_
 obtain rfl:=O ez
 exact ae.n ⟨(Bo,WX,L3),aeM _ rfl,cS (fun i=>bif Nat.beq i 312 then 100 else bif Nat.beq i 313 then 87 else i) rfl rfl rfl rfl rfl ⟨.ptr,.ptr,.sv (SV.aa _),.sv (SV.aa _),trivial⟩ ⟨⟨_,rfl,⟨.sv (SV.aa _),.sv (SV.aa _),.row rfl,.row rfl,.row rfl,trivial⟩⟩,⟨_,rfl,⟨.sv (SV.aa _),.sv (SV.aa _),.sv (SV.aa _),.sv (SV.aa _),trivial⟩⟩,trivial⟩ ⟨⟨_,rfl,bV.refl _⟩,⟨_,rfl,bV.refl _⟩,⟨_,rfl,bV.refl _⟩,trivial⟩ (fun i hi=>by rw[bQ (show i≠312 by omega)];rw[bQ (show i≠313 by omega)];rfl)⟩
 subst aeL
 obtain⟨Ke,Kf⟩:=Lx
 try dsimp only
 refine ae.n<|sr<|mo (s:=.ptr _ _) rfl<|an (s:=.ptr _ _) rfl<|dn<|aj ?_
 obtain rfl:=O aeK
 exact⟨.inr rfl,12,[308,312,313],.tmp rfl,rfl,⟨rfl,rfl,rfl,trivial⟩,by decide⟩
theorem uF{x0:Lr}{r:Bool×Int×(List (List Qr))×(List Int)×(List (List Qr))}(h:gP x0=some r):Lq Tryz.prog 12 [.agg (DO x0)] true [.v (.int .i64 0)] 79 [.s (.v (.bool r.1)),.s (.v (.int .i64 r.2.1)),.r (TR 23 1 (eS 4 eQ) r.2.2.1),.r (TR 3 1 bU r.2.2.2.1),.r (TR 23 1 (eS 4 eQ) r.2.2.2.2)]:=by
 obtain⟨aA,aB,aK,aL⟩:=x0
 refine Hq (t1:=2) (t2:=3) Tryz.func12 rfl (Nat.le_of_ble_eq_true rfl) rfl (fun cE M vs hvs=>?_)
 unfold gP at h
 refine sr<|bx rfl<|ag rfl<|ag rfl<|dn<|qq<|sr<|ld rfl rfl (.cons rfl (.cons rfl (.cons rfl (.cons rfl (.nil)))))<|bE h fun x5 h5 h=>cl (pS h5) ⟨rfl,trivial⟩<|lE h fun x6 h6 h=>nt rfl _ h6<|dn ?_
 cases x6
 refine fs<|sr<|ld rfl rfl (.cons rfl (.cons rfl (.cons rfl (.cons rfl (.nil))))) ?_
 obtain⟨⟨vu,vv,z9,Aa,Re⟩,h8,h⟩:=bS (F h)
 refine RT.Oi .none (mh h8) [304,305,306] (by decide) rfl ⟨⟨rfl,T⟩,⟨rfl,T⟩,⟨rfl,T⟩,trivial⟩ rfl ⟨rfl,trivial⟩ T rfl rfl<|an (s:=.ptr _ _) rfl<|ag rfl<|dn<|aj ?_
 obtain rfl:=O h
 exact⟨.inr rfl,8,[304,305,306],rfl,rfl,rfl,⟨rfl,rfl,rfl,trivial⟩,by decide⟩
 refine cT<|sr<|ag rfl<|ag rfl<|dn<|aj<|ae.r ?_
 replace h:=V h
 cases h
theorem FW{x0:List Qr}{Dn:Qr}{r:List Qr}(h:nB x0 Dn=some r):Pure Tryz.prog 106 [slc 4 (List.map eQ x0),ref (eQ Dn)] (slc 4 (List.map eQ r)):=by
 obtain⟨⟨D8,D9⟩,⟨Ea,Eb⟩⟩:=Dn
 refine ay Tryz.func106 rfl (Nat.le_of_ble_eq_true rfl) (fun cE M vs hvs=>?_)
 unfold nB at h
 refine sr<|aI rfl (imp_nil (n:=4) (e:=eQ))<|dn<|sr<|RT.iw (cs:=[_,_,_,_]) .none rfl T rfl rfl<|mv rfl<|bE h fun x6 h6 h=>cl (xI h6) ⟨rfl,rfl,trivial⟩<|ag rfl<|dn<|aj ?_
 obtain rfl:=O h
 exact R1 rfl
theorem Du{o0:Bool}{o1:Int}{o2:List (List Qr)}{o3:List Int}{o4:List (List Qr)}{x0:List Qr}{Dn:Int}{c_2:Int}{r:List Qr}(h:jT o0 o1 o2 o3 o4 x0 Dn c_2=some r):J5 Tryz.prog 107 (fun β=>[.sv (slc 4 (List.map eQ x0)),.sv (ref [.v (.int .i64 Dn)]),.sv (ref [.v (.pointer (some ⟨β,0,none⟩))]),.sv (ref [.v (.int .i64 c_2)])]) 79 [.s (.v (.bool o0)),.s (.v (.int .i64 o1)),.r (TR 23 1 (eS 4 eQ) o2),.r (TR 3 1 bU o3),.r (TR 23 1 (eS 4 eQ) o4)] (fun _ M' _ v=>SV.h (slc 4 (List.map eQ r)) M' v):=by
 refine FJ [1001,1002,1003] Tryz.func107 rfl (fun _=>(Nat.le_of_ble_eq_true rfl)) (fun _=>rfl) (by decide) rfl rfl ⟨⟨_,rfl⟩,⟨_,rfl⟩,trivial,trivial,trivial,trivial⟩ (fun cE M β us=>?_)
 unfold jT at h
 refine sr<|aI rfl (imp_nil (n:=4) (e:=eQ))<|dn<|qq<|sr<|mv rfl<|lr rfl rfl ?_
 obtain⟨⟨⟨vu,vv⟩,⟨z9,Aa⟩⟩,h8,h⟩:=bS h
 refine ix rfl rfl h8<|RT.iw (cs:=[_,_,_,_]) .none rfl T rfl rfl<|bE h fun dB fM h=>cl (fB fM) ⟨rfl,trivial⟩<|lE h fun gY mG h=>eq _ rfl rfl (tB (p:=dB) (q:=0) mG)<|dn ?_
 cases gY
 refine fs<|qq<|ai mixed<|mv rfl<|lr rfl rfl ?_
 obtain⟨⟨⟨jC,jD⟩,⟨D4,D5⟩⟩,fN,h⟩:=bS (F h)
 refine ix rfl rfl fN<|RT.iw (cs:=[_,_,_,_]) .none rfl T rfl rfl ?_
 obtain⟨⟨⟨oC,oD⟩,⟨vQ,vR⟩⟩,kJ,h⟩:=bS h
 refine cl (G5 kJ) ⟨rfl,trivial⟩<|RT.y4 (k:=1000) .none rfl rfl rfl T<|RT.ec .none rfl T<|fa rfl rfl<|RT.eA .none (s:=.row _) rfl rfl rfl T<|lr rfl rfl<|bE h fun jw pz h=>iR rfl rfl rfl pz<|bE h fun gM l9 h=>lR (e:=(eS 4 eQ)) rfl rfl l9 rfl<|mv rfl<|bE h fun lf nY h=>cl (qE nY) ⟨rfl,rfl,rfl,trivial⟩<|ag rfl ?_
 refine RT.done ⟨by kernel_rfl,?_⟩
 refine ae.n<|aj ?_
 obtain rfl:=O h
 exact⟨.inr rfl,gw (.tmp rfl (.nil)) (SV.aa _),rfl,⟨rfl,rfl,rfl,trivial⟩⟩
 refine cT<|sr<|mv rfl<|ag rfl<|dn<|aj<|ae.r ?_
 obtain rfl:=O (V h)
 exact⟨.inr rfl,gw (.tmp rfl (.nil)) (SV.aa _),rfl,⟨rfl,rfl,rfl,trivial⟩⟩
set_option maxHeartbeats 4000000 in
theorem n7{o0:Bool}{o1:Int}{o2:List (List Qr)}{o3:List Int}{o4:List (List Qr)}{x1:Int}{x2:Int}{r:(List (List Qr))×(List Int)×(List (List Qr))}(h:cX o0 o1 o2 o3 o4 x1 x2=some r):QZ Tryz.prog 60 [.ptr 1000 0,.sv (.v (.int .i64 x1)),.sv (.v (.int .i64 x2))] 79 [.s (.v (.bool o0)),.s (.v (.int .i64 o1)),.r (TR 23 1 (eS 4 eQ) o2),.r (TR 3 1 bU o3),.r (TR 23 1 (eS 4 eQ) o4)] (.any) [.s (.v (.bool o0)),.s (.v (.int .i64 o1)),.r (TR 23 1 (eS 4 eQ) r.1),.r (TR 3 1 bU r.2.1),.r (TR 23 1 (eS 4 eQ) r.2.2)]:=by
 refine Ce [1001,1002,1003] Tryz.func60 rfl (Nat.le_of_ble_eq_true rfl) rfl (by decide) rfl (fun cE M β us=>?_)
 unfold cX at h
 refine sr<|RT.vZ .none (s:=.ptr _ _) rfl T rfl rfl<|RT.vZ .none (s:=.sv _) rfl T rfl rfl<|RT.vZ .none (s:=.sv _) rfl T rfl rfl<|dn<|Rb (i:=3) rfl rfl<|bz (gp (i:=3) rfl [.v (.pointer (some ⟨β,0,none⟩))] (.cons rfl (.nil)) .any 0 [(3,.sv (ref [.v (.pointer (some ⟨β,0,none⟩))]))] (fun _ _ _=>trivial) (qp.h (l:=[.v (.pointer (some ⟨β,0,none⟩))])) ⟨@FT.ptr _ _ _ _ _ 3 0 rfl,trivial⟩)<|bz (gp (i:=4) rfl [.v (.int .i64 x1)] (.cons rfl (.nil)) .any 0 [(4,.sv (ref [.v (.int .i64 x1)]))] (fun _ _ _=>trivial) (qp.h (l:=[.v (.int .i64 x1)])) ⟨@FT.ptr _ _ _ _ _ 4 0 rfl,trivial⟩) ?_
 refine bz (gp (i:=5) rfl [.v (.int .i64 x2)] (.cons rfl (.nil)) .any 0 [(5,.sv (ref [.v (.int .i64 x2)]))] (fun _ _ _=>trivial) (qp.h (l:=[.v (.int .i64 x2)])) ⟨@FT.ptr _ _ _ _ _ 5 0 rfl,trivial⟩)<|qq<|ai mixed ?_
 obtain⟨⟨⟨DW,DX⟩,⟨TG,TH⟩⟩,gN,h⟩:=bS h
 refine cl (gC gN) ⟨rfl,trivial⟩<|RT.y4 (k:=1000) .none rfl rfl rfl T<|RT.ec .none rfl T<|fa rfl rfl<|RT.eA .none (s:=.row _) rfl rfl rfl T<|lr rfl rfl<|bE h fun k8 kn h=>iR rfl rfl rfl kn<|bE h fun gV l8 h=>lR (e:=(eS 4 eQ)) rfl rfl l8 rfl<|lr rfl rfl ?_
 obtain⟨⟨⟨nu,nv⟩,⟨nx,ny⟩⟩,nK,h⟩:=bS h
 refine ix rfl rfl nK<|RT.iw (cs:=[_,_,_,_]) .none rfl T rfl rfl ?_
 obtain⟨⟨⟨⟨y5,y7⟩,⟨za,zb⟩⟩,Lk⟩,l9,h⟩:=bS h
 refine cl (G4 l9) ⟨rfl,rfl,trivial⟩<|mv rfl<|ex rfl rfl<|ex rfl rfl<|al (cs:=[.v (.bool false),slc 1 (List.map ah []),.v (.bool false),slc 1 (List.map ah [])]) (by exact⟨SV.aa _,imp_nil,SV.aa _,imp_nil,trivial⟩) rfl<|so rfl rfl rfl<|ag rfl ?_
 refine RT.done ⟨by kernel_rfl,?_⟩
 refine ae.n ?_
 refine bz (gp (i:=6) rfl [.v (.bool y5),slc 1 (List.map ah y7),.v (.bool za),slc 1 (List.map ah zb)] (.cons rfl (.cons rfl (.cons rfl (.cons rfl (.nil))))) .any 0 [(6,.sv (ref [.v (.bool y5),slc 1 (List.map ah y7),.v (.bool za),slc 1 (List.map ah zb)]))] (fun _ _ _=>trivial) (qp.h (l:=[.v (.bool y5),slc 1 (List.map ah y7),.v (.bool za),slc 1 (List.map ah zb)])) ⟨@FT.ptr _ _ _ _ _ 6 0 rfl,trivial⟩)<|sr<|RT.uT (caps:=[_]) .none ⟨rfl,trivial⟩ T<|bI (cs:=[_]) (cs':=[gX 106 [ref [.v (.bool y5),slc 1 (List.map ah y7),.v (.bool za),slc 1 (List.map ah zb)]]]) (.one rfl (.nil)) ⟨SV.aa _,trivial⟩ ?_
 refine RT.alloc .none T rfl rfl<|so rfl rfl rfl<|dn<|qq<|ai mixed<|RT.y4 (k:=1000) .none rfl rfl rfl T<|RT.ec .none rfl T<|fa rfl rfl<|RT.eA .none (s:=.row _) rfl rfl rfl T<|lr rfl rfl<|fa rfl rfl<|lV rfl rfl rfl<|RT.y4 (k:=1000) .none rfl rfl rfl T<|RT.ec .none rfl T<|fa rfl rfl<|RT.eA .none (s:=.row _) rfl rfl rfl T<|lr rfl rfl<|bE h fun tH zY h=>iR rfl rfl rfl zY ?_
 refine bE h fun rf yN h=>lR (e:=(eS 4 eQ)) rfl rfl yN rfl<|bE h fun ri AA h=>RT.SK (args:=[_]) (caps:=[_]) .none (FW AA) rfl ⟨rfl,trivial⟩ T<|bE h fun yH zZ h=>iR rfl rfl rfl zZ<|bE h fun l2 aeR h=>sR ri rfl rfl rfl rfl aeR ?_
 refine RT.done ⟨by kernel_rfl,?_⟩
 refine ae.n<|sr<|RT.uT (caps:=[_,_,_]) .none ⟨rfl,rfl,rfl,trivial⟩ T<|bI (cs:=[_]) (cs':=[gX 107 [ref [.v (.int .i64 x2)],ref [.v (.pointer (some ⟨β,0,none⟩))],ref [.v (.int .i64 x1)]]]) (.one rfl (.nil)) ⟨SV.aa _,trivial⟩<|RT.alloc .none T rfl rfl<|so rfl rfl rfl<|dn<|sr<|RT.y4 (k:=1000) .none rfl rfl rfl T<|RT.ec .none rfl T<|fa rfl rfl<|RT.eA .none (s:=.row _) rfl rfl rfl T<|lE h fun EU Fg h=>lL rfl rfl Fg ?_
 refine mv rfl<|dn<|bE h fun JS BB ik=>?_
 refine aV (fun(qK:(List (List Qr)))=>AS.bG 71 [] [(1000,⟨79,[.sv (.v (.bool o0)),.sv (.v (.int .i64 o1)),.row 1001,.row 1002,.row 1003]⟩)] [(1001,TR 23 1 (eS 4 eQ) o2),(1002,TR 3 1 bU o3),(1003,TR 23 1 (eS 4 eQ) qK)]) (fun qK=>qK=JS) ?_ (fun qK IV=>?_)
 refine aq ?_
 refine aW BB (fun xg=>AS.bG 71 [(3,.sv (ref [.v (.pointer (some ⟨β,0,none⟩))])),(4,.sv (ref [.v (.int .i64 x1)])),(9,.ptr 9 0),(50,.row 1003),(51,.sv (.v (.int .i64 EU))),(52,.sv (.v (.int .i64 xg.1)))] [(1000,⟨79,[.sv (.v (.bool o0)),.sv (.v (.int .i64 o1)),.row 1001,.row 1002,.row 1003]⟩),(9,⟨124,[.sv (gX 107 [ref [.v (.int .i64 x2)],ref [.v (.pointer (some ⟨β,0,none⟩))],ref [.v (.int .i64 x1)]])]⟩)] [(1003,TR 23 1 (eS 4 eQ) xg.2),(1001,TR 23 1 (eS 4 eQ) o2),(1002,TR 3 1 bU o3)]) (wR []) (fun xg y12 G12 h Fh Fi=>?_)
 obtain⟨pW,gb⟩:=xg
 try dsimp only
 refine sr<|lE h fun TI QU h=>ls _ rfl rfl QU<|dn<|qq ?_
 cases TI
 refine cF<|aZ<|ae.x<|ae.x<|aG.x<|ae.n ?_
 obtain rfl:=O (F h)
 exact⟨gb,Fi _ rfl,wR []⟩
 refine cT<|aE<|ae.n<|qq<|aq<|sr<|mv rfl<|bE (V h) fun xe IU h=>iR rfl rfl rfl IU<|bE h fun EW IT h=>lR (e:=(eS 4 eQ)) rfl rfl IT rfl<|ag rfl<|ag rfl<|dn<|sr<|mv rfl<|lr rfl rfl<|lE h fun II NB h=>ne _ rfl rfl (ER (p:=pW) (q:=x1) NB)<|dn ?_
 refine aF h (fun j15=>AS.bG 71 [(3,.sv (ref [.v (.pointer (some ⟨β,0,none⟩))])),(4,.sv (ref [.v (.int .i64 x1)])),(9,.ptr 9 0),(50,.row 1003),(51,.sv (.v (.int .i64 EU))),(52,.sv (.v (.int .i64 pW)))] [(1000,⟨79,[.sv (.v (.bool o0)),.sv (.v (.int .i64 o1)),.row 1001,.row 1002,.row 1003]⟩),(9,⟨124,[.sv (gX 107 [ref [.v (.int .i64 x2)],ref [.v (.pointer (some ⟨β,0,none⟩))],ref [.v (.int .i64 x1)]])]⟩)] [(1003,TR 23 1 (eS 4 eQ) j15),(1001,TR 23 1 (eS 4 eQ) o2),(1002,TR 3 1 bU o3)]) (fun h=>?_) (fun uE h=>?_)
 cases II
 exact fs<|⟨gb,(F h),wR []⟩
 refine cT<|ai mixed<|RT.y4 (k:=1000) .none rfl rfl rfl T<|RT.ec .none rfl T<|fa rfl rfl<|RT.eA .none (s:=.row _) rfl rfl rfl T<|mv rfl<|fa rfl rfl<|lV rfl rfl rfl<|mv rfl<|bE (V h) fun L1 Zw h=>RT.Rc (args:=[.sv (slc 4 (List.map eQ EW))]) (caps:=fun β=>[ref [.v (.int .i64 x2)],ref [.v (.pointer (some ⟨β,0,none⟩))],ref [.v (.int .i64 x1)]]) .none (Du Zw) 1000 [1001,1002,1003] rfl rfl ⟨rfl,rfl,rfl,trivial⟩ (by decide) rfl rfl (.cons rfl (.nil)) T ?_
 refine bE h fun IL Vu h=>iR rfl rfl rfl Vu<|bE h fun l17 aao h=>sR L1 rfl rfl rfl rfl aao ?_
 refine RT.done ⟨by kernel_rfl,?_⟩
 exact ae.n<|⟨l17,h,wR []⟩
 try dsimp only
 refine aG.n<|ae.n<|af<|lE h fun M6 Zz h=>ad _ rfl rfl Zz<|mv rfl<|RT.done ?_
 obtain rfl:=O h
 exact ae.n ⟨(M6,uE),Fh _ rfl,wR []⟩
 subst IV
 try dsimp only
 obtain rfl:=O ik
 exact⟨.inl rfl,gw .nil (fun _ _ _=>trivial),[1001,1002,1003],rfl,⟨rfl,rfl,rfl,trivial⟩,by decide⟩
set_option maxHeartbeats 4000000 in
theorem gQ{o0:Bool}{o1:Int}{o2:List (List Qr)}{o3:List Int}{o4:List (List Qr)}{x1:Int}{x2:Int}{r:Int×(List (List Qr))×(List Int)×(List (List Qr))}(h:aM o0 o1 o2 o3 o4 x1 x2=some r):QZ Tryz.prog 14 [.ptr 1000 0,.sv (.v (.int .i64 x1)),.sv (.v (.int .i64 x2))] 79 [.s (.v (.bool o0)),.s (.v (.int .i64 o1)),.r (TR 23 1 (eS 4 eQ) o2),.r (TR 3 1 bU o3),.r (TR 23 1 (eS 4 eQ) o4)] (.v (.int .i64 r.1)) [.s (.v (.bool o0)),.s (.v (.int .i64 o1)),.r (TR 23 1 (eS 4 eQ) r.2.1),.r (TR 3 1 bU r.2.2.1),.r (TR 23 1 (eS 4 eQ) r.2.2.2)]:=by
 refine Ce [1001,1002,1003] Tryz.func14 rfl (Nat.le_of_ble_eq_true rfl) rfl (by decide) rfl (fun cE M β us=>?_)
 unfold aM at h
 refine sr<|ag rfl<|dn<|qq<|sr<|mo (s:=.ptr _ _) rfl<|bE h fun dB fM h=>RT.jk .none (CA fM) 1000 [1001,1002,1003] rfl ⟨rfl,rfl,rfl,trivial⟩ (by decide) rfl rfl (.cons rfl (.nil)) T<|dn ?_
 cases dB
 refine fs<|qq<|qq ?_
 refine aF (F h) (fun WL=>AS.bG 68 [(0,.ptr 1000 0),(1,.sv (.v (.int .i64 x1))),(2,.sv (.v (.int .i64 x2))),(31,.sv (.v (.bool WL)))] [(1000,⟨79,[.sv (.v (.bool o0)),.sv (.v (.int .i64 o1)),.row 1001,.row 1002,.row 1003]⟩)] [(1001,TR 23 1 (eS 4 eQ) o2),(1002,TR 3 1 bU o3),(1003,TR 23 1 (eS 4 eQ) o4)]) (fun h=>?_) (fun OT h=>?_)
 refine af<|mv rfl<|lE h fun dh ey h=>ls _ rfl rfl ey<|mv rfl<|bE h fun OU wY h=>?_
 cases dh
 refine gm rfl<|RT.move (.some rfl rfl) (s:=.ptr _ _) rfl T<|RT.ec (.some rfl rfl) rfl T<|RT.fieldAddr (.some rfl rfl) rfl T rfl<|RT.eA (.some rfl rfl) (s:=.row _) rfl rfl rfl T<|lE (F wY) fun k8 kn wY=>RT.SH (.some rfl rfl) rfl rfl T kn<|lE wY fun gV l8 wY=>RT.geq (.some rfl rfl) _ rfl rfl T l8 ?_
 obtain rfl:=O wY
 refine pF rfl<|mv rfl<|bE h fun aeT FX h=>?_
 cases gV
 refine gm rfl<|lE (F FX) fun gM l9 FX=>RT.lss (.some rfl rfl) _ rfl rfl T l9 ?_
 obtain rfl:=O FX
 refine pF rfl<|mv rfl<|bE h fun aeU sX h=>?_
 cases gM
 refine gm rfl<|RT.move (.some rfl rfl) (s:=.ptr _ _) rfl T<|bE (F sX) fun gA iP sX=>RT.jk (.some rfl rfl) (FU iP) 1000 [1001,1002,1003] rfl ⟨rfl,rfl,rfl,trivial⟩ (by decide) rfl rfl (.cons rfl (.nil)) T<|lE sX fun yG wD sX=>RT.geq (.some rfl rfl) _ rfl rfl T wD ?_
 obtain rfl:=O sX
 exact pF rfl<|dn<|⟨yG,h,wR []⟩
 obtain rfl:=O (V sX)
 exact ww<|ww<|ww<|ww<|pT rfl<|dn<|⟨true,h,wR []⟩
 obtain rfl:=O (V FX)
 refine ww<|ww<|pT rfl<|mv rfl<|bE h fun aeV yT h=>?_
 obtain rfl:=O (V yT)
 exact ww<|ww<|ww<|ww<|pT rfl<|dn<|⟨true,h,wR []⟩
 obtain rfl:=O (V wY)
 refine ww<|ww<|ww<|ww<|ww<|ww<|ww<|pT rfl<|mv rfl<|bE h fun aeW yU h=>?_
 obtain rfl:=O (V yU)
 refine ww<|ww<|pT rfl<|mv rfl<|bE h fun aeX wH h=>?_
 obtain rfl:=O (V wH)
 exact ww<|ww<|ww<|ww<|pT rfl<|dn<|⟨true,h,wR []⟩
 try dsimp only
 refine ae.n ?_
 cases OT
 refine fs<|qq<|sr<|mo (s:=.ptr _ _) rfl<|RT.ec .none rfl T<|fa rfl rfl<|RT.eA .none (s:=.row _) rfl rfl rfl T<|lE (F h) fun pH pA h=>lL rfl rfl pA<|mv rfl<|dn<|bE h fun Jc FM lK=>?_
 refine aV (fun(CB:Unit)=>AS.bG 68 [(0,.ptr 1000 0),(1,.sv (.v (.int .i64 x1))),(2,.sv (.v (.int .i64 x2)))] [(1000,⟨79,[.sv (.v (.bool o0)),.sv (.v (.int .i64 o1)),.row 1001,.row 1002,.row 1003]⟩)] [(1001,TR 23 1 (eS 4 eQ) o2),(1002,TR 3 1 bU o3),(1003,TR 23 1 (eS 4 eQ) o4)]) (fun CB=>.inl CB=Jc) ?_ (fun CB FN=>?_)
 refine aq ?_
 refine aW FM (fun HC=>AS.bG 68 [(0,.ptr 1000 0),(1,.sv (.v (.int .i64 x1))),(2,.sv (.v (.int .i64 x2))),(35,.row 1002),(36,.sv (.v (.int .i64 pH))),(37,.sv (.v (.int .i64 HC)))] [(1000,⟨79,[.sv (.v (.bool o0)),.sv (.v (.int .i64 o1)),.row 1001,.row 1002,.row 1003]⟩)] [(1002,TR 3 1 bU o3),(1001,TR 23 1 (eS 4 eQ) o2),(1003,TR 23 1 (eS 4 eQ) o4)]) (wR []) (fun FL y16 G16 h FO Ah=>?_)
 try dsimp only
 refine sr<|lE h fun xy Ff h=>ls _ rfl rfl Ff<|dn<|qq ?_
 cases xy
 refine cF<|aZ<|ae.x<|ae.x<|aG.x<|ae.n ?_
 obtain rfl:=O (F h)
 exact⟨(),Ah _ rfl,wR []⟩
 refine cT<|aE<|ae.n<|qq<|aq<|sr<|bE (V h) fun rj z4 h=>iR rfl rfl rfl z4<|bE h fun kg mQ h=>lR rfl rfl mQ rfl<|ag rfl<|dn<|sr<|mv rfl<|mv rfl<|lE h fun ri AA h=>eq _ rfl rfl (tB (p:=kg) (q:=x2) AA)<|dn ?_
 cases ri
 refine cF<|aE<|aG.n<|ae.n<|af<|lE (F h) fun yH zZ h=>ad _ rfl rfl zZ<|mv rfl<|RT.done ?_
 obtain rfl:=O h
 exact ae.n ⟨yH,FO _ rfl,wR []⟩
 refine cT<|sr<|ag rfl<|dn<|aj<|aG.r<|ae.r ?_
 obtain rfl:=O (V h)
 have OV:=Ah _ rfl
 subst OV
 refine ae.r<|aG.r<|ae.r<|ae.r ?_
 obtain rfl:=O lK
 exact⟨.inr rfl,gw (.tmp rfl (.nil)) (SV.aa _),[1001,1002,1003],rfl,⟨rfl,rfl,rfl,trivial⟩,by decide⟩
 subst FN
 try dsimp only
 refine ae.n<|qq<|sr<|mo (s:=.ptr _ _) rfl<|RT.ec .none rfl T<|fa rfl rfl<|RT.eA .none (s:=.row _) rfl rfl rfl T<|mv rfl<|bE lK fun sM BA lK=>iR rfl rfl rfl BA<|bE lK fun EU Fg lK=>lR (e:=(eS 4 eQ)) rfl rfl Fg rfl<|mv rfl ?_
 obtain⟨⟨⟨TJ,TK⟩,⟨TL,TM⟩⟩,QU,lK⟩:=bS lK
 refine ix rfl rfl QU<|RT.iw (cs:=[_,_,_,_]) .none rfl T rfl rfl<|bE lK fun xe IU lK=>cl (fB IU) ⟨rfl,trivial⟩<|lE lK fun EW IT lK=>eq _ rfl rfl (tB (p:=xe) (q:=0) IT)<|dn ?_
 cases EW
 refine fs<|sr<|mo (s:=.ptr _ _) rfl<|mv rfl<|mv rfl ?_
 obtain⟨⟨Yo,l21,Yp⟩,Li,lK⟩:=bS (F lK)
 refine RT.JY .none (n7 Li) 1000 [1001,1002,1003] [304,305,306] rfl ⟨rfl,rfl,rfl,trivial⟩ (by decide) (by decide) rfl ⟨⟨rfl,T⟩,⟨rfl,T⟩,⟨rfl,T⟩,trivial⟩ rfl rfl (.cons rfl (.cons rfl (.cons rfl (.nil)))) T<|dn<|sr<|mo (s:=.ptr _ _) rfl<|RT.ec .none rfl T<|fa rfl rfl<|RT.eA .none (s:=.row _) rfl rfl rfl T<|mv rfl<|mv rfl<|bE lK fun L2 VB lK=>iR rfl rfl rfl VB<|bE lK fun l24 aap lK=>sR x2 rfl rfl rfl rfl aap ?_
 refine dn<|sr<|ag rfl<|dn<|aj ?_
 obtain rfl:=O lK
 exact⟨.inr rfl,gw (.tmp rfl (.nil)) (SV.aa _),[304,305,306],rfl,⟨rfl,rfl,rfl,trivial⟩,by decide⟩
 refine cT<|sr<|ag rfl<|dn<|aj<|ae.r ?_
 obtain rfl:=O (V lK)
 exact⟨.inr rfl,gw (.tmp rfl (.nil)) (SV.aa _),[1001,1002,1003],rfl,⟨rfl,rfl,rfl,trivial⟩,by decide⟩
 refine cT<|sr<|ag rfl<|dn<|aj<|ae.r ?_
 obtain rfl:=O (V h)
 exact⟨.inr rfl,gw (.tmp rfl (.nil)) (SV.aa _),[1001,1002,1003],rfl,⟨rfl,rfl,rfl,trivial⟩,by decide⟩
 refine cT<|sr<|ag rfl<|dn<|aj<|ae.r ?_
 obtain rfl:=O (V h)
 exact⟨.inr rfl,gw (.tmp rfl (.nil)) (SV.aa _),[1001,1002,1003],rfl,⟨rfl,rfl,rfl,trivial⟩,by decide⟩
end Go.Proofs.YtningmnklfpfjaaGreat
namespace Go.Proofs.YtningmnklfpfjaaGreat
open Go.Fw
noncomputable def jV(x0:List (List Qr)):Option (Int):=(bT (fun(s6:Int×Int)=>match s6 with|⟨qg,Rg⟩=>(show Option ((Int×Int)⊕(Int))from(some (x0.length:Int)).bind fun x7=>(some (decide ((Rg:Int)<x7))).bind fun x8=>(bif x8 then(cC x0 Rg).bind fun eH=>(some (eH.length:Int)).bind fun gy=>(some (max (qg:Int) gy)).bind fun gh=>(some (IntKind.i64.wrap (Rg+1))).bind fun dB=>some (.inl (gh,dB))else some (.inr qg)))) (0,0)).bind fun yV=>some yV
noncomputable def iY(x0:List (List Qr))(x1:Int):Option (Bool):=(jV x0).bind fun x6=>(some (decide ((x6:Int)≤x1))).bind fun x8=>some x8
noncomputable def kT(x0:Lr):Option (Bool):=match x0 with|⟨aA,aB,aK,aL⟩=>cm (fun(Je:Bool)=>(bif Je then some false else cm (fun(GY:Bool)=>some GY) fun K24=>(iY aB aA).bind fun rf=>(bif rf then(iY aK aA).bind fun rK=>some rK else some false).bind fun OW=>K24 OW)) fun Yi=>(some (decide ((aA:Int)<0))).bind fun x5=>(bif x5 then some true else(some (decide ((64:Int)<aA))).bind fun x9=>some x9).bind fun OX=>(bif OX then some true else(some (aB.length:Int)).bind fun eH=>(some (decide ((eH:Int)<1))).bind fun dQ=>some dQ).bind fun W2=>(bif W2 then some true else(some (aB.length:Int)).bind fun gV=>(some (decide ((4:Int)<gV))).bind fun gz=>some gz).bind fun W4=>(bif W4 then some true else(some (aK.length:Int)).bind fun lf=>(some (decide ((128:Int)<lf))).bind fun kj=>some kj).bind fun W5=>(bif W5 then some true else(some (aL.length:Int)).bind fun iE=>(some (aK.length:Int)).bind fun rJ=>(some (decide ((iE:Int)≠rJ))).bind fun pH=>some pH).bind fun W6=>Yi W6
end Go.Proofs.YtningmnklfpfjaaGreat
namespace Go.Proofs.YtningmnklfpfjaaGreat
open Go.Fw Go.Fw.Z Go.RowKit
theorem vV{x0:List (List Qr)}{r:Int}(h:jV x0=some r):Pure Tryz.prog 118 [slc 1 (List.map (eS 4 eQ) x0)] (.v (.int .i64 r)):=by
 refine ay Tryz.func118 rfl (Nat.le_of_ble_eq_true rfl) (fun cE M vs hvs=>?_)
 unfold jV at h
 refine sr<|ag rfl<|dn<|sr<|ag rfl<|dn<|qq<|sr<|ag rfl<|dn<|bE h fun e6 E9 jd=>?_
 refine aV (fun(yV:Int)=>AS.bG 19 [(3,.sv (.v (.int .i64 yV)))] [] []) (fun yV=>yV=e6) ?_ (fun yV Fb=>?_)
 refine aq ?_
 refine aW E9 (fun s6=>AS.bG 19 [(0,.sv (slc 1 (List.map (eS 4 eQ) x0))),(3,.sv (.v (.int .i64 s6.1))),(4,.sv (.v (.int .i64 s6.2)))] [] []) (wR []) (fun s6 y6 G6 h Fe zX=>?_)
 obtain⟨qg,Rg⟩:=s6
 try dsimp only
 refine qq<|sr<|mv rfl<|mv rfl<|lE h fun x7 h7 h=>ln rfl h7<|lE h fun x8 h8 h=>ls _ rfl rfl h8<|dn ?_
 cases x8
 refine cF<|aZ<|ae.x<|ae.x<|aG.x<|ae.n ?_
 obtain rfl:=O (F h)
 exact⟨qg,zX _ rfl,wR []⟩
 refine cT<|aE<|ae.n<|qq<|aq<|af<|mv rfl<|mv rfl<|mv rfl<|bE (V h) fun eH jc h=>ix rfl rfl jc<|lr rfl rfl<|lE h fun gy jA h=>ln rfl jA<|lE h fun gh kJ h=>RT.max .none _ rfl rfl T (GG (p:=qg) (q:=gy) kJ)<|ag rfl<|RT.done<|aG.n<|ae.n<|af<|mv rfl<|lE h fun dB fM h=>ad _ rfl rfl fM<|ag rfl<|RT.done ?_
 obtain rfl:=O h
 exact ae.n ⟨(gh,dB),Fe _ rfl,wR []⟩
 subst Fb
 try dsimp only
 refine ae.n<|sr<|mv rfl<|ag rfl<|dn<|aj ?_
 obtain rfl:=O jd
 exact R1 rfl
theorem uG{x0:List (List Qr)}{x1:Int}{r:Bool}(h:iY x0 x1=some r):Pure Tryz.prog 72 [slc 1 (List.map (eS 4 eQ) x0),.v (.int .i64 x1)] (.v (.bool r)):=by
 refine ay Tryz.func72 rfl (Nat.le_of_ble_eq_true rfl) (fun cE M vs hvs=>?_)
 unfold iY at h
 refine sr<|ag rfl<|dn<|sr<|mv rfl<|bE h fun x6 h6 h=>cl (vV h6) ⟨rfl,trivial⟩<|mv rfl<|lE h fun x8 h8 h=>RT.leq .none _ rfl rfl T h8<|ag rfl<|dn<|aj ?_
 obtain rfl:=O h
 exact R1 rfl
theorem sj{x0:Lr}{r:Bool}(h:kT x0=some r):Pure Tryz.prog 24 [.agg (DO x0)] (.v (.bool r)):=by
 obtain⟨aA,aB,aK,aL⟩:=x0
 refine ay Tryz.func24 rfl (Nat.le_of_ble_eq_true rfl) (fun cE M vs hvs=>?_)
 unfold kT at h
 refine sr<|bx rfl<|ag rfl<|dn<|qq<|qq ?_
 refine aF h (fun Wm=>AS.bG 50 [(1,.ptr 1 0),(37,.sv (.v (.bool Wm)))] [(1,⟨25,[.sv (.v (.int .i64 aA)),.sv (slc 1 (List.map (eS 4 eQ) aB)),.sv (slc 1 (List.map (eS 4 eQ) aK)),.sv (slc 4 (List.map eQ aL))]⟩)] []) (fun h=>?_) (fun Je h=>?_)
 refine af<|fa rfl rfl<|lV rfl rfl rfl<|lE h fun x5 h5 h=>ls _ rfl rfl h5<|mv rfl<|bE h fun OX FX h=>?_
 cases x5
 refine RT.fieldAddr (.some rfl rfl) rfl T rfl<|RT.sV (.some rfl rfl) rfl rfl rfl T<|lE (F FX) fun x9 h9 FX=>gg _ rfl rfl h9 ?_
 obtain rfl:=O FX
 refine pF rfl<|mv rfl<|bE h fun aeY sX h=>?_
 cases x9
 refine RT.fieldAddr (.some rfl rfl) rfl T rfl<|RT.sV (.some rfl rfl) rfl rfl rfl T<|lE (F sX) fun eH jc sX=>gn rfl jc<|lE sX fun dQ fN sX=>RT.lss (.some rfl rfl) _ rfl rfl T fN ?_
 obtain rfl:=O sX
 refine pF rfl<|mv rfl<|bE h fun aeZ yT h=>?_
 cases dQ
 refine RT.fieldAddr (.some rfl rfl) rfl T rfl<|RT.sV (.some rfl rfl) rfl rfl rfl T<|lE (F yT) fun gV l8 yT=>gn rfl l8<|lE yT fun gz mH yT=>gg _ rfl rfl mH ?_
 obtain rfl:=O yT
 refine pF rfl<|mv rfl<|bE h fun ae0 yU h=>?_
 cases gz
 refine RT.fieldAddr (.some rfl rfl) rfl T rfl<|RT.sV (.some rfl rfl) rfl rfl rfl T<|lE (F yU) fun lf nY yU=>gn rfl nY<|lE yU fun kj og yU=>gg _ rfl rfl og ?_
 obtain rfl:=O yU
 refine pF rfl<|mv rfl<|bE h fun ae1 wH h=>?_
 cases kj
 refine RT.fieldAddr (.some rfl rfl) rfl T rfl<|RT.sV (.some rfl rfl) rfl rfl rfl T<|lE (F wH) fun iE kA wH=>gn rfl kA<|RT.fieldAddr (.some rfl rfl) rfl T rfl<|RT.sV (.some rfl rfl) rfl rfl rfl T<|lE wH fun rJ yM wH=>gn rfl yM<|lE wH fun pH pA wH=>gq _ rfl rfl (ER (p:=iE) (q:=rJ) pA) ?_
 obtain rfl:=O wH
 exact pF rfl<|dn<|⟨pH,h,wR []⟩
 obtain rfl:=O (V wH)
 exact ww<|ww<|ww<|ww<|ww<|ww<|ww<|pT rfl<|dn<|⟨true,h,wR []⟩
 obtain rfl:=O (V yU)
 refine ww<|ww<|ww<|ww<|pT rfl<|mv rfl<|bE h fun ae2 Ll h=>?_
 obtain rfl:=O (V Ll)
 exact ww<|ww<|ww<|ww<|ww<|ww<|ww<|pT rfl<|dn<|⟨true,h,wR []⟩
 obtain rfl:=O (V yT)
 refine ww<|ww<|ww<|ww<|pT rfl<|mv rfl<|bE h fun ae3 Wn h=>?_
 obtain rfl:=O (V Wn)
 refine ww<|ww<|ww<|ww<|pT rfl<|mv rfl<|bE h fun ae4 Wo h=>?_
 obtain rfl:=O (V Wo)
 exact ww<|ww<|ww<|ww<|ww<|ww<|ww<|pT rfl<|dn<|⟨true,h,wR []⟩
 obtain rfl:=O (V sX)
 refine ww<|ww<|ww<|ww<|pT rfl<|mv rfl<|bE h fun ae5 Wp h=>?_
 obtain rfl:=O (V Wp)
 refine ww<|ww<|ww<|ww<|pT rfl<|mv rfl<|bE h fun ae6 Wq h=>?_
 obtain rfl:=O (V Wq)
 refine ww<|ww<|ww<|ww<|pT rfl<|mv rfl<|bE h fun ae7 Wr h=>?_
 obtain rfl:=O (V Wr)
 exact ww<|ww<|ww<|ww<|ww<|ww<|ww<|pT rfl<|dn<|⟨true,h,wR []⟩
 obtain rfl:=O (V FX)
 refine ww<|ww<|ww<|pT rfl<|mv rfl<|bE h fun ae8 Ws h=>?_
 obtain rfl:=O (V Ws)
 refine ww<|ww<|ww<|ww<|pT rfl<|mv rfl<|bE h fun ae9 Wt h=>?_
 obtain rfl:=O (V Wt)
 refine ww<|ww<|ww<|ww<|pT rfl<|mv rfl<|bE h fun afa Wu h=>?_
 obtain rfl:=O (V Wu)
 refine ww<|ww<|ww<|ww<|pT rfl<|mv rfl<|bE h fun afb Wv h=>?_
 obtain rfl:=O (V Wv)
 exact ww<|ww<|ww<|ww<|ww<|ww<|ww<|pT rfl<|dn<|⟨true,h,wR []⟩
 try dsimp only
 refine ae.n ?_
 cases Je
 refine fs<|qq ?_
 refine aF (F h) (fun SO=>AS.bG 50 [(2,.sv (.v (.bool SO)))] [] []) (fun h=>?_) (fun GY h=>?_)
 refine af<|fa rfl rfl<|lV rfl rfl rfl<|fa rfl rfl<|lV rfl rfl rfl<|bE h fun rf yN h=>cl (uG yN) ⟨rfl,rfl,trivial⟩<|mv rfl<|bE h fun OW wY h=>?_
 cases rf
 obtain rfl:=O (F wY)
 exact ww<|ww<|ww<|ww<|ww<|pF rfl<|ag rfl<|dn<|⟨false,h,wR []⟩
 refine RT.fieldAddr (.some rfl rfl) rfl T rfl<|RT.sV (.some rfl rfl) rfl rfl rfl T<|RT.fieldAddr (.some rfl rfl) rfl T rfl<|RT.sV (.some rfl rfl) rfl rfl rfl T<|bE (V wY) fun rK h48 wY=>gc (uG h48) ⟨rfl,rfl,trivial⟩ ?_
 obtain rfl:=O wY
 exact pT rfl<|ag rfl<|dn<|⟨rK,h,wR []⟩
 try dsimp only
 refine ae.n<|aj ?_
 obtain rfl:=O h
 exact R1 rfl
 refine cT<|sr<|ag rfl<|dn<|aj<|ae.r ?_
 obtain rfl:=O (V h)
 exact R1 rfl
end Go.Proofs.YtningmnklfpfjaaGreat
namespace Go.Proofs.YtningmnklfpfjaaGreat
open Go.Fw
noncomputable def lM(x0:List Zr):Option (Bool):=(bT (fun(qg:Int)=>(show Option ((Int)⊕((Unit)⊕(Bool)))from(some (x0.length:Int)).bind fun x6=>(some (decide ((qg:Int)<x6))).bind fun x7=>(bif x7 then(cC x0 qg).bind fun⟨fT,fH⟩=>(some (fH.length:Int)).bind fun dQ=>(some (decide ((12:Int)<dQ))).bind fun gy=>(bif gy then some (.inr (.inr true))else(some (IntKind.i64.wrap (qg+1))).bind fun x9=>some (.inl x9))else some (.inr (.inl ()))))) 0).bind fun e6=>match e6 with|.inr v6=>some v6|.inl _=>some false
end Go.Proofs.YtningmnklfpfjaaGreat
namespace Go.Proofs.YtningmnklfpfjaaGreat
open Go.Fw Go.Fw.Z Go.RowKit
theorem Dv{x0:List Zr}{r:Bool}(h:lM x0=some r):Pure Tryz.prog 125 [slc 2 (List.map eZ x0)] (.v (.bool r)):=by
 refine ay Tryz.func125 rfl (Nat.le_of_ble_eq_true rfl) (fun cE M vs hvs=>?_)
 unfold lM at h
 refine sr<|ag rfl<|dn<|qq<|sr<|ag rfl<|dn<|bE h fun e6 E9 jd=>?_
 refine aV (fun(Fa:Unit)=>AS.bG 17 [] [] []) (fun Fa=>.inl Fa=e6) ?_ (fun Fa Fb=>?_)
 refine aq ?_
 refine aW E9 (fun s6=>AS.bG 17 [(0,.sv (slc 2 (List.map eZ x0))),(3,.sv (.v (.int .i64 s6)))] [] []) (wR []) (fun qg y6 G6 h Fe zX=>?_)
 try dsimp only
 refine qq<|sr<|mv rfl<|mv rfl<|lE h fun x6 h6 h=>ln rfl h6<|lE h fun x7 h7 h=>ls _ rfl rfl h7<|dn ?_
 cases x7
 refine cF<|aZ<|ae.x<|ae.x<|aG.x<|ae.n ?_
 obtain rfl:=O (F h)
 exact⟨(),zX _ rfl,wR []⟩
 refine cT<|aE<|ae.n<|qq<|aq<|sr<|mv rfl<|mv rfl ?_
 obtain⟨⟨fT,fH⟩,ey,h⟩:=bS (V h)
 refine ix rfl rfl ey<|RT.aT .none rfl T rfl<|lr rfl rfl<|lE h fun dQ fN h=>ln rfl fN<|lE h fun gy jA h=>gt _ rfl rfl jA<|dn ?_
 cases gy
 refine cF<|aE<|aG.n<|ae.n<|af<|mv rfl<|lE (F h) fun x9 h9 h=>ad _ rfl rfl h9<|ag rfl<|RT.done ?_
 obtain rfl:=O h
 exact ae.n ⟨x9,Fe _ rfl,wR []⟩
 refine cT<|sr<|ag rfl<|dn<|aj<|aG.r<|ae.r ?_
 obtain rfl:=O (V h)
 have Nw:=zX _ rfl
 subst Nw
 refine ae.r<|aG.r<|ae.r<|ae.r ?_
 obtain rfl:=O jd
 exact R1 rfl
 subst Fb
 try dsimp only
 refine ae.n<|sr<|ag rfl<|dn<|aj ?_
 obtain rfl:=O jd
 exact R1 rfl
end Go.Proofs.YtningmnklfpfjaaGreat
namespace Go.Proofs.YtningmnklfpfjaaGreat
open Go.Fw
noncomputable def lN(x0:List Qr):Option (Bool):=(bT (fun(vz:Int)=>(show Option ((Int)⊕((Unit)⊕(Bool)))from(some (x0.length:Int)).bind fun x6=>(some (decide ((vz:Int)<x6))).bind fun x7=>(bif x7 then cm (fun(Jf:Bool)=>(bif Jf then some (.inr (.inr true))else(some (IntKind.i64.wrap (vz+1))).bind fun x9=>some (.inl x9))) fun K22=>(cC x0 vz).bind fun⟨⟨fT,fH⟩,⟨Ka,Kb⟩⟩=>(cC x0 vz).bind fun⟨⟨oC,oD⟩,⟨vQ,vR⟩⟩=>(lM [⟨fT,fH⟩,⟨vQ,vR⟩]).bind fun gz=>(bif gz then some true else(cC x0 vz).bind fun⟨⟨ig,gW⟩,⟨ni,nj⟩⟩=>(some (gW.length:Int)).bind fun gA=>(some (decide ((6:Int)<gA))).bind fun yG=>some yG).bind fun OY=>(bif OY then some true else(cC x0 vz).bind fun⟨⟨aaq,aar⟩,⟨aas,TN⟩⟩=>(some (TN.length:Int)).bind fun rj=>(some (decide ((6:Int)<rj))).bind fun kg=>some kg).bind fun W7=>K22 W7 else some (.inr (.inl ()))))) 0).bind fun Jc=>match Jc with|.inr Yq=>some Yq|.inl _=>some false
end Go.Proofs.YtningmnklfpfjaaGreat
namespace Go.Proofs.YtningmnklfpfjaaGreat
open Go.Fw Go.Fw.Z Go.RowKit
theorem Dw{x0:List Qr}{r:Bool}(h:lN x0=some r):Pure Tryz.prog 82 [slc 4 (List.map eQ x0)] (.v (.bool r)):=by
 refine ay Tryz.func82 rfl (Nat.le_of_ble_eq_true rfl) (fun cE M vs hvs=>?_)
 unfold lN at h
 refine sr<|ag rfl<|dn<|qq<|sr<|ag rfl<|dn<|bE h fun Jc FM lK=>?_
 refine aV (fun(CB:Unit)=>AS.bG 42 [] [] []) (fun CB=>.inl CB=Jc) ?_ (fun CB FN=>?_)
 refine aq ?_
 refine aW FM (fun HC=>AS.bG 42 [(0,.sv (slc 4 (List.map eQ x0))),(3,.sv (.v (.int .i64 HC)))] [] []) (wR []) (fun vz y16 G16 h FO Ah=>?_)
 try dsimp only
 refine qq<|sr<|mv rfl<|mv rfl<|lE h fun x6 h6 h=>ln rfl h6<|lE h fun x7 h7 h=>ls _ rfl rfl h7<|dn ?_
 cases x7
 refine cF<|aZ<|ae.x<|ae.x<|aG.x<|ae.n ?_
 obtain rfl:=O (F h)
 exact⟨(),Ah _ rfl,wR []⟩
 refine cT<|aE<|ae.n<|qq<|aq<|qq ?_
 refine aF (V h) (fun j22=>AS.bG 42 [(0,.sv (slc 4 (List.map eQ x0))),(3,.sv (.v (.int .i64 vz))),(41,.sv (.v (.bool j22)))] [] []) (fun h=>?_) (fun Jf h=>?_)
 refine ai mixed<|mv rfl<|mv rfl ?_
 obtain⟨⟨⟨fT,fH⟩,⟨Ka,Kb⟩⟩,ey,h⟩:=bS h
 refine ix rfl rfl ey<|RT.aT .none rfl T rfl<|RT.iw (cs:=[_,_]) .none rfl T rfl rfl<|mv rfl<|mv rfl ?_
 obtain⟨⟨⟨oC,oD⟩,⟨vQ,vR⟩⟩,kJ,h⟩:=bS h
 refine ix rfl rfl kJ<|RT.aT .none rfl T rfl<|RT.iw (cs:=[_,_]) .none rfl T rfl rfl<|bl (l:=[⟨fT,fH⟩,⟨vQ,vR⟩]) (e:=eZ) (.agg rfl (.agg rfl (.nil))) rfl rfl rfl rfl rfl rfl<|bE h fun gz mH h=>cl (Dv mH) ⟨rfl,trivial⟩<|mv rfl<|bE h fun OY r9 h=>?_
 cases gz
 refine gm rfl<|gm rfl ?_
 obtain⟨⟨⟨ig,gW⟩,⟨ni,nj⟩⟩,qC,r9⟩:=bS (F r9)
 refine RT.UL (.some rfl rfl) rfl rfl T qC<|RT.aT (.some rfl rfl) rfl T rfl<|RT.aT (.some rfl rfl) rfl T rfl<|gr rfl rfl<|lE r9 fun gA iP r9=>gn rfl iP<|lE r9 fun yG wD r9=>gg _ rfl rfl wD ?_
 obtain rfl:=O r9
 refine pF rfl<|mv rfl<|bE h fun afe uw h=>?_
 cases yG
 refine gm rfl<|gm rfl ?_
 obtain⟨⟨⟨aaq,aar⟩,⟨aas,TN⟩⟩,yM,uw⟩:=bS (F uw)
 refine RT.UL (.some rfl rfl) rfl rfl T yM<|RT.aT (.some rfl rfl) rfl T rfl<|RT.aT (.some rfl rfl) rfl T rfl<|gr rfl rfl<|lE uw fun rj z4 uw=>gn rfl z4<|lE uw fun kg mQ uw=>gg _ rfl rfl mQ ?_
 obtain rfl:=O uw
 refine pF rfl ?_
 refine RT.done ⟨by kernel_rfl,?_⟩
 exact ae.n<|⟨kg,h,wR []⟩
 obtain rfl:=O (V uw)
 refine ww<|ww<|ww<|ww<|ww<|ww<|ww<|ww<|pT rfl ?_
 refine RT.done ⟨by kernel_rfl,?_⟩
 exact ae.n<|⟨true,h,wR []⟩
 obtain rfl:=O (V r9)
 refine ww<|ww<|ww<|ww<|ww<|ww<|ww<|ww<|pT rfl<|mv rfl<|bE h fun aff wY h=>?_
 obtain rfl:=O (V wY)
 refine ww<|ww<|ww<|ww<|ww<|ww<|ww<|ww<|pT rfl ?_
 refine RT.done ⟨by kernel_rfl,?_⟩
 exact ae.n<|⟨true,h,wR []⟩
 try dsimp only
 refine ae.n ?_
 cases Jf
 refine cF<|aE<|aG.n<|ae.n<|af<|mv rfl<|lE (F h) fun x9 h9 h=>ad _ rfl rfl h9<|ag rfl<|RT.done ?_
 obtain rfl:=O h
 exact ae.n ⟨x9,FO _ rfl,wR []⟩
 refine cT<|sr<|ag rfl<|dn<|aj<|aG.r<|ae.r ?_
 obtain rfl:=O (V h)
 have OV:=Ah _ rfl
 subst OV
 refine ae.r<|aG.r<|ae.r<|ae.r ?_
 obtain rfl:=O lK
 exact R1 rfl
 subst FN
 try dsimp only
 refine ae.n<|sr<|ag rfl<|dn<|aj ?_
 obtain rfl:=O lK
 exact R1 rfl
end Go.Proofs.YtningmnklfpfjaaGreat
namespace Go.Proofs.YtningmnklfpfjaaGreat
open Go.Fw
noncomputable def gI(x0:List (List Qr)):Option (Bool):=(bT (fun(Ly:Int)=>(show Option ((Int)⊕((Unit)⊕(Bool)))from(some (x0.length:Int)).bind fun x6=>(some (decide ((Ly:Int)<x6))).bind fun x7=>(bif x7 then cm (fun(Jg:Bool)=>(bif Jg then some (.inr (.inr true))else(some (IntKind.i64.wrap (Ly+1))).bind fun x9=>some (.inl x9))) fun L0=>(cC x0 Ly).bind fun dh=>(some (dh.length:Int)).bind fun eH=>(some (decide ((20:Int)<eH))).bind fun dQ=>(bif dQ then some true else(cC x0 Ly).bind fun k8=>(lN k8).bind fun gz=>some gz).bind fun OZ=>L0 OZ else some (.inr (.inl ()))))) 0).bind fun Nv=>match Nv with|.inr v10=>some v10|.inl _=>some false
noncomputable def jW(x0:List (List (List Qr))):Option (Bool):=(bT (fun(vz:Int)=>(show Option ((Int)⊕((Unit)⊕(Bool)))from(some (x0.length:Int)).bind fun x6=>(some (decide ((vz:Int)<x6))).bind fun x7=>(bif x7 then cm (fun(Jh:Bool)=>(bif Jh then some (.inr (.inr true))else(some (IntKind.i64.wrap (vz+1))).bind fun x9=>some (.inl x9))) fun K22=>(cC x0 vz).bind fun dh=>(some (dh.length:Int)).bind fun eH=>(some (decide ((8:Int)<eH))).bind fun dQ=>(bif dQ then some true else(cC x0 vz).bind fun k8=>(jV k8).bind fun gz=>(some (decide ((8:Int)<gz))).bind fun kf=>some kf).bind fun FY=>(bif FY then some true else(cC x0 vz).bind fun kj=>(gI kj).bind fun gA=>some gA).bind fun W8=>K22 W8 else some (.inr (.inl ()))))) 0).bind fun Jc=>match Jc with|.inr Yq=>some Yq|.inl _=>some false
noncomputable def mW:Option (Lr):=(iq [[3,5]]).bind fun x3=>(iq [[1,0],[0,2],[3,2]]).bind fun x8=>(cy [4,12,18]).bind fun dB=>some ⟨2,x3,x8,dB⟩
noncomputable def lO(x0:List (List Qr)):Option (Bool):=(bT (fun(qg:Int)=>(show Option ((Int)⊕((Unit)⊕(Bool)))from(some (x0.length:Int)).bind fun x6=>(some (decide ((qg:Int)<x6))).bind fun x7=>(bif x7 then(cC x0 qg).bind fun dh=>(some (dh.length:Int)).bind fun eH=>(some (decide ((0:Int)<eH))).bind fun dQ=>(bif dQ then some (.inr (.inr false))else(some (IntKind.i64.wrap (qg+1))).bind fun x9=>some (.inl x9))else some (.inr (.inl ()))))) 0).bind fun e6=>match e6 with|.inr v6=>some v6|.inl _=>some true
noncomputable def nC(x0:List Qr):Option (List Qr):=(some (x0.length:Int)).bind fun x5=>(some (min (x5:Int) 20)).bind fun x6=>(zT x0 0 x6).bind fun x7=>some x7
noncomputable def lP(x0:Lr):Option (Bool):=match x0 with|⟨aA,aB,aK,aL⟩=>cm (fun(TO:Bool)=>some TO) fun K59=>(some (aB.length:Int)).bind fun x5=>(some (decide ((6:Int)<x5))).bind fun x6=>(bif x6 then some true else(some (aK.length:Int)).bind fun dB=>(some (decide ((140:Int)<dB))).bind fun gY=>some gY).bind fun O0=>(bif O0 then some true else(some (aL.length:Int)).bind fun gy=>(some (decide ((140:Int)<gy))).bind fun gh=>some gh).bind fun Rh=>(bif Rh then some true else(some (aK.length:Int)).bind fun kf=>(some (decide ((8:Int)<kf))).bind fun jw=>(bif jw then(lO aK).bind fun kj=>(some (!kj)).bind fun nX=>some nX else some false).bind fun Ri=>some Ri).bind fun Rj=>(bif Rj then some true else(some (aK.length:Int)).bind fun o9=>(some (decide ((o9:Int)≤8))).bind fun rJ=>(bif rJ then(jW [aK]).bind fun kg=>some kg else some false).bind fun Rk=>some Rk).bind fun Rl=>(bif Rl then some true else(jW [aB]).bind fun sL=>some sL).bind fun Rm=>(bif Rm then some true else(nC aL).bind fun vO=>(gI [vO]).bind fun De=>some De).bind fun Rn=>K59 Rn
end Go.Proofs.YtningmnklfpfjaaGreat
namespace Go.Proofs.YtningmnklfpfjaaGreat
open Go.Fw Go.Fw.Z Go.RowKit
theorem gR{x0:List (List Qr)}{r:Bool}(h:gI x0=some r):Pure Tryz.prog 33 [slc 1 (List.map (eS 4 eQ) x0)] (.v (.bool r)):=by
 refine ay Tryz.func33 rfl (Nat.le_of_ble_eq_true rfl) (fun cE M vs hvs=>?_)
 unfold gI at h
 refine sr<|ag rfl<|dn<|qq<|sr<|ag rfl<|dn<|bE h fun Nv E6 zW=>?_
 refine aV (fun(W9:Unit)=>AS.bG 23 [] [] []) (fun W9=>.inl W9=Nv) ?_ (fun W9 E7=>?_)
 refine aq ?_
 refine aW E6 (fun EZ=>AS.bG 23 [(0,.sv (slc 1 (List.map (eS 4 eQ) x0))),(3,.sv (.v (.int .i64 EZ)))] [] []) (wR []) (fun Ly y10 G10 h E8 By=>?_)
 try dsimp only
 refine qq<|sr<|mv rfl<|mv rfl<|lE h fun x6 h6 h=>ln rfl h6<|lE h fun x7 h7 h=>ls _ rfl rfl h7<|dn ?_
 cases x7
 refine cF<|aZ<|ae.x<|ae.x<|aG.x<|ae.n ?_
 obtain rfl:=O (F h)
 exact⟨(),By _ rfl,wR []⟩
 refine cT<|aE<|ae.n<|qq<|aq<|qq ?_
 refine aF (V h) (fun Lh=>AS.bG 23 [(0,.sv (slc 1 (List.map (eS 4 eQ) x0))),(3,.sv (.v (.int .i64 Ly))),(22,.sv (.v (.bool Lh)))] [] []) (fun h=>?_) (fun Jg h=>?_)
 refine af<|mv rfl<|mv rfl<|bE h fun dh ey h=>ix rfl rfl ey<|lr rfl rfl<|lE h fun eH jc h=>ln rfl jc<|lE h fun dQ fN h=>gt _ rfl rfl fN<|mv rfl<|bE h fun OZ ew h=>?_
 cases dQ
 refine gm rfl<|gm rfl<|bE (F ew) fun k8 kn ew=>RT.UL (.some rfl rfl) rfl rfl T kn<|gr rfl rfl<|bE ew fun gz mH ew=>gc (Dw mH) ⟨rfl,trivial⟩ ?_
 obtain rfl:=O ew
 exact pF rfl<|dn<|⟨gz,h,wR []⟩
 obtain rfl:=O (V ew)
 exact ww<|ww<|ww<|ww<|ww<|pT rfl<|dn<|⟨true,h,wR []⟩
 try dsimp only
 refine ae.n ?_
 cases Jg
 refine cF<|aE<|aG.n<|ae.n<|af<|mv rfl<|lE (F h) fun x9 h9 h=>ad _ rfl rfl h9<|ag rfl<|RT.done ?_
 obtain rfl:=O h
 exact ae.n ⟨x9,E8 _ rfl,wR []⟩
 refine cT<|sr<|ag rfl<|dn<|aj<|aG.r<|ae.r ?_
 obtain rfl:=O (V h)
 have afg:=By _ rfl
 subst afg
 refine ae.r<|aG.r<|ae.r<|ae.r ?_
 obtain rfl:=O zW
 exact R1 rfl
 subst E7
 try dsimp only
 refine ae.n<|sr<|ag rfl<|dn<|aj ?_
 obtain rfl:=O zW
 exact R1 rfl
theorem iZ{x0:List (List (List Qr))}{r:Bool}(h:jW x0=some r):Pure Tryz.prog 98 [slc 1 (List.map (eS 1 (eS 4 eQ)) x0)] (.v (.bool r)):=by
 refine ay Tryz.func98 rfl (Nat.le_of_ble_eq_true rfl) (fun cE M vs hvs=>?_)
 unfold jW at h
 refine sr<|ag rfl<|dn<|qq<|sr<|ag rfl<|dn<|bE h fun Jc FM lK=>?_
 refine aV (fun(CB:Unit)=>AS.bG 31 [] [] []) (fun CB=>.inl CB=Jc) ?_ (fun CB FN=>?_)
 refine aq ?_
 refine aW FM (fun HC=>AS.bG 31 [(0,.sv (slc 1 (List.map (eS 1 (eS 4 eQ)) x0))),(3,.sv (.v (.int .i64 HC)))] [] []) (wR []) (fun vz y16 G16 h FO Ah=>?_)
 try dsimp only
 refine qq<|sr<|mv rfl<|mv rfl<|lE h fun x6 h6 h=>ln rfl h6<|lE h fun x7 h7 h=>ls _ rfl rfl h7<|dn ?_
 cases x7
 refine cF<|aZ<|ae.x<|ae.x<|aG.x<|ae.n ?_
 obtain rfl:=O (F h)
 exact⟨(),Ah _ rfl,wR []⟩
 refine cT<|aE<|ae.n<|qq<|aq<|qq ?_
 refine aF (V h) (fun j22=>AS.bG 31 [(0,.sv (slc 1 (List.map (eS 1 (eS 4 eQ)) x0))),(3,.sv (.v (.int .i64 vz))),(30,.sv (.v (.bool j22)))] [] []) (fun h=>?_) (fun Jh h=>?_)
 refine af<|mv rfl<|mv rfl<|bE h fun dh ey h=>ix rfl rfl ey<|lr rfl rfl<|lE h fun eH jc h=>ln rfl jc<|lE h fun dQ fN h=>gt _ rfl rfl fN<|mv rfl<|bE h fun FY r9 h=>?_
 cases dQ
 refine gm rfl<|gm rfl<|bE (F r9) fun k8 kn r9=>RT.UL (.some rfl rfl) rfl rfl T kn<|gr rfl rfl<|bE r9 fun gz mH r9=>gc (vV mH) ⟨rfl,trivial⟩<|lE r9 fun kf nK r9=>gg _ rfl rfl nK ?_
 obtain rfl:=O r9
 refine pF rfl<|mv rfl<|bE h fun afh uw h=>?_
 cases kf
 refine gm rfl<|gm rfl<|bE (F uw) fun kj og uw=>RT.UL (.some rfl rfl) rfl rfl T og<|gr rfl rfl<|bE uw fun gA iP uw=>gc (gR iP) ⟨rfl,trivial⟩ ?_
 obtain rfl:=O uw
 exact pF rfl<|dn<|⟨gA,h,wR []⟩
 obtain rfl:=O (V uw)
 exact ww<|ww<|ww<|ww<|ww<|pT rfl<|dn<|⟨true,h,wR []⟩
 obtain rfl:=O (V r9)
 refine ww<|ww<|ww<|ww<|ww<|ww<|pT rfl<|mv rfl<|bE h fun afi wY h=>?_
 obtain rfl:=O (V wY)
 exact ww<|ww<|ww<|ww<|ww<|pT rfl<|dn<|⟨true,h,wR []⟩
 try dsimp only
 refine ae.n ?_
 cases Jh
 refine cF<|aE<|aG.n<|ae.n<|af<|mv rfl<|lE (F h) fun x9 h9 h=>ad _ rfl rfl h9<|ag rfl<|RT.done ?_
 obtain rfl:=O h
 exact ae.n ⟨x9,FO _ rfl,wR []⟩
 refine cT<|sr<|ag rfl<|dn<|aj<|aG.r<|ae.r ?_
 obtain rfl:=O (V h)
 have OV:=Ah _ rfl
 subst OV
 refine ae.r<|aG.r<|ae.r<|ae.r ?_
 obtain rfl:=O lK
 exact R1 rfl
 subst FN
 try dsimp only
 refine ae.n<|sr<|ag rfl<|dn<|aj ?_
 obtain rfl:=O lK
 exact R1 rfl
theorem CC{r:Lr}(h:mW=some r):Pure Tryz.prog 53 [] (.agg (DO r)):=by
 refine ay Tryz.func53 rfl (Nat.le_of_ble_eq_true rfl) (fun cE M vs hvs=>?_)
 unfold mW at h
 refine sr<|al (cs:=[.v (.int .i64 0),slc 1 (List.map (eS 4 eQ) []),slc 1 (List.map (eS 4 eQ) []),slc 4 (List.map eQ [])]) (by exact⟨SV.aa _,imp_nil,imp_nil,imp_nil,trivial⟩) rfl<|dn<|sr<|bl (l:=[3,5]) (e:=bU) (.one rfl (.one rfl (.nil))) rfl rfl rfl rfl rfl rfl<|bl (l:=[[3,5]]) (e:=(eS 1 bU)) (.one rfl (.nil)) rfl rfl rfl rfl rfl rfl<|bE h fun x3 h3 h=>cl (sO h3) ⟨rfl,trivial⟩<|bl (l:=[1,0]) (e:=bU) (.one rfl (.one rfl (.nil))) rfl rfl rfl rfl rfl rfl ?_
 refine bl (l:=[0,2]) (e:=bU) (.one rfl (.one rfl (.nil))) rfl rfl rfl rfl rfl rfl<|bl (l:=[3,2]) (e:=bU) (.one rfl (.one rfl (.nil))) rfl rfl rfl rfl rfl rfl<|bl (l:=[[1,0],[0,2],[3,2]]) (e:=(eS 1 bU)) (.one rfl (.one rfl (.one rfl (.nil)))) rfl rfl rfl rfl rfl rfl<|bE h fun x8 h8 h=>cl (sO h8) ⟨rfl,trivial⟩<|bl (l:=[4,12,18]) (e:=bU) (.one rfl (.one rfl (.one rfl (.nil)))) rfl rfl rfl rfl rfl rfl<|bE h fun dB fM h=>cl (dz fM) ⟨rfl,trivial⟩ ?_
 refine bI (cs:=[_,_,_,_]) (cs':=[.v (.int .i64 2),slc 1 (List.map (eS 4 eQ) x3),slc 1 (List.map (eS 4 eQ) x8),slc 4 (List.map eQ dB)]) (.one rfl (.one rfl (.one rfl (.one rfl (.nil))))) ⟨SV.aa _,SV.aa _,SV.aa _,SV.aa _,trivial⟩<|so rfl rfl rfl<|dn<|aj ?_
 obtain rfl:=O h
 exact RZ (.agg rfl rfl (.cons rfl (.cons rfl (.cons rfl (.cons rfl (.nil))))) rfl (.nil))
theorem Dx{x0:List (List Qr)}{r:Bool}(h:lO x0=some r):Pure Tryz.prog 97 [slc 1 (List.map (eS 4 eQ) x0)] (.v (.bool r)):=by
 refine ay Tryz.func97 rfl (Nat.le_of_ble_eq_true rfl) (fun cE M vs hvs=>?_)
 unfold lO at h
 refine sr<|ag rfl<|dn<|qq<|sr<|ag rfl<|dn<|bE h fun e6 E9 jd=>?_
 refine aV (fun(Fa:Unit)=>AS.bG 16 [] [] []) (fun Fa=>.inl Fa=e6) ?_ (fun Fa Fb=>?_)
 refine aq ?_
 refine aW E9 (fun s6=>AS.bG 16 [(0,.sv (slc 1 (List.map (eS 4 eQ) x0))),(3,.sv (.v (.int .i64 s6)))] [] []) (wR []) (fun qg y6 G6 h Fe zX=>?_)
 try dsimp only
 refine qq<|sr<|mv rfl<|mv rfl<|lE h fun x6 h6 h=>ln rfl h6<|lE h fun x7 h7 h=>ls _ rfl rfl h7<|dn ?_
 cases x7
 refine cF<|aZ<|ae.x<|ae.x<|aG.x<|ae.n ?_
 obtain rfl:=O (F h)
 exact⟨(),zX _ rfl,wR []⟩
 refine cT<|aE<|ae.n<|qq<|aq<|sr<|mv rfl<|mv rfl<|bE (V h) fun dh ey h=>ix rfl rfl ey<|lr rfl rfl<|lE h fun eH jc h=>ln rfl jc<|lE h fun dQ fN h=>gt _ rfl rfl fN<|dn ?_
 cases dQ
 refine cF<|aE<|aG.n<|ae.n<|af<|mv rfl<|lE (F h) fun x9 h9 h=>ad _ rfl rfl h9<|ag rfl<|RT.done ?_
 obtain rfl:=O h
 exact ae.n ⟨x9,Fe _ rfl,wR []⟩
 refine cT<|sr<|ag rfl<|dn<|aj<|aG.r<|ae.r ?_
 obtain rfl:=O (V h)
 have Nw:=zX _ rfl
 subst Nw
 refine ae.r<|aG.r<|ae.r<|ae.r ?_
 obtain rfl:=O jd
 exact R1 rfl
 subst Fb
 try dsimp only
 refine ae.n<|sr<|ag rfl<|dn<|aj ?_
 obtain rfl:=O jd
 exact R1 rfl
theorem n8{x0:List Qr}{r:List Qr}(h:nC x0=some r):Pure Tryz.prog 99 [slc 4 (List.map eQ x0)] (slc 4 (List.map eQ r)):=by
 refine ay Tryz.func99 rfl (Nat.le_of_ble_eq_true rfl) (fun cE M vs hvs=>?_)
 unfold nC at h
 refine sr<|aI rfl (imp_nil (n:=4) (e:=eQ))<|dn<|sr<|mv rfl<|mv rfl<|lE h fun x5 h5 h=>ln rfl h5<|lE h fun x6 h6 h=>RT.min .none _ rfl rfl T (Qz (p:=x5) (q:=20) h6)<|bE h fun x7 h7 h=>RT.yz .none 0 x6 rfl rfl ⟨_,rfl⟩ T h7<|ag rfl<|dn<|aj ?_
 obtain rfl:=O h
 exact R1 rfl
set_option maxHeartbeats 4000000 in
theorem Dy{x0:Lr}{r:Bool}(h:lP x0=some r):Pure Tryz.prog 52 [.agg (DO x0)] (.v (.bool r)):=by
 obtain⟨aA,aB,aK,aL⟩:=x0
 refine ay Tryz.func52 rfl (Nat.le_of_ble_eq_true rfl) (fun cE M vs hvs=>?_)
 unfold lP at h
 refine sr<|bx rfl<|ag rfl<|dn<|qq ?_
 refine aF h (fun j59=>AS.bG 56 [(2,.sv (.v (.bool j59)))] [] []) (fun h=>?_) (fun TO h=>?_)
 refine af<|fa rfl rfl<|lV rfl rfl rfl<|lE h fun x5 h5 h=>ln rfl h5<|lE h fun x6 h6 h=>gt _ rfl rfl h6<|mv rfl<|bE h fun O0 HF h=>?_
 cases x6
 refine RT.fieldAddr (.some rfl rfl) rfl T rfl<|RT.sV (.some rfl rfl) rfl rfl rfl T<|lE (F HF) fun dB fM HF=>gn rfl fM<|lE HF fun gY mG HF=>gg _ rfl rfl mG ?_
 obtain rfl:=O HF
 refine pF rfl<|mv rfl<|bE h fun afj HG h=>?_
 cases gY
 refine RT.fieldAddr (.some rfl rfl) rfl T rfl<|RT.sV (.some rfl rfl) rfl rfl rfl T<|lE (F HG) fun gy jA HG=>gn rfl jA<|lE HG fun gh kJ HG=>gg _ rfl rfl kJ ?_
 obtain rfl:=O HG
 refine pF rfl<|mv rfl<|bE h fun afk CD h=>?_
 cases gh
 refine RT.fieldAddr (.some rfl rfl) rfl T rfl<|RT.sV (.some rfl rfl) rfl rfl rfl T<|lE (F CD) fun kf nK CD=>gn rfl nK<|lE CD fun jw pz CD=>gg _ rfl rfl pz<|gm rfl<|bE CD fun afl HH CD=>?_
 cases jw
 obtain rfl:=O (F HH)
 refine ww<|ww<|ww<|ww<|gF rfl ?_
 obtain rfl:=O CD
 refine pF rfl<|mv rfl<|bE h fun afm Ak h=>RT.fieldAddr (.some rfl rfl) rfl T rfl<|RT.sV (.some rfl rfl) rfl rfl rfl T<|lE (F Ak) fun o9 qf Ak=>gn rfl qf<|lE Ak fun rJ yM Ak=>RT.leq (.some rfl rfl) _ rfl rfl T yM<|gm rfl<|bE Ak fun afn Dz Ak=>?_
 cases rJ
 obtain rfl:=O (F Dz)
 refine ww<|ww<|ww<|ww<|gF rfl ?_
 obtain rfl:=O Ak
 refine pF rfl<|mv rfl<|bE h fun afo FZ h=>RT.fieldAddr (.some rfl rfl) rfl T rfl<|RT.sV (.some rfl rfl) rfl rfl rfl T<|RT.eF (l:=[aB]) (e:=(eS 1 (eS 4 eQ))) (.some rfl rfl) (.one rfl (.nil)) T rfl rfl rfl rfl rfl rfl<|bE (F FZ) fun sL vo FZ=>gc (iZ vo) ⟨rfl,trivial⟩ ?_
 obtain rfl:=O FZ
 refine pF rfl<|mv rfl<|bE h fun afp xW h=>?_
 cases sL
 refine RT.fieldAddr (.some rfl rfl) rfl T rfl<|RT.sV (.some rfl rfl) rfl rfl rfl T<|bE (F xW) fun vO yO xW=>gc (n8 yO) ⟨rfl,trivial⟩<|RT.eF (l:=[vO]) (e:=(eS 4 eQ)) (.some rfl rfl) (.one rfl (.nil)) T rfl rfl rfl rfl rfl rfl<|bE xW fun De Fo xW=>gc (gR Fo) ⟨rfl,trivial⟩ ?_
 obtain rfl:=O xW
 exact pF rfl<|ag rfl<|dn<|⟨De,h,wR []⟩
 obtain rfl:=O (V xW)
 exact ww<|ww<|ww<|ww<|ww<|pT rfl<|ag rfl<|dn<|⟨true,h,wR []⟩
 refine RT.fieldAddr (.some rfl rfl) rfl T rfl<|RT.sV (.some rfl rfl) rfl rfl rfl T<|RT.eF (l:=[aK]) (e:=(eS 1 (eS 4 eQ))) (.some rfl rfl) (.one rfl (.nil)) T rfl rfl rfl rfl rfl rfl<|bE (V Dz) fun kg mQ Dz=>gc (iZ mQ) ⟨rfl,trivial⟩ ?_
 obtain rfl:=O Dz
 refine gT rfl ?_
 obtain rfl:=O Ak
 refine pF rfl<|mv rfl<|bE h fun afq HI h=>?_
 cases kg
 refine RT.fieldAddr (.some rfl rfl) rfl T rfl<|RT.sV (.some rfl rfl) rfl rfl rfl T<|RT.eF (l:=[aB]) (e:=(eS 1 (eS 4 eQ))) (.some rfl rfl) (.one rfl (.nil)) T rfl rfl rfl rfl rfl rfl<|bE (F HI) fun sL vo HI=>gc (iZ vo) ⟨rfl,trivial⟩ ?_
 obtain rfl:=O HI
 refine pF rfl<|mv rfl<|bE h fun afr HJ h=>?_
 cases sL
 refine RT.fieldAddr (.some rfl rfl) rfl T rfl<|RT.sV (.some rfl rfl) rfl rfl rfl T<|bE (F HJ) fun vO yO HJ=>gc (n8 yO) ⟨rfl,trivial⟩<|RT.eF (l:=[vO]) (e:=(eS 4 eQ)) (.some rfl rfl) (.one rfl (.nil)) T rfl rfl rfl rfl rfl rfl<|bE HJ fun De Fo HJ=>gc (gR Fo) ⟨rfl,trivial⟩ ?_
 obtain rfl:=O HJ
 exact pF rfl<|ag rfl<|dn<|⟨De,h,wR []⟩
 obtain rfl:=O (V HJ)
 exact ww<|ww<|ww<|ww<|ww<|pT rfl<|ag rfl<|dn<|⟨true,h,wR []⟩
 obtain rfl:=O (V HI)
 refine ww<|ww<|ww<|ww<|pT rfl<|mv rfl<|bE h fun afs Xa h=>?_
 obtain rfl:=O (V Xa)
 exact ww<|ww<|ww<|ww<|ww<|pT rfl<|ag rfl<|dn<|⟨true,h,wR []⟩
 refine RT.fieldAddr (.some rfl rfl) rfl T rfl<|RT.sV (.some rfl rfl) rfl rfl rfl T<|bE (V HH) fun kj og HH=>gc (Dx og) ⟨rfl,trivial⟩<|lE HH fun nX tR HH=>LZ rfl _ tR ?_
 obtain rfl:=O HH
 refine gT rfl ?_
 obtain rfl:=O CD
 refine pF rfl<|mv rfl<|bE h fun afu CE h=>?_
 cases nX
 refine RT.fieldAddr (.some rfl rfl) rfl T rfl<|RT.sV (.some rfl rfl) rfl rfl rfl T<|lE (F CE) fun o9 qf CE=>gn rfl qf<|lE CE fun rJ yM CE=>RT.leq (.some rfl rfl) _ rfl rfl T yM<|gm rfl<|bE CE fun afv Lz CE=>?_
 cases rJ
 obtain rfl:=O (F Lz)
 refine ww<|ww<|ww<|ww<|gF rfl ?_
 obtain rfl:=O CE
 refine pF rfl<|mv rfl<|bE h fun afw DA h=>RT.fieldAddr (.some rfl rfl) rfl T rfl<|RT.sV (.some rfl rfl) rfl rfl rfl T<|RT.eF (l:=[aB]) (e:=(eS 1 (eS 4 eQ))) (.some rfl rfl) (.one rfl (.nil)) T rfl rfl rfl rfl rfl rfl<|bE (F DA) fun sL vo DA=>gc (iZ vo) ⟨rfl,trivial⟩ ?_
 obtain rfl:=O DA
 refine pF rfl<|mv rfl<|bE h fun afx CF h=>?_
 cases sL
 refine RT.fieldAddr (.some rfl rfl) rfl T rfl<|RT.sV (.some rfl rfl) rfl rfl rfl T<|bE (F CF) fun vO yO CF=>gc (n8 yO) ⟨rfl,trivial⟩<|RT.eF (l:=[vO]) (e:=(eS 4 eQ)) (.some rfl rfl) (.one rfl (.nil)) T rfl rfl rfl rfl rfl rfl<|bE CF fun De Fo CF=>gc (gR Fo) ⟨rfl,trivial⟩ ?_
 obtain rfl:=O CF
 exact pF rfl<|ag rfl<|dn<|⟨De,h,wR []⟩
 obtain rfl:=O (V CF)
 exact ww<|ww<|ww<|ww<|ww<|pT rfl<|ag rfl<|dn<|⟨true,h,wR []⟩
 refine RT.fieldAddr (.some rfl rfl) rfl T rfl<|RT.sV (.some rfl rfl) rfl rfl rfl T<|RT.eF (l:=[aK]) (e:=(eS 1 (eS 4 eQ))) (.some rfl rfl) (.one rfl (.nil)) T rfl rfl rfl rfl rfl rfl<|bE (V Lz) fun kg mQ Lz=>gc (iZ mQ) ⟨rfl,trivial⟩ ?_
 obtain rfl:=O Lz
 refine gT rfl ?_
 obtain rfl:=O CE
 refine pF rfl<|mv rfl<|bE h fun afy LA h=>?_
 cases kg
 refine RT.fieldAddr (.some rfl rfl) rfl T rfl<|RT.sV (.some rfl rfl) rfl rfl rfl T<|RT.eF (l:=[aB]) (e:=(eS 1 (eS 4 eQ))) (.some rfl rfl) (.one rfl (.nil)) T rfl rfl rfl rfl rfl rfl<|bE (F LA) fun sL vo LA=>gc (iZ vo) ⟨rfl,trivial⟩ ?_
 obtain rfl:=O LA
 refine pF rfl<|mv rfl<|bE h fun afz wZ h=>?_
 cases sL
 refine RT.fieldAddr (.some rfl rfl) rfl T rfl<|RT.sV (.some rfl rfl) rfl rfl rfl T<|bE (F wZ) fun vO yO wZ=>gc (n8 yO) ⟨rfl,trivial⟩<|RT.eF (l:=[vO]) (e:=(eS 4 eQ)) (.some rfl rfl) (.one rfl (.nil)) T rfl rfl rfl rfl rfl rfl<|bE wZ fun De Fo wZ=>gc (gR Fo) ⟨rfl,trivial⟩ ?_
 obtain rfl:=O wZ
 exact pF rfl<|ag rfl<|dn<|⟨De,h,wR []⟩
 obtain rfl:=O (V wZ)
 exact ww<|ww<|ww<|ww<|ww<|pT rfl<|ag rfl<|dn<|⟨true,h,wR []⟩
 obtain rfl:=O (V LA)
 refine ww<|ww<|ww<|ww<|pT rfl<|mv rfl<|bE h fun afA DB h=>?_
 obtain rfl:=O (V DB)
 exact ww<|ww<|ww<|ww<|ww<|pT rfl<|ag rfl<|dn<|⟨true,h,wR []⟩
 obtain rfl:=O (V CE)
 refine ww<|ww<|ww<|ww<|ww<|wu<|wu<|wu<|wu<|ww<|pT rfl<|mv rfl<|bE h fun afB vA h=>?_
 obtain rfl:=O (V vA)
 refine ww<|ww<|ww<|ww<|pT rfl<|mv rfl<|bE h fun afC HK h=>?_
 obtain rfl:=O (V HK)
 exact ww<|ww<|ww<|ww<|ww<|pT rfl<|ag rfl<|dn<|⟨true,h,wR []⟩
 obtain rfl:=O (V CD)
 refine ww<|ww<|ww<|ww<|ww<|wu<|wu<|wu<|wu<|ww<|pT rfl<|mv rfl<|bE h fun afD afE h=>?_
 obtain rfl:=O (V afE)
 refine ww<|ww<|ww<|ww<|ww<|wu<|wu<|wu<|wu<|ww<|pT rfl<|mv rfl<|bE h fun afF afG h=>?_
 obtain rfl:=O (V afG)
 refine ww<|ww<|ww<|ww<|pT rfl<|mv rfl<|bE h fun abS aat h=>?_
 obtain rfl:=O (V aat)
 exact ww<|ww<|ww<|ww<|ww<|pT rfl<|ag rfl<|dn<|⟨true,h,wR []⟩
 obtain rfl:=O (V HG)
 refine ww<|ww<|ww<|ww<|pT rfl<|mv rfl<|bE h fun abT aau h=>?_
 obtain rfl:=O (V aau)
 refine ww<|ww<|ww<|ww<|ww<|wu<|wu<|wu<|wu<|ww<|pT rfl<|mv rfl<|bE h fun abU aav h=>?_
 obtain rfl:=O (V aav)
 refine ww<|ww<|ww<|ww<|ww<|wu<|wu<|wu<|wu<|ww<|pT rfl<|mv rfl<|bE h fun abV aaw h=>?_
 obtain rfl:=O (V aaw)
 refine ww<|ww<|ww<|ww<|pT rfl<|mv rfl<|bE h fun abW aax h=>?_
 obtain rfl:=O (V aax)
 exact ww<|ww<|ww<|ww<|ww<|pT rfl<|ag rfl<|dn<|⟨true,h,wR []⟩
 obtain rfl:=O (V HF)
 refine ww<|ww<|ww<|ww<|pT rfl<|mv rfl<|bE h fun abX aay h=>?_
 obtain rfl:=O (V aay)
 refine ww<|ww<|ww<|ww<|pT rfl<|mv rfl<|bE h fun abY aaz h=>?_
 obtain rfl:=O (V aaz)
 refine ww<|ww<|ww<|ww<|ww<|wu<|wu<|wu<|wu<|ww<|pT rfl<|mv rfl<|bE h fun abZ aaA h=>?_
 obtain rfl:=O (V aaA)
 refine ww<|ww<|ww<|ww<|ww<|wu<|wu<|wu<|wu<|ww<|pT rfl<|mv rfl<|bE h fun ab0 aaB h=>?_
 obtain rfl:=O (V aaB)
 refine ww<|ww<|ww<|ww<|pT rfl<|mv rfl<|bE h fun ab1 aaC h=>?_
 obtain rfl:=O (V aaC)
 exact ww<|ww<|ww<|ww<|ww<|pT rfl<|ag rfl<|dn<|⟨true,h,wR []⟩
 try dsimp only
 refine ae.n<|aj ?_
 obtain rfl:=O h
 exact R1 rfl
end Go.Proofs.YtningmnklfpfjaaGreat
namespace Go.Proofs.YtningmnklfpfjaaGreat
open Go.Fw
noncomputable def lQ(x0:List Int)(x1:List Int):Option (Bool):=(some (x0.length:Int)).bind fun x7=>(some (x1.length:Int)).bind fun x9=>(some (decide ((x7:Int)≠x9))).bind fun dB=>(bif dB then some false else(bT (fun(qy:Int)=>(show Option ((Int)⊕((Unit)⊕(Bool)))from(some (x0.length:Int)).bind fun iu=>(some (decide ((qy:Int)<iu))).bind fun eH=>(bif eH then(cC x0 qy).bind fun k8=>(cC x1 qy).bind fun jw=>(some (decide ((k8:Int)≠jw))).bind fun ym=>(bif ym then some (.inr (.inr false))else(some (IntKind.i64.wrap (qy+1))).bind fun gy=>some (.inl gy))else some (.inr (.inl ()))))) 0).bind fun e6=>match e6 with|.inr v6=>some v6|.inl _=>some true)
noncomputable def dU:Option (Bool):=(mW).bind fun⟨aaD,aaE,aaF,aaG⟩=>(gP ⟨aaD,aaE,aaF,aaG⟩).bind fun⟨vB,vC,LB,LC,LD⟩=>cm (fun(O1:Bool)=>(bif O1 then some false else(aM vB vC LB LC LD 1 1).bind fun⟨kg,Yr,Qd,Ys⟩=>cm (fun(Ji:Bool)=>(bif Ji then some false else(aM vB vC Yr Qd Ys 2 0).bind fun⟨L5,Yt,Yu,Yv⟩=>cm (fun(TP:Bool)=>some TP) fun K53=>(some (decide ((L5:Int)=0))).bind fun Il=>(bif Il then(fP (⟨vB,vC,Yt,Yu,Yv⟩:Tb)).bind fun IL=>(cy [2,6,2]).bind fun x71=>(cL IL x71).bind fun IN=>some IN else some false).bind fun O2=>(bif O2 then(fY (⟨vB,vC,Yt,Yu,Yv⟩:Tb)).bind fun Yw=>(cy [2,6]).bind fun x78=>(cL Yw x78).bind fun Qb=>some Qb else some false).bind fun Xb=>(bif Xb then(iB (⟨vB,vC,Yt,Yu,Yv⟩:Tb)).bind fun x83=>(cy [36,(-2),(-6)]).bind fun Yg=>(cL x83 Yg).bind fun M7=>some M7 else some false).bind fun Xc=>(bif Xc then(fK (⟨vB,vC,Yt,Yu,Yv⟩:Tb)).bind fun UX=>some UX else some false).bind fun Xd=>(bif Xd then(eU (⟨vB,vC,Yt,Yu,Yv⟩:Tb)).bind fun x94=>some x94 else some false).bind fun Xe=>K53 Xe)) fun K26=>(some (decide ((kg:Int)≠0))).bind fun rf=>(bif rf then some true else(fP (⟨vB,vC,Yr,Qd,Ys⟩:Tb)).bind fun C0=>(cy [4,6,6]).bind fun sL=>(cL C0 sL).bind fun rK=>(some (!rK)).bind fun US=>some US).bind fun O3=>(bif O3 then some true else(iB (⟨vB,vC,Yr,Qd,Ys⟩:Tb)).bind fun TI=>(cy [30,0,(-6)]).bind fun xe=>(cL TI xe).bind fun EW=>(some (!EW)).bind fun Qa=>some Qa).bind fun Xf=>(bif Xf then some true else(fK (⟨vB,vC,Yr,Qd,Ys⟩:Tb)).bind fun EX=>some EX).bind fun Xg=>K26 Xg)) fun Tv=>(bif false then none else some false).bind fun O4=>(bif O4 then some true else(jM (⟨vB,vC,LB,LC,LD⟩:Tb)).bind fun eD=>(lQ eD [2,3,4]).bind fun gV=>(some (!gV)).bind fun gz=>some gz).bind fun Xh=>(bif Xh then some true else(fP (⟨vB,vC,LB,LC,LD⟩:Tb)).bind fun ym=>(cy [4,12,18]).bind fun kj=>(cL ym kj).bind fun nX=>(some (!nX)).bind fun gA=>some gA).bind fun Xi=>(bif Xi then some true else(cQ (⟨vB,vC,LB,LC,LD⟩:Tb) 0).bind fun rN=>(cy [(-3),1,0]).bind fun rJ=>(cL rN rJ).bind fun pH=>(some (!pH)).bind fun vn=>some vn).bind fun Xj=>Tv Xj
end Go.Proofs.YtningmnklfpfjaaGreat
namespace Go.Proofs.YtningmnklfpfjaaGreat
open Go.Fw Go.Fw.Z Go.RowKit
theorem DC{x0:List Int}{x1:List Int}{r:Bool}(h:lQ x0 x1=some r):Pure Tryz.prog 45 [slc 1 (List.map bU x0),slc 1 (List.map bU x1)] (.v (.bool r)):=by
 refine ay Tryz.func45 rfl (Nat.le_of_ble_eq_true rfl) (fun cE M vs hvs=>?_)
 unfold lQ at h
 refine sr<|ag rfl<|dn<|qq<|sr<|mv rfl<|lE h fun x7 h7 h=>ln rfl h7<|mv rfl<|lE h fun x9 h9 h=>ln rfl h9<|lE h fun dB fM h=>ne _ rfl rfl (ER (p:=x7) (q:=x9) fM)<|dn ?_
 cases dB
 refine fs<|qq<|sr<|ag rfl<|dn<|bE (F h) fun e6 E9 jd=>?_
 refine aV (fun(Fa:Unit)=>AS.bG 26 [] [] []) (fun Fa=>.inl Fa=e6) ?_ (fun Fa Fb=>?_)
 refine aq ?_
 refine aW E9 (fun s6=>AS.bG 26 [(0,.sv (slc 1 (List.map bU x0))),(1,.sv (slc 1 (List.map bU x1))),(5,.sv (.v (.int .i64 s6)))] [] []) (wR []) (fun qy y6 G6 h Fe zX=>?_)
 try dsimp only
 refine qq<|sr<|mv rfl<|mv rfl<|lE h fun iu gN h=>ln rfl gN<|lE h fun eH jc h=>ls _ rfl rfl jc<|dn ?_
 cases eH
 refine cF<|aZ<|ae.x<|ae.x<|aG.x<|ae.n ?_
 obtain rfl:=O (F h)
 exact⟨(),zX _ rfl,wR []⟩
 refine cT<|aE<|ae.n<|qq<|aq<|qq<|ai mixed<|mv rfl<|mv rfl<|bE (V h) fun k8 kn h=>ix rfl rfl kn<|lr rfl rfl<|mv rfl<|mv rfl<|bE h fun jw pz h=>ix rfl rfl pz<|lr rfl rfl<|lE h fun ym qC h=>ne _ rfl rfl (ER (p:=k8) (q:=jw) qC) ?_
 refine RT.done ⟨by kernel_rfl,?_⟩
 refine ae.n ?_
 cases ym
 refine cF<|aE<|aG.n<|ae.n<|af<|mv rfl<|lE (F h) fun gy jA h=>ad _ rfl rfl jA<|ag rfl<|RT.done ?_
 obtain rfl:=O h
 exact ae.n ⟨gy,Fe _ rfl,wR []⟩
 refine cT<|sr<|ag rfl<|dn<|aj<|aG.r<|ae.r ?_
 obtain rfl:=O (V h)
 have Nw:=zX _ rfl
 subst Nw
 refine ae.r<|aG.r<|ae.r<|ae.r ?_
 obtain rfl:=O jd
 exact R1 rfl
 subst Fb
 try dsimp only
 refine ae.n<|sr<|ag rfl<|dn<|aj ?_
 obtain rfl:=O jd
 exact R1 rfl
 refine cT<|sr<|ag rfl<|dn<|aj<|ae.r ?_
 obtain rfl:=O (V h)
 exact R1 rfl
set_option maxHeartbeats 4000000 in
theorem eV{r:Bool}(h:dU=some r):Pure Tryz.prog 10 [] (.v (.bool r)):=by
 refine ay Tryz.func10 rfl (Nat.le_of_ble_eq_true rfl) (fun cE M vs hvs=>?_)
 unfold dU at h
 refine sr<|ag rfl<|dn<|sr ?_
 obtain⟨⟨aaD,aaE,aaF,aaG⟩,h6,h⟩:=bS h
 refine cl (CC h6) trivial ?_
 obtain⟨⟨vB,vC,LB,LC,LD⟩,h7,h⟩:=bS h
 refine RT.J1 .none (uF h7) [304,305,306] (by decide) rfl ⟨⟨rfl,T⟩,⟨rfl,T⟩,⟨rfl,T⟩,trivial⟩ rfl ⟨rfl,trivial⟩ T rfl rfl<|mo (s:=.cmp _ _) rfl<|RT.xM .none rfl rfl T<|RT.xM .none rfl rfl T<|an (s:=.ptr _ _) rfl<|ag rfl<|dn<|qq<|qq ?_
 refine aF h (fun WL=>AS.bG 96 [(1,.ptr 7 0),(38,.sv (.v (.bool WL)))] [(7,⟨79,[.sv (.v (.bool vB)),.sv (.v (.int .i64 vC)),.row 304,.row 305,.row 306]⟩)] [(304,TR 23 1 (eS 4 eQ) LB),(305,TR 3 1 bU LC),(306,TR 23 1 (eS 4 eQ) LD)]) (fun h=>?_) (fun O1 h=>?_)
 refine af<|mv rfl<|ne false rfl rfl (by decide)<|mv rfl<|bE h fun O4 FZ h=>RT.move (.some rfl rfl) (s:=.ptr _ _) rfl T<|RT.Oh (.some rfl rfl) rfl rfl T ?_
 obtain rfl:=O (F FZ)
 refine pF rfl<|mv rfl<|bE h fun afI xW h=>RT.move (.some rfl rfl) (s:=.ptr _ _) rfl T<|bE (F xW) fun eD ij xW=>RT.jk (.some rfl rfl) (FV ij) 7 [304,305,306] rfl ⟨rfl,rfl,rfl,trivial⟩ (by decide) rfl rfl (.cons rfl (.nil)) T<|RT.eF (l:=[2,3,4]) (e:=bU) (.some rfl rfl) (.one rfl (.one rfl (.one rfl (.nil)))) T rfl rfl rfl rfl rfl rfl<|bE xW fun gV l8 xW=>gc (DC l8) ⟨rfl,rfl,trivial⟩<|lE xW fun gz mH xW=>LZ rfl _ mH ?_
 obtain rfl:=O xW
 refine pF rfl<|mv rfl<|bE h fun afJ DD h=>?_
 cases gz
 refine RT.move (.some rfl rfl) (s:=.ptr _ _) rfl T<|bE (F DD) fun ym qC DD=>RT.jk (.some rfl rfl) (wW qC) 7 [304,305,306] rfl ⟨rfl,rfl,rfl,trivial⟩ (by decide) rfl rfl (.cons rfl (.nil)) T<|RT.eF (l:=[4,12,18]) (e:=bU) (.some rfl rfl) (.one rfl (.one rfl (.one rfl (.nil)))) T rfl rfl rfl rfl rfl rfl<|bE DD fun kj og DD=>gc (dz og) ⟨rfl,trivial⟩<|bE DD fun nX tR DD=>gc (fC tR) ⟨rfl,rfl,trivial⟩<|lE DD fun gA iP DD=>LZ rfl _ iP ?_
 obtain rfl:=O DD
 refine pF rfl<|mv rfl<|bE h fun afK DE h=>?_
 cases gA
 refine RT.move (.some rfl rfl) (s:=.ptr _ _) rfl T<|bE (F DE) fun rN rT DE=>RT.jk (.some rfl rfl) (wX rT) 7 [304,305,306] rfl ⟨rfl,rfl,rfl,trivial⟩ (by decide) rfl rfl (.cons rfl (.cons rfl (.nil))) T<|RT.eF (l:=[(-3),1,0]) (e:=bU) (.some rfl rfl) (.one rfl (.one rfl (.one rfl (.nil)))) T rfl rfl rfl rfl rfl rfl<|bE DE fun rJ yM DE=>gc (dz yM) ⟨rfl,trivial⟩<|bE DE fun pH pA DE=>gc (fC pA) ⟨rfl,rfl,trivial⟩<|lE DE fun vn yP DE=>?_
 refine LZ rfl _ yP ?_
 obtain rfl:=O DE
 exact pF rfl<|dn<|⟨vn,h,wR []⟩
 obtain rfl:=O (V DE)
 exact ww<|ww<|ww<|ww<|ww<|ww<|pT rfl<|dn<|⟨true,h,wR []⟩
 obtain rfl:=O (V DD)
 refine ww<|ww<|ww<|ww<|ww<|ww<|pT rfl<|mv rfl<|bE h fun afL afM h=>?_
 obtain rfl:=O (V afM)
 exact ww<|ww<|ww<|ww<|ww<|ww<|pT rfl<|dn<|⟨true,h,wR []⟩
 try dsimp only
 refine ae.n ?_
 cases O1
 refine fs<|sr<|mo (s:=.ptr _ _) rfl ?_
 obtain⟨⟨kg,Yr,Qd,Ys⟩,mQ,h⟩:=bS (F h)
 refine RT.JY .none (gQ mQ) 7 [304,305,306] [310,311,312] rfl ⟨rfl,rfl,rfl,trivial⟩ (by decide) (by decide) rfl ⟨⟨rfl,T⟩,⟨rfl,T⟩,⟨rfl,T⟩,trivial⟩ rfl rfl (.cons rfl (.cons rfl (.cons rfl (.nil)))) T<|ag rfl<|dn<|qq<|qq ?_
 refine aF h (fun SQ=>AS.bG 96 [(1,.ptr 7 0),(62,.sv (.v (.bool SQ)))] [(7,⟨79,[.sv (.v (.bool vB)),.sv (.v (.int .i64 vC)),.row 310,.row 311,.row 312]⟩)] [(310,TR 23 1 (eS 4 eQ) Yr),(311,TR 3 1 bU Qd),(312,TR 23 1 (eS 4 eQ) Ys)]) (fun h=>?_) (fun Ji h=>?_)
 refine af<|mv rfl<|lE h fun rf yN h=>ne _ rfl rfl (ER (p:=kg) (q:=0) yN)<|mv rfl<|bE h fun O3 Al h=>?_
 cases rf
 refine RT.move (.some rfl rfl) (s:=.ptr _ _) rfl T<|bE (F Al) fun C0 IS Al=>RT.jk (.some rfl rfl) (wW IS) 7 [310,311,312] rfl ⟨rfl,rfl,rfl,trivial⟩ (by decide) rfl rfl (.cons rfl (.nil)) T<|RT.eF (l:=[4,6,6]) (e:=bU) (.some rfl rfl) (.one rfl (.one rfl (.one rfl (.nil)))) T rfl rfl rfl rfl rfl rfl<|bE Al fun sL vo Al=>gc (dz vo) ⟨rfl,trivial⟩<|bE Al fun rK h48 Al=>gc (fC h48) ⟨rfl,rfl,trivial⟩<|lE Al fun US QT Al=>LZ rfl _ QT ?_
 obtain rfl:=O Al
 refine pF rfl<|mv rfl<|bE h fun afN vA h=>?_
 cases US
 refine RT.move (.some rfl rfl) (s:=.ptr _ _) rfl T<|bE (F vA) fun TI QU vA=>RT.jk (.some rfl rfl) (si QU) 7 [310,311,312] rfl ⟨rfl,rfl,rfl,trivial⟩ (by decide) rfl rfl (.cons rfl (.nil)) T<|RT.eF (l:=[30,0,(-6)]) (e:=bU) (.some rfl rfl) (.one rfl (.one rfl (.one rfl (.nil)))) T rfl rfl rfl rfl rfl rfl<|bE vA fun xe IU vA=>gc (dz IU) ⟨rfl,trivial⟩<|bE vA fun EW IT vA=>gc (fC IT) ⟨rfl,rfl,trivial⟩<|lE vA fun Qa Vs vA=>LZ rfl _ Vs ?_
 obtain rfl:=O vA
 refine pF rfl<|mv rfl<|bE h fun afO HK h=>?_
 cases Qa
 refine RT.move (.some rfl rfl) (s:=.ptr _ _) rfl T<|bE (F HK) fun EX ND HK=>RT.jk (.some rfl rfl) (oT ND) 7 [310,311,312] rfl ⟨rfl,rfl,rfl,trivial⟩ (by decide) rfl rfl (.cons rfl (.nil)) T ?_
 obtain rfl:=O HK
 exact pF rfl<|dn<|⟨EX,h,wR []⟩
 obtain rfl:=O (V HK)
 exact ww<|ww<|pT rfl<|dn<|⟨true,h,wR []⟩
 obtain rfl:=O (V vA)
 refine ww<|ww<|ww<|ww<|ww<|ww<|pT rfl<|mv rfl<|bE h fun afP Ak h=>?_
 obtain rfl:=O (V Ak)
 exact ww<|ww<|pT rfl<|dn<|⟨true,h,wR []⟩
 obtain rfl:=O (V Al)
 refine ww<|ww<|ww<|ww<|ww<|ww<|pT rfl<|mv rfl<|bE h fun afQ Dz h=>?_
 obtain rfl:=O (V Dz)
 refine ww<|ww<|ww<|ww<|ww<|ww<|pT rfl<|mv rfl<|bE h fun afR HI h=>?_
 obtain rfl:=O (V HI)
 exact ww<|ww<|pT rfl<|dn<|⟨true,h,wR []⟩
 try dsimp only
 refine ae.n ?_
 cases Ji
 refine fs<|sr<|mo (s:=.ptr _ _) rfl ?_
 obtain⟨⟨L5,Yt,Yu,Yv⟩,h64,h⟩:=bS (F h)
 refine RT.JY .none (gQ h64) 7 [310,311,312] [316,317,318] rfl ⟨rfl,rfl,rfl,trivial⟩ (by decide) (by decide) rfl ⟨⟨rfl,T⟩,⟨rfl,T⟩,⟨rfl,T⟩,trivial⟩ rfl rfl (.cons rfl (.cons rfl (.cons rfl (.nil)))) T<|ag rfl<|dn<|qq ?_
 refine aF h (fun Le=>AS.bG 96 [(0,.sv (.v (.bool Le)))] [] []) (fun h=>?_) (fun TP h=>?_)
 refine af<|mv rfl<|lE h fun Il Vt h=>eq _ rfl rfl (tB (p:=L5) (q:=0) Vt)<|mv rfl<|bE h fun O2 HL h=>?_
 cases Il
 obtain rfl:=O (F HL)
 refine ww<|ww<|ww<|ww<|ww<|pF rfl<|mv rfl<|bE h fun afT Lz h=>?_
 obtain rfl:=O (F Lz)
 refine ww<|ww<|ww<|ww<|ww<|pF rfl<|mv rfl<|bE h fun afU LA h=>?_
 obtain rfl:=O (F LA)
 refine ww<|ww<|ww<|ww<|ww<|pF rfl<|mv rfl<|bE h fun afV wZ h=>?_
 obtain rfl:=O (F wZ)
 refine ww<|ww<|pF rfl<|mv rfl<|bE h fun afW DB h=>?_
 obtain rfl:=O (F DB)
 exact ww<|ww<|pF rfl<|ag rfl<|dn<|⟨false,h,wR []⟩
 refine RT.move (.some rfl rfl) (s:=.ptr _ _) rfl T<|bE (V HL) fun IL Vu HL=>RT.jk (.some rfl rfl) (wW Vu) 7 [316,317,318] rfl ⟨rfl,rfl,rfl,trivial⟩ (by decide) rfl rfl (.cons rfl (.nil)) T<|RT.eF (l:=[2,6,2]) (e:=bU) (.some rfl rfl) (.one rfl (.one rfl (.one rfl (.nil)))) T rfl rfl rfl rfl rfl rfl<|bE HL fun x71 h71 HL=>gc (dz h71) ⟨rfl,trivial⟩<|bE HL fun IN QV HL=>gc (fC QV) ⟨rfl,rfl,trivial⟩ ?_
 obtain rfl:=O HL
 refine pT rfl<|mv rfl<|bE h fun afX HM h=>?_
 cases IN
 obtain rfl:=O (F HM)
 refine ww<|ww<|ww<|ww<|ww<|pF rfl<|mv rfl<|bE h fun afY CD h=>?_
 obtain rfl:=O (F CD)
 refine ww<|ww<|ww<|ww<|ww<|pF rfl<|mv rfl<|bE h fun afZ HH h=>?_
 obtain rfl:=O (F HH)
 refine ww<|ww<|pF rfl<|mv rfl<|bE h fun af0 CE h=>?_
 obtain rfl:=O (F CE)
 exact ww<|ww<|pF rfl<|ag rfl<|dn<|⟨false,h,wR []⟩
 refine RT.move (.some rfl rfl) (s:=.ptr _ _) rfl T<|bE (V HM) fun Yw h76 HM=>RT.jk (.some rfl rfl) (sS h76) 7 [316,317,318] rfl ⟨rfl,rfl,rfl,trivial⟩ (by decide) rfl rfl (.cons rfl (.nil)) T<|RT.eF (l:=[2,6]) (e:=bU) (.some rfl rfl) (.one rfl (.one rfl (.nil))) T rfl rfl rfl rfl rfl rfl<|bE HM fun x78 h78 HM=>gc (dz h78) ⟨rfl,trivial⟩<|bE HM fun Qb VG HM=>gc (fC VG) ⟨rfl,rfl,trivial⟩ ?_
 obtain rfl:=O HM
 refine pT rfl<|mv rfl<|bE h fun af1 HN h=>?_
 cases Qb
 obtain rfl:=O (F HN)
 refine ww<|ww<|ww<|ww<|ww<|pF rfl<|mv rfl<|bE h fun af2 HF h=>?_
 obtain rfl:=O (F HF)
 refine ww<|ww<|pF rfl<|mv rfl<|bE h fun af3 HG h=>?_
 obtain rfl:=O (F HG)
 exact ww<|ww<|pF rfl<|ag rfl<|dn<|⟨false,h,wR []⟩
 refine RT.move (.some rfl rfl) (s:=.ptr _ _) rfl T<|bE (V HN) fun x83 h83 HN=>RT.jk (.some rfl rfl) (si h83) 7 [316,317,318] rfl ⟨rfl,rfl,rfl,trivial⟩ (by decide) rfl rfl (.cons rfl (.nil)) T<|RT.eF (l:=[36,(-2),(-6)]) (e:=bU) (.some rfl rfl) (.one rfl (.one rfl (.one rfl (.nil)))) T rfl rfl rfl rfl rfl rfl<|bE HN fun Yg ZB HN=>gc (dz ZB) ⟨rfl,trivial⟩<|bE HN fun M7 VH HN=>gc (fC VH) ⟨rfl,rfl,trivial⟩ ?_
 obtain rfl:=O HN
 refine pT rfl<|mv rfl<|bE h fun af5 Ro h=>?_
 cases M7
 obtain rfl:=O (F Ro)
 refine ww<|ww<|pF rfl<|mv rfl<|bE h fun af6 af7 h=>?_
 obtain rfl:=O (F af7)
 exact ww<|ww<|pF rfl<|ag rfl<|dn<|⟨false,h,wR []⟩
 refine RT.move (.some rfl rfl) (s:=.ptr _ _) rfl T<|bE (V Ro) fun UX ZD Ro=>RT.jk (.some rfl rfl) (oT ZD) 7 [316,317,318] rfl ⟨rfl,rfl,rfl,trivial⟩ (by decide) rfl rfl (.cons rfl (.nil)) T ?_
 obtain rfl:=O Ro
 refine pT rfl<|mv rfl<|bE h fun af8 Rp h=>?_
 cases UX
 obtain rfl:=O (F Rp)
 exact ww<|ww<|pF rfl<|ag rfl<|dn<|⟨false,h,wR []⟩
 refine RT.move (.some rfl rfl) (s:=.ptr _ _) rfl T<|bE (V Rp) fun x94 h94 Rp=>RT.jk (.some rfl rfl) (nM h94) 7 [316,317,318] rfl ⟨rfl,rfl,rfl,trivial⟩ (by decide) rfl rfl (.cons rfl (.nil)) T ?_
 obtain rfl:=O Rp
 exact pT rfl<|ag rfl<|dn<|⟨x94,h,wR []⟩
 try dsimp only
 refine ae.n<|aj ?_
 obtain rfl:=O h
 exact R1 rfl
 refine cT<|sr<|ag rfl<|dn<|aj<|ae.r ?_
 obtain rfl:=O (V h)
 exact R1 rfl
 refine cT<|sr<|ag rfl<|dn<|aj<|ae.r ?_
 obtain rfl:=O (V h)
 exact R1 rfl
end Go.Proofs.YtningmnklfpfjaaGreat
namespace Go.Proofs.YtningmnklfpfjaaGreat
open Go.Fw
noncomputable def oU(x0:Lr):Option (Unit):=match x0 with|⟨aA,aB,aK,aL⟩=>(gO ⟨aA,aB,aK,aL⟩).bind fun x5=>(some (!x5)).bind fun x6=>(bif x6 then some ()else(dN ⟨aA,aB,aK,aL⟩).bind fun⟨vu,vv,z9,Aa,Re⟩=>none)
noncomputable def jX(x0:Lr):Option (Bool):=match x0 with|⟨aA,aB,aK,aL⟩=>cm (fun(TQ:Bool)=>some TQ) fun L0=>(lP ⟨aA,aB,aK,aL⟩).bind fun x4=>(bif x4 then some true else(some (aK.length:Int)).bind fun x8=>(some (decide ((5:Int)<x8))).bind fun x9=>(bif x9 then(kT ⟨aA,aB,aK,aL⟩).bind fun dh=>some dh else some false).bind fun O5=>some O5).bind fun yE=>(bif yE then some true else(some (decide ((6:Int)<aA))).bind fun eD=>(bif eD then(kT ⟨aA,aB,aK,aL⟩).bind fun gz=>some gz else some false).bind fun Xk=>some Xk).bind fun FY=>L0 FY
end Go.Proofs.YtningmnklfpfjaaGreat
namespace Go.Proofs.YtningmnklfpfjaaGreat
open Go.Fw Go.Fw.Z Go.RowKit
theorem HO{x0:Lr}{r:Unit}(h:oU x0=some r):Pure Tryz.prog 12 [.agg (DO x0)] (.vG [.v (.pointer none),.v (.int .i64 1)]):=by
 obtain⟨aA,aB,aK,aL⟩:=x0
 refine ay Tryz.func12 rfl (Nat.le_of_ble_eq_true rfl) (fun cE M vs hvs=>?_)
 unfold oU at h
 refine sr<|bx rfl<|ag rfl<|ag rfl<|dn<|qq<|sr<|ld rfl rfl (.cons rfl (.cons rfl (.cons rfl (.cons rfl (.nil)))))<|bE h fun x5 h5 h=>cl (pS h5) ⟨rfl,trivial⟩<|lE h fun x6 h6 h=>nt rfl _ h6<|dn ?_
 cases x6
 refine fs<|sr<|ld rfl rfl (.cons rfl (.cons rfl (.cons rfl (.cons rfl (.nil))))) ?_
 obtain⟨⟨vu,vv,z9,Aa,Re⟩,h8,h⟩:=bS (F h)
 refine RT.Oi .none (mh h8) [304,305,306] (by decide) rfl ⟨⟨rfl,T⟩,⟨rfl,T⟩,⟨rfl,T⟩,trivial⟩ rfl ⟨rfl,trivial⟩ T rfl rfl<|an (s:=.ptr _ _) rfl<|ag rfl<|dn<|aj ?_
 cases h
 refine cT<|sr<|ag rfl<|ag rfl<|dn<|aj<|ae.r ?_
 obtain rfl:=O (V h)
 exact R2 rfl rfl
theorem vW{x0:Lr}{r:Bool}(h:jX x0=some r):Pure Tryz.prog 9 [.agg (DO x0)] (.v (.bool r)):=by
 obtain⟨aA,aB,aK,aL⟩:=x0
 refine ay Tryz.func9 rfl (Nat.le_of_ble_eq_true rfl) (fun cE M vs hvs=>?_)
 unfold jX at h
 refine sr<|bx rfl<|ag rfl<|dn<|qq ?_
 refine aF h (fun Lh=>AS.bG 24 [(2,.sv (.v (.bool Lh)))] [] []) (fun h=>?_) (fun TQ h=>?_)
 refine af<|ld rfl rfl (.cons rfl (.cons rfl (.cons rfl (.cons rfl (.nil)))))<|bE h fun x4 h4 h=>cl (Dy h4) ⟨rfl,trivial⟩<|mv rfl<|bE h fun yE ew h=>?_
 cases x4
 refine RT.fieldAddr (.some rfl rfl) rfl T rfl<|RT.sV (.some rfl rfl) rfl rfl rfl T<|lE (F ew) fun x8 h8 ew=>gn rfl h8<|lE ew fun x9 h9 ew=>gg _ rfl rfl h9<|gm rfl<|bE ew fun O5 Rr ew=>?_
 cases x9
 obtain rfl:=O (F Rr)
 refine ww<|ww<|gF rfl ?_
 obtain rfl:=O ew
 refine pF rfl<|mv rfl<|bE h fun af9 ko h=>RT.fieldAddr (.some rfl rfl) rfl T rfl<|RT.sV (.some rfl rfl) rfl rfl rfl T<|lE (F ko) fun eD ij ko=>gg _ rfl rfl ij<|gm rfl<|bE ko fun Xl vw ko=>?_
 cases eD
 obtain rfl:=O (F vw)
 refine ww<|ww<|gF rfl ?_
 obtain rfl:=O ko
 exact pF rfl<|ag rfl<|dn<|⟨false,h,wR []⟩
 refine gl rfl rfl (.cons rfl (.cons rfl (.cons rfl (.cons rfl (.nil)))))<|bE (V vw) fun gz mH vw=>gc (sj mH) ⟨rfl,trivial⟩ ?_
 obtain rfl:=O vw
 refine gT rfl ?_
 obtain rfl:=O ko
 exact pF rfl<|ag rfl<|dn<|⟨gz,h,wR []⟩
 refine gl rfl rfl (.cons rfl (.cons rfl (.cons rfl (.cons rfl (.nil)))))<|bE (V Rr) fun dh ey Rr=>gc (sj ey) ⟨rfl,trivial⟩ ?_
 obtain rfl:=O Rr
 refine gT rfl ?_
 obtain rfl:=O ew
 refine pF rfl<|mv rfl<|bE h fun aga Jj h=>?_
 cases dh
 refine RT.fieldAddr (.some rfl rfl) rfl T rfl<|RT.sV (.some rfl rfl) rfl rfl rfl T<|lE (F Jj) fun eD ij Jj=>gg _ rfl rfl ij<|gm rfl<|bE Jj fun agb jr Jj=>?_
 cases eD
 obtain rfl:=O (F jr)
 refine ww<|ww<|gF rfl ?_
 obtain rfl:=O Jj
 exact pF rfl<|ag rfl<|dn<|⟨false,h,wR []⟩
 refine gl rfl rfl (.cons rfl (.cons rfl (.cons rfl (.cons rfl (.nil)))))<|bE (V jr) fun gz mH jr=>gc (sj mH) ⟨rfl,trivial⟩ ?_
 obtain rfl:=O jr
 refine gT rfl ?_
 obtain rfl:=O Jj
 exact pF rfl<|ag rfl<|dn<|⟨gz,h,wR []⟩
 obtain rfl:=O (V Jj)
 exact ww<|ww<|ww<|ww<|wu<|wu<|ww<|pT rfl<|ag rfl<|dn<|⟨true,h,wR []⟩
 obtain rfl:=O (V ew)
 refine ww<|ww<|ww<|ww<|ww<|wu<|wu<|ww<|pT rfl<|mv rfl<|bE h fun WM uu h=>?_
 obtain rfl:=O (V uu)
 exact ww<|ww<|ww<|ww<|wu<|wu<|ww<|pT rfl<|ag rfl<|dn<|⟨true,h,wR []⟩
 try dsimp only
 refine ae.n<|aj ?_
 obtain rfl:=O h
 exact R1 rfl
end Go.Proofs.YtningmnklfpfjaaGreat
namespace Go.Proofs.YtningmnklfpfjaaGreat
open Go.Fw
noncomputable def ff(x0:Lr)(x1:List Pv)(x2:List Qr):Option (Bool):=match x0 with|⟨aA,aB,aK,aL⟩=>cm (fun(CG:Bool)=>(bif CG then(dU).bind fun jw=>some jw else(gP ⟨aA,aB,aK,aL⟩).bind fun⟨oL,oM,B5,B6,O6⟩=>cm (fun(O7:Bool)=>(bif O7 then cm (fun(TS:Bool)=>some TS) fun K18=>(bif false then none else some false).bind fun O8=>(bif O8 then(dU).bind fun ri=>some ri else some false).bind fun Xm=>K18 Xm else(bT (fun(Qe:Int×(List (List Qr))×(List Int)×(List (List Qr)))=>match Qe with|⟨vX,sn,sq,su⟩=>(show Option ((Int×(List (List Qr))×(List Int)×(List (List Qr)))⊕((List (List Qr))×(List Int)×(List (List Qr))))from(some (x1.length:Int)).bind fun sL=>(some (decide ((vX:Int)<sL))).bind fun rK=>(bif rK then(cC x1 vX).bind fun⟨Kg,TT⟩=>(cC x1 vX).bind fun⟨Ek,zJ⟩=>(aM oL oM sn sq su Kg zJ).bind fun⟨x62,l37,Im,l39⟩=>(some (IntKind.i64.wrap (vX+1))).bind fun sM=>some (.inl (sM,l37,Im,l39))else some (.inr (sn,sq,su))))) (0,B5,B6,O6)).bind fun e33=>match e33 with|⟨sw,sy,sB⟩=>(fY (⟨oL,oM,sw,sy,sB⟩:Tb)).bind fun L5=>cm (fun(Jk:Bool)=>(bif Jk then some false else cm (fun(TU:Bool)=>some TU) fun K66=>(eU (⟨oL,oM,sw,sy,sB⟩:Tb)).bind fun Yh=>(some (!Yh)).bind fun QL=>(bif QL then some true else(fK (⟨oL,oM,sw,sy,sB⟩:Tb)).bind fun x96=>(some (!x96)).bind fun UY=>some UY).bind fun O9=>(bif O9 then some true else(fJ ⟨aA,aB,aK,aL⟩ x2).bind fun Lg=>(some (!Lg)).bind fun Bo=>some Bo).bind fun Rt=>(bif Rt then some true else(lF ⟨aA,aB,aK,aL⟩ x2 L5).bind fun aaK=>(some (decide ((aaK:Int)<0))).bind fun Xn=>some Xn).bind fun Ru=>(bif Ru then some true else(cL x2 L5).bind fun Xo=>some Xo).bind fun Rv=>(bif Rv then(dU).bind fun CH=>some CH else some false).bind fun Rw=>K66 Rw)) fun K45=>(some (L5.length:Int)).bind fun Il=>(some (decide ((Il:Int)≠aA))).bind fun IL=>(bif IL then some true else(eU (⟨oL,oM,sw,sy,sB⟩:Tb)).bind fun IN=>(fJ ⟨aA,aB,aK,aL⟩ L5).bind fun x75=>(some (!(IN==x75))).bind fun Yw=>some Yw).bind fun Pa=>(bif Pa then some true else(iB (⟨oL,oM,sw,sy,sB⟩:Tb)).bind fun x80=>(lG ⟨aA,aB,aK,aL⟩ L5).bind fun x83=>(cx (-1)).bind fun⟨⟨TV,TW⟩,⟨TX,TY⟩⟩=>(kS ⟨⟨TV,TW⟩,⟨TX,TY⟩⟩ L5).bind fun M7=>(Av 64 x83 M7).bind fun L3=>(cL x80 L3).bind fun x88=>(some (!x88)).bind fun QK=>some QK).bind fun Xp=>K45 Xp)) fun K9=>(bif false then none else some false).bind fun Pb=>K9 Pb)) fun K6=>(jX ⟨aA,aB,aK,aL⟩).bind fun dh=>(bif dh then some true else(some (x1.length:Int)).bind fun dQ=>(some (decide ((12:Int)<dQ))).bind fun gy=>some gy).bind fun Pc=>(bif Pc then some true else(gI [x2]).bind fun gz=>some gz).bind fun Xq=>K6 Xq
noncomputable def fg(x0:Lr)(x1:List Pv)(x2:List Qr):Option (Bool):=match x0 with|⟨aA,aB,aK,aL⟩=>cm (fun(CG:Bool)=>(bif CG then(dU).bind fun jw=>some jw else(oU ⟨aA,aB,aK,aL⟩).bind fun _=>cm (fun(TZ:Bool)=>some TZ) fun WY=>(gO ⟨aA,aB,aK,aL⟩).bind fun rj=>(some (!rj)).bind fun kg=>(bif kg then(dU).bind fun ri=>some ri else some false).bind fun Pd=>WY Pd)) fun K6=>(jX ⟨aA,aB,aK,aL⟩).bind fun dh=>(bif dh then some true else(some (x1.length:Int)).bind fun dQ=>(some (decide ((12:Int)<dQ))).bind fun gy=>some gy).bind fun Pe=>(bif Pe then some true else(gI [x2]).bind fun gz=>some gz).bind fun Xr=>K6 Xr
noncomputable def fD(x0:Lr)(x1:List Pv)(x2:List Qr):Option (Bool):=if gO x0=some true then ff x0 x1 x2 else fg x0 x1 x2
end Go.Proofs.YtningmnklfpfjaaGreat
