/- A part of the proof: the framework, the plain functions, the followed functions, the plain laws. -/
import Derived.Test.YtdpjpoekcgigkaaGreatRows
import Derived.WalkKit
import Derived.OrdersIn
import Derived.RangeFuncLeaves
import Derived.RangeFuncCalls
import Derived.Deep.LoopGhost
import Derived.Maps.AppendAt
import Derived.KernelRfl
import Derived.RangeFuncSeq
import Derived.Lib.SliceRun
import Derived.Laws.BytesArg
import Derived.Laws.Strings
import Derived.Test.YtdpjpoekcgigkaaGreatProg
import Derived.MapKept
import Derived.Scope
import Derived.ProofKit
import Derived.OpenShut
import Derived.ShutString
import Derived.ChangeOld
import Derived.Below
import Derived.JoinedCond
import Derived.Deep.Slices
set_option linter.unusedVariables false
set_option linter.unusedSimpArgs false
set_option linter.unusedSectionVars false
namespace Go.Fw
section
open Go.RowKit
theorem Y.{u}{α:Sort u}{a:α}:a=a:=rfl
theorem aq:True:=trivial
theorem af{n m:Nat}(h:Nat.ble n m=true):n<=m:=Nat.le_of_ble_eq_true h
abbrev Mem:=Nat->Nat->Option Value
def Mem.le(M M':Mem):Prop:=∀b o v,M b o=some v->M' b o=some v
def Ki(es:Array MapEntry):Array Value:=⟨es.toList.map λe=>.tuple #[e.key,e.val]⟩
def Fact(w:World)(b o:Nat):Value->Prop
 |.tuple t=>∃es ck,w.heap[b]? =some (.map es ck)/\t=Ki es
 |.agg _=>∃c T,w.heap[b]? =some (.cells c T (0,0))
 |v=>w.cell? ⟨b,o,none⟩=some v
def Mem.dj(M:Mem)(w:World):Prop:=∀b o v,M b o=some v->Fact w b o v
theorem Fact.cell{w:World}{b o:Nat}{v:Value}(h:Fact w b o v)(hv:v.oneCell'=true):w.cell? ⟨b,o,none⟩=some v:=by
 cases v<;>first|exact h|simp[Value.oneCell']at hv
theorem Fact.of{w:World}{b o:Nat}{v:Value}(h:w.cell? ⟨b,o,none⟩=some v)(hv:v.oneCell'=true):Fact w b o v:=by
 cases v<;>first|exact h|simp[Value.oneCell']at hv
theorem Fact.lt{w:World}{b o:Nat}{v:Value}(h:Fact w b o v):b<w.heap.size:=by
 cases v<;>first|exact World.block_lt_of_cell? w _ h|(obtain⟨es,ck,h,_⟩:=h;exact(Array.getElem?_eq_some_iff.1 h).1)|(obtain⟨c,T,h⟩:=h;exact(Array.getElem?_eq_some_iff.1 h).1)
theorem Fact.same{w w':World}{b o:Nat}{v:Value}(h:Fact w b o v)(e:w'.heap[b]? =w.heap[b]?):Fact w' b o v:=by
 cases v<;>first|(show w'.cell? _=_;rw[World.cell?_of_block (w:=w) (a:=⟨b,o,none⟩) e];exact h)|(obtain⟨es,ck,h,h'⟩:=h;exact⟨es,ck,by rw[e];exact h,h'⟩)|(obtain⟨c,T,h⟩:=h;exact⟨c,T,by rw[e];exact h⟩)
theorem Fact.no{w:World}{b o:Nat}{v:Value}(h:Fact w b o v)(h1:w.cell? ⟨b,o,none⟩=none)(h2:∀es ck,w.heap[b]? ≠some (.map es ck))(h3:∀c T,w.heap[b]? ≠some (.cells c T (0,0))):False:=by
 cases v<;>first|(have h:w.cell? _=_:=h;rw[h1]at h;cases h)|(obtain⟨es,ck,h,_⟩:=h;exact h2 es ck h)|(obtain⟨c,T,h⟩:=h;exact h3 c T h)
theorem Mem.le_refl(M:Mem):M.le M:=λ_ _ _ h=>h
theorem Mem.le_trans{A B C:Mem}(h:A.le B)(k:B.le C):A.le C:=λb o v e=>k b o v (h b o v e)
structure SV where
 h:Mem->Value->Prop
 mono:∀{M M':Mem} {v:Value},M.le M'->h M v->h M' v
namespace SV
def any:SV:=⟨λ_ _=>True,λ_ h=>h⟩
def v(x:Value):SV:=⟨λ_ y=>y=x,λ_ h=>h⟩
def eu(M:Mem):List SV->List Value->Prop
 |[],[]=>True
 |s::l,x::xs=>s.h M x/\eu M l xs
 |_,_=>False
theorem eu.mono{M M':Mem}(hM:M.le M'):∀{l:List SV} {xs:List Value},eu M l xs->eu M' l xs
 |[],[],_=>trivial
 |s::_,_::_,h=>⟨s.mono hM h.1,eu.mono hM h.2⟩
 |[],_::_,h=>h.elim
 |_::_,[],h=>h.elim
theorem eu.length{M:Mem}:∀{l:List SV} {xs:List Value},eu M l xs->l.length=xs.length
 |[],[],_=>rfl
 |_::_,_::_,h=>congrArg (· +1) (eu.length h.2)
 |[],_::_,h=>h.elim
 |_::_,[],h=>h.elim
theorem eu.get{M:Mem}:∀{l:List SV} {xs:List Value} {i:Nat} {s:SV},eu M l xs->l[i]? =some s->∃x,xs[i]? =some x/\s.h M x
 |s::_,x::_,0,_,h,e=>⟨x,rfl,by cases e;exact h.1⟩
 |_::l,_::xs,_+1,_,h,e=>eu.get (l:=l) (xs:=xs) h.2 e
 |[],_,_,_,_,e=>by simp at e
 |_::_,[],_,_,h,_=>h.elim
theorem eu.append{M:Mem}:∀{l l':List SV} {xs ys:List Value},eu M l xs->eu M l' ys->eu M (l++l') (xs++ys)
 |[],_,[],_,_,h=>h
 |_::_,_,_::_,_,h,h'=>⟨h.1,eu.append h.2 h'⟩
 |[],_,_::_,_,h,_=>h.elim
 |_::_,_,[],_,h,_=>h.elim
def agg(l:List SV):SV:=⟨λM y=>∃vs:List Value,y=.agg ⟨vs⟩/\eu M l vs,λhM ⟨vs,e,h⟩=>⟨vs,e,h.mono hM⟩⟩
def uT(l:List SV):SV:=⟨λM y=>∃vs:List Value,y=.tuple ⟨vs⟩/\eu M l vs,λhM ⟨vs,e,h⟩=>⟨vs,e,h.mono hM⟩⟩
def imp(x y:SV):Prop:=∀M v,x.h M v->y.h M v
end SV
inductive oK where
 |box (i:Nat)
 |val (s:SV)
inductive Fc where
 |val (s:SV)
 |box (i:Nat)
 |row (i:Nat)
def Fc.vS(i:Nat):Fc->Bool
 |.row j=>Nat.beq j i
 |_=>false
def Fc.Ad(i:Nat):Fc->Bool
 |.box j=>Nat.beq j i
 |_=>false
inductive Hd where
 |uT
 |agg
 |bnd (g:FuncId)
 |tua
def Hd.mk:Hd->Array Value->Value
 |.uT,a=>.tuple a
 |.agg,a=>.agg a
 |.bnd g,a=>.func (.func g) a #[]
 |.tua,a=>.tuple #[.agg ⟨a.toList.dropLast⟩,a.toList.getLastD .nilIface]
inductive AV where
 |sv (s:SV)
 |ptr (i off:Nat)
 |B3 (i off len cap:Nat)
 |row (i:Nat)
 |gZ (i k:Nat)
 |me (i off len:Nat)
 |fO (g:FuncId) (js:List oK)
 |cmp (t:Hd) (js:List Fc)
abbrev ai(x:Int):AV:=.sv (.v (.int .i64 x))
abbrev aj(x:Bool):AV:=.sv (.v (.bool x))
abbrev ak:AV:=.sv (.v (.pointer none))
abbrev ay(x:Int):SV:=.v (.int .i64 x)
abbrev az(x:Bool):SV:=.v (.bool x)
structure Env where
 β:Nat->Nat
 ν:Nat->Value
 O:Nat->Prop
 M:Mem
def oK.holds(E:Env):oK->Value->Prop
 |.box i,v=>v=.pointer (some ⟨E.β i,0,none⟩)
 |.val s,v=>s.h E.M v
def wM(E:Env):List oK->List Value->Prop
 |[],[]=>True
 |c::l,x::xs=>c.holds E x/\wM E l xs
 |_,_=>False
def Fc.holds(E:Env):Fc->Value->Prop
 |.val s,v=>s.h E.M v
 |.box i,v=>v=.pointer (some ⟨E.β i,0,none⟩)
 |.row i,v=>v=E.ν i
def F3(E:Env):List Fc->List Value->Prop
 |[],[]=>True
 |c::l,x::xs=>c.holds E x/\F3 E l xs
 |_,_=>False
def AV.holds(E:Env):AV->Value->Prop
 |.sv s,v=>s.h E.M v
 |.ptr i o,v=>v=.pointer (some ⟨E.β i,o,none⟩)
 |.B3 i o l c,v=>v=.slice (some ⟨E.β i,o,none⟩) l c
 |.row i,v=>v=E.ν i
 |.gZ i k,v=>∃g,(E.ν i).ownBlock=some g/\v=.pointer (some ⟨g,k,none⟩)
 |.me i o l,v=>∃g,(E.ν i).ownBlock=some g/\∃c,v=.slice (some ⟨g,o,none⟩) l c/\l<=c
 |.fO g js,v=>∃vs:List Value,v=.func (.func g) #[] ⟨vs⟩/\wM E js vs
 |.cmp t js,v=>∃vs:List Value,v=t.mk ⟨vs⟩/\F3 E js vs
def AV.mb:AV->Nat->Prop
 |.ptr i _,j=>j=i
 |.B3 i _ _ _,j=>j=i
 |.fO _ js,j=>oK.box j∈js
 |.cmp _ js,j=>Fc.box j∈js
 |_,_=>False
def AV.mr:AV->Nat->Prop
 |.row i,j=>j=i
 |.gZ i _,j=>j=i
 |.me i _ _,j=>j=i
 |.cmp _ js,j=>Fc.row j∈js
 |_,_=>False
theorem F3.congr{E E':Env}(hM:E.M.le E'.M){js:List Fc}(hb:∀j,Fc.box j∈js->E'.β j=E.β j)(hr:∀j,Fc.row j∈js->E'.ν j=E.ν j):∀(l:List Fc) (vs:List Value),(∀c∈l,c∈js)->F3 E l vs->F3 E' l vs:=by
 intro l
 induction l with
 |nil=>intro vs _ h;cases vs with|nil=>trivial|cons _ _=>exact h.elim
 |cons c l ih=>
  intro vs hl h;cases vs with
  |nil=>exact h.elim
  |cons x xs=>
   refine⟨?_,ih xs (λc hc=>hl c (List.mem_cons_of_mem _ hc)) h.2⟩;have h1:=h.1;cases c with
   |box i=>show x=_;rw[hb i (hl _ (by simp))];exact h1
   |row i=>show x=_;rw[hr i (hl _ (by simp))];exact h1
   |val s=>exact s.mono hM h1
theorem AV.cL{E E':Env}(hM:E.M.le E'.M){x:AV}(hb:∀j,x.mb j->E'.β j=E.β j)(hr:∀j,x.mr j->E'.ν j=E.ν j){v:Value}(h:x.holds E v):x.holds E' v:=by
 cases x with
 |sv s=>exact s.mono hM h
 |ptr i o=>show v=_;rw[hb i rfl];exact h
 |B3 i o l c=>show v=_;rw[hb i rfl];exact h
 |row i=>show v=_;rw[hr i rfl];exact h
 |gZ i k=>show ∃g,_;rw[hr i rfl];exact h
 |me i o l=>show ∃g,_;rw[hr i rfl];exact h
 |fO g js=>
  obtain⟨vs,rfl,hvs⟩:=h;refine⟨vs,Y,?_⟩;have key:∀(l:List oK) (vs:List Value),(∀c∈l,c∈js)->wM E l vs->wM E' l vs:=by
   intro l
   induction l with
   |nil=>intro vs _ h;cases vs with|nil=>trivial|cons _ _=>exact h.elim
   |cons c l ih=>
    intro vs hl h;cases vs with
    |nil=>exact h.elim
    |cons x xs=>
     refine⟨?_,ih xs (λc hc=>hl c (List.mem_cons_of_mem _ hc)) h.2⟩;have h1:=h.1;cases c with
     |box i=>show x=_;rw[hb i (hl _ (by simp))];exact h1
     |val s=>exact s.mono hM h1
  exact key js vs (λ_ h=>h) hvs
 |cmp t js=>
  obtain⟨vs,rfl,hvs⟩:=h;exact⟨vs,Y,F3.congr hM hb hr js vs (λ_ h=>h) hvs⟩
def dx(E:Env):List AV->List Value->Prop
 |[],[]=>True
 |s::l,x::xs=>s.holds E x/\dx E l xs
 |_,_=>False
theorem dx.imp{E E':Env}:∀{l:List AV} {xs:List Value},(∀x∈l,∀v,x.holds E v->x.holds E' v)->dx E l xs->dx E' l xs
 |[],[],_,_=>trivial
 |s::_,_::_,hi,h=>⟨hi s (by simp) _ h.1,dx.imp (λx hx=>hi x (List.mem_cons_of_mem _ hx)) h.2⟩
 |[],_::_,_,h=>h.elim
 |_::_,[],_,h=>h.elim
theorem dx.length{E:Env}:∀{l:List AV} {xs:List Value},dx E l xs->l.length=xs.length
 |[],[],_=>rfl
 |_::_,_::_,h=>congrArg (· +1) (dx.length h.2)
 |[],_::_,h=>h.elim
 |_::_,[],h=>h.elim
theorem dx.get{E:Env}:∀{l:List AV} {xs:List Value} {i:Nat} {s:AV},dx E l xs->l[i]? =some s->∃x,xs[i]? =some x/\s.holds E x
 |s::_,x::_,0,_,h,e=>⟨x,rfl,by cases e;exact h.1⟩
 |_::l,_::xs,_+1,_,h,e=>dx.get (l:=l) (xs:=xs) h.2 e
 |[],_,_,_,_,e=>by simp at e
 |_::_,[],_,_,h,_=>h.elim
theorem dx.set{E:Env}:∀{l:List AV} {xs:List Value} {i:Nat} {s:AV} {x:Value},dx E l xs->s.holds E x->dx E (l.set i s) (xs.set i x)
 |[],[],_,_,_,_,_=>trivial
 |_::_,_::_,0,_,_,h,hs=>⟨hs,h.2⟩
 |_::l,_::xs,_+1,_,_,h,hs=>⟨h.1,dx.set (l:=l) (xs:=xs) h.2 hs⟩
 |[],_::_,_,_,_,h,_=>h.elim
 |_::_,[],_,_,_,h,_=>h.elim
theorem dx.vT{E:Env}:∀{l:List SV} {xs:List Value},SV.eu E.M l xs->dx E (l.map AV.sv) xs
 |[],[],_=>trivial
 |_::_,_::_,h=>⟨h.1,dx.vT h.2⟩
 |[],_::_,h=>h.elim
 |_::_,[],h=>h.elim
structure nC where
 T:TypeId
 cells:List AV
structure Row where
 E:TypeId
 sz:Nat
 n:Nat
 cells:List SV
inductive oI where
 |un
 |dead
 |live (R:Row)
structure AS where
 n:Nat
 t:Nat->AV
 b:Nat->Option nC
 r:Nat->oI
 g:Nat
 go:Bool
def AS.set(S:AS)(d:Nat)(x:AV):AS:={S with t:=λs=>bif Nat.beq s d then x else S.t s}
def AS.lX(S:AS)(i:Nat)(B:nC):AS:={S with b:=λj=>bif Nat.beq j i then some B else S.b j}
def AS.rC(S:AS)(i:Nat)(R:oI):AS:={S with r:=λj=>bif Nat.beq j i then R else S.r j}
def AS.cn:List (Nat×oI)->AS->AS
 |[],S=>S
 |(i,R)::l,S=>cn l (S.rC i R)
theorem cX{s d:Nat}(h:s≠d):Nat.beq s d=false:=by
 cases e:Nat.beq s d with
 |false=>rfl
 |true=>exact absurd (Nat.eq_of_beq_eq_true e) h
theorem AS.ij(S:AS)(d:Nat)(x:AV):(S.set d x).t d=x:=by simp[AS.set]
theorem AS.gj(S:AS)(d s:Nat)(x:AV)(h:s≠d):(S.set d x).t s=S.t s:=by simp[AS.set,cX h]
theorem AS.eW(S:AS)(d:Nat)(x:nC):(S.lX d x).b d=some x:=by simp[AS.lX]
theorem AS.b7(S:AS)(d s:Nat)(x:nC)(h:s≠d):(S.lX d x).b s=S.b s:=by simp[AS.lX,cX h]
theorem AS.gV(S:AS)(d:Nat)(x:oI):(S.rC d x).r d=x:=by simp[AS.rC]
theorem AS.mP(S:AS)(d s:Nat)(x:oI)(h:s≠d):(S.rC d x).r s=S.r s:=by simp[AS.rC,cX h]
structure AS.wf (S:AS):Prop where
 tb:∀s j,(S.t s).mb j->∃B,S.b j=some B
 tr:∀s j,(S.t s).mr j->S.r j≠ .un
 bb:∀i B,S.b i=some B->∀x∈B.cells,∀j,x.mb j->∃B',S.b j=some B'
 br:∀i B,S.b i=some B->∀x∈B.cells,∀j,x.mr j->S.r j≠ .un
structure Ctx where
 w0:World
 M0:Mem
 own:Nat->Prop
 sQ:Nat->Prop
 iY:Nat->Option Nat
 ec:Nat->Option Value
 ro:Option Nat
 J:Nat->Bool->(Nat->Prop)->Mem->World->Prop
 EZ:∀k,sQ k->own k
 J9:∀i v,ec i=some v->1000<=i
 jf:∀(g:Nat) (h:Bool) (O:Nat->Prop) (M M':Mem) (w w':World),J g h O M w->M.le M'->M'.dj w'->(∀b o v,M' b o=some v->M b o=some v\/((w0.heap.size<=b\/sQ b)/\¬O b))->
  (∀b,(b<w0.heap.size/\¬sQ b)\/O b->w'.heap[b]? =w.heap[b]?)->w'.os=w.os->w'.tape=w.tape->w'.output=w.output->w.heap.size<=w'.heap.size->J g h O M' w'
def kN(r:Nat):Deferred:={target:=.collected r,args:=#[]}
structure bj (C:Ctx) (S:AS) (E:Env) (a:Act) (w:World):Prop where
 wf:S.wf
 marks:∃ds:List Nat,a.defers=ds.map kN/\ds.Nodup/\∀r∈ds,C.w0.heap.size<=r/\¬E.O r/\w.heap[r]? =some (.deferred (some []))
 size:a.tmps.size=S.n
 os:w.os=C.w0.os
 tape:w.tape=C.w0.tape
 output:w.output=C.w0.output
 grown:C.w0.heap.size<=w.heap.size
 frame:∀k,k<C.w0.heap.size->¬C.own k->w.heap[k]? =C.w0.heap[k]?
 m0:C.M0.le E.M
 fe:∀b o v,E.M b o=some v->C.M0 b o=some v\/C.w0.heap.size<=b\/C.own b
 dj:E.M.dj w
 tm:∀s,(S.t s).holds E (a.tmps.getD s undef)
 bx:∀i B,S.b i=some B->(C.w0.heap.size<=E.β i\/C.sQ (E.β i))/\(∀o,E.M (E.β i) o=none)/\¬E.O (E.β i)/\∃vs:List Value,w.heap[E.β i]? =some (.cells ⟨vs⟩ B.T (0,0))/\dx E B.cells vs
 inj:∀i j B B',S.b i=some B->S.b j=some B'->E.β i=E.β j->i=j
 rx:∀i R,S.r i=.live R->(∃vs:List Value,w.ownsRow 0 R.E R.sz (E.ν i) R.n vs/\SV.eu E.M R.cells vs)/\
  ∀g,(E.ν i).ownBlock=some g->(C.w0.heap.size<=g\/C.sQ g)/\(∀o,E.M g o=none)/\¬E.O g/\∀j B,S.b j=some B->E.β j≠g
 fW:∀i j R R',S.r i=.live R->S.r j=.live R'->∀g,(E.ν i).ownBlock=some g->(E.ν j).ownBlock=some g->i=j
 iY:∀i b,C.iY i=some b->E.β i=b
 ec:∀i v,C.ec i=some v->E.ν i=v
 mg:∀b,E.O b->b<w.heap.size/\(∀o,E.M b o=none)/\(C.own b\/C.w0.heap.size<=b)
 jj:C.J S.g S.go E.O E.M w
def AS.holds(C:Ctx)(S:AS)(a:Act)(w:World):Prop:=∃E,bj C S E a w
def AS.ev(S:AS):Operand->AV
 |.tmp t=>S.t t
 |.const x=>.sv (.v x)
 |.global g=>.sv (.v (.pointer (some ⟨g,0,none⟩)))
 |.func f=>.sv (.v (.func (.func f) #[] #[]))
def aZ:Operand->List Nat
 |.tmp t=>[t]
 |_=>[]
theorem bj.ev{C:Ctx}{S:AS}{E:Env}{a:Act}{w:World}(h:bj C S E a w)(x:Operand):(S.ev x).holds E (a.eval x):=by
 cases x with
 |tmp t=>exact h.tm t
 |const x=>exact rfl
 |global g=>exact rfl
 |func f=>exact rfl
theorem bt{S S':AS}{x:Operand}{rs:List Nat}(hk:∀s∈aZ x,s∈rs)(h:∀s∈rs,S'.t s=S.t s):S'.ev x=S.ev x:=by
 cases x with
 |tmp t=>exact h t (hk t (by simp[aZ]))
 |_=>rfl
abbrev Fr(ro:Option Nat):Fence:={fn:=λ_=>True,depth:=none,alive:=false,round:=ro}
theorem k8{ro:Option Nat}{n:Nat}{P:Program}{f:FuncId}{args:Array Value}{w:World}{R:Ending->World->Prop}(h:Calls P f args w R):CallsIn (Fr ro) n P f args w R:=by
 have h1:CallsIn Fence.wide n P f args w R:=callsIn_wide.2 h;cases ro with
 |none=>exact h1
 |some l=>exact h1.inRound l
def Pure(P:Program)(f:FuncId)(args:List SV)(r:SV):Prop:=
 ∀(M:Mem) (w:World) (vs:List Value),M.dj w->SV.eu M args vs->
  Calls P f ⟨vs⟩ w λe w'=>∃v M',e=.returned v/\M.le M'/\(∀b o x,M' b o=some x->M b o=some x\/w.heap.size<=b)/\M'.dj w'/\r.h M' v/\Below w.heap.size w w'
theorem lY{M:Mem}{w:World}(h:M.dj w){b o:Nat}{v:Value}(e:M b o=some v):b<w.heap.size:=(h b o v e).lt
theorem dH{M:Mem}{w w':World}(h:M.dj w)(hs:∀b,(∃o v,M b o=some v)->w'.heap[b]? =w.heap[b]?):M.dj w':=λb o v e=>(h b o v e).same (hs b ⟨o,v,e⟩)
structure qT where
 sl:Option (Nat×AV)
 bx:List (Nat×nC)
 rw:List (Nat×oI)
def AS.kG:List (Nat×nC)->AS->AS
 |[],S=>S
 |(i,B)::l,S=>kG l (S.lX i B)
def AS.app(S:AS)(e:qT):AS:=
 match e.sl with
 |some (d,x)=>(AS.cn e.rw (AS.kG e.bx S)).set d x
 |none=>AS.cn e.rw (AS.kG e.bx S)
def wT(e:qT)(s:Nat):Option AV:=match e.sl with|some (d,x)=>if s=d then some x else none|none=>none
def gp:List (Nat×oI)->Nat->Option oI
 |[],_=>none
 |(i,R)::l,s=>match gp l s with|some x=>some x|none=>if s=i then some R else none
def pW:List (Nat×nC)->Nat->Option (Option nC)
 |[],_=>none
 |(i,R)::l,s=>match pW l s with|some x=>some x|none=>if s=i then some (some R)else none
theorem iO:∀(l:List (Nat×oI)) (S:AS),(AS.cn l S).n=S.n/\(AS.cn l S).t=S.t/\(AS.cn l S).b=S.b/\(AS.cn l S).g=S.g/\(AS.cn l S).go=S.go
 |[],_=>⟨Y,Y,Y,Y,Y⟩
 |(_,_)::l,_=>iO l _
theorem nD:∀(l:List (Nat×nC)) (S:AS),(AS.kG l S).n=S.n/\(AS.kG l S).t=S.t/\(AS.kG l S).r=S.r/\(AS.kG l S).g=S.g/\(AS.kG l S).go=S.go
 |[],_=>⟨Y,Y,Y,Y,Y⟩
 |(_,_)::l,_=>nD l _
theorem nE:∀(l:List (Nat×oI)) (S:AS) (s:Nat),(AS.cn l S).r s=(gp l s).getD (S.r s)
 |[],_,_=>rfl
 |(i,R)::l,S,s=>by
  rw[AS.cn,nE l,gp];cases gp l s with
  |some x=>rfl
  |none=>
   by_cases h:s=i
   ·subst h;simp[AS.gV]
   simp[AS.mP _ _ _ _ h,h]
theorem AP:∀(l:List (Nat×nC)) (S:AS) (s:Nat),(AS.kG l S).b s=(pW l s).getD (S.b s)
 |[],_,_=>rfl
 |(i,R)::l,S,s=>by
  rw[AS.kG,AP l,pW];cases pW l s with
  |some x=>rfl
  |none=>
   by_cases h:s=i
   ·subst h;simp[AS.eW]
   simp[AS.b7 _ _ _ _ h,h]
theorem AS.Mi(S:AS)(e:qT):(S.app e).n=S.n:=by
 obtain⟨_|⟨d,x⟩,bl,l⟩:=e<;>exact(iO l _).1.trans (nD bl S).1
theorem AS.E4(S:AS)(e:qT):(S.app e).g=S.g/\(S.app e).go=S.go:=by
 obtain⟨_|⟨d,x⟩,bl,l⟩:=e<;>exact⟨(iO l _).2.2.2.1.trans (nD bl S).2.2.2.1,(iO l _).2.2.2.2.trans (nD bl S).2.2.2.2⟩
theorem AS.Hj(S:AS)(e:qT)(s:Nat):(S.app e).t s=(wT e s).getD (S.t s):=by
 obtain⟨_|⟨d,x⟩,bl,l⟩:=e
 ·show(AS.cn l (AS.kG bl S)).t s=S.t s;rw[(iO l _).2.1,(nD bl S).2.1]
 by_cases h:s=d
 ·subst h;simp[AS.app,AS.ij,wT]
 simp only[AS.app,AS.gj _ _ _ _ h,wT,h,if_false];rw[(iO l _).2.1,(nD bl S).2.1];rfl
theorem AS.Hl(S:AS)(e:qT)(s:Nat):(S.app e).b s=(pW e.bx s).getD (S.b s):=by
 obtain⟨_|⟨d,x⟩,bl,l⟩:=e
 ·show(AS.cn l (AS.kG bl S)).b s=_;rw[(iO l _).2.2.1,AP]
 show(AS.cn l (AS.kG bl S)).b s=_;rw[(iO l _).2.2.1,AP]
theorem AS.Ho(S:AS)(e:qT)(s:Nat):(S.app e).r s=(gp e.rw s).getD (S.r s):=by
 obtain⟨_|⟨d,x⟩,bl,l⟩:=e
 ·show(AS.cn l (AS.kG bl S)).r s=_;rw[nE,(nD bl S).2.2.1]
 show(AS.cn l (AS.kG bl S)).r s=_;rw[nE,(nD bl S).2.2.1]
theorem AS.ext'{S S':AS}(hn:S.n=S'.n)(ht:∀s,S.t s=S'.t s)(hb:∀s,S.b s=S'.b s)(hr:∀s,S.r s=S'.r s)(hg:S.g=S'.g)(hh:S.go=S'.go):S=S':=by
 cases S;cases S';simp only[AS.mk.injEq];exact⟨hn,funext ht,funext hb,funext hr,hg,hh⟩
def Oe(P:Program)(C:Ctx)(ops:Array Oper)(o:Oper)(rs rb rr:List Nat)(S:AS)(e:qT):Prop:=
 ∀S':AS,S'.n=S.n->(∀s∈rs,S'.t s=S.t s)->(∀i∈rb,S'.b i=S.b i)->(∀i∈rr,S'.r i=S.r i)->
  ∀(i:Nat) (a:Act) (w:World) (K:Act->World->Prop) (Q:Exit->Act->World->Prop),ops[i]? =some o->S'.holds C a w->(∀a' w',(S'.app e).holds C a' w'->K a' w')->wpOpIn (Fr C.ro) 0 P ops Q i K a w
def Rw(P:Program)(C:Ctx)(ops:Array Oper)(o:Oper)(S:AS)(Post:AS->Prop):Prop:=
 ∀(i:Nat) (a:Act) (w:World) (K:Act->World->Prop) (Q:Exit->Act->World->Prop),ops[i]? =some o->S.holds C a w->(∀S' a' w',Post S'->S'.holds C a' w'->K a' w')->wpOpIn (Fr C.ro) 0 P ops Q i K a w
structure Ac where
 rs:List Nat
 rb:List Nat
 rr:List Nat
 e:qT
def RunT(P:Program)(C:Ctx)(ops:Array Oper)(nd:Bool)(K:List Ac->AS->Prop):List Oper->List Ac->AS->Prop
 |[],acc,S=>K acc S
 |o::rest,acc,S=>(∃rs rb rr e,Oe P C ops o rs rb rr S e/\RunT P C ops nd K rest (⟨rs,rb,rr,e⟩::acc) (S.app e))\/
   (nd=true/\∃Post,Rw P C ops o S Post/\∀S',Post S'->RunT P C ops nd K rest [] S')
def Ok(P:Program)(C:Ctx)(c:Code)(S:AS)(Q:Exit->AS->Prop):Prop:=
 ∀a w,S.holds C a w->c.wpIn (Fr C.ro) 0 P (λe a' w'=>∃S':AS,Q e S'/\S'.holds C a' w') a w
theorem uZ{P:Program}{C:Ctx}{ops:Array Oper}{R:AS->Prop}{Q:Exit->Act->World->Prop}
  (hQ:∀S a w,R S->S.holds C a w->Q .normal a w):
  ∀(rest:List Oper) (k:Nat) (acc:List Ac) (S:AS) (a:Act) (w:World),ops.toList.drop k=rest->RunT P C ops true (λ_ S=>R S) rest acc S->S.holds C a w->wpOpsIn (Fr C.ro) 0 P ops Q (List.range' k rest.length) a w
 |[],k,acc,S,a,w,_,h,hs=>by simpa[wpOpsIn]using hQ S a w h hs
 |o::rest,k,acc,S,a,w,hd,h,hs=>by
  have hk:ops[k]? =some o:=by
   have:(ops.toList.drop k)[0]? =some o:=by rw[hd];rfl
   simpa using this
  have hd':ops.toList.drop (k+1)=rest:=by
   rw[<-List.drop_drop,hd];rfl
  rw[List.length_cons,List.range'_succ,wpOpsIn_cons];rcases h with⟨rs,rb,rr,e,ho,hr⟩|⟨_,Post,ho,hr⟩
  ·exact ho S rfl (λ_ _=>rfl) (λ_ _=>rfl) (λ_ _=>rfl) k a w _ Q hk hs (λa' w' h'=>uZ hQ rest (k+1) _ _ a' w' hd' hr h')
  exact ho k a w _ Q hk hs (λS' a' w' hp h'=>uZ hQ rest (k+1) _ _ a' w' hd' (hr S' hp) h')
theorem aW{P:Program}{C:Ctx}{id:Nat}{ops:Array Oper}{S:AS}{Q:Exit->AS->Prop}
  (h:RunT P C ops true (λ_ S=>Q .normal S) ops.toList [] S):Ok P C (.region id ops false) S Q:=λa w hs=>by
 refine wpIn_region ?_;have:=uZ (Q:=λe a' w'=>∃S':AS,Q e S'/\S'.holds C a' w') (λS a w r hs=>⟨S,r,hs⟩) ops.toList 0 [] S a w Y h hs;simpa[List.range_eq_range']using this
def B8(ws rs Ux:List Nat):Bool:=ws.any λd=>rs.contains d||Ux.contains d
def qT.ks(e:qT):List Nat:=match e.sl with|some (d,_)=>[d]|none=>[]
def qT.kb(e:qT):List Nat:=e.bx.map (·.1)
def qT.kr(e:qT):List Nat:=e.rw.map (·.1)
def Ac.sX(x y:Ac):Bool:=
 B8 x.e.ks y.rs y.e.ks||B8 y.e.ks x.rs []||B8 x.e.kb y.rb y.e.kb||B8 y.e.kb x.rb []||B8 x.e.kr y.rr y.e.kr||B8 y.e.kr x.rr []
def xj(ops:Array Oper)(acts:List Ac):Bool:=
 let b:=Region.before ops
 (acts.length==ops.size)&&
 (ops.toList.zipIdx.all λ(o,j)=>o.after.all λe=>!Region.binds .any e||decide (e.on<j))&&
 (acts.zipIdx.all λ(y,j)=>acts.zipIdx.all λ(x,i)=>!(decide (i<j))|| !(x.sX y)||(b.getD j 0).testBit i)
def Down(ops:Array Oper)(L:Nat->Bool):Prop:=∀(j:Nat) (o:Oper),ops[j]? =some o->L j=true->∀e∈o.after,Region.binds .any e=true->L e.on=true
theorem F4(acc:Array Nat)(after:List Edge)(L:Nat->Bool)(hacc:∀j i,(acc.getD j 0).testBit i=true->L j=true->L i=true)
  (hL:∀e∈after,Region.binds .any e=true->L e.on=true):∀(s i:Nat),(s.testBit i=true->L i=true)->
   (after.foldl (λs e=>if Region.binds .any e then s ||| 2^e.on ||| acc.getD e.on 0 else s) s).testBit i=true->L i=true:=by
 induction after with
 |nil=>intro s i hs h;exact hs h
 |cons e after ih=>
  intro s i hs h;rw[List.foldl_cons]at h;refine ih (λe' he'=>hL e' (List.mem_cons_of_mem _ he')) _ i ?_ h;intro hb;split at hb
  ·rename_i hbe;have hLe:=hL e (List.mem_cons_self ..) hbe;rw[Nat.testBit_or,Nat.testBit_or,Bool.or_eq_true,Bool.or_eq_true,Nat.testBit_two_pow]at hb;rcases hb with(hb|hb)|hb
   ·exact hs hb
   ·simp only[decide_eq_true_eq]at hb;exact hb▸hLe
   exact hacc _ _ hb hLe
  exact hs hb
theorem vU{ops:Array Oper}{L:Nat->Bool}(hL:Down ops L):∀j i,((Region.before ops).getD j 0).testBit i=true->L j=true->L i=true:=by
 have key:∀(l:List Oper) (k:Nat) (acc:Array Nat),acc.size=k->(∀m,l[m]? =ops[k+m]?)->
   (∀j i,(acc.getD j 0).testBit i=true->L j=true->L i=true)->
   ∀j i,((l.foldl (λacc o=>acc.push (o.after.foldl (λs e=>if Region.binds .any e then s ||| 2^e.on ||| acc.getD e.on 0 else s) 0)) acc).getD j 0).testBit i=true->L j=true->L i=true:=by
  intro l
  induction l with
  |nil=>intro k acc _ _ h;exact h
  |cons o l ih=>
   intro k acc hk hl hacc;rw[List.foldl_cons];refine ih (k+1) _ (by simp[hk]) (λm=>?_) ?_
   ·have:=hl (m+1);rw[List.getElem?_cons_succ]at this;rw[this];congr 1;omega
   intro j i h hj;by_cases hjk:j=k
   ·subst hjk;have ho:ops[j]? =some o:=by have:=hl 0;simpa using this.symm
    rw[Array.getD_eq_getD_getElem?,<-hk,Array.getElem?_push_size,Option.getD_some,<-Array.foldl_toList]at h;exact F4 acc o.after.toList L hacc (λe he hb=>hL j o ho hj e (Array.mem_toList_iff.1 he) hb) 0 i (by simp) h
   rw[Array.getD_eq_getD_getElem?,Array.getElem?_push,if_neg (by omega),<-Array.getD_eq_getD_getElem?]at h;exact hacc j i h hj
 intro j i h hj;refine key ops.toList 0 #[] Y (λm=>by simp) (by intro j i h;simp at h) j i ?_ hj;rw[Region.before,<-Array.foldl_toList]at h;exact h
def ov(S:AS)(acts:Nat->qT)(L:Nat->Bool):Nat->AS
 |0=>S
 |k+1=>if L k then(ov S acts L k).app (acts k)else ov S acts L k
theorem Of(S:AS)(acts:Nat->qT)(L:Nat->Bool):∀k,(ov S acts L k).n=S.n
 |0=>rfl
 |k+1=>by unfold ov;split<;>simp[AS.Mi,Of S acts L k]
theorem pX(S:AS)(acts:Nat->qT){L L':Nat->Bool}:∀k,(∀i,i<k->L i=L' i)->ov S acts L k=ov S acts L' k
 |0,_=>rfl
 |k+1,h=>by unfold ov;rw[h k (by omega),pX S acts k (λi hi=>h i (by omega))]
section comp
variable {α:Type}(get:AS->Nat->α)(wr:qT->Nat->Option α)(jX:∀S e s,get (S.app e) s=(wr e s).getD (get S s))
include jX
theorem Kj(S:AS)(acts:Nat->qT)(L:Nat->Bool)(s i:Nat):∀k,i<=k->(∀m,i<=m->m<k->L m=true->wr (acts m) s=none)->get (ov S acts L k) s=get (ov S acts L i) s:=by
 intro k
 induction k with
 |zero=>
      intro h _;obtain rfl:i=0:=by omega
      rfl
 |succ k ih=>
  intro h hm;by_cases hi:i=k+1
  ·subst hi;rfl
  have Vu:=ih (by omega) (λm h1 h2=>hm m h1 (by omega));rw[<-Vu];show get (if L k then(ov S acts L k).app (acts k)else ov S acts L k) s=_;split
  ·rename_i hl;rw[jX,hm k (by omega) (by omega) hl];rfl
  rfl
theorem Hp(S:AS)(acts:Nat->qT)(L L':Nat->Bool)(s:Nat):∀k,(∀m,m<k->wr (acts m) s≠none->L m=L' m)->get (ov S acts L k) s=get (ov S acts L' k) s:=by
 intro k
 induction k with
 |zero=>intro _;rfl
 |succ k ih=>
  intro hm;have Vu:=ih (λm h=>hm m (by omega));have one:∀M:Nat->Bool,get (ov S acts M (k+1)) s=if M k=true then(wr (acts k) s).getD (get (ov S acts M k) s)else get (ov S acts M k) s:=by
   intro M;show get (if M k then(ov S acts M k).app (acts k)else ov S acts M k) s=_;split
   ·rw[jX]
   rfl
  rw[one,one,Vu];cases hsl:wr (acts k) s with
  |none=>simp
  |some x=>rw[hm k (by omega) (by rw[hsl];simp)]
end comp
theorem Hq{e:qT}{s:Nat}(h:wT e s≠none):s∈e.ks:=by
 unfold wT at h;unfold qT.ks;split at h
 ·split at h
  ·subst_vars;simp
  exact absurd Y h
 exact absurd Y h
theorem u0:∀{l:List (Nat×nC)} {s:Nat},pW l s≠none->s∈l.map (·.1)
 |[],_,h=>absurd Y h
 |(i,R)::l,s,h=>by
  rw[pW]at h;cases e:pW l s with
  |some x=>exact List.mem_cons_of_mem _ (u0 (by rw[e];simp))
  |none=>
   rw[e]at h;by_cases hs:s=i
   ·subst hs;simp
   simp[hs]at h
theorem va:∀{l:List (Nat×oI)} {s:Nat},gp l s≠none->s∈l.map (·.1)
 |[],_,h=>absurd Y h
 |(i,R)::l,s,h=>by
  rw[gp]at h;cases e:gp l s with
  |some x=>exact List.mem_cons_of_mem _ (va (by rw[e];simp))
  |none=>
   rw[e]at h;by_cases hs:s=i
   ·subst hs;simp
   simp[hs]at h
theorem kO{ws rs Ux:List Nat}(h:B8 ws rs Ux=false):∀d∈ws,d∉rs/\d∉Ux:=by
 intro d hd;simp only[B8,List.any_eq_false,Bool.or_eq_true,not_or]at h;have:=h d hd;simpa using this
section drawn
variable {P:Program}{C:Ctx}{ops:Array Oper}{acts:List Ac}{S:AS}
def da(acts:List Ac)(i:Nat):qT:=((acts[i]?).map (·.e)).getD ⟨none,[],[]⟩
def Og(P:Program)(C:Ctx)(ops:Array Oper)(acts:List Ac)(S:AS):Prop:=
 ∀(i:Nat) (o:Oper) (x:Ac),ops[i]? =some o->acts[i]? =some x->Oe P C ops o x.rs x.rb x.rr (ov S (da acts) (λ_=>true) i) x.e
def Rx(n:Nat)(listed:Array Bool):Nat:=((List.range n).filter λi=>!listed.getD i true).length
theorem oa{p q:Nat->Bool}:∀(l:List Nat) (i:Nat),i∈l->(∀j,q j=true->p j=true)->p i=true->q i=false->(l.filter q).length<(l.filter p).length
 |[],_,h,_,_,_=>by simp at h
 |x::l,i,h,hpq,hp,hq=>by
  have hle:∀l:List Nat,(l.filter q).length<=(l.filter p).length:=by
   intro l
   induction l with
   |nil=>simp
   |cons y l ih=>
    rw[List.filter_cons,List.filter_cons];cases Vv:q y with
    |false=>cases hpy:p y<;>simp<;>omega
    |true=>simp[hpq y Vv];omega
  rw[List.filter_cons,List.filter_cons];rcases List.mem_cons.1 h with rfl|h'
  ·rw[hp,hq];have:=hle l;simp;omega
  have ih:=oa l i h' hpq hp hq;cases Vv:q x with
  |false=>cases hpy:p x<;>simp<;>omega
  |true=>simp[hpq x Vv];omega
theorem Oh{n i:Nat}{listed:Array Bool}(hi:i<n)(hsz:listed.size=n)(h:listed.getD i true=false):Rx n (listed.setIfInBounds i true)<Rx n listed:=by
 refine oa (List.range n) i (List.mem_range.2 hi) (λj hj=>?_) (by simp[h]) ?_
 ·rw[Bool.not_eq_true']at hj⊢;rw[Array.getD_eq_getD_getElem?,Array.getElem?_setIfInBounds]at hj;split at hj
  ·split at hj<;>simp at hj
  rw[Array.getD_eq_getD_getElem?];exact hj
 simp[Array.getD_eq_getD_getElem?,hsz,hi]
theorem zw(h:xj ops acts=true):acts.length=ops.size/\
  (∀(j:Nat) (o:Oper),ops[j]? =some o->∀e∈o.after,Region.binds .any e=true->e.on<j)/\
  (∀(i j:Nat) (x y:Ac),acts[i]? =some x->acts[j]? =some y->i<j->x.sX y=true->((Region.before ops).getD j 0).testBit i=true):=by
 simp only[xj,Bool.and_eq_true,beq_iff_eq,List.all_eq_true]at h;obtain⟨⟨h1,h2⟩,h3⟩:=h;refine⟨h1,?_,?_⟩
 ·intro j o ho e he hb;have:=h2 (o,j) (List.mem_zipIdx_iff_getElem?.2 (by simpa using ho));simp only[Array.all_eq_true_iff_forall_mem]at this;have:=this e he;simpa[hb]using this
 intro i j x y hx hy hij hc;have:=h3 (y,j) (List.mem_zipIdx_iff_getElem?.2 (by simpa using hy)) (x,i) (List.mem_zipIdx_iff_getElem?.2 (by simpa using hx));simpa[hij,hc]using this
theorem zx(hT:Og P C ops acts S)(Kk:xj ops acts=true){Q:Exit->Act->World->Prop}
  (hQ:∀a w,(ov S (da acts) (λ_=>true) ops.size).holds C a w->Q .normal a w):
  ∀(fuel:Nat) (listed:Array Bool) (a:Act) (w:World),listed.size=ops.size->Rx ops.size listed<=fuel->Down ops (λi=>listed.getD i false)->
   (ov S (da acts) (λi=>listed.getD i false) ops.size).holds C a w->wpAnyIn (Fr C.ro) 0 P .any ops Q fuel listed a w:=by
 obtain⟨hlen,Ry,Hr⟩:=zw Kk;have sY:∀(listed:Array Bool) (i:Nat),listed.size=ops.size->i<ops.size->listed.getD i true=listed.getD i false:=by
  intro listed i hs hi;rw[Array.getD_eq_getD_getElem?,Array.getD_eq_getD_getElem?];rw[Array.getElem?_eq_getElem (by omega)];rfl
 have done:∀(listed:Array Bool),listed.size=ops.size->Region.ready .any ops listed=[]->∀i,i<ops.size->listed.getD i false=true:=by
  intro listed hs hr i
  induction i using Nat.strongRecOn with
  |_ i ih=>
   intro hi;cases Q8:listed.getD i false with
   |true=>rfl
   |false=>
    exfalso;have:i∈Region.ready .any ops listed:=by
     simp only[Region.ready,List.mem_filter,List.mem_range];refine⟨hi,?_⟩;rw[sY listed i hs hi,Q8,Array.getElem?_eq_getElem hi];simp only[Bool.not_false,Bool.true_and,Option.map_some,Option.getD_some,Array.all_eq_true_iff_forall_mem];intro e he;cases hb:Region.binds .any e with
     |false=>rfl
     |true=>
      have hlt:=Ry i ops[i] (Array.getElem?_eq_getElem hi) e he hb;rw[ih e.on hlt (by omega)];rfl
    rw[hr]at this;simp at this
 intro fuel
 induction fuel with
 |zero=>
  intro listed a w hs hu hD hh;have hall:∀i,i<ops.size->listed.getD i false=true:=by
   intro i hi;cases Q8:listed.getD i false with
   |true=>rfl
   |false=>
    exfalso;have hm:i∈(List.range ops.size).filter λi=>!listed.getD i true:=by
     rw[List.mem_filter];exact⟨List.mem_range.2 hi,by rw[sY listed i hs hi,Q8];rfl⟩
    have:0<Rx ops.size listed:=List.length_pos_of_mem hm;omega
  refine⟨?_,?_⟩
  ·simp only[Region.ready,List.filter_eq_nil_iff,List.mem_range];intro i hi;rw[sY listed i hs hi,hall i hi];simp
  refine hQ a w ?_;rwa[pX S (da acts) (L:=λi=>listed.getD i false) (L':=λ_=>true) ops.size hall]at hh
 |succ fuel ih=>
  intro listed a w hs hu hD hh;refine⟨λhr=>?_,λi hi=>?_⟩
  ·refine hQ a w ?_;rwa[pX S (da acts) (L:=λi=>listed.getD i false) (L':=λ_=>true) ops.size (done listed hs hr)]at hh
  simp only[Region.ready,List.mem_filter,List.mem_range,Bool.and_eq_true,Bool.not_eq_true']at hi;obtain⟨hi,Q8,hpre⟩:=hi;have Oi:listed.getD i false=false:=by rw[<-sY listed i hs hi];exact Q8
  have ho:ops[i]? =some ops[i]:=Array.getElem?_eq_getElem hi;have Rz:∀e∈ops[i].after,Region.binds .any e=true->listed.getD e.on false=true:=by
   rw[ho]at hpre;simp only[Option.map_some,Option.getD_some,Array.all_eq_true_iff_forall_mem]at hpre;intro e he hb;have:=hpre e he;simpa[hb]using this
  have Q9:i<acts.length:=by omega
  have hx:acts[i]? =some acts[i]:=List.getElem?_eq_getElem Q9;have Vw:da acts i=acts[i].e:=by simp[da,Q9]
  have jX:∀m,(listed.setIfInBounds i true).getD m false=if m=i then true else listed.getD m false:=by
   intro m;rw[Array.getD_eq_getD_getElem?,Array.getElem?_setIfInBounds];by_cases hm:m=i
   ·subst hm;simp[hs,hi]
   rw[if_neg (by omega),if_neg hm,Array.getD_eq_getD_getElem?]
  have hD':Down ops (λm=>(listed.setIfInBounds i true).getD m false):=by
   intro j o hj hl e he hb;simp only[jX]at hl⊢;by_cases hji:j=i
   ·subst hji;have:o=ops[j]:=by rw[ho]at hj;exact(Option.some.inj hj).symm
    subst this;have:=Rz e he hb;split<;>simp_all
   rw[if_neg hji]at hl;have:=hD j o hj hl e he hb;split<;>simp_all
  have later:∀k,i<k->listed.getD k false=true->(acts[i]).sX ((acts[k]?).getD ⟨[],[],[],⟨none,[],[]⟩⟩)=false:=by
   intro k hk hlk;have hkn:k<ops.size:=by
    rcases Nat.lt_or_ge k ops.size with h|h
    ·exact h
    rw[Array.getD_eq_getD_getElem?,Array.getElem?_eq_none (by omega)]at hlk;simp at hlk
   have hka:acts[k]? =some acts[k]:=List.getElem?_eq_getElem (by omega);rw[hka,Option.getD_some];cases hc:(acts[i]).sX acts[k]with
   |false=>rfl
   |true=>
    have hb:=Hr i k _ _ hx hka hk hc;have:=vU hD k i hb hlk;simp only[Oi]at this;exact absurd this (by simp)
  have Kl:∀k,k<i->listed.getD k false=false->((acts[k]?).getD ⟨[],[],[],⟨none,[],[]⟩⟩).sX acts[i]=false:=by
   intro k hk hlk;have hka:acts[k]? =some acts[k]:=List.getElem?_eq_getElem (by omega);rw[hka,Option.getD_some];cases hc:(acts[k]).sX acts[i]with
   |false=>rfl
   |true=>
    have hb:=Hr k i _ _ hka hx hk hc;have:=vU hD' i k hb (by simp[jX]);rw[jX,if_neg (by omega),hlk]at this;exact absurd this (by simp)
  have Oj:∀k,((acts[k]?).getD ⟨[],[],[],⟨none,[],[]⟩⟩).e=da acts k:=by
   intro k;unfold da;cases acts[k]? <;>rfl
  have oL:∀{x y:Ac},x.sX y=false->(∀d∈x.e.ks,d∉y.rs/\d∉y.e.ks)/\(∀d∈y.e.ks,d∉x.rs)/\(∀d∈x.e.kb,d∉y.rb/\d∉y.e.kb)/\(∀d∈y.e.kb,d∉x.rb)/\(∀d∈x.e.kr,d∉y.rr/\d∉y.e.kr)/\(∀d∈y.e.kr,d∉x.rr):=by
   intro x y h;simp only[Ac.sX,Bool.or_eq_false_iff]at h;exact⟨kO h.1.1.1.1.1,λd hd=>(kO h.1.1.1.1.2 d hd).1,kO h.1.1.1.2,λd hd=>(kO h.1.1.2 d hd).1,kO h.1.2,λd hd=>(kO h.2 d hd).1⟩
  have look:∀{α:Type} (get:AS->Nat->α) (wr:qT->Nat->Option α) (jX:∀S e s,get (S.app e) s=(wr e s).getD (get S s)) (rk:Ac->List Nat) (wk:qT->List Nat)
    (hk:∀e s,wr e s≠none->s∈wk e) (c1:∀x y:Ac,x.sX y=false->(∀d∈wk x.e,d∉rk y)/\(∀d∈wk y.e,d∉rk x)),∀s∈rk acts[i],
    get (ov S (da acts) (λm=>listed.getD m false) ops.size) s=get (ov S (da acts) (λ_=>true) i) s:=by
   intro α get wr jX rk wk hk c1 s B4;rw[Kj get wr jX S (da acts) _ s i ops.size (by omega)]
   ·refine Hp get wr jX S (da acts) _ _ s i λm hm hw=>?_;cases G7:listed.getD m false with
    |true=>rfl
    |false=>
     have:=(c1 _ _ (Kl m hm G7)).1 s (by rw[Oj];exact hk _ _ hw);exact absurd B4 this
   intro m hm1 Ol G7;cases hw:wr (da acts m) s with
   |none=>rfl
   |some x=>
    exfalso;rcases Nat.lt_or_ge i m with h|h
    ·have:=(c1 _ _ (later m h G7)).2 s (by rw[Oj];exact hk _ _ (by rw[hw];simp));exact this B4
    obtain rfl:m=i:=by omega
    simp only[Oi]at G7;exact absurd G7 (by simp)
  refine hT i ops[i] acts[i] ho hx (ov S (da acts) (λm=>listed.getD m false) ops.size) (by rw[Of,Of]) ?_ ?_ ?_ i a w _ Q ho hh ?_
  ·exact look AS.t wT AS.Hj Ac.rs qT.ks (λ_ _ h=>Hq h) (λx y h=>⟨λd hd=>((oL h).1 d hd).1,(oL h).2.1⟩)
  ·exact look AS.b (λe=>pW e.bx) AS.Hl Ac.rb qT.kb (λ_ _ h=>u0 h) (λx y h=>⟨λd hd=>((oL h).2.2.1 d hd).1,(oL h).2.2.2.1⟩)
  ·exact look AS.r (λe=>gp e.rw) AS.Ho Ac.rr qT.kr (λ_ _ h=>va h) (λx y h=>⟨λd hd=>((oL h).2.2.2.2.1 d hd).1,(oL h).2.2.2.2.2⟩)
  intro a' w' hh';refine ih (listed.setIfInBounds i true) a' w' (by simp[hs]) ?_ hD' ?_
  ·have:=Oh hi hs Q8;omega
  have heq:ov S (da acts) (λm=>(listed.setIfInBounds i true).getD m false) ops.size=(ov S (da acts) (λm=>listed.getD m false) ops.size).app acts[i].e:=by
   have hsm:∀k,k<=i->ov S (da acts) (λm=>(listed.setIfInBounds i true).getD m false) k=ov S (da acts) (λm=>listed.getD m false) k:=λk hk=>
    pX S (da acts) k (λm hm=>by rw[jX,if_neg (by omega)])
   have step:∀k,i<k->k<=ops.size->ov S (da acts) (λm=>(listed.setIfInBounds i true).getD m false) k=(ov S (da acts) (λm=>listed.getD m false) k).app acts[i].e:=by
    intro k hk hkn
    induction k with
    |zero=>omega
    |succ k ihk=>
     by_cases hki:k=i
     ·subst hki;show(if(listed.setIfInBounds k true).getD k false then _ else _)=AS.app (if listed.getD k false then _ else _) _;rw[jX,if_pos Y,if_pos Y,Oi,hsm k (Nat.le_refl _),Vw];rfl
     have ih2:=ihk (by omega) (by omega);show(if(listed.setIfInBounds i true).getD k false then(ov S (da acts) (λm=>(listed.setIfInBounds i true).getD m false) k).app (da acts k)else ov S (da acts) (λm=>(listed.setIfInBounds i true).getD m false) k)=AS.app (if listed.getD k false then(ov S (da acts) (λm=>listed.getD m false) k).app (da acts k)else ov S (da acts) (λm=>listed.getD m false) k) _;rw[jX,if_neg hki,ih2];cases hlk:listed.getD k false with
     |false=>rfl
     |true=>
      rw[if_pos Y,if_pos rfl];have hc:=oL (later k (by omega) hlk);rw[Oj]at hc;have two:∀{α:Type} (get:AS->Nat->α) (wr:qT->Nat->Option α) (jX:∀S e s,get (S.app e) s=(wr e s).getD (get S s)) (wk:qT->List Nat) (hk:∀e s,wr e s≠none->s∈wk e)
        (c1:∀d∈wk acts[i].e,d∉wk (da acts k)) (T:AS) (s:Nat),get ((T.app acts[i].e).app (da acts k)) s=get ((T.app (da acts k)).app acts[i].e) s:=by
       intro α get wr jX wk hk c1 T s;rw[jX,jX,jX,jX];cases h1:wr acts[i].e s with
       |none=>rfl
       |some x=>
        cases h2:wr (da acts k) s with
        |none=>rfl
        |some y=>exact absurd (hk _ s (by rw[h2];simp)) (c1 s (hk _ s (by rw[h1];simp)))
      refine AS.ext' (by simp[AS.Mi]) (λs=>?_) (λs=>?_) (λs=>?_) (by simp[AS.E4]) (by simp[AS.E4])
      ·exact two AS.t wT AS.Hj qT.ks (λ_ _ h=>Hq h) (λd hd=>(hc.1 d hd).2) _ s
      ·exact two AS.b (λe=>pW e.bx) AS.Hl qT.kb (λ_ _ h=>u0 h) (λd hd=>(hc.2.2.1 d hd).2) _ s
      exact two AS.r (λe=>gp e.rw) AS.Ho qT.kr (λ_ _ h=>va h) (λd hd=>(hc.2.2.2.2.1 d hd).2) _ s
   exact step ops.size hi (Nat.le_refl _)
  rw[heq];exact hh'
end drawn
theorem AQ(S:AS)(x:Ac)(xs:List Ac):∀i,ov S (da (x::xs)) (λ_=>true) (i+1)=ov (S.app x.e) (da xs) (λ_=>true) i
 |0=>rfl
 |i+1=>by
  have ih:=AQ S x xs i;show(ov S (da (x::xs)) (λ_=>true) (i+1)).app (da (x::xs) (i+1))=(ov (S.app x.e) (da xs) (λ_=>true) i).app (da xs i);rw[ih];rfl
theorem Ae{P:Program}{C:Ctx}{ops:Array Oper}{K:List Ac->AS->Prop}:∀(rest:List Oper) (acc:List Ac) (S:AS),RunT P C ops false K rest acc S->
  ∃xs:List Ac,xs.length=rest.length/\(∀(i:Nat) (o:Oper) (x:Ac),rest[i]? =some o->xs[i]? =some x->Oe P C ops o x.rs x.rb x.rr (ov S (da xs) (λ_=>true) i) x.e)/\
   K (xs.reverse++acc) (ov S (da xs) (λ_=>true) rest.length)
 |[],acc,S,h=>⟨[],Y,by simp,h⟩
 |o::rest,acc,S,h=>by
  rcases h with⟨rs,rb,rr,e,ho,hr⟩|⟨h,_⟩
  case inr=>cases h
  obtain⟨xs,hl,hxs,hK⟩:=Ae rest _ _ hr;refine⟨⟨rs,rb,rr,e⟩::xs,by simp[hl],?_,?_⟩
  ·intro i o' x hi hx;cases i with
   |zero=>simp at hi hx;subst hi;subst hx;exact ho
   |succ i=>
    rw[AQ];exact hxs i o' x (by simpa using hi) (by simpa using hx)
  rw[List.length_cons,AQ,List.reverse_cons,List.append_assoc];exact hK
theorem bj.drew{C:Ctx}{S:AS}{E:Env}{a:Act}{w:World}(h:bj C S E a w):bj C S E a w.drew:=
 ⟨h.wf,h.marks,h.size,h.os,h.tape,h.output,h.grown,h.frame,h.m0,h.fe,h.dj,h.tm,h.bx,h.inj,h.rx,h.fW,h.iY,h.ec,h.mg,
  C.jf _ _ _ _ _ _ _ h.jj (Mem.le_refl _) h.dj (λ_ _ _ e=>.inl e) (λ_ _=>rfl) rfl rfl rfl (Nat.le_refl _)⟩
theorem AS.holds.drew{C:Ctx}{S:AS}{a:Act}{w:World}(h:S.holds C a w):S.holds C a w.drew:=by
 obtain⟨E,h⟩:=h;exact⟨E,h.drew⟩
theorem aY{P:Program}{C:Ctx}{id:Nat}{ops:Array Oper}{S:AS}{Q:Exit->AS->Prop}(hm:P.follows .mixedOrders=true)
  (h:RunT P C ops false (λacc S=>xj ops acc.reverse=true/\Q .normal S) ops.toList [] S):Ok P C (.region id ops true) S Q:=λa w hs=>by
 obtain⟨xs,hl,hxs,Kk,hq⟩:=Ae _ _ _ h;rw[List.append_nil,List.reverse_reverse]at Kk;refine wpIn_region_any hm ?_;refine zx (acts:=xs) (S:=S) (λi o x ho hx=>hxs i o x (by simpa using ho) hx) Kk (λa w hh=>⟨_,hq,by simpa using hh⟩) ops.size _ a _ (by simp) ?_ ?_ ?_
 ·have:=List.length_filter_le (λi=>!(Array.replicate ops.size false).getD i true) (List.range ops.size);simpa[Rx]using this
 ·intro j o _ hj;exfalso;simp only[Array.getD_eq_getD_getElem?,Array.getElem?_replicate]at hj;split at hj<;>simp at hj
 rw[pX S (da xs) (L':=λ_=>false) ops.size (λi hi=>by rw[Array.getD_eq_getD_getElem?,Array.getElem?_replicate,if_pos hi];rfl)];have:∀k,ov S (da xs) (λ_=>false) k=S:=by
  intro k;induction k with
  |zero=>rfl
  |succ k ih=>simpa[ov]using ih
 rw[this];exact hs.drew
def aV(next:AS->Prop)(Q:Exit->AS->Prop):Exit->AS->Prop
 |.normal,S=>next S
 |e,S=>Q e S
def bD(id:Nat)(Q:Exit->AS->Prop):Exit->AS->Prop
 |.exit id',S=>if id'=id then Q .normal S else Q (.exit id') S
 |e,S=>Q e S
section control
variable {P:Program}{C:Ctx}{S:AS}{Q:Exit->AS->Prop}
theorem aV.n{next:AS->Prop}(h:next S):aV next Q .normal S:=h
theorem aV.r{next:AS->Prop}(h:Q .ret S):aV next Q .ret S:=h
theorem aV.x{next:AS->Prop}{id:Nat}(h:Q (.exit id) S):aV next Q (.exit id) S:=h
theorem bD.n{id:Nat}(h:Q .normal S):bD id Q .normal S:=h
theorem bD.r{id:Nat}(h:Q .ret S):bD id Q .ret S:=h
theorem bD.x{id:Nat}(h:Q .normal S):bD id Q (.exit id) S:=by simp only[bD,if_true];exact h
theorem bD.y{id id':Nat}(hne:id'≠id)(h:Q (.exit id') S):bD id Q (.exit id') S:=by simp only[bD,if_neg hne];exact h
theorem AR{c:Code}{Q':Exit->AS->Prop}(h:Ok P C c S Q)(hq:∀e S,Q e S->Q' e S):Ok P C c S Q':=λa w hs=>
 wpIn_mono (h a w hs) λ_ _ _ ⟨S',q,hh⟩=>⟨S',hq _ _ q,hh⟩
theorem bJ{x y:Code}(h:Ok P C x S (aV (λS'=>Ok P C y S' Q) Q)):Ok P C (.seq x y) S Q:=λa w hs=>by
 refine wpIn_seq (wpIn_mono (h a w hs) ?_);rintro e a' w' ⟨S',q,hh⟩;cases e<;>first|exact q a' w' hh|exact⟨S',q,hh⟩
theorem bu(h:Q .normal S):Ok P C .skip S Q:=λ_ _ hs=>wpIn_skip ⟨S,h,hs⟩
theorem bf(h:Q .ret S):Ok P C .ret S Q:=λ_ _ hs=>wpIn_ret ⟨S,h,hs⟩
theorem bT{id:Nat}(h:Q (.exit id) S):Ok P C (.exit id) S Q:=λ_ _ hs=>wpIn_exit ⟨S,h,hs⟩
theorem E5{c:Operand}{x y:Code}{t:Bool}(hc:S.ev c=.sv (.v (.bool t)))(ht:t=true->Ok P C x S Q)(hf:t=false->Ok P C y S Q):Ok P C (.cond c x y) S Q:=λa w hs=>by
 obtain⟨E,h⟩:=hs;have he:a.eval c=.bool t:=by have:=h.ev c;rw[hc]at this;exact this
 exact wpIn_cond_split he (λe=>ht e a w ⟨E,h⟩) (λe=>hf e a w ⟨E,h⟩)
theorem c6{c:Operand}{x y:Code}(hc:S.ev c=.sv (.v (.bool true)))(ht:Ok P C x S Q):Ok P C (.cond c x y) S Q:=E5 hc (λ_=>ht) (λh=>by cases h)
theorem fB{c:Operand}{x y:Code}(hc:S.ev c=.sv (.v (.bool false)))(hf:Ok P C y S Q):Ok P C (.cond c x y) S Q:=E5 hc (λh=>by cases h) (λ_=>hf)
theorem bg{id:Nat}{c:Code}(h:Ok P C c S (bD id Q)):Ok P C (.block id c) S Q:=λa w hs=>by
 refine wpIn_block (wpIn_mono (h a w hs) ?_);rintro e a' w' ⟨S',q,hh⟩;cases e with
 |exit id'=>
  simp only[bD,Exit.inBlock]at*;split at q<;>rename_i Mj
  ·rw[if_pos Mj];exact⟨S',q,hh⟩
  rw[if_neg Mj];exact⟨S',q,hh⟩
 |_=>exact⟨S',q,hh⟩
def rD(S S':AS):Prop:=∀(C:Ctx) (a:Act) (w:World),S.holds C a w->S'.holds C a w
theorem cg{c:Code}{S':AS}(hw:rD S S')(h:Ok P C c S' Q):Ok P C c S Q:=λa w hs=>h a w (hw C a w hs)
theorem wN{F:Fence}{n:Nat}{Q:Exit->Act->World->Prop}{a:Act}{w:World}{c:Code}(I:Nat->Act->World->Prop)(n₀:Nat)(h₀:I n₀ a w)
  (round:∀m a w,I m a w->c.wpIn F n P (Exit.then (λa' w'=>∃m',m'<m/\I m' a' w') Q) a w):(Code.loop c).wpIn F n P Q a w:=by
 refine wpIn_loop (λa w=>∃n,I n a w) (λa w=>leastOf (λn=>I n a w)) ⟨n₀,h₀⟩ ?_;intro a w hI;refine wpIn_mono (round _ a w (leastOf_spec hI).1) ?_;intro e a' w' hq;cases e with
 |normal=>
  obtain⟨n',hlt,Vx⟩:=hq;exact show(∃n,I n a' w')/\leastOf (λn=>I n a' w')<leastOf (λn=>I n a w)from⟨⟨n',Vx⟩,Nat.lt_of_le_of_lt ((leastOf_spec ⟨n',Vx⟩).2 n' Vx) hlt⟩
 |_=>exact hq
theorem AT{ι:Type}{c:Code}(I:ι->AS)(μ:ι->Nat)(x0:ι)(h0:rD S (I x0))
  (round:∀x,Ok P C c (I x) (aV (λS'=>∃y,μ y<μ x/\rD S' (I y)) Q)):Ok P C (.loop c) S Q:=λa w hs=>by
 refine wN (λn a w=>∃x,μ x=n/\(I x).holds C a w) (μ x0) ⟨x0,Y,h0 C a w hs⟩ ?_;rintro n a w ⟨x,rfl,hx⟩;refine wpIn_mono (round x a w hx) ?_;rintro e a' w' ⟨S',q,hh⟩;cases e with
 |normal=>obtain⟨y,hy,hwk⟩:=q;exact⟨μ y,hy,y,Y,hwk C a' w' hh⟩
 |_=>exact⟨S',q,hh⟩
end control
end
section
open Go.RowKit
class jY (P:Program) (T:TypeId) (k:outParam IntKind):Prop where
 h:P.underlying T=some (.int k)
class AU (P:Program) (T:TypeId):Prop where
 h:P.underlying T=some .bool
class Mk (P:Program) (T:TypeId):Prop where
 h:P.underlying T=some .string
class zy (P:Program) (T:TypeId) (n:outParam Nat):Prop where
 u:(match P.underlying T with|some (.struct _)|some (.array _ _)=>true|_=>false)=true
 s:(P.info? T).map (·.size)=some n
class pS (P:Program) (T:TypeId):Prop where
 u:(match P.underlying T with|some (.struct _)|some (.array _ _)|none=>false|_=>true)=true
 s:(P.info? T).map (·.size)=some 1
class jZ (P:Program) (T:TypeId) (z:outParam Value):Prop where
 h:(P.info? T).bind (·.zero)=some z
class ep (P:Program) (T:TypeId) (E:outParam TypeId) (n:outParam Nat):Prop where
 u:P.underlying T=some (.slice E)
 s:(P.info? E).map (·.size)=some n
class He (P:Program) (T:TypeId) (f:Nat) (off:outParam Nat) (U:outParam TypeId):Prop where
 h:(match P.underlying T with|some (.struct fs)=>(fs[f]?).map λF=>(F.offset,F.type)|_=>none)=some (off,U)
class cY (P:Program) (f:FuncId):Prop where
 h:((P.funcs[f]?).map λfn=>(fn.name== "runtime.NumGoroutine",fn.body.isNone))=some (false,false)
theorem cY.run{P:Program}{f:FuncId}[e:cY P f](args:Array Value)(w:World):(callFunc f args).run P w=.ok (.enter f args) w:=by
 have h:=e.h;cases hf:P.funcs[f]? with
 |none=>rw[hf]at h;simp at h
 |some fn=>
  rw[hf]at h;simp only[Option.map_some,Option.some.injEq,Prod.mk.injEq]at h;have h1:fn.name≠ "runtime.NumGoroutine" :=by simpa using h.1
  have h2:¬fn.body=none:=by have:=h.2;intro e;rw[e]at this;simp at this
  simp[callFunc,hf,h1,h2]
theorem zy.isAgg{P:Program}{T:TypeId}{n:Nat}[t:zy P T n](w:World):(isAgg T).run P w=.ok true w:=by
 have h:=t.u;unfold Go.isAgg underlying;cases hu:P.underlying T with
 |none=>rw[hu]at h;simp at h
 |some u=>rw[hu]at h;cases u<;>simp[hu]at h⊢
theorem zy.size{P:Program}{T:TypeId}{n:Nat}[t:zy P T n](w:World):(sizeOf T).run P w=.ok n w:=by
 have h:=t.s;unfold Go.sizeOf typeInfo;cases hi:P.info? T with
 |none=>rw[hi]at h;simp at h
 |some i=>rw[hi]at h;simp at h;simp[hi,h]
theorem pS.isAgg{P:Program}{T:TypeId}[t:pS P T](w:World):(isAgg T).run P w=.ok false w:=by
 have h:=t.u;unfold Go.isAgg underlying;cases hu:P.underlying T with
 |none=>rw[hu]at h;simp at h
 |some u=>rw[hu]at h;cases u<;>simp[hu]at h⊢
theorem pS.size{P:Program}{T:TypeId}[t:pS P T](w:World):(sizeOf T).run P w=.ok 1 w:=by
 have h:=t.s;unfold Go.sizeOf typeInfo;cases hi:P.info? T with
 |none=>rw[hi]at h;simp at h
 |some i=>rw[hi]at h;simp at h;simp[hi,h]
theorem jZ.run{P:Program}{T:TypeId}{z:Value}[t:jZ P T z](w:World):(zeroValue T).run P w=.ok z w:=by
 have h:=t.h;unfold Go.zeroValue typeInfo;cases hi:P.info? T with
 |none=>rw[hi]at h;simp at h
 |some i=>rw[hi]at h;simp at h;simp[hi,h]
theorem ep.size{P:Program}{T E:TypeId}{n:Nat}[t:ep P T E n](w:World):(sizeOf E).run P w=.ok n w:=by
 have h:=t.s;unfold Go.sizeOf typeInfo;cases hi:P.info? E with
 |none=>rw[hi]at h;simp at h
 |some i=>rw[hi]at h;simp at h;simp[hi,h]
inductive Gd (ops:Array Oper) (S:AS):Option (Nat×Bool)->List Nat->Prop
 |none:Gd ops S none []
 |some {j g:Nat} {want:Bool} (h1:(ops[j]?).bind (·.dst)=some g) (h2:S.t g=.sv (.v (.bool want))):Gd ops S (some (j,want)) [g]
theorem Gd.wanted{ops:Array Oper}{S S':AS}{gd:Option (Nat×Bool)}{rs:List Nat}(hg:Gd ops S gd rs){C:Ctx}{E:Env}{a:Act}{w:World}(h:bj C S' E a w)
  (ht:∀s∈rs,S'.t s=S.t s) {o:Oper} (ho:o.guard=gd):Region.wanted o (yielded ops a.tmps)=true:=by
 cases hg with
 |none=>simp[Region.wanted,ho]
 | @some j g want h1 h2=>
  have hv:=h.tm g;rw[ht g (by simp),h2]at hv;have hv:a.tmps.getD g undef=.bool want:=hv;have:a.tmps[g]? =Option.some (.bool want):=by
   rw[Array.getD_eq_getD_getElem?]at hv;cases e:a.tmps[g]? with
   |none=>rw[e]at hv;simp[undef]at hv
   |some x=>rw[e]at hv;simp at hv;rw[hv]
  simp[Region.wanted,ho,yielded,h1,this]
section steps
variable {P:Program}{C:Ctx}{ops:Array Oper}{S:AS}{nd:Bool}{K:List Ac->AS->Prop}{rest:List Oper}{acc:List Ac}
theorem bj.put{E:Env}{a:Act}{w:World}(h:bj C S E a w){d:Nat}{x:AV}{v:Value}(hx:x.holds E v)(hd:d<S.n)
  (hl:(∀j,x.mb j->∃B,S.b j=some B)/\(∀j,x.mr j->S.r j≠ .un)):bj C (S.set d x) E (a.put (some d) v) w where
 wf:=by
  refine⟨λs j hj=>?_,λs j hj=>?_,h.wf.bb,h.wf.br⟩
  ·by_cases e:s=d
   ·subst e;rw[AS.ij]at hj;exact hl.1 j hj
   rw[AS.gj _ _ _ _ e]at hj;exact h.wf.tb s j hj
  by_cases e:s=d
  ·subst e;rw[AS.ij]at hj;exact hl.2 j hj
  rw[AS.gj _ _ _ _ e]at hj;exact h.wf.tr s j hj
 marks:=h.marks
 size:=by simp[Act.put];exact h.size
 os:=h.os
 tape:=h.tape
 output:=h.output
 grown:=h.grown
 frame:=h.frame
 m0:=h.m0
 fe:=h.fe
 dj:=h.dj
 tm:=λs=>by
  by_cases e:s=d
  ·subst e;rw[AS.ij];have:(a.put (some s) v).tmps.getD s undef=v:=by
    simp[Act.put,Array.getD_eq_getD_getElem?,h.size,hd]
   rw[this];exact hx
  rw[AS.gj _ _ _ _ e];have:(a.put (some d) v).tmps.getD s undef=a.tmps.getD s undef:=by
   simp[Act.put,Array.getD_eq_getD_getElem?,Array.getElem?_setIfInBounds_ne (Ne.symm e)]
  rw[this];exact h.tm s
 bx:=h.bx
 inj:=h.inj
 rx:=h.rx
 fW:=h.fW
 iY:=h.iY
 ec:=h.ec
 mg:=h.mg
 jj:=h.jj
theorem ct{o:Oper}{i:Nat}{a:Act}{w:World}{L:Act->World->Prop}{Q:Exit->Act->World->Prop}(ho:ops[i]? =some o)(hg:Region.wanted o (yielded ops a.tmps)=true)(h:o.wpIn (Fr C.ro) 0 P a w L Q):wpOpIn (Fr C.ro) 0 P ops Q i L a w:=by
 simp only[wpOpIn,ho,hg,if_true];exact h
theorem cu{o:Oper}{a:Act}{w:World}{L:Act->World->Prop}{Q:Exit->Act->World->Prop}(hnd:∀c,o.op≠ .defer c){r:Result Next}(hr:(execOp a.eval o).run P w=r)(h:o.uponIn (Fr C.ro) 0 P a L Q r):o.wpIn (Fr C.ro) 0 P a w L Q:=by
 refine⟨λ_ _=>trivial,?_⟩;rw[Oper.semAt_eq _ _ _ hnd,hr];exact h
variable {gd:Option (Nat×Bool)}{rg:List Nat}{d:Nat}{ty:TypeId}{pos:String}{aft:Array Edge}{x y z:Operand}{T U:TypeId}{k:IntKind}{p q:Int}
theorem RT.skip{op:Op}{j g:Nat}{b want:Bool}(h1:(ops[j]?).bind (·.dst)=some g)(h2:S.t g=.sv (.v (.bool b)))(hb:b≠want)(hd:d<S.n)
  (next:RunT P C ops nd K rest (⟨[g],[],[],⟨some (d,.sv .any),[],[]⟩⟩::acc) (S.set d (.sv .any))):RunT P C ops nd K (⟨some d,op,ty,pos,aft,some (j,want)⟩::rest) acc S:=by
 refine .inl ⟨[g],[],[],⟨some (d,.sv .any),[],[]⟩,?_,next⟩;rintro S' hn ht _ _ i a w L Q ho ⟨E,h⟩ hL;have hv:=h.tm g;rw[ht g (by simp),h2]at hv;have hv:a.tmps.getD g undef=.bool b:=hv;have F5:a.tmps[g]? =some (.bool b):=by
  rw[Array.getD_eq_getD_getElem?]at hv;cases e:a.tmps[g]? with
  |none=>rw[e]at hv;simp[undef]at hv
  |some x=>rw[e]at hv;simp at hv;rw[hv]
 have hw:Region.wanted ⟨some d,op,ty,pos,aft,some (j,want)⟩ (yielded ops a.tmps)=false:=by
  simp[Region.wanted,yielded,h1,F5,hb]
 simp only[wpOpIn,ho,hw];exact⟨λ_ _=>trivial,hL _ _ ⟨E,h.put (x:=.sv .any) (v:=undef) trivial (by omega) ⟨λ_ h=>h.elim,λ_ h=>h.elim⟩⟩⟩
theorem RT.value(hg:Gd ops S gd rg){op:Op}(rs rb rr:List Nat)(x:AV)(hd:d<S.n)(hnd:∀c,op≠ .defer c)
  (hv:∀S':AS,(∀s∈rs,S'.t s=S.t s)->(∀i∈rb,S'.b i=S.b i)->(∀i∈rr,S'.r i=S.r i)->∀E a w,bj C S' E a w->∃v,(execOp a.eval ⟨some d,op,ty,pos,aft,gd⟩).run P w=.ok (.value v) w/\x.holds E v/\(∀j,x.mb j->∃B,S'.b j=some B)/\(∀j,x.mr j->S'.r j≠ .un))
  (next:RunT P C ops nd K rest (⟨rg++rs,rb,rr,⟨some (d,x),[],[]⟩⟩::acc) (S.set d x)):RunT P C ops nd K (⟨some d,op,ty,pos,aft,gd⟩::rest) acc S:=by
 refine .inl ⟨rg++rs,rb,rr,⟨some (d,x),[],[]⟩,?_,next⟩;rintro S' hn ht hb hr i a w L Q ho ⟨E,h⟩ hL;refine ct (C:=C) ho (hg.wanted h (λs hs=>ht s (List.mem_append_left _ hs)) Y) ?_;obtain⟨v,hrun,hx,hl⟩:=hv S' (λs hs=>ht s (List.mem_append_right _ hs)) hb hr E a w h;exact cu (C:=C) hnd hrun (hL _ _ ⟨E,h.put hx (by omega) hl⟩)
theorem fC{s:SV}{S:AS}:(∀j,(AV.sv s).mb j->∃B,S.b j=some B)/\(∀j,(AV.sv s).mr j->S.r j≠ .un):=⟨λ_ h=>h.elim,λ_ h=>h.elim⟩
theorem my{S:AS}(h:S.wf){x:Operand}{v:AV}(e:S.ev x=v):(∀j,v.mb j->∃B,S.b j=some B)/\(∀j,v.mr j->S.r j≠ .un):=by
 subst e;cases x with
 |tmp t=>exact⟨h.tb t,h.tr t⟩
 |const x=>exact fC
 |global g=>exact fC
 |func f=>exact fC
theorem RT.move(hg:Gd ops S gd rg){s:AV}(hx:S.ev x=s)(hd:d<S.n)
  (next:RunT P C ops nd K rest (⟨rg++aZ x,[],[],⟨some (d,s),[],[]⟩⟩::acc) (S.set d s)):RunT P C ops nd K (⟨some d,.move x,ty,pos,aft,gd⟩::rest) acc S:=
 RT.value hg (aZ x) [] [] s hd (by intro c h;cases h) (λS' ht _ _ E a w h=>by
  have hx':S'.ev x=s:=by rw[bt (λ_ h=>h) ht,hx]
  exact⟨a.eval x,Y,by have:=h.ev x;rw[hx']at this;exact this,my h.wf hx'⟩) next
theorem RT.assign(hg:Gd ops S gd rg){s:AV}(hx:S.ev x=s)(hd:d<S.n)
  (next:RunT P C ops nd K rest (⟨rg++aZ x,[],[],⟨some (d,s),[],[]⟩⟩::acc) (S.set d s)):RunT P C ops nd K (⟨some d,.assign x,ty,pos,aft,gd⟩::rest) acc S:=
 RT.value hg (aZ x) [] [] s hd (by intro c h;cases h) (λS' ht _ _ E a w h=>by
  have hx':S'.ev x=s:=by rw[bt (λ_ h=>h) ht,hx]
  exact⟨a.eval x,Y,by have:=h.ev x;rw[hx']at this;exact this,my h.wf hx'⟩) next
theorem RT.Ml(hg:Gd ops S gd rg){s:SV}(hx:S.ev x=.sv (.v (.bool true)))(hy:S.ev y=.sv s)(hd:d<S.n)
  (next:RunT P C ops nd K rest (⟨rg++(aZ x++aZ y),[],[],⟨some (d,.sv s),[],[]⟩⟩::acc) (S.set d (.sv s))):RunT P C ops nd K (⟨some d,.pick x y z,ty,pos,aft,gd⟩::rest) acc S:=
 RT.value hg (aZ x++aZ y) [] [] (.sv s) hd (by intro c h;cases h) (λS' ht _ _ E a w h=>by
  have h1:a.eval x=.bool true:=by have h1:=h.ev x;rw[bt (λ_ h=>List.mem_append_left _ h) ht,hx]at h1;exact h1
  have h2:=h.ev y;rw[bt (λ_ h=>List.mem_append_right _ h) ht,hy]at h2;exact⟨a.eval y,by simp[execOp,h1,asBool],h2,fC⟩) next
theorem RT.Mm(hg:Gd ops S gd rg){s:SV}(hx:S.ev x=.sv (.v (.bool false)))(hz:S.ev z=.sv s)(hd:d<S.n)
  (next:RunT P C ops nd K rest (⟨rg++(aZ x++aZ z),[],[],⟨some (d,.sv s),[],[]⟩⟩::acc) (S.set d (.sv s))):RunT P C ops nd K (⟨some d,.pick x y z,ty,pos,aft,gd⟩::rest) acc S:=
 RT.value hg (aZ x++aZ z) [] [] (.sv s) hd (by intro c h;cases h) (λS' ht _ _ E a w h=>by
  have h1:a.eval x=.bool false:=by have h1:=h.ev x;rw[bt (λ_ h=>List.mem_append_left _ h) ht,hx]at h1;exact h1
  have h2:=h.ev z;rw[bt (λ_ h=>List.mem_append_right _ h) ht,hz]at h2;exact⟨a.eval z,by simp[execOp,h1,asBool],h2,fC⟩) next
theorem RT.DD(hg:Gd ops S gd rg){op:Op}(hnd:∀c,op≠ .defer c){vx vy r:Value}(hx:S.ev x=.sv (.v vx))(hy:S.ev y=.sv (.v vy))(hd:d<S.n)
  (hr:∀(ρ:Operand->Value) (w:World),ρ x=vx->ρ y=vy->(execOp ρ ⟨some d,op,ty,pos,aft,gd⟩).run P w=.ok (.value r) w)
  (next:RunT P C ops nd K rest (⟨rg++(aZ x++aZ y),[],[],⟨some (d,.sv (.v r)),[],[]⟩⟩::acc) (S.set d (.sv (.v r)))):RunT P C ops nd K (⟨some d,op,ty,pos,aft,gd⟩::rest) acc S:=
 RT.value hg (aZ x++aZ y) [] [] (.sv (.v r)) hd hnd (λS' ht _ _ E a w h=>by
  have h1:=h.ev x;rw[bt (λ_ h=>List.mem_append_left _ h) ht,hx]at h1;have h2:=h.ev y;rw[bt (λ_ h=>List.mem_append_right _ h) ht,hy]at h2;exact⟨r,hr _ w h1 h2,Y,fC⟩) next
theorem RT.Vy(hg:Gd ops S gd rg){op:Op}(hnd:∀c,op≠ .defer c){vx r:Value}(hx:S.ev x=.sv (.v vx))(hd:d<S.n)
  (hr:∀(ρ:Operand->Value) (w:World),ρ x=vx->(execOp ρ ⟨some d,op,ty,pos,aft,gd⟩).run P w=.ok (.value r) w)
  (next:RunT P C ops nd K rest (⟨rg++aZ x,[],[],⟨some (d,.sv (.v r)),[],[]⟩⟩::acc) (S.set d (.sv (.v r)))):RunT P C ops nd K (⟨some d,op,ty,pos,aft,gd⟩::rest) acc S:=
 RT.value hg (aZ x) [] [] (.sv (.v r)) hd hnd (λS' ht _ _ E a w h=>by
  have h1:=h.ev x;rw[bt (λ_ h=>h) ht,hx]at h1;exact⟨r,hr _ w h1,Y,fC⟩) next
theorem j0{op:BinOp}{ρ:Operand->Value}{w:World}{r:Value}{j:IntKind}(hx:ρ x=.int k p)(hy:ρ y=.int j q)(h:(binOp op T (.int k p) (.int j q)).run P w=.ok r w):
  (execOp ρ ⟨some d,.binOp op T x y U,ty,pos,aft,gd⟩).run P w=.ok (.value r) w:=by
 simp only[execOp,hx,hy];have he:(eqGuard op T x y (.int k p) (.int j q)).run P w=.ok () w:=by
  unfold eqGuard;cases op<;>simp
 simp[he,h]
theorem RT.cmp(hg:Gd ops S gd rg){op:BinOp}{c:Bool}(hx:S.ev x=.sv (.v (.int k p)))(hy:S.ev y=.sv (.v (.int k q)))(hd:d<S.n)
  (hc:∀w:World,(binOp op T (.int k p) (.int k q)).run P w=.ok (.bool c) w)
  (next:RunT P C ops nd K rest (⟨rg++(aZ x++aZ y),[],[],⟨some (d,.sv (.v (.bool c))),[],[]⟩⟩::acc) (S.set d (.sv (.v (.bool c))))):RunT P C ops nd K (⟨some d,.binOp op T x y U,ty,pos,aft,gd⟩::rest) acc S:=
 RT.DD hg (by intro c h;cases h) hx hy hd (λ_ w h1 h2=>j0 h1 h2 (hc w)) next
theorem RT.eql(hg:Gd ops S gd rg)(c:Bool)(hx:S.ev x=.sv (.v (.int k p)))(hy:S.ev y=.sv (.v (.int k q)))(hd:d<S.n)(hc:(p==q)=c)
  (next:RunT P C ops nd K rest (⟨rg++(aZ x++aZ y),[],[],⟨some (d,.sv (.v (.bool c))),[],[]⟩⟩::acc) (S.set d (.sv (.v (.bool c))))):RunT P C ops nd K (⟨some d,.binOp .eql T x y U,ty,pos,aft,gd⟩::rest) acc S:=
 RT.cmp hg hx hy hd (λw=>by simp[binOp,Op.intCmp,hc]) next
theorem RT.neq(hg:Gd ops S gd rg)(c:Bool)(hx:S.ev x=.sv (.v (.int k p)))(hy:S.ev y=.sv (.v (.int k q)))(hd:d<S.n)(hc:(p != q)=c)
  (next:RunT P C ops nd K rest (⟨rg++(aZ x++aZ y),[],[],⟨some (d,.sv (.v (.bool c))),[],[]⟩⟩::acc) (S.set d (.sv (.v (.bool c))))):RunT P C ops nd K (⟨some d,.binOp .neq T x y U,ty,pos,aft,gd⟩::rest) acc S:=
 RT.cmp hg hx hy hd (λw=>by simp[binOp,Op.intCmp,hc]) next
theorem RT.lss(hg:Gd ops S gd rg)(c:Bool)(hx:S.ev x=.sv (.v (.int k p)))(hy:S.ev y=.sv (.v (.int k q)))(hd:d<S.n)(hc:decide (p<q)=c)
  (next:RunT P C ops nd K rest (⟨rg++(aZ x++aZ y),[],[],⟨some (d,.sv (.v (.bool c))),[],[]⟩⟩::acc) (S.set d (.sv (.v (.bool c))))):RunT P C ops nd K (⟨some d,.binOp .lss T x y U,ty,pos,aft,gd⟩::rest) acc S:=
 RT.cmp hg hx hy hd (λw=>by simp[binOp,Op.intCmp,hc]) next
theorem RT.leq(hg:Gd ops S gd rg)(c:Bool)(hx:S.ev x=.sv (.v (.int k p)))(hy:S.ev y=.sv (.v (.int k q)))(hd:d<S.n)(hc:decide (p<=q)=c)
  (next:RunT P C ops nd K rest (⟨rg++(aZ x++aZ y),[],[],⟨some (d,.sv (.v (.bool c))),[],[]⟩⟩::acc) (S.set d (.sv (.v (.bool c))))):RunT P C ops nd K (⟨some d,.binOp .leq T x y U,ty,pos,aft,gd⟩::rest) acc S:=
 RT.cmp hg hx hy hd (λw=>by simp[binOp,Op.intCmp,hc]) next
theorem RT.gtr(hg:Gd ops S gd rg)(c:Bool)(hx:S.ev x=.sv (.v (.int k p)))(hy:S.ev y=.sv (.v (.int k q)))(hd:d<S.n)(hc:decide (q<p)=c)
  (next:RunT P C ops nd K rest (⟨rg++(aZ x++aZ y),[],[],⟨some (d,.sv (.v (.bool c))),[],[]⟩⟩::acc) (S.set d (.sv (.v (.bool c))))):RunT P C ops nd K (⟨some d,.binOp .gtr T x y U,ty,pos,aft,gd⟩::rest) acc S:=
 RT.cmp hg hx hy hd (λw=>by simp[binOp,Op.intCmp,hc]) next
theorem RT.geq(hg:Gd ops S gd rg)(c:Bool)(hx:S.ev x=.sv (.v (.int k p)))(hy:S.ev y=.sv (.v (.int k q)))(hd:d<S.n)(hc:decide (q<=p)=c)
  (next:RunT P C ops nd K rest (⟨rg++(aZ x++aZ y),[],[],⟨some (d,.sv (.v (.bool c))),[],[]⟩⟩::acc) (S.set d (.sv (.v (.bool c))))):RunT P C ops nd K (⟨some d,.binOp .geq T x y U,ty,pos,aft,gd⟩::rest) acc S:=
 RT.cmp hg hx hy hd (λw=>by simp[binOp,Op.intCmp,hc]) next
theorem RT.add(hg:Gd ops S gd rg)(c:Int)(hx:S.ev x=.sv (.v (.int k p)))(hy:S.ev y=.sv (.v (.int k q)))(hd:d<S.n)(hc:k.wrap (p+q)=c)
  (next:RunT P C ops nd K rest (⟨rg++(aZ x++aZ y),[],[],⟨some (d,.sv (.v (.int k c))),[],[]⟩⟩::acc) (S.set d (.sv (.v (.int k c))))):RunT P C ops nd K (⟨some d,.binOp .add T x y U,ty,pos,aft,gd⟩::rest) acc S:=
 RT.DD hg (by intro c h;cases h) hx hy hd (λ_ w h1 h2=>j0 h1 h2 (by simp[binOp,Op.intArith,hc])) next
theorem RT.sub(hg:Gd ops S gd rg)(c:Int)(hx:S.ev x=.sv (.v (.int k p)))(hy:S.ev y=.sv (.v (.int k q)))(hd:d<S.n)(hc:k.wrap (p-q)=c)
  (next:RunT P C ops nd K rest (⟨rg++(aZ x++aZ y),[],[],⟨some (d,.sv (.v (.int k c))),[],[]⟩⟩::acc) (S.set d (.sv (.v (.int k c))))):RunT P C ops nd K (⟨some d,.binOp .sub T x y U,ty,pos,aft,gd⟩::rest) acc S:=
 RT.DD hg (by intro c h;cases h) hx hy hd (λ_ w h1 h2=>j0 h1 h2 (by simp[binOp,Op.intArith,hc])) next
theorem RT.mul(hg:Gd ops S gd rg)(c:Int)(hx:S.ev x=.sv (.v (.int k p)))(hy:S.ev y=.sv (.v (.int k q)))(hd:d<S.n)(hc:k.wrap (p*q)=c)
  (next:RunT P C ops nd K rest (⟨rg++(aZ x++aZ y),[],[],⟨some (d,.sv (.v (.int k c))),[],[]⟩⟩::acc) (S.set d (.sv (.v (.int k c))))):RunT P C ops nd K (⟨some d,.binOp .mul T x y U,ty,pos,aft,gd⟩::rest) acc S:=
 RT.DD hg (by intro c h;cases h) hx hy hd (λ_ w h1 h2=>j0 h1 h2 (by simp[binOp,Op.intArith,hc])) next
theorem RT.quo(hg:Gd ops S gd rg)(c:Int)(hx:S.ev x=.sv (.v (.int k p)))(hy:S.ev y=.sv (.v (.int k q)))(hd:d<S.n)(h0:q≠0)(hc:k.wrap (p.tdiv q)=c)
  (next:RunT P C ops nd K rest (⟨rg++(aZ x++aZ y),[],[],⟨some (d,.sv (.v (.int k c))),[],[]⟩⟩::acc) (S.set d (.sv (.v (.int k c))))):RunT P C ops nd K (⟨some d,.binOp .quo T x y U,ty,pos,aft,gd⟩::rest) acc S:=
 RT.DD hg (by intro c h;cases h) hx hy hd (λ_ w h1 h2=>j0 h1 h2 (by simp[binOp,Op.intDiv,hc,h0])) next
theorem RT.rem(hg:Gd ops S gd rg)(c:Int)(hx:S.ev x=.sv (.v (.int k p)))(hy:S.ev y=.sv (.v (.int k q)))(hd:d<S.n)(h0:q≠0)(hc:p.tmod q=c)
  (next:RunT P C ops nd K rest (⟨rg++(aZ x++aZ y),[],[],⟨some (d,.sv (.v (.int k c))),[],[]⟩⟩::acc) (S.set d (.sv (.v (.int k c))))):RunT P C ops nd K (⟨some d,.binOp .rem T x y U,ty,pos,aft,gd⟩::rest) acc S:=
 RT.DD hg (by intro c h;cases h) hx hy hd (λ_ w h1 h2=>j0 h1 h2 (by simp[binOp,Op.intDiv,hc,h0])) next
theorem RT.and(hg:Gd ops S gd rg)(c:Int)(hx:S.ev x=.sv (.v (.int k p)))(hy:S.ev y=.sv (.v (.int k q)))(hd:d<S.n)(hc:k.wrap ((BitVec.ofInt k.bits p &&& BitVec.ofInt k.bits q).toNat)=c)
  (next:RunT P C ops nd K rest (⟨rg++(aZ x++aZ y),[],[],⟨some (d,.sv (.v (.int k c))),[],[]⟩⟩::acc) (S.set d (.sv (.v (.int k c))))):RunT P C ops nd K (⟨some d,.binOp .and T x y U,ty,pos,aft,gd⟩::rest) acc S:=
 RT.DD hg (by intro c h;cases h) hx hy hd (λ_ w h1 h2=>j0 h1 h2 (by simp only[binOp,Op.intBits,hc];simp)) next
theorem RT.or(hg:Gd ops S gd rg)(c:Int)(hx:S.ev x=.sv (.v (.int k p)))(hy:S.ev y=.sv (.v (.int k q)))(hd:d<S.n)(hc:k.wrap ((BitVec.ofInt k.bits p ||| BitVec.ofInt k.bits q).toNat)=c)
  (next:RunT P C ops nd K rest (⟨rg++(aZ x++aZ y),[],[],⟨some (d,.sv (.v (.int k c))),[],[]⟩⟩::acc) (S.set d (.sv (.v (.int k c))))):RunT P C ops nd K (⟨some d,.binOp .or T x y U,ty,pos,aft,gd⟩::rest) acc S:=
 RT.DD hg (by intro c h;cases h) hx hy hd (λ_ w h1 h2=>j0 h1 h2 (by simp only[binOp,Op.intBits,hc];simp)) next
theorem RT.xor(hg:Gd ops S gd rg)(c:Int)(hx:S.ev x=.sv (.v (.int k p)))(hy:S.ev y=.sv (.v (.int k q)))(hd:d<S.n)(hc:k.wrap ((BitVec.ofInt k.bits p ^^^ BitVec.ofInt k.bits q).toNat)=c)
  (next:RunT P C ops nd K rest (⟨rg++(aZ x++aZ y),[],[],⟨some (d,.sv (.v (.int k c))),[],[]⟩⟩::acc) (S.set d (.sv (.v (.int k c))))):RunT P C ops nd K (⟨some d,.binOp .xor T x y U,ty,pos,aft,gd⟩::rest) acc S:=
 RT.DD hg (by intro c h;cases h) hx hy hd (λ_ w h1 h2=>j0 h1 h2 (by simp only[binOp,Op.intBits,hc];simp)) next
theorem RT.shl(hg:Gd ops S gd rg)(c:Int){j:IntKind}(hx:S.ev x=.sv (.v (.int k p)))(hy:S.ev y=.sv (.v (.int j q)))(hd:d<S.n)(h0:0<=q)(hc:k.wrap (p*2^(min q.toNat k.bits))=c)
  (next:RunT P C ops nd K rest (⟨rg++(aZ x++aZ y),[],[],⟨some (d,.sv (.v (.int k c))),[],[]⟩⟩::acc) (S.set d (.sv (.v (.int k c))))):RunT P C ops nd K (⟨some d,.binOp .shl T x y U,ty,pos,aft,gd⟩::rest) acc S:=
 RT.DD hg (by intro c h;cases h) hx hy hd (λ_ w h1 h2=>j0 h1 h2 (by
  have:¬q<0:=by omega
  simp only[binOp,Op.shift,this,if_false,hc];rfl)) next
theorem RT.shr(hg:Gd ops S gd rg)(c:Int){j:IntKind}(hx:S.ev x=.sv (.v (.int k p)))(hy:S.ev y=.sv (.v (.int j q)))(hd:d<S.n)(h0:0<=q)(hc:p.fdiv (2^(min q.toNat k.bits))=c)
  (next:RunT P C ops nd K rest (⟨rg++(aZ x++aZ y),[],[],⟨some (d,.sv (.v (.int k c))),[],[]⟩⟩::acc) (S.set d (.sv (.v (.int k c))))):RunT P C ops nd K (⟨some d,.binOp .shr T x y U,ty,pos,aft,gd⟩::rest) acc S:=
 RT.DD hg (by intro c h;cases h) hx hy hd (λ_ w h1 h2=>j0 h1 h2 (by
  have:¬q<0:=by omega
  simp only[binOp,Op.shift,this,if_false,hc];rfl)) next
theorem RT.not(hg:Gd ops S gd rg){b:Bool}(hx:S.ev x=.sv (.v (.bool b)))(hd:d<S.n)(c:Bool)(hc:(!b)=c)
  (next:RunT P C ops nd K rest (⟨rg++aZ x,[],[],⟨some (d,.sv (.v (.bool c))),[],[]⟩⟩::acc) (S.set d (.sv (.v (.bool c))))):RunT P C ops nd K (⟨some d,.unOp .not T x,ty,pos,aft,gd⟩::rest) acc S:=
 RT.Vy hg (by intro c h;cases h) hx hd (λ_ w h1=>by simp[execOp,h1,Op.unary,hc]) next
theorem RT.neg(hg:Gd ops S gd rg)(c:Int)(hx:S.ev x=.sv (.v (.int k p)))(hd:d<S.n)(hc:k.wrap (0-p)=c)
  (next:RunT P C ops nd K rest (⟨rg++aZ x,[],[],⟨some (d,.sv (.v (.int k c))),[],[]⟩⟩::acc) (S.set d (.sv (.v (.int k c))))):RunT P C ops nd K (⟨some d,.unOp .neg T x,ty,pos,aft,gd⟩::rest) acc S:=
 RT.Vy hg (by intro c h;cases h) hx hd (λ_ w h1=>by simp only[execOp,h1,Op.unary,Op.intArith,hc];simp) next
theorem RT.conv(hg:Gd ops S gd rg){j:IntKind}[tT:jY P T j][tU:jY P U k](c:Int){k':IntKind}(hx:S.ev x=.sv (.v (.int k' p)))(hd:d<S.n)(hc:k.wrap p=c)
  (next:RunT P C ops nd K rest (⟨rg++aZ x,[],[],⟨some (d,.sv (.v (.int k c))),[],[]⟩⟩::acc) (S.set d (.sv (.v (.int k c))))):RunT P C ops nd K (⟨some d,.convert T U x,ty,pos,aft,gd⟩::rest) acc S:=
 RT.Vy hg (by intro c h;cases h) hx hd (λ_ w h1=>by simp[execOp,h1,convert,underlying,tT.h,tU.h,Conv.intToInt,hc]) next
theorem RT.RA(hg:Gd ops S gd rg)[tT:AU P T](e:Bool){b c:Bool}(hx:S.ev x=.sv (.v (.bool b)))(hy:S.ev y=.sv (.v (.bool c)))(hd:d<S.n)(he:(b==c)=e)
  (next:RunT P C ops nd K rest (⟨rg++(aZ x++aZ y),[],[],⟨some (d,.sv (.v (.bool e))),[],[]⟩⟩::acc) (S.set d (.sv (.v (.bool e))))):RunT P C ops nd K (⟨some d,.binOp .eql T x y U,ty,pos,aft,gd⟩::rest) acc S:=
 RT.DD hg (by intro c h;cases h) hx hy hd (λρ w h1 h2=>by
  have e1:=run_eql_bool (P:=P) w T b c tT.h;rw[he]at e1;simp[execOp,h1,h2,eqGuard,e1]) next
theorem RT.F6(hg:Gd ops S gd rg)[tT:AU P T](e:Bool){b c:Bool}(hx:S.ev x=.sv (.v (.bool b)))(hy:S.ev y=.sv (.v (.bool c)))(hd:d<S.n)(he:(!(b==c))=e)
  (next:RunT P C ops nd K rest (⟨rg++(aZ x++aZ y),[],[],⟨some (d,.sv (.v (.bool e))),[],[]⟩⟩::acc) (S.set d (.sv (.v (.bool e))))):RunT P C ops nd K (⟨some d,.binOp .neq T x y U,ty,pos,aft,gd⟩::rest) acc S:=
 RT.DD hg (by intro c h;cases h) hx hy hd (λρ w h1 h2=>by
  have e1:=run_neq_bool (P:=P) w T b c tT.h;rw[he]at e1;simp[execOp,h1,h2,eqGuard,e1]) next
end steps
end
section
open Go.RowKit
class One (s:SV):Prop where
 h:∀M v,s.h M v->v.oneCell'=true
class pN (l:List SV):Prop where
 h:∀M vs,SV.eu M l vs->∀v∈vs,v.oneCell'=true
instance:pN []:=⟨λ_ vs h=>by cases vs with|nil=>simp|cons _ _=>exact h.elim⟩
instance{s:SV}{l:List SV}[o:One s][os:pN l]:pN (s::l):=⟨λM vs h=>by
 cases vs with
 |nil=>exact h.elim
 |cons x xs=>
        intro v hv;rcases List.mem_cons.1 hv with rfl|hv
        ·exact o.h M _ h.1
        exact os.h M xs h.2 v hv⟩
instance{b:Bool}:One (.v (.bool b)):=⟨λ_ _ h=>by cases h;rfl⟩
instance{k:IntKind}{n:Int}:One (.v (.int k n)):=⟨λ_ _ h=>by cases h;rfl⟩
class Km (x:AV):Prop where
 h:∀E v,x.holds E v->v.oneCell'=true
instance{s:SV}[o:One s]:Km (.sv s):=⟨λE v h=>o.h E.M v h⟩
instance{g:FuncId}{js:List oK}:Km (.fO g js):=⟨λ_ _ h=>by obtain⟨vs,rfl,_⟩:=h;rfl⟩
theorem gW{v:Value}(h:v.oneCell'=true):v.cells=#[v]:=by cases v<;>first|rfl|simp[Value.oneCell']at h
def slc(sz:Nat)(rows:List (List SV)):SV where
 h M v:=(∃a,v=.slice a 0 0/\rows=[])\/∃b o c,v=.slice (some ⟨b,o,none⟩) rows.length c/\rows.length<=c/\rows.length<=9223372036854775807/\
  ∀(i:Nat) (row:List SV),rows[i]? =some row->row.length=sz/\∀(k:Nat) (s:SV),row[k]? =some s->∃y,M b (o+i*sz+k)=some y/\y.oneCell'=true/\s.h M y
 mono hM h:=by
  rcases h with h|⟨b,o,c,e,h1,h2,h3⟩
  ·exact .inl h
  refine .inr ⟨b,o,c,e,h1,h2,λi row hr=>⟨(h3 i row hr).1,λk s hs=>?_⟩⟩;obtain⟨y,hy,h1,hs'⟩:=(h3 i row hr).2 k s hs;exact⟨y,hM _ _ _ hy,h1,s.mono hM hs'⟩
def ref(cells:List SV):SV where
 h M v:=∃b o,v=.pointer (some ⟨b,o,none⟩)/\∀(k:Nat) (s:SV),cells[k]? =some s->∃y,M b (o+k)=some y/\y.oneCell'=true/\s.h M y
 mono hM h:=by
  obtain⟨b,o,e,h⟩:=h;refine⟨b,o,e,λk s hs=>?_⟩;obtain⟨y,hy,h1,hs'⟩:=h k s hs;exact⟨y,hM _ _ _ hy,h1,s.mono hM hs'⟩
class Kn (s:SV) (sz:outParam Nat) (rows:outParam (List (List SV))):Prop where
 h:SV.imp s (slc sz rows)
class Uy (s:SV) (n:outParam Nat):Prop where
 h:∀M v,s.h M v->∃a c,v=.slice a n c
instance{sz:Nat}{rows:List (List SV)}:Kn (slc sz rows) sz rows:=⟨λ_ _ h=>h⟩
instance{sz:Nat}{rows:List (List SV)}:Uy (slc sz rows) rows.length:=⟨λM v h=>by
 rcases h with⟨a,rfl,rfl⟩|⟨b,o,c,rfl,_⟩
 ·exact⟨a,0,rfl⟩
 exact⟨_,_,rfl⟩⟩
instance{sz:Nat}{rows:List (List SV)}:One (slc sz rows):=⟨λM v h=>by
 rcases h with⟨a,rfl,rfl⟩|⟨b,o,c,rfl,_⟩<;>rfl⟩
section steps
variable {P:Program}{C:Ctx}{ops:Array Oper}{S:AS}{nd:Bool}{K:List Ac->AS->Prop}{rest:List Oper}{acc:List Ac}
variable {gd:Option (Nat×Bool)}{rg:List Nat}{d:Nat}{ty:TypeId}{pos:String}{aft:Array Edge}{x y z:Operand}{T U E0:TypeId}
theorem oM{E:Env}{a:Act}{w:World}(h:bj C S E a w){i:Nat}{B:nC}(hi:S.b i=some B):E.β i<w.heap.size:=by
 obtain⟨_,_,_,vs,hv,_⟩:=h.bx i B hi;exact(Array.getElem?_eq_some_iff.1 hv).1
theorem mQ{E:Env}{a:Act}{w:World}(h:bj C S E a w){i:Nat}{R:Row}(hi:S.r i=.live R){g:Nat}(hg:(E.ν i).ownBlock=some g):g<w.heap.size:=by
 obtain⟨⟨vs,ho,_⟩,_⟩:=h.rx i R hi;exact(ho.lt g hg).2
theorem dy{w w':World}{base:Nat}{e:TypeId}{size:Nat}{v:Value}{n:Nat}{xs:List Value}(h:w.ownsRow base e size v n xs)(hs:∀g,v.ownBlock=some g->w'.heap[g]? =w.heap[g]?):w'.ownsRow base e size v n xs:=by
 obtain⟨h1,h2⟩:=h;refine⟨h1,?_⟩;rcases h2 with h2|⟨g,cap,cur,rfl,hb,hh,r⟩
 ·exact .inl h2
 exact .inr ⟨g,cap,cur,Y,hb,by rw[hs g rfl];exact hh,r⟩
theorem bj.Om{E:Env}{a:Act}{w:World}(h:bj C S E a w){i:Nat}(hi:S.b i=none)(hp:C.iY i=none){cells:List AV}{vs:List Value}(hc:dx E cells vs)(hl:∀x∈cells,(∀j,x.mb j->∃B,S.b j=some B)/\(∀j,x.mr j->S.r j≠ .un)):
  bj C (S.lX i ⟨T,cells⟩) {E with β:=λj=>if j=i then w.heap.size else E.β j} a (w.alloc (.cells ⟨vs⟩ T)):=by
 have ne:∀j,(∃B,S.b j=some B)->j≠i:=by rintro j ⟨B,hB⟩ rfl;rw[hi]at hB;cases hB
 have keep:∀x:AV,(∀j,x.mb j->∃B,S.b j=some B)->∀v,x.holds E v->x.holds {E with β:=λj=>if j=i then w.heap.size else E.β j} v:=λx hx v hv=>
  AV.cL (E:=E) (E':={E with β:=λj=>if j=i then w.heap.size else E.β j}) (Mem.le_refl _) (λj hj=>if_neg (ne j (hx j hj))) (λ_ _=>rfl) hv
 have pY:∀j,(∃B,S.b j=some B)->∃B,(S.lX i ⟨T,cells⟩).b j=some B:=λj hj=>by
  obtain⟨B,hB⟩:=hj;exact⟨B,by rw[AS.b7 _ _ _ _ (ne j ⟨B,hB⟩)];exact hB⟩
 have old:∀k,k<w.heap.size->(w.alloc (.cells ⟨vs⟩ T)).heap[k]? =w.heap[k]? :=λk hk=>Below.heap_alloc _ _ _ hk
 exact{
  wf:=by
   refine⟨λs j hj=>pY j (h.wf.tb s j hj),h.wf.tr,λj B hB x hx k hk=>?_,λj B hB x hx k hk=>?_⟩
   ·by_cases hj:j=i
    ·subst hj;rw[AS.eW]at hB;cases hB;exact pY k ((hl x hx).1 k hk)
    rw[AS.b7 _ _ _ _ hj]at hB;exact pY k (h.wf.bb j B hB x hx k hk)
   by_cases hj:j=i
   ·subst hj;rw[AS.eW]at hB;cases hB;exact(hl x hx).2 k hk
   rw[AS.b7 _ _ _ _ hj]at hB;exact h.wf.br j B hB x hx k hk
  marks:=by
   obtain⟨ds,h1,h2,h3⟩:=h.marks;refine⟨ds,h1,h2,λr hr=>?_⟩;obtain⟨h4,h5,h6⟩:=h3 r hr;exact⟨h4,h5,by rw[old r (Array.getElem?_eq_some_iff.1 h6).1];exact h6⟩
  size:=h.size
  os:=h.os
  tape:=h.tape
  output:=h.output
  grown:=by have:=h.grown;simp;omega
  frame:=λk hk hk'=>by rw[old k (by have:=h.grown;omega)];exact h.frame k hk hk'
  m0:=h.m0
  fe:=h.fe
  dj:=dH h.dj λb ⟨o,v,e⟩=>old b (lY h.dj e)
  tm:=λs=>keep _ (h.wf.tb s) _ (h.tm s)
  bx:=λj B hB=>by
   by_cases hj:j=i
   ·subst hj;rw[AS.eW]at hB;cases hB;refine⟨.inl (by simp;exact h.grown),λo=>?_,λho=>?_,vs,?_,hc.imp λx hx v hv=>keep x (hl x hx).1 v hv⟩
    ·simp only[if_true];cases e:E.M w.heap.size o with
     |none=>rfl
     |some v=>have:=lY h.dj e;omega
    ·simp only[if_true]at ho;have:=(h.mg _ ho).1;omega
    show(w.heap.push _)[if j=j then w.heap.size else E.β j]? =_;rw[if_pos rfl];exact Array.getElem?_push_size
   rw[AS.b7 _ _ _ _ hj]at hB;obtain⟨h1,h2,h3,vs',h4,h5⟩:=h.bx j B hB;simp only[if_neg hj];exact⟨h1,h2,h3,vs',by rw[old _ (oM h hB)];exact h4,h5.imp λx hx v hv=>keep x (h.wf.bb j B hB x hx) v hv⟩
  inj:=λj k B B' hj hk e=>by
   by_cases h1:j=i
   ·subst h1;by_cases h2:k=j
    ·exact h2.symm
    rw[AS.b7 _ _ _ _ h2]at hk;have:=oM h hk;simp only[if_true,if_neg h2]at e;omega
   rw[AS.b7 _ _ _ _ h1]at hj;by_cases h2:k=i
   ·subst h2;have:=oM h hj;simp only[if_true,if_neg h1]at e;omega
   rw[AS.b7 _ _ _ _ h2]at hk;simp only[if_neg h1,if_neg h2]at e;exact h.inj j k B B' hj hk e
  rx:=λj R hR=>by
   obtain⟨⟨us,h1,h2⟩,h3⟩:=h.rx j R hR;refine⟨⟨us,dy h1 λg hg=>old g (mQ h hR hg),h2⟩,λg hg=>?_⟩;obtain⟨h4,h5,h6,h7⟩:=h3 g hg;refine⟨h4,h5,h6,λk B hB=>?_⟩;by_cases hk:k=i
   ·subst hk;simp only[if_true];have:=mQ h hR hg;omega
   rw[AS.b7 _ _ _ _ hk]at hB;simp only[if_neg hk];exact h7 k B hB
  fW:=h.fW
  iY:=λj b hj=>by
   have hne:j≠i:=by rintro rfl;rw[hp]at hj;cases hj
   simp only[if_neg hne];exact h.iY j b hj
  ec:=h.ec
  mg:=λb hb=>by
   obtain⟨h1,h2⟩:=h.mg b hb;exact⟨by simp;omega,h2⟩
  jj:=C.jf _ _ _ _ _ _ _ h.jj (Mem.le_refl _) (dH h.dj λb ⟨o,v,e⟩=>old b (lY h.dj e)) (λ_ _ _ e=>.inl e)
   (λb hb=>old b (by
              rcases hb with hb|hb
              ·have:=h.grown;omega
              exact(h.mg b hb).1)) Y Y Y (by simp)}
theorem bj.grow{E:Env}{M':Mem}{a:Act}{w w':World}(h:bj C S E a w)(hM:E.M.le M')(hn:∀b o v,M' b o=some v->E.M b o=some v\/w.heap.size<=b)(hw:M'.dj w')(hb:Below w.heap.size w w'):
  bj C S {E with M:=M'} a w':=by
 have keep:∀x:AV,∀v,x.holds E v->x.holds {E with M:=M'} v:=λx v hv=>AV.cL (E:=E) (E':={E with M:=M'}) hM (λ_ _=>rfl) (λ_ _=>rfl) hv;have none:∀b,b<w.heap.size->(∀o,E.M b o=none)->∀o,M' b o=none:=λb hb h2 o=>by
  cases e:M' b o with
  |none=>rfl
  |some v=>
   rcases hn _ _ _ e with e'|e'
   ·rw[h2 o]at e';cases e'
   omega
 exact{
  wf:=h.wf
  marks:=by
   obtain⟨ds,h1,h2,h3⟩:=h.marks;refine⟨ds,h1,h2,λr hr=>?_⟩;obtain⟨h4,h5,h6⟩:=h3 r hr;exact⟨h4,h5,by rw[hb.block r (Array.getElem?_eq_some_iff.1 h6).1];exact h6⟩
  size:=h.size
  os:=hb.os.trans h.os
  tape:=hb.tape.trans h.tape
  output:=hb.output.trans h.output
  grown:=Nat.le_trans h.grown hb.size
  frame:=λk hk hk'=>by rw[hb.block k (by have:=h.grown;omega)];exact h.frame k hk hk'
  m0:=Mem.le_trans h.m0 hM
  fe:=λb o v e=>by
   rcases hn b o v e with e'|e'
   ·exact h.fe b o v e'
   exact .inr (.inl (Nat.le_trans h.grown e'))
  dj:=hw
  tm:=λs=>keep _ _ (h.tm s)
  bx:=λi B hB=>by
   obtain⟨h1,h2,h3,vs,h4,h5⟩:=h.bx i B hB;exact⟨h1,none _ (oM h hB) h2,h3,vs,by rw[hb.block _ (oM h hB)];exact h4,h5.imp λx _ v hv=>keep x v hv⟩
  inj:=h.inj
  rx:=λi R hR=>by
   obtain⟨⟨us,h1,h2⟩,h3⟩:=h.rx i R hR;refine⟨⟨us,dy h1 λg hg=>hb.block g (mQ h hR hg),h2.mono hM⟩,λg hg=>?_⟩;obtain⟨h4,h5,h6,h7⟩:=h3 g hg;exact⟨h4,none _ (mQ h hR hg) h5,h6,h7⟩
  fW:=h.fW
  iY:=h.iY
  ec:=h.ec
  mg:=λb hO=>by
   obtain⟨h1,h2,h3⟩:=h.mg b hO;exact⟨Nat.lt_of_lt_of_le h1 hb.size,none b h1 h2,h3⟩
  jj:=C.jf _ _ _ _ _ _ _ h.jj hM hw (λb o v e=>by
    rcases hn b o v e with e'|e'
    ·exact .inl e'
    exact .inr ⟨.inl (Nat.le_trans h.grown e'),λhO=>by have:=(h.mg b hO).1;omega⟩)
   (λb hh=>hb.block b (by
    rcases hh with hh|hh
    ·have:=h.grown;omega
    exact(h.mg b hh).1)) hb.os hb.tape hb.output hb.size}
theorem RT.E6(hg:Gd ops S gd rg){op:Op}(hnd:∀c,op≠ .defer c)(rs:List Nat){cells:List AV}(hd:d<S.n)(hb:S.b d=none)(hp:C.iY d=none)
  (hv:∀S':AS,(∀s∈rs,S'.t s=S.t s)->∀E a w,bj C S' E a w->∃vs:List Value,(execOp a.eval ⟨some d,op,ty,pos,aft,gd⟩).run P w=.ok (.value (.pointer (some ⟨w.heap.size,0,none⟩))) (w.alloc (.cells ⟨vs⟩ T))/\dx E cells vs/\
   ∀x∈cells,(∀j,x.mb j->∃B,S'.b j=some B)/\(∀j,x.mr j->S'.r j≠ .un))
  (next:RunT P C ops nd K rest (⟨rg++rs,[d],[],⟨some (d,.ptr d 0),[(d,⟨T,cells⟩)],[]⟩⟩::acc) ((S.lX d ⟨T,cells⟩).set d (.ptr d 0))):RunT P C ops nd K (⟨some d,op,ty,pos,aft,gd⟩::rest) acc S:=by
 refine .inl ⟨rg++rs,[d],[],⟨some (d,.ptr d 0),[(d,⟨T,cells⟩)],[]⟩,?_,next⟩;rintro S' hn ht hb' _ i a w L Q ho ⟨E,h⟩ hL;refine ct (C:=C) ho (hg.wanted h (λs hs=>ht s (List.mem_append_left _ hs)) Y) ?_;obtain⟨vs,hr,hvs,hl⟩:=hv S' (λs hs=>ht s (List.mem_append_right _ hs)) E a w h;have hb0:S'.b d=none:=by rw[hb' d (by simp)];exact hb
 have h2:=h.Om (T:=T) hb0 hp hvs hl;exact cu (C:=C) hnd hr (hL _ _ ⟨_,h2.put (x:=.ptr d 0) (by simp[AV.holds]) (by show d<S'.n;omega) ⟨λj e=>(by cases e;exact⟨_,AS.eW _ _ _⟩),λ_ e=>e.elim⟩⟩)
theorem RT.box(hg:Gd ops S gd rg){cells:List SV}(hx:S.ev x=.sv (.agg cells))(hd:d<S.n)(hb:S.b d=none)(hp:C.iY d=none)
  (next:RunT P C ops nd K rest (⟨rg++aZ x,[d],[],⟨some (d,.ptr d 0),[(d,⟨T,cells.map AV.sv⟩)],[]⟩⟩::acc) ((S.lX d ⟨T,cells.map AV.sv⟩).set d (.ptr d 0))):RunT P C ops nd K (⟨some d,.box T x,ty,pos,aft,gd⟩::rest) acc S:=
 RT.E6 hg (by intro c h;cases h) (aZ x) hd hb hp (λS' ht E a w h=>by
  have h1:=h.ev x;rw[bt (λ_ h=>h) ht,hx]at h1;obtain⟨vs,hv,hvs⟩:=h1;refine⟨vs,by simp[execOp,Instr.box,newVar,newRow,hv,Value.cells],dx.vT hvs,λy hy=>?_⟩;obtain⟨s,_,rfl⟩:=List.mem_map.1 hy;exact fC) next
theorem RT.zA(hg:Gd ops S gd rg){s:AV}[o1:Km s](hx:S.ev x=s)(hd:d<S.n)(hb:S.b d=none)(hp:C.iY d=none)
  (next:RunT P C ops nd K rest (⟨rg++aZ x,[d],[],⟨some (d,.ptr d 0),[(d,⟨T,[s]⟩)],[]⟩⟩::acc) ((S.lX d ⟨T,[s]⟩).set d (.ptr d 0))):RunT P C ops nd K (⟨some d,.box T x,ty,pos,aft,gd⟩::rest) acc S:=
 RT.E6 hg (by intro c h;cases h) (aZ x) (cells:=[s]) hd hb hp (λS' ht E a w h=>by
  have hx':S'.ev x=s:=by rw[bt (λ_ h=>h) ht,hx]
  have h1:=h.ev x;rw[hx']at h1;refine⟨[a.eval x],by simp[execOp,Instr.box,newVar,newRow,gW (o1.h _ _ h1)],⟨h1,aq⟩,λy hy=>?_⟩;obtain rfl:y=s:=by simpa using hy
  exact my h.wf hx') next
theorem Mn(E:Env):∀l:List Value,dx E (l.map λv=>AV.sv (SV.v v)) l
 |[]=>trivial
 |_::l=>⟨Y,Mn E l⟩
theorem RT.alloc(hg:Gd ops S gd rg){zv:Value}[tz:jZ P T zv](hd:d<S.n)(hb:S.b d=none)(hp:C.iY d=none)
  (next:RunT P C ops nd K rest (⟨rg++[],[d],[],⟨some (d,.ptr d 0),[(d,⟨T,zv.cells.toList.map λv=>AV.sv (SV.v v)⟩)],[]⟩⟩::acc) ((S.lX d ⟨T,zv.cells.toList.map λv=>AV.sv (SV.v v)⟩).set d (.ptr d 0))):RunT P C ops nd K (⟨some d,.alloc T,ty,pos,aft,gd⟩::rest) acc S:=
 RT.E6 hg (by intro c h;cases h) [] hd hb hp (λS' _ E a w h=>⟨zv.cells.toList,by simp[execOp,Instr.alloc,newVar,newRow,tz.run],Mn E _,λy hy=>by
  obtain⟨s,_,rfl⟩:=List.mem_map.1 hy;exact fC⟩) next
theorem fD(b o n:Nat):(⟨b,o,none⟩:Addr).add n=⟨b,o+n,none⟩:=by
 unfold Addr.add;split
 ·subst_vars;rfl
 rfl
theorem pZ{n:Nat}[zy P T n]{w:World}{b o:Nat}{vs:List Value}(hlen:vs.length=n)(hv:∀(j:Nat) (v:Value),vs[j]? =some v->w.cell? ⟨b,o+j,none⟩=some v):
  (loadVar T ⟨b,o,none⟩).run P w=.ok (.agg ⟨vs⟩) w:=by
 have h1:=run_loadCells_list (P:=P) (w:=w) ⟨b,o,none⟩ vs (λj v e=>by rw[fD];exact hv j v e);rw[hlen]at h1;simp[loadVar,zy.isAgg,zy.size (T:=T) (n:=n),h1]
inductive Hf:List AV->Nat->List SV->Prop
 |nil {l:List AV} {off:Nat}:Hf l off []
 |cons {l:List AV} {off:Nat} {s:SV} {cs:List SV} (h:l[off]? =some (.sv s)) (t:Hf l (off+1) cs):Hf l off (s::cs)
theorem Hf.k2{l:List AV}{o:Nat}{a b:SV}(h1:l[o]? =some (.sv a))(h2:l[o+1]? =some (.sv b)):Hf l o [a,b]:=.cons h1 (.cons h2 .nil)
theorem Hf.k3{l:List AV}{o:Nat}{a b c:SV}(h1:l[o]? =some (.sv a))(h2:l[o+1]? =some (.sv b))(h3:l[o+1+1]? =some (.sv c)):Hf l o [a,b,c]:=.cons h1 (.cons h2 (.cons h3 .nil))
theorem Hf.k4{l:List AV}{o:Nat}{a b c d:SV}(h1:l[o]? =some (.sv a))(h2:l[o+1]? =some (.sv b))(h3:l[o+1+1]? =some (.sv c))(h4:l[o+1+1+1]? =some (.sv d)):Hf l o [a,b,c,d]:=.cons h1 (.cons h2 (.cons h3 (.cons h4 .nil)))
theorem Hf.vals{E:Env}{l:List AV}{vs:List Value}(h:dx E l vs):∀{off:Nat} {cs:List SV},Hf l off cs->∃us:List Value,SV.eu E.M cs us/\∀(j:Nat) (v:Value),us[j]? =some v->vs[off+j]? =some v:=by
 intro off cs hs
 induction hs with
 |nil=>exact⟨[],aq,by simp⟩
 | @cons off s cs h1 _ ih=>
  obtain⟨us,h2,h3⟩:=ih;obtain⟨x,hx,hs⟩:=h.get h1;refine⟨x::us,⟨hs,h2⟩,λj v hj=>?_⟩;cases j with
  |zero=>simp at hj;subst hj;exact hx
  |succ j=>rw[show off+(j+1)=off+1+j by omega];exact h3 j v (by simpa using hj)
theorem RT.load(hg:Gd ops S gd rg){n:Nat}[tA:zy P T n]{j off:Nat}{B:nC}{cs:List SV}(hx:S.ev x=.ptr j off)(hB:S.b j=some B)(hcs:Hf B.cells off cs)(hn:cs.length=n)(hd:d<S.n)
  (next:RunT P C ops nd K rest (⟨rg++aZ x,[j],[],⟨some (d,.sv (.agg cs)),[],[]⟩⟩::acc) (S.set d (.sv (.agg cs)))):RunT P C ops nd K (⟨some d,.load T x,ty,pos,aft,gd⟩::rest) acc S:=
 RT.value hg (aZ x) [j] [] (.sv (.agg cs)) hd (by intro c h;cases h) (λS' ht hb _ E a w h=>by
  have h1:a.eval x=.pointer (some ⟨E.β j,off,none⟩):=by have h1:=h.ev x;rw[bt (λ_ h=>h) ht,hx]at h1;exact h1
  obtain⟨_,_,_,vs,hv,hall⟩:=h.bx j B (by rw[hb j (by simp)];exact hB);obtain⟨us,zB,jX⟩:=hcs.vals hall;have hl:=zB.length;refine⟨.agg ⟨us⟩,?_,⟨us,Y,zB⟩,fC⟩;have:=pZ (P:=P) (T:=T) (n:=n) (w:=w) (b:=E.β j) (o:=off) (vs:=us) (by omega) (λi v e=>by
   simp[World.cell?,hv,jX i v e])
  simp[execOp,h1,Instr.loadAt,Instr.sureAddr,this]) next
theorem RT.sZ(hg:Gd ops S gd rg)[tV:pS P T]{j off:Nat}{B:nC}{s:AV}(hx:S.ev x=.ptr j off)(hB:S.b j=some B)(hn:B.cells[off]? =some s)(hd:d<S.n)
  (next:RunT P C ops nd K rest (⟨rg++aZ x,[j],[],⟨some (d,s),[],[]⟩⟩::acc) (S.set d s)):RunT P C ops nd K (⟨some d,.load T x,ty,pos,aft,gd⟩::rest) acc S:=
 RT.value hg (aZ x) [j] [] s hd (by intro c h;cases h) (λS' ht hb _ E a w h=>by
  have h1:a.eval x=.pointer (some ⟨E.β j,off,none⟩):=by have h1:=h.ev x;rw[bt (λ_ h=>h) ht,hx]at h1;exact h1
  have jA:S'.b j=some B:=by rw[hb j (by simp)];exact hB
  obtain⟨_,_,_,vs,hv,hall⟩:=h.bx j B jA;obtain⟨u,hu,hs⟩:=hall.get hn;have hm:s∈B.cells:=List.mem_of_getElem? hn;refine⟨u,?_,hs,h.wf.bb j B jA s hm,h.wf.br j B jA s hm⟩;have hc:w.cell? ⟨E.β j,off,none⟩=some u:=by simp[World.cell?,hv,hu]
  simp[execOp,h1,Instr.loadAt,Instr.sureAddr,loadVar,tV.isAgg,hc]) next
theorem B9{M:Mem}{b:Nat}:∀(l:List SV) (o:Nat),(∀(k:Nat) (s:SV),l[k]? =some s->∃y,M b (o+k)=some y/\y.oneCell'=true/\s.h M y)->∃vs:List Value,SV.eu M l vs/\∀(k:Nat) (v:Value),vs[k]? =some v->M b (o+k)=some v/\v.oneCell'=true
 |[],_,_=>⟨[],aq,by simp⟩
 |s::l,o,hl=>by
  obtain⟨y,hy,RB,hs⟩:=hl 0 s Y;obtain⟨vs,h1,h2⟩:=B9 (M:=M) (b:=b) l (o+1) (λk s hk=>by
   have:=hl (k+1) s (by simpa using hk);rwa[show o+(k+1)=o+1+k by omega]at this)
  refine⟨y::vs,⟨hs,h1⟩,λk v hk=>?_⟩;cases k with
  |zero=>simp at hk;subst hk;exact⟨hy,RB⟩
  |succ k=>rw[show o+(k+1)=o+1+k by omega];exact h2 k v (by simpa using hk)
theorem RT.ik(hg:Gd ops S gd rg){n:Nat}[tA:zy P T n]{cells:List SV}(hx:S.ev x=.sv (ref cells))(hd:d<S.n){cs:List SV}(hcs:cells.take n=cs)(hn:cs.length=n)
  (next:RunT P C ops nd K rest (⟨rg++aZ x,[],[],⟨some (d,.sv (.agg cs)),[],[]⟩⟩::acc) (S.set d (.sv (.agg cs)))):RunT P C ops nd K (⟨some d,.load T x,ty,pos,aft,gd⟩::rest) acc S:=
 RT.value hg (aZ x) [] [] (.sv (.agg cs)) hd (by intro c h;cases h) (λS' ht _ _ E a w h=>by
  have h1:=h.ev x;rw[bt (λ_ h=>h) ht,hx]at h1;obtain⟨b,o,e,hc⟩:=h1;obtain⟨vs,hall,jX⟩:=B9 (M:=E.M) (b:=b) cs o (λk s hk=>by
   refine hc k s ?_;rw[<-hcs,List.getElem?_take]at hk;split at hk
   ·exact hk
   cases hk)
  refine⟨.agg ⟨vs⟩,?_,⟨vs,Y,hall⟩,fC⟩;have hl:=hall.length;have:=pZ (P:=P) (T:=T) (n:=n) (w:=w) (b:=b) (o:=o) (vs:=vs) (by omega) (λi v e=>(h.dj _ _ _ (jX i v e).1).cell (jX i v e).2);simp[execOp,e,Instr.loadAt,Instr.sureAddr,this]) next
theorem RT.dm(hg:Gd ops S gd rg)[tV:pS P T]{cells:List SV}{s:SV}(hx:S.ev x=.sv (ref cells))(hn:cells[0]? =some s)(hd:d<S.n)
  (next:RunT P C ops nd K rest (⟨rg++aZ x,[],[],⟨some (d,.sv s),[],[]⟩⟩::acc) (S.set d (.sv s))):RunT P C ops nd K (⟨some d,.load T x,ty,pos,aft,gd⟩::rest) acc S:=
 RT.value hg (aZ x) [] [] (.sv s) hd (by intro c h;cases h) (λS' ht hb _ E a w h=>by
  have h1:=h.ev x;rw[bt (λ_ h=>h) ht,hx]at h1;obtain⟨b,o,e,hc⟩:=h1;obtain⟨u,hu,Vz,hs⟩:=hc 0 s hn;refine⟨u,?_,hs,fC⟩;have RC:w.cell? ⟨b,o,none⟩=some u:=(h.dj _ _ _ hu).cell Vz;simp[execOp,e,Instr.loadAt,Instr.sureAddr,loadVar,tV.isAgg,RC]) next
end steps
end
section
open Go.RowKit
def kE{α:Type}:List α->Nat->List α->List α
 |l,_,[]=>l
 |l,k,x::xs=>kE (l.set k x) (k+1) xs
theorem r8{α:Type}:∀(xs l:List α) (k:Nat),(kE l k xs).length=l.length
 |[],_,_=>rfl
 |x::xs,l,k=>by rw[kE,r8 xs];simp
theorem E7{E:Env}:∀{xs:List AV} {us:List Value} {l:List AV} {vs:List Value} {k:Nat},dx E l vs->dx E xs us->dx E (kE l k xs) (kE vs k us)
 |[],[],_,_,_,h,_=>h
 |s::xs,u::us,l,vs,k,h,hx=>by rw[kE,kE];exact E7 (h.set hx.1) hx.2
 |[],_::_,_,_,_,_,h=>h.elim
 |_::_,[],_,_,_,_,h=>h.elim
theorem Af{α:Type}:∀(xs pre l:List α),l.length=xs.length->kE (pre++l) pre.length xs=pre++xs
 |[],pre,l,h=>by simp at h;subst h;rfl
 |x::xs,pre,[],h=>by simp at h
 |x::xs,pre,y::l,h=>by
  rw[kE];have:(pre++y::l).set pre.length x=(pre++[x])++l:=by simp
  rw[this,show pre.length+1=(pre++[x]).length by simp,Af xs (pre++[x]) l (by simpa using h)];simp
def eE(w:World)(b:Nat)(vs:List Value)(T:TypeId):World:={w with heap:=w.heap.setIfInBounds b (.cells ⟨vs⟩ T (0,0))}
theorem Ca{w:World}{b o:Nat}{vs:List Value}{T:TypeId}(hv:w.heap[b]? =some (.cells ⟨vs⟩ T (0,0)))(u:Value):w.setCell ⟨b,o,none⟩ u=eE w b (vs.set o u) T:=by
 have hb:=(Array.getElem?_eq_some_iff.1 hv);unfold World.setCell eE;congr 1;apply Array.ext_getElem?;intro i;rw[Array.getElem?_modify,Array.getElem?_setIfInBounds];by_cases h:b=i
 ·subst h;rw[if_pos Y,if_pos Y,if_pos hb.1,hv];simp
 rw[if_neg h,if_neg h]
theorem vb{w:World}{b:Nat}{vs us:List Value}{T:TypeId}(hv:w.heap[b]? =some (.cells ⟨vs⟩ T (0,0))):(eE w b us T).heap[b]? =some (.cells ⟨us⟩ T (0,0)):=by
 have hb:=(Array.getElem?_eq_some_iff.1 hv);simp[eE,hb.1]
theorem DG{w:World}{b:Nat}{us vs:List Value}{T:TypeId}:eE (eE w b us T) b vs T=eE w b vs T:=by
 simp[eE]
theorem Cb{w:World}{b:Nat}{vs:List Value}{T:TypeId}(hv:w.heap[b]? =some (.cells ⟨vs⟩ T (0,0))):eE w b vs T=w:=by
 have hb:=(Array.getElem?_eq_some_iff.1 hv);unfold eE;have:w.heap.setIfInBounds b (.cells ⟨vs⟩ T (0,0))=w.heap:=by
  apply Array.ext_getElem?;intro i;rw[Array.getElem?_setIfInBounds];by_cases h:b=i
  ·subst h;rw[if_pos Y,if_pos hb.1,hv]
  rw[if_neg h]
 rw[this]
theorem gG{w:World}{b k:Nat}{us:List Value}{T:TypeId}(h:k≠b):(eE w b us T).heap[k]? =w.heap[k]? :=by
 simp only[eE,Array.getElem?_setIfInBounds];rw[if_neg (Ne.symm h)]
theorem nF{w:World}{b:Nat}{us:List Value}{T:TypeId}:(eE w b us T).heap.size=w.heap.size:=by simp[eE]
theorem ju{P:Program}{b:Nat}{T:TypeId}:∀(us:List Value) (i o:Nat) (w:World) (vs:List Value),(∀u∈us,u.oneCell'=true)->w.heap[b]? =some (.cells ⟨vs⟩ T (0,0))->o+i+us.length<=vs.length->
  (storeCells ⟨b,o,none⟩ us i).run P w=.ok () (eE w b (kE vs (o+i) us) T)
 |[],i,o,w,vs,_,hv,_=>by
  rw[kE,Cb hv];rfl
 |u::us,i,o,w,vs,h1,hv,hl=>by
  have hu:=h1 u (by simp);have hc:w.cell? ⟨b,o+i,none⟩=some (vs[o+i]'(by simp at hl;omega)):=by
   simp[World.cell?,hv]
  have hf:w.frozen? ⟨b,o+i,none⟩=false:=by simp[World.frozen?,hv]
  have hs:=run_store P w ⟨b,o+i,none⟩ u .plain hu;rw[hc,hf]at hs;have ih:=ju (P:=P) us (i+1) o (eE w b (vs.set (o+i) u) T) (vs.set (o+i) u) (λv hv=>h1 v (List.mem_cons_of_mem _ hv)) (vb hv) (by simp at hl⊢;omega);rw[storeCells,kE];simp only[Sem.run_bind,fD,hs];simp only[Bool.false_eq_true,if_false,Result.andThen_ok];rw[Ca hv,ih,DG];rfl
section steps
variable {P:Program}{C:Ctx}{ops:Array Oper}{S:AS}{nd:Bool}{K:List Ac->AS->Prop}{rest:List Oper}{acc:List Ac}
variable {gd:Option (Nat×Bool)}{rg:List Nat}{d:Nat}{ty:TypeId}{pos:String}{aft:Array Edge}{x y z:Operand}{T U E0:TypeId}
theorem bj.Hs{E:Env}{a:Act}{w:World}(h:bj C S E a w){j:Nat}{B:nC}(hB:S.b j=some B){cells:List AV}{vs:List Value}(hc:dx E cells vs)(hl:∀x∈cells,(∀j,x.mb j->∃B,S.b j=some B)/\(∀j,x.mr j->S.r j≠ .un)):
  bj C (S.lX j ⟨B.T,cells⟩) E a (eE w (E.β j) vs B.T):=by
 have Mo:=h.bx j B hB;have pY:∀k,(∃B,S.b k=some B)->∃B',(S.lX j ⟨B.T,cells⟩).b k=some B':=λk hk=>by
  by_cases e:k=j
  ·subst e;exact⟨_,AS.eW _ _ _⟩
  obtain⟨B',jA⟩:=hk;exact⟨B',by rw[AS.b7 _ _ _ _ e];exact jA⟩
 have Ht:E.M.dj (eE w (E.β j) vs B.T):=dH h.dj λb ⟨o,v,e⟩=>gG (by
  rintro rfl;rw[Mo.2.1 o]at e;cases e)
 exact{
  wf:=by
   refine⟨λs k hk=>pY k (h.wf.tb s k hk),h.wf.tr,λi B' jA x hx k hk=>?_,λi B' jA x hx k hk=>?_⟩
   ·by_cases hi:i=j
    ·subst hi;rw[AS.eW]at jA;cases jA;exact pY k ((hl x hx).1 k hk)
    rw[AS.b7 _ _ _ _ hi]at jA;exact pY k (h.wf.bb i B' jA x hx k hk)
   by_cases hi:i=j
   ·subst hi;rw[AS.eW]at jA;cases jA;exact(hl x hx).2 k hk
   rw[AS.b7 _ _ _ _ hi]at jA;exact h.wf.br i B' jA x hx k hk
  marks:=by
   obtain⟨ds,h1,h2,h3⟩:=h.marks;refine⟨ds,h1,h2,λr hr=>?_⟩;obtain⟨h4,h5,h6⟩:=h3 r hr;refine⟨h4,h5,?_⟩;rw[gG (by rintro rfl;obtain⟨_,_,_,us,hu,_⟩:=Mo;rw[h6]at hu;cases hu)];exact h6
  size:=h.size
  os:=h.os
  tape:=h.tape
  output:=h.output
  grown:=by rw[nF];exact h.grown
  frame:=λk hk hk'=>by
   have hne:k≠E.β j:=by
    rintro rfl;rcases Mo.1 with h1|h1
    ·omega
    exact hk' (C.EZ _ h1)
   rw[gG hne];exact h.frame k hk hk'
  m0:=h.m0
  fe:=h.fe
  dj:=Ht
  tm:=h.tm
  bx:=λi B' jA=>by
   by_cases hi:i=j
   ·subst hi;rw[AS.eW]at jA;cases jA;obtain⟨h1,h2,h3,vs',h4,_⟩:=Mo;exact⟨h1,h2,h3,vs,vb h4,hc⟩
   rw[AS.b7 _ _ _ _ hi]at jA;obtain⟨h1,h2,h3,vs',h4,h5⟩:=h.bx i B' jA;exact⟨h1,h2,h3,vs',by rw[gG (λe=>hi (h.inj i j B' B jA hB e))];exact h4,h5⟩
  inj:=λi k B1 B2 h1 h2 e=>by
   have f:∀i B1,(S.lX j ⟨B.T,cells⟩).b i=some B1->∃B2,S.b i=some B2:=by
    intro i B1 h;by_cases hi:i=j
    ·subst hi;exact⟨B,hB⟩
    rw[AS.b7 _ _ _ _ hi]at h;exact⟨_,h⟩
   obtain⟨_,g1⟩:=f i B1 h1;obtain⟨_,g2⟩:=f k B2 h2;exact h.inj i k _ _ g1 g2 e
  rx:=λi R hR=>by
   obtain⟨⟨us,h1,h2⟩,h3⟩:=h.rx i R hR;refine⟨⟨us,dy h1 λg hg=>gG (λe=>(h3 g hg).2.2.2 j B hB e.symm),h2⟩,λg hg=>?_⟩;obtain⟨h4,h5,h6,h7⟩:=h3 g hg;refine⟨h4,h5,h6,λk B' jA=>?_⟩;by_cases hk:k=j
   ·subst hk;exact h7 k B hB
   rw[AS.b7 _ _ _ _ hk]at jA;exact h7 k B' jA
  fW:=h.fW
  iY:=h.iY
  ec:=h.ec
  mg:=λb hb=>by rw[nF];exact h.mg b hb
  jj:=C.jf _ _ _ _ _ _ _ h.jj (Mem.le_refl _) Ht (λ_ _ _ e=>.inl e)
   (λb hb=>gG (by
    rintro rfl;rcases hb with hb|hb
    ·rcases Mo.1 with h1|h1
     ·omega
     exact hb.2 h1
    exact Mo.2.2.1 hb)) Y Y Y (by rw[nF];exact Nat.le_refl _)}
theorem RT.DH(hg:Gd ops S gd rg){n:Nat}{j off:Nat}{B:nC}{cs:List AV}(rr:List Nat)(hx:S.ev x=.ptr j off)(hB:S.b j=some B)(hy:∀(S':AS) (E:Env) (a:Act) (w:World),bj C S' E a w->S'.ev y=S.ev y->(∀i∈rr,S'.r i=S.r i)->∃us:List Value,(a.eval y).cells=⟨us⟩/\dx E cs us/\(∀u∈us,u.oneCell'=true)/\∀x∈cs,(∀j,x.mb j->∃B,S'.b j=some B)/\(∀j,x.mr j->S'.r j≠ .un))
  (hs:∀w:World,(sizeOf T).run P w=.ok n w) (sS:cs.length=n) (hn:off+n<=B.cells.length) {cells:List AV} (hcs:kE B.cells off cs=cells)
  (next:RunT P C ops nd K rest (⟨rg++(aZ x++aZ y),[j],rr,⟨none,[(j,⟨B.T,cells⟩)],[]⟩⟩::acc) (S.lX j ⟨B.T,cells⟩)):RunT P C ops nd K (⟨none,.store T x y,ty,pos,aft,gd⟩::rest) acc S:=by
 refine .inl ⟨_,[j],rr,_,?_,next⟩;rintro S' hn' ht hb' Ko i a w L Q ho ⟨E,h⟩ hL;refine ct (C:=C) ho (hg.wanted h (λs hs=>ht s (List.mem_append_left _ hs)) Y) ?_;have h1:a.eval x=.pointer (some ⟨E.β j,off,none⟩):=by
  have h1:=h.ev x;rw[bt (λ_ h=>List.mem_append_right _ (List.mem_append_left _ h)) ht,hx]at h1;exact h1
 obtain⟨us,hu,hall,hone,hlv⟩:=hy S' E a w h (bt (λ_ h=>List.mem_append_right _ (List.mem_append_right _ h)) ht) Ko;have jA:S'.b j=some B:=by rw[hb' j (by simp)];exact hB
 obtain⟨_,_,_,vs,hv,hvs⟩:=h.bx j B jA;have RE:=hall.length;have hl2:=hvs.length;have hst:=ju (P:=P) us 0 off w vs hone hv (by omega);have hr:(execOp a.eval ⟨none,.store T x y,ty,pos,aft,gd⟩).run P w=.ok .skip (eE w (E.β j) (kE vs off us) B.T):=by
  simp only[execOp,h1,Instr.storeAt,Instr.sureAddr,storeVar,hu];simp only[Sem.run_bind,Sem.run_pure,Result.andThen_ok,hs];simp only[show ¬(us.length≠n)from by omega,List.size_toArray,if_false];simp only[Nat.add_zero]at hst;simp only[Result.andThen_ok,hst]
 refine cu (C:=C) (by intro c h;cases h) hr (hL _ _ ⟨E,hcs▸h.Hs jA (E7 hvs hall) ?_⟩);have AW:∀(xs l:List AV) (k:Nat) (x:AV),x∈kE l k xs->x∈l\/x∈xs:=by
  intro xs
  induction xs with
  |nil=>intro l k x hx;exact .inl hx
  |cons z xs ih=>
   intro l k x hx;rw[kE]at hx;rcases ih _ _ _ hx with h1|h1
   ·rcases List.mem_or_eq_of_mem_set h1 with h2|h2
    ·exact .inl h2
    exact .inr (by simp[h2])
   exact .inr (List.mem_cons_of_mem _ h1)
 intro x hx;rcases AW _ _ _ _ hx with hx|hx
 ·exact⟨h.wf.bb j B jA x hx,h.wf.br j B jA x hx⟩
 exact hlv x hx
theorem lf{S:AS}{cs:List SV}:∀x∈cs.map AV.sv,(∀j,x.mb j->∃B,S.b j=some B)/\(∀j,x.mr j->S.r j≠ .un):=λx hx=>by
 obtain⟨s,_,rfl⟩:=List.mem_map.1 hx;exact fC
theorem RT.store(hg:Gd ops S gd rg){n:Nat}[tA:zy P T n]{j:Nat}{B:nC}{cs:List SV}[o1:pN cs](hx:S.ev x=.ptr j 0)(hB:S.b j=some B)(hy:S.ev y=.sv (.agg cs))(sS:cs.length=n)(hn:B.cells.length=n)
  (next:RunT P C ops nd K rest (⟨rg++(aZ x++aZ y),[j],[],⟨none,[(j,⟨B.T,cs.map AV.sv⟩)],[]⟩⟩::acc) (S.lX j ⟨B.T,cs.map AV.sv⟩)):RunT P C ops nd K (⟨none,.store T x y,ty,pos,aft,gd⟩::rest) acc S:=by
 refine RT.DH hg [] hx hB (cs:=cs.map AV.sv) ?_ (λw=>tA.size w) (by simp[sS]) (by omega) (cells:=cs.map AV.sv) ?_ next
 ·intro S' E a w h e _;have h2:=h.ev y;rw[e,hy]at h2;obtain⟨us,hu,hall⟩:=h2;exact⟨us,by rw[hu];rfl,dx.vT hall,o1.h E.M us hall,lf⟩
 exact Af (cs.map AV.sv) [] B.cells (by simp;omega)
theorem RT.xG(hg:Gd ops S gd rg)[tV:pS P T]{j off:Nat}{B:nC}{s:AV}[o1:Km s](hx:S.ev x=.ptr j off)(hB:S.b j=some B)(hy:S.ev y=s)(hn:off<B.cells.length){cells:List AV}(hcs:B.cells.set off s=cells)
  (next:RunT P C ops nd K rest (⟨rg++(aZ x++aZ y),[j],[],⟨none,[(j,⟨B.T,cells⟩)],[]⟩⟩::acc) (S.lX j ⟨B.T,cells⟩)):RunT P C ops nd K (⟨none,.store T x y,ty,pos,aft,gd⟩::rest) acc S:=by
 refine RT.DH hg [] hx hB (cs:=[s]) ?_ (λw=>tV.size w) Y hn (cells:=cells) (by rw[<-hcs];rfl) next
 intro S' E a w h e _;have h2:=h.ev y;rw[e,hy]at h2;have:=o1.h _ _ h2;refine⟨[a.eval y],gW this,⟨h2,aq⟩,by simpa using this,λz hz=>?_⟩;obtain rfl:z=s:=by simpa using hz
 exact my h.wf (e.trans hy)
theorem RT.AX(hg:Gd ops S gd rg)[tV:pS P T]{j off i:Nat}{B:nC}{R:Row}(hx:S.ev x=.ptr j off)(hB:S.b j=some B)(hy:S.ev y=.row i)(hR:S.r i=.live R)(hn:off<B.cells.length){cells:List AV}(hcs:B.cells.set off (.row i)=cells)
  (next:RunT P C ops nd K rest (⟨rg++(aZ x++aZ y),[j],[i],⟨none,[(j,⟨B.T,cells⟩)],[]⟩⟩::acc) (S.lX j ⟨B.T,cells⟩)):RunT P C ops nd K (⟨none,.store T x y,ty,pos,aft,gd⟩::rest) acc S:=by
 refine RT.DH hg [i] hx hB (cs:=[.row i]) ?_ (λw=>tV.size w) Y hn (cells:=cells) (by rw[<-hcs];rfl) next
 intro S' E a w h e hr;have h2:=h.ev y;rw[e,hy]at h2;obtain⟨⟨us,ho,_⟩,_⟩:=h.rx i R (by rw[hr i (by simp)];exact hR);have hone:(a.eval y).oneCell'=true:=by
  rw[show a.eval y=E.ν i from h2];rcases ho.2 with⟨h3,_⟩|⟨g,cap,cur,h3,_⟩<;>rw[h3]<;>rfl
 refine⟨[a.eval y],gW hone,⟨h2,aq⟩,by simpa using hone,λz hz=>?_⟩;obtain rfl:z=.row i:=by simpa using hz
 exact my h.wf (e.trans hy)
theorem vV{f off:Nat}[hf:He P T f off U](hU:∀w:World,∃n,(sizeOf U).run P w=.ok (n+1) w)(b o:Nat)(w:World):(Instr.fieldAt T (.pointer (some ⟨b,o,none⟩)) f).run P w=.ok (.pointer (some ⟨b,o+off,none⟩)) w:=by
 have h:=hf.h;cases hu:P.underlying T with
 |none=>rw[hu]at h;cases h
 |some u=>
  rw[hu]at h;cases u with
  |struct fs=>
   simp only at h;cases hF:fs[f]? with
   |none=>rw[hF]at h;cases h
   |some F=>
    rw[hF]at h;simp only[Option.map_some,Option.some.injEq,Prod.mk.injEq]at h;obtain⟨h1,h2⟩:=h;obtain⟨n,hn⟩:=hU w;rw[<-h2]at hn;simp[Instr.fieldAt,underlying,hu,hF,Instr.sureAddr,fieldPlace,hn,fD,h1]
  |_=>cases h
class Cc (P:Program) (U:TypeId):Prop where
 h:∀w:World,∃n,(sizeOf U).run P w=.ok (n+1) w
instance[t:pS P U]:Cc P U:=⟨λw=>⟨0,t.size w⟩⟩
theorem RT.fieldAddr(hg:Gd ops S gd rg){f off:Nat}[hf:He P T f off U][sU:Cc P U]{j o:Nat}(hx:S.ev x=.ptr j o)(hd:d<S.n){o':Nat}(ho':o+off=o')
  (next:RunT P C ops nd K rest (⟨rg++aZ x,[],[],⟨some (d,.ptr j o'),[],[]⟩⟩::acc) (S.set d (.ptr j o'))):RunT P C ops nd K (⟨some d,.fieldAddr T x f,ty,pos,aft,gd⟩::rest) acc S:=
 RT.value hg (aZ x) [] [] (.ptr j o') hd (by intro c h;cases h) (λS' ht _ _ E a w h=>by
  have hx':S'.ev x=.ptr j o:=by rw[bt (λ_ h=>h) ht,hx]
  have h1:a.eval x=.pointer (some ⟨E.β j,o,none⟩):=by have h1:=h.ev x;rw[hx']at h1;exact h1
  have:=vV (P:=P) (T:=T) (f:=f) (off:=off) (U:=U) sU.h (E.β j) o w;refine⟨.pointer (some ⟨E.β j,o',none⟩),by simp[execOp,h1,this,ho'],Y,?_⟩;have hl:=my h.wf hx';exact⟨λk hk=>hl.1 k hk,λk hk=>hk.elim⟩) next
theorem Hu{cells:List SV}{off:Nat}{M:Mem}{b o:Nat}(h:∀(k:Nat) (s:SV),cells[k]? =some s->∃y,M b (o+k)=some y/\y.oneCell'=true/\s.h M y):(ref (cells.drop off)).h M (.pointer (some ⟨b,o+off,none⟩)):=
 ⟨b,o+off,Y,λk s hk=>by
  rw[List.getElem?_drop]at hk;have:=h (off+k) s hk;rwa[show o+(off+k)=o+off+k by omega]at this⟩
theorem RT.oN(hg:Gd ops S gd rg){f off:Nat}[hf:He P T f off U][sU:Cc P U]{cells cs:List SV}(hx:S.ev x=.sv (ref cells))(hd:d<S.n)(hcs:cells.drop off=cs)
  (next:RunT P C ops nd K rest (⟨rg++aZ x,[],[],⟨some (d,.sv (ref cs)),[],[]⟩⟩::acc) (S.set d (.sv (ref cs)))):RunT P C ops nd K (⟨some d,.fieldAddr T x f,ty,pos,aft,gd⟩::rest) acc S:=
 RT.value hg (aZ x) [] [] (.sv (ref cs)) hd (by intro c h;cases h) (λS' ht _ _ E a w h=>by
  have h1:=h.ev x;rw[bt (λ_ h=>h) ht,hx]at h1;obtain⟨b,o,e,hc⟩:=h1;have:=vV (P:=P) (T:=T) (f:=f) (off:=off) (U:=U) sU.h b o w;exact⟨_,by simp[execOp,e,this],hcs▸Hu hc,fC⟩) next
theorem RT.indexAddr(hg:Gd ops S gd rg){n:Nat}[tS:ep P T E0 n]{s:SV}{rows:List (List SV)}[hs:Kn s n rows]{kk:IntKind}{i:Int}(row:List SV)(hx:S.ev x=.sv s)(hy:S.ev y=.sv (.v (.int kk i)))(hd:d<S.n)(h0:0<=i)(hi:rows[i.toNat]? =some row)
  (next:RunT P C ops nd K rest (⟨rg++(aZ x++aZ y),[],[],⟨some (d,.sv (ref row)),[],[]⟩⟩::acc) (S.set d (.sv (ref row)))):RunT P C ops nd K (⟨some d,.indexAddr T x y,ty,pos,aft,gd⟩::rest) acc S:=
 RT.value hg (aZ x++aZ y) [] [] (.sv (ref row)) hd (by intro c h;cases h) (λS' ht _ _ E a w h=>by
  have h1:=h.ev x;rw[bt (λ_ h=>List.mem_append_left _ h) ht,hx]at h1;have h2:a.eval y=.int kk i:=by have h2:=h.ev y;rw[bt (λ_ h=>List.mem_append_right _ h) ht,hy]at h2;exact h2
  have hlt:i.toNat<rows.length:=(List.getElem?_eq_some_iff.1 hi).1;rcases hs.h _ _ h1 with⟨_,_,e⟩|⟨b,o,c,e,hc,Cd,hr⟩
  ·subst e;simp at hlt
  refine⟨.pointer (some ⟨b,o+i.toNat*n,none⟩),?_,⟨b,_,Y,λk s hk=>?_⟩,fC⟩
  ·have hsz:=tS.size w;have hb:0<=i/\i<(rows.length:Int):=⟨h0,by omega⟩;simp[execOp,h2,e,Instr.indexAt,asIntOf,underlying,tS.u,hsz,fD,hb]
  obtain⟨y,h3,h5,h4⟩:=(hr i.toNat row hi).2 k s hk;exact⟨y,h3,h5,h4⟩) next
theorem RT.len(hg:Gd ops S gd rg){n m:Nat}[tS:ep P T E0 m]{s:SV}[hl:Uy s n](hx:S.ev x=.sv s)(hd:d<S.n)
  (next:RunT P C ops nd K rest (⟨rg++aZ x,[],[],⟨some (d,.sv (.v (.int .i64 n))),[],[]⟩⟩::acc) (S.set d (.sv (.v (.int .i64 n))))):RunT P C ops nd K (⟨some d,.call ⟨.builtin .len,#[x],#[T]⟩,ty,pos,aft,gd⟩::rest) acc S:=
 RT.value hg (aZ x) [] [] (.sv (.v (.int .i64 n))) hd (by intro c h;cases h) (λS' ht _ _ E a w h=>by
  have h1:=h.ev x;rw[bt (λ_ h=>h) ht,hx]at h1;obtain⟨b,c,e⟩:=hl.h _ _ h1;exact⟨_,by simp[execOp,resolve,invoke,builtin,Builtin.len_,underlying,tS.u,e,goInt],Y,fC⟩) next
theorem RT.VA(hg:Gd ops S gd rg){m:Nat}[tS:ep P T E0 m]{i:Nat}{R:Row}(hx:S.ev x=.row i)(hR:S.r i=.live R)(hd:d<S.n)
  (next:RunT P C ops nd K rest (⟨rg++aZ x,[],[i],⟨some (d,.sv (.v (.int .i64 R.n))),[],[]⟩⟩::acc) (S.set d (.sv (.v (.int .i64 R.n))))):RunT P C ops nd K (⟨some d,.call ⟨.builtin .len,#[x],#[T]⟩,ty,pos,aft,gd⟩::rest) acc S:=
 RT.value hg (aZ x) [] [i] (.sv (.v (.int .i64 R.n))) hd (by intro c h;cases h) (λS' ht _ hr E a w h=>by
  have h1:a.eval x=E.ν i:=by have h1:=h.ev x;rw[bt (λ_ h=>h) ht,hx]at h1;exact h1
  obtain⟨⟨us,ho,_⟩,_⟩:=h.rx i R (by rw[hr i (by simp)];exact hR);obtain⟨b,c,e⟩:∃b c,E.ν i=.slice b R.n c:=by
   rcases ho.2 with⟨h3,h4⟩|⟨g,cap,cur,h3,_⟩
   ·exact⟨none,0,by rw[h3,h4]⟩
   exact⟨_,_,h3⟩
  rw[e]at h1;exact⟨_,by simp[execOp,resolve,invoke,builtin,Builtin.len_,underlying,tS.u,h1,goInt],Y,fC⟩) next
theorem RT.max(hg:Gd ops S gd rg){k k':IntKind}{p q:Int}{at_:Array TypeId}(c:Int)(hx:S.ev x=.sv (.v (.int k p)))(hy:S.ev y=.sv (.v (.int k' q)))(hd:d<S.n)(hc:(if q>p then q else p)=c)
  (next:RunT P C ops nd K rest (⟨rg++(aZ x++aZ y),[],[],⟨some (d,.sv (.v (.int k c))),[],[]⟩⟩::acc) (S.set d (.sv (.v (.int k c))))):RunT P C ops nd K (⟨some d,.call ⟨.builtin .max,#[x,y],at_⟩,ty,pos,aft,gd⟩::rest) acc S:=
 RT.DD hg (by intro c h;cases h) hx hy hd (λρ w h1 h2=>by simp[execOp,resolve,invoke,builtin,Builtin.max_,Builtin.max2,h1,h2,<-hc]) next
theorem RT.min(hg:Gd ops S gd rg){k k':IntKind}{p q:Int}{at_:Array TypeId}(c:Int)(hx:S.ev x=.sv (.v (.int k p)))(hy:S.ev y=.sv (.v (.int k' q)))(hd:d<S.n)(hc:(if q<p then q else p)=c)
  (next:RunT P C ops nd K rest (⟨rg++(aZ x++aZ y),[],[],⟨some (d,.sv (.v (.int k c))),[],[]⟩⟩::acc) (S.set d (.sv (.v (.int k c))))):RunT P C ops nd K (⟨some d,.call ⟨.builtin .min,#[x,y],at_⟩,ty,pos,aft,gd⟩::rest) acc S:=
 RT.DD hg (by intro c h;cases h) hx hy hd (λρ w h1 h2=>by simp[execOp,resolve,invoke,builtin,Builtin.min_,Builtin.min2,h1,h2,<-hc]) next
def hG(S:AS):List Operand->List SV->Prop
 |[],[]=>True
 |x::xs,s::ss=>S.ev x=.sv s/\hG S xs ss
 |_,_=>False
theorem hG.vals{E:Env}{a:Act}{w:World}{S':AS}(h:bj C S' E a w):∀{xs:List Operand} {ss:List SV},hG S xs ss->(∀s∈xs.flatMap aZ,S'.t s=S.t s)->SV.eu E.M ss (xs.map a.eval)
 |[],[],_,_=>trivial
 |x::xs,s::ss,hs,ht=>by
  have h1:=h.ev x;rw[bt (λt h=>List.mem_flatMap.2 ⟨x,by simp,h⟩) ht,hs.1]at h1;refine⟨h1,hG.vals (xs:=xs) (ss:=ss) h hs.2 (λt h=>ht t ?_)⟩;rw[List.flatMap_cons];exact List.mem_append_right _ h
 |[],_::_,h,_=>h.elim
 |_::_,[],h,_=>h.elim
theorem RT.call(hg:Gd ops S gd rg){f:FuncId}[cY P f]{g:Operand}{xs:Array Operand}{at_:Array TypeId}{args:List SV}{r:SV}(hp:Pure P f args r)(hf:S.ev g=.sv (.v (.func (.func f) #[] #[])))(hargs:hG S xs.toList args)(hd:d<S.n)
  (next:RunT P C ops nd K rest (⟨rg++(aZ g++xs.toList.flatMap aZ),[],[],⟨some (d,.sv r),[],[]⟩⟩::acc) (S.set d (.sv r))):RunT P C ops nd K (⟨some d,.call ⟨.value g,xs,at_⟩,ty,pos,aft,gd⟩::rest) acc S:=by
 refine .inl ⟨_,[],[],_,?_,next⟩;rintro S' hn ht _ _ i a w L Q ho ⟨E,h⟩ hL;refine ct (C:=C) ho (hg.wanted h (λs hs=>ht s (List.mem_append_left _ hs)) Y) ?_;have AY:a.eval g=.func (.func f) #[] #[]:=by
  have h1:=h.ev g;rw[bt (λ_ h=>List.mem_append_right _ (List.mem_append_left _ h)) ht,hf]at h1;exact h1
 have hall:=hG.vals h hargs (λs hs=>ht s (List.mem_append_right _ (List.mem_append_right _ hs)));have hr:(execOp a.eval ⟨some d,.call ⟨.value g,xs,at_⟩,ty,pos,aft,gd⟩).run P w=.ok (.enter f ⟨xs.toList.map a.eval⟩) w:=by
  have e2:xs.map a.eval=⟨xs.toList.map a.eval⟩:=by apply Array.ext';simp
  have e1:=cY.run (P:=P) (f:=f) (xs.map a.eval) w;rw[<-e2];simp[execOp,resolve,AY,Deferred.ofValue,invoke,e1]
 refine cu (C:=C) (by intro c h;cases h) hr ?_;refine⟨λh=>by simp at h,k8 ((hp E.M w _ h.dj hall).mono ?_)⟩;rintro e w' ⟨v,M',rfl,hM,hnew,hin,hv,hb⟩;exact hL _ _ ⟨_,(h.grow hM hnew hin hb).put (x:=.sv r) hv (by show d<S'.n;omega) fC⟩
theorem RT.extract(hg:Gd ops S gd rg){i:Nat}{ss:List SV}{s:SV}(hx:S.ev x=.sv (.uT ss))(hi:ss[i]? =some s)(hd:d<S.n)
  (next:RunT P C ops nd K rest (⟨rg++aZ x,[],[],⟨some (d,.sv s),[],[]⟩⟩::acc) (S.set d (.sv s))):RunT P C ops nd K (⟨some d,.extract x i,ty,pos,aft,gd⟩::rest) acc S:=
 RT.value hg (aZ x) [] [] (.sv s) hd (by intro c h;cases h) (λS' ht _ _ E a w h=>by
  have h1:=h.ev x;rw[bt (λ_ h=>h) ht,hx]at h1;obtain⟨vs,hv,hall⟩:=h1;obtain⟨u,hu,hs⟩:=hall.get hi;exact⟨u,by simp[execOp,hv,Instr.extract,hu],hs,fC⟩) next
end steps
def xH:List SV->Nat->AV
 |[],_=>.sv .any
 |s::_,0=>.sv s
 |_::l,n+1=>xH l n
def AS.init(n:Nat)(args:List SV):AS:=⟨n,xH args,λ_=>none,λ_=>.un,0,true⟩
theorem xI:∀(l:List SV) (k:Nat),∃s,xH l k=.sv s
 |[],_=>⟨_,Y⟩
 |s::_,0=>⟨s,Y⟩
 |_::l,n+1=>xI l n
theorem vW{E:Env}:∀{args:List SV} {vs:List Value} {k:Nat} (rest:List Value),SV.eu E.M args vs->(xH args k).holds E ((vs++rest)[k]?.getD undef)
 |[],[],_,_,_=>trivial
 |s::args,v::vs,0,_,h=>h.1
 |s::args,v::vs,k+1,rest,h=>by
  have:=vW (E:=E) (k:=k) rest (show SV.eu E.M args vs from h.2);simpa[xH]using this
 |[],_::_,_,_,h=>h.elim
 |_::_,[],_,_,h=>h.elim
def Hv(P:Program)(S:AS):ResultVar->SV->Prop
 |.tmp t,s=>S.t t=.sv s
 |.cell t T,s=>∃i B,S.t t=.ptr i 0/\S.b i=some B/\((∃n cs,zy P T n/\Hf B.cells 0 cs/\cs.length=n/\s=.agg cs)\/(pS P T/\B.cells=[.sv s]))
def tc(P:Program)(S:AS):List ResultVar->List SV->Prop
 |[],[]=>True
 |r::rs,s::ss=>Hv P S r s/\tc P S rs ss
 |_,_=>False
def Kp(P:Program)(S:AS)(rs:List ResultVar)(r:SV):Prop:=∃ss,tc P S rs ss/\SV.imp (match ss with|[s]=>s|ss=>.uT ss) r
theorem DI{P:Program}{C:Ctx}{S:AS}{E:Env}{a:Act}{w:World}(h:bj C S E a w){rv:ResultVar}{s:SV}(hr:Hv P S rv s):
  ∃v,(match rv with|.tmp t=>pure (a.tmps.getD t undef)|.cell b t=>do loadVar t (<-asAddr (a.tmps.getD b undef)):Sem Value).run P w=.ok v w/\s.h E.M v:=by
 cases rv with
 |tmp t=>
  have:=h.tm t;rw[show S.t t=.sv s from hr]at this;exact⟨_,Y,this⟩
 |cell t T=>
  obtain⟨i,B,h1,h2,h3⟩:=hr;have ht:a.tmps.getD t undef=.pointer (some ⟨E.β i,0,none⟩):=by have:=h.tm t;rw[h1]at this;exact this
  obtain⟨_,_,_,vs,hv,hall⟩:=h.bx i B h2;rcases h3 with⟨n,cs,tA,Hw,hn,rfl⟩|⟨tV,hc⟩
  ·obtain⟨us,zB,jX⟩:=Hw.vals hall;have hl:=zB.length;refine⟨.agg ⟨us⟩,?_,us,Y,zB⟩;have:=pZ (P:=P) (T:=T) (n:=n) (w:=w) (b:=E.β i) (o:=0) (vs:=us) (by omega) (λj v e=>by simp[World.cell?,hv];simpa using jX j v e);simp[ht,asAddr,this]
  rw[hc]at hall;cases vs with
  |nil=>exact hall.elim
  |cons u us=>
   cases us with
   |cons _ _=>exact hall.2.elim
   |nil=>
    refine⟨u,?_,hall.1⟩;have RC:w.cell? ⟨E.β i,0,none⟩=some u:=by simp[World.cell?,hv]
    simp[ht,asAddr,loadVar,tV.isAgg,RC]
theorem vX{P:Program}{C:Ctx}{S:AS}{E:Env}{a:Act}{w:World}(h:bj C S E a w):∀{rs:List ResultVar} {ss:List SV},tc P S rs ss->
  ∃vs:List Value,(rs.mapM (λ(rv:ResultVar)=>(match rv with|.tmp t=>pure (a.tmps.getD t undef)|.cell b t=>do loadVar t (<-asAddr (a.tmps.getD b undef)):Sem Value))).run P w=.ok vs w/\SV.eu E.M ss vs
 |[],[],_=>⟨[],Y,aq⟩
 |r::rs,s::ss,hr=>by
  obtain⟨v,h1,h2⟩:=DI h hr.1;obtain⟨vs,h3,h4⟩:=vX h hr.2;refine⟨v::vs,?_,h2,h4⟩;rw[List.mapM_cons];simp only[Sem.run_bind,h1,Result.andThen_ok,h3,Sem.run_pure]
 |[],_::_,h=>h.elim
 |_::_,[],h=>h.elim
theorem AZ{P:Program}{C:Ctx}{S:AS}{E:Env}{a:Act}{w:World}(h:bj C S E a w){fn:Func}{ss:List SV}(Mp:tc P S fn.results.toList ss):
  ∃v,(results fn a.tmps).run P w=.ok v w/\(match ss with|[s]=>s|ss=>SV.uT ss).h E.M v:=by
 obtain⟨us,zB,hall⟩:=vX h Mp;unfold results;rw[<-Array.toArray_toList (xs:=fn.results),List.mapM_toArray];simp only[Sem.run_bind,Sem.run_map];generalize hm:List.mapM (m:=Sem) (β:=Value) _ fn.results.toList=m;have VB:m.run P w=.ok us w:=by rw[<-hm];exact zB
 rw[VB];simp only[Result.andThen_ok,Sem.run_pure];refine⟨_,Y,?_⟩;cases us with
 |nil=>cases ss with
  |nil=>exact⟨[],by simp,aq⟩
  |cons _ _=>exact hall.elim
 |cons u us=>
  cases ss with
  |nil=>exact hall.elim
  |cons s ss=>
   cases us with
   |nil=>cases ss with
    |nil=>simpa using hall.1
    |cons _ _=>exact hall.2.elim
   |cons u' us=>
    cases ss with
    |nil=>exact hall.2.elim
    |cons s' ss=>exact⟨u::u'::us,by simp,hall⟩
theorem mz{P:Program}{fn:Func}{tmps:Array Value}{R:Ending->World->Prop}:∀(ds:List Nat) (w:World),ds.Nodup->(∀r∈ds,w.heap[r]? =some (.deferred (some [])))->
  (∀w':World,w'.os=w.os->w'.tape=w.tape->w'.output=w.output->w'.heap.size=w.heap.size->(∀k,k∉ds->w'.heap[k]? =w.heap[k]?)->∃v,(results fn tmps).run P w'=.ok v w'/\R (.returned v) w')->
  LeavesInM (Fr none) 0 P fn tmps R (ds.map kN) .returning w
 |[],w,_,_,h=>by
  obtain⟨v,h1,h2⟩:=h w rfl rfl rfl rfl (λ_ _=>rfl);exact⟨v,h1,h2⟩
 |r::ds,w,hnd,hr,h=>by
  have hr0:=hr r (by simp);obtain⟨hnr,VC⟩:=List.nodup_cons.1 hnd;have hsz:=(Array.getElem?_eq_some_iff.1 hr0).1;refine⟨by simp,.inl ⟨r,{w with heap:=w.heap.setIfInBounds r (.deferred none)},Y,?_,?_⟩⟩
  ·simp[Instr.takeDeferred,getObj,setObj,Sem.run,hr0,bind,Sem.bind,pure]
  refine mz ds _ VC (λr' hr'=>?_) (λw' h1 h2 h3 h4 h5=>?_)
  ·have hne:r≠r':=by rintro rfl;exact hnr hr'
   rw[Array.getElem?_setIfInBounds,if_neg hne];exact hr r' (List.mem_cons_of_mem _ hr')
  refine h w' h1 h2 h3 (by rw[h4];simp) (λk hk=>?_);rw[List.mem_cons,not_or]at hk;rw[h5 k hk.2,Array.getElem?_setIfInBounds,if_neg (Ne.symm hk.1)]
theorem bj.xJ{C:Ctx}{S:AS}{E:Env}{a:Act}{w w':World}(h:bj C S E a w){ds:List Nat}(hds:∀r∈ds,C.w0.heap.size<=r/\¬E.O r/\w.heap[r]? =some (.deferred (some [])))
  (h1:w'.os=w.os) (h2:w'.tape=w.tape) (h3:w'.output=w.output) (h4:w'.heap.size=w.heap.size) (h5:∀k,k∉ds->w'.heap[k]? =w.heap[k]?):bj C S E {a with defers:=[]} w':=by
 have cell:∀(k:Nat) (vs:Array Value) (T:TypeId),w.heap[k]? =some (Obj.cells vs T (0,0))->w'.heap[k]? =w.heap[k]? :=λk vs T hk=>h5 k (λhm=>by rw[(hds k hm).2.2]at hk;cases hk);have hin:E.M.dj w':=dH h.dj λb ⟨o,v,e⟩=>h5 b (λhm=>by
  exact(h.dj b o v e).no (by simp[World.cell?,(hds b hm).2.2]) (λes ck q=>by rw[(hds b hm).2.2]at q;cases q) (λc T q=>by rw[(hds b hm).2.2]at q;cases q))
 exact{
  wf:=h.wf
  marks:=⟨[],Y,List.nodup_nil,by simp⟩
  size:=h.size
  os:=h1.trans h.os
  tape:=h2.trans h.tape
  output:=h3.trans h.output
  grown:=by rw[h4];exact h.grown
  frame:=λk hk hk'=>by rw[h5 k (λhm=>by have:=(hds k hm).1;omega)];exact h.frame k hk hk'
  m0:=h.m0
  fe:=h.fe
  dj:=hin
  tm:=h.tm
  bx:=λi B hB=>by
   obtain⟨h6,h7,h8,vs,h9,ic⟩:=h.bx i B hB;exact⟨h6,h7,h8,vs,by rw[cell _ _ _ h9];exact h9,ic⟩
  inj:=h.inj
  rx:=λi R hR=>by
   obtain⟨⟨us,h6,h7⟩,h8⟩:=h.rx i R hR;refine⟨⟨us,dy h6 λg hg=>?_,h7⟩,h8⟩;rcases h6.2 with⟨h9,_⟩|⟨g',cap,cur,h9,_,ic,_⟩
   ·rw[h9]at hg;cases hg
   rw[h9]at hg;cases hg;exact cell _ _ _ ic
  fW:=h.fW
  iY:=h.iY
  ec:=h.ec
  mg:=λb hb=>by rw[h4];exact h.mg b hb
  jj:=C.jf _ _ _ _ _ _ _ h.jj (Mem.le_refl _) hin (λ_ _ _ e=>.inl e) (λb hb=>h5 b (λhm=>by
   rcases hb with hb|hb
   ·have:=(hds b hm).1;omega
   exact(hds b hm).2.1 hb)) h1 h2 h3 (by rw[h4];exact Nat.le_refl _)}
def Hx(w:World)(M:Mem):Ctx:={w0:=w,M0:=M,own:=λ_=>False,sQ:=λ_=>False,iY:=λ_=>none,ec:=λ_=>none,ro:=none,J:=λ_ _ _ _ _=>True,EZ:=λ_ h=>h,J9:=λ_ _ h=>(by cases h),jf:=λ_ _ _ _ _ _ _ _ _ _ _ _ _ _ _ _=>trivial}
theorem mR{n:Nat}{args:List SV}{vs:List Value}{w:World}{M:Mem}(hM:M.dj w)(hvs:SV.eu M args vs)(hn:args.length<=n):
  bj (Hx w M) (AS.init n args) ⟨λ_=>0,λ_=>.nilIface,λ_=>False,M⟩ {tmps:=⟨vs⟩++Array.replicate (n-(⟨vs⟩:Array Value).size) undef,defers:=[]} w:=by
 have hl:=hvs.length;refine⟨⟨λs j hj=>?_,λs j hj=>?_,λi B e=>(by cases e),λi B e=>(by cases e)⟩,⟨[],rfl,List.nodup_nil,by simp⟩,by simp[AS.init];omega,rfl,rfl,rfl,Nat.le_refl _,λ_ _ _=>rfl,Mem.le_refl _,λ_ _ _ e=>.inl e,hM,λs=>?_,λi B e=>(by cases e),λi j B B' e=>(by cases e),λi R e=>(by cases e),λi j R R' e=>(by cases e),λi b e=>(by cases e),λi b e=>(by cases e),λb e=>e.elim,aq⟩
 ·obtain⟨s',hs'⟩:=xI args s;rw[show(AS.init n args).t s=xH args s from rfl,hs']at hj;exact hj.elim
 ·obtain⟨s',hs'⟩:=xI args s;rw[show(AS.init n args).t s=xH args s from rfl,hs']at hj;exact hj.elim
 have:=vW (E:=⟨λ_=>0,λ_=>.nilIface,λ_=>False,M⟩) (k:=s) (List.replicate (n-vs.length) undef) hvs;rw[Array.getD_eq_getD_getElem?];simpa[AS.init,List.getElem?_toArray,Array.getElem?_append,List.getElem?_append,List.getElem?_replicate,Array.getElem?_replicate]using this
theorem bk{P:Program}{f:FuncId}{fn:Func}{code:Code}{args:List SV}{r:SV}(hf:P.funcs[f]? =some fn)(hb:fn.body=some code)(hn:args.length<=fn.ntmps)
  (h:∀(w:World) (M:Mem) (vs:List Value),SV.eu M args vs->Ok P (Hx w M) code (AS.init fn.ntmps args) (λe S=>(e=.normal\/e=.ret)/\Kp P S fn.results.toList r)):Pure P f args r:=by
 intro M w vs hM hvs;refine(callsIn_wide (n:=0)).1 (callsIn_of_wp_marks (F:=Fence.wide) hf hb trivial ?_);refine wpIn_mono (h w M vs hvs _ w ⟨_,mR hM hvs hn⟩) ?_;rintro e a' w' ⟨S',⟨he,ss,Mp,himp⟩,E,hh⟩;have key:LeavesInM Fence.wide 0 P fn a'.tmps (λe w'=>∃v M',e=.returned v/\M.le M'/\(∀b o x,M' b o=some x->M b o=some x\/w.heap.size<=b)/\M'.dj w'/\r.h M' v/\Below w.heap.size w w') a'.defers .returning w':=by
  obtain⟨ds,h1,h2,h3⟩:=hh.marks;rw[h1];refine mz ds w' h2 (λr hr=>(h3 r hr).2.2) (λw2 g1 g2 g3 g4 g5=>?_);have zC:=hh.xJ h3 g1 g2 g3 g4 g5;obtain⟨v,hv,hs⟩:=AZ zC Mp;refine⟨v,hv,v,E.M,Y,zC.m0,λb o x e=>?_,zC.dj,himp _ _ hs,zC.os,zC.tape,zC.output,zC.grown,λk hk=>zC.frame k hk (λh=>h)⟩;rcases zC.fe b o x e with h|h|h
  ·exact .inl h
  ·exact .inr h
  exact h.elim
 rcases he with rfl|rfl
 ·exact key
 exact key
end
section
open Go.RowKit
inductive F7 (σ:Nat->Nat):AV->AV->Prop
 |sv {s s':SV} (h:SV.imp s s'):F7 σ (.sv s) (.sv s')
 |ptr {i o:Nat}:F7 σ (.ptr i o) (.ptr i o)
 |B3 {i o l c:Nat}:F7 σ (.B3 i o l c) (.B3 i o l c)
 |row {i j:Nat} (h:j=σ i):F7 σ (.row j) (.row i)
 |me {i j o l:Nat} (h:j=σ i):F7 σ (.me j o l) (.me i o l)
 |fO {g:FuncId} {js:List oK}:F7 σ (.fO g js) (.fO g js)
theorem SV.aU(s:SV):SV.imp s s:=λ_ _ h=>h
theorem au{s:SV}:SV.imp s s:=SV.aU _
theorem F7.holds{σ:Nat->Nat}{x y:AV}(h:F7 σ x y){E:Env}{v:Value}(hv:x.holds E v):y.holds {E with ν:=λi=>E.ν (σ i)} v:=by
 cases h with
 |sv h=>exact h _ _ hv
 |ptr=>exact hv
 |B3=>exact hv
 |row h=>subst h;exact hv
 |me h=>subst h;exact hv
 | @fO g js=>
  obtain⟨vs,rfl,h⟩:=hv;refine⟨vs,Y,?_⟩;have key:∀(l:List oK) (vs:List Value),wM E l vs->wM {E with ν:=λi=>E.ν (σ i)} l vs:=by
   intro l
   induction l with
   |nil=>intro vs h;cases vs with|nil=>trivial|cons _ _=>exact h.elim
   |cons c l ih=>
    intro vs h;cases vs with
    |nil=>exact h.elim
    |cons x xs=>exact⟨by have h1:=h.1;cases c<;>exact h1,ih xs h.2⟩
  exact key js vs h
def DJ(σ:Nat->Nat):List AV->List AV->Prop
 |[],[]=>True
 |x::l,y::l'=>F7 σ x y/\DJ σ l l'
 |_,_=>False
theorem DJ.holds{σ:Nat->Nat}{E:Env}:∀{l l':List AV} {vs:List Value},DJ σ l l'->dx E l vs->dx {E with ν:=λi=>E.ν (σ i)} l' vs
 |[],[],[],_,_=>trivial
 |_::_,_::_,_::_,h,hv=>⟨h.1.holds hv.1,DJ.holds h.2 hv.2⟩
 |[],[],_::_,_,hv=>hv.elim
 |_::_,_::_,[],_,hv=>hv.elim
 |[],_::_,_,h,_=>h.elim
 |_::_,[],_,h,_=>h.elim
def cH:List SV->List SV->Prop
 |[],[]=>True
 |x::l,y::l'=>SV.imp x y/\cH l l'
 |_,_=>False
theorem cH.holds{M:Mem}:∀{l l':List SV} {vs:List Value},cH l l'->SV.eu M l vs->SV.eu M l' vs
 |[],[],[],_,_=>trivial
 |_::_,_::_,_::_,h,hv=>⟨h.1 _ _ hv.1,cH.holds h.2 hv.2⟩
 |[],[],_::_,_,hv=>hv.elim
 |_::_,_::_,[],_,hv=>hv.elim
 |[],_::_,_,h,_=>h.elim
 |_::_,[],_,h,_=>h.elim
theorem cH.refl:∀l:List SV,cH l l
 |[]=>trivial
 |s::l=>⟨SV.aU s,cH.refl l⟩
def E8:List (Nat×AV)->Nat->AV
 |[],_=>.sv .any
 |(k,x)::l,s=>bif Nat.beq s k then x else E8 l s
def Ka:List (Nat×nC)->Nat->Option nC
 |[],_=>none
 |(k,x)::l,s=>bif Nat.beq s k then some x else Ka l s
def Ce:List (Nat×Row)->Nat->Option Row
 |[],_=>none
 |(k,x)::l,s=>bif Nat.beq s k then some x else Ce l s
def AS.cw(n:Nat)(ts:List (Nat×AV))(bs:List (Nat×nC))(rs:List (Nat×Row))(g:Nat:=0)(go:Bool:=true):AS:=
 ⟨n,E8 ts,Ka bs,λi=>match Ce rs i with|some R=>.live R|none=>.un,g,go⟩
def AV.nP(bs:List (Nat×nC))(rs:List (Nat×Row)):AV->Bool
 |.sv _=>true
 |.ptr i _=>(Ka bs i).isSome
 |.B3 i _ _ _=>(Ka bs i).isSome
 |.row i=>(Ce rs i).isSome
 |.gZ i _=>(Ce rs i).isSome
 |.me i _ _=>(Ce rs i).isSome
 |.fO _ js=>js.all λc=>match c with|.box i=>(Ka bs i).isSome|.val _=>true
 |.cmp _ _=>false
theorem xk{ts:List (Nat×AV)}{s:Nat}:E8 ts s=.sv .any\/∃p∈ts,p.1=s/\E8 ts s=p.2:=by
 induction ts with
 |nil=>exact .inl Y
 |cons p ts ih=>
  obtain⟨k,x⟩:=p;by_cases h:s=k
  ·subst h;exact .inr ⟨(s,x),by simp,Y,by simp[E8]⟩
  simp only[E8,cX h,cond_false];rcases ih with ih|⟨p,hp,h1,h2⟩
  ·exact .inl ih
  exact .inr ⟨p,List.mem_cons_of_mem _ hp,h1,h2⟩
theorem oO{bs:List (Nat×nC)}{s:Nat}{B:nC}(h:Ka bs s=some B):(s,B)∈bs:=by
 induction bs with
 |nil=>cases h
 |cons p bs ih=>
  obtain⟨k,x⟩:=p;by_cases e:s=k
  ·subst e;simp[Ka]at h;subst h;simp
  simp only[Ka,cX e,cond_false]at h;exact List.mem_cons_of_mem _ (ih h)
theorem A0{bs:List (Nat×Row)}{s:Nat}{B:Row}(h:Ce bs s=some B):(s,B)∈bs:=by
 induction bs with
 |nil=>cases h
 |cons p bs ih=>
  obtain⟨k,x⟩:=p;by_cases e:s=k
  ·subst e;simp[Ce]at h;subst h;simp
  simp only[Ce,cX e,cond_false]at h;exact List.mem_cons_of_mem _ (ih h)
theorem On{n:Nat}{ts:List (Nat×AV)}{bs:List (Nat×nC)}{rs:List (Nat×Row)}{g:Nat}{go:Bool}
  (h:(ts.all λp=>p.2.nP bs rs)&&(bs.all λp=>p.2.cells.all λx=>x.nP bs rs)):(AS.cw n ts bs rs g go).wf:=by
 simp only[Bool.and_eq_true,List.all_eq_true]at h;have kb:∀x:AV,x.nP bs rs=true->∀j,x.mb j->∃B,Ka bs j=some B:=by
  intro x hx j hj;cases x with
  |ptr i o=>cases hj;exact Option.isSome_iff_exists.1 hx
  |B3 i o l c=>cases hj;exact Option.isSome_iff_exists.1 hx
  |fO g js=>exact Option.isSome_iff_exists.1 (List.all_eq_true.1 hx (.box j) hj)
  |cmp t js=>cases hx
  |_=>exact hj.elim
 have kr:∀x:AV,x.nP bs rs=true->∀j,x.mr j->(AS.cw n ts bs rs g go).r j≠ .un:=by
  intro x hx j hj;have hs:∀i,(Ce rs i).isSome=true->(AS.cw n ts bs rs g go).r i≠ .un:=by
   intro i hi;obtain⟨R,hR⟩:=Option.isSome_iff_exists.1 hi;simp[AS.cw,hR]
  cases x with
  |row i=>cases hj;exact hs _ hx
  |gZ i k=>cases hj;exact hs _ hx
  |me i o l=>cases hj;exact hs _ hx
  |cmp t js=>cases hx
  |_=>exact hj.elim
 refine⟨λs j hj=>?_,λs j hj=>?_,λi B hB x hx j hj=>?_,λi B hB x hx j hj=>?_⟩
 ·rcases xk (ts:=ts) (s:=s)with e|⟨p,hp,_,e⟩
  ·rw[show(AS.cw n ts bs rs g go).t s=E8 ts s from rfl,e]at hj;exact hj.elim
  rw[show(AS.cw n ts bs rs g go).t s=E8 ts s from rfl,e]at hj;exact kb _ (h.1 p hp) j hj
 ·rcases xk (ts:=ts) (s:=s)with e|⟨p,hp,_,e⟩
  ·rw[show(AS.cw n ts bs rs g go).t s=E8 ts s from rfl,e]at hj;exact hj.elim
  rw[show(AS.cw n ts bs rs g go).t s=E8 ts s from rfl,e]at hj;exact kr _ (h.1 p hp) j hj
 ·exact kb x (h.2 (i,B) (oO hB) x hx) j hj
 exact kr x (h.2 (i,B) (oO hB) x hx) j hj
def Ra(σ:Nat->Nat)(S:AS):List (Nat×AV)->Prop
 |[]=>True
 |(k,x)::l=>F7 σ (S.t k) x/\Ra σ S l
def Rb(σ:Nat->Nat)(S:AS):List (Nat×nC)->Prop
 |[]=>True
 |(k,x)::l=>(∃cs,S.b k=some ⟨x.T,cs⟩/\DJ σ cs x.cells)/\Rb σ S l
def Rc(σ:Nat->Nat)(S:AS):List (Nat×Row)->Prop
 |[]=>True
 |(k,x)::l=>(∃cs,S.r (σ k)=.live ⟨x.E,x.sz,x.n,cs⟩/\cH cs x.cells)/\Rc σ S l
theorem Ra.mem{σ:Nat->Nat}{S:AS}:∀{l:List (Nat×AV)},Ra σ S l->∀p∈l,F7 σ (S.t p.1) p.2
 |_::_,h,p,hp=>by
  rcases List.mem_cons.1 hp with rfl|hp
  ·exact h.1
  exact Ra.mem h.2 p hp
theorem Rb.mem{σ:Nat->Nat}{S:AS}:∀{l:List (Nat×nC)},Rb σ S l->∀p∈l,∃cs,S.b p.1=some ⟨p.2.T,cs⟩/\DJ σ cs p.2.cells
 |_::_,h,p,hp=>by
  rcases List.mem_cons.1 hp with rfl|hp
  ·exact h.1
  exact Rb.mem h.2 p hp
theorem Rc.mem{σ:Nat->Nat}{S:AS}:∀{l:List (Nat×Row)},Rc σ S l->∀p∈l,∃cs,S.r (σ p.1)=.live ⟨p.2.E,p.2.sz,p.2.n,cs⟩/\cH cs p.2.cells
 |_::_,h,p,hp=>by
  rcases List.mem_cons.1 hp with rfl|hp
  ·exact h.1
  exact Rc.mem h.2 p hp
theorem bj.eL{C:Ctx}{S:AS}{E:Env}{a:Act}{w:World}(h:bj C S E a w)(σ:Nat->Nat){n:Nat}{ts:List (Nat×AV)}{bs:List (Nat×nC)}{rs:List (Nat×Row)}{g:Nat}{go:Bool}(hn:S.n=n)(hg:S.g=g)(DE:S.go=go)
  (hwf:((ts.all λp=>p.2.nP bs rs)&&(bs.all λp=>p.2.cells.all λx=>x.nP bs rs))=true) (hσ:((rs.all λp=>rs.all λq=>!(Nat.beq (σ p.1) (σ q.1))||Nat.beq p.1 q.1))=true)
  (ht:Ra σ S ts) (hb:Rb σ S bs) (hr:Rc σ S rs) (hp:∀i,1000<=i->σ i=i):bj C (AS.cw n ts bs rs g go) {E with ν:=λi=>E.ν (σ i)} a w where
 wf:=On hwf
 marks:=h.marks
 size:=by rw[h.size,hn];rfl
 os:=h.os
 tape:=h.tape
 output:=h.output
 grown:=h.grown
 frame:=h.frame
 m0:=h.m0
 fe:=h.fe
 dj:=h.dj
 tm:=λs=>by
  rcases xk (ts:=ts) (s:=s)with e|⟨p,hp,rfl,e⟩
  ·show(E8 ts s).holds _ _;rw[e];exact trivial
  show(E8 ts p.1).holds _ _;rw[e];exact(ht.mem p hp).holds (h.tm p.1)
 bx:=λi B hB=>by
  obtain⟨cs,h1,h2⟩:=hb.mem (i,B) (oO hB);obtain⟨h3,h4,h5,vs,h6,h7⟩:=h.bx i _ h1;exact⟨h3,h4,h5,vs,h6,h2.holds h7⟩
 inj:=λi j B B' hi hj e=>by
  obtain⟨cs,h1,_⟩:=hb.mem (i,B) (oO hi);obtain⟨cs',h2,_⟩:=hb.mem (j,B') (oO hj);exact h.inj i j _ _ h1 h2 e
 rx:=λi R hR=>by
  have A3:Ce rs i=some R:=by
   simp only[AS.cw]at hR;cases e:Ce rs i with
   |none=>rw[e]at hR;cases hR
   |some R'=>rw[e]at hR;cases hR;rfl
  obtain⟨cs,h1,h2⟩:=hr.mem (i,R) (A0 A3);obtain⟨⟨vs,h3,h4⟩,h5⟩:=h.rx _ _ h1;refine⟨⟨vs,h3,h2.holds h4⟩,λk hk=>?_⟩;obtain⟨h6,h7,h8,h9⟩:=h5 k hk;refine⟨h6,h7,h8,λj B hB=>?_⟩;obtain⟨cs',ic,_⟩:=hb.mem (j,B) (oO hB);exact h9 j _ ic
 fW:=λi j R R' hi hj k h1 h2=>by
  have f:∀i R,(AS.cw n ts bs rs g go).r i=.live R->Ce rs i=some R:=by
   intro i R hR;simp only[AS.cw]at hR;cases e:Ce rs i with
   |none=>rw[e]at hR;cases hR
   |some R'=>rw[e]at hR;cases hR;rfl
  have mi:=A0 (f i R hi);have mj:=A0 (f j R' hj);obtain⟨cs,g1,_⟩:=hr.mem _ mi;obtain⟨cs',g2,_⟩:=hr.mem _ mj;have e:=h.fW _ _ _ _ g1 g2 k h1 h2;have:=List.all_eq_true.1 (List.all_eq_true.1 hσ _ mi) _ mj;simp only[Bool.or_eq_true,Bool.not_eq_true']at this;rcases this with h3|h3
  ·rw[e]at h3;simp at h3
  exact Nat.eq_of_beq_eq_true h3
 iY:=h.iY
 ec:=λi v e=>by show E.ν (σ i)=v;rw[hp i (C.J9 i v e)];exact h.ec i v e
 mg:=h.mg
 jj:=by show C.J g go E.O E.M w;rw[<-hg,<-DE];exact h.jj
theorem eL{S:AS}(σ:Nat->Nat){n:Nat}{ts:List (Nat×AV)}{bs:List (Nat×nC)}{rs:List (Nat×Row)}{g:Nat}{go:Bool}(hn:S.n=n)(hg:S.g=g)(DE:S.go=go)
  (hwf:((ts.all λp=>p.2.nP bs rs)&&(bs.all λp=>p.2.cells.all λx=>x.nP bs rs))=true) (hσ:((rs.all λp=>rs.all λq=>!(Nat.beq (σ p.1) (σ q.1))||Nat.beq p.1 q.1))=true)
  (ht:Ra σ S ts) (hb:Rb σ S bs) (hr:Rc σ S rs) (hp:∀i,1000<=i->σ i=i):rD S (AS.cw n ts bs rs g go):=λ_ _ _ ⟨_,h⟩=>⟨_,h.eL σ hn hg DE hwf hσ ht hb hr hp⟩
end
section
open Go.RowKit
class jU (P:Program) (E:TypeId) (n:outParam Nat) (by_:outParam Nat) (z:outParam Value):Prop where
 h:(P.info? E).map (λi=>(i.size,i.bytes,i.zero))=some (n,by_,some z)
 z:z.cells.size=n
 p:0<n
 b:by_<=1048576
theorem jU.info{P:Program}{E:TypeId}{n by_:Nat}{z:Value}[t:jU P E n by_ z]:∃i,P.info? E=some i/\i.size=n/\i.bytes=by_/\i.zero=some z:=by
 have h:=t.h;cases hi:P.info? E with
 |none=>rw[hi]at h;cases h
 |some i=>
  rw[hi]at h;simp only[Option.map_some,Option.some.injEq,Prod.mk.injEq]at h;exact⟨i,Y,h.1,h.2.1,h.2.2⟩
section steps
variable {P:Program}{C:Ctx}{ops:Array Oper}{S:AS}{nd:Bool}{K:List Ac->AS->Prop}{rest:List Oper}{acc:List Ac}
variable {gd:Option (Nat×Bool)}{rg:List Nat}{d:Nat}{ty:TypeId}{pos:String}{aft:Array Edge}{x y z:Operand}{T U E0:TypeId}
def Kq(C:Ctx)(S:AS)(E:Env)(g:Nat):Prop:=
 C.w0.heap.size<=g/\(∀o,E.M g o=none)/\¬E.O g/\(∀j B,S.b j=some B->E.β j≠g)/\(∀j R,S.r j=.live R->(E.ν j).ownBlock≠some g)
theorem bj.free{E:Env}{a:Act}{w:World}(h:bj C S E a w){g:Nat}(hg:w.heap.size<=g):Kq C S E g:=by
 refine⟨Nat.le_trans h.grown hg,λo=>?_,λho=>?_,λj B hB e=>?_,λj R hj e=>?_⟩
 ·cases e:E.M g o with
  |none=>rfl
  |some v=>have:=lY h.dj e;omega
 ·have:=(h.mg _ ho).1;omega
 ·have:=oM h hB;omega
 have:=mQ h hj e;omega
theorem bj.E9{E:Env}{a:Act}{w w':World}(h:bj C S E a w){d:Nat}(hd:S.r d=.un)(sV:d<1000)(old:List (Nat×oI))(F8:Option Nat)
  (hold:(old=[]/\F8=none)\/∃i R,old=[(i,.dead)]/\S.r i=.live R/\F8=(E.ν i).ownBlock)
  {R':Row} {v':Value} {vs':List Value} (hown:w'.ownsRow 0 R'.E R'.sz v' R'.n vs') (xK:SV.eu E.M R'.cells vs') (Rd:∀g,v'.ownBlock=some g->F8=some g\/Kq C S E g) (hgrow:w.grownBy w' F8):
  bj C (AS.cn (old++[(d,.live R')]) S) {E with ν:=λj=>if j=d then v' else E.ν j} a w':=by
 have B4:=iO (old++[(d,oI.live R')]) S;have hb:∀g,F8=some g->(C.w0.heap.size<=g\/C.sQ g)/\(∀o,E.M g o=none)/\¬E.O g/\(∀j B,S.b j=some B->E.β j≠g)/\g<w.heap.size/\(∃c e,w.heap[g]? =some (Obj.cells c e (0,0)))/\∃i R,old=[(i,.dead)]/\S.r i=.live R/\(E.ν i).ownBlock=some g:=by
  intro g hg;rcases hold with⟨_,h2⟩|⟨i,R,h1,h2,h3⟩
  ·rw[h2]at hg;cases hg
  rw[h3]at hg;obtain⟨⟨us,ho,_⟩,h4⟩:=h.rx i R h2;obtain⟨h5,h6,h7,h8⟩:=h4 g hg;refine⟨h5,h6,h7,h8,mQ h h2 hg,?_,i,R,h1,h2,hg⟩;rcases ho.2 with⟨h9,_⟩|⟨g',cap,cur,h9,_,ic,_⟩
  ·rw[h9]at hg;cases hg
  rw[h9]at hg;cases hg;exact⟨_,_,ic⟩
 have same:∀k,k<w.heap.size->(∀g,F8=some g->k≠g)->w'.heap[k]? =w.heap[k]? :=λk hk hne=>hgrow.block k hk (λe=>hne k e.symm Y);have Re:∀j,(AS.cn (old++[(d,oI.live R')]) S).r j=if j=d then .live R' else(gp old j).getD (S.r j):=by
  intro j;rw[nE];have:∀l:List (Nat×oI),gp (l++[(d,oI.live R')]) j=if j=d then some (.live R')else gp l j:=by
   intro l
   induction l with
   |nil=>rfl
   |cons p l ih=>
    obtain⟨i,R⟩:=p;rw[List.cons_append,gp,gp,ih];by_cases e:j=d
    ·simp[e]
    simp[e]
  rw[this];by_cases e:j=d
  ·simp[e]
  simp[e]
 have aaG:∀i,(i,oI.dead)∈old->S.r i≠ .un:=by
  intro i hi;rcases hold with⟨h1,_⟩|⟨i',R,h1,h2,_⟩
  ·rw[h1]at hi;simp at hi
  rw[h1]at hi;simp at hi;subst hi;rw[h2];simp
 have Fa:∀j,gp old j=none\/(gp old j=some .dead/\(j,oI.dead)∈old):=by
  intro j;rcases hold with⟨h1,_⟩|⟨i',R,h1,h2,_⟩
  ·rw[h1];exact .inl Y
  rw[h1];by_cases e:j=i'
  ·subst e;exact .inr ⟨by simp[gp],by simp⟩
  exact .inl (by simp[gp,e])
 have Mq:∀j,S.r j≠ .un->(AS.cn (old++[(d,oI.live R')]) S).r j≠ .un:=by
  intro j hj;rw[Re];by_cases e:j=d
  ·simp[e]
  rw[if_neg e];rcases Fa j with h1|⟨h1,_⟩
  ·rw[h1];exact hj
  rw[h1];simp
 have tf:∀j R,(AS.cn (old++[(d,oI.live R')]) S).r j=.live R->j≠d->S.r j=.live R/\(∀g,F8=some g->(E.ν j).ownBlock≠some g):=by
  intro j R hj hne;rw[Re,if_neg hne]at hj;rcases Fa j with h1|⟨h1,_⟩
  ·rw[h1]at hj;refine⟨hj,λg hg e=>?_⟩;obtain⟨_,_,_,_,_,_,i,R2,h2,h3,h4⟩:=hb g hg;have hji:=h.fW j i R R2 hj h3 g e h4;subst hji;rw[h2]at h1;simp[gp]at h1
  rw[h1]at hj;cases hj
 have nod:∀x:AV,(∀j,x.mr j->S.r j≠ .un)->∀v,x.holds E v->x.holds {E with ν:=λj=>if j=d then v' else E.ν j} v:=λx hx v hv=>
  AV.cL (E:=E) (E':={E with ν:=λj=>if j=d then v' else E.ν j}) (Mem.le_refl _) (λ_ _=>rfl) (λj hj=>if_neg (by rintro rfl;exact hx j hj hd)) hv
 have Ht:E.M.dj w':=dH h.dj λb ⟨o,v,e⟩=>same b (lY h.dj e) (λg hg hbg=>by subst hbg;rw[(hb _ hg).2.1 o]at e;cases e);have DK:∀g,v'.ownBlock=some g->(C.w0.heap.size<=g\/C.sQ g)/\(∀o,E.M g o=none)/\¬E.O g/\(∀j B,S.b j=some B->E.β j≠g)/\(∀j R,(AS.cn (old++[(d,oI.live R')]) S).r j=.live R->j≠d->(E.ν j).ownBlock≠some g):=by
  intro g hg;rcases Rd g hg with h1|⟨f1,f2,f3,f4,f5⟩
  ·obtain⟨h2,h3,h4,h5,_⟩:=hb g h1;exact⟨h2,h3,h4,h5,λj R hj hne=>(tf j R hj hne).2 g h1⟩
  exact⟨.inl f1,f2,f3,f4,λj R hj hne=>f5 j R (tf j R hj hne).1⟩
 exact{
  wf:=by
   refine⟨λs j hj=>?_,λs j hj=>?_,λi B hB x hx j hj=>?_,λi B hB x hx j hj=>?_⟩
   ·rw[B4.2.1]at hj;rw[B4.2.2.1];exact h.wf.tb s j hj
   ·rw[B4.2.1]at hj;exact Mq j (h.wf.tr s j hj)
   ·rw[B4.2.2.1]at hB⊢;exact h.wf.bb i B hB x hx j hj
   rw[B4.2.2.1]at hB;exact Mq j (h.wf.br i B hB x hx j hj)
  marks:=by
   obtain⟨ds,h1,h2,h3⟩:=h.marks;refine⟨ds,h1,h2,λr hr=>?_⟩;obtain⟨h4,h5,h6⟩:=h3 r hr;refine⟨h4,h5,?_⟩;rw[same r (Array.getElem?_eq_some_iff.1 h6).1 (λg hg e=>by
    subst e;obtain⟨c,e,hc⟩:=(hb _ hg).2.2.2.2.2.1;rw[h6]at hc;cases hc)]
   exact h6
  size:=by rw[B4.1];exact h.size
  os:=hgrow.os.trans h.os
  tape:=hgrow.tape.trans h.tape
  output:=hgrow.output.trans h.output
  grown:=Nat.le_trans h.grown hgrow.size
  frame:=λk hk hk'=>by
   rw[same k (by have:=h.grown;omega) (λg hg e=>by
    subst e;rcases(hb _ hg).1 with h1|h1
    ·omega
    exact hk' (C.EZ _ h1))]
   exact h.frame k hk hk'
  m0:=h.m0
  fe:=h.fe
  dj:=Ht
  tm:=λs=>by rw[B4.2.1];exact nod _ (h.wf.tr s) _ (h.tm s)
  bx:=λi B hB=>by
   rw[B4.2.2.1]at hB;obtain⟨h1,h2,h3,vs,h4,h5⟩:=h.bx i B hB;exact⟨h1,h2,h3,vs,by rw[same _ (oM h hB) (λg hg e=>(hb g hg).2.2.2.1 i B hB e)];exact h4,h5.imp λx hx v hv=>nod x (h.wf.br i B hB x hx) v hv⟩
  inj:=λi j B B' hi hj e=>by rw[B4.2.2.1]at hi hj;exact h.inj i j B B' hi hj e
  rx:=λj R hR=>by
   by_cases F9:j=d
   ·subst F9;rw[Re,if_pos rfl]at hR;cases hR;simp only[if_true];refine⟨⟨vs',hown,xK⟩,λg hg=>?_⟩;obtain⟨h1,h2,h3,h4,_⟩:=DK g hg;exact⟨h1,h2,h3,λk B hB=>by rw[B4.2.2.1]at hB;exact h4 k B hB⟩
   obtain⟨h1,h2⟩:=tf j R hR F9;simp only[if_neg F9];obtain⟨⟨us,h3,h4⟩,h5⟩:=h.rx j R h1;refine⟨⟨us,dy h3 λg hg=>same g (mQ h h1 hg) (λg' Hy e=>by subst e;exact h2 g Hy hg),h4⟩,λg hg=>?_⟩;obtain⟨h6,h7,h8,h9⟩:=h5 g hg;exact⟨h6,h7,h8,λk B hB=>by rw[B4.2.2.1]at hB;exact h9 k B hB⟩
  fW:=λi j R R2 hi hj g h1 h2=>by
   by_cases Mj:i=d
   ·subst Mj;by_cases F9:j=i
    ·exact F9.symm
    simp only[if_true,if_neg F9]at h1 h2;exact absurd h2 ((DK g h1).2.2.2.2 j R2 hj F9)
   by_cases F9:j=d
   ·subst F9;simp only[if_true,if_neg Mj]at h1 h2;exact absurd h1 ((DK g h2).2.2.2.2 i R hi Mj)
   simp only[if_neg Mj,if_neg F9]at h1 h2;exact h.fW i j R R2 (tf i R hi Mj).1 (tf j R2 hj F9).1 g h1 h2
  iY:=h.iY
  ec:=λi v e=>by
   have:i≠d:=by have:=C.J9 i v e;omega
   simp only[if_neg this];exact h.ec i v e
  mg:=λb hb'=>by
   obtain⟨h1,h2⟩:=h.mg b hb';exact⟨Nat.lt_of_lt_of_le h1 hgrow.size,h2⟩
  jj:=by
   rw[B4.2.2.2.1,B4.2.2.2.2];exact C.jf _ _ _ _ _ _ _ h.jj (Mem.le_refl _) Ht (λ_ _ _ e=>.inl e) (λb DL=>same b (by
     rcases DL with DL|DL
     ·have:=h.grown;omega
     ·exact(h.mg b DL).1) (λg hg e=>by
     subst e;rcases DL with DL|DL
     ·rcases(hb _ hg).1 with h1|h1
      ·omega
      exact DL.2 h1
     exact(hb _ hg).2.2.1 DL)) hgrow.os hgrow.tape hgrow.output hgrow.size}
theorem bj.newRow{E:Env}{a:Act}{w w':World}(h:bj C S E a w){d:Nat}(hd:S.r d=.un)(sV:d<1000)(old:List (Nat×oI))(F8:Option Nat)
  (hold:(old=[]/\F8=none)\/∃i R,old=[(i,.dead)]/\S.r i=.live R/\F8=(E.ν i).ownBlock)
  {R':Row} {v':Value} {vs':List Value} (hown:w'.ownsRow 0 R'.E R'.sz v' R'.n vs') (xK:SV.eu E.M R'.cells vs') (Rd:v'.ownBlock=F8\/v'.ownBlock=some w.heap.size\/v'.ownBlock=none) (hgrow:w.grownBy w' F8):
  bj C (AS.cn (old++[(d,.live R')]) S) {E with ν:=λj=>if j=d then v' else E.ν j} a w':=
 h.E9 hd sV old F8 hold hown xK (λg hg=>by
  rcases Rd with h1|h1|h1
  ·exact .inl (by rw[<-h1,hg])
  ·rw[hg]at h1;cases h1;exact .inr (h.free (Nat.le_refl _))
  rw[hg]at h1;cases h1) hgrow
theorem xL{M:Mem}{b sz:Nat}:∀(rows:List (List SV)) (o:Nat),(∀(i:Nat) (row:List SV),rows[i]? =some row->row.length=sz/\∀(k:Nat) (s:SV),row[k]? =some s->∃y,M b (o+i*sz+k)=some y/\y.oneCell'=true/\s.h M y)->
  ∃vs:List Value,SV.eu M rows.flatten vs/\vs.length=rows.length*sz/\(∀u∈vs,u.oneCell'=true)/\∀(k:Nat) (v:Value),vs[k]? =some v->M b (o+k)=some v
 |[],_,_=>⟨[],aq,by simp,by simp,by simp⟩
 |row::rows,o,h=>by
  obtain⟨h1,h2⟩:=h 0 row Y;have one:∀(l:List SV) (o:Nat),(∀(k:Nat) (s:SV),l[k]? =some s->∃y,M b (o+k)=some y/\y.oneCell'=true/\s.h M y)->∃vs:List Value,SV.eu M l vs/\(∀u∈vs,u.oneCell'=true)/\∀(k:Nat) (v:Value),vs[k]? =some v->M b (o+k)=some v:=by
   intro l
   induction l with
   |nil=>intro o _;exact⟨[],aq,by simp,by simp⟩
   |cons s l ih=>
    intro o hl;obtain⟨y,hy,RB,hs⟩:=hl 0 s Y;obtain⟨vs,g1,g2,g3⟩:=ih (o+1) (λk s hk=>by
     have:=hl (k+1) s (by simpa using hk);rwa[show o+(k+1)=o+1+k by omega]at this)
    refine⟨y::vs,⟨hs,g1⟩,λu hu=>?_,λk v hk=>?_⟩
    ·rcases List.mem_cons.1 hu with rfl|hu
     ·exact RB
     exact g2 u hu
    cases k with
    |zero=>simp at hk;subst hk;exact hy
    |succ k=>rw[show o+(k+1)=o+1+k by omega];exact g3 k v (by simpa using hk)
  obtain⟨us,g1,g2,g3⟩:=one row o (λk s hk=>by have:=h2 k s hk;simpa using this);obtain⟨vs,g4,g5,g6,g7⟩:=xL (M:=M) (b:=b) (sz:=sz) rows (o+sz) (λi r hr=>by
   have:=h (i+1) r (by simpa using hr);rwa[show o+(i+1)*sz=o+sz+i*sz by rw[Nat.add_mul];omega]at this)
  have hl:=g1.length;refine⟨us++vs,?_,?_,λu hu=>?_,λk v hk=>?_⟩
  ·rw[List.flatten_cons];exact SV.eu.append g1 g4
  ·rw[List.length_append,g5,<-hl,h1,List.length_cons,Nat.add_mul];omega
  ·rcases List.mem_append.1 hu with hu|hu
   ·exact g2 u hu
   exact g6 u hu
  rw[List.getElem?_append]at hk;split at hk
  ·exact g3 k v hk
  have:=g7 _ v hk;rwa[show o+sz+(k-us.length)=o+k by omega]at this
theorem RT.Kr(hg:Gd ops S gd rg){n by_:Nat}{zv:Value}[tS:ep P T E0 n][tE:jU P E0 n by_ zv](old:List (Nat×oI))(rr:List Nat){m:Nat}{cs:List SV}{s:SV}{rows:List (List SV)}[hs:Kn s n rows]
  (hx:∀S' E a w,bj C S' E a w->S'.ev x=S.ev x->(∀i∈rr,S'.r i=S.r i)->(∃vs,w.ownsRow 0 E0 n (a.eval x) m vs/\SV.eu E.M cs vs)/\((old=[]/\(a.eval x).ownBlock=none)\/∃i R,old=[(i,.dead)]/\S'.r i=.live R/\(a.eval x).ownBlock=(E.ν i).ownBlock))
  (hy:S.ev y=.sv s) (hd:d<S.n) (vc:S.r d=.un) (sV:d<1000) (Ko:d∈rr) (hroom:(m+rows.length)*by_<=140737488355328) (qa:m+rows.length<=140737488355328) {R':Row} (A3:R'=⟨E0,n,m+rows.length,cs++rows.flatten⟩)
  (next:RunT P C ops nd K rest (⟨rg++(aZ x++aZ y),[],rr,⟨some (d,.row d),[],old++[(d,.live R')]⟩⟩::acc) ((AS.cn (old++[(d,.live R')]) S).set d (.row d))):RunT P C ops nd K (⟨some d,.call ⟨.builtin .append,#[x,y],#[T,T]⟩,ty,pos,aft,gd⟩::rest) acc S:=by
 subst A3;refine .inl ⟨_,[],rr,_,?_,next⟩;rintro S' hn ht _ hr i a w L Q ho ⟨E,h⟩ hL;refine ct (C:=C) ho (hg.wanted h (λs hs=>ht s (List.mem_append_left _ hs)) Y) ?_;obtain⟨⟨vs,hown,hvs⟩,hold⟩:=hx S' E a w h (bt (λ_ h=>List.mem_append_right _ (List.mem_append_left _ h)) ht) hr;have h2:=h.ev y;rw[bt (λ_ h=>List.mem_append_right _ (List.mem_append_right _ h)) ht,hy]at h2;obtain⟨info,hi,hsz,hby,hz⟩:=jU.info (P:=P) (E:=E0) (n:=n) (by_:=by_) (z:=zv);have Ga:S'.r d=.un:=by rw[hr d Ko];exact vc
 have run:∃v' w' vs',(Builtin.append_ #[T,T] ty #[a.eval x,a.eval y]).run P w=.ok v' w'/\w'.ownsRow 0 E0 n v' (m+rows.length) vs'/\SV.eu E.M (cs++rows.flatten) vs'/\w.grownBy w' (a.eval x).ownBlock/\(v'.ownBlock=(a.eval x).ownBlock\/v'.ownBlock=some w.heap.size\/v'.ownBlock=none):=by
  rcases hs.h _ _ h2 with⟨a0,e,e2⟩|⟨b,o,c,e,hc,Cd,hrow⟩
  ·rw[e,e2];cases a0 with
   |none=>exact⟨_,_,vs,run_append_owned_none w 0 T ty E0 info n tS.u hi _ m vs hown,by simpa using hown,by simpa using hvs,⟨Y,Y,Y,Nat.le_refl _,λ_ _ _=>Y⟩,.inl Y⟩
   |some a0=>
    rw[e2,List.length_nil]at hroom qa;obtain⟨v',w',q1,q2,q3,_,q4⟩:=run_append_own_at (P:=P) w 0 T ty E0 info zv n by_ tS.u hi hz hsz hby tE.z tE.p _ m vs hown a0 0 0 [] (by simp) (by simp) (by simp) (by unfold maxLen;omega) hroom (Nat.zero_le _);exact⟨v',w',vs,q1,by simpa using q2,by simpa using hvs,q3,q4.imp id .inl⟩
  obtain⟨us,g1,g2,g3,g4⟩:=xL rows o hrow;rw[e];obtain⟨v',w',q1,q2,q3,_,q4⟩:=run_append_own_at (P:=P) w 0 T ty E0 info zv n by_ tS.u hi hz hsz hby tE.z tE.p _ m vs hown ⟨b,o,none⟩ rows.length c us g2 (λj u hj=>by rw[fD];exact(h.dj _ _ _ (g4 j u hj)).cell (g3 u (List.mem_of_getElem? hj))) g3 (by unfold maxLen;omega) hroom (Nat.zero_le _);exact⟨v',w',vs++us,q1,q2,SV.eu.append hvs g1,q3,q4.imp id .inl⟩
 obtain⟨v',w',vs',q1,q2,q3,q4,q5⟩:=run;have hr':(execOp a.eval ⟨some d,.call ⟨.builtin .append,#[x,y],#[T,T]⟩,ty,pos,aft,gd⟩).run P w=.ok (.value v') w':=by
  simp[execOp,resolve,invoke,builtin,q1]
 refine cu (C:=C) (by intro c h;cases h) hr' (hL _ _ ⟨_,(h.newRow Ga sV old (a.eval x).ownBlock hold (R':=⟨E0,n,m+rows.length,cs++rows.flatten⟩) q2 q3 q5 q4).put (x:=.row d) (v:=v') (by simp[AV.holds]) (by rw[(iO _ _).1];omega) ⟨λ_ e=>e.elim,λj e=>?_⟩⟩);cases e;rw[nE];have:∀l:List (Nat×oI),gp (l++[(d,oI.live ⟨E0,n,m+rows.length,cs++rows.flatten⟩)]) d=some (.live ⟨E0,n,m+rows.length,cs++rows.flatten⟩):=by
  intro l
  induction l with
  |nil=>simp[gp]
  |cons p l ih=>obtain⟨i,R⟩:=p;rw[List.cons_append,gp,ih]
 rw[this];simp
theorem RT.Ks(hg:Gd ops S gd rg){n by_:Nat}{zv:Value}[tS:ep P T E0 n][tE:jU P E0 n by_ zv]{s:SV}{rows:List (List SV)}[hs:Kn s n rows]{i m:Nat}{cs:List SV}(hx:S.ev x=.row i)(hR:S.r i=.live ⟨E0,n,m,cs⟩)(hy:S.ev y=.sv s)(hd:d<S.n)(vc:S.r d=.un)(sV:d<1000)
  (hroom:(m+rows.length)*by_<=140737488355328) (qa:m+rows.length<=140737488355328) (R':Row) (A3:R'=⟨E0,n,m+rows.length,cs++rows.flatten⟩)
  (next:RunT P C ops nd K rest (⟨rg++(aZ x++aZ y),[],[i,d],⟨some (d,.row d),[],[(i,.dead),(d,.live R')]⟩⟩::acc) ((AS.cn [(i,.dead),(d,.live R')] S).set d (.row d))):RunT P C ops nd K (⟨some d,.call ⟨.builtin .append,#[x,y],#[T,T]⟩,ty,pos,aft,gd⟩::rest) acc S:=by
 refine RT.Kr hg [(i,.dead)] [i,d] (m:=m) (cs:=cs) (s:=s) (rows:=rows) (λS' E a w h e hr=>?_) hy hd vc sV (by simp) hroom qa A3 next
 have h1:a.eval x=E.ν i:=by have h1:=h.ev x;rw[e,hx]at h1;exact h1
 have A3:S'.r i=.live ⟨E0,n,m,cs⟩:=by rw[hr i (by simp)];exact hR
 rw[h1];obtain⟨⟨vs,h2,h3⟩,_⟩:=h.rx i _ A3;exact⟨⟨vs,h2,h3⟩,.inr ⟨i,_,Y,A3,Y⟩⟩
theorem RT.RF(hg:Gd ops S gd rg){n by_:Nat}{zv:Value}[tS:ep P T E0 n][tE:jU P E0 n by_ zv]{kl kc:IntKind}{c:Int}(hx:S.ev x=.sv (.v (.int kl 0)))(hy:S.ev y=.sv (.v (.int kc c)))(hd:d<S.n)(vc:S.r d=.un)(sV:d<1000)(h0:0<=c)(hroom:(by_:Int)*c<=281474976710656)(qa:c<=140737488355328)
  (next:RunT P C ops nd K rest (⟨rg++(aZ x++aZ y),[],[d],⟨some (d,.row d),[],[(d,.live ⟨E0,n,0,[]⟩)]⟩⟩::acc) ((AS.cn [(d,.live ⟨E0,n,0,[]⟩)] S).set d (.row d))):RunT P C ops nd K (⟨some d,.makeSlice T x y,ty,pos,aft,gd⟩::rest) acc S:=by
 refine .inl ⟨_,[],[d],_,?_,next⟩;rintro S' hn ht _ hr i a w L Q ho ⟨E,h⟩ hL;refine ct (C:=C) ho (hg.wanted h (λs hs=>ht s (List.mem_append_left _ hs)) Y) ?_;have h1:a.eval x=.int kl 0:=by have h1:=h.ev x;rw[bt (λ_ h=>List.mem_append_right _ (List.mem_append_left _ h)) ht,hx]at h1;exact h1
 have h2:a.eval y=.int kc c:=by have h2:=h.ev y;rw[bt (λ_ h=>List.mem_append_right _ (List.mem_append_right _ h)) ht,hy]at h2;exact h2
 obtain⟨info,hi,hsz,hby,hz⟩:=jU.info (P:=P) (E:=E0) (n:=n) (by_:=by_) (z:=zv);obtain⟨m,rfl⟩:=Int.eq_ofNat_of_zero_le h0;have hm:info.bytes*m<=281474976710656:=by
  rw[hby];have:((by_*m:Nat):Int)<=281474976710656:=by rw[Int.natCast_mul];exact hroom
  omega
 obtain⟨w',q1,q2,q3⟩:=run_make_own (P:=P) w 0 T E0 info zv n tS.u hi hz hsz kl kc m hm (by unfold maxLen;omega) (Nat.zero_le _);have hr':(execOp a.eval ⟨some d,.makeSlice T x y,ty,pos,aft,gd⟩).run P w=.ok (.value (.slice (some ⟨w.heap.size,0,none⟩) 0 m)) w':=by
  simp only[execOp,h1,h2];simp[q1]
 have Ga:S'.r d=.un:=by rw[hr d (by simp)];exact vc
 refine cu (C:=C) (by intro c h;cases h) hr' (hL _ _ ⟨_,(h.newRow Ga sV [] none (.inl ⟨rfl,rfl⟩) (R':=⟨E0,n,0,[]⟩) q2 (vs':=[]) trivial (.inr (.inl rfl)) q3).put (x:=.row d) (by simp[AV.holds]) (by show d<S'.n;omega) ⟨λ_ e=>e.elim,λj e=>?_⟩⟩);cases e;show(AS.rC S' d _).r d≠_;rw[AS.gV];simp
end steps
end
section
open Go.RowKit
def AV.mh(i:Nat)(X:SV):AV->AV
 |.row j=>bif Nat.beq j i then .sv X else .row j
 |.gZ j k=>bif Nat.beq j i then .sv .any else .gZ j k
 |.me j o l=>bif Nat.beq j i then .sv .any else .me j o l
 |.cmp t js=>bif js.any (Fc.vS i)then .sv .any else .cmp t js
 |x=>x
def AS.mh(S:AS)(i:Nat)(X:SV):AS:={S with t:=λs=>(S.t s).mh i X,b:=λj=>(S.b j).map λB=>⟨B.T,B.cells.map (AV.mh i X)⟩,r:=λj=>bif Nat.beq j i then .dead else S.r j}
theorem Hz{i:Nat}{X:SV}{x:AV}{j:Nat}(h:(x.mh i X).mb j):x.mb j:=by
 cases x with
 |row k=>simp only[AV.mh]at h;cases e:Nat.beq k i<;>rw[e]at h<;>exact h.elim
 |gZ k o=>simp only[AV.mh]at h;cases e:Nat.beq k i<;>rw[e]at h<;>exact h.elim
 |me k o l=>simp only[AV.mh]at h;cases e:Nat.beq k i<;>rw[e]at h<;>exact h.elim
 |cmp t js=>
  simp only[AV.mh]at h;cases e:js.any (Fc.vS i)with
  |true=>rw[e]at h;exact h.elim
  |false=>rw[e]at h;exact h
 |_=>exact h
theorem HA{i:Nat}{X:SV}{x:AV}{j:Nat}(h:(x.mh i X).mr j):x.mr j/\j≠i:=by
 cases x with
 |row k=>
  simp only[AV.mh]at h;cases e:Nat.beq k i with
  |true=>rw[e]at h;exact h.elim
  |false=>
   rw[e]at h;cases h;exact⟨rfl,by rintro rfl;simp at e⟩
 |gZ k o=>
  simp only[AV.mh]at h;cases e:Nat.beq k i with
  |true=>rw[e]at h;exact h.elim
  |false=>
   rw[e]at h;cases h;exact⟨rfl,by rintro rfl;simp at e⟩
 |me k o l=>
  simp only[AV.mh]at h;cases e:Nat.beq k i with
  |true=>rw[e]at h;exact h.elim
  |false=>
   rw[e]at h;cases h;exact⟨rfl,by rintro rfl;simp at e⟩
 |cmp t js=>
  simp only[AV.mh]at h;cases e:js.any (Fc.vS i)with
  |true=>rw[e]at h;exact h.elim
  |false=>
   rw[e]at h;refine⟨h,?_⟩;rintro rfl;have:js.any (Fc.vS j)=true:=List.any_eq_true.2 ⟨_,h,by simp[Fc.vS]⟩;rw[this]at e;cases e
 |_=>exact h.elim
def Rows(sz:Nat)(rows:List (List SV))(cells:List SV):Prop:=rows.flatten=cells/\∀r∈rows,r.length=sz
theorem qb{sz:Nat}:∀{rows:List (List SV)} {cells:List SV},Rows sz rows cells->∀(i:Nat) (row:List SV),rows[i]? =some row->row.length=sz/\∀(k:Nat) (s:SV),row[k]? =some s->cells[i*sz+k]? =some s
 |[],_,_,_,_,h=>by simp at h
 |r::rows,cells,⟨h1,h2⟩,0,row,h=>by
  simp at h;subst h;refine⟨h2 r (by simp),λk s hk=>?_⟩;rw[<-h1,List.flatten_cons];have hk':=(List.getElem?_eq_some_iff.1 hk).1;rw[Nat.zero_mul,Nat.zero_add,List.getElem?_append_left hk'];exact hk
 |r::rows,cells,⟨h1,h2⟩,i+1,row,h=>by
  have ih:=qb (sz:=sz) (rows:=rows) (cells:=rows.flatten) ⟨Y,λr hr=>h2 r (List.mem_cons_of_mem _ hr)⟩ i row (by simpa using h);refine⟨ih.1,λk s hk=>?_⟩;have hr:=h2 r (by simp);rw[<-h1,List.flatten_cons,List.getElem?_append_right (by rw[hr,Nat.add_mul];omega),hr,show(i+1)*sz+k-sz=i*sz+k by rw[Nat.add_mul];omega];exact ih.2 k s hk
theorem tg{sz:Nat}:∀{rows:List (List SV)} {cells:List SV},Rows sz rows cells->cells.length=rows.length*sz
 |[],_,⟨h,_⟩=>by rw[<-h];simp
 |r::rows,cells,⟨h1,h2⟩=>by
  have ih:=tg (sz:=sz) (rows:=rows) (cells:=rows.flatten) ⟨Y,λr hr=>h2 r (List.mem_cons_of_mem _ hr)⟩;rw[<-h1,List.flatten_cons,List.length_append,ih,h2 r (by simp),List.length_cons,Nat.add_mul];omega
theorem bj.mh{C:Ctx}{S:AS}{E:Env}{a:Act}{w:World}(h:bj C S E a w){i:Nat}{R:Row}(hR:S.r i=.live R){rows:List (List SV)}(kH:Rows R.sz rows R.cells)(hn:rows.length=R.n)(hlen:R.n<=9223372036854775807)(hone:∀M vs,SV.eu M R.cells vs->∀v∈vs,v.oneCell'=true)
  {X:SV} (hX:∀M v,(slc R.sz rows).h M v->(∀g,v.ownBlock=some g->(C.w0.heap.size<=g\/C.sQ g)/\∃o,M g o=some (.agg #[]))->X.h M v):∃E',bj C (S.mh i X) E' a w:=by
 obtain⟨⟨vs,hown,hvs⟩,HB⟩:=h.rx i R hR;have hvl:=hvs.length;have sS:=tg kH;obtain⟨M',hM,hval,hnew,hin,hmk⟩:∃M':Mem,E.M.le M'/\(slc R.sz rows).h M' (E.ν i)/\(∀b o v,M' b o=some v->E.M b o=some v\/(E.ν i).ownBlock=some b)/\M'.dj w/\∀g,(E.ν i).ownBlock=some g->∃o,M' g o=some (.agg #[]):=by
  rcases hown.2 with⟨h1,h2⟩|⟨g,cap,cur,h1,_,h2,h3,_,h5,h6⟩
  ·refine⟨E.M,Mem.le_refl _,.inl ⟨none,h1,?_⟩,λ_ _ _ e=>.inl e,h.dj,λg e=>by rw[h1]at e;cases e⟩;rw[h2]at hn;exact List.length_eq_zero_iff.1 hn
  have hg:(E.ν i).ownBlock=some g:=by rw[h1];rfl
  have hno:=(HB g hg).2.1;refine⟨λb o=>if b=g/\o<R.n*R.sz then vs[o]? else if b=g/\o=R.n*R.sz then some (.agg #[])else E.M b o,λb o v e=>?_,?_,λb o v e=>?_,λb o v e=>?_,λg' e=>⟨R.n*R.sz,by rw[hg]at e;cases e;simp⟩⟩
  ·have:b≠g:=by rintro rfl;rw[hno o]at e;cases e
   simp[this,e]
  ·refine .inr ⟨g,0,cap,by rw[h1,hn],by rw[hn];exact h3,by omega,λk row hk=>?_⟩;obtain⟨q1,q2⟩:=qb kH k row hk;refine⟨q1,λj s hs=>?_⟩;have wO:=q2 j s hs;obtain⟨y,hy,hys⟩:=hvs.get wO;have hlt:k*R.sz+j<R.n*R.sz:=by
    have:=(List.getElem?_eq_some_iff.1 wO).1;rw[sS,hn]at this;exact this
   refine⟨y,by simp[hlt,hy],hone _ _ hvs y (List.mem_of_getElem? hy),s.mono (λb o v e=>?_) hys⟩;have:b≠g:=by rintro rfl;rw[hno o]at e;cases e
   simp[this,e]
  ·simp only at e;split at e
   ·rename_i hc;exact .inr (by rw[hg,hc.1])
   split at e
   ·rename_i hc;exact .inr (by rw[hg,hc.1])
   exact .inl e
  simp only at e;split at e
  ·rename_i hc;obtain⟨rfl,Cd⟩:=hc;refine .of ?_ (hone _ _ hvs v (List.mem_of_getElem? e));simp only[World.cell?,h2];rw[<-h6,List.getElem?_take,if_pos Cd]at e;simpa using e
  split at e
  ·rename_i hc;cases e;rw[hc.1];exact⟨_,_,h2⟩
  exact h.dj b o v e
 have DL:∀b,(E.ν i).ownBlock=some b->(C.w0.heap.size<=b\/C.sQ b)/\(∀o,E.M b o=none)/\¬E.O b/\∀j B,S.b j=some B->E.β j≠b:=HB;have Cf:∀x:AV,(x.mr i->True)->∀v,x.holds E v->(x.mh i X).holds {E with M:=M'} v:=by
  intro x _ v hv;cases x with
  |row k=>
   simp only[AV.mh];cases e:Nat.beq k i with
   |true=>
    obtain rfl:=Nat.eq_of_beq_eq_true e;have hv:v=E.ν k:=hv;show X.h M' v;rw[hv];exact hX _ _ hval (λg hg=>⟨(HB g hg).1,hmk g hg⟩)
   |false=>exact hv
  |gZ k o=>
   simp only[AV.mh];cases e:Nat.beq k i with
   |true=>trivial
   |false=>exact hv
  |me k o l=>
   simp only[AV.mh];cases e:Nat.beq k i with
   |true=>trivial
   |false=>exact hv
  |cmp t js=>
   simp only[AV.mh];cases e:js.any (Fc.vS i)with
   |true=>trivial
   |false=>exact AV.cL (E:=E) (E':={E with M:=M'}) (x:=.cmp t js) hM (λ_ _=>rfl) (λ_ _=>rfl) hv
  |_=>exact AV.cL (E:=E) (E':={E with M:=M'}) hM (λ_ _=>rfl) (λ_ _=>rfl) hv
 have xM:∀b,(∀o,E.M b o=none)->(E.ν i).ownBlock≠some b->∀o,M' b o=none:=λb h1 h2 o=>by
  cases e:M' b o with
  |none=>rfl
  |some v=>
   rcases hnew b o v e with h3|h3
   ·rw[h1 o]at h3;cases h3
   exact absurd h3 h2
 have Gb:∀j B',(S.mh i X).b j=some B'->∃B,S.b j=some B/\B'=⟨B.T,B.cells.map (AV.mh i X)⟩:=by
  intro j B' jA;simp only[AS.mh]at jA;cases e:S.b j with
  |none=>rw[e]at jA;cases jA
  |some B=>rw[e]at jA;cases jA;exact⟨B,rfl,rfl⟩
 have Re:∀j,(S.mh i X).r j=if j=i then .dead else S.r j:=by
  intro j;simp only[AS.mh];by_cases e:j=i
  ·subst e;simp
  simp[cX e,e]
 have HC:∀j R',(S.mh i X).r j=.live R'->S.r j=.live R'/\j≠i:=by
  intro j R' hj;rw[Re]at hj;split at hj
  ·cases hj
  rename_i hne;exact⟨hj,hne⟩
 have Mq:∀j,S.r j≠ .un->(S.mh i X).r j≠ .un:=by
  intro j hj;rw[Re];split
  ·simp
  exact hj
 have Cg:∀j,(∃B,S.b j=some B)->∃B,(S.mh i X).b j=some B:=by
  rintro j ⟨B,hB⟩;exact⟨_,by simp only[AS.mh,hB,Option.map_some];rfl⟩
 refine⟨{E with M:=M'},{
  wf:=by
   refine⟨λs j hj=>Cg j (h.wf.tb s j (Hz hj)),λs j hj=>Mq j (h.wf.tr s j (HA hj).1),λk B' jA x hx j hj=>?_,λk B' jA x hx j hj=>?_⟩
   ·obtain⟨B,hB,rfl⟩:=Gb k B' jA;obtain⟨y,hy,rfl⟩:=List.mem_map.1 hx;exact Cg j (h.wf.bb k B hB y hy j (Hz hj))
   obtain⟨B,hB,rfl⟩:=Gb k B' jA;obtain⟨y,hy,rfl⟩:=List.mem_map.1 hx;exact Mq j (h.wf.br k B hB y hy j (HA hj).1)
  marks:=h.marks
  size:=h.size
  os:=h.os
  tape:=h.tape
  output:=h.output
  grown:=h.grown
  frame:=h.frame
  m0:=Mem.le_trans h.m0 hM
  fe:=λb o v e=>by
   rcases hnew b o v e with h1|h1
   ·exact h.fe b o v h1
   rcases(DL b h1).1 with h2|h2
   ·exact .inr (.inl h2)
   exact .inr (.inr (C.EZ _ h2))
  dj:=hin
  tm:=λs=>Cf _ (λ_=>trivial) _ (h.tm s)
  bx:=λj B' jA=>by
   obtain⟨B,hB,rfl⟩:=Gb j B' jA;obtain⟨h1,h2,h3,us,h4,h5⟩:=h.bx j B hB;refine⟨h1,xM _ h2 (λe=>(DL _ e).2.2.2 j B hB Y),h3,us,h4,?_⟩;have key:∀(l:List AV) (us:List Value),dx E l us->dx {E with M:=M'} (l.map (AV.mh i X)) us:=by
    intro l
    induction l with
    |nil=>intro us h;cases us with|nil=>trivial|cons _ _=>exact h.elim
    |cons x l ih=>
     intro us h;cases us with
     |nil=>exact h.elim
     |cons u us=>exact⟨Cf x (λ_=>trivial) u h.1,ih us h.2⟩
   exact key _ _ h5
  inj:=λj k B B' hj hk e=>by
   obtain⟨_,h1,_⟩:=Gb j B hj;obtain⟨_,h2,_⟩:=Gb k B' hk;exact h.inj j k _ _ h1 h2 e
  rx:=λj R' hj=>by
   obtain⟨h1,h2⟩:=HC j R' hj;obtain⟨⟨us,h3,h4⟩,h5⟩:=h.rx j R' h1;refine⟨⟨us,h3,h4.mono hM⟩,λg hg=>?_⟩;obtain⟨h6,h7,h8,h9⟩:=h5 g hg;refine⟨h6,xM _ h7 (λe=>h2 (h.fW j i R' R h1 hR g hg e)),h8,λk B' jA=>?_⟩;obtain⟨B,hB,_⟩:=Gb k B' jA;exact h9 k B hB
  fW:=λj k R1 R2 hj hk=>h.fW j k R1 R2 (HC j R1 hj).1 (HC k R2 hk).1
  iY:=h.iY
  ec:=h.ec
  mg:=λb hb=>by
   obtain⟨h1,h2,h3⟩:=h.mg b hb;exact⟨h1,xM b h2 (λe=>(DL b e).2.2.1 hb),h3⟩
  jj:=C.jf _ _ _ _ _ _ _ h.jj hM hin (λb o v e=>by
   rcases hnew b o v e with h1|h1
   ·exact .inl h1
   exact .inr ⟨(DL b h1).1,(DL b h1).2.2.1⟩) (λ_ _=>rfl) rfl rfl rfl (Nat.le_refl _)}⟩
def oc(g:FuncId)(caps:List SV):SV:=⟨λM v=>∃vs:List Value,v=.func (.func g) #[] ⟨vs⟩/\SV.eu M caps vs,λhM ⟨vs,e,h⟩=>⟨vs,e,h.mono hM⟩⟩
def oK.mh(i:Nat)(cs:List SV):oK->oK
 |.box j=>bif Nat.beq j i then .val (ref cs)else .box j
 |c=>c
def oK.vY(i:Nat):oK->oK
 |.box j=>bif Nat.beq j i then .val .any else .box j
 |c=>c
def AV.vY(i:Nat):AV->AV
 |.ptr j o=>bif Nat.beq j i then .sv .any else .ptr j o
 |.B3 j o l c=>bif Nat.beq j i then .sv .any else .B3 j o l c
 |.fO g js=>.fO g (js.map (oK.vY i))
 |.cmp t js=>bif js.any (Fc.Ad i)then .sv .any else .cmp t js
 |x=>x
def HD:List (Nat×AV)->Nat->Option AV
 |[],_=>none
 |(k,x)::l,s=>bif Nat.beq s k then some x else HD l s
def AS.Ch(S:AS)(i:Nat)(ts:List (Nat×AV)):AS:={S with t:=λs=>(HD ts s).getD ((S.t s).vY i),b:=λj=>bif Nat.beq j i then none else(S.b j).map λB=>⟨B.T,B.cells.map (AV.vY i)⟩}
theorem DM{i:Nat}{x:AV}{j:Nat}(h:(x.vY i).mb j):x.mb j/\j≠i:=by
 cases x with
 |ptr k o=>
  simp only[AV.vY]at h;cases e:Nat.beq k i with
  |true=>rw[e]at h;exact h.elim
  |false=>rw[e]at h;cases h;exact⟨rfl,by rintro rfl;simp at e⟩
 |B3 k o l c=>
  simp only[AV.vY]at h;cases e:Nat.beq k i with
  |true=>rw[e]at h;exact h.elim
  |false=>rw[e]at h;cases h;exact⟨rfl,by rintro rfl;simp at e⟩
 |fO g js=>
  have h:oK.box j∈js.map (oK.vY i):=h;obtain⟨c,hc,e⟩:=List.mem_map.1 h;cases c with
  |val s=>cases e
  |box k=>
   simp only[oK.vY]at e;cases e2:Nat.beq k i with
   |true=>rw[e2]at e;cases e
   |false=>rw[e2]at e;cases e;exact⟨hc,by rintro rfl;simp at e2⟩
 |cmp t js=>
  simp only[AV.vY]at h;cases e:js.any (Fc.Ad i)with
  |true=>rw[e]at h;exact h.elim
  |false=>
   rw[e]at h;refine⟨h,?_⟩;rintro rfl;have:js.any (Fc.Ad j)=true:=List.any_eq_true.2 ⟨_,h,by simp[Fc.Ad]⟩;rw[this]at e;cases e
 |_=>exact h.elim
theorem HE{i:Nat}{x:AV}{j:Nat}(h:(x.vY i).mr j):x.mr j:=by
 cases x with
 |ptr k o=>simp only[AV.vY]at h;cases e:Nat.beq k i<;>rw[e]at h<;>exact h.elim
 |B3 k o l c=>simp only[AV.vY]at h;cases e:Nat.beq k i<;>rw[e]at h<;>exact h.elim
 |fO g js=>exact h.elim
 |cmp t js=>
  simp only[AV.vY]at h;cases e:js.any (Fc.Ad i)with
  |true=>rw[e]at h;exact h.elim
  |false=>rw[e]at h;exact h
 |_=>exact h
inductive FT (S:AS) (i:Nat) (cs:List SV) (X:SV) (L:Nat):Nat->AV->Prop
 |sl {s:Nat} (h:S.t s=.B3 i 0 L L):FT S i cs X L s (.sv X)
 |ptr {s o:Nat} (h:S.t s=.ptr i o):FT S i cs X L s (.sv (ref (cs.drop o)))
 |fO {s:Nat} {g:FuncId} {js:List oK} (h:S.t s=.fO g js):FT S i cs X L s (.fO g (js.map (oK.mh i cs)))
def Rf(S:AS)(i:Nat)(cs:List SV)(X:SV)(L:Nat):List (Nat×AV)->Prop
 |[]=>True
 |(k,x)::l=>FT S i cs X L k x/\Rf S i cs X L l
theorem Rf.get{S:AS}{i:Nat}{cs:List SV}{X:SV}{L:Nat}:∀{ts:List (Nat×AV)},Rf S i cs X L ts->∀s x,HD ts s=some x->FT S i cs X L s x
 |[],_,_,_,h=>by cases h
 |(k,y)::l,hf,s,x,h=>by
  by_cases e:s=k
  ·subst e;simp[HD]at h;subst h;exact hf.1
  simp only[HD,cX e,cond_false]at h;exact Rf.get hf.2 s x h
theorem bj.Ch{C:Ctx}{S:AS}{E:Env}{a:Act}{w:World}(h:bj C S E a w){i:Nat}{B:nC}(hB:S.b i=some B){cs:List SV}(Hw:Hf B.cells 0 cs){X:SV}{L:Nat}
  (hX:∀M b,(∀(k:Nat) (s:SV),cs[k]? =some s->∃y,M b k=some y/\y.oneCell'=true/\s.h M y)->X.h M (.slice (some ⟨b,0,none⟩) L L)) (hone:∀M vs,SV.eu M cs vs->∀v∈vs,v.oneCell'=true)
  {ts:List (Nat×AV)} (hts:Rf S i cs X L ts):∃E',bj C (S.Ch i ts) E' a w:=by
 obtain⟨A4,Ci,hb3,vs,hv,hall⟩:=h.bx i B hB;obtain⟨us,zB,jX⟩:=Hw.vals hall
 let M':Mem:=λb o=>if b=E.β i then us[o]? else E.M b o
 have hM:E.M.le M':=λb o v e=>by
  have:b≠E.β i:=by rintro rfl;rw[Ci o]at e;cases e
  simp[M',this,e]
 have hnew:∀b o v,M' b o=some v->E.M b o=some v\/b=E.β i:=λb o v e=>by
  by_cases hb:b=E.β i
  ·exact .inr hb
  simp only[M',if_neg hb]at e;exact .inl e
 have hin:M'.dj w:=λb o v e=>by
  by_cases hb:b=E.β i
  ·subst hb;simp only[M',if_true]at e;have:=jX o v e;refine .of ?_ (hone _ _ zB v (List.mem_of_getElem? e));simp[World.cell?,hv];simpa using this
  simp only[M',if_neg hb]at e;exact h.dj b o v e
 have hcs:∀(k:Nat) (s:SV),cs[k]? =some s->∃y,M' (E.β i) k=some y/\y.oneCell'=true/\s.h M' y:=λk s hk=>by
  obtain⟨y,hy,hs⟩:=zB.get hk;exact⟨y,by simp[M',hy],hone _ _ zB y (List.mem_of_getElem? hy),s.mono hM hs⟩
 have xM:∀b,(∀o,E.M b o=none)->b≠E.β i->∀o,M' b o=none:=λb h1 h2 o=>by simp[M',h2,h1 o]
 have RG:∀o,(ref (cs.drop o)).h M' (.pointer (some ⟨E.β i,o,none⟩)):=λo=>⟨E.β i,o,Y,λj s hj=>by
  rw[List.getElem?_drop]at hj;exact hcs _ s hj⟩
 have Cf:∀x:AV,∀v,x.holds E v->(x.vY i).holds {E with M:=M'} v:=by
  intro x v wP;cases x with
  |ptr k o=>
   simp only[AV.vY];cases e:Nat.beq k i with
   |true=>trivial
   |false=>exact wP
  |B3 k o l c=>
   simp only[AV.vY];cases e:Nat.beq k i with
   |true=>trivial
   |false=>exact wP
  |fO g js=>
   obtain⟨ws,rfl,hc⟩:=wP;refine⟨ws,Y,?_⟩;have key:∀(l:List oK) (ws:List Value),wM E l ws->wM {E with M:=M'} (l.map (oK.vY i)) ws:=by
    intro l
    induction l with
    |nil=>intro ws h;cases ws with|nil=>trivial|cons _ _=>exact h.elim
    |cons c l ih=>
     intro ws h;cases ws with
     |nil=>exact h.elim
     |cons u ws=>
      refine⟨?_,ih ws h.2⟩;have h1:=h.1;cases c with
      |val s=>exact s.mono hM h1
      |box k=>
       simp only[oK.vY];cases e:Nat.beq k i with
       |true=>trivial
       |false=>exact h1
   exact key js ws hc
  |sv s=>exact s.mono hM wP
  |row k=>exact wP
  |gZ k o=>exact wP
  |me k o l=>exact wP
  |cmp t js=>
   simp only[AV.vY];cases e:js.any (Fc.Ad i)with
   |true=>trivial
   |false=>exact AV.cL (E:=E) (E':={E with M:=M'}) (x:=.cmp t js) hM (λ_ _=>rfl) (λ_ _=>rfl) wP
 have RH:∀s v,(S.t s).holds E v->((HD ts s).getD ((S.t s).vY i)).holds {E with M:=M'} v:=by
  intro s v wP;cases e:HD ts s with
  |none=>exact Cf _ v wP
  |some x=>
   show x.holds _ v;cases hts.get s x e with
   |sl h1=>rw[h1]at wP;have wP:v=_:=wP;subst wP;exact hX M' _ hcs
   |ptr h1=>rw[h1]at wP;have wP:v=_:=wP;subst wP;exact RG _
   | @fO g js h1=>
    rw[h1]at wP;obtain⟨ws,rfl,hc⟩:=wP;refine⟨ws,Y,?_⟩;have key:∀(l:List oK) (ws:List Value),wM E l ws->wM {E with M:=M'} (l.map (oK.mh i cs)) ws:=by
     intro l
     induction l with
     |nil=>intro ws h;cases ws with|nil=>trivial|cons _ _=>exact h.elim
     |cons c l ih=>
      intro ws h;cases ws with
      |nil=>exact h.elim
      |cons u ws=>
       refine⟨?_,ih ws h.2⟩;have h1:=h.1;cases c with
       |val s=>exact s.mono hM h1
       |box k=>
        simp only[oK.mh];cases e:Nat.beq k i with
        |true=>
         obtain rfl:=Nat.eq_of_beq_eq_true e;have h1:u=.pointer (some ⟨E.β k,0,none⟩):=h1;subst h1;exact RG 0
        |false=>exact h1
    exact key js ws hc
 have Gb:∀j B',(S.Ch i ts).b j=some B'->∃B,S.b j=some B/\j≠i/\B'=⟨B.T,B.cells.map (AV.vY i)⟩:=by
  intro j B' jA;simp only[AS.Ch]at jA;by_cases hj:j=i
  ·subst hj;simp at jA
  rw[cX hj]at jA;cases e:S.b j with
  |none=>rw[e]at jA;cases jA
  |some B=>rw[e]at jA;cases jA;exact⟨B,rfl,hj,rfl⟩
 have Cg:∀j,j≠i->(∃B,S.b j=some B)->∃B,(S.Ch i ts).b j=some B:=by
  rintro j hj ⟨B,hB⟩;exact⟨⟨B.T,B.cells.map (AV.vY i)⟩,by simp[AS.Ch,cX hj,hB]⟩
 have tmb:∀s j,((HD ts s).getD ((S.t s).vY i)).mb j->(S.t s).mb j/\j≠i:=by
  intro s j hj;cases e:HD ts s with
  |none=>rw[e]at hj;exact DM hj
  |some x=>
   rw[e]at hj;cases hts.get s x e with
   |sl h1=>exact hj.elim
   |ptr h1=>exact hj.elim
   | @fO g js h1=>
    rw[h1];have hj:oK.box j∈js.map (oK.mh i cs):=hj;obtain⟨c,hc,e2⟩:=List.mem_map.1 hj;cases c with
    |val s=>cases e2
    |box k=>
     simp only[oK.mh]at e2;cases e3:Nat.beq k i with
     |true=>rw[e3]at e2;cases e2
     |false=>rw[e3]at e2;cases e2;exact⟨hc,by rintro rfl;simp at e3⟩
 have tmr:∀s j,((HD ts s).getD ((S.t s).vY i)).mr j->(S.t s).mr j:=by
  intro s j hj;cases e:HD ts s with
  |none=>rw[e]at hj;exact HE hj
  |some x=>
   rw[e]at hj;cases hts.get s x e with
   |sl h1=>exact hj.elim
   |ptr h1=>exact hj.elim
   |fO h1=>exact hj.elim
 refine⟨{E with M:=M'},{
  wf:=by
   refine⟨λs j hj=>Cg j (tmb s j hj).2 (h.wf.tb s j (tmb s j hj).1),λs j hj=>h.wf.tr s j (tmr s j hj),λk B' jA x hx j hj=>?_,λk B' jA x hx j hj=>?_⟩
   ·obtain⟨B,hB,_,rfl⟩:=Gb k B' jA;obtain⟨y,hy,rfl⟩:=List.mem_map.1 hx;exact Cg j (DM hj).2 (h.wf.bb k B hB y hy j (DM hj).1)
   obtain⟨B,hB,_,rfl⟩:=Gb k B' jA;obtain⟨y,hy,rfl⟩:=List.mem_map.1 hx;exact h.wf.br k B hB y hy j (HE hj)
  marks:=h.marks
  size:=h.size
  os:=h.os
  tape:=h.tape
  output:=h.output
  grown:=h.grown
  frame:=h.frame
  m0:=Mem.le_trans h.m0 hM
  fe:=λb o v e=>by
   rcases hnew b o v e with h1|rfl
   ·exact h.fe b o v h1
   rcases A4 with h2|h2
   ·exact .inr (.inl h2)
   exact .inr (.inr (C.EZ _ h2))
  dj:=hin
  tm:=λs=>RH s _ (h.tm s)
  bx:=λj B' jA=>by
   obtain⟨B1,Uz,hj,rfl⟩:=Gb j B' jA;obtain⟨h1,h2,h3,ws,h4,h5⟩:=h.bx j B1 Uz;refine⟨h1,xM _ h2 (λe=>hj (h.inj j i B1 B Uz hB e)),h3,ws,h4,?_⟩;have key:∀(l:List AV) (us:List Value),dx E l us->dx {E with M:=M'} (l.map (AV.vY i)) us:=by
    intro l
    induction l with
    |nil=>intro us h;cases us with|nil=>trivial|cons _ _=>exact h.elim
    |cons x l ih=>
     intro us h;cases us with
     |nil=>exact h.elim
     |cons u us=>exact⟨Cf x u h.1,ih us h.2⟩
   exact key _ _ h5
  inj:=λj k B1 B2 hj hk e=>by
   obtain⟨_,h1,_⟩:=Gb j B1 hj;obtain⟨_,h2,_⟩:=Gb k B2 hk;exact h.inj j k _ _ h1 h2 e
  rx:=λj R' hj=>by
   obtain⟨⟨ws,h3,h4⟩,h5⟩:=h.rx j R' hj;refine⟨⟨ws,h3,h4.mono hM⟩,λg hg=>?_⟩;obtain⟨h6,h7,h8,h9⟩:=h5 g hg;refine⟨h6,xM _ h7 (λe=>h9 i B hB e.symm),h8,λk B' jA=>?_⟩;obtain⟨B1,Uz,_⟩:=Gb k B' jA;exact h9 k B1 Uz
  fW:=h.fW
  iY:=h.iY
  ec:=h.ec
  mg:=λb hb=>by
   obtain⟨h1,h2,h3⟩:=h.mg b hb;exact⟨h1,xM b h2 (λe=>hb3 (e▸hb)),h3⟩
  jj:=C.jf _ _ _ _ _ _ _ h.jj hM hin (λb o v e=>by
   rcases hnew b o v e with h1|rfl
   ·exact .inl h1
   exact .inr ⟨A4,hb3⟩) (λ_ _=>rfl) rfl rfl rfl (Nat.le_refl _)}⟩
theorem gX{S:AS}{i:Nat}{B:nC}(hB:S.b i=some B)(cs:List SV)(Hw:Hf B.cells 0 cs)(X:SV)(L:Nat)(ts:List (Nat×AV))
  (hX:∀M b,(∀(k:Nat) (s:SV),cs[k]? =some s->∃y,M b k=some y/\y.oneCell'=true/\s.h M y)->X.h M (.slice (some ⟨b,0,none⟩) L L)) (hone:∀M vs,SV.eu M cs vs->∀v∈vs,v.oneCell'=true)
  (hts:Rf S i cs X L ts):rD S (S.Ch i ts):=λ_ _ _ ⟨_,h⟩=>h.Ch hB Hw hX hone hts
end
section
open Go.RowKit
section lits
variable {P:Program}{C:Ctx}{ops:Array Oper}{S:AS}{nd:Bool}{K:List Ac->AS->Prop}{rest:List Oper}{acc:List Ac}
variable {gd:Option (Nat×Bool)}{rg:List Nat}{d:Nat}{ty:TypeId}{pos:String}{aft:Array Edge}{x y z:Operand}{T U E0:TypeId}
inductive mm (S:AS):List (Nat×Operand)->List (Nat×List SV)->Prop
 |nil:mm S [] []
 |agg {i:Nat} {x:Operand} {l:List SV} {ps:List (Nat×Operand)} {qs:List (Nat×List SV)} [o:pN l] (h:S.ev x=.sv (.agg l)) (t:mm S ps qs):mm S ((i,x)::ps) ((i,l)::qs)
 |one {i:Nat} {x:Operand} {s:SV} {ps:List (Nat×Operand)} {qs:List (Nat×List SV)} [o:One s] (h:S.ev x=.sv s) (t:mm S ps qs):mm S ((i,x)::ps) ((i,[s])::qs)
def rN(place:Nat->Option (Nat×Nat))(cells:List SV):List (Nat×List SV)->Option (List SV)
 |[]=>some cells
 |(i,v)::rest=>match place i with
  |none=>none
  |some (off,size)=>bif Nat.beq v.length size&&Nat.ble (off+v.length) cells.length then rN place (kE cells off v) rest else none
def j1(ps:List (Nat×Operand)):List Nat:=ps.flatMap λp=>aZ p.2
theorem Cj:∀(us:List Value) (cs:Array Value) (off k:Nat),(us.zipIdx k).foldl (λcs (p:Value×Nat)=>cs.setIfInBounds (off+p.2) p.1) cs=⟨kE cs.toList (off+k) us⟩
 |[],cs,off,k=>by simp[kE]
 |u::us,cs,off,k=>by
  rw[List.zipIdx_cons,List.foldl_cons,Cj us,kE];simp[Nat.add_assoc]
theorem xN{M:Mem}:∀{xs:List SV} {us:List Value} {l:List SV} {vs:List Value} {k:Nat},SV.eu M l vs->SV.eu M xs us->SV.eu M (kE l k xs) (kE vs k us):=by
 have set:∀{l:List SV} {xs:List Value} {i:Nat} {s:SV} {x:Value},SV.eu M l xs->s.h M x->SV.eu M (l.set i s) (xs.set i x):=by
  intro l
  induction l with
  |nil=>intro xs i s x h hs;cases xs with|nil=>exact h|cons _ _=>exact h.elim
  |cons t l ih=>
   intro xs i s x h hs;cases xs with
   |nil=>exact h.elim
   |cons u xs=>
    cases i with
    |zero=>exact⟨hs,h.2⟩
    |succ i=>exact⟨h.1,ih h.2 hs⟩
 intro xs
 induction xs with
 |nil=>intro us l vs k h hx;cases us with|nil=>exact h|cons _ _=>exact hx.elim
 |cons s xs ih=>
  intro us l vs k h hx;cases us with
  |nil=>exact hx.elim
  |cons u us=>rw[kE,kE];exact ih (set h hx.1) hx.2
theorem xO{E:Env}{a:Act}{w:World}{S':AS}(h:bj C S' E a w)(place:Nat->Option (Nat×Nat)):∀{ps:List (Nat×Operand)} {qs:List (Nat×List SV)},mm S ps qs->(∀s∈j1 ps,S'.t s=S.t s)->∀{cells:List SV} {vs:List Value} {cs:List SV},
  SV.eu E.M cells vs->(∀v∈vs,v.oneCell'=true)->rN place cells qs=some cs->∃us:List Value,Instr.fill place ⟨vs⟩ (ps.map λp=>(p.1,a.eval p.2))=some ⟨us⟩/\SV.eu E.M cs us/\(∀v∈us,v.oneCell'=true):=by
 intro ps qs hp
 induction hp with
 |nil=>intro _ cells vs cs hv h1 hf;cases hf;exact⟨vs,rfl,hv,h1⟩
 | @agg i x l ps qs o hx _ ih=>
  intro ht cells vs cs hv h1 hf;have hx':=h.ev x;rw[bt (rs:=j1 ((i,x)::ps)) (λs hs=>by simp only[j1,List.flatMap_cons];exact List.mem_append_left _ hs) ht,hx]at hx';obtain⟨us,hu,zB⟩:=hx';have hl:=zB.length;have hvl:=hv.length;rw[rN]at hf;rw[List.map_cons,Instr.fill];simp only[hu];cases RI:place i with
  |none=>rw[RI]at hf;cases hf
  |some q=>
   obtain⟨off,size⟩:=q;rw[RI]at hf;simp only at hf⊢;cases hc:(Nat.beq l.length size&&Nat.ble (off+l.length) cells.length)with
   |false=>rw[hc]at hf;cases hf
   |true=>
    rw[hc]at hf;simp only[cond_true]at hf;rw[Bool.and_eq_true]at hc;have e1:=Nat.eq_of_beq_eq_true hc.1;have e2:=af hc.2;have Cd:((Value.agg ⟨us⟩).cells.size≠size||off+(Value.agg ⟨us⟩).cells.size>(⟨vs⟩:Array Value).size)=false:=by
     simp[Value.cells];omega
    rw[if_neg (by rw[Cd];simp)];have hfs:(Value.agg ⟨us⟩).cells.zipIdx.foldl (λ(cs:Array Value) (p:Value×Nat)=>cs.setIfInBounds (off+p.2) p.1) (⟨vs⟩:Array Value)=(⟨kE vs off us⟩:Array Value):=by
     have:=Cj us ⟨vs⟩ off 0;rw[<-Array.foldl_toList];simpa[Value.cells]using this
    have hone:∀v∈kE vs off us,v.oneCell'=true:=by
     have AW:∀(xs l:List Value) (k:Nat) (x:Value),x∈kE l k xs->x∈l\/x∈xs:=by
      intro xs
      induction xs with
      |nil=>intro l k x hx;exact .inl hx
      |cons z xs ih=>
       intro l k x hx;rw[kE]at hx;rcases ih _ _ _ hx with h1|h1
       ·rcases List.mem_or_eq_of_mem_set h1 with h2|h2
        ·exact .inl h2
        exact .inr (by simp[h2])
       exact .inr (List.mem_cons_of_mem _ h1)
     intro v wP;rcases AW _ _ _ _ wP with h2|h2
     ·exact h1 v h2
     exact o.h _ _ zB v h2
    obtain⟨VD,g1,g2,g3⟩:=ih (λs hs=>ht s (by simp only[j1,List.flatMap_cons];exact List.mem_append_right _ hs)) (xN hv zB) hone hf;refine⟨VD,?_,g2,g3⟩;rw[<-g1];congr 1
 | @one i x s ps qs o hx _ ih=>
  intro ht cells vs cs hv h1 hf;have hx':=h.ev x;rw[bt (rs:=j1 ((i,x)::ps)) (λs hs=>by simp only[j1,List.flatMap_cons];exact List.mem_append_left _ hs) ht,hx]at hx';have Mr:=o.h _ _ hx';have hvl:=hv.length;rw[rN]at hf;rw[List.map_cons,Instr.fill];simp only[gW Mr];cases RI:place i with
  |none=>rw[RI]at hf;cases hf
  |some q=>
   obtain⟨off,size⟩:=q;rw[RI]at hf;simp only at hf⊢;cases hc:(Nat.beq [s].length size&&Nat.ble (off+[s].length) cells.length)with
   |false=>rw[hc]at hf;cases hf
   |true=>
    rw[hc]at hf;simp only[cond_true]at hf;rw[Bool.and_eq_true]at hc;have e1:=Nat.eq_of_beq_eq_true hc.1;have e2:=af hc.2;simp only[List.length_cons,List.length_nil]at e1 e2;have Cd:((#[a.eval x]:Array Value).size≠size||off+(#[a.eval x]:Array Value).size>(⟨vs⟩:Array Value).size)=false:=by
     simp;omega
    rw[if_neg (by rw[Cd];simp)];obtain⟨VD,g1,g2,g3⟩:=ih (λs hs=>ht s (by simp only[j1,List.flatMap_cons];exact List.mem_append_right _ hs)) (xN (xs:=[s]) (us:=[a.eval x]) hv ⟨hx',aq⟩) (λv wP=>by
     rw[kE,kE]at wP;rcases List.mem_or_eq_of_mem_set wP with h2|h2
     ·exact h1 v h2
     rw[h2];exact Mr) hf
    refine⟨VD,?_,g2,g3⟩;rw[<-g1];congr 1;simp[kE]
class lj (P:Program) (T:TypeId) (pl:outParam (List (Nat×Nat))) (z:outParam (List Value)):Prop where
 h:(match P.underlying T with|some (.struct fs)=>fs.toList.mapM (λf=>(P.info? f.type).map λi=>(f.offset,i.size))|_=>none)=some pl
 hz:(P.info? T).bind (·.zero)=some (.agg ⟨z⟩)
 o:z.all (λv=>v.oneCell')=true
theorem qc{fs:List Field}{pl:List (Nat×Nat)}{w:World}(h:fs.mapM (λf=>(P.info? f.type).map λi=>(f.offset,i.size))=some pl):
  (fs.mapM (λf=>do pure (f.offset,<-sizeOf f.type):Field->Sem (Nat×Nat))).run P w=.ok pl w:=by
 induction fs generalizing pl with
 |nil=>simp at h;subst h;rfl
 |cons f fs ih=>
  rw[List.mapM_cons]at h⊢;cases hi:P.info? f.type with
  |none=>rw[hi]at h;simp at h
  |some i=>
   rw[hi]at h;cases hr:fs.mapM (λf=>(P.info? f.type).map λi=>(f.offset,i.size))with
   |none=>rw[hr]at h;simp at h
   |some pl'=>
    rw[hr]at h;simp at h;have hs:(sizeOf f.type).run P w=.ok i.size w:=by simp[sizeOf,typeInfo,hi]
    simp only[Sem.run_bind,hs,Result.andThen_ok,Sem.run_pure,ih hr];rw[<-h]
theorem RT.build(hg:Gd ops S gd rg){pl:List (Nat×Nat)}{zc:List Value}[tP:lj P T pl zc]{parts:Array (Nat×Operand)}{qs:List (Nat×List SV)}(hp:mm S parts.toList qs){cs:List SV}(hf:rN (λi=>pl[i]?) (zc.map SV.v) qs=some cs)(hd:d<S.n)
  (next:RunT P C ops nd K rest (⟨rg++j1 parts.toList,[],[],⟨some (d,.sv (.agg cs)),[],[]⟩⟩::acc) (S.set d (.sv (.agg cs)))):RunT P C ops nd K (⟨some d,.build T parts,ty,pos,aft,gd⟩::rest) acc S:=
 RT.value hg (j1 parts.toList) [] [] (.sv (.agg cs)) hd (by intro c h;cases h) (λS' ht _ _ E a w h=>by
  have hu:=tP.h;cases hT:P.underlying T with
  |none=>rw[hT]at hu;cases hu
  |some u=>
   rw[hT]at hu;cases u with
   |struct fs=>
    simp only at hu;have hz:(zeroValue T).run P w=.ok (.agg ⟨zc⟩) w:=jZ.run (t:=⟨tP.hz⟩) w;obtain⟨us,h1,h2,_⟩:=xO h (λi=>pl[i]?) hp ht (cells:=zc.map SV.v) (vs:=zc) (by
     clear hf;have:∀l:List Value,SV.eu E.M (l.map SV.v) l:=by
      intro l;induction l with
      |nil=>trivial
      |cons v l ih=>exact⟨Y,ih⟩
     exact this zc) (List.all_eq_true.1 tP.o) hf
    refine⟨.agg ⟨us⟩,?_,⟨us,Y,h2⟩,fC⟩;have hm:(fs.mapM (λf=>do pure (f.offset,<-sizeOf f.type):Field->Sem (Nat×Nat))).run P w=.ok pl.toArray w:=by
     have:=qc (P:=P) (w:=w) hu;rw[<-Array.toArray_toList (xs:=fs),List.mapM_toArray];rw[Sem.run_map,this];rfl
    have e3:(parts.map λp=>(p.1,a.eval p.2)).toList=parts.toList.map λp=>(p.1,a.eval p.2):=by simp
    have h1':Instr.fill (λi=>pl.toArray[i]?) ⟨zc⟩ (parts.toList.map λp=>(p.1,a.eval p.2))=some ⟨us⟩:=by simpa using h1
    simp only[execOp,Instr.build,underlying];simp only[Sem.run_bind,hz,Result.andThen_ok,run_program,hT,Sem.run_pure,Value.cells];have hm':(Array.mapM (λf=>do
      let __do_lift<-sizeOf f.type
      pure (f.offset,__do_lift)) fs:Sem _).run P w=.ok pl.toArray w:=hm
    simp only[hm',Result.andThen_ok];have e4:(Array.map (λx=>match x with|(i,x)=>(i,a.eval x)) parts).toList=parts.toList.map λp=>(p.1,a.eval p.2):=by simp
    simp only[e4,h1',Sem.run_pure,Result.andThen_ok]
   |_=>cases hu) next
def Mem.add(M:Mem)(g:Nat)(vs:List Value):Mem:=λb o=>if b=g then vs[o]? else M b o
theorem bj.Oo{E:Env}{a:Act}{w:World}(h:bj C S E a w)(vs:List Value)(T:TypeId)(hone:∀v∈vs,v.oneCell'=true):bj C S {E with M:=E.M.add w.heap.size vs} a (w.alloc (.cells ⟨vs⟩ T)):=by
 have hno:∀o,E.M w.heap.size o=none:=λo=>by
  cases e:E.M w.heap.size o with
  |none=>rfl
  |some v=>have:=lY h.dj e;omega
 refine h.grow (λb o v e=>?_) (λb o v e=>?_) (λb o v e=>?_) (((Below.refl _ _).alloc (Nat.le_refl _) _))
 ·have:b≠w.heap.size:=by rintro rfl;rw[hno o]at e;cases e
  simp[Mem.add,this,e]
 ·by_cases hb:b=w.heap.size
  ·exact .inr (by omega)
  simp only[Mem.add,if_neg hb]at e;exact .inl e
 by_cases hb:b=w.heap.size
 ·subst hb;simp only[Mem.add,if_true]at e;refine .of ?_ (hone v (List.mem_of_getElem? e));rw[World.cell?_alloc_new];simpa using e
 simp only[Mem.add,if_neg hb]at e;refine(h.dj b o v e).same ?_;show(w.heap.push _)[b]? =_;rw[Array.getElem?_push,if_neg hb]
def nQ:Nat->List (Nat×List SV)->Bool
 |_,[]=>true
 |k,(i,_)::l=>Nat.beq i k&&nQ (k+1) l
theorem vZ{sz:Nat}:∀(qs:List (Nat×List SV)) (pre zs:List SV) (k:Nat),nQ k qs=true->(∀q∈qs,q.2.length=sz)->pre.length=k*sz->zs.length=qs.length*sz->
  rN (λi=>some (i*sz,sz)) (pre++zs) qs=some (pre++(qs.map (·.2)).flatten)
 |[],pre,zs,k,_,_,_,hz=>by
  have:zs=[]:=List.length_eq_zero_iff.1 (by simpa using hz);simp[rN,this]
 |(i,v)::qs,pre,zs,k,hc,hl,hp,hz=>by
  simp only[nQ,Bool.and_eq_true]at hc;have hi:=Nat.eq_of_beq_eq_true hc.1;subst hi;have hv:=hl (i,v) (by simp);simp only at hv;have hz':zs.length=qs.length*sz+sz:=by rw[hz,List.length_cons,Nat.add_mul];omega
  rw[rN];simp only;have th:(Nat.beq v.length sz&&Nat.ble (i*sz+v.length) (pre++zs).length)=true:=by
   rw[Bool.and_eq_true];refine⟨by rw[hv];simp,?_⟩;rw[List.length_append,hp,hv];exact Nat.ble_eq_true_of_le (by omega)
  rw[th,cond_true];have hs:kE (pre++zs) (i*sz) v=(pre++v)++zs.drop sz:=by
   have e:pre++zs=pre++(zs.take sz++zs.drop sz):=by rw[List.take_append_drop]
   have gen:∀(xs pre l post:List SV),l.length=xs.length->kE (pre++(l++post)) pre.length xs=pre++(xs++post):=by
    intro xs
    induction xs with
    |nil=>intro pre l post h;simp at h;subst h;rfl
    |cons x xs ih=>
     intro pre l post h;cases l with
     |nil=>simp at h
     |cons y l=>
      rw[kE];have:(pre++(y::l++post)).set pre.length x=(pre++[x])++(l++post):=by simp
      rw[this,show pre.length+1=(pre++[x]).length by simp,ih (pre++[x]) l post (by simpa using h)];simp
   rw[e,<-hp,gen v pre (zs.take sz) (zs.drop sz) (by rw[hv];simp;omega)];simp
  rw[hs,vZ qs (pre++v) (zs.drop sz) (i+1) hc.2 (λq hq=>hl q (List.mem_cons_of_mem _ hq)) (by rw[List.length_append,hp,hv,Nat.add_mul];omega) (by simp;omega)];simp
theorem mS{E:Env}{a:Act}{w:World}{S':AS}(h:bj C S' E a w){n by_:Nat}{zv:Value}[tS:ep P T E0 n][tE:jU P E0 n by_ zv]{len:Nat}{parts:Array (Nat×Operand)}{qs:List (Nat×List SV)}(hp:mm S parts.toList qs)(ht:∀s∈j1 parts.toList,S'.t s=S.t s)
  (hc:nQ 0 qs=true) (hl:qs.length=len) (hsz:(qs.all λq=>Nat.beq q.2.length n)=true) (hlen:len*n<=16777216) (Gc:∀v∈zv.cells.toList,v.oneCell'=true):
  ∃vs:List Value,(execOp a.eval ⟨some d,.buildSlice T len parts,ty,pos,aft,gd⟩).run P w=.ok (.value (.slice (some ⟨w.heap.size,0,none⟩) len len)) (w.alloc (.cells ⟨vs⟩ E0))/\SV.eu E.M (qs.map (·.2)).flatten vs/\(∀v∈vs,v.oneCell'=true):=by
 obtain⟨info,hi,Hg,A4,hz⟩:=jU.info (P:=P) (E:=E0) (n:=n) (by_:=by_) (z:=zv);have hzr:(zeroValue E0).run P w=.ok zv w:=by simp[zeroValue,typeInfo,hi,hz]
 have B4:=tS.size w;have hq:∀q∈qs,q.2.length=n:=λq hq=>Nat.eq_of_beq_eq_true (List.all_eq_true.1 hsz q hq);have RJ:¬(len*n>2^24):=by omega
 let zero:Array Value:=if len*n=0 then #[]else zv.cells
 have hz0:((if len*n=0 then pure #[]else do pure (<-zeroValue E0).cells):Sem (Array Value)).run P w=.ok zero w:=by
  by_cases e:len*n=0
  ·simp[zero,e]
  simp[zero,e,hzr]
 let Kt:List Value:=((Array.range (len*n)).map (zero[· %zero.size]!)).toList
 have VE:Kt.length=len*n:=by simp[Kt]
 have VF:∀v∈Kt,v.oneCell'=true:=by
  intro v hv;simp only[Kt,Array.toList_map,List.mem_map,Array.mem_toList_iff,Array.mem_range]at hv;obtain⟨k,hk,rfl⟩:=hv;have hne:len*n≠0:=by omega
  have VG:zero=zv.cells:=by simp[zero,hne]
  rw[VG];have hcs:=tE.z;have hpos:k%zv.cells.size<zv.cells.size:=Nat.mod_lt _ (by rw[hcs];exact tE.p);rw[getElem!_pos zv.cells _ hpos];exact Gc _ (Array.getElem_mem_toList hpos)
 have RK:SV.eu E.M (Kt.map SV.v) Kt:=by
  have:∀l:List Value,SV.eu E.M (l.map SV.v) l:=by
   intro l;induction l with
   |nil=>trivial
   |cons v l ih=>exact⟨Y,ih⟩
  exact this Kt
 have Ms:=vZ (sz:=n) qs [] (Kt.map SV.v) 0 hc hq (by simp) (by simp[VE,hl]);simp only[List.nil_append]at Ms;obtain⟨us,h1,h2,h3⟩:=xO h (λi=>some (i*n,n)) hp ht RK VF Ms;refine⟨us,?_,h2,h3⟩;have e4:(Array.map (λx=>match x with|(i,x)=>(i,a.eval x)) parts).toList=parts.toList.map λp=>(p.1,a.eval p.2):=by simp
 simp only[execOp,Instr.buildSlice,underlying];simp only[Sem.run_bind,run_program,Result.andThen_ok,tS.u,Sem.run_pure,B4,if_neg RJ];have h1':Instr.fill (λi=>some (i*n,n)) (Array.map (λx=>zero[x%zero.size]!) (Array.range (len*n))) (parts.toList.map λp=>(p.1,a.eval p.2))=some ⟨us⟩:=h1;by_cases e:len*n=0
 ·have VH:zero=#[]:=by simp[zero,e]
  rw[VH]at h1';simp only[if_pos e,e4,Sem.run_bind,Sem.run_pure,Result.andThen_ok,h1',newRow,run_newObj];rfl
 have VH:zero=zv.cells:=by simp[zero,e]
 rw[VH]at h1';simp only[if_neg e,e4,Sem.run_bind,Sem.run_pure,Result.andThen_ok,hzr,h1',newRow,run_newObj];rfl
theorem RT.buildSlice(hg:Gd ops S gd rg){n by_:Nat}{zv:Value}[tS:ep P T E0 n][tE:jU P E0 n by_ zv]{len:Nat}{parts:Array (Nat×Operand)}{qs:List (Nat×List SV)}(hp:mm S parts.toList qs)(hd:d<S.n)
  (hc:nQ 0 qs=true) (hl:qs.length=len) (hsz:(qs.all λq=>Nat.beq q.2.length n)=true) (hlen:len*n<=16777216) (Gc:∀v∈zv.cells.toList,v.oneCell'=true) {rows:List (List SV)} (kH:qs.map (·.2)=rows)
  (next:RunT P C ops nd K rest (⟨rg++j1 parts.toList,[],[],⟨some (d,.sv (slc n rows)),[],[]⟩⟩::acc) (S.set d (.sv (slc n rows)))):RunT P C ops nd K (⟨some d,.buildSlice T len parts,ty,pos,aft,gd⟩::rest) acc S:=by
 subst kH;refine .inl ⟨_,[],[],_,?_,next⟩;rintro S' hn ht _ _ i a w L Q ho ⟨E,h⟩ hL;refine ct (C:=C) ho (hg.wanted h (λs hs=>ht s (List.mem_append_left _ hs)) Y) ?_;obtain⟨vs,hr,hall,hone⟩:=mS (P:=P) (T:=T) (E0:=E0) (n:=n) (by_:=by_) (zv:=zv) (d:=d) (ty:=ty) (pos:=pos) (aft:=aft) (gd:=gd) h hp (λs hs=>ht s (List.mem_append_right _ hs)) hc hl hsz hlen Gc;refine cu (C:=C) (by intro c h;cases h) hr (hL _ _ ⟨_,(h.Oo vs E0 hone).put (d:=d) (x:=.sv (slc n (qs.map λ(q:Nat×List SV)=>q.2))) (v:=.slice (some ⟨w.heap.size,0,none⟩) len len) ?_ (by show d<S'.n;omega) fC⟩);have hrw:Rows n (qs.map (·.2)) (qs.map (·.2)).flatten:=⟨Y,λr hr=>by
  obtain⟨q,hq,rfl⟩:=List.mem_map.1 hr;exact Nat.eq_of_beq_eq_true (List.all_eq_true.1 hsz q hq)⟩
 have HF:=tE.p;have hlb:len<=16777216:=Nat.le_trans (Nat.le_mul_of_pos_right _ HF) hlen;refine .inr ⟨w.heap.size,0,len,by rw[List.length_map,hl],by rw[List.length_map,hl];exact Nat.le_refl _,by rw[List.length_map,hl];omega,λk row hk=>?_⟩;obtain⟨q1,q2⟩:=qb hrw k row hk;refine⟨q1,λj s hs=>?_⟩;obtain⟨y,hy,hys⟩:=hall.get (q2 j s hs);refine⟨y,by simp[Mem.add,hy],hone y (List.mem_of_getElem? hy),s.mono (λb o v e=>?_) hys⟩;have:b≠w.heap.size:=by rintro rfl;have:=lY h.dj e;omega
 simp[Mem.add,this,e]
theorem RT.Ck(hg:Gd ops S gd rg){n by_:Nat}{zv:Value}[tS:ep P T E0 n][tE:jU P E0 n by_ zv]{len:Nat}{parts:Array (Nat×Operand)}{qs:List (Nat×List SV)}(hp:mm S parts.toList qs)(hd:d<S.n)(vc:S.r d=.un)(sV:d<1000)
  (hc:nQ 0 qs=true) (hl:qs.length=len) (hsz:(qs.all λq=>Nat.beq q.2.length n)=true) (hlen:len*n<=16777216) (Gc:∀v∈zv.cells.toList,v.oneCell'=true) {cells:List SV} (xK:(qs.map (·.2)).flatten=cells)
  (next:RunT P C ops nd K rest (⟨rg++j1 parts.toList,[],[d],⟨some (d,.row d),[],[(d,.live ⟨E0,n,len,cells⟩)]⟩⟩::acc) ((AS.cn [(d,.live ⟨E0,n,len,cells⟩)] S).set d (.row d))):RunT P C ops nd K (⟨some d,.buildSlice T len parts,ty,pos,aft,gd⟩::rest) acc S:=by
 subst xK;refine .inl ⟨_,[],[d],_,?_,next⟩;rintro S' hn ht _ Ko i a w L Q ho ⟨E,h⟩ hL;refine ct (C:=C) ho (hg.wanted h (λs hs=>ht s (List.mem_append_left _ hs)) Y) ?_;obtain⟨vs,hr,hall,hone⟩:=mS (P:=P) (T:=T) (E0:=E0) (n:=n) (by_:=by_) (zv:=zv) (d:=d) (ty:=ty) (pos:=pos) (aft:=aft) (gd:=gd) h hp (λs hs=>ht s (List.mem_append_right _ hs)) hc hl hsz hlen Gc;have HF:=tE.p;have hlb:len<=16777216:=Nat.le_trans (Nat.le_mul_of_pos_right _ HF) hlen;have hrw:Rows n (qs.map (·.2)) (qs.map (·.2)).flatten:=⟨Y,λr hr=>by
  obtain⟨q,hq,rfl⟩:=List.mem_map.1 hr;exact Nat.eq_of_beq_eq_true (List.all_eq_true.1 hsz q hq)⟩
 have hvl:vs.length=len*n:=by rw[<-hall.length,tg hrw,List.length_map,hl]
 have Ga:S'.r d=.un:=by rw[Ko d (by simp)];exact vc
 have hown:(w.alloc (.cells ⟨vs⟩ E0)).ownsRow 0 E0 n (.slice (some ⟨w.heap.size,0,none⟩) len len) len vs:=World.ownsRow_lit w ⟨vs⟩ len (Nat.zero_le _) (by unfold maxLen;omega) (by simpa using hvl);refine cu (C:=C) (by intro c h;cases h) hr (hL _ _ ⟨_,(h.newRow Ga sV [] none (.inl ⟨rfl,rfl⟩) (R':=⟨E0,n,len,(qs.map λ(q:Nat×List SV)=>q.2).flatten⟩) hown hall (.inr (.inl rfl)) (World.grownBy_alloc w _ none)).put (d:=d) (x:=.row d) (v:=.slice (some ⟨w.heap.size,0,none⟩) len len) (by simp[AV.holds]) (by show d<S'.n;omega) ⟨λ_ e=>e.elim,λj e=>?_⟩⟩);cases e;show(AS.rC S' d _).r d≠_;rw[AS.gV];simp
class Sub (s:SV) (n:outParam Nat) (sz:outParam Nat) (f:outParam (Nat->Nat->SV)):Prop where
 h:∀M v,s.h M v->∃a c,v=.slice a n c/\n<=c/\∀lo hi,lo<=hi->hi<=n->(f lo hi).h M (.slice (if c=lo then a else a.map (·.add (lo*sz))) (hi-lo) (c-lo))
def cut{α:Type}(l:List α)(lo hi:Nat):List α:=(l.drop lo).take (hi-lo)
theorem Ku{sz:Nat}{rows:List (List SV)}{M:Mem}{v:Value}(h:(slc sz rows).h M v):∃a c,v=.slice a rows.length c/\rows.length<=c/\∀lo hi,lo<=hi->hi<=rows.length->(slc sz (cut rows lo hi)).h M (.slice (if c=lo then a else a.map (·.add (lo*sz))) (hi-lo) (c-lo)):=by
 rcases h with⟨a,rfl,rfl⟩|⟨b,o,c,rfl,hc,Cd,hr⟩
 ·refine⟨a,0,Y,Nat.le_refl _,λlo hi h1 h2=>.inl ⟨a,?_,by simp[cut]⟩⟩;simp at h2;have:lo=0:=by omega
  subst this;subst h2;simp
 refine⟨some ⟨b,o,none⟩,c,Y,hc,λlo hi h1 h2=>?_⟩;have hl:(cut rows lo hi).length=hi-lo:=by simp[cut];omega
 by_cases e:c=lo
 ·have:hi-lo=0:=by omega
  rw[if_pos e];refine .inr ⟨b,o,c-lo,by rw[hl],by omega,by omega,λi row hi'=>?_⟩;have:=(List.getElem?_eq_some_iff.1 hi').1;omega
 rw[if_neg e];refine .inr ⟨b,o+lo*sz,c-lo,by rw[hl];simp[fD],by omega,by omega,λi row hi'=>?_⟩;have VI:rows[lo+i]? =some row:=by
  simp only[cut,List.getElem?_take,List.getElem?_drop]at hi';split at hi'
  ·exact hi'
  cases hi'
 obtain⟨q1,q2⟩:=hr _ row VI;refine⟨q1,λk s hk=>?_⟩;have:=q2 k s hk;rwa[show o+(lo+i)*sz+k=o+lo*sz+i*sz+k by rw[Nat.add_mul];omega]at this
instance{sz:Nat}{rows:List (List SV)}:Sub (slc sz rows) rows.length sz (λlo hi=>slc sz (cut rows lo hi)):=⟨λ_ _ h=>Ku h⟩
theorem Fb{α β:Type}(l:List α)(f:α->β)(lo hi:Nat):cut (l.map f) lo hi=(cut l lo hi).map f:=by simp[cut,List.map_take,List.map_drop]
def xP(S:AS)(dflt:Nat):Option Operand->Int->Prop
 |none,i=>i=dflt
 |some x,i=>∃k,S.ev x=.sv (.v (.int k i))
def mq:Option Operand->List Nat
 |none=>[]
 |some x=>aZ x
theorem xl{E:Env}{a:Act}{w:World}{S':AS}(h:bj C S' E a w){df:Nat}{ox:Option Operand}{i:Int}(hb:xP S df ox i)(ht:∀s∈mq ox,S'.t s=S.t s):(ox=none/\i=df)\/∃x k,ox=some x/\a.eval x=.int k i:=by
 cases ox with
 |none=>exact .inl ⟨Y,hb⟩
 |some x=>
  obtain⟨k,hk⟩:=hb;have h1:=h.ev x;rw[bt (rs:=mq (some x)) (λs hs=>hs) ht,hk]at h1;exact .inr ⟨x,k,Y,h1⟩
theorem RT.slice(hg:Gd ops S gd rg){n sz:Nat}[tS:ep P T E0 sz]{s:SV}{f:Nat->Nat->SV}[hs:Sub s n sz f](hx:S.ev x=.sv s){lo hi:Option Operand}(l h':Int)(hlo:xP S 0 lo l)(hhi:xP S n hi h')(hd:d<S.n)(h0:0<=l)(h1:l<=h')(h2:h'<=n)(X:SV)(hX:f l.toNat h'.toNat=X)
  (next:RunT P C ops nd K rest (⟨rg++(aZ x++(mq lo++mq hi)),[],[],⟨some (d,.sv X),[],[]⟩⟩::acc) (S.set d (.sv X))):RunT P C ops nd K (⟨some d,.slice T x lo hi none,ty,pos,aft,gd⟩::rest) acc S:=
 RT.value hg (aZ x++(mq lo++mq hi)) [] [] (.sv X) hd (by intro c h;cases h) (λS' ht _ _ E a w h=>by
  have hv:=h.ev x;rw[bt (λ_ h=>List.mem_append_left _ h) ht,hx]at hv;obtain⟨b,c,e,hc,hsub⟩:=hs.h _ _ hv;have g1:=xl h hlo (λs hs=>ht s (List.mem_append_right _ (List.mem_append_left _ hs)));have g2:=xl h hhi (λs hs=>ht s (List.mem_append_right _ (List.mem_append_right _ hs)));obtain⟨kl,HG⟩:=Int.eq_ofNat_of_zero_le h0;obtain⟨kh,Oq⟩:=Int.eq_ofNat_of_zero_le (show 0<=h' by omega);have hkm:kl<=kh:=by omega
  have hmn:kh<=n:=by omega
  have RL:kh<=c:=by omega
  have hres:=hsub l.toNat h'.toNat (by omega) (by omega);rw[hX]at hres;refine⟨_,?_,hres,fC⟩;have hsz:=tS.size w;rcases g1 with⟨rfl,q1⟩|⟨x1,k1,rfl,q1⟩<;>rcases g2 with⟨rfl,q2⟩|⟨x2,k2,rfl,q2⟩
  ·have e1:kl=0:=by omega
   have e2:kh=n:=by omega
   simp[execOp,e,Instr.sliceAt,Instr.slice,underlying,tS.u,Instr.sliceBounds,hsz,HG,Oq,e1,e2]
  ·have e1:kl=0:=by omega
   simp[execOp,e,Instr.sliceAt,Instr.slice,underlying,tS.u,Instr.sliceBounds,Instr.sliceBound,asIntOf,q2,hsz,HG,Oq,e1,RL]
  ·have e2:kh=n:=by omega
   have e3:kl<=n:=by omega
   simp[execOp,e,Instr.sliceAt,Instr.slice,underlying,tS.u,Instr.sliceBounds,Instr.sliceBound,asIntOf,q1,hsz,HG,Oq,e2,e3]
  simp[execOp,e,Instr.sliceAt,Instr.slice,underlying,tS.u,Instr.sliceBounds,Instr.sliceBound,asIntOf,q1,q2,hsz,HG,Oq,RL,hkm]) next
inductive Cm (S:AS):List Operand->List oK->Prop
 |nil:Cm S [] []
 |box {x:Operand} {i:Nat} {xs:List Operand} {cs:List oK} (h:S.ev x=.ptr i 0) (t:Cm S xs cs):Cm S (x::xs) (.box i::cs)
 |val {x:Operand} {s:SV} {xs:List Operand} {cs:List oK} (h:S.ev x=.sv s) (t:Cm S xs cs):Cm S (x::xs) (.val s::cs)
theorem Cm.vals{E:Env}{a:Act}{w:World}{S':AS}(h:bj C S' E a w){xs:List Operand}{cs:List oK}(hc:Cm S xs cs)(ht:∀s∈xs.flatMap aZ,S'.t s=S.t s):wM E cs (xs.map a.eval)/\∀j,oK.box j∈cs->∃B,S'.b j=some B:=by
 induction hc with
 |nil=>exact⟨aq,by simp⟩
 | @box x i xs cs hx _ ih=>
  have hx':S'.ev x=.ptr i 0:=by rw[bt (rs:=(x::xs).flatMap aZ) (λs hs=>by rw[List.flatMap_cons];exact List.mem_append_left _ hs) ht,hx]
  have h1:=h.ev x;rw[hx']at h1;obtain⟨i1,i2⟩:=ih (λs hs=>ht s (by rw[List.flatMap_cons];exact List.mem_append_right _ hs));refine⟨⟨h1,i1⟩,λj hj=>?_⟩;rcases List.mem_cons.1 hj with e|hj
  ·cases e;exact(my h.wf hx').1 i rfl
  exact i2 j hj
 | @val x s xs cs hx _ ih=>
  have hx':S'.ev x=.sv s:=by rw[bt (rs:=(x::xs).flatMap aZ) (λs hs=>by rw[List.flatMap_cons];exact List.mem_append_left _ hs) ht,hx]
  have h1:=h.ev x;rw[hx']at h1;obtain⟨i1,i2⟩:=ih (λs hs=>ht s (by rw[List.flatMap_cons];exact List.mem_append_right _ hs));refine⟨⟨h1,i1⟩,λj hj=>?_⟩;rcases List.mem_cons.1 hj with e|hj
  ·cases e
  exact i2 j hj
theorem RT.makeFunc(hg:Gd ops S gd rg){g:FuncId}{xs:Array Operand}{cs:List oK}(hc:Cm S xs.toList cs)(hd:d<S.n)
  (next:RunT P C ops nd K rest (⟨rg++xs.toList.flatMap aZ,[],[],⟨some (d,.fO g cs),[],[]⟩⟩::acc) (S.set d (.fO g cs))):RunT P C ops nd K (⟨some d,.makeFunc (.func g) #[] xs,ty,pos,aft,gd⟩::rest) acc S:=
 RT.value hg (xs.toList.flatMap aZ) [] [] (.fO g cs) hd (by intro c h;cases h) (λS' ht _ _ E a w h=>by
  obtain⟨h1,h2⟩:=hc.vals h ht;refine⟨.func (.func g) #[] ⟨xs.toList.map a.eval⟩,?_,⟨_,Y,h1⟩,λj hj=>h2 j hj,λ_ h=>h.elim⟩;have e2:xs.map a.eval=⟨xs.toList.map a.eval⟩:=by apply Array.ext';simp
  simp[execOp,Instr.makeFunc,e2]) next
end lits
end
section
open Go.RowKit
theorem tl{a b:Nat}(h:Nat.ble (a+1) b=true):a<b:=af h
theorem mU{x:Int}(h: -9223372036854775808<=x/\x<=9223372036854775807):IntKind.i64.wrap x=x:=IntWalk.i64_in x h
section steps
variable {P:Program}{C:Ctx}{ops:Array Oper}{S:AS}{nd:Bool}{K:List Ac->AS->Prop}{rest:List Oper}{acc:List Ac}
variable {gd:Option (Nat×Bool)}{rg:List Nat}{d:Nat}{ty:TypeId}{pos:String}{aft:Array Edge}{x y z:Operand}{T U E0:TypeId}
theorem RT.done(h:K acc S):RunT P C ops nd K [] acc S:=h
theorem RT.mv(hg:Gd ops S gd rg){s:SV}(hx:S.ev x=.sv s)(hd:d<S.n)
  (next:RunT P C ops nd K rest (⟨rg++aZ x,[],[],⟨some (d,.sv s),[],[]⟩⟩::acc) (S.set d (.sv s))):RunT P C ops nd K (⟨some d,.move x,ty,pos,aft,gd⟩::rest) acc S:=RT.move hg hx hd next
theorem RT.B5(hg:Gd ops S gd rg){s:SV}(hx:S.ev x=.sv s)(hd:d<S.n)
  (next:RunT P C ops nd K rest (⟨rg++aZ x,[],[],⟨some (d,.sv s),[],[]⟩⟩::acc) (S.set d (.sv s))):RunT P C ops nd K (⟨some d,.assign x,ty,pos,aft,gd⟩::rest) acc S:=RT.assign hg hx hd next
theorem RT.VJ(hg:Gd ops S gd rg)[tV:pS P T]{j off:Nat}{B:nC}{s:SV}(hx:S.ev x=.ptr j off)(hB:S.b j=some B)(hn:B.cells[off]? =some (.sv s))(hd:d<S.n)
  (next:RunT P C ops nd K rest (⟨rg++aZ x,[j],[],⟨some (d,.sv s),[],[]⟩⟩::acc) (S.set d (.sv s))):RunT P C ops nd K (⟨some d,.load T x,ty,pos,aft,gd⟩::rest) acc S:=RT.sZ hg hx hB hn hd next
theorem RT.Mt(hg:Gd ops S gd rg){n:Nat}[tS:ep P T E0 n]{s:SV}{rows:List (List SV)}[hs:Kn s n rows]{kk:IntKind}{i:Int}(row:List SV)(h0:0<=i)(hi:rows[i.toNat]? =some row)(hx:S.ev x=.sv s)(hy:S.ev y=.sv (.v (.int kk i)))(hd:d<S.n)
  (next:RunT P C ops nd K rest (⟨rg++(aZ x++aZ y),[],[],⟨some (d,.sv (ref row)),[],[]⟩⟩::acc) (S.set d (.sv (ref row)))):RunT P C ops nd K (⟨some d,.indexAddr T x y,ty,pos,aft,gd⟩::rest) acc S:=RT.indexAddr hg row hx hy hd h0 hi next
end steps
inductive Hh (P:Program) (S:AS):List ResultVar->List SV->Prop
 |nil:Hh P S [] []
 |tmp {t:Nat} {s:SV} {rs:List ResultVar} {ss:List SV} (h:S.t t=.sv s) (r:Hh P S rs ss):Hh P S (.tmp t::rs) (s::ss)
 |agg {t:Nat} {T:TypeId} {n i:Nat} {B:nC} {cs:List SV} {rs:List ResultVar} {ss:List SV} [tA:zy P T n] (h:S.t t=.ptr i 0) (hB:S.b i=some B) (hs:Hf B.cells 0 cs) (hn:cs.length=n) (r:Hh P S rs ss):Hh P S (.cell t T::rs) (.agg cs::ss)
 |one {t:Nat} {T:TypeId} {i:Nat} {B:nC} {s:SV} {rs:List ResultVar} {ss:List SV} [tV:pS P T] (h:S.t t=.ptr i 0) (hB:S.b i=some B) (hs:B.cells=[.sv s]) (r:Hh P S rs ss):Hh P S (.cell t T::rs) (s::ss)
theorem Hh.all{P:Program}{S:AS}{rs:List ResultVar}{ss:List SV}(h:Hh P S rs ss):tc P S rs ss:=by
 induction h with
 |nil=>trivial
 |tmp h _ ih=>exact⟨h,ih⟩
 | @agg t T n i B cs rs ss tA h hB hs hn _ ih=>exact⟨⟨i,B,h,hB,.inl ⟨n,cs,tA,hs,hn,Y⟩⟩,ih⟩
 | @one t T i B s rs ss tV h hB hs _ ih=>exact⟨⟨i,B,h,hB,.inr ⟨tV,hs⟩⟩,ih⟩
def HH:List SV->SV
 |[s]=>s
 |ss=>.uT ss
theorem mA{P:Program}{S:AS}{rs:List ResultVar}{ss:List SV}{r:SV}(h:Hh P S rs ss)(e:SV.imp (HH ss) r):Kp P S rs r:=⟨ss,h.all,λM v hv=>e M v (by cases ss with|nil=>exact hv|cons s l=>cases l<;>exact hv)⟩
theorem HI{P:Program}{S:AS}{rs:List ResultVar}{ss:List SV}{r:SV}(h:Hh P S rs ss)(e:r=HH ss):Kp P S rs r:=mA h (by rw[e];exact λ_ _ h=>h)
theorem SV.cM{l l':List SV}(h:cH l l'):SV.imp (.agg l) (.agg l'):=λ_ _ ⟨vs,e,hv⟩=>⟨vs,e,h.holds hv⟩
theorem SV.Kv{l l':List SV}(h:cH l l'):SV.imp (.uT l) (.uT l'):=λ_ _ ⟨vs,e,hv⟩=>⟨vs,e,h.holds hv⟩
end
section
open Go.RowKit
theorem Cn{α:Type}:∀(us l:List α) (k n:Nat),k+us.length<=n->(kE l k us).take n=kE (l.take n) k us
 |[],l,k,n,_=>rfl
 |u::us,l,k,n,h=>by
  simp only[List.length_cons]at h;rw[kE,kE,Cn us _ _ _ (by omega)];congr 1;rw[List.take_set]
section steps
variable {P:Program}{C:Ctx}{ops:Array Oper}{S:AS}{nd:Bool}{K:List Ac->AS->Prop}{rest:List Oper}{acc:List Ac}
variable {gd:Option (Nat×Bool)}{rg:List Nat}{d:Nat}{ty:TypeId}{pos:String}{aft:Array Edge}{x y z:Operand}{T U E0:TypeId}
theorem bj.HJ{E:Env}{a:Act}{w:World}(h:bj C S E a w){i:Nat}{R:Row}(hR:S.r i=.live R){g:Nat}(hg:(E.ν i).ownBlock=some g){w':World}(hw:∃c e,w.heap[g]? =some (Obj.cells c e (0,0)))
  (h1:w'.os=w.os) (h2:w'.tape=w.tape) (h3:w'.output=w.output) (h4:w'.heap.size=w.heap.size) (h5:∀k,k≠g->w'.heap[k]? =w.heap[k]?)
  {cells:List SV} {vs:List Value} (hown:w'.ownsRow 0 R.E R.sz (E.ν i) R.n vs) (hall:SV.eu E.M cells vs):bj C (S.rC i (.live ⟨R.E,R.sz,R.n,cells⟩)) E a w':=by
 obtain⟨b1,b2,b3,b4⟩:=(h.rx i R hR).2 g hg;have hin:E.M.dj w':=dH h.dj λb ⟨o,v,e⟩=>h5 b (by rintro rfl;rw[b2 o]at e;cases e);have Mq:∀j,S.r j≠ .un->(S.rC i (.live ⟨R.E,R.sz,R.n,cells⟩)).r j≠ .un:=λj hj=>by
  by_cases e:j=i
  ·subst e;rw[AS.gV];simp
  rw[AS.mP _ _ _ _ e];exact hj
 have Mu:∀j R',(S.rC i (.live ⟨R.E,R.sz,R.n,cells⟩)).r j=.live R'->∃R2,S.r j=.live R2:=λj R' hj=>by
  by_cases e:j=i
  ·subst e;exact⟨R,hR⟩
  rw[AS.mP _ _ _ _ e]at hj;exact⟨R',hj⟩
 exact{
  wf:=⟨h.wf.tb,λs j hj=>Mq j (h.wf.tr s j hj),h.wf.bb,λk B hB x hx j hj=>Mq j (h.wf.br k B hB x hx j hj)⟩
  marks:=by
   obtain⟨ds,q1,q2,q3⟩:=h.marks;refine⟨ds,q1,q2,λr hr=>?_⟩;obtain⟨q4,q5,q6⟩:=q3 r hr;refine⟨q4,q5,?_⟩;rw[h5 r (by rintro rfl;obtain⟨c,e,hc⟩:=hw;rw[q6]at hc;cases hc)];exact q6
  size:=h.size
  os:=h1.trans h.os
  tape:=h2.trans h.tape
  output:=h3.trans h.output
  grown:=by rw[h4];exact h.grown
  frame:=λk hk hk'=>by
   rw[h5 k (by
    rintro rfl;rcases b1 with q|q
    ·omega
    exact hk' (C.EZ _ q))]
   exact h.frame k hk hk'
  m0:=h.m0
  fe:=h.fe
  dj:=hin
  tm:=h.tm
  bx:=λj B hB=>by
   obtain⟨q1,q2,q3,us,q4,q5⟩:=h.bx j B hB;exact⟨q1,q2,q3,us,by rw[h5 _ (b4 j B hB)];exact q4,q5⟩
  inj:=h.inj
  rx:=λj R' hj=>by
   by_cases e:j=i
   ·subst e;rw[AS.gV]at hj;cases hj;exact⟨⟨vs,hown,hall⟩,(h.rx j R hR).2⟩
   rw[AS.mP _ _ _ _ e]at hj;obtain⟨⟨us,q1,q2⟩,q3⟩:=h.rx j R' hj;exact⟨⟨us,dy q1 λg' Hy=>h5 g' (by rintro rfl;exact e (h.fW j i R' R hj hR _ Hy hg)),q2⟩,q3⟩
  fW:=λj k R1 R2 hj hk=>by
   obtain⟨_,q1⟩:=Mu j R1 hj;obtain⟨_,q2⟩:=Mu k R2 hk;exact h.fW j k _ _ q1 q2
  iY:=h.iY
  ec:=h.ec
  mg:=λb hb=>by rw[h4];exact h.mg b hb
  jj:=C.jf _ _ _ _ _ _ _ h.jj (Mem.le_refl _) hin (λ_ _ _ e=>.inl e) (λb hb=>h5 b (by
   rintro rfl;rcases hb with hb|hb
   ·rcases b1 with q|q
    ·omega
    exact hb.2 q
   exact b3 hb)) h1 h2 h3 (by rw[h4];exact Nat.le_refl _)}
inductive RS (S:AS):Operand->Nat->Nat->Nat->List Nat->Prop
 |row {x:Operand} {i:Nat} {R:Row} (h:S.ev x=.row i) (hR:S.r i=.live R):RS S x i 0 R.n [i]
 |me {x:Operand} {i o l:Nat} (h:S.ev x=.me i o l):RS S x i o l []
theorem RS.val{E:Env}{a:Act}{w:World}{S':AS}(h:bj C S' E a w){i o l:Nat}{rr:List Nat}(hs:RS S x i o l rr)(ht:∀s∈aZ x,S'.t s=S.t s)(hr:∀j∈rr,S'.r j=S.r j)(hpos:0<l):∃g c,(E.ν i).ownBlock=some g/\a.eval x=.slice (some ⟨g,o,none⟩) l c/\l<=c:=by
 cases hs with
 | @row R h1 hR=>
  have hx:=h.ev x;rw[bt (λ_ h=>h) ht,h1]at hx;have hx:a.eval x=E.ν i:=hx;obtain⟨⟨vs,ho,_⟩,_⟩:=h.rx i R (by rw[hr i (by simp)];exact hR);rcases ho.2 with⟨_,q2⟩|⟨g,cap,cur,q1,_,_,q3,_⟩
  ·omega
  exact⟨g,cap,by rw[q1];rfl,by rw[hx,q1],q3⟩
 |me h1=>
  have hx:=h.ev x;rw[bt (λ_ h=>h) ht,h1]at hx;obtain⟨g,q1,c,q2,q3⟩:=hx;exact⟨g,c,q1,q2,q3⟩
theorem RS.live{S':AS}(h:S'.wf){i o l:Nat}{rr:List Nat}(hs:RS S x i o l rr)(ht:∀s∈aZ x,S'.t s=S.t s):S'.r i≠ .un:=by
 cases hs with
 |row h1 hR=>exact(my h (show S'.ev x=.row i by rw[bt (λ_ h=>h) ht,h1])).2 i Y
 |me h1=>
  exact(my h (show S'.ev x=.me i o l by rw[bt (λ_ h=>h) ht,h1])).2 i Y
theorem RT.ixR(hg:Gd ops S gd rg){n:Nat}[tS:ep P T E0 n]{i o l:Nat}{rr:List Nat}(hx:RS S x i o l rr){kk:IntKind}{j:Int}(hy:S.ev y=.sv (.v (.int kk j)))(hd:d<S.n)(h0:0<=j)(h1:j<l)(k:Nat)(hk:o+j.toNat*n=k)
  (next:RunT P C ops nd K rest (⟨rg++(aZ x++aZ y),[],rr,⟨some (d,.gZ i k),[],[]⟩⟩::acc) (S.set d (.gZ i k))):RunT P C ops nd K (⟨some d,.indexAddr T x y,ty,pos,aft,gd⟩::rest) acc S:=
 RT.value hg (aZ x++aZ y) [] rr (.gZ i k) hd (by intro c h;cases h) (λS' ht _ hr E a w h=>by
  obtain⟨g,c,q1,q2,_⟩:=hx.val h (λs hs=>ht s (List.mem_append_left _ hs)) hr (by omega);have h2:a.eval y=.int kk j:=by have h2:=h.ev y;rw[bt (λ_ h=>List.mem_append_right _ h) ht,hy]at h2;exact h2
  have hl:=hx.live h.wf (λs hs=>ht s (List.mem_append_left _ hs));refine⟨.pointer (some ⟨g,k,none⟩),?_,⟨g,q1,rfl⟩,λ_ e=>e.elim,λj' e=>by cases e;exact hl⟩;have hsz:=tS.size w;have hb:0<=j/\j<(l:Int):=⟨h0,h1⟩;simp[execOp,h2,q2,Instr.indexAt,asIntOf,underlying,tS.u,hsz,fD,hb,hk]) next
theorem Co{E:Env}{a:Act}{w:World}(h:bj C S E a w){i:Nat}{R:Row}(hR:S.r i=.live R){g:Nat}(hg:(E.ν i).ownBlock=some g):∃cur vs:List Value,w.heap[g]? =some (.cells ⟨cur⟩ R.E (0,0))/\cur.take (R.n*R.sz)=vs/\vs.length=R.n*R.sz/\SV.eu E.M R.cells vs/\∃cap,E.ν i=.slice (some ⟨g,0,none⟩) R.n cap/\R.n<=cap/\cap<=maxLen/\cur.length=cap*R.sz:=by
 obtain⟨⟨vs,ho,hv⟩,_⟩:=h.rx i R hR;rcases ho.2 with⟨q1,_⟩|⟨g',cap,cur,q1,_,q2,q3,q4,q5,q6⟩
 ·rw[q1]at hg;cases hg
 rw[q1]at hg;cases hg;exact⟨cur.toList,vs,by rw[q2],q6,ho.1,hv,cap,q1,q3,q4,by simpa using q5⟩
theorem RT.ldR(hg:Gd ops S gd rg)[tV:pS P T]{i k:Nat}{R:Row}{s:SV}(hx:S.ev x=.gZ i k)(hR:S.r i=.live R)(hs:R.cells[k]? =some s)(hd:d<S.n)
  (next:RunT P C ops nd K rest (⟨rg++aZ x,[],[i],⟨some (d,.sv s),[],[]⟩⟩::acc) (S.set d (.sv s))):RunT P C ops nd K (⟨some d,.load T x,ty,pos,aft,gd⟩::rest) acc S:=
 RT.value hg (aZ x) [] [i] (.sv s) hd (by intro c h;cases h) (λS' ht _ hr E a w h=>by
  have h1:=h.ev x;rw[bt (λ_ h=>h) ht,hx]at h1;obtain⟨g,Hy,e⟩:=h1;have A3:S'.r i=.live R:=by rw[hr i (by simp)];exact hR
  obtain⟨cur,vs,q1,q2,q3,q4,_⟩:=Co h A3 Hy;obtain⟨u,hu,zB⟩:=q4.get hs;refine⟨u,?_,zB,fC⟩;have hc:w.cell? ⟨g,k,none⟩=some u:=by
   rw[<-q2,List.getElem?_take]at hu;split at hu
   ·simpa[World.cell?,q1]using hu
   cases hu
  simp[execOp,e,Instr.loadAt,Instr.sureAddr,loadVar,tV.isAgg,hc]) next
theorem RT.RM(hg:Gd ops S gd rg){m:Nat}{i k:Nat}{R:Row}{us:List SV}(hx:S.ev x=.gZ i k)(hR:S.r i=.live R)(hy:∀(S':AS) (E:Env) (a:Act) (w:World),bj C S' E a w->S'.ev y=S.ev y->∃vs:List Value,(a.eval y).cells=⟨vs⟩/\SV.eu E.M us vs/\(∀u∈vs,u.oneCell'=true))
  (hsT:∀w:World,(sizeOf T).run P w=.ok m w) (hul:us.length=m) (hk:k+m<=R.n*R.sz) {cells:List SV} (hcs:kE R.cells k us=cells)
  (next:RunT P C ops nd K rest (⟨rg++(aZ x++aZ y),[],[i],⟨none,[],[(i,.live ⟨R.E,R.sz,R.n,cells⟩)]⟩⟩::acc) (AS.cn [(i,.live ⟨R.E,R.sz,R.n,cells⟩)] S)):RunT P C ops nd K (⟨none,.store T x y,ty,pos,aft,gd⟩::rest) acc S:=by
 refine .inl ⟨_,[],[i],_,?_,next⟩;rintro S' hn' ht _ Ko ix a w L Q ho ⟨E,h⟩ hL;refine ct (C:=C) ho (hg.wanted h (λs hs=>ht s (List.mem_append_left _ hs)) Y) ?_;have h1:=h.ev x;rw[bt (λ_ h=>List.mem_append_right _ (List.mem_append_left _ h)) ht,hx]at h1;obtain⟨g,Hy,e⟩:=h1;have A3:S'.r i=.live R:=by rw[Ko i (by simp)];exact hR
 obtain⟨cur,vs,q1,q2,q3,q4,cap,q5,q6,q7,q8⟩:=Co h A3 Hy;obtain⟨ws,hu,hall,hone⟩:=hy S' E a w h (bt (λ_ h=>List.mem_append_right _ (List.mem_append_right _ h)) ht);have RE:=hall.length;have sS:R.n*R.sz<=cur.length:=by rw[q8];exact Nat.mul_le_mul_right _ q6
 have hst:=ju (P:=P) (T:=R.E) ws 0 k w cur hone q1 (by omega);have hr:(execOp a.eval ⟨none,.store T x y,ty,pos,aft,gd⟩).run P w=.ok .skip (eE w g (kE cur k ws) R.E):=by
  simp only[execOp,e,Instr.storeAt,Instr.sureAddr,storeVar,hu];simp only[Sem.run_bind,Sem.run_pure,Result.andThen_ok,hsT];simp only[show ¬(ws.length≠m)from by omega,List.size_toArray,if_false];simp only[Nat.add_zero]at hst;simp only[Result.andThen_ok,hst]
 have hown:(eE w g (kE cur k ws) R.E).ownsRow 0 R.E R.sz (E.ν i) R.n (kE vs k ws):=by
  refine⟨by rw[r8];exact q3,.inr ⟨g,cap,⟨kE cur k ws⟩,q5,Nat.zero_le _,vb q1,q6,q7,by simp[r8,q8],?_⟩⟩;show(kE cur k ws).take _=_;rw[Cn _ _ _ _ (by omega),q2]
 refine cu (C:=C) (by intro c h;cases h) hr (hL _ _ ⟨E,?_⟩);have hp:=h.HJ A3 Hy (w':=eE w g (kE cur k ws) R.E) ⟨_,_,q1⟩ Y Y Y nF (λk' hk'=>gG hk') hown (xN q4 hall);rw[hcs]at hp;exact hp
theorem RT.stR(hg:Gd ops S gd rg)[tV:pS P T]{i k:Nat}{R:Row}{s:SV}[o1:One s](hx:S.ev x=.gZ i k)(hR:S.r i=.live R)(hy:S.ev y=.sv s)(hk:k+1<=R.n*R.sz)(cells:List SV)(hcs:R.cells.set k s=cells)
  (next:RunT P C ops nd K rest (⟨rg++(aZ x++aZ y),[],[i],⟨none,[],[(i,.live ⟨R.E,R.sz,R.n,cells⟩)]⟩⟩::acc) (AS.cn [(i,.live ⟨R.E,R.sz,R.n,cells⟩)] S)):RunT P C ops nd K (⟨none,.store T x y,ty,pos,aft,gd⟩::rest) acc S:=by
 refine RT.RM hg hx hR (us:=[s]) (λS' E a w h e=>?_) (λw=>tV.size w) Y hk (cells:=cells) (by rw[<-hcs];rfl) next
 have h2:=h.ev y;rw[e,hy]at h2;have:=o1.h _ _ h2;exact⟨[a.eval y],gW this,⟨h2,aq⟩,by simpa using this⟩
theorem RT.VK(hg:Gd ops S gd rg){n:Nat}[tA:zy P T n]{i k:Nat}{R:Row}{cs:List SV}[o1:pN cs](hx:S.ev x=.gZ i k)(hR:S.r i=.live R)(hy:S.ev y=.sv (.agg cs))(sS:cs.length=n)(hk:k+n<=R.n*R.sz)(cells:List SV)(hcs:kE R.cells k cs=cells)
  (next:RunT P C ops nd K rest (⟨rg++(aZ x++aZ y),[],[i],⟨none,[],[(i,.live ⟨R.E,R.sz,R.n,cells⟩)]⟩⟩::acc) (AS.cn [(i,.live ⟨R.E,R.sz,R.n,cells⟩)] S)):RunT P C ops nd K (⟨none,.store T x y,ty,pos,aft,gd⟩::rest) acc S:=by
 refine RT.RM hg hx hR (us:=cs) (λS' E a w h e=>?_) (λw=>tA.size w) sS hk (cells:=cells) hcs next
 have h2:=h.ev y;rw[e,hy]at h2;obtain⟨us,hu,hall⟩:=h2;exact⟨us,by rw[hu];rfl,hall,o1.h E.M us hall⟩
theorem RT.Ot(hg:Gd ops S gd rg){sz:Nat}[tS:ep P T E0 sz]{i o l0:Nat}{rr:List Nat}(hx:RS S x i o l0 rr){lo hi:Option Operand}(l h':Int)(hlo:xP S 0 lo l)(hhi:xP S l0 hi h')(hd:d<S.n)(h0:0<=l)(h1:l<l0)(h3:l<=h')(h2:h'<=l0)
  (o' l':Nat) (ho':o+l.toNat*sz=o') (hl':(h'-l).toNat=l') (next:RunT P C ops nd K rest (⟨rg++(aZ x++(mq lo++mq hi)),[],rr,⟨some (d,.me i o' l'),[],[]⟩⟩::acc) (S.set d (.me i o' l'))):RunT P C ops nd K (⟨some d,.slice T x lo hi none,ty,pos,aft,gd⟩::rest) acc S:=by
 subst ho';subst hl';refine RT.value hg (aZ x++(mq lo++mq hi)) [] rr (.me i (o+l.toNat*sz) (h'-l).toNat) hd (by intro c h;cases h) (λS' ht _ Ko E a w h=>?_) next
 obtain⟨g,cap,q1,hval,hcap⟩:=hx.val h (λs hs=>ht s (List.mem_append_left _ hs)) Ko (by omega);have hlv:=hx.live h.wf (λs hs=>ht s (List.mem_append_left _ hs));have g1:=xl h hlo (λs hs=>ht s (List.mem_append_right _ (List.mem_append_left _ hs)));have g2:=xl h hhi (λs hs=>ht s (List.mem_append_right _ (List.mem_append_right _ hs)));obtain⟨kl,HG⟩:=Int.eq_ofNat_of_zero_le h0;obtain⟨kh,Oq⟩:=Int.eq_ofNat_of_zero_le (show 0<=h' by omega);have hkm:kl<=kh:=by omega
 have RL:kh<=cap:=by omega
 have hne:¬cap=kl:=by omega
 have hsz:=tS.size w;have hr:(execOp a.eval ⟨some d,.slice T x lo hi none,ty,pos,aft,gd⟩).run P w=.ok (.value (.slice (some ⟨g,o+kl*sz,none⟩) (kh-kl) (cap-kl))) w:=by
  rcases g1 with⟨rfl,e1⟩|⟨x1,k1,rfl,e1⟩<;>rcases g2 with⟨rfl,e2⟩|⟨x2,k2,rfl,e2⟩
  ·have VL:kl=0:=by omega
   have VM:kh=l0:=by omega
   subst VL;subst VM;simp[execOp,hval,Instr.sliceAt,Instr.slice,underlying,tS.u,Instr.sliceBounds,hsz,fD]
  ·have VL:kl=0:=by omega
   subst VL;simp[execOp,hval,Instr.sliceAt,Instr.slice,underlying,tS.u,Instr.sliceBounds,Instr.sliceBound,asIntOf,e2,hsz,Oq,RL,fD]
  ·have VM:kh=l0:=by omega
   have e3':kl<=l0:=by omega
   subst VM;simp[execOp,hval,Instr.sliceAt,Instr.slice,underlying,tS.u,Instr.sliceBounds,Instr.sliceBound,asIntOf,e1,hsz,HG,e3',fD,hne]
  simp[execOp,hval,Instr.sliceAt,Instr.slice,underlying,tS.u,Instr.sliceBounds,Instr.sliceBound,asIntOf,e1,e2,hsz,HG,Oq,RL,hkm,fD,hne]
 have e1:l.toNat=kl:=by omega
 have e2:(h'-l).toNat=kh-kl:=by omega
 refine⟨_,hr,⟨g,q1,cap-kl,by rw[e1,e2],by rw[e2];omega⟩,λ_ e=>e.elim,λj e=>?_⟩;cases e;exact hlv
theorem RT.RN(hg:Gd ops S gd rg){m:Nat}[tS:ep P T E0 m]{i o l:Nat}(hx:S.ev x=.me i o l)(hd:d<S.n)
  (next:RunT P C ops nd K rest (⟨rg++aZ x,[],[],⟨some (d,.sv (.v (.int .i64 l))),[],[]⟩⟩::acc) (S.set d (.sv (.v (.int .i64 l))))):RunT P C ops nd K (⟨some d,.call ⟨.builtin .len,#[x],#[T]⟩,ty,pos,aft,gd⟩::rest) acc S:=
 RT.value hg (aZ x) [] [] (.sv (.v (.int .i64 l))) hd (by intro c h;cases h) (λS' ht _ _ E a w h=>by
  have h1:=h.ev x;rw[bt (λ_ h=>h) ht,hx]at h1;obtain⟨g,_,c,e,_⟩:=h1;exact⟨_,by simp[execOp,resolve,invoke,builtin,Builtin.len_,underlying,tS.u,e,goInt],Y,fC⟩) next
end steps
end
section
open Go.RowKit
theorem lq{P:Program}{f:FuncId}{fn:Func}{code:Code}{C:Ctx}{S:AS}{E0:Env}(hro:C.ro=none)(hf:P.funcs[f]? =some fn)(hb:fn.body=some code){vs:List Value}{w:World}
  (h0:bj C S E0 {tmps:=⟨vs⟩++Array.replicate (fn.ntmps-(⟨vs⟩:Array Value).size) undef,defers:=[]} w) {Q:AS->Prop} {R:Ending->World->Prop}
  (h:Ok P C code S (λe S'=>(e=.normal\/e=.ret)/\Q S'))
  (hR:∀S' E a w',Q S'->bj C S' E a w'->∃v,(results fn a.tmps).run P w'=.ok v w'/\R (.returned v) w'):Calls P f ⟨vs⟩ w R:=by
 refine(callsIn_wide (n:=0)).1 (callsIn_of_wp_marks (F:=Fence.wide) hf hb trivial ?_);have h1:=h _ w ⟨_,h0⟩;rw[hro]at h1;refine wpIn_mono h1 ?_;rintro e a' w' ⟨S',⟨he,hq⟩,E,hh⟩;have key:LeavesInM Fence.wide 0 P fn a'.tmps R a'.defers .returning w':=by
  obtain⟨ds,h1,h2,h3⟩:=hh.marks;rw[h1];refine mz ds w' h2 (λr hr=>(h3 r hr).2.2) (λw2 g1 g2 g3 g4 g5=>?_);exact hR S' E {a' with defers:=[]} w2 hq (hh.xJ h3 g1 g2 g3 g4 g5)
 rcases he with rfl|rfl
 ·exact key
 exact key
inductive A5 (P:Program) (S:AS):List ResultVar->AV->Prop
 |tmp {t:Nat} {x:AV} (h:S.t t=x):A5 P S [.tmp t] x
 |one {t:Nat} {T:TypeId} {i:Nat} {B:nC} {x:AV} [tV:pS P T] (h:S.t t=.ptr i 0) (hB:S.b i=some B) (hs:B.cells=[x]):A5 P S [.cell t T] x
 |sv {rs:List ResultVar} {r:SV} (h:Kp P S rs r):A5 P S rs (.sv r)
theorem A5.run{P:Program}{C:Ctx}{S:AS}{E:Env}{a:Act}{w:World}(h:bj C S E a w){fn:Func}{x:AV}(hr:A5 P S fn.results.toList x):∃v,(results fn a.tmps).run P w=.ok v w/\x.holds E v:=by
 generalize hl:fn.results.toList=l at hr;cases hr with
 |sv hs=>
  obtain⟨ss,Mp,himp⟩:=hs;rw[<-hl]at Mp;obtain⟨v,hv,hx⟩:=AZ h Mp;exact⟨v,hv,himp _ _ hx⟩
 | @tmp t x ht=>
  have hfr:fn.results=#[.tmp t]:=by rw[<-Array.toArray_toList (xs:=fn.results),hl]
  refine⟨_,?_,ht▸h.tm _⟩;simp[results,hfr]
 | @one t T i B x tV ht hB hs=>
  have hfr:fn.results=#[.cell t T]:=by rw[<-Array.toArray_toList (xs:=fn.results),hl]
  obtain⟨_,_,_,vs,hv,hall⟩:=h.bx i B hB;rw[hs]at hall;have h1:a.tmps.getD t undef=.pointer (some ⟨E.β i,0,none⟩):=by have:=h.tm t;rw[ht]at this;exact this
  cases vs with
  |nil=>exact hall.elim
  |cons u us=>
   cases us with
   |cons _ _=>exact hall.2.elim
   |nil=>
    refine⟨u,?_,hall.1⟩;have RC:w.cell? ⟨E.β i,0,none⟩=some u:=by simp[World.cell?,hv]
    rw[Array.getD_eq_getD_getElem?]at h1;simp[results,hfr,h1,asAddr,loadVar,tV.isAgg,RC]
def pO:List AV->Nat->AV
 |[],_=>.sv .any
 |s::_,0=>s
 |_::l,n+1=>pO l n
def AS.Hi(n:Nat)(args:List AV)(bs:List (Nat×nC))(rs:List (Nat×Row)):AS:=
 ⟨n,pO args,Ka bs,λi=>match Ce rs i with|some R=>.live R|none=>.un,0,true⟩
theorem xQ:∀{l:List AV} {k:Nat},pO l k=.sv .any\/pO l k∈l
 |[],_=>.inl Y
 |s::_,0=>.inr (by simp[pO])
 |_::l,n+1=>by
  rcases xQ (l:=l) (k:=n)with h|h
  ·exact .inl h
  exact .inr (List.mem_cons_of_mem _ h)
theorem xR{E:Env}:∀{args:List AV} {vs:List Value} {k:Nat} (rest:List Value),dx E args vs->(pO args k).holds E ((vs++rest)[k]?.getD undef)
 |[],[],_,_,_=>trivial
 |s::args,v::vs,0,_,h=>h.1
 |s::args,v::vs,k+1,rest,h=>by
  have:=xR (E:=E) (k:=k) rest (show dx E args vs from h.2);simpa[pO]using this
 |[],_::_,_,_,h=>h.elim
 |_::_,[],_,_,h=>h.elim
theorem HK{E:Env}{n:Nat}{args:List AV}{vs:List Value}(h:dx E args vs)(s:Nat):(pO args s).holds E ((⟨vs⟩++Array.replicate (n-(⟨vs⟩:Array Value).size) undef:Array Value).getD s undef):=by
 have:=xR (E:=E) (k:=s) (List.replicate (n-vs.length) undef) h;rw[Array.getD_eq_getD_getElem?];simpa[List.getElem?_toArray,Array.getElem?_append,List.getElem?_append,List.getElem?_replicate,Array.getElem?_replicate]using this
def AV.ve:AV->Bool
 |.sv _=>true
 |.row i=>Nat.beq i 1000
 |.gZ i _=>Nat.beq i 1000
 |.me i _ _=>Nat.beq i 1000
 |_=>false
def AV.v7(j:Nat):AV->AV
 |.row _=>.row j
 |.gZ _ k=>.gZ j k
 |.me _ o l=>.me j o l
 |x=>x
def qV(M:Mem)(v:Value):Env:=⟨λ_=>0,λ_=>v,λ_=>False,M⟩
theorem vf{E:Env}{j:Nat}{x:AV}{v:Value}(hx:x.ve=true):(x.v7 j).holds E v↔x.holds (qV E.M (E.ν j)) v:=by
 cases x<;>first|exact Iff.rfl|cases hx
theorem Fe{E:Env}{j:Nat}:∀{l:List AV} {vs:List Value},(l.all AV.ve)=true->dx E (l.map (AV.v7 j)) vs->dx (qV E.M (E.ν j)) l vs
 |[],[],_,_=>trivial
 |x::l,v::vs,h,hv=>by
  rw[List.all_cons,Bool.and_eq_true]at h;exact⟨(vf h.1).1 hv.1,Fe h.2 hv.2⟩
 |[],_::_,_,h=>h.elim
 |_::_,[],_,h=>h.elim
def DN(P:Program)(f:FuncId)(args:List AV)(R:Row)(res:AV)(cells:List SV):Prop:=
 ∀(M:Mem) (w:World) (v0:Value) (vs us:List Value),M.dj w->w.ownsRow 0 R.E R.sz v0 R.n us->SV.eu M R.cells us->(∀g,v0.ownBlock=some g->∀o,M g o=none)->dx (qV M v0) args vs->
  Calls P f ⟨vs⟩ w λe w'=>∃v M' us',e=.returned v/\M.le M'/\(∀b o x,M' b o=some x->M b o=some x\/w.heap.size<=b)/\M'.dj w'/\res.holds (qV M' v0) v/\
   w'.ownsRow 0 R.E R.sz v0 R.n us'/\SV.eu M' cells us'/\w.grownBy w' v0.ownBlock
theorem HL{i:Nat}{v v0:Value}(h:(bif Nat.beq i 1000 then some v0 else none)=some v):1000<=i:=by
 cases e:Nat.beq i 1000 with
 |false=>rw[e]at h;cases h
 |true=>have:=Nat.eq_of_beq_eq_true e;omega
def Ou(w:World)(M:Mem)(v0:Value):Ctx:={w0:=w,M0:=M,own:=λk=>v0.ownBlock=some k,sQ:=λk=>v0.ownBlock=some k,iY:=λ_=>none,ec:=λi=>bif Nat.beq i 1000 then some v0 else none,ro:=none,J:=λ_ _ _ _ _=>True,EZ:=λ_ h=>h,J9:=λ_ _ h=>HL h,jf:=λ_ _ _ _ _ _ _ _ _ _ _ _ _ _ _ _=>trivial}
theorem Kw{n:Nat}{args:List AV}{R:Row}{M:Mem}{w:World}{v0:Value}{vs us:List Value}(hM:M.dj w)(ho:w.ownsRow 0 R.E R.sz v0 R.n us)(hc:SV.eu M R.cells us)(hm:∀g,v0.ownBlock=some g->∀o,M g o=none)(hv:dx (qV M v0) args vs)
  (hrow:args.all AV.ve=true) (hn:args.length<=n):bj (Ou w M v0) (AS.Hi n args [] [(1000,R)]) (qV M v0) {tmps:=⟨vs⟩++Array.replicate (n-(⟨vs⟩:Array Value).size) undef,defers:=[]} w:=by
 have hl:=hv.length;have Ff:∀s,(pO args s).ve=true:=λs=>by
  rcases xQ (l:=args) (k:=s)with e|e
  ·rw[e];rfl
  exact List.all_eq_true.1 hrow _ e
 have live:∀j R',(AS.Hi n args [] [(1000,R)]).r j=.live R'->j=1000/\R'=R:=by
  intro j R' h;simp only[AS.Hi,Ce]at h;cases e:Nat.beq j 1000 with
  |false=>
   simp[cX (λh=>by subst h;simp at e:j≠1000)]at h
  |true=>
   have:=Nat.eq_of_beq_eq_true e;subst this;simp at h;exact⟨Y,h.symm⟩
 exact{
  wf:=by
   refine⟨λs j hj=>?_,λs j hj=>?_,λi B e=>(by cases e),λi B e=>(by cases e)⟩
   ·have:=Ff s
    revert hj this
    show(pO args s).mb j->_;cases pO args s<;>intro hj hr<;>first|exact hj.elim|cases hr
   have:=Ff s;have hj':j=1000:=by
    revert hj this
    show(pO args s).mr j->_;cases pO args s<;>intro hj hr<;>first|exact hj.elim|exact(Bool.false_ne_true hr).elim|(cases hj;exact Nat.eq_of_beq_eq_true hr)
   subst hj';show(match Ce [(1000,R)] 1000 with|some R=>oI.live R|none=>.un)≠ .un;simp[Ce]
  marks:=⟨[],Y,List.nodup_nil,by simp⟩
  size:=by simp[AS.Hi];omega
  os:=rfl
  tape:=rfl
  output:=rfl
  grown:=Nat.le_refl _
  frame:=λ_ _ _=>rfl
  m0:=Mem.le_refl _
  fe:=λ_ _ _ e=>.inl e
  dj:=hM
  tm:=λs=>HK hv s
  bx:=λi B e=>by cases e
  inj:=λi j B B' e=>by cases e
  rx:=λi R' h=>by
   obtain⟨rfl,rfl⟩:=live i R' h;exact⟨⟨us,ho,hc⟩,λg hg=>⟨.inr hg,hm g hg,λh=>h,λj B e=>by cases e⟩⟩
  fW:=λi j R1 R2 hi hj _ _ _=>by rw[(live i R1 hi).1,(live j R2 hj).1]
  iY:=λi b e=>by cases e
  ec:=λi v e=>by
   simp only[Ou]at e;cases h:Nat.beq i 1000 with
   |false=>rw[h]at e;cases e
   |true=>rw[h]at e;cases e;rfl
  mg:=λb e=>e.elim
  jj:=trivial}
theorem r9{P:Program}{f:FuncId}{fn:Func}{code:Code}{args:List AV}{R:Row}{res:AV}{cells:List SV}(hf:P.funcs[f]? =some fn)(hb:fn.body=some code)(hn:args.length<=fn.ntmps)(hrow:args.all AV.ve=true)(hres:res.ve=true)
  (h:∀(w:World) (M:Mem) (v0:Value),Ok P (Ou w M v0) code (AS.Hi fn.ntmps args [] [(1000,R)]) (λe S=>(e=.normal\/e=.ret)/\A5 P S fn.results.toList res/\S.r 1000=.live ⟨R.E,R.sz,R.n,cells⟩)):DN P f args R res cells:=by
 intro M w v0 vs us hM ho hc hm hv;refine lq Y hf hb (Kw hM ho hc hm hv hrow hn) (h w M v0) ?_;rintro S' E a w' ⟨hr,hR⟩ hh;obtain⟨v,hv,hx⟩:=hr.run hh;have hν:E.ν 1000=v0:=hh.ec 1000 v0 Y;obtain⟨⟨us',q1,q2⟩,q3⟩:=hh.rx 1000 _ hR;rw[hν]at q1 q3;refine⟨v,hv,v,E.M,us',Y,hh.m0,λb o x e=>?_,hh.dj,?_,q1,q2,hh.os,hh.tape,hh.output,hh.grown,λk hk hne=>hh.frame k hk (λe=>hne e.symm)⟩
 ·rcases hh.fe b o x e with e'|e'|e'
  ·exact .inl e'
  ·exact .inr e'
  rw[(q3 b e').2.1 o]at e;cases e
 have:res.v7 1000=res:=by
  cases res<;>first|rfl|(simp only[AV.v7,AV.row.injEq,AV.gZ.injEq,AV.me.injEq];have:=Nat.eq_of_beq_eq_true hres;simp[this])
 rw[<-hν];rw[<-this]at hx;exact(vf hres).1 hx
def restore(w w':World)(g:Nat):World:=match w.heap[g]? with|some o=>{w' with heap:=w'.heap.setIfInBounds g o}|none=>w'
theorem xS{w w':World}{g:Nat}{o:Obj}(h:w.heap[g]? =some o)(hs:w.heap.size<=w'.heap.size):(restore w w' g).heap[g]? =some o:=by
 have h1:=(Array.getElem?_eq_some_iff.1 h).1;have h2:g<w'.heap.size:=Nat.lt_of_lt_of_le h1 hs;simp[restore,h,h2]
theorem kX{w w':World}{g k:Nat}(hk:k≠g):(restore w w' g).heap[k]? =w'.heap[k]? :=by
 unfold restore;split
 ·simp only[Array.getElem?_setIfInBounds];rw[if_neg (Ne.symm hk)]
 rfl
theorem tj{w w':World}{g:Nat}:(restore w w' g).os=w'.os/\(restore w w' g).tape=w'.tape/\(restore w w' g).output=w'.output/\(restore w w' g).heap.size=w'.heap.size:=by
 unfold restore;split
 ·exact⟨Y,Y,Y,by simp⟩
 exact⟨Y,Y,Y,Y⟩
theorem rO{w w':World}{g:Nat}(hg:w.grownBy w' (some g))(hlt:g<w.heap.size):Below w.heap.size w (restore w w' g):=by
 obtain⟨h1,h2,h3,h4⟩:=tj (w:=w) (w':=w') (g:=g);refine⟨h1.trans hg.os,h2.trans hg.tape,h3.trans hg.output,by rw[h4];exact hg.size,λk hk=>?_⟩;by_cases e:k=g
 ·subst e;rw[xS (Array.getElem?_eq_getElem hlt) hg.size,Array.getElem?_eq_getElem hlt]
 rw[kX e];exact hg.block k hk (by simp[e])
section steps
variable {P:Program}{C:Ctx}{ops:Array Oper}{S:AS}{nd:Bool}{K:List Ac->AS->Prop}{rest:List Oper}{acc:List Ac}
variable {gd:Option (Nat×Bool)}{rg:List Nat}{d:Nat}{ty:TypeId}{pos:String}{aft:Array Edge}{x y z:Operand}{T U E0:TypeId}
theorem AS.Ge{i:Nat}{R:oI}(h:S.r i=R):S.rC i R=S:=by
 refine AS.ext' rfl (λ_=>rfl) (λ_=>rfl) (λs=>?_) rfl rfl;by_cases e:s=i
 ·subst e;rw[AS.gV,h]
 rw[AS.mP _ _ _ _ e]
theorem zD{w w':World}(h:w.grownBy w' none):Below w.heap.size w w':=⟨h.os,h.tape,h.output,h.size,λk hk=>h.block k hk (by simp)⟩
theorem bj.Kx{E:Env}{a:Act}{w w':World}(h:bj C S E a w){i:Nat}{R:Row}(hR:S.r i=.live R){M':Mem}{cells:List SV}{us:List Value}
  (hM:E.M.le M') (hn:∀b o x,M' b o=some x->E.M b o=some x\/w.heap.size<=b) (hin:M'.dj w') (ho:w'.ownsRow 0 R.E R.sz (E.ν i) R.n us) (hc:SV.eu M' cells us) (hg:w.grownBy w' (E.ν i).ownBlock):
  bj C (S.rC i (.live ⟨R.E,R.sz,R.n,cells⟩)) {E with M:=M'} a w':=by
 obtain⟨⟨vs,q1,q2⟩,q3⟩:=h.rx i R hR;cases hb:(E.ν i).ownBlock with
 |none=>
  rw[hb]at hg;have hz:R.n=0:=by
   rcases q1.2 with⟨_,h2⟩|⟨g,cap,cur,h1,_⟩
   ·exact h2
   rw[h1]at hb;cases hb
  have e1:us=[]:=List.length_eq_zero_iff.1 (by have:=ho.1;rw[hz]at this;simpa using this);have e2:vs=[]:=List.length_eq_zero_iff.1 (by have:=q1.1;rw[hz]at this;simpa using this);have e3:cells=[]:=List.length_eq_zero_iff.1 (by have:=hc.length;rw[e1]at this;simpa using this);have e4:R.cells=[]:=List.length_eq_zero_iff.1 (by have:=q2.length;rw[e2]at this;simpa using this);have:S.rC i (.live ⟨R.E,R.sz,R.n,cells⟩)=S:=AS.Ge (by rw[hR,e3,<-e4]);rw[this];exact h.grow hM hn hin (zD hg)
 |some g=>
  rw[hb]at hg;have hlt:=mQ h hR hb;have hnone:∀o,M' g o=none:=λo=>by
   cases e:M' g o with
   |none=>rfl
   |some v=>
    rcases hn _ _ _ e with e'|e'
    ·rw[(q3 g hb).2.1 o]at e';cases e'
    omega
  have HM:M'.dj (restore w w' g):=dH hin λb ⟨o,v,e⟩=>kX (by rintro rfl;rw[hnone o]at e;cases e);have h1:=h.grow hM hn HM (rO hg hlt);obtain⟨r1,r2,r3,r4⟩:=tj (w:=w) (w':=w') (g:=g);refine h1.HJ (R:=R) hR hb ?_ r1.symm r2.symm r3.symm r4.symm (λk hk=>(kX hk).symm) ho hc;rcases q1.2 with⟨h2,_⟩|⟨g',cap,cur,h2,_,h3,_⟩
  ·rw[h2]at hb;cases hb
  rw[h2]at hb;cases hb;exact⟨_,_,xS h3 hg.size⟩
inductive A6 (S:AS):List Operand->List AV->Prop
 |nil:A6 S [] []
 |cons {x:Operand} {xs:List Operand} {s:AV} {ss:List AV} (h:S.ev x=s) (r:A6 S xs ss):A6 S (x::xs) (s::ss)
theorem A6.k2{S:AS}{xa xb:Operand}{a b:AV}(h1:S.ev xa=a)(h2:S.ev xb=b):A6 S [xa,xb] [a,b]:=.cons h1 (.cons h2 .nil)
theorem A6.k3{S:AS}{xa xb xc:Operand}{a b c:AV}(h1:S.ev xa=a)(h2:S.ev xb=b)(h3:S.ev xc=c):A6 S [xa,xb,xc] [a,b,c]:=.cons h1 (.cons h2 (.cons h3 .nil))
theorem A6.k4{S:AS}{xa xb xc xd:Operand}{a b c d:AV}(h1:S.ev xa=a)(h2:S.ev xb=b)(h3:S.ev xc=c)(h4:S.ev xd=d):A6 S [xa,xb,xc,xd] [a,b,c,d]:=.cons h1 (.cons h2 (.cons h3 (.cons h4 .nil)))
theorem A6.vals{E:Env}{a:Act}{w:World}{S':AS}(h:bj C S' E a w){xs:List Operand}{ss:List AV}(hs:A6 S xs ss)(ht:∀s∈xs.flatMap aZ,S'.t s=S.t s):dx E ss (xs.map a.eval):=by
 induction hs with
 |nil=>trivial
 | @cons x xs s ss h1 _ ih=>
  have h2:=h.ev x;rw[bt (λt h=>List.mem_flatMap.2 ⟨x,by simp,h⟩) ht,h1]at h2;refine⟨h2,ih (λt h=>ht t ?_)⟩;rw[List.flatMap_cons];exact List.mem_append_right _ h
theorem tq{f:FuncId}[cY P f]{o:Option Nat}{g:Operand}{xs:Array Operand}{at_:Array TypeId}{a:Act}{w:World}{caps:List Value}(AY:a.eval g=.func (.func f) #[] ⟨caps⟩):
  (execOp a.eval ⟨o,.call ⟨.value g,xs,at_⟩,ty,pos,aft,gd⟩).run P w=.ok (.enter f ⟨xs.toList.map a.eval++caps⟩) w:=by
 have e2:xs.map a.eval++⟨caps⟩=⟨xs.toList.map a.eval++caps⟩:=by apply Array.ext';simp
 have e1:=cY.run (P:=P) (f:=f) (xs.map a.eval++⟨caps⟩) w;rw[<-e2];simp[execOp,resolve,AY,Deferred.ofValue,invoke,e1]
theorem HN{S:AS}{i:Nat}{R:Row}{x:AV}(hx:x.ve=true)(hR:S.r i=.live R):(∀j,(x.v7 i).mb j->∃B,S.b j=some B)/\(∀j,(x.v7 i).mr j->S.r j≠ .un):=by
 cases x<;>first|cases hx|skip
 all_goals refine⟨λj e=>e.elim,λj e=>?_⟩
 all_goals first|exact e.elim|(cases e;rw[hR];simp)
theorem RT.RO(hg:Gd ops S gd rg){f:FuncId}[cY P f]{g:Operand}{xs:Array Operand}{at_:Array TypeId}{args:List AV}{R:Row}{res:AV}{cells:List SV}(hp:DN P f args R res cells)(i:Nat)(hR:S.r i=.live R)(hrow:args.all AV.ve=true)(hres:res.ve=true)
  (hf:S.ev g=.sv (.v (.func (.func f) #[] #[]))) (hargs:A6 S xs.toList (args.map (AV.v7 i))) (hd:d<S.n)
  (next:RunT P C ops nd K rest (⟨rg++(aZ g++xs.toList.flatMap aZ),[],[i],⟨some (d,res.v7 i),[],[(i,.live ⟨R.E,R.sz,R.n,cells⟩)]⟩⟩::acc) ((AS.cn [(i,.live ⟨R.E,R.sz,R.n,cells⟩)] S).set d (res.v7 i))):RunT P C ops nd K (⟨some d,.call ⟨.value g,xs,at_⟩,ty,pos,aft,gd⟩::rest) acc S:=by
 refine .inl ⟨_,[],[i],_,?_,next⟩;rintro S' hn ht _ hr k a w L Q ho ⟨E,h⟩ hL;refine ct (C:=C) ho (hg.wanted h (λs hs=>ht s (List.mem_append_left _ hs)) Y) ?_;have AY:a.eval g=.func (.func f) #[] ⟨[]⟩:=by
  have h1:=h.ev g;rw[bt (λ_ h=>List.mem_append_right _ (List.mem_append_left _ h)) ht,hf]at h1;exact h1
 have hall:=A6.vals h hargs (λs hs=>ht s (List.mem_append_right _ (List.mem_append_right _ hs)));have A3:S'.r i=.live R:=by rw[hr i (by simp)];exact hR
 obtain⟨⟨us,q1,q2⟩,q3⟩:=h.rx i R A3;refine cu (C:=C) (by intro c h;cases h) (tq AY) ?_;rw[List.append_nil];refine⟨λh=>by simp at h,k8 ((hp E.M w (E.ν i) _ us h.dj q1 q2 (λg hg=>(q3 g hg).2.1) (Fe hrow hall)).mono ?_)⟩;rintro e w' ⟨v,M',us',rfl,hM,hnew,hin,hv,ho',hc,RQ⟩;have h1:=h.Kx A3 hM hnew hin ho' hc RQ;refine hL _ _ ⟨_,h1.put (x:=res.v7 i) (v:=v) ((vf (E:={E with M:=M'}) hres).2 hv) (by show d<S'.n;omega) (HN hres (AS.gV _ _ _))⟩
end steps
end
section
open Go.RowKit
def Gf(P:Program)(f:FuncId)(args:List SV)(R:Row):Prop:=
 ∀(M:Mem) (w:World) (vs:List Value),M.dj w->SV.eu M args vs->
  Calls P f ⟨vs⟩ w λe w'=>∃v M' us,e=.returned v/\M.le M'/\(∀b o x,M' b o=some x->M b o=some x\/w.heap.size<=b)/\M'.dj w'/\
   w'.ownsRow 0 R.E R.sz v R.n us/\SV.eu M' R.cells us/\(∀g,v.ownBlock=some g->w.heap.size<=g/\∀o,M' g o=none)/\Below w.heap.size w w'
theorem xT{P:Program}{f:FuncId}{fn:Func}{code:Code}{args:List SV}{R:Row}(hf:P.funcs[f]? =some fn)(hb:fn.body=some code)(hn:args.length<=fn.ntmps)
  (h:∀(w:World) (M:Mem) (vs:List Value),SV.eu M args vs->Ok P (Hx w M) code (AS.init fn.ntmps args) (λe S=>(e=.normal\/e=.ret)/\∃k,A5 P S fn.results.toList (.row k)/\S.r k=.live R)):Gf P f args R:=by
 intro M w vs hM hvs;refine lq Y hf hb (mR hM hvs hn) (h w M vs hvs) ?_;rintro S' E a w' ⟨k,hr,hR⟩ hh;obtain⟨v,hv,hx⟩:=hr.run hh;obtain⟨⟨us,q1,q2⟩,q3⟩:=hh.rx k R hR;rw[<-show v=E.ν k from hx]at q1 q3;refine⟨v,hv,v,E.M,us,Y,hh.m0,λb o x e=>?_,hh.dj,q1,q2,λg hg=>?_,hh.os,hh.tape,hh.output,hh.grown,λk hk=>hh.frame k hk (λh=>h)⟩
 ·rcases hh.fe b o x e with h|h|h
  ·exact .inl h
  ·exact .inr h
  exact h.elim
 obtain⟨q4,q5,_⟩:=q3 g hg;exact⟨q4.elim id (λh=>h.elim),q5⟩
def HO(P:Program)(f:FuncId)(args:List SV)(T:TypeId)(c0:List SV)(res:SV)(c1:List SV):Prop:=
 ∀(M:Mem) (w:World) (β:Nat) (vs us:List Value),M.dj w->w.heap[β]? =some (.cells ⟨us⟩ T (0,0))->SV.eu M c0 us->(∀o,M β o=none)->SV.eu M args vs->
  Calls P f ⟨vs++[.pointer (some ⟨β,0,none⟩)]⟩ w λe w'=>∃v M' us',e=.returned v/\M.le M'/\(∀b o x,M' b o=some x->M b o=some x\/w.heap.size<=b)/\M'.dj w'/\res.h M' v/\
   w'.heap[β]? =some (.cells ⟨us'⟩ T (0,0))/\SV.eu M' c1 us'/\w.grownBy w' (some β)
def Ov(w:World)(M:Mem)(β:Nat):Ctx:={w0:=w,M0:=M,own:=λk=>k=β,sQ:=λk=>k=β,iY:=λi=>bif Nat.beq i 1000 then some β else none,ec:=λ_=>none,ro:=none,J:=λ_ _ _ _ _=>True,EZ:=λ_ h=>h,J9:=λ_ _ h=>(by cases h),jf:=λ_ _ _ _ _ _ _ _ _ _ _ _ _ _ _ _=>trivial}
theorem dx.append{E:Env}:∀{l l':List AV} {xs ys:List Value},dx E l xs->dx E l' ys->dx E (l++l') (xs++ys)
 |[],_,[],_,_,h=>h
 |_::_,_,_::_,_,h,h'=>⟨h.1,dx.append h.2 h'⟩
 |[],_,_::_,_,h,_=>h.elim
 |_::_,_,[],_,h,_=>h.elim
theorem qW{E:Env}:∀{l:List SV} {vs:List Value},dx E (l.map AV.sv) vs->SV.eu E.M l vs
 |[],[],_=>trivial
 |_::_,_::_,h=>⟨h.1,qW h.2⟩
 |[],_::_,h=>h.elim
 |_::_,[],h=>h.elim
theorem Ky{n:Nat}{args:List SV}{T:TypeId}{c0:List SV}{M:Mem}{w:World}{β:Nat}{vs us:List Value}(hM:M.dj w)(hb:w.heap[β]? =some (.cells ⟨us⟩ T (0,0)))(hc:SV.eu M c0 us)(hm:∀o,M β o=none)(hv:SV.eu M args vs)(hn:args.length+1<=n):
  bj (Ov w M β) (AS.Hi n (args.map AV.sv++[.ptr 1000 0]) [(1000,⟨T,c0.map AV.sv⟩)] []) ⟨λ_=>β,λ_=>.nilIface,λ_=>False,M⟩ {tmps:=⟨vs++[.pointer (some ⟨β,0,none⟩)]⟩++Array.replicate (n-(⟨vs++[.pointer (some ⟨β,0,none⟩)]⟩:Array Value).size) undef,defers:=[]} w:=by
 have hl:=hv.length;have hall:dx ⟨λ_=>β,λ_=>.nilIface,λ_=>False,M⟩ (args.map AV.sv++[.ptr 1000 0]) (vs++[.pointer (some ⟨β,0,none⟩)]):=dx.append (dx.vT hv) ⟨Y,aq⟩;have live:∀j B,(AS.Hi n (args.map AV.sv++[.ptr 1000 0]) [(1000,⟨T,c0.map AV.sv⟩)] []).b j=some B->j=1000/\B=⟨T,c0.map AV.sv⟩:=by
  intro j B h;have:=oO h;simpa using this
 have RR:(AS.Hi n (args.map AV.sv++[.ptr 1000 0]) [(1000,⟨T,c0.map AV.sv⟩)] []).b 1000=some ⟨T,c0.map AV.sv⟩:=rfl;have Mv:∀s,pO (args.map AV.sv++[.ptr 1000 0]) s=.ptr 1000 0\/∃t,pO (args.map AV.sv++[.ptr 1000 0]) s=.sv t:=λs=>by
  rcases xQ (l:=args.map AV.sv++[.ptr 1000 0]) (k:=s)with e|e
  ·exact .inr ⟨_,e⟩
  rcases List.mem_append.1 e with e|e
  ·obtain⟨t,_,ht⟩:=List.mem_map.1 e;exact .inr ⟨t,ht.symm⟩
  exact .inl (by simpa using e)
 exact{
  wf:=by
   refine⟨λs j hj=>?_,λs j hj=>?_,λi B hB x hx j hj=>?_,λi B hB x hx j hj=>?_⟩
   ·rcases Mv s with e|⟨t,e⟩
    ·have hj':(pO (args.map AV.sv++[.ptr 1000 0]) s).mb j:=hj;rw[e]at hj';cases hj';exact⟨_,RR⟩
    have hj':(pO (args.map AV.sv++[.ptr 1000 0]) s).mb j:=hj;rw[e]at hj';exact hj'.elim
   ·have hj':(pO (args.map AV.sv++[.ptr 1000 0]) s).mr j:=hj;rcases Mv s with e|⟨t,e⟩<;>rw[e]at hj'<;>exact hj'.elim
   ·obtain⟨rfl,rfl⟩:=live i B hB;exact(lf (S:=AS.Hi n (args.map AV.sv++[.ptr 1000 0]) [(1000,⟨T,c0.map AV.sv⟩)] []) x hx).1 j hj
   obtain⟨rfl,rfl⟩:=live i B hB;exact(lf (S:=AS.Hi n (args.map AV.sv++[.ptr 1000 0]) [(1000,⟨T,c0.map AV.sv⟩)] []) x hx).2 j hj
  marks:=⟨[],Y,List.nodup_nil,by simp⟩
  size:=by simp[AS.Hi];omega
  os:=rfl
  tape:=rfl
  output:=rfl
  grown:=Nat.le_refl _
  frame:=λ_ _ _=>rfl
  m0:=Mem.le_refl _
  fe:=λ_ _ _ e=>.inl e
  dj:=hM
  tm:=λs=>HK hall s
  bx:=λi B h=>by
   obtain⟨rfl,rfl⟩:=live i B h;exact⟨.inr Y,hm,λh=>h,us,hb,dx.vT hc⟩
  inj:=λi j B1 B2 hi hj _=>by rw[(live i B1 hi).1,(live j B2 hj).1]
  rx:=λi R e=>by cases e
  fW:=λi j R R' e=>by cases e
  iY:=λi b e=>by
   simp only[Ov]at e;cases h:Nat.beq i 1000 with
   |false=>rw[h]at e;cases e
   |true=>rw[h]at e;cases e;rfl
  ec:=λi v e=>by cases e
  mg:=λb e=>e.elim
  jj:=trivial}
theorem xU{P:Program}{f:FuncId}{fn:Func}{code:Code}{args:List SV}{T:TypeId}{c0 c1:List SV}{res:SV}(hf:P.funcs[f]? =some fn)(hb:fn.body=some code)(hn:args.length+1<=fn.ntmps)
  (h:∀(w:World) (M:Mem) (β:Nat),Ok P (Ov w M β) code (AS.Hi fn.ntmps (args.map AV.sv++[.ptr 1000 0]) [(1000,⟨T,c0.map AV.sv⟩)] []) (λe S=>(e=.normal\/e=.ret)/\Kp P S fn.results.toList res/\S.b 1000=some ⟨T,c1.map AV.sv⟩)):HO P f args T c0 res c1:=by
 intro M w β vs us hM RU hc hm hv;refine lq Y hf hb (Ky hM RU hc hm hv hn) (h w M β) ?_;rintro S' E a w' ⟨hr,hB⟩ hh;obtain⟨v,hv,hx⟩:=(A5.sv hr).run hh;have hβ:E.β 1000=β:=hh.iY 1000 β Y;obtain⟨_,q1,_,us',q2,q3⟩:=hh.bx 1000 _ hB;rw[hβ]at q1 q2;refine⟨v,hv,v,E.M,us',Y,hh.m0,λb o x e=>?_,hh.dj,hx,q2,qW q3,hh.os,hh.tape,hh.output,hh.grown,λk hk hne=>hh.frame k hk (λe=>hne (by rw[show k=β from e]))⟩;rcases hh.fe b o x e with e'|e'|e'
 ·exact .inl e'
 ·exact .inr e'
 rw[show b=β from e',q1 o]at e;cases e
def Ow(P:Program)(f:FuncId)(args:List SV)(g:FuncId)(T:TypeId)(cells:List SV):Prop:=
 ∀(M:Mem) (w:World) (vs:List Value),M.dj w->SV.eu M args vs->
  Calls P f ⟨vs⟩ w λe w'=>∃β M' us,e=.returned (.func (.func g) #[] #[.pointer (some ⟨β,0,none⟩)])/\M.le M'/\(∀b o x,M' b o=some x->M b o=some x\/w.heap.size<=b)/\M'.dj w'/\
   w.heap.size<=β/\w'.heap[β]? =some (.cells ⟨us⟩ T (0,0))/\SV.eu M' cells us/\(∀o,M' β o=none)/\Below w.heap.size w w'
theorem DO{P:Program}{f:FuncId}{fn:Func}{code:Code}{args:List SV}{g:FuncId}{T:TypeId}{cells:List SV}(hf:P.funcs[f]? =some fn)(hb:fn.body=some code)(hn:args.length<=fn.ntmps)
  (h:∀(w:World) (M:Mem) (vs:List Value),SV.eu M args vs->Ok P (Hx w M) code (AS.init fn.ntmps args) (λe S=>(e=.normal\/e=.ret)/\∃k,A5 P S fn.results.toList (.fO g [.box k])/\S.b k=some ⟨T,cells.map AV.sv⟩)):Ow P f args g T cells:=by
 intro M w vs hM hvs;refine lq Y hf hb (mR hM hvs hn) (h w M vs hvs) ?_;rintro S' E a w' ⟨k,hr,hB⟩ hh;obtain⟨v,hv,cs,rfl,hcs⟩:=hr.run hh;obtain⟨q1,q2,_,us,q3,q4⟩:=hh.bx k _ hB;cases cs with
 |nil=>exact hcs.elim
 |cons c cs=>
  cases cs with
  |cons _ _=>exact hcs.2.elim
  |nil=>
   obtain rfl:c=.pointer (some ⟨E.β k,0,none⟩):=hcs.1;refine⟨_,hv,E.β k,E.M,us,Y,hh.m0,λb o x e=>?_,hh.dj,q1.elim id (λh=>h.elim),q3,qW q4,q2,hh.os,hh.tape,hh.output,hh.grown,λk hk=>hh.frame k hk (λh=>h)⟩;rcases hh.fe b o x e with h|h|h
   ·exact .inl h
   ·exact .inr h
   exact h.elim
section steps
variable {P:Program}{C:Ctx}{ops:Array Oper}{S:AS}{nd:Bool}{K:List Ac->AS->Prop}{rest:List Oper}{acc:List Ac}
variable {gd:Option (Nat×Bool)}{rg:List Nat}{d:Nat}{ty:TypeId}{pos:String}{aft:Array Edge}{x y z:Operand}{T U E0:TypeId}
theorem xV(w:World)(b:Option Nat):w.grownBy w b:=⟨Y,Y,Y,Nat.le_refl _,λ_ _ _=>Y⟩
theorem bj.Fg{E:Env}{a:Act}{w:World}(h:bj C S E a w){g:Nat}{M':Mem}(hg:w.heap.size<=g)(hM:∀o,M' g o=none):Kq C S {E with M:=M'} g:=by
 obtain⟨h1,_,h3,h4,h5⟩:=h.free hg;exact⟨h1,hM,h3,h4,h5⟩
theorem RT.RV(hg:Gd ops S gd rg){f:FuncId}[cY P f]{g:Operand}{xs:Array Operand}{at_:Array TypeId}{args:List SV}{R:Row}(hp:Gf P f args R)(hf:S.ev g=.sv (.v (.func (.func f) #[] #[])))(hargs:hG S xs.toList args)(hd:d<S.n)(vc:S.r d=.un)(sV:d<1000)
  (next:RunT P C ops nd K rest (⟨rg++(aZ g++xs.toList.flatMap aZ),[],[d],⟨some (d,.row d),[],[(d,.live R)]⟩⟩::acc) ((AS.cn [(d,.live R)] S).set d (.row d))):RunT P C ops nd K (⟨some d,.call ⟨.value g,xs,at_⟩,ty,pos,aft,gd⟩::rest) acc S:=by
 refine .inl ⟨_,[],[d],_,?_,next⟩;rintro S' hn ht _ hr i a w L Q ho ⟨E,h⟩ hL;refine ct (C:=C) ho (hg.wanted h (λs hs=>ht s (List.mem_append_left _ hs)) Y) ?_;have AY:a.eval g=.func (.func f) #[] ⟨[]⟩:=by
  have h1:=h.ev g;rw[bt (λ_ h=>List.mem_append_right _ (List.mem_append_left _ h)) ht,hf]at h1;exact h1
 have hall:=hG.vals h hargs (λs hs=>ht s (List.mem_append_right _ (List.mem_append_right _ hs)));have Ga:S'.r d=.un:=by rw[hr d (by simp)];exact vc
 refine cu (C:=C) (by intro c h;cases h) (tq AY) ?_;rw[List.append_nil];refine⟨λh=>by simp at h,k8 ((hp E.M w _ h.dj hall).mono ?_)⟩;rintro e w' ⟨v,M',us,rfl,hM,hnew,hin,hv,hc,hfr,hb⟩;have h1:=(h.grow hM hnew hin hb).E9 Ga sV [] none (.inl ⟨Y,Y⟩) (R':=R) hv hc (λg hg=>.inr (h.Fg (hfr g hg).1 (hfr g hg).2)) (xV w' none);refine hL _ _ ⟨_,h1.put (x:=.row d) (v:=v) (by simp[AV.holds]) (by show d<S'.n;omega) ⟨λ_ e=>e.elim,λj e=>?_⟩⟩;cases e;show(AS.rC S' d _).r d≠_;rw[AS.gV];simp
theorem bj.Kz{E:Env}{a:Act}{w w':World}(h:bj C S E a w){j:Nat}{B:nC}(hB:S.b j=some B){M':Mem}{c1:List SV}{us:List Value}
  (hM:E.M.le M') (hn:∀b o x,M' b o=some x->E.M b o=some x\/w.heap.size<=b) (hin:M'.dj w') (hb:w'.heap[E.β j]? =some (.cells ⟨us⟩ B.T (0,0))) (hc:SV.eu M' c1 us) (hg:w.grownBy w' (some (E.β j))):
  bj C (S.lX j ⟨B.T,c1.map AV.sv⟩) {E with M:=M'} a w':=by
 obtain⟨_,q1,_,vs,q2,_⟩:=h.bx j B hB;have hlt:=oM h hB;have hnone:∀o,M' (E.β j) o=none:=λo=>by
  cases e:M' (E.β j) o with
  |none=>rfl
  |some v=>
   rcases hn _ _ _ e with e'|e'
   ·rw[q1 o]at e';cases e'
   omega
 have HM:M'.dj (restore w w' (E.β j)):=dH hin λb ⟨o,v,e⟩=>kX (by rintro rfl;rw[hnone o]at e;cases e);have h1:=h.grow hM hn HM (rO hg hlt);have h2:=h1.Hs (B:=B) hB (cells:=c1.map AV.sv) (vs:=us) (dx.vT hc) lf;have e:eE (restore w w' (E.β j)) (E.β j) us B.T=w':=by
  have VN:=(Array.getElem?_eq_some_iff.1 hb).1;unfold restore;rw[q2];unfold eE;have:(w'.heap.setIfInBounds (E.β j) (.cells ⟨vs⟩ B.T (0,0))).setIfInBounds (E.β j) (.cells ⟨us⟩ B.T (0,0))=w'.heap:=by
   apply Array.ext_getElem?;intro k;rw[Array.getElem?_setIfInBounds];by_cases hk:E.β j=k
   ·subst hk;rw[if_pos Y,if_pos (by simpa using VN),hb]
   rw[if_neg hk,Array.getElem?_setIfInBounds,if_neg hk]
  simp only[this]
 exact e▸h2
theorem RT.RW(hg:Gd ops S gd rg){f:FuncId}[cY P f]{g:Operand}{xs:Array Operand}{at_:Array TypeId}{args:List SV}{T:TypeId}{c0 c1:List SV}{res:SV}(hp:HO P f args T c0 res c1)(j:Nat)(hB:S.b j=some ⟨T,c0.map AV.sv⟩)
  (hf:S.ev g=.fO f [.box j]) (hargs:hG S xs.toList args) (hd:d<S.n)
  (next:RunT P C ops nd K rest (⟨rg++(aZ g++xs.toList.flatMap aZ),[j],[],⟨some (d,.sv res),[(j,⟨T,c1.map AV.sv⟩)],[]⟩⟩::acc) ((AS.kG [(j,⟨T,c1.map AV.sv⟩)] S).set d (.sv res))):RunT P C ops nd K (⟨some d,.call ⟨.value g,xs,at_⟩,ty,pos,aft,gd⟩::rest) acc S:=by
 refine .inl ⟨_,[j],[],_,?_,next⟩;rintro S' hn ht hb _ k a w L Q ho ⟨E,h⟩ hL;refine ct (C:=C) ho (hg.wanted h (λs hs=>ht s (List.mem_append_left _ hs)) Y) ?_;have AY:a.eval g=.func (.func f) #[] ⟨[.pointer (some ⟨E.β j,0,none⟩)]⟩:=by
  have h1:=h.ev g;rw[bt (λ_ h=>List.mem_append_right _ (List.mem_append_left _ h)) ht,hf]at h1;obtain⟨vs,h2,h3⟩:=h1;cases vs with
  |nil=>exact h3.elim
  |cons v vs=>
   cases vs with
   |cons _ _=>exact h3.2.elim
   |nil=>rw[h2,show v=_ from h3.1]
 have hall:=hG.vals h hargs (λs hs=>ht s (List.mem_append_right _ (List.mem_append_right _ hs)));have jA:S'.b j=some ⟨T,c0.map AV.sv⟩:=by rw[hb j (by simp)];exact hB
 obtain⟨_,q1,_,us,q2,q3⟩:=h.bx j _ jA;refine cu (C:=C) (by intro c h;cases h) (tq AY) ?_;refine⟨λh=>by simp at h,k8 ((hp E.M w (E.β j) _ us h.dj q2 (qW q3) q1 hall).mono ?_)⟩;rintro e w' ⟨v,M',us',rfl,hM,hnew,hin,hv,RU,hc,RQ⟩;have h1:=h.Kz jA hM hnew hin RU hc RQ;exact hL _ _ ⟨_,h1.put (x:=.sv res) (v:=v) hv (by show d<S'.n;omega) fC⟩
theorem bj.KA{E:Env}{a:Act}{w:World}(h:bj C S E a w){i:Nat}(hi:S.b i=none)(hp:C.iY i=none){g:Nat}(hg:Kq C S E g){cells:List AV}{vs:List Value}(hb:w.heap[g]? =some (.cells ⟨vs⟩ T (0,0)))(hc:dx E cells vs)(hl:∀x∈cells,(∀j,x.mb j->∃B,S.b j=some B)/\(∀j,x.mr j->S.r j≠ .un)):
  bj C (S.lX i ⟨T,cells⟩) {E with β:=λj=>if j=i then g else E.β j} a w:=by
 obtain⟨f1,f2,f3,f4,f5⟩:=hg;have ne:∀j,(∃B,S.b j=some B)->j≠i:=by rintro j ⟨B,hB⟩ rfl;rw[hi]at hB;cases hB
 have keep:∀x:AV,(∀j,x.mb j->∃B,S.b j=some B)->∀v,x.holds E v->x.holds {E with β:=λj=>if j=i then g else E.β j} v:=λx hx v hv=>
  AV.cL (E:=E) (E':={E with β:=λj=>if j=i then g else E.β j}) (Mem.le_refl _) (λj hj=>if_neg (ne j (hx j hj))) (λ_ _=>rfl) hv
 have pY:∀j,(∃B,S.b j=some B)->∃B,(S.lX i ⟨T,cells⟩).b j=some B:=λj hj=>by
  obtain⟨B,hB⟩:=hj;exact⟨B,by rw[AS.b7 _ _ _ _ (ne j ⟨B,hB⟩)];exact hB⟩
 exact{
  wf:=by
   refine⟨λs j hj=>pY j (h.wf.tb s j hj),h.wf.tr,λj B hB x hx k hk=>?_,λj B hB x hx k hk=>?_⟩
   ·by_cases hj:j=i
    ·subst hj;rw[AS.eW]at hB;cases hB;exact pY k ((hl x hx).1 k hk)
    rw[AS.b7 _ _ _ _ hj]at hB;exact pY k (h.wf.bb j B hB x hx k hk)
   by_cases hj:j=i
   ·subst hj;rw[AS.eW]at hB;cases hB;exact(hl x hx).2 k hk
   rw[AS.b7 _ _ _ _ hj]at hB;exact h.wf.br j B hB x hx k hk
  marks:=h.marks
  size:=h.size
  os:=h.os
  tape:=h.tape
  output:=h.output
  grown:=h.grown
  frame:=h.frame
  m0:=h.m0
  fe:=h.fe
  dj:=h.dj
  tm:=λs=>keep _ (h.wf.tb s) _ (h.tm s)
  bx:=λj B hB=>by
   by_cases hj:j=i
   ·subst hj;rw[AS.eW]at hB;cases hB;simp only[if_true];exact⟨.inl f1,f2,f3,vs,hb,hc.imp λx hx v hv=>keep x (hl x hx).1 v hv⟩
   rw[AS.b7 _ _ _ _ hj]at hB;obtain⟨h1,h2,h3,vs',h4,h5⟩:=h.bx j B hB;simp only[if_neg hj];exact⟨h1,h2,h3,vs',h4,h5.imp λx hx v hv=>keep x (h.wf.bb j B hB x hx) v hv⟩
  inj:=λj k B B' hj hk e=>by
   by_cases h1:j=i
   ·subst h1;by_cases h2:k=j
    ·exact h2.symm
    rw[AS.b7 _ _ _ _ h2]at hk;simp only[if_true,if_neg h2]at e;exact absurd e.symm (f4 k B' hk)
   rw[AS.b7 _ _ _ _ h1]at hj;by_cases h2:k=i
   ·subst h2;simp only[if_true,if_neg h1]at e;exact absurd e (f4 j B hj)
   rw[AS.b7 _ _ _ _ h2]at hk;simp only[if_neg h1,if_neg h2]at e;exact h.inj j k B B' hj hk e
  rx:=λj R hR=>by
   obtain⟨⟨us,h1,h2⟩,h3⟩:=h.rx j R hR;refine⟨⟨us,h1,h2⟩,λg' Hy=>?_⟩;obtain⟨h4,h5,h6,h7⟩:=h3 g' Hy;refine⟨h4,h5,h6,λk B hB=>?_⟩;by_cases hk:k=i
   ·subst hk;simp only[if_true];rintro rfl;exact f5 j R hR Hy
   rw[AS.b7 _ _ _ _ hk]at hB;simp only[if_neg hk];exact h7 k B hB
  fW:=h.fW
  iY:=λj b hj=>by
   have hne:j≠i:=by rintro rfl;rw[hp]at hj;cases hj
   simp only[if_neg hne];exact h.iY j b hj
  ec:=h.ec
  mg:=h.mg
  jj:=h.jj}
theorem RT.xW(hg:Gd ops S gd rg){f:FuncId}[cY P f]{g:Operand}{xs:Array Operand}{at_:Array TypeId}{args:List SV}{fc:FuncId}{T:TypeId}{cells:List SV}(hp:Ow P f args fc T cells)(hf:S.ev g=.sv (.v (.func (.func f) #[] #[])))(hargs:hG S xs.toList args)(hd:d<S.n)(hdb:S.b d=none)(VO:C.iY d=none)
  (next:RunT P C ops nd K rest (⟨rg++(aZ g++xs.toList.flatMap aZ),[d],[],⟨some (d,.fO fc [.box d]),[(d,⟨T,cells.map AV.sv⟩)],[]⟩⟩::acc) ((AS.kG [(d,⟨T,cells.map AV.sv⟩)] S).set d (.fO fc [.box d]))):RunT P C ops nd K (⟨some d,.call ⟨.value g,xs,at_⟩,ty,pos,aft,gd⟩::rest) acc S:=by
 refine .inl ⟨_,[d],[],_,?_,next⟩;rintro S' hn ht hb _ i a w L Q ho ⟨E,h⟩ hL;refine ct (C:=C) ho (hg.wanted h (λs hs=>ht s (List.mem_append_left _ hs)) Y) ?_;have AY:a.eval g=.func (.func f) #[] ⟨[]⟩:=by
  have h1:=h.ev g;rw[bt (λ_ h=>List.mem_append_right _ (List.mem_append_left _ h)) ht,hf]at h1;exact h1
 have hall:=hG.vals h hargs (λs hs=>ht s (List.mem_append_right _ (List.mem_append_right _ hs)));have hdn:S'.b d=none:=by rw[hb d (by simp)];exact hdb
 refine cu (C:=C) (by intro c h;cases h) (tq AY) ?_;rw[List.append_nil];refine⟨λh=>by simp at h,k8 ((hp E.M w _ h.dj hall).mono ?_)⟩;rintro e w' ⟨β,M',us,rfl,hM,hnew,hin,hβ,RU,hc,hno,hbl⟩;have h1:=(h.grow hM hnew hin hbl).KA hdn VO (h.Fg hβ hno) RU (dx.vT hc) lf;refine hL _ _ ⟨_,h1.put (x:=.fO fc [.box d]) ⟨[_],Y,by simp[oK.holds],aq⟩ (by show d<S'.n;omega) ⟨λj e=>?_,λj e=>e.elim⟩⟩;have:j=d:=by simpa[AV.mb]using e
 subst this;exact⟨_,AS.eW _ _ _⟩
end steps
end
section
open Go.RowKit
abbrev JT:=Nat->Bool->(Nat->Prop)->Mem->World->Prop
structure Ox (O:Nat->Prop) (M:Mem) (w:World) (O':Nat->Prop) (M':Mem) (w':World):Prop where
 le:M.le M'
 dj:M'.dj w'
 new:∀b o v,M' b o=some v->M b o=some v\/w.heap.size<=b\/O b
 oo:∀b,O' b->(O b\/w.heap.size<=b)/\b<w'.heap.size/\∀o,M' b o=none
 same:∀k,k<w.heap.size->¬O k->w'.heap[k]? =w.heap[k]?
 os:w'.os=w.os
 tape:w'.tape=w.tape
 output:w'.output=w.output
 size:w.heap.size<=w'.heap.size
def xX(w0:World)(J:JT):Prop:=
 ∀(g:Nat) (h:Bool) (O:Nat->Prop) (M M':Mem) (w w':World),J g h O M w->M.le M'->M'.dj w'->(∀b o v,M' b o=some v->M b o=some v\/(w0.heap.size<=b/\¬O b))->
  (∀b,b<w0.heap.size\/O b->w'.heap[b]? =w.heap[b]?)->w'.os=w.os->w'.tape=w.tape->w'.output=w.output->w.heap.size<=w'.heap.size->J g h O M' w'
def DP(P:Program)(l:Nat)(J:JT)(n:Nat)(xs:Nat->List SV)(M0:Mem):Prop:=
 ∀(k:Nat) (O:Nat->Prop) (M:Mem) (w:World) (args:List Value),k<n->J k true O M w->M0.le M->M.dj w->SV.eu M (xs k) args->
  YieldAt (Fr none) 0 P l ⟨args⟩ w λe w'=>∃b O' M',e=.returned (.bool b)/\J (k+1) b O' M' w'/\Ox O M w O' M' w'
def Iter(P:Program)(f:FuncId)(caps:List SV)(n:Nat)(xs:Nat->List SV):Prop:=
 ∀(J:JT) (O:Nat->Prop) (M:Mem) (w:World) (l:Nat) (rE:List Value),M.dj w->SV.eu M caps rE->xX w J->DP P l J n xs M->(∀b,O b->b<w.heap.size/\∀o,M b o=none)->J 0 true O M w->
  Calls P f ⟨.func (.yield l) #[] #[]::rE⟩ w λe w'=>∃v g b O' M',e=.returned v/\J g b O' M' w'/\(b=true->g=n)
theorem Gg{w0:World}{J:JT}(hJ:xX w0 J)(g:Nat)(h:Bool)(O:Nat->Prop)(M M':Mem)(w w':World)(j:J g h O M w)(hM:M.le M')(hin:M'.dj w')(hn:∀b o v,M' b o=some v->M b o=some v\/((w0.heap.size<=b\/False)/\¬O b))
  (hs:∀b,(b<w0.heap.size/\¬False)\/O b->w'.heap[b]? =w.heap[b]?) (h1:w'.os=w.os) (h2:w'.tape=w.tape) (h3:w'.output=w.output) (h4:w.heap.size<=w'.heap.size):J g h O M' w':=
 hJ g h O M M' w w' j hM hin (λb o v e=>(hn b o v e).imp id (λ⟨a,c⟩=>⟨a.elim id (λx=>x.elim),c⟩)) (λb hb=>hs b (hb.imp (λx=>⟨x,λy=>y⟩) id)) h1 h2 h3 h4
def RX(w:World)(M:Mem)(O:Nat->Prop)(J:JT)(hJ:xX w J):Ctx:={w0:=w,M0:=M,own:=O,sQ:=λ_=>False,iY:=λ_=>none,ec:=λ_=>none,ro:=none,J:=J,EZ:=λ_ h=>h.elim,J9:=λ_ _ h=>(by cases h),jf:=Gg hJ}
theorem xY{P:Program}{f:FuncId}{fn:Func}{code:Code}{caps:List SV}{n:Nat}{xs:Nat->List SV}(hf:P.funcs[f]? =some fn)(hb:fn.body=some code)(hres:fn.results=#[])(hn:caps.length+1<=fn.ntmps)
  (h:∀(w:World) (M:Mem) (O:Nat->Prop) (l:Nat) (J:JT) (hJ:xX w J),(∃rE,SV.eu M caps rE)->DP P l J n xs M->
   Ok P (RX w M O J hJ) code (AS.init fn.ntmps (.v (.func (.yield l) #[] #[])::caps)) (λe S=>(e=.normal\/e=.ret)/\(S.go=true->S.g=n))):Iter P f caps n xs:=by
 intro J O M w l rE hM hc hJ hr hO h0;have hvs:SV.eu M (.v (.func (.yield l) #[] #[])::caps) (.func (.yield l) #[] #[]::rE):=⟨Y,hc⟩;have hl:=hvs.length;have VP:bj (RX w M O J hJ) (AS.init fn.ntmps (.v (.func (.yield l) #[] #[])::caps)) ⟨λ_=>0,λ_=>.nilIface,O,M⟩ {tmps:=⟨.func (.yield l) #[] #[]::rE⟩++Array.replicate (fn.ntmps-(⟨.func (.yield l) #[] #[]::rE⟩:Array Value).size) undef,defers:=[]} w:=by
  have h1:=mR (n:=fn.ntmps) hM hvs (by simpa using hn);exact{h1 with tm:=λs=>AV.cL (E:=⟨λ_=>0,λ_=>.nilIface,λ_=>False,M⟩) (E':=⟨λ_=>0,λ_=>.nilIface,O,M⟩) (Mem.le_refl _) (λ_ _=>rfl) (λ_ _=>rfl) (h1.tm s),marks:=⟨[],rfl,List.nodup_nil,by simp⟩,frame:=λ_ _ _=>rfl,fe:=λ_ _ _ e=>.inl e,bx:=λi B e=>(by cases e),rx:=λi R e=>(by cases e),iY:=λi b e=>(by cases e),ec:=λi b e=>(by cases e),mg:=λb hb=>⟨(hO b hb).1,(hO b hb).2,.inl hb⟩,jj:=h0}
 refine lq Y hf hb VP (h w M O l J hJ ⟨rE,hc⟩ hr) ?_;rintro S' E a w' hg hh;refine⟨.tuple #[],?_,.tuple #[],S'.g,S'.go,E.O,E.M,Y,hh.jj,hg⟩;simp[results,hres]
section steps
variable {P:Program}{C:Ctx}{ops:Array Oper}{S:AS}{nd:Bool}{K:List Ac->AS->Prop}{rest:List Oper}{acc:List Ac}
variable {gd:Option (Nat×Bool)}{rg:List Nat}{d:Nat}{ty:TypeId}{pos:String}{aft:Array Edge}{x y z:Operand}{T U E0:TypeId}
theorem bj.swap{E:Env}{a:Act}{w w':World}(h:bj C S E a w){O':Nat->Prop}{M':Mem}(hs:Ox E.O E.M w O' M' w')(Oy:∀k,¬C.sQ k){g:Nat}{go:Bool}(hj:C.J g go O' M' w'):
  bj C {S with g:=g,go:=go} {E with O:=O',M:=M'} a w':=by
 have keep:∀x:AV,∀v,x.holds E v->x.holds {E with O:=O',M:=M'} v:=λx v hv=>AV.cL (E:=E) (E':={E with O:=O',M:=M'}) hs.le (λ_ _=>rfl) (λ_ _=>rfl) hv;have none:∀b,b<w.heap.size->¬E.O b->(∀o,E.M b o=none)->∀o,M' b o=none:=λb hb hO h2 o=>by
  cases e:M' b o with
  |none=>rfl
  |some v=>
   rcases hs.new _ _ _ e with e'|e'|e'
   ·rw[h2 o]at e';cases e'
   ·omega
   exact absurd e' hO
 have Oz:∀b,b<w.heap.size->¬E.O b->¬O' b:=λb hb hO h'=>by
  rcases(hs.oo b h').1 with e|e
  ·exact hO e
  omega
 exact{
  wf:=⟨h.wf.tb,h.wf.tr,h.wf.bb,h.wf.br⟩
  marks:=by
   obtain⟨ds,h1,h2,h3⟩:=h.marks;refine⟨ds,h1,h2,λr hr=>?_⟩;obtain⟨h4,h5,h6⟩:=h3 r hr;have hlt:=(Array.getElem?_eq_some_iff.1 h6).1;exact⟨h4,Oz r hlt h5,by rw[hs.same r hlt h5];exact h6⟩
  size:=h.size
  os:=hs.os.trans h.os
  tape:=hs.tape.trans h.tape
  output:=hs.output.trans h.output
  grown:=Nat.le_trans h.grown hs.size
  frame:=λk hk hk'=>by
   rw[hs.same k (by have:=h.grown;omega) (λhO=>by
    rcases(h.mg k hO).2.2 with e|e
    ·exact hk' e
    omega)]
   exact h.frame k hk hk'
  m0:=Mem.le_trans h.m0 hs.le
  fe:=λb o v e=>by
   rcases hs.new b o v e with e'|e'|e'
   ·exact h.fe b o v e'
   ·exact .inr (.inl (Nat.le_trans h.grown e'))
   exact .inr ((h.mg b e').2.2.symm)
  dj:=hs.dj
  tm:=λs=>keep _ _ (h.tm s)
  bx:=λi B hB=>by
   obtain⟨h1,h2,h3,vs,h4,h5⟩:=h.bx i B hB;have hlt:=oM h hB;exact⟨h1,none _ hlt h3 h2,Oz _ hlt h3,vs,by rw[hs.same _ hlt h3];exact h4,h5.imp λx _ v hv=>keep x v hv⟩
  inj:=h.inj
  rx:=λi R hR=>by
   obtain⟨⟨us,h1,h2⟩,h3⟩:=h.rx i R hR;refine⟨⟨us,dy h1 λg hg=>hs.same g (mQ h hR hg) (h3 g hg).2.2.1,h2.mono hs.le⟩,λg hg=>?_⟩;obtain⟨h4,h5,h6,h7⟩:=h3 g hg;exact⟨h4,none _ (mQ h hR hg) h6 h5,Oz _ (mQ h hR hg) h6,h7⟩
  fW:=h.fW
  iY:=h.iY
  ec:=h.ec
  mg:=λb hO=>by
   obtain⟨h1,h2,h3⟩:=hs.oo b hO;refine⟨h2,h3,?_⟩;rcases h1 with e|e
   ·exact(h.mg b e).2.2
   exact .inr (Nat.le_trans h.grown e)
  jj:=hj}
theorem RT.yield(hg:Gd ops S gd rg){l n:Nat}{xs:Nat->List SV}(hr:DP P l C.J n xs C.M0)(hro:C.ro=none)(Oy:∀k,¬C.sQ k){g:Operand}{ys:Array Operand}{at_:Array TypeId}(hf:S.ev g=.sv (.v (.func (.yield l) #[] #[])))(k:Nat)(hk:S.g=k)(DE:S.go=true)(hlt:k<n)(hargs:hG S ys.toList (xs k))(hd:d<S.n)
  {R:AS->Prop} (next:∀b:Bool,RunT P C ops true (λ_ S=>R S) rest [] ((AS.mk S.n S.t S.b S.r (k+1) b).set d (.sv (.v (.bool b))))):RunT P C ops true (λ_ S=>R S) (⟨some d,.call ⟨.value g,ys,at_⟩,ty,pos,aft,gd⟩::rest) acc S:=by
 refine .inr ⟨Y,λS'=>∃b:Bool,S'=(AS.mk S.n S.t S.b S.r (k+1) b).set d (.sv (.v (.bool b))),?_,?_⟩
 ·rintro i a w L Q ho ⟨E,h⟩ hL;refine ct (C:=C) ho (hg.wanted h (λ_ _=>rfl) rfl) ?_;have AY:a.eval g=.func (.yield l) #[] #[]:=by have h1:=h.ev g;rw[hf]at h1;exact h1
  have hall:=hG.vals h hargs (λ_ _=>rfl);have hj:=h.jj;rw[hk,DE]at hj;obtain⟨fn,tmps,assign,body,hy,OA⟩:=hr k E.O E.M w _ hlt hj h.m0 h.dj hall;have e2:ys.map a.eval=⟨ys.toList.map a.eval⟩:=by apply Array.ext';simp
  have hrun:(execOp a.eval ⟨some d,.call ⟨.value g,ys,at_⟩,ty,pos,aft,gd⟩).run P w=.ok (.round l fn tmps assign body) w:=by
   rw[<-e2]at hy;simp[execOp,resolve,AY,Deferred.ofValue,invoke,hy]
  refine cu (C:=C) (by intro c h;cases h) hrun ?_;rw[hro];refine⟨λh=>by simp at h,RoundIn.mono OA ?_⟩;rintro e w' ⟨b,O',M',rfl,hj',hs⟩;exact hL _ _ _ ⟨b,Y⟩ ⟨_,(h.swap hs Oy hj').put (x:=.sv (.v (.bool b))) Y hd fC⟩
 rintro S' ⟨b,rfl⟩;exact next b
end steps
end
section
open Go.RowKit
structure RD where
 W:World
 M:Mem
 sQ:Nat->Prop
 β:Nat->Nat
 l:Nat
 o:Bool->Obj
theorem KB(D:RD)(h:Bool)(O:Nat->Prop)(w w':World)(j:O D.l/\w.heap[D.l]? =some (D.o h))(hs:∀b,(b<D.W.heap.size/\¬D.sQ b)\/O b->w'.heap[b]? =w.heap[b]?):O D.l/\w'.heap[D.l]? =some (D.o h):=
 ⟨j.1,by rw[hs D.l (.inr j.1)];exact j.2⟩
def DQ(pb:List Nat)(β:Nat->Nat)(p:Nat->Option Nat)(i:Nat):Option Nat:=bif pb.any (Nat.beq i)then some (β i)else p i
def wQ(C:Ctx)(D:RD)(pb:List Nat):Ctx:={w0:=D.W,M0:=D.M,own:=λk=>D.sQ k\/k=D.l,sQ:=D.sQ,iY:=DQ pb D.β C.iY,ec:=C.ec,ro:=some D.l,J:=λ_ go O _ w=>O D.l/\w.heap[D.l]? =some (D.o go),EZ:=λ_ h=>.inl h,J9:=C.J9,jf:=λ_ h O _ _ w w' j _ _ _ hs _ _ _ _=>KB D h O w w' j hs}
def xZ(C:Ctx)(β:Nat->Nat)(pb:List Nat):Ctx:={w0:=C.w0,M0:=C.M0,own:=C.own,sQ:=C.sQ,iY:=DQ pb β C.iY,ec:=C.ec,ro:=C.ro,J:=C.J,EZ:=C.EZ,J9:=C.J9,jf:=C.jf}
theorem tu{pb:List Nat}{i:Nat}:pb.any (Nat.beq i)=true↔i∈pb:=by
 rw[List.any_eq_true];exact⟨λ⟨x,h1,h2⟩=>by rw[Nat.eq_of_beq_eq_true h2];exact h1,λh=>⟨i,h,by simp⟩⟩
theorem bj.pinned{C:Ctx}{S:AS}{E:Env}{a:Act}{w:World}(h:bj C S E a w)(pb:List Nat):bj (xZ C E.β pb) S E a w:=
 {wf:=h.wf,marks:=h.marks,size:=h.size,os:=h.os,tape:=h.tape,output:=h.output,grown:=h.grown,frame:=h.frame,m0:=h.m0,fe:=h.fe,dj:=h.dj,tm:=h.tm,bx:=h.bx,inj:=h.inj,rx:=h.rx,fW:=h.fW,ec:=h.ec,mg:=h.mg,jj:=h.jj,
  iY:=λi b e=>by
   simp only[xZ,DQ]at e;cases hh:pb.any (Nat.beq i)with
   |true=>rw[hh]at e;cases e;rfl
   |false=>rw[hh]at e;exact h.iY i b e}
theorem bj.HP{C:Ctx}{S:AS}{E:Env}{a:Act}{w:World}{β:Nat->Nat}{pb:List Nat}(h:bj (xZ C β pb) S E a w)(hβ:∀i b,C.iY i=some b->β i=b):bj C S E a w:=
 {wf:=h.wf,marks:=h.marks,size:=h.size,os:=h.os,tape:=h.tape,output:=h.output,grown:=h.grown,frame:=h.frame,m0:=h.m0,fe:=h.fe,dj:=h.dj,tm:=h.tm,bx:=h.bx,inj:=h.inj,rx:=h.rx,fW:=h.fW,ec:=h.ec,mg:=h.mg,jj:=h.jj,
  iY:=λi b e=>by
   cases hh:pb.any (Nat.beq i)with
   |true=>rw[h.iY i (β i) (by simp[xZ,DQ,hh])];exact hβ i b e
   |false=>exact h.iY i b (by simpa[xZ,DQ,hh]using e)}
def Cl(S:AS)(E:Env)(k:Nat):Prop:=(∃i B,S.b i=some B/\E.β i=k)\/(∃i R,S.r i=.live R/\(E.ν i).ownBlock=some k)
theorem lu{C:Ctx}{S:AS}{E:Env}{a:Act}{w:World}(h:bj C S E a w){k:Nat}(hk:Cl S E k):(C.w0.heap.size<=k\/C.sQ k)/\(∀o,E.M k o=none)/\¬E.O k/\∃c e,w.heap[k]? =some (Obj.cells c e (0,0)):=by
 rcases hk with⟨i,B,h1,rfl⟩|⟨i,R,h1,h2⟩
 ·obtain⟨h3,h4,h5,vs,h6,_⟩:=h.bx i B h1;exact⟨h3,h4,h5,_,_,h6⟩
 obtain⟨⟨us,h3,_⟩,h4⟩:=h.rx i R h1;obtain⟨h5,h6,h7,_⟩:=h4 k h2;refine⟨h5,h6,h7,?_⟩;rcases h3.2 with⟨h8,_⟩|⟨g,cap,cur,h8,_,h9,_⟩
 ·rw[h8]at h2;cases h2
 rw[h8]at h2;cases h2;exact⟨_,_,h9⟩
def Ag:List Nat->List SV->AS->AS
 |p::ps,s::ss,S=>Ag ps ss (S.set p (.sv s))
 |_,_,S=>S
def AS.RY(S:AS)(ps:List Nat)(ss:List SV):AS:=Ag ps ss ⟨S.n,S.t,S.b,S.r,S.g,false⟩
def AS.HQ(S:AS):AS:=⟨S.n,S.t,S.b,S.r,S.g,true⟩
def RP(p:Prop)(pb:List Nat)(T next:AS)(Q:Exit->AS->Prop):Exit->AS->Prop
 |.normal,S=>p/\S.go=true/\(pb.all λi=>(S.b i).isSome)=true/\rD (AS.mk T.n T.t S.b S.r S.g true) next
 |.ret,S=>S.go=true/\(pb.all λi=>(S.b i).isSome)=true/\Q .ret (AS.mk T.n T.t S.b S.r S.g true)
 |.exit id,S=>S.go=true/\(pb.all λi=>(S.b i).isSome)=true/\Q (.exit id) (AS.mk T.n T.t S.b S.r S.g true)
 |_,_=>False
theorem bj.KC{C:Ctx}{S:AS}{E:Env}{a:Act}{w:World}(h:bj C S E a w){l:Nat}{o:Obj}(hO:E.O l)(hown:C.w0.heap.size<=l\/C.own l){go:Bool}(hj:C.J S.g go E.O E.M (w.putObj l o)):
  bj C ⟨S.n,S.t,S.b,S.r,S.g,go⟩ E a (w.putObj l o):=by
 have same:∀k,k≠l->(w.putObj l o).heap[k]? =w.heap[k]? :=λk hk=>World.putObj_heap_other hk
 exact{
  wf:=⟨h.wf.tb,h.wf.tr,h.wf.bb,h.wf.br⟩
  marks:=by
   obtain⟨ds,h1,h2,h3⟩:=h.marks;refine⟨ds,h1,h2,λr hr=>?_⟩;obtain⟨h4,h5,h6⟩:=h3 r hr;exact⟨h4,h5,by rw[same r (by rintro rfl;exact h5 hO)];exact h6⟩
  size:=h.size
  os:=h.os
  tape:=h.tape
  output:=h.output
  grown:=by rw[World.putObj_size];exact h.grown
  frame:=λk hk hk'=>by
   rw[same k (by
    rintro rfl;rcases hown with e|e
    ·omega
    exact hk' e)]
   exact h.frame k hk hk'
  m0:=h.m0
  fe:=h.fe
  dj:=dH h.dj λb ⟨o',v,e⟩=>same b (by rintro rfl;rw[(h.mg _ hO).2.1 o']at e;cases e)
  tm:=h.tm
  bx:=λi B hB=>by
   obtain⟨h1,h2,h3,vs,h4,h5⟩:=h.bx i B hB;exact⟨h1,h2,h3,vs,by rw[same _ (by intro e;rw[e]at h3;exact h3 hO)];exact h4,h5⟩
  inj:=h.inj
  rx:=λi R hR=>by
   obtain⟨⟨us,h1,h2⟩,h3⟩:=h.rx i R hR;exact⟨⟨us,dy h1 λg hg=>same g (by rintro rfl;exact(h3 _ hg).2.2.1 hO),h2⟩,h3⟩
  fW:=h.fW
  iY:=h.iY
  ec:=h.ec
  mg:=λb hb=>by rw[World.putObj_size];exact h.mg b hb
  jj:=hj}
theorem v8{C:Ctx}{E:Env}{w:World}:∀(ps:List Nat) (ss:List SV) (S:AS) (vs:List Value) (tmps:Array Value),bj C S E ⟨tmps,[]⟩ w->SV.eu E.M ss vs->ps.length=ss.length->(∀p∈ps,p<S.n)->
  bj C (Ag ps ss S) E ⟨(ps.zip vs).foldl (λt (p,v)=>t.setIfInBounds p v) tmps,[]⟩ w
 |[],[],S,[],tmps,h,_,_,_=>h
 |p::ps,s::ss,S,v::vs,tmps,h,hv,hl,hp=>by
  have h1:=h.put (d:=p) (x:=.sv s) (v:=v) hv.1 (hp p (by simp)) fC;exact v8 ps ss _ vs _ h1 hv.2 (by simpa using hl) (λq hq=>hp q (List.mem_cons_of_mem _ hq))
 |[],_::_,_,_,_,_,_,hl,_=>by simp at hl
 |_::_,[],_,_,_,_,_,hl,_=>by simp at hl
 |[],[],_,_::_,_,_,h,_,_=>h.elim
 |_::_,_::_,_,[],_,_,h,_,_=>h.elim
theorem bj.Gh{C:Ctx}{S:AS}{E:Env}{a:Act}{w:World}{β:Nat->Nat}{pb:List Nat}(h:bj (xZ C β pb) S E a w){l:Nat}{o:Bool->Obj}(hl:w.heap[l]? =some (o false))(hlo:∀b c e,o b≠ .cells c e (0,0))(G7:∀o',E.M l o'=none):
  bj (wQ C ⟨w,E.M,Cl S E,β,l,o⟩ pb) ⟨S.n,S.t,S.b,S.r,S.g,false⟩ {E with O:=λb=>b=l} ⟨a.tmps,[]⟩ w where
 wf:=⟨h.wf.tb,h.wf.tr,h.wf.bb,h.wf.br⟩
 marks:=⟨[],Y,List.nodup_nil,by simp⟩
 size:=h.size
 os:=rfl
 tape:=rfl
 output:=rfl
 grown:=Nat.le_refl _
 frame:=λ_ _ _=>rfl
 m0:=Mem.le_refl _
 fe:=λ_ _ _ e=>.inl e
 dj:=h.dj
 tm:=λs=>AV.cL (E:=E) (E':={E with O:=λb=>b=l}) (Mem.le_refl _) (λ_ _=>rfl) (λ_ _=>rfl) (h.tm s)
 bx:=λi B hB=>by
  obtain⟨h1,h2,h3,vs,h4,h5⟩:=h.bx i B hB;refine⟨.inr (.inl ⟨i,B,hB,rfl⟩),h2,?_,vs,h4,h5.imp λx _ v hv=>AV.cL (E:=E) (E':={E with O:=λb=>b=l}) (Mem.le_refl _) (λ_ _=>rfl) (λ_ _=>rfl) hv⟩;intro e;rw[show E.β i=l from e,hl]at h4;exact hlo _ _ _ (Option.some.inj h4)
 inj:=h.inj
 rx:=λi R hR=>by
  obtain⟨⟨us,h1,h2⟩,h3⟩:=h.rx i R hR;refine⟨⟨us,h1,h2⟩,λg hg=>?_⟩;obtain⟨h4,h5,h6,h7⟩:=h3 g hg;refine⟨.inr (.inr ⟨i,R,hR,hg⟩),h5,?_,h7⟩;intro e;obtain⟨_,_,_,c,e',hc⟩:=lu h (.inr ⟨i,R,hR,hg⟩);rw[show g=l from e,hl]at hc;exact hlo _ _ _ (Option.some.inj hc)
 fW:=h.fW
 iY:=h.iY
 ec:=h.ec
 mg:=λb e=>by
  obtain rfl:b=l:=e;exact⟨(Array.getElem?_eq_some_iff.1 hl).1,G7,.inl (.inr Y)⟩
 jj:=⟨Y,hl⟩
theorem bj.R3{C:Ctx}{T S2:AS}{E E2:Env}{a a2:Act}{W3:World}{D:RD}{pb:List Nat}(h2:bj (wQ C D pb) S2 E2 a2 W3)
  (hT:∀s,(∀j,(T.t s).mb j->j∈pb)/\(∀j,¬(T.t s).mr j)) (VQ:(pb.all λi=>(S2.b i).isSome)=true) (hn:a.tmps.size=T.n) (VR:∀s,(T.t s).holds E (a.tmps.getD s undef)) (hM:E.M.le E2.M) (hβ:∀i,i∈pb->E.β i=D.β i):
  bj (wQ C D pb) ⟨T.n,T.t,S2.b,S2.r,S2.g,S2.go⟩ E2 ⟨a.tmps,[]⟩ W3:=
 {h2 with
  wf:=⟨λs j hj=>by
    have:=List.all_eq_true.1 VQ j ((hT s).1 j hj);exact Option.isSome_iff_exists.1 this,λs j hj=>absurd hj ((hT s).2 j),h2.wf.bb,h2.wf.br⟩
  marks:=⟨[],Y,List.nodup_nil,by simp⟩
  size:=hn
  tm:=λs=>AV.cL hM (λj hj=>by
    have hj':=(hT s).1 j hj;rw[hβ j hj']
    exact h2.iY j (D.β j) (by simp[wQ,DQ,tu.2 hj'])) (λj hj=>absurd hj ((hT s).2 j)) (VR s)}
theorem bj.outOfRound{C:Ctx}{S S2:AS}{E E2:Env}{a:Act}{w W3:World}{β:Nat->Nat}{pb:List Nat}(hJ:∀g h O M w,C.J g h O M w)(h:bj (xZ C β pb) S E a w){l:Nat}{o:Bool->Obj}(VS:C.w0.heap.size<=l)(G7:∀r,a.defers≠[]->kN r∈a.defers->r≠l)
  (h2:bj (wQ C ⟨w,E.M,Cl S E,β,l,o⟩ pb) S2 E2 ⟨a.tmps,[]⟩ W3) (o':Obj):
  bj (xZ C β pb) S2 {E2 with O:=λ_=>False} a (W3.putObj l o'):=by
 have Rg:E2.O l:=h2.jj.1;have same:∀k,k≠l->(W3.putObj l o').heap[k]? =W3.heap[k]? :=λk hk=>World.putObj_heap_other hk;have keep:∀x:AV,∀v,x.holds E2 v->x.holds {E2 with O:=λ_=>False} v:=λx v hv=>AV.cL (E:=E2) (E':={E2 with O:=λ_=>False}) (Mem.le_refl _) (λ_ _=>rfl) (λ_ _=>rfl) hv;have sQ:∀k,w.heap.size<=k\/Cl S E k->C.w0.heap.size<=k\/C.sQ k:=λk hk=>by
  rcases hk with e|e
  ·exact .inl (Nat.le_trans h.grown e)
  exact(lu h e).1
 exact{
  wf:=h2.wf
  marks:=by
   obtain⟨ds,h1,h3,h4⟩:=h.marks;refine⟨ds,h1,h3,λr hr=>?_⟩;obtain⟨h5,_,h6⟩:=h4 r hr;have hmem:kN r∈a.defers:=by rw[h1];exact List.mem_map_of_mem hr
   refine⟨h5,λh=>h,?_⟩;rw[same r (G7 r (List.ne_nil_of_mem hmem) hmem),h2.frame r (Array.getElem?_eq_some_iff.1 h6).1 (λe=>?_)]
   ·exact h6
   rcases e with e|e
   ·obtain⟨_,_,_,c,e',hc⟩:=lu h e;rw[h6]at hc;cases hc
   exact G7 r (List.ne_nil_of_mem hmem) hmem e
  size:=h2.size
  os:=h2.os.trans h.os
  tape:=h2.tape.trans h.tape
  output:=h2.output.trans h.output
  grown:=by rw[World.putObj_size];exact Nat.le_trans h.grown h2.grown
  frame:=λk hk hk'=>by
   have HG:k≠l:=by have:k<C.w0.heap.size:=hk;omega
   have VT:k<w.heap.size:=by have:C.w0.heap.size<=w.heap.size:=h.grown;have:k<C.w0.heap.size:=hk;omega
   rw[same k HG,h2.frame k VT (λe=>?_)]
   ·exact h.frame k hk hk'
   rcases e with e|e
   ·rcases(lu h e).1 with e|e
    ·have:k<C.w0.heap.size:=hk;have:C.w0.heap.size<=k:=e;omega
    exact hk' (C.EZ _ e)
   exact HG e
  m0:=Mem.le_trans h.m0 h2.m0
  fe:=λb o v e=>by
   rcases h2.fe b o v e with e|e|e
   ·exact h.fe b o v e
   ·exact .inr (.inl (Nat.le_trans h.grown e))
   rcases e with e|e
   ·rcases(lu h e).1 with e|e
    ·exact .inr (.inl e)
    exact .inr (.inr (C.EZ _ e))
   exact .inr (.inl (by rw[show b=l from e];exact VS))
  dj:=dH h2.dj λb ⟨o',v,e⟩=>same b (by rintro rfl;rw[(h2.mg _ Rg).2.1 o']at e;cases e)
  tm:=λs=>keep _ _ (h2.tm s)
  bx:=λi B hB=>by
   obtain⟨q1,q2,q3,vs,q4,q5⟩:=h2.bx i B hB;exact⟨sQ _ q1,q2,λh=>h,vs,by rw[same _ (by intro e;rw[e]at q3;exact q3 Rg)];exact q4,q5.imp λx _ v hv=>keep x v hv⟩
  inj:=h2.inj
  rx:=λi R hR=>by
   obtain⟨⟨us,q1,q2⟩,q3⟩:=h2.rx i R hR;refine⟨⟨us,dy q1 λg hg=>same g (by rintro rfl;exact(q3 _ hg).2.2.1 Rg),q2⟩,λg hg=>?_⟩;obtain⟨q4,q5,q6,q7⟩:=q3 g hg;exact⟨sQ _ q4,q5,λh=>h,q7⟩
  fW:=h2.fW
  iY:=h2.iY
  ec:=h2.ec
  mg:=λb e=>e.elim
  jj:=hJ _ _ _ _ _}
def JL(C:Ctx)(β:Nat->Nat)(pb:List Nat)(m:Nat)(I:Nat->AS)(Q:Exit->AS->Prop)(a0:Act)(l:Nat)(rec:LoopState->Option Code->Loop):JT:=λg b O M w=>
 ∃E S',bj (xZ C β pb) S' E a0 w/\E.M=M/\(∀k,¬E.O k)/\(∀k,O k↔k=l\/Cl S' E k)/\
  ((b=true/\g<=m/\S'=I g/\w.heap[l]? =some (.loop (rec .ready none)))\/(b=false/\∃c,((c=.ret/\Q .ret S')\/∃id,c=.exit id/\Q (.exit id) S')/\w.heap[l]? =some (.loop (rec .done (some c)))))
theorem HR{C:Ctx}{β:Nat->Nat}{pb:List Nat}{m:Nat}{I:Nat->AS}{Q:Exit->AS->Prop}{a0:Act}{l:Nat}{rec:LoopState->Option Code->Loop}{W1:World}(hJ:∀g h O M w,C.J g h O M w)(hmk:∀r,kN r∈a0.defers->r<W1.heap.size)(hW:C.w0.heap.size<=W1.heap.size):xX W1 (JL C β pb m I Q a0 l rec):=by
 rintro g b O M M' w w' ⟨E,S',h,rfl,hO,sS,vg⟩ hM hin hn hs g1 g2 g3 g4;have keep:∀x:AV,∀v,x.holds E v->x.holds {E with M:=M'} v:=λx v hv=>AV.cL (E:=E) (E':={E with M:=M'}) hM (λ_ _=>rfl) (λ_ _=>rfl) hv;have none:∀b,O b->(∀o,E.M b o=none)->∀o,M' b o=none:=λb hb h2 o=>by
  cases e:M' b o with
  |none=>rfl
  |some v=>
   rcases hn _ _ _ e with e'|e'
   ·rw[h2 o]at e';cases e'
   exact absurd hb e'.2
 have ob:∀i B,S'.b i=some B->O (E.β i):=λi B hB=>(sS _).2 (.inr (.inl ⟨i,B,hB,Y⟩));have orr:∀i R,S'.r i=.live R->∀g,(E.ν i).ownBlock=some g->O g:=λi R hR g hg=>(sS _).2 (.inr (.inr ⟨i,R,hR,hg⟩));refine⟨{E with M:=M'},S',?_,Y,hO,sS,?_⟩
 ·exact{
   wf:=h.wf
   marks:=by
    obtain⟨ds,h1,h2,h3⟩:=h.marks;refine⟨ds,h1,h2,λr hr=>?_⟩;obtain⟨h4,h5,h6⟩:=h3 r hr;exact⟨h4,h5,by rw[hs r (.inl (hmk r (by rw[h1];exact List.mem_map_of_mem hr)))];exact h6⟩
   size:=h.size
   os:=g1.trans h.os
   tape:=g2.trans h.tape
   output:=g3.trans h.output
   grown:=Nat.le_trans h.grown g4
   frame:=λk hk hk'=>by
    rw[hs k (.inl (Nat.lt_of_lt_of_le hk hW))];exact h.frame k hk hk'
   m0:=Mem.le_trans h.m0 hM
   fe:=λb o v e=>by
    rcases hn b o v e with e|e
    ·exact h.fe b o v e
    exact .inr (.inl (Nat.le_trans hW e.1))
   dj:=hin
   tm:=λs=>keep _ _ (h.tm s)
   bx:=λi B hB=>by
    obtain⟨h1,h2,h3,vs,h4,h5⟩:=h.bx i B hB;exact⟨h1,none _ (ob i B hB) h2,h3,vs,by rw[hs _ (.inr (ob i B hB))];exact h4,h5.imp λx _ v hv=>keep x v hv⟩
   inj:=h.inj
   rx:=λi R hR=>by
    obtain⟨⟨us,h1,h2⟩,h3⟩:=h.rx i R hR;refine⟨⟨us,dy h1 λg hg=>hs g (.inr (orr i R hR g hg)),h2.mono hM⟩,λg hg=>?_⟩;obtain⟨h4,h5,h6,h7⟩:=h3 g hg;exact⟨h4,none _ (orr i R hR g hg) h5,h6,h7⟩
   fW:=h.fW
   iY:=h.iY
   ec:=h.ec
   mg:=λb hb=>absurd hb (hO b)
   jj:=hJ _ _ _ _ _}
 have hl:w'.heap[l]? =w.heap[l]? :=hs l (.inr ((sS l).2 (.inl Y)));rcases vg with⟨e1,e2,e3⟩|⟨e1,c,e2,e3⟩
 ·exact .inl ⟨e1,e2,by rw[hl];exact e3⟩
 exact .inr ⟨e1,c,e2,by rw[hl];exact e3⟩
theorem ya{r:Loop}(c:Array Value)(e:TypeId):(Obj.loop r)≠ .cells c e (0,0):=by intro h;cases h
theorem zE{P:Program}{C:Ctx}{S:AS}{Q:Exit->AS->Prop}{g:Operand}{ps:Array Tmp}{assign body:Code}{f:FuncId}[cY P f]{caps:List SV}{n:Nat}{xs:Nat->List SV}
  (hit:Iter P f caps n xs) (hJ:∀g h O M w,C.J g h O M w) (hro:C.ro=none) (I:Nat->AS) (pb:List Nat) (hg:(I 0).ev g=.sv (oc f caps)) (hI:∀k,(I k).n=(I 0).n/\(I k).t=(I 0).t)
  (hT:∀s,(∀j,((I 0).t s).mb j->j∈pb)/\∀j,¬((I 0).t s).mr j) (hps:∀k,(xs k).length=ps.size) (HF:∀p∈ps.toList,p<(I 0).n) (h0:rD S (I 0))
  (m:Nat) (round:∀k,k<n->k<=m->∀D:RD,C.w0.heap.size<=D.W.heap.size->Ok P (wQ C D pb) assign ((I k).RY ps.toList (xs k)) (aV (λS1=>S1.go=false/\Ok P (wQ C D pb) body S1.HQ (RP (k+1<=m) pb (I 0) (I (k+1)) Q)) (λ_ _=>False)))
  (done:n<=m->Q .normal (I n)):Ok P C (.rangeFunc g ps assign body) S Q:=by
 intro a w hs;obtain⟨E',h1⟩:=h0 C a w hs;obtain⟨rE,F5,VU⟩:(oc f caps).h E'.M (a.eval g):=by have:=h1.ev g;rw[hg]at this;exact this
 rw[hro];refine wpIn_rangeFunc ?_;intro fn _;obtain⟨rec,vg⟩:∃rec:LoopState->Option Code->Loop,rec=λst pe=>{state:=st,pending:=pe,fn,tmps:=a.tmps,params:=ps,assign,body,defers:=w.heap.size}:=⟨_,Y⟩;obtain⟨W1,R4⟩:∃W1,(w.alloc (.deferred (some []))).alloc (.loop (rec .ready none))=W1:=⟨_,Y⟩;have Rh:W1.heap[w.heap.size+1]? =some (.loop (rec .ready none)):=by
  rw[<-R4];have:=World.alloc_heap_new (w.alloc (.deferred (some []))) (.loop (rec .ready none));rwa[World.size_alloc]at this
 have hK1:W1.heap[w.heap.size]? =some (.deferred (some [])):=by
  rw[<-R4];exact(Below.heap_alloc _ _ _ (by simp)).trans (World.alloc_heap_new w _)
 have A4:Below w.heap.size w W1:=by rw[<-R4];exact(((Below.refl _ w).alloc (Nat.le_refl _) _).alloc (by simp) _)
 have hsz:W1.heap.size=w.heap.size+2:=by rw[<-R4];simp
 have h2:=h1.grow (M':=E'.M) (Mem.le_refl _) (λ_ _ _ e=>.inl e) (dH h1.dj λb ⟨o,v,e⟩=>A4.block b (lY h1.dj e)) A4;obtain⟨a0,ha0⟩:∃a0:Act,a0={a with defers:=kN w.heap.size::a.defers}:=⟨_,Y⟩;obtain⟨ds,d1,d2,d3⟩:=h1.marks;have VV:∀r∈ds,r<w.heap.size:=λr hr=>(Array.getElem?_eq_some_iff.1 (d3 r hr).2.2).1;have Fh:∀r r',kN r=kN r'->r=r':=λr r' e=>by
  have:=congrArg Deferred.target e;simpa[kN]using this
 have hmk:∀r,kN r∈a0.defers->r<w.heap.size+1:=λr hr=>by
  rw[ha0]at hr;rcases List.mem_cons.1 hr with e|e
  ·rw[Fh _ _ e];omega
  rw[d1]at e;obtain⟨r',hr',e⟩:=List.mem_map.1 e;rw[<-Fh _ _ e];have:=VV r' hr';omega
 have h3:bj C (I 0) {E' with O:=λ_=>False} a0 W1:=
  {h2 with
   marks:=by
    refine⟨w.heap.size::ds,by rw[ha0,List.map_cons,d1],List.nodup_cons.2 ⟨λhm=>by have:=VV _ hm;omega,d2⟩,λr hr=>?_⟩;rcases List.mem_cons.1 hr with rfl|hr
    ·exact⟨h1.grown,λh=>h,hK1⟩
    exact⟨(d3 r hr).1,λh=>h,by rw[A4.block r (VV r hr)];exact(d3 r hr).2.2⟩
   size:=by rw[ha0];exact h2.size
   tm:=λs=>by rw[ha0];exact AV.cL (E:=E') (E':={E' with O:=λ_=>False}) (Mem.le_refl _) (λ_ _=>rfl) (λ_ _=>rfl) (h2.tm s)
   bx:=λi B hB=>by
    obtain⟨q1,q2,q3,vs,q4,q5⟩:=h2.bx i B hB;exact⟨q1,q2,λh=>h,vs,q4,q5.imp λx _ v hv=>AV.cL (E:={E' with M:=E'.M}) (E':={E' with O:=λ_=>False}) (Mem.le_refl _) (λ_ _=>rfl) (λ_ _=>rfl) hv⟩
   rx:=λi R hR=>by
    obtain⟨q1,q2⟩:=h2.rx i R hR;exact⟨q1,λg hg=>⟨(q2 g hg).1,(q2 g hg).2.1,λh=>h,(q2 g hg).2.2.2⟩⟩
   mg:=λb e=>e.elim
   jj:=hJ _ _ _ _ _}
 have OB:∀i b,C.iY i=some b->E'.β i=b:=h1.iY;have h4:=h3.pinned pb;have VS:C.w0.heap.size<=w.heap.size+1:=Nat.le_succ_of_le h1.grown;refine⟨w.heap.size+1,[kN w.heap.size],W1,{target:=.fn (.func f) ⟨rE⟩,args:=#[.func (.yield (w.heap.size+1)) #[] #[]]},W1,f,
  ⟨.func (.yield (w.heap.size+1)) #[] #[]::rE⟩,W1,?_,?_,λ_ _=>trivial,?_,λh=>by simp at h,?_⟩
 ·rw[<-R4,vg];exact run_enterLoop_outer _ _ _ _ _
 ·simp only[resolve,F5];simp[Deferred.ofValue,Act.eval]
 ·have:=cY.run (P:=P) (f:=f) (#[.func (.yield (w.heap.size+1)) #[] #[]]++⟨rE⟩) W1;have e:(#[.func (.yield (w.heap.size+1)) #[] #[]]++⟨rE⟩:Array Value)=⟨.func (.yield (w.heap.size+1)) #[] #[]::rE⟩:=by apply Array.ext';simp
  rw[e]at this;simp[invoke,e,this]
 have Mw:E'.M.dj W1:=h3.dj;refine k8 ((hit (JL C E'.β pb m I Q a0 (w.heap.size+1) rec) (λk=>k=w.heap.size+1\/Cl (I 0) {E' with O:=λ_=>False} k) E'.M W1 (w.heap.size+1) rE Mw VU
  (HR hJ (λr hr=>by have:=hmk r hr;omega) (by have:=h3.grown;exact this)) ?_ ?_ ?_).mono ?_)
 ·
  rintro k O M W args hk ⟨E,S',h,rfl,hO,sS,hst⟩ _ hin hargs;rcases hst with⟨_,hkm,rfl,hl⟩|⟨e,_⟩
  case inr=>cases e
  have VW:∀o,E.M (w.heap.size+1) o=none:=λo=>by
   cases e:E.M (w.heap.size+1) o with
   |none=>rfl
   |some v=>exact((hin _ _ _ e).no (by simp[World.cell?,hl]) (λes ck q=>by rw[hl]at q;cases q) (λc T q=>by rw[hl]at q;cases q)).elim
  have hlen:args.length=ps.size:=by rw[<-hargs.length,hps k]
  have hy:=run_yield (P:=P) (args:=⟨args⟩) hl (by rw[vg];simpa using hlen);rw[vg]at hy;refine⟨fn,_,assign,body,hy,?_⟩;simp only;clear hy
  let o:Bool->Obj:=λb=>bif b then .loop (rec .busy none)else .loop (rec .ready none)
  have HM:=h.Gh (l:=w.heap.size+1) (o:=o) hl (λb c e=>by cases b<;>exact ya c e) VW;have VX:a0.tmps=a.tmps:=by rw[ha0]
  have R5:=v8 ps.toList (xs k) _ args a0.tmps HM hargs (by rw[hps k];simp) (by
   intro p hp;show p<(I k).n;rw[(hI k).1];exact HF p hp)
  have VR:(ps.toList.zip args).foldl (λt (p,v)=>t.setIfInBounds p v) a0.tmps=(ps.zip ⟨args⟩).foldl (λtmps (t,a)=>tmps.setIfInBounds t a) a.tmps:=by
   rw[VX,<-Array.foldl_toList,Array.toList_zip]
  rw[VR]at R5;have hr:=round k hk hkm ⟨W,E.M,Cl (I k) E,E'.β,w.heap.size+1,o⟩ h.grown _ W ⟨_,R5⟩;refine roundIn_of_wpIn (F:=Fr none) trivial (wpIn_mono hr ?_);rintro e a1 w1 ⟨S1,q,E1,hh1⟩;cases e with
  |normal=>
   obtain⟨DE,hbody⟩:=q;obtain⟨Rg,RE⟩:=hh1.jj;rw[DE]at RE;refine⟨_,run_beginRound RE (by rw[vg]),?_⟩;have VY:=(Array.getElem?_eq_some_iff.1 RE).1;have Ci:Obj.loop {rec .ready none with state:=.busy}=o true:=by simp only[o,vg];rfl
   have zC:=hh1.KC (l:=w.heap.size+1) (o:=o true) Rg (.inr (.inr Y)) (go:=true) ⟨Rg,World.putObj_heap_same VY⟩;rw[Ci];refine wpIn_mono (hbody a1 _ ⟨_,zC⟩) ?_;have G7:∀r,a0.defers≠[]->kN r∈a0.defers->r≠w.heap.size+1:=λr _ hr=>by have:=hmk r hr;omega
   have out:∀(S2:AS) (E2:Env) (a2:Act) (W3:World),bj (wQ C ⟨W,E.M,Cl (I k) E,E'.β,w.heap.size+1,o⟩ pb) S2 E2 a2 W3->S2.go=true->(pb.all λi=>(S2.b i).isSome)=true->
     bj (wQ C ⟨W,E.M,Cl (I k) E,E'.β,w.heap.size+1,o⟩ pb) ⟨(I 0).n,(I 0).t,S2.b,S2.r,S2.g,true⟩ E2 ⟨a0.tmps,[]⟩ W3:=by
    intro S2 E2 a2 W3 hh OC VQ;have:=hh.R3 (T:=I 0) (E:=E) (a:=a0) hT VQ (by rw[h.size,(hI k).1]) (λs=>by have:=h.tm s;rw[(hI k).2]at this;exact this) hh.m0 (λi hi=>h.iY i (E'.β i) (by simp[xZ,DQ,tu.2 hi]));rw[OC]at this;exact this
   have fin:∀(S2:AS) (E2:Env) (W3:World) (jump:Option Code),bj (wQ C ⟨W,E.M,Cl (I k) E,E'.β,w.heap.size+1,o⟩ pb) S2 E2 ⟨a0.tmps,[]⟩ W3->S2.go=true->
     (Instr.endRound (w.heap.size+1) jump).run P W3=.ok (.bool jump.isNone) (W3.putObj (w.heap.size+1) (.loop (rec (if jump.isNone then .ready else .done) jump)))/\
     bj (xZ C E'.β pb) S2 {E2 with O:=λ_=>False} a0 (W3.putObj (w.heap.size+1) (.loop (rec (if jump.isNone then .ready else .done) jump)))/\
     (W3.putObj (w.heap.size+1) (.loop (rec (if jump.isNone then .ready else .done) jump))).heap[w.heap.size+1]? =some (.loop (rec (if jump.isNone then .ready else .done) jump))/\
     Ox O E.M W (λb=>b=w.heap.size+1\/Cl S2 {E2 with O:=λ_=>False} b) E2.M (W3.putObj (w.heap.size+1) (.loop (rec (if jump.isNone then .ready else .done) jump))):=by
    intro S2 E2 W3 jump hh OC;obtain⟨VZ,V0⟩:=hh.jj;rw[OC]at V0;have R6:=(Array.getElem?_eq_some_iff.1 V0).1;have hrun:=run_endRound (P:=P) jump V0;have hout:=h.outOfRound hJ (l:=w.heap.size+1) (o:=o) VS G7 hh (.loop (rec (if jump.isNone then .ready else .done) jump));refine⟨?_,hout,World.putObj_heap_same R6,?_⟩
    ·rw[hrun,vg]
    refine⟨hh.m0,hout.dj,λb o v e=>?_,λb hb=>?_,λk' hk' hnO=>?_,hh.os,hh.tape,hh.output,by rw[World.putObj_size];exact hh.grown⟩
    ·rcases hh.fe b o v e with e|e|e
     ·exact .inl e
     ·exact .inr (.inl e)
     exact .inr (.inr ((sS b).2 (e.symm)))
    ·rw[World.putObj_size];rcases hb with hb|hb
     ·subst hb;exact⟨.inl ((sS _).2 (.inl Y)),R6,(hh.mg _ VZ).2.1⟩
     obtain⟨q1,q2,q3,c,e',q4⟩:=lu hh (show Cl S2 E2 b from hb);refine⟨?_,(Array.getElem?_eq_some_iff.1 q4).1,q2⟩;rcases q1 with q1|q1
     ·exact .inr q1
     exact .inl ((sS b).2 (.inr q1))
    have hne:k'≠w.heap.size+1:=by rintro rfl;exact hnO ((sS _).2 (.inl rfl))
    rw[World.putObj_heap_other hne];exact hh.frame k' hk' (λe=>hnO ((sS k').2 e.symm))
   rintro e a2 W3 ⟨S2,hp,E2,UA⟩;cases e with
   |normal=>
    obtain⟨p0,p1,p2,p3⟩:=hp;obtain⟨E3,hh4⟩:=p3 _ _ _ ⟨_,out S2 E2 a2 W3 UA p1 p2⟩;have V1:(I (k+1)).go=true\/(I (k+1)).go=false:=by cases(I (k+1)).go<;>simp
    have V3:(I (k+1)).go=true:=by
     rcases V1 with e|e
     ·exact e
     exfalso;have h5:=hh4.jj.2;have h6:=(out S2 E2 a2 W3 UA p1 p2).jj.2;rw[e]at h5;rw[show(AS.mk (I 0).n (I 0).t S2.b S2.r S2.g true).go=true from rfl]at h6;rw[h5]at h6;simp[o,vg]at h6
    obtain⟨f1,f2,f3,f4⟩:=fin _ E3 W3 none hh4 V3;exact⟨_,_,f1,true,_,_,Y,⟨_,_,f2,Y,λ_ h=>h,λ_=>Iff.rfl,.inl ⟨Y,p0,Y,f3⟩⟩,f4⟩
   |ret=>
    obtain⟨p1,p2,p3⟩:=hp;obtain⟨f1,f2,f3,f4⟩:=fin _ E2 W3 (some .ret) (out S2 E2 a2 W3 UA p1 p2) Y;exact⟨_,_,f1,false,_,_,Y,⟨_,_,f2,Y,λ_ h=>h,λ_=>Iff.rfl,.inr ⟨Y,.ret,.inl ⟨Y,p3⟩,f3⟩⟩,f4⟩
   |exit id=>
    obtain⟨p1,p2,p3⟩:=hp;obtain⟨f1,f2,f3,f4⟩:=fin _ E2 W3 (some (.exit id)) (out S2 E2 a2 W3 UA p1 p2) Y;exact⟨_,_,f1,false,_,_,Y,⟨_,_,f2,Y,λ_ h=>h,λ_=>Iff.rfl,.inr ⟨Y,.exit id,.inr ⟨id,Y,p3⟩,f3⟩⟩,f4⟩
   |goto t=>exact hp.elim
   |panic ch=>exact hp.elim
   |outgrown=>exact hp.elim
  |_=>exact q.elim
 ·
  rintro b (rfl|hb)
  ·refine⟨by omega,λo=>?_⟩;cases e:E'.M (w.heap.size+1) o with
   |none=>rfl
   |some v=>exact((Mw _ _ _ e).no (by simp[World.cell?,Rh]) (λes ck q=>by rw[Rh]at q;cases q) (λc T q=>by rw[Rh]at q;cases q)).elim
  obtain⟨_,q2,_,c,e,q3⟩:=lu h4 hb;exact⟨(Array.getElem?_eq_some_iff.1 q3).1,q2⟩
 ·exact⟨_,_,h4,Y,λ_ h=>h,λ_=>Iff.rfl,.inl ⟨Y,Nat.zero_le _,Y,Rh⟩⟩
 rintro e w' ⟨v,k,b,O',M',rfl,⟨E,S',h,rfl,hO,sS,hst⟩,hbn⟩;have V4:∀o',bj C S' E a0 (w'.putObj (w.heap.size+1) o'):=λo'=>by
  have hh:=h.HP OB;have hlr:∃r,w'.heap[w.heap.size+1]? =some (.loop r):=by
   rcases hst with⟨_,_,_,h⟩|⟨_,c,_,h⟩<;>exact⟨_,h⟩
  obtain⟨r,hlr⟩:=hlr;have VW:∀o,E.M (w.heap.size+1) o=none:=λo=>by
   cases e:E.M (w.heap.size+1) o with
   |none=>rfl
   |some v=>exact((h.dj _ _ _ e).no (by simp[World.cell?,hlr]) (λes ck q=>by rw[hlr]at q;cases q) (λc T q=>by rw[hlr]at q;cases q)).elim
  have R7:∀b,Cl S' E b->b≠w.heap.size+1:=by
   rintro b hb rfl;obtain⟨_,_,_,c,e,q⟩:=lu hh hb;rw[hlr]at q;cases q
  have same:∀k,k≠w.heap.size+1->(w'.putObj (w.heap.size+1) o').heap[k]? =w'.heap[k]? :=λk hk=>World.putObj_heap_other hk
  exact{hh with
   marks:=by
    obtain⟨ds',q1,q2,q3⟩:=hh.marks;refine⟨ds',q1,q2,λr hr=>?_⟩;obtain⟨q4,q5,q6⟩:=q3 r hr;exact⟨q4,q5,by rw[same r (by have:=hmk r (by rw[q1];exact List.mem_map_of_mem hr);omega)];exact q6⟩
   grown:=by rw[World.putObj_size];exact hh.grown
   frame:=λk hk hk'=>by rw[same k (by omega)];exact hh.frame k hk hk'
   dj:=dH hh.dj λb ⟨o,v,e⟩=>same b (by rintro rfl;rw[VW o]at e;cases e)
   bx:=λi B hB=>by
    obtain⟨q1,q2,q3,vs,q4,q5⟩:=hh.bx i B hB;exact⟨q1,q2,q3,vs,by rw[same _ (R7 _ (.inl ⟨i,B,hB,Y⟩))];exact q4,q5⟩
   rx:=λi R hR=>by
    obtain⟨⟨us,q1,q2⟩,q3⟩:=hh.rx i R hR;exact⟨⟨us,dy q1 λg hg=>same g (R7 g (.inr ⟨i,R,hR,hg⟩)),q2⟩,q3⟩
   mg:=λb hb=>absurd hb (hO b)
   jj:=hJ _ _ _ _ _}
 rw[show({a with defers:=[kN w.heap.size]++a.defers}:Act)=a0 from by rw[ha0];rfl];rcases hst with⟨hb,hkm,rfl,hl⟩|⟨hb,c,hc,hl⟩
 ·have hk:=hbn hb;subst hk;refine⟨none,_,by have:=run_endLoop (P:=P) hl (by rw[vg];simp);rw[vg]at this;exact this,_,done hkm,_,V4 _⟩
 refine⟨some c,_,by have:=run_endLoop (P:=P) hl (by rw[vg];simp);rw[vg]at this;exact this,?_⟩;rcases hc with⟨rfl,hq⟩|⟨id,rfl,hq⟩
 ·exact wpIn_ret ⟨_,hq,_,V4 _⟩
 exact wpIn_exit ⟨_,hq,_,V4 _⟩
theorem oP{P:Program}{C:Ctx}{S:AS}{Q:Exit->AS->Prop}{g:Operand}{ps:Array Tmp}{assign body:Code}{f:FuncId}[cY P f]{caps:List SV}{n:Nat}{xs:Nat->List SV}
  (hit:Iter P f caps n xs) (hJ:∀g h O M w,C.J g h O M w) (hro:C.ro=none) (I:Nat->AS) (pb:List Nat) (hg:(I 0).ev g=.sv (oc f caps)) (hI:∀k,(I k).n=(I 0).n/\(I k).t=(I 0).t)
  (hT:∀s,(∀j,((I 0).t s).mb j->j∈pb)/\∀j,¬((I 0).t s).mr j) (hps:∀k,(xs k).length=ps.size) (HF:∀p∈ps.toList,p<(I 0).n) (h0:rD S (I 0))
  (round:∀k,k<n->∀D:RD,C.w0.heap.size<=D.W.heap.size->Ok P (wQ C D pb) assign ((I k).RY ps.toList (xs k)) (aV (λS1=>S1.go=false/\Ok P (wQ C D pb) body S1.HQ (RP True pb (I 0) (I (k+1)) Q)) (λ_ _=>False)))
  (done:Q .normal (I n)):Ok P C (.rangeFunc g ps assign body) S Q:=
 zE hit hJ hro I pb hg hI hT hps HF h0 n (λk hk _ D hD=>AR (round k hk D hD) λe S1 q=>by
  cases e with
  |normal=>exact⟨q.1,AR q.2 λe' S2 q'=>by cases e'<;>first|exact⟨hk,q'.2⟩|exact q'⟩
  |_=>exact q) (λ_=>done)
end
section
open Go.RowKit
theorem KD{a:Nat}:IntKind.u64.wrap (a:Int)=((a%18446744073709551616:Nat):Int):=by
 simp[IntKind.wrap,IntKind.signed,IntKind.bits]
theorem eqT{a b:Nat}(h:a=b):((a:Int)==(b:Int))=true:=by rw[h];exact beq_self_eq_true _
section steps
variable {P:Program}{C:Ctx}{ops:Array Oper}{S:AS}{nd:Bool}{K:List Ac->AS->Prop}{rest:List Oper}{acc:List Ac}
variable {gd:Option (Nat×Bool)}{rg:List Nat}{d:Nat}{ty:TypeId}{pos:String}{aft:Array Edge}{x y z:Operand}{T U E0 E1:TypeId}
theorem RT.R8{R:AS->Prop}(hg:Gd ops S gd rg){n:Nat}[tS:ep P T E0 n]{s:SV}{rows:List (List SV)}[hs:Kn s n rows]{n' c':Nat}(hx:S.ev x=.sv s)(hd:d<S.n)
  (next:∀b:Bool,(b=true->rows=[])->RunT P C ops true (λ_ S=>R S) rest [] (S.set d (.sv (.v (.bool b))))):RunT P C ops true (λ_ S=>R S) (⟨some d,.binOp .eql T x (.const (.slice none n' c')) U,ty,pos,aft,gd⟩::rest) acc S:=by
 refine .inr ⟨Y,λS'=>∃b:Bool,(b=true->rows=[])/\S'=S.set d (.sv (.v (.bool b))),?_,?_⟩
 ·rintro i a w L Q ho ⟨E,h⟩ hL;refine ct (C:=C) ho (hg.wanted h (λ_ _=>rfl) rfl) ?_;have h1:=h.ev x;rw[hx]at h1;obtain⟨ad,n0,c0,hv,V5⟩:∃ad n0 c0,a.eval x=.slice ad n0 c0/\(ad.isNone=true->rows=[]):=by
   rcases hs.h _ _ h1 with⟨_,e,e2⟩|⟨b,o,c,e,_⟩
   ·exact⟨_,_,_,e,λ_=>e2⟩
   exact⟨_,_,_,e,λh=>by cases h⟩
  have hrun:(execOp a.eval ⟨some d,.binOp .eql T x (.const (.slice none n' c')) U,ty,pos,aft,gd⟩).run P w=.ok (.value (.bool ad.isNone)) w:=by
   have e1:=Lib.run_eql_slice_nil (P:=P) w T E0 ad n0 c0 n' c' tS.u;have e2:(eqGuard .eql T x (.const (.slice none n' c')) (.slice ad n0 c0) (.slice none n' c')).run P w=.ok () w:=by simp[eqGuard]
   have e0:a.eval (.const (.slice none n' c'))=.slice none n' c':=rfl;simp only[execOp,hv,e0];simp only[Sem.run_bind,e2,e1,Result.andThen_ok,Sem.run_pure]
  exact cu (C:=C) (by intro c h;cases h) hrun (hL _ _ _ ⟨_,V5,rfl⟩ ⟨E,h.put (x:=.sv (.v (.bool ad.isNone))) rfl hd fC⟩)
 rintro S' ⟨b,hb,rfl⟩;exact next b hb
theorem RT.field(hg:Gd ops S gd rg){f off:Nat}[hf:He P T f off U][tV:pS P U]{cs:List SV}{s:SV}(hx:S.ev x=.sv (.agg cs))(hs:cs[off]? =some s)(hd:d<S.n)
  (next:RunT P C ops nd K rest (⟨rg++aZ x,[],[],⟨some (d,.sv s),[],[]⟩⟩::acc) (S.set d (.sv s))):RunT P C ops nd K (⟨some d,.field T x f,ty,pos,aft,gd⟩::rest) acc S:=
 RT.value hg (aZ x) [] [] (.sv s) hd (by intro c h;cases h) (λS' ht _ _ E a w h=>by
  have h1:=h.ev x;rw[bt (λ_ h=>h) ht,hx]at h1;obtain⟨vs,hv,hall⟩:=h1;obtain⟨u,hu,hs⟩:=hall.get hs;refine⟨u,?_,hs,fC⟩;have hF:=hf.h;cases hT:P.underlying T with
  |none=>rw[hT]at hF;cases hF
  |some ut=>
   rw[hT]at hF;cases ut with
   |struct fs=>
    simp only at hF;cases V6:fs[f]? with
    |none=>rw[V6]at hF;cases hF
    |some F=>
     rw[V6]at hF;simp only[Option.map_some,Option.some.injEq,Prod.mk.injEq]at hF;obtain⟨q1,q2⟩:=hF;simp[execOp,Instr.field,underlying,hT,V6,hv,asAgg,part,q1,q2,tV.isAgg,hu]
   |_=>cases hF) next
end steps
theorem gu{S:AS}(s k:Nat)(E0:TypeId)(sz:Nat)(hs:S.t s=.sv (.v (.slice none 0 0)))(hk:S.r k=.un)(VT:k<1000):rD S ((AS.cn [(k,.live ⟨E0,sz,0,[]⟩)] S).set s (.row k)):=by
 rintro C a w ⟨E,h⟩;have h1:=h.newRow hk VT [] none (.inl ⟨Y,Y⟩) (R':=⟨E0,sz,0,[]⟩) (World.ownsRow_nil w 0 E0 sz) (vs':=[]) trivial (.inl Y) (xV w none);refine⟨_,{h1 with wf:=?_,tm:=λt=>?_}⟩
 ·refine⟨λt j hj=>?_,λt j hj=>?_,h1.wf.bb,h1.wf.br⟩
  ·by_cases e:t=s
   ·subst e;rw[AS.ij]at hj;exact hj.elim
   rw[AS.gj _ _ _ _ e]at hj;exact h1.wf.tb t j hj
  by_cases e:t=s
  ·subst e;rw[AS.ij]at hj;cases hj;show(AS.rC S k _).r k≠_;rw[AS.gV];simp
  rw[AS.gj _ _ _ _ e]at hj;exact h1.wf.tr t j hj
 by_cases e:t=s
 ·subst e;rw[AS.ij];have:=h.tm t;rw[hs]at this;show a.tmps.getD t undef=if k=k then _ else _;rw[if_pos rfl];exact this
 rw[AS.gj _ _ _ _ e];exact h1.tm t
theorem HS{S:AS}(s:Nat)(X:SV)(hx:∀E v,(S.t s).holds E v->X.h E.M v):rD S (S.set s (.sv X)):=by
 rintro C a w ⟨E,h⟩;refine⟨E,{h with wf:=?_,tm:=λt=>?_}⟩
 ·refine⟨λt j hj=>?_,λt j hj=>?_,h.wf.bb,h.wf.br⟩
  ·by_cases e:t=s
   ·subst e;rw[AS.ij]at hj;exact hj.elim
   rw[AS.gj _ _ _ _ e]at hj;exact h.wf.tb t j hj
  by_cases e:t=s
  ·subst e;rw[AS.ij]at hj;exact hj.elim
  rw[AS.gj _ _ _ _ e]at hj;exact h.wf.tr t j hj
 by_cases e:t=s
 ·subst e;rw[AS.ij];exact hx E _ (h.tm t)
 rw[AS.gj _ _ _ _ e];exact h.tm t
theorem HT{g:FuncId}{caps:List SV}{E:Env}{v:Value}(h:(AV.fO g (caps.map oK.val)).holds E v):(oc g caps).h E.M v:=by
 obtain⟨vs,rfl,h⟩:=h;refine⟨vs,Y,?_⟩;have key:∀(l:List SV) (vs:List Value),wM E (l.map oK.val) vs->SV.eu E.M l vs:=by
  intro l
  induction l with
  |nil=>intro vs h;cases vs with|nil=>trivial|cons _ _=>exact h.elim
  |cons c l ih=>
   intro vs h;cases vs with
   |nil=>exact h.elim
   |cons x xs=>exact⟨h.1,ih xs h.2⟩
 exact key caps vs h
def AV.rt(pb:List Nat):AV->Bool
 |.sv _=>true
 |.ptr i _=>pb.any (Nat.beq i)
 |.B3 i _ _ _=>pb.any (Nat.beq i)
 |.fO _ js=>js.all λc=>match c with|.box i=>pb.any (Nat.beq i)|.val _=>true
 |_=>false
theorem R9{pb:List Nat}{x:AV}(h:x.rt pb=true):(∀j,x.mb j->j∈pb)/\∀j,¬x.mr j:=by
 cases x<;>first|cases h|skip
 ·exact⟨λj e=>e.elim,λj e=>e⟩
 ·exact⟨λj e=>by cases e;exact tu.1 h,λj e=>e⟩
 ·exact⟨λj e=>by cases e;exact tu.1 h,λj e=>e⟩
 refine⟨λj e=>?_,λj e=>e⟩;exact tu.1 (List.all_eq_true.1 h _ e)
theorem DR{n:Nat}{ts:List (Nat×AV)}{bs:List (Nat×nC)}{rs:List (Nat×Row)}{pb:List Nat}(h:(ts.all λp=>p.2.rt pb)=true)(s:Nat):(∀j,((AS.cw n ts bs rs).t s).mb j->j∈pb)/\∀j,¬((AS.cw n ts bs rs).t s).mr j:=by
 show(∀j,(E8 ts s).mb j->j∈pb)/\∀j,¬(E8 ts s).mr j;rcases xk (ts:=ts) (s:=s)with e|⟨p,hp,_,e⟩
 ·rw[e];exact⟨λj e=>e.elim,λj e=>e⟩
 rw[e];exact R9 (List.all_eq_true.1 h p hp)
theorem DS{ps:List Nat}{n:Nat}(h:(ps.all λp=>Nat.ble (p+1) n)=true):∀p∈ps,p<n:=λp hp=>af (List.all_eq_true.1 h p hp)
end
section
open Go.RowKit
inductive Src (S:AS) (E0:TypeId) (n:Nat):Operand->List (Nat×oI)->List Nat->Nat->List SV->Prop
 |nil {x:Operand} (h:S.ev x=.sv (.v (.slice none 0 0))):Src S E0 n x [] [] 0 []
 |row {x:Operand} {i m:Nat} {cs:List SV} (h:S.ev x=.row i) (hR:S.r i=.live ⟨E0,n,m,cs⟩):Src S E0 n x [(i,.dead)] [i] m cs
theorem HU{i:Nat}{X:SV}{x:AV}(h:¬x.mr i):x.mh i X=x:=by
 cases x with
 |row k=>simp only[AV.mh];rw[cX (λe=>h e.symm)];rfl
 |gZ k o=>simp only[AV.mh];rw[cX (λe=>h e.symm)];rfl
 |me k o l=>simp only[AV.mh];rw[cX (λe=>h e.symm)];rfl
 |cmp t js=>
  simp only[AV.mh];have:js.any (Fc.vS i)=false:=by
   cases e:js.any (Fc.vS i)with
   |false=>rfl
   |true=>
    obtain⟨c,hc,hi⟩:=List.any_eq_true.1 e;cases c with
    |row j=>have hi:Nat.beq j i=true:=hi;obtain rfl:=Nat.eq_of_beq_eq_true hi;exact absurd hc h
    |_=>cases hi
  rw[this];rfl
 |_=>rfl
section steps
variable {P:Program}{C:Ctx}{ops:Array Oper}{S:AS}{nd:Bool}{K:List Ac->AS->Prop}{rest:List Oper}{acc:List Ac}
variable {gd:Option (Nat×Bool)}{rg:List Nat}{d:Nat}{ty:TypeId}{pos:String}{aft:Array Edge}{x y z:Operand}{T U E0:TypeId}
theorem Src.val{E:Env}{a:Act}{w:World}{S':AS}{n m:Nat}{old:List (Nat×oI)}{rr:List Nat}{cs:List SV}(h:bj C S' E a w)(hx:Src S E0 n x old rr m cs)(ht:∀s∈aZ x,S'.t s=S.t s)(hr:∀i∈rr,S'.r i=S.r i):
  (∃vs,w.ownsRow 0 E0 n (a.eval x) m vs/\SV.eu E.M cs vs)/\((old=[]/\(a.eval x).ownBlock=none)\/∃i R,old=[(i,.dead)]/\S'.r i=.live R/\(a.eval x).ownBlock=(E.ν i).ownBlock):=by
 cases hx with
 |nil hx=>
  have h1:a.eval x=.slice none 0 0:=by have h1:=h.ev x;rw[bt (λ_ h=>h) ht,hx]at h1;exact h1
  rw[h1];exact⟨⟨[],World.ownsRow_nil _ _ _ _,aq⟩,.inl ⟨Y,Y⟩⟩
 | @row i _ _ hx hR=>
  have h1:a.eval x=E.ν i:=by have h1:=h.ev x;rw[bt (λ_ h=>h) ht,hx]at h1;exact h1
  have A3:=(hr i (by simp)).trans hR;rw[h1];obtain⟨⟨vs,h2,h3⟩,_⟩:=h.rx i _ A3;exact⟨⟨vs,h2,h3⟩,.inr ⟨i,_,Y,A3,Y⟩⟩
theorem RT.Fi(hg:Gd ops S gd rg){n by_:Nat}{zv:Value}[tS:ep P T E0 n][tE:jU P E0 n by_ zv]{old:List (Nat×oI)}{rr:List Nat}{m:Nat}{cs:List SV}{s:SV}{rows:List (List SV)}[hs:Kn s n rows]
  (hx:Src S E0 n x old rr m cs) (hy:S.ev y=.sv s) (hd:d<S.n) (vc:S.r d=.un) (sV:d<1000) (hroom:(m+rows.length)*by_<=140737488355328) (qa:m+rows.length<=140737488355328)
  (X:SV) {rows':List (List SV)} (hX:∀M v,(slc n rows').h M v->(∀g,v.ownBlock=some g->(C.w0.heap.size<=g\/C.sQ g)/\∃o,M g o=some (.agg #[]))->X.h M v) (kH:Rows n rows' (cs++rows.flatten)) (hlen:rows'.length=m+rows.length) (hone:∀M vs,SV.eu M (cs++rows.flatten) vs->∀v∈vs,v.oneCell'=true)
  (next:RunT P C ops nd K rest (⟨rg++(aZ x++aZ y),[],d::rr,⟨some (d,.sv X),[],old++[(d,.dead)]⟩⟩::acc) ((AS.cn (old++[(d,.dead)]) S).set d (.sv X))):RunT P C ops nd K (⟨some d,.call ⟨.builtin .append,#[x,y],#[T,T]⟩,ty,pos,aft,gd⟩::rest) acc S:=by
 refine .inl ⟨_,[],d::rr,_,?_,next⟩;rintro S' hn ht _ hr i a w L Q ho ⟨E,h⟩ hL;refine ct (C:=C) ho (hg.wanted h (λs hs=>ht s (List.mem_append_left _ hs)) Y) ?_;obtain⟨⟨vs,hown,hvs⟩,hold⟩:=hx.val h (λs hs=>ht s (List.mem_append_right _ (List.mem_append_left _ hs))) (λi hi=>hr i (List.mem_cons_of_mem _ hi));have h2:=h.ev y;rw[bt (λ_ h=>List.mem_append_right _ (List.mem_append_right _ h)) ht,hy]at h2;obtain⟨info,hi,hsz,hby,hz⟩:=jU.info (P:=P) (E:=E0) (n:=n) (by_:=by_) (z:=zv);have Ga:S'.r d=.un:=by rw[hr d (by simp)];exact vc
 have run:∃v' w' vs',(Builtin.append_ #[T,T] ty #[a.eval x,a.eval y]).run P w=.ok v' w'/\w'.ownsRow 0 E0 n v' (m+rows.length) vs'/\SV.eu E.M (cs++rows.flatten) vs'/\w.grownBy w' (a.eval x).ownBlock/\(v'.ownBlock=(a.eval x).ownBlock\/v'.ownBlock=some w.heap.size\/v'.ownBlock=none):=by
  rcases hs.h _ _ h2 with⟨a0,e,e2⟩|⟨b,o,c,e,hc,Cd,hrow⟩
  ·rw[e,e2];cases a0 with
   |none=>exact⟨_,_,vs,run_append_owned_none w 0 T ty E0 info n tS.u hi _ m vs hown,by simpa using hown,by simpa using hvs,⟨Y,Y,Y,Nat.le_refl _,λ_ _ _=>Y⟩,.inl Y⟩
   |some a0=>
    rw[e2,List.length_nil]at hroom qa;obtain⟨v',w',q1,q2,q3,_,q4⟩:=run_append_own_at (P:=P) w 0 T ty E0 info zv n by_ tS.u hi hz hsz hby tE.z tE.p _ m vs hown a0 0 0 [] (by simp) (by simp) (by simp) (by unfold maxLen;omega) hroom (Nat.zero_le _);exact⟨v',w',vs,q1,by simpa using q2,by simpa using hvs,q3,q4.imp id .inl⟩
  obtain⟨us,g1,g2,g3,g4⟩:=xL rows o hrow;rw[e];obtain⟨v',w',q1,q2,q3,_,q4⟩:=run_append_own_at (P:=P) w 0 T ty E0 info zv n by_ tS.u hi hz hsz hby tE.z tE.p _ m vs hown ⟨b,o,none⟩ rows.length c us g2 (λj u hj=>by rw[fD];exact(h.dj _ _ _ (g4 j u hj)).cell (g3 u (List.mem_of_getElem? hj))) g3 (by unfold maxLen;omega) hroom (Nat.zero_le _);exact⟨v',w',vs++us,q1,q2,SV.eu.append hvs g1,q3,q4.imp id .inl⟩
 obtain⟨v',w',vs',q1,q2,q3,q4,q5⟩:=run;have hr':(execOp a.eval ⟨some d,.call ⟨.builtin .append,#[x,y],#[T,T]⟩,ty,pos,aft,gd⟩).run P w=.ok (.value v') w':=by
  simp[execOp,resolve,invoke,builtin,q1]
 have Fj:∀(l:List (Nat×oI)) (R:oI) (j:Nat),gp (l++[(d,R)]) j=if j=d then some R else gp l j:=by
  intro l R j
  induction l with
  |nil=>rfl
  |cons p l ih=>
   obtain⟨i,R'⟩:=p;rw[List.cons_append,gp,gp,ih];by_cases e:j=d
   ·simp[e]
   simp[e]
 have h3:=(h.newRow Ga sV old (a.eval x).ownBlock hold (R':=⟨E0,n,m+rows.length,cs++rows.flatten⟩) q2 q3 q5 q4).put (d:=d) (x:=.row d) (v:=v') (by simp[AV.holds]) (by rw[(iO _ _).1];omega) ⟨λ_ e=>e.elim,λj e=>by
  cases e;rw[nE,Fj];simp⟩
 have hRd:(AS.set (AS.cn (old++[(d,oI.live ⟨E0,n,m+rows.length,cs++rows.flatten⟩)]) S') d (.row d)).r d=.live ⟨E0,n,m+rows.length,cs++rows.flatten⟩:=by
  show(AS.cn _ S').r d=_;rw[nE,Fj];simp
 obtain⟨E',h4⟩:=h3.mh hRd kH hlen (Nat.le_trans qa (by decide)) hone hX;have e:(AS.set (AS.cn (old++[(d,oI.live ⟨E0,n,m+rows.length,cs++rows.flatten⟩)]) S') d (.row d)).mh d X=S'.app ⟨some (d,.sv X),[],old++[(d,.dead)]⟩:=by
  have n1:=iO (old++[(d,oI.live ⟨E0,n,m+rows.length,cs++rows.flatten⟩)]) S';have n2:=iO (old++[(d,oI.dead)]) S';refine AS.ext' ?_ (λt=>?_) (λj=>?_) (λj=>?_) ?_ ?_
  ·show(AS.cn _ S').n=(AS.cn _ S').n;rw[n1.1,n2.1]
  ·rw[AS.Hj];show((AS.set (AS.cn _ S') d (.row d)).t t).mh d X=_;by_cases e:t=d
   ·subst e;rw[AS.ij];simp[AV.mh,wT]
   rw[AS.gj _ _ _ _ e,n1.2.1,HU (λhm=>h.wf.tr t d hm Ga)];simp[wT,e]
  ·rw[AS.Hl];show((AS.cn _ S').b j).map _=_;rw[n1.2.2.1];simp only[pW,Option.getD_none];cases hb:S'.b j with
   |none=>rfl
   |some B=>
    rw[Option.map_some];have:B.cells.map (AV.mh d X)=B.cells:=by
     conv=>rhs;rw[<-List.map_id B.cells]
     exact List.map_congr_left λc hc=>HU (λhm=>h.wf.br j B hb c hc d hm Ga)
    rw[this]
  ·rw[AS.Ho];show(bif Nat.beq j d then oI.dead else(AS.cn _ S').r j)=_;rw[nE,Fj,Fj];by_cases e:j=d
   ·subst e;simp
   simp[cX e,e]
  ·rw[(AS.E4 _ _).1];exact n1.2.2.2.1
  rw[(AS.E4 _ _).2];exact n1.2.2.2.2
 exact cu (C:=C) (by intro c h;cases h) hr' (hL _ _ ⟨E',e▸h4⟩)
end steps
end
end Go.Fw
