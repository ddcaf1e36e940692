/- A part of the proof: the framework, the plain functions, the followed functions, the plain laws. -/
import Derived.Test.YtningmnklfpfjaaGreatRows
import Derived.WalkKit
import Derived.OrdersIn
import Derived.RangeFuncLeaves
import Derived.RangeFuncCalls
import Derived.Deep.LoopGhost
import Derived.Maps.AppendAt
import Derived.KernelRfl
import Derived.RangeFuncSeq
import Derived.Lib.SliceRun
import Derived.Laws.BytesArg
import Derived.Laws.Strings
import Derived.Test.YtningmnklfpfjaaGreatProg
import Derived.MapKept
import Derived.Scope
import Derived.ProofKit
import Derived.OpenShut
import Derived.ShutString
import Derived.ChangeOld
import Derived.Below
import Derived.JoinedCond
import Derived.Deep.Slices
import Derived.Laws.StructEq
import Derived.Laws.Pointers
set_option linter.unusedVariables false
set_option linter.unusedSimpArgs false
set_option linter.unusedSectionVars false
namespace Go.Fw
section
open Go.RowKit
theorem Y.{u}{α:Sort u}{a:α}:a=a:=rfl
theorem aq:True:=trivial
theorem af{n m:Nat}(h:Nat.ble n m=true):n<=m:=Nat.le_of_ble_eq_true h
abbrev Mem:=Nat->Nat->Option Value
def Mem.le(M M':Mem):Prop:=∀b o v,M b o=some v->M' b o=some v
def OJ(es:Array MapEntry):Array Value:=⟨es.toList.map λe=>.tuple #[e.key,e.val]⟩
def Fact(w:World)(b o:Nat):Value->Prop
 |.tuple t=>∃es ck,w.heap[b]? =some (.map es ck)/\t=OJ es
 |.agg _=>∃c T,w.heap[b]? =some (.cells c T (0,0))
 |v=>w.cell? ⟨b,o,none⟩=some v
def Mem.dh(M:Mem)(w:World):Prop:=∀b o v,M b o=some v->Fact w b o v
theorem Fact.cell{w:World}{b o:Nat}{v:Value}(h:Fact w b o v)(hv:v.oneCell'=true):w.cell? ⟨b,o,none⟩=some v:=by
 cases v<;>first|exact h|simp[Value.oneCell']at hv
theorem Fact.of{w:World}{b o:Nat}{v:Value}(h:w.cell? ⟨b,o,none⟩=some v)(hv:v.oneCell'=true):Fact w b o v:=by
 cases v<;>first|exact h|simp[Value.oneCell']at hv
theorem Fact.lt{w:World}{b o:Nat}{v:Value}(h:Fact w b o v):b<w.heap.size:=by
 cases v<;>first|exact World.block_lt_of_cell? w _ h|(obtain⟨es,ck,h,_⟩:=h;exact(Array.getElem?_eq_some_iff.1 h).1)|(obtain⟨c,T,h⟩:=h;exact(Array.getElem?_eq_some_iff.1 h).1)
theorem Fact.same{w w':World}{b o:Nat}{v:Value}(h:Fact w b o v)(e:w'.heap[b]? =w.heap[b]?):Fact w' b o v:=by
 cases v<;>first|(show w'.cell? _=_;rw[World.cell?_of_block (w:=w) (a:=⟨b,o,none⟩) e];exact h)|(obtain⟨es,ck,h,h'⟩:=h;exact⟨es,ck,by rw[e];exact h,h'⟩)|(obtain⟨c,T,h⟩:=h;exact⟨c,T,by rw[e];exact h⟩)
theorem Fact.no{w:World}{b o:Nat}{v:Value}(h:Fact w b o v)(h1:w.cell? ⟨b,o,none⟩=none)(h2:∀es ck,w.heap[b]? ≠some (.map es ck))(h3:∀c T,w.heap[b]? ≠some (.cells c T (0,0))):False:=by
 cases v<;>first|(have h:w.cell? _=_:=h;rw[h1]at h;cases h)|(obtain⟨es,ck,h,_⟩:=h;exact h2 es ck h)|(obtain⟨c,T,h⟩:=h;exact h3 c T h)
theorem Mem.le_refl(M:Mem):M.le M:=λ_ _ _ h=>h
theorem Mem.le_trans{A B C:Mem}(h:A.le B)(k:B.le C):A.le C:=λb o v e=>k b o v (h b o v e)
structure SV where
 h:Mem->Value->Prop
 mono:∀{M M':Mem} {v:Value},M.le M'->h M v->h M' v
namespace SV
def any:SV:=⟨λ_ _=>True,λ_ h=>h⟩
def v(x:Value):SV:=⟨λ_ y=>y=x,λ_ h=>h⟩
def ef(M:Mem):List SV->List Value->Prop
 |[],[]=>True
 |s::l,x::xs=>s.h M x/\ef M l xs
 |_,_=>False
theorem ef.mono{M M':Mem}(hM:M.le M'):∀{l:List SV} {xs:List Value},ef M l xs->ef M' l xs
 |[],[],_=>trivial
 |s::_,_::_,h=>⟨s.mono hM h.1,ef.mono hM h.2⟩
 |[],_::_,h=>h.elim
 |_::_,[],h=>h.elim
theorem ef.length{M:Mem}:∀{l:List SV} {xs:List Value},ef M l xs->l.length=xs.length
 |[],[],_=>rfl
 |_::_,_::_,h=>congrArg (· +1) (ef.length h.2)
 |[],_::_,h=>h.elim
 |_::_,[],h=>h.elim
theorem ef.get{M:Mem}:∀{l:List SV} {xs:List Value} {i:Nat} {s:SV},ef M l xs->l[i]? =some s->∃x,xs[i]? =some x/\s.h M x
 |s::_,x::_,0,_,h,e=>⟨x,rfl,by cases e;exact h.1⟩
 |_::l,_::xs,_+1,_,h,e=>ef.get (l:=l) (xs:=xs) h.2 e
 |[],_,_,_,_,e=>by simp at e
 |_::_,[],_,_,h,_=>h.elim
theorem ef.append{M:Mem}:∀{l l':List SV} {xs ys:List Value},ef M l xs->ef M l' ys->ef M (l++l') (xs++ys)
 |[],_,[],_,_,h=>h
 |_::_,_,_::_,_,h,h'=>⟨h.1,ef.append h.2 h'⟩
 |[],_,_::_,_,h,_=>h.elim
 |_::_,_,[],_,h,_=>h.elim
def agg(l:List SV):SV:=⟨λM y=>∃vs:List Value,y=.agg ⟨vs⟩/\ef M l vs,λhM ⟨vs,e,h⟩=>⟨vs,e,h.mono hM⟩⟩
def yM(l:List SV):SV:=⟨λM y=>∃vs:List Value,y=.tuple ⟨vs⟩/\ef M l vs,λhM ⟨vs,e,h⟩=>⟨vs,e,h.mono hM⟩⟩
def imp(x y:SV):Prop:=∀M v,x.h M v->y.h M v
end SV
inductive qE where
 |box (i:Nat)
 |val (s:SV)
inductive Fc where
 |val (s:SV)
 |box (i:Nat)
 |row (i:Nat)
def Fc.yN(i:Nat):Fc->Bool
 |.row j=>Nat.beq j i
 |_=>false
def Fc.CU(i:Nat):Fc->Bool
 |.box j=>Nat.beq j i
 |_=>false
inductive Hd where
 |yM
 |agg
 |bnd (g:FuncId)
 |tua
def Hd.mk:Hd->Array Value->Value
 |.yM,a=>.tuple a
 |.agg,a=>.agg a
 |.bnd g,a=>.func (.func g) a #[]
 |.tua,a=>.tuple #[.agg ⟨a.toList.dropLast⟩,a.toList.getLastD .nilIface]
inductive AV where
 |sv (s:SV)
 |ptr (i off:Nat)
 |EO (i off len cap:Nat)
 |row (i:Nat)
 |iS (i k:Nat)
 |nC (i off len:Nat)
 |fV (g:FuncId) (js:List qE)
 |cmp (t:Hd) (js:List Fc)
abbrev ai(x:Int):AV:=.sv (.v (.int .i64 x))
abbrev aj(x:Bool):AV:=.sv (.v (.bool x))
abbrev ak:AV:=.sv (.v (.pointer none))
abbrev ay(x:Int):SV:=.v (.int .i64 x)
abbrev az(x:Bool):SV:=.v (.bool x)
structure Env where
 β:Nat->Nat
 ν:Nat->Value
 O:Nat->Prop
 M:Mem
def qE.holds(E:Env):qE->Value->Prop
 |.box i,v=>v=.pointer (some ⟨E.β i,0,none⟩)
 |.val s,v=>s.h E.M v
def zu(E:Env):List qE->List Value->Prop
 |[],[]=>True
 |c::l,x::xs=>c.holds E x/\zu E l xs
 |_,_=>False
def Fc.holds(E:Env):Fc->Value->Prop
 |.val s,v=>s.h E.M v
 |.box i,v=>v=.pointer (some ⟨E.β i,0,none⟩)
 |.row i,v=>v=E.ν i
def Av(E:Env):List Fc->List Value->Prop
 |[],[]=>True
 |c::l,x::xs=>c.holds E x/\Av E l xs
 |_,_=>False
theorem Av.get{E:Env}:∀{l:List Fc} {xs:List Value} {i:Nat} {s:Fc},Av E l xs->l[i]? =some s->∃x,xs[i]? =some x/\s.holds E x
 |s::_,x::_,0,_,h,e=>⟨x,rfl,by cases e;exact h.1⟩
 |_::l,_::xs,_+1,_,h,e=>Av.get (l:=l) (xs:=xs) h.2 e
 |[],_,_,_,_,e=>by simp at e
 |_::_,[],_,_,h,_=>h.elim
def AV.holds(E:Env):AV->Value->Prop
 |.sv s,v=>s.h E.M v
 |.ptr i o,v=>v=.pointer (some ⟨E.β i,o,none⟩)
 |.EO i o l c,v=>v=.slice (some ⟨E.β i,o,none⟩) l c
 |.row i,v=>v=E.ν i
 |.iS i k,v=>∃g,(E.ν i).ownBlock=some g/\v=.pointer (some ⟨g,k,none⟩)
 |.nC i o l,v=>∃g,(E.ν i).ownBlock=some g/\∃c,v=.slice (some ⟨g,o,none⟩) l c/\l<=c
 |.fV g js,v=>∃vs:List Value,v=.func (.func g) #[] ⟨vs⟩/\zu E js vs
 |.cmp t js,v=>∃vs:List Value,v=t.mk ⟨vs⟩/\Av E js vs
def AV.mb:AV->Nat->Prop
 |.ptr i _,j=>j=i
 |.EO i _ _ _,j=>j=i
 |.fV _ js,j=>qE.box j∈js
 |.cmp _ js,j=>Fc.box j∈js
 |_,_=>False
def AV.mr:AV->Nat->Prop
 |.row i,j=>j=i
 |.iS i _,j=>j=i
 |.nC i _ _,j=>j=i
 |.cmp _ js,j=>Fc.row j∈js
 |_,_=>False
theorem Av.congr{E E':Env}(hM:E.M.le E'.M){js:List Fc}(hb:∀j,Fc.box j∈js->E'.β j=E.β j)(hr:∀j,Fc.row j∈js->E'.ν j=E.ν j):∀(l:List Fc) (vs:List Value),(∀c∈l,c∈js)->Av E l vs->Av E' l vs:=by
 intro l
 induction l with
 |nil=>intro vs _ h;cases vs with|nil=>trivial|cons _ _=>exact h.elim
 |cons c l ih=>
  intro vs hl h;cases vs with
  |nil=>exact h.elim
  |cons x xs=>
   refine⟨?_,ih xs (λc hc=>hl c (List.mem_cons_of_mem _ hc)) h.2⟩;have h1:=h.1;cases c with
   |box i=>show x=_;rw[hb i (hl _ (by simp))];exact h1
   |row i=>show x=_;rw[hr i (hl _ (by simp))];exact h1
   |val s=>exact s.mono hM h1
theorem AV.cI{E E':Env}(hM:E.M.le E'.M){x:AV}(hb:∀j,x.mb j->E'.β j=E.β j)(hr:∀j,x.mr j->E'.ν j=E.ν j){v:Value}(h:x.holds E v):x.holds E' v:=by
 cases x with
 |sv s=>exact s.mono hM h
 |ptr i o=>show v=_;rw[hb i rfl];exact h
 |EO i o l c=>show v=_;rw[hb i rfl];exact h
 |row i=>show v=_;rw[hr i rfl];exact h
 |iS i k=>show ∃g,_;rw[hr i rfl];exact h
 |nC i o l=>show ∃g,_;rw[hr i rfl];exact h
 |fV g js=>
  obtain⟨vs,rfl,hvs⟩:=h;refine⟨vs,Y,?_⟩;have key:∀(l:List qE) (vs:List Value),(∀c∈l,c∈js)->zu E l vs->zu E' l vs:=by
   intro l
   induction l with
   |nil=>intro vs _ h;cases vs with|nil=>trivial|cons _ _=>exact h.elim
   |cons c l ih=>
    intro vs hl h;cases vs with
    |nil=>exact h.elim
    |cons x xs=>
     refine⟨?_,ih xs (λc hc=>hl c (List.mem_cons_of_mem _ hc)) h.2⟩;have h1:=h.1;cases c with
     |box i=>show x=_;rw[hb i (hl _ (by simp))];exact h1
     |val s=>exact s.mono hM h1
  exact key js vs (λ_ h=>h) hvs
 |cmp t js=>
  obtain⟨vs,rfl,hvs⟩:=h;exact⟨vs,Y,Av.congr hM hb hr js vs (λ_ h=>h) hvs⟩
def di(E:Env):List AV->List Value->Prop
 |[],[]=>True
 |s::l,x::xs=>s.holds E x/\di E l xs
 |_,_=>False
theorem di.imp{E E':Env}:∀{l:List AV} {xs:List Value},(∀x∈l,∀v,x.holds E v->x.holds E' v)->di E l xs->di E' l xs
 |[],[],_,_=>trivial
 |s::_,_::_,hi,h=>⟨hi s (by simp) _ h.1,di.imp (λx hx=>hi x (List.mem_cons_of_mem _ hx)) h.2⟩
 |[],_::_,_,h=>h.elim
 |_::_,[],_,h=>h.elim
theorem di.length{E:Env}:∀{l:List AV} {xs:List Value},di E l xs->l.length=xs.length
 |[],[],_=>rfl
 |_::_,_::_,h=>congrArg (· +1) (di.length h.2)
 |[],_::_,h=>h.elim
 |_::_,[],h=>h.elim
theorem di.get{E:Env}:∀{l:List AV} {xs:List Value} {i:Nat} {s:AV},di E l xs->l[i]? =some s->∃x,xs[i]? =some x/\s.holds E x
 |s::_,x::_,0,_,h,e=>⟨x,rfl,by cases e;exact h.1⟩
 |_::l,_::xs,_+1,_,h,e=>di.get (l:=l) (xs:=xs) h.2 e
 |[],_,_,_,_,e=>by simp at e
 |_::_,[],_,_,h,_=>h.elim
theorem di.set{E:Env}:∀{l:List AV} {xs:List Value} {i:Nat} {s:AV} {x:Value},di E l xs->s.holds E x->di E (l.set i s) (xs.set i x)
 |[],[],_,_,_,_,_=>trivial
 |_::_,_::_,0,_,_,h,hs=>⟨hs,h.2⟩
 |_::l,_::xs,_+1,_,_,h,hs=>⟨h.1,di.set (l:=l) (xs:=xs) h.2 hs⟩
 |[],_::_,_,_,_,h,_=>h.elim
 |_::_,[],_,_,_,h,_=>h.elim
theorem di.wm{E:Env}:∀{l:List SV} {xs:List Value},SV.ef E.M l xs->di E (l.map AV.sv) xs
 |[],[],_=>trivial
 |_::_,_::_,h=>⟨h.1,di.wm h.2⟩
 |[],_::_,h=>h.elim
 |_::_,[],h=>h.elim
structure nX where
 T:TypeId
 cells:List AV
structure Row where
 E:TypeId
 sz:Nat
 n:Nat
 cells:List SV
inductive kK where
 |un
 |dead
 |live (R:Row)
structure AS where
 n:Nat
 t:Nat->AV
 b:Nat->Option nX
 r:Nat->kK
 g:Nat
 go:Bool
def AS.set(S:AS)(d:Nat)(x:AV):AS:={S with t:=λs=>bif Nat.beq s d then x else S.t s}
def AS.jv(S:AS)(i:Nat)(B:nX):AS:={S with b:=λj=>bif Nat.beq j i then some B else S.b j}
def AS.pE(S:AS)(i:Nat)(R:kK):AS:={S with r:=λj=>bif Nat.beq j i then R else S.r j}
def AS.b9:List (Nat×kK)->AS->AS
 |[],S=>S
 |(i,R)::l,S=>b9 l (S.pE i R)
theorem cC{s d:Nat}(h:s≠d):Nat.beq s d=false:=by
 cases e:Nat.beq s d with
 |false=>rfl
 |true=>exact absurd (Nat.eq_of_beq_eq_true e) h
theorem AS.ja(S:AS)(d:Nat)(x:AV):(S.set d x).t d=x:=by simp[AS.set]
theorem AS.gV(S:AS)(d s:Nat)(x:AV)(h:s≠d):(S.set d x).t s=S.t s:=by simp[AS.set,cC h]
theorem AS.cV(S:AS)(d:Nat)(x:nX):(S.jv d x).b d=some x:=by simp[AS.jv]
theorem AS.bR(S:AS)(d s:Nat)(x:nX)(h:s≠d):(S.jv d x).b s=S.b s:=by simp[AS.jv,cC h]
theorem AS.gW(S:AS)(d:Nat)(x:kK):(S.pE d x).r d=x:=by simp[AS.pE]
theorem AS.jT(S:AS)(d s:Nat)(x:kK)(h:s≠d):(S.pE d x).r s=S.r s:=by simp[AS.pE,cC h]
structure AS.wf (S:AS):Prop where
 tb:∀s j,(S.t s).mb j->∃B,S.b j=some B
 tr:∀s j,(S.t s).mr j->S.r j≠ .un
 bb:∀i B,S.b i=some B->∀x∈B.cells,∀j,x.mb j->∃B',S.b j=some B'
 br:∀i B,S.b i=some B->∀x∈B.cells,∀j,x.mr j->S.r j≠ .un
structure Ctx where
 w0:World
 M0:Mem
 own:Nat->Prop
 tO:Nat->Prop
 gC:Nat->Option Nat
 ee:Nat->Option Value
 ro:Option Nat
 J:Nat->Bool->(Nat->Prop)->Mem->World->Prop
 Cf:∀k,tO k->own k
 JI:∀i v,ee i=some v->1000<=i
 jf:∀(g:Nat) (h:Bool) (O:Nat->Prop) (M M':Mem) (w w':World),J g h O M w->M.le M'->M'.dh w'->(∀b o v,M' b o=some v->M b o=some v\/((w0.heap.size<=b\/tO b)/\¬O b))->
  (∀b,(b<w0.heap.size/\¬tO b)\/O b->w'.heap[b]? =w.heap[b]?)->w'.os=w.os->w'.tape=w.tape->w'.output=w.output->w.heap.size<=w'.heap.size->J g h O M' w'
def lW(r:Nat):Deferred:={target:=.collected r,args:=#[]}
structure bn (C:Ctx) (S:AS) (E:Env) (a:Act) (w:World):Prop where
 wf:S.wf
 marks:∃ds:List Nat,a.defers=ds.map lW/\ds.Nodup/\∀r∈ds,C.w0.heap.size<=r/\¬E.O r/\w.heap[r]? =some (.deferred (some []))
 size:a.tmps.size=S.n
 os:w.os=C.w0.os
 tape:w.tape=C.w0.tape
 output:w.output=C.w0.output
 grown:C.w0.heap.size<=w.heap.size
 frame:∀k,k<C.w0.heap.size->¬C.own k->w.heap[k]? =C.w0.heap[k]?
 m0:C.M0.le E.M
 eG:∀b o v,E.M b o=some v->C.M0 b o=some v\/C.w0.heap.size<=b\/C.own b
 dh:E.M.dh w
 tm:∀s,(S.t s).holds E (a.tmps.getD s undef)
 bx:∀i B,S.b i=some B->(C.w0.heap.size<=E.β i\/C.tO (E.β i))/\(∀o,E.M (E.β i) o=none)/\¬E.O (E.β i)/\∃vs:List Value,w.heap[E.β i]? =some (.cells ⟨vs⟩ B.T (0,0))/\di E B.cells vs
 inj:∀i j B B',S.b i=some B->S.b j=some B'->E.β i=E.β j->i=j
 rx:∀i R,S.r i=.live R->(∃vs:List Value,w.ownsRow 0 R.E R.sz (E.ν i) R.n vs/\SV.ef E.M R.cells vs)/\
  ∀g,(E.ν i).ownBlock=some g->(C.w0.heap.size<=g\/C.tO g)/\(∀o,E.M g o=none)/\¬E.O g/\∀j B,S.b j=some B->E.β j≠g
 fm:∀i j R R',S.r i=.live R->S.r j=.live R'->∀g,(E.ν i).ownBlock=some g->(E.ν j).ownBlock=some g->i=j
 gC:∀i b,C.gC i=some b->E.β i=b
 ee:∀i v,C.ee i=some v->E.ν i=v
 kD:∀b,E.O b->b<w.heap.size/\(∀o,E.M b o=none)/\(C.own b\/C.w0.heap.size<=b)
 jj:C.J S.g S.go E.O E.M w
def AS.holds(C:Ctx)(S:AS)(a:Act)(w:World):Prop:=∃E,bn C S E a w
def AS.ev(S:AS):Operand->AV
 |.tmp t=>S.t t
 |.const x=>.sv (.v x)
 |.global g=>.sv (.v (.pointer (some ⟨g,0,none⟩)))
 |.func f=>.sv (.v (.func (.func f) #[] #[]))
def aZ:Operand->List Nat
 |.tmp t=>[t]
 |_=>[]
theorem bn.ev{C:Ctx}{S:AS}{E:Env}{a:Act}{w:World}(h:bn C S E a w)(x:Operand):(S.ev x).holds E (a.eval x):=by
 cases x with
 |tmp t=>exact h.tm t
 |const x=>exact rfl
 |global g=>exact rfl
 |func f=>exact rfl
theorem bw{S S':AS}{x:Operand}{rs:List Nat}(hk:∀s∈aZ x,s∈rs)(h:∀s∈rs,S'.t s=S.t s):S'.ev x=S.ev x:=by
 cases x with
 |tmp t=>exact h t (hk t (by simp[aZ]))
 |_=>rfl
abbrev Fr(ro:Option Nat):Fence:={fn:=λ_=>True,depth:=none,alive:=false,round:=ro}
theorem gi{ro:Option Nat}{n:Nat}{P:Program}{f:FuncId}{args:Array Value}{w:World}{R:Ending->World->Prop}(h:Calls P f args w R):CallsIn (Fr ro) n P f args w R:=by
 have h1:CallsIn Fence.wide n P f args w R:=callsIn_wide.2 h;cases ro with
 |none=>exact h1
 |some l=>exact h1.inRound l
def Pure(P:Program)(f:FuncId)(args:List SV)(r:SV):Prop:=
 ∀(M:Mem) (w:World) (vs:List Value),M.dh w->SV.ef M args vs->
  Calls P f ⟨vs⟩ w λe w'=>∃v M',e=.returned v/\M.le M'/\(∀b o x,M' b o=some x->M b o=some x\/w.heap.size<=b)/\M'.dh w'/\r.h M' v/\Below w.heap.size w w'
theorem nm{M:Mem}{w:World}(h:M.dh w){b o:Nat}{v:Value}(e:M b o=some v):b<w.heap.size:=(h b o v e).lt
theorem eA{M:Mem}{w w':World}(h:M.dh w)(hs:∀b,(∃o v,M b o=some v)->w'.heap[b]? =w.heap[b]?):M.dh w':=λb o v e=>(h b o v e).same (hs b ⟨o,v,e⟩)
structure tQ where
 sl:Option (Nat×AV)
 bx:List (Nat×nX)
 rw:List (Nat×kK)
def AS.fo:List (Nat×nX)->AS->AS
 |[],S=>S
 |(i,B)::l,S=>fo l (S.jv i B)
def AS.app(S:AS)(e:tQ):AS:=
 match e.sl with
 |some (d,x)=>(AS.b9 e.rw (AS.fo e.bx S)).set d x
 |none=>AS.b9 e.rw (AS.fo e.bx S)
def wT(e:tQ)(s:Nat):Option AV:=match e.sl with|some (d,x)=>if s=d then some x else none|none=>none
def dL:List (Nat×kK)->Nat->Option kK
 |[],_=>none
 |(i,R)::l,s=>match dL l s with|some x=>some x|none=>if s=i then some R else none
def rT:List (Nat×nX)->Nat->Option (Option nX)
 |[],_=>none
 |(i,R)::l,s=>match rT l s with|some x=>some x|none=>if s=i then some (some R)else none
theorem eU:∀(l:List (Nat×kK)) (S:AS),(AS.b9 l S).n=S.n/\(AS.b9 l S).t=S.t/\(AS.b9 l S).b=S.b/\(AS.b9 l S).g=S.g/\(AS.b9 l S).go=S.go
 |[],_=>⟨Y,Y,Y,Y,Y⟩
 |(_,_)::l,_=>eU l _
theorem oX:∀(l:List (Nat×nX)) (S:AS),(AS.fo l S).n=S.n/\(AS.fo l S).t=S.t/\(AS.fo l S).r=S.r/\(AS.fo l S).g=S.g/\(AS.fo l S).go=S.go
 |[],_=>⟨Y,Y,Y,Y,Y⟩
 |(_,_)::l,_=>oX l _
theorem jR:∀(l:List (Nat×kK)) (S:AS) (s:Nat),(AS.b9 l S).r s=(dL l s).getD (S.r s)
 |[],_,_=>rfl
 |(i,R)::l,S,s=>by
  rw[AS.b9,jR l,dL];cases dL l s with
  |some x=>rfl
  |none=>
   by_cases h:s=i
   ·subst h;simp[AS.gW]
   simp[AS.jT _ _ _ _ h,h]
theorem Dy:∀(l:List (Nat×nX)) (S:AS) (s:Nat),(AS.fo l S).b s=(rT l s).getD (S.b s)
 |[],_,_=>rfl
 |(i,R)::l,S,s=>by
  rw[AS.fo,Dy l,rT];cases rT l s with
  |some x=>rfl
  |none=>
   by_cases h:s=i
   ·subst h;simp[AS.cV]
   simp[AS.bR _ _ _ _ h,h]
theorem AS.Qu(S:AS)(e:tQ):(S.app e).n=S.n:=by
 obtain⟨_|⟨d,x⟩,bl,l⟩:=e<;>exact(eU l _).1.trans (oX bl S).1
theorem AS.IB(S:AS)(e:tQ):(S.app e).g=S.g/\(S.app e).go=S.go:=by
 obtain⟨_|⟨d,x⟩,bl,l⟩:=e<;>exact⟨(eU l _).2.2.2.1.trans (oX bl S).2.2.2.1,(eU l _).2.2.2.2.trans (oX bl S).2.2.2.2⟩
theorem AS.KX(S:AS)(e:tQ)(s:Nat):(S.app e).t s=(wT e s).getD (S.t s):=by
 obtain⟨_|⟨d,x⟩,bl,l⟩:=e
 ·show(AS.b9 l (AS.fo bl S)).t s=S.t s;rw[(eU l _).2.1,(oX bl S).2.1]
 by_cases h:s=d
 ·subst h;simp[AS.app,AS.ja,wT]
 simp only[AS.app,AS.gV _ _ _ _ h,wT,h,if_false];rw[(eU l _).2.1,(oX bl S).2.1];rfl
theorem AS.KY(S:AS)(e:tQ)(s:Nat):(S.app e).b s=(rT e.bx s).getD (S.b s):=by
 obtain⟨_|⟨d,x⟩,bl,l⟩:=e
 ·show(AS.b9 l (AS.fo bl S)).b s=_;rw[(eU l _).2.2.1,Dy]
 show(AS.b9 l (AS.fo bl S)).b s=_;rw[(eU l _).2.2.1,Dy]
theorem AS.KZ(S:AS)(e:tQ)(s:Nat):(S.app e).r s=(dL e.rw s).getD (S.r s):=by
 obtain⟨_|⟨d,x⟩,bl,l⟩:=e
 ·show(AS.b9 l (AS.fo bl S)).r s=_;rw[jR,(oX bl S).2.2.1]
 show(AS.b9 l (AS.fo bl S)).r s=_;rw[jR,(oX bl S).2.2.1]
theorem AS.ext'{S S':AS}(hn:S.n=S'.n)(ht:∀s,S.t s=S'.t s)(hb:∀s,S.b s=S'.b s)(hr:∀s,S.r s=S'.r s)(hg:S.g=S'.g)(hh:S.go=S'.go):S=S':=by
 cases S;cases S';simp only[AS.mk.injEq];exact⟨hn,funext ht,funext hb,funext hr,hg,hh⟩
def SI(P:Program)(C:Ctx)(ops:Array Oper)(o:Oper)(rs rb rr:List Nat)(S:AS)(e:tQ):Prop:=
 ∀S':AS,S'.n=S.n->(∀s∈rs,S'.t s=S.t s)->(∀i∈rb,S'.b i=S.b i)->(∀i∈rr,S'.r i=S.r i)->
  ∀(i:Nat) (a:Act) (w:World) (K:Act->World->Prop) (Q:Exit->Act->World->Prop),ops[i]? =some o->S'.holds C a w->(∀a' w',(S'.app e).holds C a' w'->K a' w')->wpOpIn (Fr C.ro) 0 P ops Q i K a w
def Wq(P:Program)(C:Ctx)(ops:Array Oper)(o:Oper)(S:AS)(Post:AS->Prop):Prop:=
 ∀(i:Nat) (a:Act) (w:World) (K:Act->World->Prop) (Q:Exit->Act->World->Prop),ops[i]? =some o->S.holds C a w->(∀S' a' w',Post S'->S'.holds C a' w'->K a' w')->wpOpIn (Fr C.ro) 0 P ops Q i K a w
structure Ac where
 rs:List Nat
 rb:List Nat
 rr:List Nat
 e:tQ
def RunT(P:Program)(C:Ctx)(ops:Array Oper)(nd:Bool)(K:List Ac->AS->Prop):List Oper->List Ac->AS->Prop
 |[],acc,S=>K acc S
 |o::rest,acc,S=>(∃rs rb rr e,SI P C ops o rs rb rr S e/\RunT P C ops nd K rest (⟨rs,rb,rr,e⟩::acc) (S.app e))\/
   (nd=true/\∃Post,Wq P C ops o S Post/\∀S',Post S'->RunT P C ops nd K rest [] S')
def Ok(P:Program)(C:Ctx)(c:Code)(S:AS)(Q:Exit->AS->Prop):Prop:=
 ∀a w,S.holds C a w->c.wpIn (Fr C.ro) 0 P (λe a' w'=>∃S':AS,Q e S'/\S'.holds C a' w') a w
theorem xJ{P:Program}{C:Ctx}{ops:Array Oper}{R:AS->Prop}{Q:Exit->Act->World->Prop}
  (hQ:∀S a w,R S->S.holds C a w->Q .normal a w):
  ∀(rest:List Oper) (k:Nat) (acc:List Ac) (S:AS) (a:Act) (w:World),ops.toList.drop k=rest->RunT P C ops true (λ_ S=>R S) rest acc S->S.holds C a w->wpOpsIn (Fr C.ro) 0 P ops Q (List.range' k rest.length) a w
 |[],k,acc,S,a,w,_,h,hs=>by simpa[wpOpsIn]using hQ S a w h hs
 |o::rest,k,acc,S,a,w,hd,h,hs=>by
  have hk:ops[k]? =some o:=by
   have:(ops.toList.drop k)[0]? =some o:=by rw[hd];rfl
   simpa using this
  have hd':ops.toList.drop (k+1)=rest:=by
   rw[<-List.drop_drop,hd];rfl
  rw[List.length_cons,List.range'_succ,wpOpsIn_cons];rcases h with⟨rs,rb,rr,e,ho,hr⟩|⟨_,Post,ho,hr⟩
  ·exact ho S rfl (λ_ _=>rfl) (λ_ _=>rfl) (λ_ _=>rfl) k a w _ Q hk hs (λa' w' h'=>xJ hQ rest (k+1) _ _ a' w' hd' hr h')
  exact ho k a w _ Q hk hs (λS' a' w' hp h'=>xJ hQ rest (k+1) _ _ a' w' hd' (hr S' hp) h')
theorem aW{P:Program}{C:Ctx}{id:Nat}{ops:Array Oper}{S:AS}{Q:Exit->AS->Prop}
  (h:RunT P C ops true (λ_ S=>Q .normal S) ops.toList [] S):Ok P C (.region id ops false) S Q:=λa w hs=>by
 refine wpIn_region ?_;have:=xJ (Q:=λe a' w'=>∃S':AS,Q e S'/\S'.holds C a' w') (λS a w r hs=>⟨S,r,hs⟩) ops.toList 0 [] S a w Y h hs;simpa[List.range_eq_range']using this
def EX(ws rs Zt:List Nat):Bool:=ws.any λd=>rs.contains d||Zt.contains d
def tQ.ks(e:tQ):List Nat:=match e.sl with|some (d,_)=>[d]|none=>[]
def tQ.kb(e:tQ):List Nat:=e.bx.map (·.1)
def tQ.kr(e:tQ):List Nat:=e.rw.map (·.1)
def Ac.wv(x y:Ac):Bool:=
 EX x.e.ks y.rs y.e.ks||EX y.e.ks x.rs []||EX x.e.kb y.rb y.e.kb||EX y.e.kb x.rb []||EX x.e.kr y.rr y.e.kr||EX y.e.kr x.rr []
def zU(ops:Array Oper)(acts:List Ac):Bool:=
 let b:=Region.before ops
 (acts.length==ops.size)&&
 (ops.toList.zipIdx.all λ(o,j)=>o.after.all λe=>!Region.binds .any e||decide (e.on<j))&&
 (acts.zipIdx.all λ(y,j)=>acts.zipIdx.all λ(x,i)=>!(decide (i<j))|| !(x.wv y)||(b.getD j 0).testBit i)
def Down(ops:Array Oper)(L:Nat->Bool):Prop:=∀(j:Nat) (o:Oper),ops[j]? =some o->L j=true->∀e∈o.after,Region.binds .any e=true->L e.on=true
theorem JJ(acc:Array Nat)(after:List Edge)(L:Nat->Bool)(hacc:∀j i,(acc.getD j 0).testBit i=true->L j=true->L i=true)
  (hL:∀e∈after,Region.binds .any e=true->L e.on=true):∀(s i:Nat),(s.testBit i=true->L i=true)->
   (after.foldl (λs e=>if Region.binds .any e then s ||| 2^e.on ||| acc.getD e.on 0 else s) s).testBit i=true->L i=true:=by
 induction after with
 |nil=>intro s i hs h;exact hs h
 |cons e after ih=>
  intro s i hs h;rw[List.foldl_cons]at h;refine ih (λe' he'=>hL e' (List.mem_cons_of_mem _ he')) _ i ?_ h;intro hb;split at hb
  ·rename_i hbe;have hLe:=hL e (List.mem_cons_self ..) hbe;rw[Nat.testBit_or,Nat.testBit_or,Bool.or_eq_true,Bool.or_eq_true,Nat.testBit_two_pow]at hb;rcases hb with(hb|hb)|hb
   ·exact hs hb
   ·simp only[decide_eq_true_eq]at hb;exact hb▸hLe
   exact hacc _ _ hb hLe
  exact hs hb
theorem yO{ops:Array Oper}{L:Nat->Bool}(hL:Down ops L):∀j i,((Region.before ops).getD j 0).testBit i=true->L j=true->L i=true:=by
 have key:∀(l:List Oper) (k:Nat) (acc:Array Nat),acc.size=k->(∀m,l[m]? =ops[k+m]?)->
   (∀j i,(acc.getD j 0).testBit i=true->L j=true->L i=true)->
   ∀j i,((l.foldl (λacc o=>acc.push (o.after.foldl (λs e=>if Region.binds .any e then s ||| 2^e.on ||| acc.getD e.on 0 else s) 0)) acc).getD j 0).testBit i=true->L j=true->L i=true:=by
  intro l
  induction l with
  |nil=>intro k acc _ _ h;exact h
  |cons o l ih=>
   intro k acc hk hl hacc;rw[List.foldl_cons];refine ih (k+1) _ (by simp[hk]) (λm=>?_) ?_
   ·have:=hl (m+1);rw[List.getElem?_cons_succ]at this;rw[this];congr 1;omega
   intro j i h hj;by_cases hjk:j=k
   ·subst hjk;have ho:ops[j]? =some o:=by have:=hl 0;simpa using this.symm
    rw[Array.getD_eq_getD_getElem?,<-hk,Array.getElem?_push_size,Option.getD_some,<-Array.foldl_toList]at h;exact JJ acc o.after.toList L hacc (λe he hb=>hL j o ho hj e (Array.mem_toList_iff.1 he) hb) 0 i (by simp) h
   rw[Array.getD_eq_getD_getElem?,Array.getElem?_push,if_neg (by omega),<-Array.getD_eq_getD_getElem?]at h;exact hacc j i h hj
 intro j i h hj;refine key ops.toList 0 #[] Y (λm=>by simp) (by intro j i h;simp at h) j i ?_ hj;rw[Region.before,<-Array.foldl_toList]at h;exact h
def ov(S:AS)(acts:Nat->tQ)(L:Nat->Bool):Nat->AS
 |0=>S
 |k+1=>if L k then(ov S acts L k).app (acts k)else ov S acts L k
theorem SJ(S:AS)(acts:Nat->tQ)(L:Nat->Bool):∀k,(ov S acts L k).n=S.n
 |0=>rfl
 |k+1=>by unfold ov;split<;>simp[AS.Qu,SJ S acts L k]
theorem rU(S:AS)(acts:Nat->tQ){L L':Nat->Bool}:∀k,(∀i,i<k->L i=L' i)->ov S acts L k=ov S acts L' k
 |0,_=>rfl
 |k+1,h=>by unfold ov;rw[h k (by omega),rU S acts k (λi hi=>h i (by omega))]
section comp
variable {α:Type}(get:AS->Nat->α)(wr:tQ->Nat->Option α)(kN:∀S e s,get (S.app e) s=(wr e s).getD (get S s))
include kN
theorem OK(S:AS)(acts:Nat->tQ)(L:Nat->Bool)(s i:Nat):∀k,i<=k->(∀m,i<=m->m<k->L m=true->wr (acts m) s=none)->get (ov S acts L k) s=get (ov S acts L i) s:=by
 intro k
 induction k with
 |zero=>
      intro h _;obtain rfl:i=0:=by omega
      rfl
 |succ k ih=>
  intro h hm;by_cases hi:i=k+1
  ·subst hi;rfl
  have ih':=ih (by omega) (λm h1 h2=>hm m h1 (by omega));rw[<-ih'];show get (if L k then(ov S acts L k).app (acts k)else ov S acts L k) s=_;split
  ·rename_i hl;rw[kN,hm k (by omega) (by omega) hl];rfl
  rfl
theorem K0(S:AS)(acts:Nat->tQ)(L L':Nat->Bool)(s:Nat):∀k,(∀m,m<k->wr (acts m) s≠none->L m=L' m)->get (ov S acts L k) s=get (ov S acts L' k) s:=by
 intro k
 induction k with
 |zero=>intro _;rfl
 |succ k ih=>
  intro hm;have ih':=ih (λm h=>hm m (by omega));have one:∀M:Nat->Bool,get (ov S acts M (k+1)) s=if M k=true then(wr (acts k) s).getD (get (ov S acts M k) s)else get (ov S acts M k) s:=by
   intro M;show get (if M k then(ov S acts M k).app (acts k)else ov S acts M k) s=_;split
   ·rw[kN]
   rfl
  rw[one,one,ih'];cases hsl:wr (acts k) s with
  |none=>simp
  |some x=>rw[hm k (by omega) (by rw[hsl];simp)]
end comp
theorem K1{e:tQ}{s:Nat}(h:wT e s≠none):s∈e.ks:=by
 unfold wT at h;unfold tQ.ks;split at h
 ·split at h
  ·subst_vars;simp
  exact absurd Y h
 exact absurd Y h
theorem xK:∀{l:List (Nat×nX)} {s:Nat},rT l s≠none->s∈l.map (·.1)
 |[],_,h=>absurd Y h
 |(i,R)::l,s,h=>by
  rw[rT]at h;cases e:rT l s with
  |some x=>exact List.mem_cons_of_mem _ (xK (by rw[e];simp))
  |none=>
   rw[e]at h;by_cases hs:s=i
   ·subst hs;simp
   simp[hs]at h
theorem xL:∀{l:List (Nat×kK)} {s:Nat},dL l s≠none->s∈l.map (·.1)
 |[],_,h=>absurd Y h
 |(i,R)::l,s,h=>by
  rw[dL]at h;cases e:dL l s with
  |some x=>exact List.mem_cons_of_mem _ (xL (by rw[e];simp))
  |none=>
   rw[e]at h;by_cases hs:s=i
   ·subst hs;simp
   simp[hs]at h
theorem lX{ws rs Zt:List Nat}(h:EX ws rs Zt=false):∀d∈ws,d∉rs/\d∉Zt:=by
 intro d hd;simp only[EX,List.any_eq_false,Bool.or_eq_true,not_or]at h;have:=h d hd;simpa using this
section drawn
variable {P:Program}{C:Ctx}{ops:Array Oper}{acts:List Ac}{S:AS}
def dS(acts:List Ac)(i:Nat):tQ:=((acts[i]?).map (·.e)).getD ⟨none,[],[]⟩
def SK(P:Program)(C:Ctx)(ops:Array Oper)(acts:List Ac)(S:AS):Prop:=
 ∀(i:Nat) (o:Oper) (x:Ac),ops[i]? =some o->acts[i]? =some x->SI P C ops o x.rs x.rb x.rr (ov S (dS acts) (λ_=>true) i) x.e
def Wr(n:Nat)(listed:Array Bool):Nat:=((List.range n).filter λi=>!listed.getD i true).length
theorem pU{p q:Nat->Bool}:∀(l:List Nat) (i:Nat),i∈l->(∀j,q j=true->p j=true)->p i=true->q i=false->(l.filter q).length<(l.filter p).length
 |[],_,h,_,_,_=>by simp at h
 |x::l,i,h,hpq,hp,hq=>by
  have hle:∀l:List Nat,(l.filter q).length<=(l.filter p).length:=by
   intro l
   induction l with
   |nil=>simp
   |cons y l ih=>
    rw[List.filter_cons,List.filter_cons];cases hqy:q y with
    |false=>cases hpy:p y<;>simp<;>omega
    |true=>simp[hpq y hqy];omega
  rw[List.filter_cons,List.filter_cons];rcases List.mem_cons.1 h with rfl|h'
  ·rw[hp,hq];have:=hle l;simp;omega
  have ih:=pU l i h' hpq hp hq;cases hqy:q x with
  |false=>cases hpy:p x<;>simp<;>omega
  |true=>simp[hpq x hqy];omega
theorem SL{n i:Nat}{listed:Array Bool}(hi:i<n)(hsz:listed.size=n)(h:listed.getD i true=false):Wr n (listed.setIfInBounds i true)<Wr n listed:=by
 refine pU (List.range n) i (List.mem_range.2 hi) (λj hj=>?_) (by simp[h]) ?_
 ·rw[Bool.not_eq_true']at hj⊢;rw[Array.getD_eq_getD_getElem?,Array.getElem?_setIfInBounds]at hj;split at hj
  ·split at hj<;>simp at hj
  rw[Array.getD_eq_getD_getElem?];exact hj
 simp[Array.getD_eq_getD_getElem?,hsz,hi]
theorem Cg(h:zU ops acts=true):acts.length=ops.size/\
  (∀(j:Nat) (o:Oper),ops[j]? =some o->∀e∈o.after,Region.binds .any e=true->e.on<j)/\
  (∀(i j:Nat) (x y:Ac),acts[i]? =some x->acts[j]? =some y->i<j->x.wv y=true->((Region.before ops).getD j 0).testBit i=true):=by
 simp only[zU,Bool.and_eq_true,beq_iff_eq,List.all_eq_true]at h;obtain⟨⟨h1,h2⟩,h3⟩:=h;refine⟨h1,?_,?_⟩
 ·intro j o ho e he hb;have:=h2 (o,j) (List.mem_zipIdx_iff_getElem?.2 (by simpa using ho));simp only[Array.all_eq_true_iff_forall_mem]at this;have:=this e he;simpa[hb]using this
 intro i j x y hx hy hij hc;have:=h3 (y,j) (List.mem_zipIdx_iff_getElem?.2 (by simpa using hy)) (x,i) (List.mem_zipIdx_iff_getElem?.2 (by simpa using hx));simpa[hij,hc]using this
theorem Ch(hT:SK P C ops acts S)(OL:zU ops acts=true){Q:Exit->Act->World->Prop}
  (hQ:∀a w,(ov S (dS acts) (λ_=>true) ops.size).holds C a w->Q .normal a w):
  ∀(fuel:Nat) (listed:Array Bool) (a:Act) (w:World),listed.size=ops.size->Wr ops.size listed<=fuel->Down ops (λi=>listed.getD i false)->
   (ov S (dS acts) (λi=>listed.getD i false) ops.size).holds C a w->wpAnyIn (Fr C.ro) 0 P .any ops Q fuel listed a w:=by
 obtain⟨hlen,Ws,La⟩:=Cg OL;have wz:∀(listed:Array Bool) (i:Nat),listed.size=ops.size->i<ops.size->listed.getD i true=listed.getD i false:=by
  intro listed i hs hi;rw[Array.getD_eq_getD_getElem?,Array.getD_eq_getD_getElem?];rw[Array.getElem?_eq_getElem (by omega)];rfl
 have done:∀(listed:Array Bool),listed.size=ops.size->Region.ready .any ops listed=[]->∀i,i<ops.size->listed.getD i false=true:=by
  intro listed hs hr i
  induction i using Nat.strongRecOn with
  |_ i ih=>
   intro hi;cases VR:listed.getD i false with
   |true=>rfl
   |false=>
    exfalso;have:i∈Region.ready .any ops listed:=by
     simp only[Region.ready,List.mem_filter,List.mem_range];refine⟨hi,?_⟩;rw[wz listed i hs hi,VR,Array.getElem?_eq_getElem hi];simp only[Bool.not_false,Bool.true_and,Option.map_some,Option.getD_some,Array.all_eq_true_iff_forall_mem];intro e he;cases hb:Region.binds .any e with
     |false=>rfl
     |true=>
      have hlt:=Ws i ops[i] (Array.getElem?_eq_getElem hi) e he hb;rw[ih e.on hlt (by omega)];rfl
    rw[hr]at this;simp at this
 intro fuel
 induction fuel with
 |zero=>
  intro listed a w hs hu hD hh;have hall:∀i,i<ops.size->listed.getD i false=true:=by
   intro i hi;cases VR:listed.getD i false with
   |true=>rfl
   |false=>
    exfalso;have hm:i∈(List.range ops.size).filter λi=>!listed.getD i true:=by
     rw[List.mem_filter];exact⟨List.mem_range.2 hi,by rw[wz listed i hs hi,VR];rfl⟩
    have:0<Wr ops.size listed:=List.length_pos_of_mem hm;omega
  refine⟨?_,?_⟩
  ·simp only[Region.ready,List.filter_eq_nil_iff,List.mem_range];intro i hi;rw[wz listed i hs hi,hall i hi];simp
  refine hQ a w ?_;rwa[rU S (dS acts) (L:=λi=>listed.getD i false) (L':=λ_=>true) ops.size hall]at hh
 |succ fuel ih=>
  intro listed a w hs hu hD hh;refine⟨λhr=>?_,λi hi=>?_⟩
  ·refine hQ a w ?_;rwa[rU S (dS acts) (L:=λi=>listed.getD i false) (L':=λ_=>true) ops.size (done listed hs hr)]at hh
  simp only[Region.ready,List.mem_filter,List.mem_range,Bool.and_eq_true,Bool.not_eq_true']at hi;obtain⟨hi,VR,hpre⟩:=hi;have SM:listed.getD i false=false:=by rw[<-wz listed i hs hi];exact VR
  have ho:ops[i]? =some ops[i]:=Array.getElem?_eq_getElem hi;have Wt:∀e∈ops[i].after,Region.binds .any e=true->listed.getD e.on false=true:=by
   rw[ho]at hpre;simp only[Option.map_some,Option.getD_some,Array.all_eq_true_iff_forall_mem]at hpre;intro e he hb;have:=hpre e he;simpa[hb]using this
  have VS:i<acts.length:=by omega
  have hx:acts[i]? =some acts[i]:=List.getElem?_eq_getElem VS;have aah:dS acts i=acts[i].e:=by simp[dS,VS]
  have kN:∀m,(listed.setIfInBounds i true).getD m false=if m=i then true else listed.getD m false:=by
   intro m;rw[Array.getD_eq_getD_getElem?,Array.getElem?_setIfInBounds];by_cases hm:m=i
   ·subst hm;simp[hs,hi]
   rw[if_neg (by omega),if_neg hm,Array.getD_eq_getD_getElem?]
  have hD':Down ops (λm=>(listed.setIfInBounds i true).getD m false):=by
   intro j o hj hl e he hb;simp only[kN]at hl⊢;by_cases hji:j=i
   ·subst hji;have:o=ops[j]:=by rw[ho]at hj;exact(Option.some.inj hj).symm
    subst this;have:=Wt e he hb;split<;>simp_all
   rw[if_neg hji]at hl;have:=hD j o hj hl e he hb;split<;>simp_all
  have later:∀k,i<k->listed.getD k false=true->(acts[i]).wv ((acts[k]?).getD ⟨[],[],[],⟨none,[],[]⟩⟩)=false:=by
   intro k hk hlk;have hkn:k<ops.size:=by
    rcases Nat.lt_or_ge k ops.size with h|h
    ·exact h
    rw[Array.getD_eq_getD_getElem?,Array.getElem?_eq_none (by omega)]at hlk;simp at hlk
   have hka:acts[k]? =some acts[k]:=List.getElem?_eq_getElem (by omega);rw[hka,Option.getD_some];cases hc:(acts[i]).wv acts[k]with
   |false=>rfl
   |true=>
    have hb:=La i k _ _ hx hka hk hc;have:=yO hD k i hb hlk;simp only[SM]at this;exact absurd this (by simp)
  have OM:∀k,k<i->listed.getD k false=false->((acts[k]?).getD ⟨[],[],[],⟨none,[],[]⟩⟩).wv acts[i]=false:=by
   intro k hk hlk;have hka:acts[k]? =some acts[k]:=List.getElem?_eq_getElem (by omega);rw[hka,Option.getD_some];cases hc:(acts[k]).wv acts[i]with
   |false=>rfl
   |true=>
    have hb:=La k i _ _ hka hx hk hc;have:=yO hD' i k hb (by simp[kN]);rw[kN,if_neg (by omega),hlk]at this;exact absurd this (by simp)
  have SN:∀k,((acts[k]?).getD ⟨[],[],[],⟨none,[],[]⟩⟩).e=dS acts k:=by
   intro k;unfold dS;cases acts[k]? <;>rfl
  have qF:∀{x y:Ac},x.wv y=false->(∀d∈x.e.ks,d∉y.rs/\d∉y.e.ks)/\(∀d∈y.e.ks,d∉x.rs)/\(∀d∈x.e.kb,d∉y.rb/\d∉y.e.kb)/\(∀d∈y.e.kb,d∉x.rb)/\(∀d∈x.e.kr,d∉y.rr/\d∉y.e.kr)/\(∀d∈y.e.kr,d∉x.rr):=by
   intro x y h;simp only[Ac.wv,Bool.or_eq_false_iff]at h;exact⟨lX h.1.1.1.1.1,λd hd=>(lX h.1.1.1.1.2 d hd).1,lX h.1.1.1.2,λd hd=>(lX h.1.1.2 d hd).1,lX h.1.2,λd hd=>(lX h.2 d hd).1⟩
  have look:∀{α:Type} (get:AS->Nat->α) (wr:tQ->Nat->Option α) (kN:∀S e s,get (S.app e) s=(wr e s).getD (get S s)) (rk:Ac->List Nat) (wk:tQ->List Nat)
    (hk:∀e s,wr e s≠none->s∈wk e) (c1:∀x y:Ac,x.wv y=false->(∀d∈wk x.e,d∉rk y)/\(∀d∈wk y.e,d∉rk x)),∀s∈rk acts[i],
    get (ov S (dS acts) (λm=>listed.getD m false) ops.size) s=get (ov S (dS acts) (λ_=>true) i) s:=by
   intro α get wr kN rk wk hk c1 s EP;rw[OK get wr kN S (dS acts) _ s i ops.size (by omega)]
   ·refine K0 get wr kN S (dS acts) _ _ s i λm hm hw=>?_;cases KM:listed.getD m false with
    |true=>rfl
    |false=>
     have:=(c1 _ _ (OM m hm KM)).1 s (by rw[SN];exact hk _ _ hw);exact absurd EP this
   intro m hm1 Lb KM;cases hw:wr (dS acts m) s with
   |none=>rfl
   |some x=>
    exfalso;rcases Nat.lt_or_ge i m with h|h
    ·have:=(c1 _ _ (later m h KM)).2 s (by rw[SN];exact hk _ _ (by rw[hw];simp));exact this EP
    obtain rfl:m=i:=by omega
    simp only[SM]at KM;exact absurd KM (by simp)
  refine hT i ops[i] acts[i] ho hx (ov S (dS acts) (λm=>listed.getD m false) ops.size) (by rw[SJ,SJ]) ?_ ?_ ?_ i a w _ Q ho hh ?_
  ·exact look AS.t wT AS.KX Ac.rs tQ.ks (λ_ _ h=>K1 h) (λx y h=>⟨λd hd=>((qF h).1 d hd).1,(qF h).2.1⟩)
  ·exact look AS.b (λe=>rT e.bx) AS.KY Ac.rb tQ.kb (λ_ _ h=>xK h) (λx y h=>⟨λd hd=>((qF h).2.2.1 d hd).1,(qF h).2.2.2.1⟩)
  ·exact look AS.r (λe=>dL e.rw) AS.KZ Ac.rr tQ.kr (λ_ _ h=>xL h) (λx y h=>⟨λd hd=>((qF h).2.2.2.2.1 d hd).1,(qF h).2.2.2.2.2⟩)
  intro a' w' hh';refine ih (listed.setIfInBounds i true) a' w' (by simp[hs]) ?_ hD' ?_
  ·have:=SL hi hs VR;omega
  have heq:ov S (dS acts) (λm=>(listed.setIfInBounds i true).getD m false) ops.size=(ov S (dS acts) (λm=>listed.getD m false) ops.size).app acts[i].e:=by
   have hsm:∀k,k<=i->ov S (dS acts) (λm=>(listed.setIfInBounds i true).getD m false) k=ov S (dS acts) (λm=>listed.getD m false) k:=λk hk=>
    rU S (dS acts) k (λm hm=>by rw[kN,if_neg (by omega)])
   have step:∀k,i<k->k<=ops.size->ov S (dS acts) (λm=>(listed.setIfInBounds i true).getD m false) k=(ov S (dS acts) (λm=>listed.getD m false) k).app acts[i].e:=by
    intro k hk hkn
    induction k with
    |zero=>omega
    |succ k ihk=>
     by_cases hki:k=i
     ·subst hki;show(if(listed.setIfInBounds k true).getD k false then _ else _)=AS.app (if listed.getD k false then _ else _) _;rw[kN,if_pos Y,if_pos Y,SM,hsm k (Nat.le_refl _),aah];rfl
     have ih2:=ihk (by omega) (by omega);show(if(listed.setIfInBounds i true).getD k false then(ov S (dS acts) (λm=>(listed.setIfInBounds i true).getD m false) k).app (dS acts k)else ov S (dS acts) (λm=>(listed.setIfInBounds i true).getD m false) k)=AS.app (if listed.getD k false then(ov S (dS acts) (λm=>listed.getD m false) k).app (dS acts k)else ov S (dS acts) (λm=>listed.getD m false) k) _;rw[kN,if_neg hki,ih2];cases hlk:listed.getD k false with
     |false=>rfl
     |true=>
      rw[if_pos Y,if_pos rfl];have hc:=qF (later k (by omega) hlk);rw[SN]at hc;have two:∀{α:Type} (get:AS->Nat->α) (wr:tQ->Nat->Option α) (kN:∀S e s,get (S.app e) s=(wr e s).getD (get S s)) (wk:tQ->List Nat) (hk:∀e s,wr e s≠none->s∈wk e)
        (c1:∀d∈wk acts[i].e,d∉wk (dS acts k)) (T:AS) (s:Nat),get ((T.app acts[i].e).app (dS acts k)) s=get ((T.app (dS acts k)).app acts[i].e) s:=by
       intro α get wr kN wk hk c1 T s;rw[kN,kN,kN,kN];cases h1:wr acts[i].e s with
       |none=>rfl
       |some x=>
        cases h2:wr (dS acts k) s with
        |none=>rfl
        |some y=>exact absurd (hk _ s (by rw[h2];simp)) (c1 s (hk _ s (by rw[h1];simp)))
      refine AS.ext' (by simp[AS.Qu]) (λs=>?_) (λs=>?_) (λs=>?_) (by simp[AS.IB]) (by simp[AS.IB])
      ·exact two AS.t wT AS.KX tQ.ks (λ_ _ h=>K1 h) (λd hd=>(hc.1 d hd).2) _ s
      ·exact two AS.b (λe=>rT e.bx) AS.KY tQ.kb (λ_ _ h=>xK h) (λd hd=>(hc.2.2.1 d hd).2) _ s
      exact two AS.r (λe=>dL e.rw) AS.KZ tQ.kr (λ_ _ h=>xL h) (λd hd=>(hc.2.2.2.2.1 d hd).2) _ s
   exact step ops.size hi (Nat.le_refl _)
  rw[heq];exact hh'
end drawn
theorem Dz(S:AS)(x:Ac)(xs:List Ac):∀i,ov S (dS (x::xs)) (λ_=>true) (i+1)=ov (S.app x.e) (dS xs) (λ_=>true) i
 |0=>rfl
 |i+1=>by
  have ih:=Dz S x xs i;show(ov S (dS (x::xs)) (λ_=>true) (i+1)).app (dS (x::xs) (i+1))=(ov (S.app x.e) (dS xs) (λ_=>true) i).app (dS xs i);rw[ih];rfl
theorem CV{P:Program}{C:Ctx}{ops:Array Oper}{K:List Ac->AS->Prop}:∀(rest:List Oper) (acc:List Ac) (S:AS),RunT P C ops false K rest acc S->
  ∃xs:List Ac,xs.length=rest.length/\(∀(i:Nat) (o:Oper) (x:Ac),rest[i]? =some o->xs[i]? =some x->SI P C ops o x.rs x.rb x.rr (ov S (dS xs) (λ_=>true) i) x.e)/\
   K (xs.reverse++acc) (ov S (dS xs) (λ_=>true) rest.length)
 |[],acc,S,h=>⟨[],Y,by simp,h⟩
 |o::rest,acc,S,h=>by
  rcases h with⟨rs,rb,rr,e,ho,hr⟩|⟨h,_⟩
  case inr=>cases h
  obtain⟨xs,hl,hxs,hK⟩:=CV rest _ _ hr;refine⟨⟨rs,rb,rr,e⟩::xs,by simp[hl],?_,?_⟩
  ·intro i o' x hi hx;cases i with
   |zero=>simp at hi hx;subst hi;subst hx;exact ho
   |succ i=>
    rw[Dz];exact hxs i o' x (by simpa using hi) (by simpa using hx)
  rw[List.length_cons,Dz,List.reverse_cons,List.append_assoc];exact hK
theorem bn.drew{C:Ctx}{S:AS}{E:Env}{a:Act}{w:World}(h:bn C S E a w):bn C S E a w.drew:=
 ⟨h.wf,h.marks,h.size,h.os,h.tape,h.output,h.grown,h.frame,h.m0,h.eG,h.dh,h.tm,h.bx,h.inj,h.rx,h.fm,h.gC,h.ee,h.kD,
  C.jf _ _ _ _ _ _ _ h.jj (Mem.le_refl _) h.dh (λ_ _ _ e=>.inl e) (λ_ _=>rfl) rfl rfl rfl (Nat.le_refl _)⟩
theorem AS.holds.drew{C:Ctx}{S:AS}{a:Act}{w:World}(h:S.holds C a w):S.holds C a w.drew:=by
 obtain⟨E,h⟩:=h;exact⟨E,h.drew⟩
theorem bh{P:Program}{C:Ctx}{id:Nat}{ops:Array Oper}{S:AS}{Q:Exit->AS->Prop}(hm:P.follows .mixedOrders=true)
  (h:RunT P C ops false (λacc S=>zU ops acc.reverse=true/\Q .normal S) ops.toList [] S):Ok P C (.region id ops true) S Q:=λa w hs=>by
 obtain⟨xs,hl,hxs,OL,hq⟩:=CV _ _ _ h;rw[List.append_nil,List.reverse_reverse]at OL;refine wpIn_region_any hm ?_;refine Ch (acts:=xs) (S:=S) (λi o x ho hx=>hxs i o x (by simpa using ho) hx) OL (λa w hh=>⟨_,hq,by simpa using hh⟩) ops.size _ a _ (by simp) ?_ ?_ ?_
 ·have:=List.length_filter_le (λi=>!(Array.replicate ops.size false).getD i true) (List.range ops.size);simpa[Wr]using this
 ·intro j o _ hj;exfalso;simp only[Array.getD_eq_getD_getElem?,Array.getElem?_replicate]at hj;split at hj<;>simp at hj
 rw[rU S (dS xs) (L':=λ_=>false) ops.size (λi hi=>by rw[Array.getD_eq_getD_getElem?,Array.getElem?_replicate,if_pos hi];rfl)];have:∀k,ov S (dS xs) (λ_=>false) k=S:=by
  intro k;induction k with
  |zero=>rfl
  |succ k ih=>simpa[ov]using ih
 rw[this];exact hs.drew
def aV(next:AS->Prop)(Q:Exit->AS->Prop):Exit->AS->Prop
 |.normal,S=>next S
 |e,S=>Q e S
def bG(id:Nat)(Q:Exit->AS->Prop):Exit->AS->Prop
 |.exit id',S=>if id'=id then Q .normal S else Q (.exit id') S
 |e,S=>Q e S
section control
variable {P:Program}{C:Ctx}{S:AS}{Q:Exit->AS->Prop}
theorem aV.n{next:AS->Prop}(h:next S):aV next Q .normal S:=h
theorem aV.r{next:AS->Prop}(h:Q .ret S):aV next Q .ret S:=h
theorem aV.x{next:AS->Prop}{id:Nat}(h:Q (.exit id) S):aV next Q (.exit id) S:=h
theorem bG.n{id:Nat}(h:Q .normal S):bG id Q .normal S:=h
theorem bG.r{id:Nat}(h:Q .ret S):bG id Q .ret S:=h
theorem bG.x{id:Nat}(h:Q .normal S):bG id Q (.exit id) S:=by simp only[bG,if_true];exact h
theorem bG.y{id id':Nat}(hne:id'≠id)(h:Q (.exit id') S):bG id Q (.exit id') S:=by simp only[bG,if_neg hne];exact h
theorem DA{c:Code}{Q':Exit->AS->Prop}(h:Ok P C c S Q)(hq:∀e S,Q e S->Q' e S):Ok P C c S Q':=λa w hs=>
 wpIn_mono (h a w hs) λ_ _ _ ⟨S',q,hh⟩=>⟨S',hq _ _ q,hh⟩
theorem bH{x y:Code}(h:Ok P C x S (aV (λS'=>Ok P C y S' Q) Q)):Ok P C (.seq x y) S Q:=λa w hs=>by
 refine wpIn_seq (wpIn_mono (h a w hs) ?_);rintro e a' w' ⟨S',q,hh⟩;cases e<;>first|exact q a' w' hh|exact⟨S',q,hh⟩
theorem bB(h:Q .normal S):Ok P C .skip S Q:=λ_ _ hs=>wpIn_skip ⟨S,h,hs⟩
theorem bf(h:Q .ret S):Ok P C .ret S Q:=λ_ _ hs=>wpIn_ret ⟨S,h,hs⟩
theorem cc{id:Nat}(h:Q (.exit id) S):Ok P C (.exit id) S Q:=λ_ _ hs=>wpIn_exit ⟨S,h,hs⟩
theorem IC{c:Operand}{x y:Code}{t:Bool}(hc:S.ev c=.sv (.v (.bool t)))(ht:t=true->Ok P C x S Q)(hf:t=false->Ok P C y S Q):Ok P C (.cond c x y) S Q:=λa w hs=>by
 obtain⟨E,h⟩:=hs;have he:a.eval c=.bool t:=by have:=h.ev c;rw[hc]at this;exact this
 exact wpIn_cond_split he (λe=>ht e a w ⟨E,h⟩) (λe=>hf e a w ⟨E,h⟩)
theorem cP{c:Operand}{x y:Code}(hc:S.ev c=.sv (.v (.bool true)))(ht:Ok P C x S Q):Ok P C (.cond c x y) S Q:=IC hc (λ_=>ht) (λh=>by cases h)
theorem dX{c:Operand}{x y:Code}(hc:S.ev c=.sv (.v (.bool false)))(hf:Ok P C y S Q):Ok P C (.cond c x y) S Q:=IC hc (λh=>by cases h) (λ_=>hf)
theorem bj{id:Nat}{c:Code}(h:Ok P C c S (bG id Q)):Ok P C (.block id c) S Q:=λa w hs=>by
 refine wpIn_block (wpIn_mono (h a w hs) ?_);rintro e a' w' ⟨S',q,hh⟩;cases e with
 |exit id'=>
  simp only[bG,Exit.inBlock]at*;split at q<;>rename_i Ci
  ·rw[if_pos Ci];exact⟨S',q,hh⟩
  rw[if_neg Ci];exact⟨S',q,hh⟩
 |_=>exact⟨S',q,hh⟩
def rV(S S':AS):Prop:=∀(C:Ctx) (a:Act) (w:World),S.holds C a w->S'.holds C a w
theorem cz{c:Code}{S':AS}(hw:rV S S')(h:Ok P C c S' Q):Ok P C c S Q:=λa w hs=>h a w (hw C a w hs)
theorem zw{F:Fence}{n:Nat}{Q:Exit->Act->World->Prop}{a:Act}{w:World}{c:Code}(I:Nat->Act->World->Prop)(n₀:Nat)(h₀:I n₀ a w)
  (round:∀m a w,I m a w->c.wpIn F n P (Exit.then (λa' w'=>∃m',m'<m/\I m' a' w') Q) a w):(Code.loop c).wpIn F n P Q a w:=by
 refine wpIn_loop (λa w=>∃n,I n a w) (λa w=>leastOf (λn=>I n a w)) ⟨n₀,h₀⟩ ?_;intro a w hI;refine wpIn_mono (round _ a w (leastOf_spec hI).1) ?_;intro e a' w' hq;cases e with
 |normal=>
  obtain⟨n',hlt,hI'⟩:=hq;exact show(∃n,I n a' w')/\leastOf (λn=>I n a' w')<leastOf (λn=>I n a w)from⟨⟨n',hI'⟩,Nat.lt_of_le_of_lt ((leastOf_spec ⟨n',hI'⟩).2 n' hI') hlt⟩
 |_=>exact hq
theorem wA{ι:Type}{c:Code}(I:ι->AS)(μ:ι->Nat)(x0:ι)(h0:rV S (I x0))
  (round:∀x,Ok P C c (I x) (aV (λS'=>∃y,μ y<μ x/\rV S' (I y)) Q)):Ok P C (.loop c) S Q:=λa w hs=>by
 refine zw (λn a w=>∃x,μ x=n/\(I x).holds C a w) (μ x0) ⟨x0,Y,h0 C a w hs⟩ ?_;rintro n a w ⟨x,rfl,hx⟩;refine wpIn_mono (round x a w hx) ?_;rintro e a' w' ⟨S',q,hh⟩;cases e with
 |normal=>obtain⟨y,hy,hwk⟩:=q;exact⟨μ y,hy,y,Y,hwk C a' w' hh⟩
 |_=>exact⟨S',q,hh⟩
end control
end
section
open Go.RowKit
class mI (P:Program) (T:TypeId) (k:outParam IntKind):Prop where
 h:P.underlying T=some (.int k)
class DB (P:Program) (T:TypeId):Prop where
 h:P.underlying T=some .bool
class Qv (P:Program) (T:TypeId):Prop where
 h:P.underlying T=some .string
class zV (P:Program) (T:TypeId) (n:outParam Nat):Prop where
 u:(match P.underlying T with|some (.struct _)|some (.array _ _)=>true|_=>false)=true
 s:(P.info? T).map (·.size)=some n
class pV (P:Program) (T:TypeId):Prop where
 u:(match P.underlying T with|some (.struct _)|some (.array _ _)|none=>false|_=>true)=true
 s:(P.info? T).map (·.size)=some 1
class gX (P:Program) (T:TypeId) (z:outParam Value):Prop where
 h:(P.info? T).bind (·.zero)=some z
class eM (P:Program) (T:TypeId) (E:outParam TypeId) (n:outParam Nat):Prop where
 u:P.underlying T=some (.slice E)
 s:(P.info? E).map (·.size)=some n
class xH (P:Program) (T:TypeId) (f:Nat) (off:outParam Nat) (U:outParam TypeId):Prop where
 h:(match P.underlying T with|some (.struct fs)=>(fs[f]?).map λF=>(F.offset,F.type)|_=>none)=some (off,U)
class dz (P:Program) (f:FuncId):Prop where
 h:((P.funcs[f]?).map λfn=>(fn.name== "runtime.NumGoroutine",fn.body.isNone))=some (false,false)
theorem dz.run{P:Program}{f:FuncId}[e:dz P f](args:Array Value)(w:World):(callFunc f args).run P w=.ok (.enter f args) w:=by
 have h:=e.h;cases hf:P.funcs[f]? with
 |none=>rw[hf]at h;simp at h
 |some fn=>
  rw[hf]at h;simp only[Option.map_some,Option.some.injEq,Prod.mk.injEq]at h;have h1:fn.name≠ "runtime.NumGoroutine" :=by simpa using h.1
  have h2:¬fn.body=none:=by have:=h.2;intro e;rw[e]at this;simp at this
  simp[callFunc,hf,h1,h2]
theorem zV.isAgg{P:Program}{T:TypeId}{n:Nat}[t:zV P T n](w:World):(isAgg T).run P w=.ok true w:=by
 have h:=t.u;unfold Go.isAgg underlying;cases hu:P.underlying T with
 |none=>rw[hu]at h;simp at h
 |some u=>rw[hu]at h;cases u<;>simp[hu]at h⊢
theorem zV.size{P:Program}{T:TypeId}{n:Nat}[t:zV P T n](w:World):(sizeOf T).run P w=.ok n w:=by
 have h:=t.s;unfold Go.sizeOf typeInfo;cases hi:P.info? T with
 |none=>rw[hi]at h;simp at h
 |some i=>rw[hi]at h;simp at h;simp[hi,h]
theorem pV.isAgg{P:Program}{T:TypeId}[t:pV P T](w:World):(isAgg T).run P w=.ok false w:=by
 have h:=t.u;unfold Go.isAgg underlying;cases hu:P.underlying T with
 |none=>rw[hu]at h;simp at h
 |some u=>rw[hu]at h;cases u<;>simp[hu]at h⊢
theorem pV.size{P:Program}{T:TypeId}[t:pV P T](w:World):(sizeOf T).run P w=.ok 1 w:=by
 have h:=t.s;unfold Go.sizeOf typeInfo;cases hi:P.info? T with
 |none=>rw[hi]at h;simp at h
 |some i=>rw[hi]at h;simp at h;simp[hi,h]
theorem gX.run{P:Program}{T:TypeId}{z:Value}[t:gX P T z](w:World):(zeroValue T).run P w=.ok z w:=by
 have h:=t.h;unfold Go.zeroValue typeInfo;cases hi:P.info? T with
 |none=>rw[hi]at h;simp at h
 |some i=>rw[hi]at h;simp at h;simp[hi,h]
theorem eM.size{P:Program}{T E:TypeId}{n:Nat}[t:eM P T E n](w:World):(sizeOf E).run P w=.ok n w:=by
 have h:=t.s;unfold Go.sizeOf typeInfo;cases hi:P.info? E with
 |none=>rw[hi]at h;simp at h
 |some i=>rw[hi]at h;simp at h;simp[hi,h]
inductive Gd (ops:Array Oper) (S:AS):Option (Nat×Bool)->List Nat->Prop
 |none:Gd ops S none []
 |some {j g:Nat} {want:Bool} (h1:(ops[j]?).bind (·.dst)=some g) (h2:S.t g=.sv (.v (.bool want))):Gd ops S (some (j,want)) [g]
theorem Gd.wanted{ops:Array Oper}{S S':AS}{gd:Option (Nat×Bool)}{rs:List Nat}(hg:Gd ops S gd rs){C:Ctx}{E:Env}{a:Act}{w:World}(h:bn C S' E a w)
  (ht:∀s∈rs,S'.t s=S.t s) {o:Oper} (ho:o.guard=gd):Region.wanted o (yielded ops a.tmps)=true:=by
 cases hg with
 |none=>simp[Region.wanted,ho]
 | @some j g want h1 h2=>
  have hv:=h.tm g;rw[ht g (by simp),h2]at hv;have hv:a.tmps.getD g undef=.bool want:=hv;have:a.tmps[g]? =Option.some (.bool want):=by
   rw[Array.getD_eq_getD_getElem?]at hv;cases e:a.tmps[g]? with
   |none=>rw[e]at hv;simp[undef]at hv
   |some x=>rw[e]at hv;simp at hv;rw[hv]
  simp[Region.wanted,ho,yielded,h1,this]
section steps
variable {P:Program}{C:Ctx}{ops:Array Oper}{S:AS}{nd:Bool}{K:List Ac->AS->Prop}{rest:List Oper}{acc:List Ac}
theorem bn.put{E:Env}{a:Act}{w:World}(h:bn C S E a w){d:Nat}{x:AV}{v:Value}(hx:x.holds E v)(hd:d<S.n)
  (hl:(∀j,x.mb j->∃B,S.b j=some B)/\(∀j,x.mr j->S.r j≠ .un)):bn C (S.set d x) E (a.put (some d) v) w where
 wf:=by
  refine⟨λs j hj=>?_,λs j hj=>?_,h.wf.bb,h.wf.br⟩
  ·by_cases e:s=d
   ·subst e;rw[AS.ja]at hj;exact hl.1 j hj
   rw[AS.gV _ _ _ _ e]at hj;exact h.wf.tb s j hj
  by_cases e:s=d
  ·subst e;rw[AS.ja]at hj;exact hl.2 j hj
  rw[AS.gV _ _ _ _ e]at hj;exact h.wf.tr s j hj
 marks:=h.marks
 size:=by simp[Act.put];exact h.size
 os:=h.os
 tape:=h.tape
 output:=h.output
 grown:=h.grown
 frame:=h.frame
 m0:=h.m0
 eG:=h.eG
 dh:=h.dh
 tm:=λs=>by
  by_cases e:s=d
  ·subst e;rw[AS.ja];have:(a.put (some s) v).tmps.getD s undef=v:=by
    simp[Act.put,Array.getD_eq_getD_getElem?,h.size,hd]
   rw[this];exact hx
  rw[AS.gV _ _ _ _ e];have:(a.put (some d) v).tmps.getD s undef=a.tmps.getD s undef:=by
   simp[Act.put,Array.getD_eq_getD_getElem?,Array.getElem?_setIfInBounds_ne (Ne.symm e)]
  rw[this];exact h.tm s
 bx:=h.bx
 inj:=h.inj
 rx:=h.rx
 fm:=h.fm
 gC:=h.gC
 ee:=h.ee
 kD:=h.kD
 jj:=h.jj
theorem cA{o:Oper}{i:Nat}{a:Act}{w:World}{L:Act->World->Prop}{Q:Exit->Act->World->Prop}(ho:ops[i]? =some o)(hg:Region.wanted o (yielded ops a.tmps)=true)(h:o.wpIn (Fr C.ro) 0 P a w L Q):wpOpIn (Fr C.ro) 0 P ops Q i L a w:=by
 simp only[wpOpIn,ho,hg,if_true];exact h
theorem ct{o:Oper}{a:Act}{w:World}{L:Act->World->Prop}{Q:Exit->Act->World->Prop}(hnd:∀c,o.op≠ .defer c){r:Result Next}(hr:(execOp a.eval o).run P w=r)(h:o.uponIn (Fr C.ro) 0 P a L Q r):o.wpIn (Fr C.ro) 0 P a w L Q:=by
 refine⟨λ_ _=>trivial,?_⟩;rw[Oper.semAt_eq _ _ _ hnd,hr];exact h
variable {gd:Option (Nat×Bool)}{rg:List Nat}{d:Nat}{ty:TypeId}{pos:String}{aft:Array Edge}{x y z:Operand}{T U:TypeId}{k:IntKind}{p q:Int}
theorem RT.skip{op:Op}{j g:Nat}{b want:Bool}(h1:(ops[j]?).bind (·.dst)=some g)(h2:S.t g=.sv (.v (.bool b)))(hb:b≠want)(hd:d<S.n)
  (next:RunT P C ops nd K rest (⟨[g],[],[],⟨some (d,.sv .any),[],[]⟩⟩::acc) (S.set d (.sv .any))):RunT P C ops nd K (⟨some d,op,ty,pos,aft,some (j,want)⟩::rest) acc S:=by
 refine .inl ⟨[g],[],[],⟨some (d,.sv .any),[],[]⟩,?_,next⟩;rintro S' hn ht _ _ i a w L Q ho ⟨E,h⟩ hL;have hv:=h.tm g;rw[ht g (by simp),h2]at hv;have hv:a.tmps.getD g undef=.bool b:=hv;have ER:a.tmps[g]? =some (.bool b):=by
  rw[Array.getD_eq_getD_getElem?]at hv;cases e:a.tmps[g]? with
  |none=>rw[e]at hv;simp[undef]at hv
  |some x=>rw[e]at hv;simp at hv;rw[hv]
 have hw:Region.wanted ⟨some d,op,ty,pos,aft,some (j,want)⟩ (yielded ops a.tmps)=false:=by
  simp[Region.wanted,yielded,h1,ER,hb]
 simp only[wpOpIn,ho,hw];exact⟨λ_ _=>trivial,hL _ _ ⟨E,h.put (x:=.sv .any) (v:=undef) trivial (by omega) ⟨λ_ h=>h.elim,λ_ h=>h.elim⟩⟩⟩
theorem RT.value(hg:Gd ops S gd rg){op:Op}(rs rb rr:List Nat)(x:AV)(hd:d<S.n)(hnd:∀c,op≠ .defer c)
  (hv:∀S':AS,(∀s∈rs,S'.t s=S.t s)->(∀i∈rb,S'.b i=S.b i)->(∀i∈rr,S'.r i=S.r i)->∀E a w,bn C S' E a w->∃v,(execOp a.eval ⟨some d,op,ty,pos,aft,gd⟩).run P w=.ok (.value v) w/\x.holds E v/\(∀j,x.mb j->∃B,S'.b j=some B)/\(∀j,x.mr j->S'.r j≠ .un))
  (next:RunT P C ops nd K rest (⟨rg++rs,rb,rr,⟨some (d,x),[],[]⟩⟩::acc) (S.set d x)):RunT P C ops nd K (⟨some d,op,ty,pos,aft,gd⟩::rest) acc S:=by
 refine .inl ⟨rg++rs,rb,rr,⟨some (d,x),[],[]⟩,?_,next⟩;rintro S' hn ht hb hr i a w L Q ho ⟨E,h⟩ hL;refine cA (C:=C) ho (hg.wanted h (λs hs=>ht s (List.mem_append_left _ hs)) Y) ?_;obtain⟨v,hrun,hx,hl⟩:=hv S' (λs hs=>ht s (List.mem_append_right _ hs)) hb hr E a w h;exact ct (C:=C) hnd hrun (hL _ _ ⟨E,h.put hx (by omega) hl⟩)
theorem ff{s:SV}{S:AS}:(∀j,(AV.sv s).mb j->∃B,S.b j=some B)/\(∀j,(AV.sv s).mr j->S.r j≠ .un):=⟨λ_ h=>h.elim,λ_ h=>h.elim⟩
theorem kO{S:AS}(h:S.wf){x:Operand}{v:AV}(e:S.ev x=v):(∀j,v.mb j->∃B,S.b j=some B)/\(∀j,v.mr j->S.r j≠ .un):=by
 subst e;cases x with
 |tmp t=>exact⟨h.tb t,h.tr t⟩
 |const x=>exact ff
 |global g=>exact ff
 |func f=>exact ff
theorem RT.move(hg:Gd ops S gd rg){s:AV}(hx:S.ev x=s)(hd:d<S.n)
  (next:RunT P C ops nd K rest (⟨rg++aZ x,[],[],⟨some (d,s),[],[]⟩⟩::acc) (S.set d s)):RunT P C ops nd K (⟨some d,.move x,ty,pos,aft,gd⟩::rest) acc S:=
 RT.value hg (aZ x) [] [] s hd (by intro c h;cases h) (λS' ht _ _ E a w h=>by
  have hx':S'.ev x=s:=by rw[bw (λ_ h=>h) ht,hx]
  exact⟨a.eval x,Y,by have:=h.ev x;rw[hx']at this;exact this,kO h.wf hx'⟩) next
theorem RT.assign(hg:Gd ops S gd rg){s:AV}(hx:S.ev x=s)(hd:d<S.n)
  (next:RunT P C ops nd K rest (⟨rg++aZ x,[],[],⟨some (d,s),[],[]⟩⟩::acc) (S.set d s)):RunT P C ops nd K (⟨some d,.assign x,ty,pos,aft,gd⟩::rest) acc S:=
 RT.value hg (aZ x) [] [] s hd (by intro c h;cases h) (λS' ht _ _ E a w h=>by
  have hx':S'.ev x=s:=by rw[bw (λ_ h=>h) ht,hx]
  exact⟨a.eval x,Y,by have:=h.ev x;rw[hx']at this;exact this,kO h.wf hx'⟩) next
theorem RT.Qw(hg:Gd ops S gd rg){s:SV}(hx:S.ev x=.sv (.v (.bool true)))(hy:S.ev y=.sv s)(hd:d<S.n)
  (next:RunT P C ops nd K rest (⟨rg++(aZ x++aZ y),[],[],⟨some (d,.sv s),[],[]⟩⟩::acc) (S.set d (.sv s))):RunT P C ops nd K (⟨some d,.pick x y z,ty,pos,aft,gd⟩::rest) acc S:=
 RT.value hg (aZ x++aZ y) [] [] (.sv s) hd (by intro c h;cases h) (λS' ht _ _ E a w h=>by
  have h1:a.eval x=.bool true:=by have h1:=h.ev x;rw[bw (λ_ h=>List.mem_append_left _ h) ht,hx]at h1;exact h1
  have h2:=h.ev y;rw[bw (λ_ h=>List.mem_append_right _ h) ht,hy]at h2;exact⟨a.eval y,by simp[execOp,h1,asBool],h2,ff⟩) next
theorem RT.Qx(hg:Gd ops S gd rg){s:SV}(hx:S.ev x=.sv (.v (.bool false)))(hz:S.ev z=.sv s)(hd:d<S.n)
  (next:RunT P C ops nd K rest (⟨rg++(aZ x++aZ z),[],[],⟨some (d,.sv s),[],[]⟩⟩::acc) (S.set d (.sv s))):RunT P C ops nd K (⟨some d,.pick x y z,ty,pos,aft,gd⟩::rest) acc S:=
 RT.value hg (aZ x++aZ z) [] [] (.sv s) hd (by intro c h;cases h) (λS' ht _ _ E a w h=>by
  have h1:a.eval x=.bool false:=by have h1:=h.ev x;rw[bw (λ_ h=>List.mem_append_left _ h) ht,hx]at h1;exact h1
  have h2:=h.ev z;rw[bw (λ_ h=>List.mem_append_right _ h) ht,hz]at h2;exact⟨a.eval z,by simp[execOp,h1,asBool],h2,ff⟩) next
theorem RT.Hl(hg:Gd ops S gd rg){op:Op}(hnd:∀c,op≠ .defer c){vx vy r:Value}(hx:S.ev x=.sv (.v vx))(hy:S.ev y=.sv (.v vy))(hd:d<S.n)
  (hr:∀(ρ:Operand->Value) (w:World),ρ x=vx->ρ y=vy->(execOp ρ ⟨some d,op,ty,pos,aft,gd⟩).run P w=.ok (.value r) w)
  (next:RunT P C ops nd K rest (⟨rg++(aZ x++aZ y),[],[],⟨some (d,.sv (.v r)),[],[]⟩⟩::acc) (S.set d (.sv (.v r)))):RunT P C ops nd K (⟨some d,op,ty,pos,aft,gd⟩::rest) acc S:=
 RT.value hg (aZ x++aZ y) [] [] (.sv (.v r)) hd hnd (λS' ht _ _ E a w h=>by
  have h1:=h.ev x;rw[bw (λ_ h=>List.mem_append_left _ h) ht,hx]at h1;have h2:=h.ev y;rw[bw (λ_ h=>List.mem_append_right _ h) ht,hy]at h2;exact⟨r,hr _ w h1 h2,Y,ff⟩) next
theorem RT.op1(hg:Gd ops S gd rg){op:Op}(hnd:∀c,op≠ .defer c){vx r:Value}(hx:S.ev x=.sv (.v vx))(hd:d<S.n)
  (hr:∀(ρ:Operand->Value) (w:World),ρ x=vx->(execOp ρ ⟨some d,op,ty,pos,aft,gd⟩).run P w=.ok (.value r) w)
  (next:RunT P C ops nd K rest (⟨rg++aZ x,[],[],⟨some (d,.sv (.v r)),[],[]⟩⟩::acc) (S.set d (.sv (.v r)))):RunT P C ops nd K (⟨some d,op,ty,pos,aft,gd⟩::rest) acc S:=
 RT.value hg (aZ x) [] [] (.sv (.v r)) hd hnd (λS' ht _ _ E a w h=>by
  have h1:=h.ev x;rw[bw (λ_ h=>h) ht,hx]at h1;exact⟨r,hr _ w h1,Y,ff⟩) next
theorem kP{op:BinOp}{ρ:Operand->Value}{w:World}{r:Value}{j:IntKind}(hx:ρ x=.int k p)(hy:ρ y=.int j q)(h:(binOp op T (.int k p) (.int j q)).run P w=.ok r w):
  (execOp ρ ⟨some d,.binOp op T x y U,ty,pos,aft,gd⟩).run P w=.ok (.value r) w:=by
 simp only[execOp,hx,hy];have he:(eqGuard op T x y (.int k p) (.int j q)).run P w=.ok () w:=by
  unfold eqGuard;cases op<;>simp
 simp[he,h]
theorem RT.cmp(hg:Gd ops S gd rg){op:BinOp}{c:Bool}(hx:S.ev x=.sv (.v (.int k p)))(hy:S.ev y=.sv (.v (.int k q)))(hd:d<S.n)
  (hc:∀w:World,(binOp op T (.int k p) (.int k q)).run P w=.ok (.bool c) w)
  (next:RunT P C ops nd K rest (⟨rg++(aZ x++aZ y),[],[],⟨some (d,.sv (.v (.bool c))),[],[]⟩⟩::acc) (S.set d (.sv (.v (.bool c))))):RunT P C ops nd K (⟨some d,.binOp op T x y U,ty,pos,aft,gd⟩::rest) acc S:=
 RT.Hl hg (by intro c h;cases h) hx hy hd (λ_ w h1 h2=>kP h1 h2 (hc w)) next
theorem RT.eql(hg:Gd ops S gd rg)(c:Bool)(hx:S.ev x=.sv (.v (.int k p)))(hy:S.ev y=.sv (.v (.int k q)))(hd:d<S.n)(hc:(p==q)=c)
  (next:RunT P C ops nd K rest (⟨rg++(aZ x++aZ y),[],[],⟨some (d,.sv (.v (.bool c))),[],[]⟩⟩::acc) (S.set d (.sv (.v (.bool c))))):RunT P C ops nd K (⟨some d,.binOp .eql T x y U,ty,pos,aft,gd⟩::rest) acc S:=
 RT.cmp hg hx hy hd (λw=>by simp[binOp,Op.intCmp,hc]) next
theorem RT.neq(hg:Gd ops S gd rg)(c:Bool)(hx:S.ev x=.sv (.v (.int k p)))(hy:S.ev y=.sv (.v (.int k q)))(hd:d<S.n)(hc:(p != q)=c)
  (next:RunT P C ops nd K rest (⟨rg++(aZ x++aZ y),[],[],⟨some (d,.sv (.v (.bool c))),[],[]⟩⟩::acc) (S.set d (.sv (.v (.bool c))))):RunT P C ops nd K (⟨some d,.binOp .neq T x y U,ty,pos,aft,gd⟩::rest) acc S:=
 RT.cmp hg hx hy hd (λw=>by simp[binOp,Op.intCmp,hc]) next
theorem RT.lss(hg:Gd ops S gd rg)(c:Bool)(hx:S.ev x=.sv (.v (.int k p)))(hy:S.ev y=.sv (.v (.int k q)))(hd:d<S.n)(hc:decide (p<q)=c)
  (next:RunT P C ops nd K rest (⟨rg++(aZ x++aZ y),[],[],⟨some (d,.sv (.v (.bool c))),[],[]⟩⟩::acc) (S.set d (.sv (.v (.bool c))))):RunT P C ops nd K (⟨some d,.binOp .lss T x y U,ty,pos,aft,gd⟩::rest) acc S:=
 RT.cmp hg hx hy hd (λw=>by simp[binOp,Op.intCmp,hc]) next
theorem RT.leq(hg:Gd ops S gd rg)(c:Bool)(hx:S.ev x=.sv (.v (.int k p)))(hy:S.ev y=.sv (.v (.int k q)))(hd:d<S.n)(hc:decide (p<=q)=c)
  (next:RunT P C ops nd K rest (⟨rg++(aZ x++aZ y),[],[],⟨some (d,.sv (.v (.bool c))),[],[]⟩⟩::acc) (S.set d (.sv (.v (.bool c))))):RunT P C ops nd K (⟨some d,.binOp .leq T x y U,ty,pos,aft,gd⟩::rest) acc S:=
 RT.cmp hg hx hy hd (λw=>by simp[binOp,Op.intCmp,hc]) next
theorem RT.gtr(hg:Gd ops S gd rg)(c:Bool)(hx:S.ev x=.sv (.v (.int k p)))(hy:S.ev y=.sv (.v (.int k q)))(hd:d<S.n)(hc:decide (q<p)=c)
  (next:RunT P C ops nd K rest (⟨rg++(aZ x++aZ y),[],[],⟨some (d,.sv (.v (.bool c))),[],[]⟩⟩::acc) (S.set d (.sv (.v (.bool c))))):RunT P C ops nd K (⟨some d,.binOp .gtr T x y U,ty,pos,aft,gd⟩::rest) acc S:=
 RT.cmp hg hx hy hd (λw=>by simp[binOp,Op.intCmp,hc]) next
theorem RT.geq(hg:Gd ops S gd rg)(c:Bool)(hx:S.ev x=.sv (.v (.int k p)))(hy:S.ev y=.sv (.v (.int k q)))(hd:d<S.n)(hc:decide (q<=p)=c)
  (next:RunT P C ops nd K rest (⟨rg++(aZ x++aZ y),[],[],⟨some (d,.sv (.v (.bool c))),[],[]⟩⟩::acc) (S.set d (.sv (.v (.bool c))))):RunT P C ops nd K (⟨some d,.binOp .geq T x y U,ty,pos,aft,gd⟩::rest) acc S:=
 RT.cmp hg hx hy hd (λw=>by simp[binOp,Op.intCmp,hc]) next
theorem RT.add(hg:Gd ops S gd rg)(c:Int)(hx:S.ev x=.sv (.v (.int k p)))(hy:S.ev y=.sv (.v (.int k q)))(hd:d<S.n)(hc:k.wrap (p+q)=c)
  (next:RunT P C ops nd K rest (⟨rg++(aZ x++aZ y),[],[],⟨some (d,.sv (.v (.int k c))),[],[]⟩⟩::acc) (S.set d (.sv (.v (.int k c))))):RunT P C ops nd K (⟨some d,.binOp .add T x y U,ty,pos,aft,gd⟩::rest) acc S:=
 RT.Hl hg (by intro c h;cases h) hx hy hd (λ_ w h1 h2=>kP h1 h2 (by simp[binOp,Op.intArith,hc])) next
theorem RT.sub(hg:Gd ops S gd rg)(c:Int)(hx:S.ev x=.sv (.v (.int k p)))(hy:S.ev y=.sv (.v (.int k q)))(hd:d<S.n)(hc:k.wrap (p-q)=c)
  (next:RunT P C ops nd K rest (⟨rg++(aZ x++aZ y),[],[],⟨some (d,.sv (.v (.int k c))),[],[]⟩⟩::acc) (S.set d (.sv (.v (.int k c))))):RunT P C ops nd K (⟨some d,.binOp .sub T x y U,ty,pos,aft,gd⟩::rest) acc S:=
 RT.Hl hg (by intro c h;cases h) hx hy hd (λ_ w h1 h2=>kP h1 h2 (by simp[binOp,Op.intArith,hc])) next
theorem RT.mul(hg:Gd ops S gd rg)(c:Int)(hx:S.ev x=.sv (.v (.int k p)))(hy:S.ev y=.sv (.v (.int k q)))(hd:d<S.n)(hc:k.wrap (p*q)=c)
  (next:RunT P C ops nd K rest (⟨rg++(aZ x++aZ y),[],[],⟨some (d,.sv (.v (.int k c))),[],[]⟩⟩::acc) (S.set d (.sv (.v (.int k c))))):RunT P C ops nd K (⟨some d,.binOp .mul T x y U,ty,pos,aft,gd⟩::rest) acc S:=
 RT.Hl hg (by intro c h;cases h) hx hy hd (λ_ w h1 h2=>kP h1 h2 (by simp[binOp,Op.intArith,hc])) next
theorem RT.quo(hg:Gd ops S gd rg)(c:Int)(hx:S.ev x=.sv (.v (.int k p)))(hy:S.ev y=.sv (.v (.int k q)))(hd:d<S.n)(h0:q≠0)(hc:k.wrap (p.tdiv q)=c)
  (next:RunT P C ops nd K rest (⟨rg++(aZ x++aZ y),[],[],⟨some (d,.sv (.v (.int k c))),[],[]⟩⟩::acc) (S.set d (.sv (.v (.int k c))))):RunT P C ops nd K (⟨some d,.binOp .quo T x y U,ty,pos,aft,gd⟩::rest) acc S:=
 RT.Hl hg (by intro c h;cases h) hx hy hd (λ_ w h1 h2=>kP h1 h2 (by simp[binOp,Op.intDiv,hc,h0])) next
theorem RT.rem(hg:Gd ops S gd rg)(c:Int)(hx:S.ev x=.sv (.v (.int k p)))(hy:S.ev y=.sv (.v (.int k q)))(hd:d<S.n)(h0:q≠0)(hc:p.tmod q=c)
  (next:RunT P C ops nd K rest (⟨rg++(aZ x++aZ y),[],[],⟨some (d,.sv (.v (.int k c))),[],[]⟩⟩::acc) (S.set d (.sv (.v (.int k c))))):RunT P C ops nd K (⟨some d,.binOp .rem T x y U,ty,pos,aft,gd⟩::rest) acc S:=
 RT.Hl hg (by intro c h;cases h) hx hy hd (λ_ w h1 h2=>kP h1 h2 (by simp[binOp,Op.intDiv,hc,h0])) next
theorem RT.and(hg:Gd ops S gd rg)(c:Int)(hx:S.ev x=.sv (.v (.int k p)))(hy:S.ev y=.sv (.v (.int k q)))(hd:d<S.n)(hc:k.wrap ((BitVec.ofInt k.bits p &&& BitVec.ofInt k.bits q).toNat)=c)
  (next:RunT P C ops nd K rest (⟨rg++(aZ x++aZ y),[],[],⟨some (d,.sv (.v (.int k c))),[],[]⟩⟩::acc) (S.set d (.sv (.v (.int k c))))):RunT P C ops nd K (⟨some d,.binOp .and T x y U,ty,pos,aft,gd⟩::rest) acc S:=
 RT.Hl hg (by intro c h;cases h) hx hy hd (λ_ w h1 h2=>kP h1 h2 (by simp only[binOp,Op.intBits,hc];simp)) next
theorem RT.or(hg:Gd ops S gd rg)(c:Int)(hx:S.ev x=.sv (.v (.int k p)))(hy:S.ev y=.sv (.v (.int k q)))(hd:d<S.n)(hc:k.wrap ((BitVec.ofInt k.bits p ||| BitVec.ofInt k.bits q).toNat)=c)
  (next:RunT P C ops nd K rest (⟨rg++(aZ x++aZ y),[],[],⟨some (d,.sv (.v (.int k c))),[],[]⟩⟩::acc) (S.set d (.sv (.v (.int k c))))):RunT P C ops nd K (⟨some d,.binOp .or T x y U,ty,pos,aft,gd⟩::rest) acc S:=
 RT.Hl hg (by intro c h;cases h) hx hy hd (λ_ w h1 h2=>kP h1 h2 (by simp only[binOp,Op.intBits,hc];simp)) next
theorem RT.xor(hg:Gd ops S gd rg)(c:Int)(hx:S.ev x=.sv (.v (.int k p)))(hy:S.ev y=.sv (.v (.int k q)))(hd:d<S.n)(hc:k.wrap ((BitVec.ofInt k.bits p ^^^ BitVec.ofInt k.bits q).toNat)=c)
  (next:RunT P C ops nd K rest (⟨rg++(aZ x++aZ y),[],[],⟨some (d,.sv (.v (.int k c))),[],[]⟩⟩::acc) (S.set d (.sv (.v (.int k c))))):RunT P C ops nd K (⟨some d,.binOp .xor T x y U,ty,pos,aft,gd⟩::rest) acc S:=
 RT.Hl hg (by intro c h;cases h) hx hy hd (λ_ w h1 h2=>kP h1 h2 (by simp only[binOp,Op.intBits,hc];simp)) next
theorem RT.shl(hg:Gd ops S gd rg)(c:Int){j:IntKind}(hx:S.ev x=.sv (.v (.int k p)))(hy:S.ev y=.sv (.v (.int j q)))(hd:d<S.n)(h0:0<=q)(hc:k.wrap (p*2^(min q.toNat k.bits))=c)
  (next:RunT P C ops nd K rest (⟨rg++(aZ x++aZ y),[],[],⟨some (d,.sv (.v (.int k c))),[],[]⟩⟩::acc) (S.set d (.sv (.v (.int k c))))):RunT P C ops nd K (⟨some d,.binOp .shl T x y U,ty,pos,aft,gd⟩::rest) acc S:=
 RT.Hl hg (by intro c h;cases h) hx hy hd (λ_ w h1 h2=>kP h1 h2 (by
  have:¬q<0:=by omega
  simp only[binOp,Op.shift,this,if_false,hc];rfl)) next
theorem RT.shr(hg:Gd ops S gd rg)(c:Int){j:IntKind}(hx:S.ev x=.sv (.v (.int k p)))(hy:S.ev y=.sv (.v (.int j q)))(hd:d<S.n)(h0:0<=q)(hc:p.fdiv (2^(min q.toNat k.bits))=c)
  (next:RunT P C ops nd K rest (⟨rg++(aZ x++aZ y),[],[],⟨some (d,.sv (.v (.int k c))),[],[]⟩⟩::acc) (S.set d (.sv (.v (.int k c))))):RunT P C ops nd K (⟨some d,.binOp .shr T x y U,ty,pos,aft,gd⟩::rest) acc S:=
 RT.Hl hg (by intro c h;cases h) hx hy hd (λ_ w h1 h2=>kP h1 h2 (by
  have:¬q<0:=by omega
  simp only[binOp,Op.shift,this,if_false,hc];rfl)) next
theorem RT.not(hg:Gd ops S gd rg){b:Bool}(hx:S.ev x=.sv (.v (.bool b)))(hd:d<S.n)(c:Bool)(hc:(!b)=c)
  (next:RunT P C ops nd K rest (⟨rg++aZ x,[],[],⟨some (d,.sv (.v (.bool c))),[],[]⟩⟩::acc) (S.set d (.sv (.v (.bool c))))):RunT P C ops nd K (⟨some d,.unOp .not T x,ty,pos,aft,gd⟩::rest) acc S:=
 RT.op1 hg (by intro c h;cases h) hx hd (λ_ w h1=>by simp[execOp,h1,Op.unary,hc]) next
theorem RT.neg(hg:Gd ops S gd rg)(c:Int)(hx:S.ev x=.sv (.v (.int k p)))(hd:d<S.n)(hc:k.wrap (0-p)=c)
  (next:RunT P C ops nd K rest (⟨rg++aZ x,[],[],⟨some (d,.sv (.v (.int k c))),[],[]⟩⟩::acc) (S.set d (.sv (.v (.int k c))))):RunT P C ops nd K (⟨some d,.unOp .neg T x,ty,pos,aft,gd⟩::rest) acc S:=
 RT.op1 hg (by intro c h;cases h) hx hd (λ_ w h1=>by simp only[execOp,h1,Op.unary,Op.intArith,hc];simp) next
theorem RT.conv(hg:Gd ops S gd rg){j:IntKind}[tT:mI P T j][tU:mI P U k](c:Int){k':IntKind}(hx:S.ev x=.sv (.v (.int k' p)))(hd:d<S.n)(hc:k.wrap p=c)
  (next:RunT P C ops nd K rest (⟨rg++aZ x,[],[],⟨some (d,.sv (.v (.int k c))),[],[]⟩⟩::acc) (S.set d (.sv (.v (.int k c))))):RunT P C ops nd K (⟨some d,.convert T U x,ty,pos,aft,gd⟩::rest) acc S:=
 RT.op1 hg (by intro c h;cases h) hx hd (λ_ w h1=>by simp[execOp,h1,convert,underlying,tT.h,tU.h,Conv.intToInt,hc]) next
theorem RT.aak(hg:Gd ops S gd rg)[tT:DB P T](e:Bool){b c:Bool}(hx:S.ev x=.sv (.v (.bool b)))(hy:S.ev y=.sv (.v (.bool c)))(hd:d<S.n)(he:(b==c)=e)
  (next:RunT P C ops nd K rest (⟨rg++(aZ x++aZ y),[],[],⟨some (d,.sv (.v (.bool e))),[],[]⟩⟩::acc) (S.set d (.sv (.v (.bool e))))):RunT P C ops nd K (⟨some d,.binOp .eql T x y U,ty,pos,aft,gd⟩::rest) acc S:=
 RT.Hl hg (by intro c h;cases h) hx hy hd (λρ w h1 h2=>by
  have e1:=run_eql_bool (P:=P) w T b c tT.h;rw[he]at e1;simp[execOp,h1,h2,eqGuard,e1]) next
theorem RT.SO(hg:Gd ops S gd rg)[tT:DB P T](e:Bool){b c:Bool}(hx:S.ev x=.sv (.v (.bool b)))(hy:S.ev y=.sv (.v (.bool c)))(hd:d<S.n)(he:(!(b==c))=e)
  (next:RunT P C ops nd K rest (⟨rg++(aZ x++aZ y),[],[],⟨some (d,.sv (.v (.bool e))),[],[]⟩⟩::acc) (S.set d (.sv (.v (.bool e))))):RunT P C ops nd K (⟨some d,.binOp .neq T x y U,ty,pos,aft,gd⟩::rest) acc S:=
 RT.Hl hg (by intro c h;cases h) hx hy hd (λρ w h1 h2=>by
  have e1:=run_neq_bool (P:=P) w T b c tT.h;rw[he]at e1;simp[execOp,h1,h2,eqGuard,e1]) next
end steps
end
section
open Go.RowKit
class One (s:SV):Prop where
 h:∀M v,s.h M v->v.oneCell'=true
class qG (l:List SV):Prop where
 h:∀M vs,SV.ef M l vs->∀v∈vs,v.oneCell'=true
instance:qG []:=⟨λ_ vs h=>by cases vs with|nil=>simp|cons _ _=>exact h.elim⟩
instance{s:SV}{l:List SV}[o:One s][os:qG l]:qG (s::l):=⟨λM vs h=>by
 cases vs with
 |nil=>exact h.elim
 |cons x xs=>
        intro v hv;rcases List.mem_cons.1 hv with rfl|hv
        ·exact o.h M _ h.1
        exact os.h M xs h.2 v hv⟩
instance{b:Bool}:One (.v (.bool b)):=⟨λ_ _ h=>by cases h;rfl⟩
instance{k:IntKind}{n:Int}:One (.v (.int k n)):=⟨λ_ _ h=>by cases h;rfl⟩
instance{a:Option Addr}:One (.v (.pointer a)):=⟨λ_ _ h=>by cases h;rfl⟩
instance{f:Fn}{a b:Array Value}:One (.v (.func f a b)):=⟨λ_ _ h=>by cases h;rfl⟩
class Lc (x:AV):Prop where
 h:∀E v,x.holds E v->v.oneCell'=true
instance{s:SV}[o:One s]:Lc (.sv s):=⟨λE v h=>o.h E.M v h⟩
instance{i o:Nat}:Lc (.ptr i o):=⟨λ_ _ h=>by cases h;rfl⟩
instance{g:FuncId}{js:List qE}:Lc (.fV g js):=⟨λ_ _ h=>by obtain⟨vs,rfl,_⟩:=h;rfl⟩
theorem iI{v:Value}(h:v.oneCell'=true):v.cells=#[v]:=by cases v<;>first|rfl|simp[Value.oneCell']at h
def slc(sz:Nat)(rows:List (List SV)):SV where
 h M v:=(∃a,v=.slice a 0 0/\rows=[])\/∃b o c,v=.slice (some ⟨b,o,none⟩) rows.length c/\rows.length<=c/\rows.length<=9223372036854775807/\
  ∀(i:Nat) (row:List SV),rows[i]? =some row->row.length=sz/\∀(k:Nat) (s:SV),row[k]? =some s->∃y,M b (o+i*sz+k)=some y/\y.oneCell'=true/\s.h M y
 mono hM h:=by
  rcases h with h|⟨b,o,c,e,h1,h2,h3⟩
  ·exact .inl h
  refine .inr ⟨b,o,c,e,h1,h2,λi row hr=>⟨(h3 i row hr).1,λk s hs=>?_⟩⟩;obtain⟨y,hy,h1,hs'⟩:=(h3 i row hr).2 k s hs;exact⟨y,hM _ _ _ hy,h1,s.mono hM hs'⟩
def ref(cells:List SV):SV where
 h M v:=∃b o,v=.pointer (some ⟨b,o,none⟩)/\∀(k:Nat) (s:SV),cells[k]? =some s->∃y,M b (o+k)=some y/\y.oneCell'=true/\s.h M y
 mono hM h:=by
  obtain⟨b,o,e,h⟩:=h;refine⟨b,o,e,λk s hs=>?_⟩;obtain⟨y,hy,h1,hs'⟩:=h k s hs;exact⟨y,hM _ _ _ hy,h1,s.mono hM hs'⟩
class ON (s:SV) (sz:outParam Nat) (rows:outParam (List (List SV))):Prop where
 h:SV.imp s (slc sz rows)
class Zu (s:SV) (n:outParam Nat):Prop where
 h:∀M v,s.h M v->∃a c,v=.slice a n c
instance{sz:Nat}{rows:List (List SV)}:ON (slc sz rows) sz rows:=⟨λ_ _ h=>h⟩
instance{sz:Nat}{rows:List (List SV)}:Zu (slc sz rows) rows.length:=⟨λM v h=>by
 rcases h with⟨a,rfl,rfl⟩|⟨b,o,c,rfl,_⟩
 ·exact⟨a,0,rfl⟩
 exact⟨_,_,rfl⟩⟩
instance{sz:Nat}{rows:List (List SV)}:One (slc sz rows):=⟨λM v h=>by
 rcases h with⟨a,rfl,rfl⟩|⟨b,o,c,rfl,_⟩<;>rfl⟩
section steps
variable {P:Program}{C:Ctx}{ops:Array Oper}{S:AS}{nd:Bool}{K:List Ac->AS->Prop}{rest:List Oper}{acc:List Ac}
variable {gd:Option (Nat×Bool)}{rg:List Nat}{d:Nat}{ty:TypeId}{pos:String}{aft:Array Edge}{x y z:Operand}{T U E0:TypeId}
theorem qH{E:Env}{a:Act}{w:World}(h:bn C S E a w){i:Nat}{B:nX}(hi:S.b i=some B):E.β i<w.heap.size:=by
 obtain⟨_,_,_,vs,hv,_⟩:=h.bx i B hi;exact(Array.getElem?_eq_some_iff.1 hv).1
theorem jb{E:Env}{a:Act}{w:World}(h:bn C S E a w){i:Nat}{R:Row}(hi:S.r i=.live R){g:Nat}(hg:(E.ν i).ownBlock=some g):g<w.heap.size:=by
 obtain⟨⟨vs,ho,_⟩,_⟩:=h.rx i R hi;exact(ho.lt g hg).2
theorem dw{w w':World}{base:Nat}{e:TypeId}{size:Nat}{v:Value}{n:Nat}{xs:List Value}(h:w.ownsRow base e size v n xs)(hs:∀g,v.ownBlock=some g->w'.heap[g]? =w.heap[g]?):w'.ownsRow base e size v n xs:=by
 obtain⟨h1,h2⟩:=h;refine⟨h1,?_⟩;rcases h2 with h2|⟨g,cap,cur,rfl,hb,hh,r⟩
 ·exact .inl h2
 exact .inr ⟨g,cap,cur,Y,hb,by rw[hs g rfl];exact hh,r⟩
theorem bn.SP{E:Env}{a:Act}{w:World}(h:bn C S E a w){i:Nat}(hi:S.b i=none)(hp:C.gC i=none){cells:List AV}{vs:List Value}(hc:di E cells vs)(hl:∀x∈cells,(∀j,x.mb j->∃B,S.b j=some B)/\(∀j,x.mr j->S.r j≠ .un)):
  bn C (S.jv i ⟨T,cells⟩) {E with β:=λj=>if j=i then w.heap.size else E.β j} a (w.alloc (.cells ⟨vs⟩ T)):=by
 have ne:∀j,(∃B,S.b j=some B)->j≠i:=by rintro j ⟨B,hB⟩ rfl;rw[hi]at hB;cases hB
 have keep:∀x:AV,(∀j,x.mb j->∃B,S.b j=some B)->∀v,x.holds E v->x.holds {E with β:=λj=>if j=i then w.heap.size else E.β j} v:=λx hx v hv=>
  AV.cI (E:=E) (E':={E with β:=λj=>if j=i then w.heap.size else E.β j}) (Mem.le_refl _) (λj hj=>if_neg (ne j (hx j hj))) (λ_ _=>rfl) hv
 have rW:∀j,(∃B,S.b j=some B)->∃B,(S.jv i ⟨T,cells⟩).b j=some B:=λj hj=>by
  obtain⟨B,hB⟩:=hj;exact⟨B,by rw[AS.bR _ _ _ _ (ne j ⟨B,hB⟩)];exact hB⟩
 have old:∀k,k<w.heap.size->(w.alloc (.cells ⟨vs⟩ T)).heap[k]? =w.heap[k]? :=λk hk=>Below.heap_alloc _ _ _ hk
 exact{
  wf:=by
   refine⟨λs j hj=>rW j (h.wf.tb s j hj),h.wf.tr,λj B hB x hx k hk=>?_,λj B hB x hx k hk=>?_⟩
   ·by_cases hj:j=i
    ·subst hj;rw[AS.cV]at hB;cases hB;exact rW k ((hl x hx).1 k hk)
    rw[AS.bR _ _ _ _ hj]at hB;exact rW k (h.wf.bb j B hB x hx k hk)
   by_cases hj:j=i
   ·subst hj;rw[AS.cV]at hB;cases hB;exact(hl x hx).2 k hk
   rw[AS.bR _ _ _ _ hj]at hB;exact h.wf.br j B hB x hx k hk
  marks:=by
   obtain⟨ds,h1,h2,h3⟩:=h.marks;refine⟨ds,h1,h2,λr hr=>?_⟩;obtain⟨h4,h5,h6⟩:=h3 r hr;exact⟨h4,h5,by rw[old r (Array.getElem?_eq_some_iff.1 h6).1];exact h6⟩
  size:=h.size
  os:=h.os
  tape:=h.tape
  output:=h.output
  grown:=by have:=h.grown;simp;omega
  frame:=λk hk hk'=>by rw[old k (by have:=h.grown;omega)];exact h.frame k hk hk'
  m0:=h.m0
  eG:=h.eG
  dh:=eA h.dh λb ⟨o,v,e⟩=>old b (nm h.dh e)
  tm:=λs=>keep _ (h.wf.tb s) _ (h.tm s)
  bx:=λj B hB=>by
   by_cases hj:j=i
   ·subst hj;rw[AS.cV]at hB;cases hB;refine⟨.inl (by simp;exact h.grown),λo=>?_,λho=>?_,vs,?_,hc.imp λx hx v hv=>keep x (hl x hx).1 v hv⟩
    ·simp only[if_true];cases e:E.M w.heap.size o with
     |none=>rfl
     |some v=>have:=nm h.dh e;omega
    ·simp only[if_true]at ho;have:=(h.kD _ ho).1;omega
    show(w.heap.push _)[if j=j then w.heap.size else E.β j]? =_;rw[if_pos rfl];exact Array.getElem?_push_size
   rw[AS.bR _ _ _ _ hj]at hB;obtain⟨h1,h2,h3,vs',h4,h5⟩:=h.bx j B hB;simp only[if_neg hj];exact⟨h1,h2,h3,vs',by rw[old _ (qH h hB)];exact h4,h5.imp λx hx v hv=>keep x (h.wf.bb j B hB x hx) v hv⟩
  inj:=λj k B B' hj hk e=>by
   by_cases h1:j=i
   ·subst h1;by_cases h2:k=j
    ·exact h2.symm
    rw[AS.bR _ _ _ _ h2]at hk;have:=qH h hk;simp only[if_true,if_neg h2]at e;omega
   rw[AS.bR _ _ _ _ h1]at hj;by_cases h2:k=i
   ·subst h2;have:=qH h hj;simp only[if_true,if_neg h1]at e;omega
   rw[AS.bR _ _ _ _ h2]at hk;simp only[if_neg h1,if_neg h2]at e;exact h.inj j k B B' hj hk e
  rx:=λj R hR=>by
   obtain⟨⟨us,h1,h2⟩,h3⟩:=h.rx j R hR;refine⟨⟨us,dw h1 λg hg=>old g (jb h hR hg),h2⟩,λg hg=>?_⟩;obtain⟨h4,h5,h6,h7⟩:=h3 g hg;refine⟨h4,h5,h6,λk B hB=>?_⟩;by_cases hk:k=i
   ·subst hk;simp only[if_true];have:=jb h hR hg;omega
   rw[AS.bR _ _ _ _ hk]at hB;simp only[if_neg hk];exact h7 k B hB
  fm:=h.fm
  gC:=λj b hj=>by
   have hne:j≠i:=by rintro rfl;rw[hp]at hj;cases hj
   simp only[if_neg hne];exact h.gC j b hj
  ee:=h.ee
  kD:=λb hb=>by
   obtain⟨h1,h2⟩:=h.kD b hb;exact⟨by simp;omega,h2⟩
  jj:=C.jf _ _ _ _ _ _ _ h.jj (Mem.le_refl _) (eA h.dh λb ⟨o,v,e⟩=>old b (nm h.dh e)) (λ_ _ _ e=>.inl e)
   (λb hb=>old b (by
              rcases hb with hb|hb
              ·have:=h.grown;omega
              exact(h.kD b hb).1)) Y Y Y (by simp)}
theorem bn.grow{E:Env}{M':Mem}{a:Act}{w w':World}(h:bn C S E a w)(hM:E.M.le M')(hn:∀b o v,M' b o=some v->E.M b o=some v\/w.heap.size<=b)(hw:M'.dh w')(hb:Below w.heap.size w w'):
  bn C S {E with M:=M'} a w':=by
 have keep:∀x:AV,∀v,x.holds E v->x.holds {E with M:=M'} v:=λx v hv=>AV.cI (E:=E) (E':={E with M:=M'}) hM (λ_ _=>rfl) (λ_ _=>rfl) hv;have none:∀b,b<w.heap.size->(∀o,E.M b o=none)->∀o,M' b o=none:=λb hb h2 o=>by
  cases e:M' b o with
  |none=>rfl
  |some v=>
   rcases hn _ _ _ e with e'|e'
   ·rw[h2 o]at e';cases e'
   omega
 exact{
  wf:=h.wf
  marks:=by
   obtain⟨ds,h1,h2,h3⟩:=h.marks;refine⟨ds,h1,h2,λr hr=>?_⟩;obtain⟨h4,h5,h6⟩:=h3 r hr;exact⟨h4,h5,by rw[hb.block r (Array.getElem?_eq_some_iff.1 h6).1];exact h6⟩
  size:=h.size
  os:=hb.os.trans h.os
  tape:=hb.tape.trans h.tape
  output:=hb.output.trans h.output
  grown:=Nat.le_trans h.grown hb.size
  frame:=λk hk hk'=>by rw[hb.block k (by have:=h.grown;omega)];exact h.frame k hk hk'
  m0:=Mem.le_trans h.m0 hM
  eG:=λb o v e=>by
   rcases hn b o v e with e'|e'
   ·exact h.eG b o v e'
   exact .inr (.inl (Nat.le_trans h.grown e'))
  dh:=hw
  tm:=λs=>keep _ _ (h.tm s)
  bx:=λi B hB=>by
   obtain⟨h1,h2,h3,vs,h4,h5⟩:=h.bx i B hB;exact⟨h1,none _ (qH h hB) h2,h3,vs,by rw[hb.block _ (qH h hB)];exact h4,h5.imp λx _ v hv=>keep x v hv⟩
  inj:=h.inj
  rx:=λi R hR=>by
   obtain⟨⟨us,h1,h2⟩,h3⟩:=h.rx i R hR;refine⟨⟨us,dw h1 λg hg=>hb.block g (jb h hR hg),h2.mono hM⟩,λg hg=>?_⟩;obtain⟨h4,h5,h6,h7⟩:=h3 g hg;exact⟨h4,none _ (jb h hR hg) h5,h6,h7⟩
  fm:=h.fm
  gC:=h.gC
  ee:=h.ee
  kD:=λb hO=>by
   obtain⟨h1,h2,h3⟩:=h.kD b hO;exact⟨Nat.lt_of_lt_of_le h1 hb.size,none b h1 h2,h3⟩
  jj:=C.jf _ _ _ _ _ _ _ h.jj hM hw (λb o v e=>by
    rcases hn b o v e with e'|e'
    ·exact .inl e'
    exact .inr ⟨.inl (Nat.le_trans h.grown e'),λhO=>by have:=(h.kD b hO).1;omega⟩)
   (λb hh=>hb.block b (by
    rcases hh with hh|hh
    ·have:=h.grown;omega
    exact(h.kD b hh).1)) hb.os hb.tape hb.output hb.size}
theorem RT.ID(hg:Gd ops S gd rg){op:Op}(hnd:∀c,op≠ .defer c)(rs:List Nat){cells:List AV}(hd:d<S.n)(hb:S.b d=none)(hp:C.gC d=none)
  (hv:∀S':AS,(∀s∈rs,S'.t s=S.t s)->∀E a w,bn C S' E a w->∃vs:List Value,(execOp a.eval ⟨some d,op,ty,pos,aft,gd⟩).run P w=.ok (.value (.pointer (some ⟨w.heap.size,0,none⟩))) (w.alloc (.cells ⟨vs⟩ T))/\di E cells vs/\
   ∀x∈cells,(∀j,x.mb j->∃B,S'.b j=some B)/\(∀j,x.mr j->S'.r j≠ .un))
  (next:RunT P C ops nd K rest (⟨rg++rs,[d],[],⟨some (d,.ptr d 0),[(d,⟨T,cells⟩)],[]⟩⟩::acc) ((S.jv d ⟨T,cells⟩).set d (.ptr d 0))):RunT P C ops nd K (⟨some d,op,ty,pos,aft,gd⟩::rest) acc S:=by
 refine .inl ⟨rg++rs,[d],[],⟨some (d,.ptr d 0),[(d,⟨T,cells⟩)],[]⟩,?_,next⟩;rintro S' hn ht hb' _ i a w L Q ho ⟨E,h⟩ hL;refine cA (C:=C) ho (hg.wanted h (λs hs=>ht s (List.mem_append_left _ hs)) Y) ?_;obtain⟨vs,hr,hvs,hl⟩:=hv S' (λs hs=>ht s (List.mem_append_right _ hs)) E a w h;have hb0:S'.b d=none:=by rw[hb' d (by simp)];exact hb
 have h2:=h.SP (T:=T) hb0 hp hvs hl;exact ct (C:=C) hnd hr (hL _ _ ⟨_,h2.put (x:=.ptr d 0) (by simp[AV.holds]) (by show d<S'.n;omega) ⟨λj e=>(by cases e;exact⟨_,AS.cV _ _ _⟩),λ_ e=>e.elim⟩⟩)
theorem RT.box(hg:Gd ops S gd rg){cells:List SV}(hx:S.ev x=.sv (.agg cells))(hd:d<S.n)(hb:S.b d=none)(hp:C.gC d=none)
  (next:RunT P C ops nd K rest (⟨rg++aZ x,[d],[],⟨some (d,.ptr d 0),[(d,⟨T,cells.map AV.sv⟩)],[]⟩⟩::acc) ((S.jv d ⟨T,cells.map AV.sv⟩).set d (.ptr d 0))):RunT P C ops nd K (⟨some d,.box T x,ty,pos,aft,gd⟩::rest) acc S:=
 RT.ID hg (by intro c h;cases h) (aZ x) hd hb hp (λS' ht E a w h=>by
  have h1:=h.ev x;rw[bw (λ_ h=>h) ht,hx]at h1;obtain⟨vs,hv,hvs⟩:=h1;refine⟨vs,by simp[execOp,Instr.box,newVar,newRow,hv,Value.cells],di.wm hvs,λy hy=>?_⟩;obtain⟨s,_,rfl⟩:=List.mem_map.1 hy;exact ff) next
theorem RT.wB(hg:Gd ops S gd rg){s:AV}[o1:Lc s](hx:S.ev x=s)(hd:d<S.n)(hb:S.b d=none)(hp:C.gC d=none)
  (next:RunT P C ops nd K rest (⟨rg++aZ x,[d],[],⟨some (d,.ptr d 0),[(d,⟨T,[s]⟩)],[]⟩⟩::acc) ((S.jv d ⟨T,[s]⟩).set d (.ptr d 0))):RunT P C ops nd K (⟨some d,.box T x,ty,pos,aft,gd⟩::rest) acc S:=
 RT.ID hg (by intro c h;cases h) (aZ x) (cells:=[s]) hd hb hp (λS' ht E a w h=>by
  have hx':S'.ev x=s:=by rw[bw (λ_ h=>h) ht,hx]
  have h1:=h.ev x;rw[hx']at h1;refine⟨[a.eval x],by simp[execOp,Instr.box,newVar,newRow,iI (o1.h _ _ h1)],⟨h1,aq⟩,λy hy=>?_⟩;obtain rfl:y=s:=by simpa using hy
  exact kO h.wf hx') next
theorem Qy(E:Env):∀l:List Value,di E (l.map λv=>AV.sv (SV.v v)) l
 |[]=>trivial
 |_::l=>⟨Y,Qy E l⟩
theorem RT.alloc(hg:Gd ops S gd rg){zv:Value}[tz:gX P T zv](hd:d<S.n)(hb:S.b d=none)(hp:C.gC d=none)
  (next:RunT P C ops nd K rest (⟨rg++[],[d],[],⟨some (d,.ptr d 0),[(d,⟨T,zv.cells.toList.map λv=>AV.sv (SV.v v)⟩)],[]⟩⟩::acc) ((S.jv d ⟨T,zv.cells.toList.map λv=>AV.sv (SV.v v)⟩).set d (.ptr d 0))):RunT P C ops nd K (⟨some d,.alloc T,ty,pos,aft,gd⟩::rest) acc S:=
 RT.ID hg (by intro c h;cases h) [] hd hb hp (λS' _ E a w h=>⟨zv.cells.toList,by simp[execOp,Instr.alloc,newVar,newRow,tz.run],Qy E _,λy hy=>by
  obtain⟨s,_,rfl⟩:=List.mem_map.1 hy;exact ff⟩) next
theorem fP(b o n:Nat):(⟨b,o,none⟩:Addr).add n=⟨b,o+n,none⟩:=by
 unfold Addr.add;split
 ·subst_vars;rfl
 rfl
theorem rX{n:Nat}[zV P T n]{w:World}{b o:Nat}{vs:List Value}(hlen:vs.length=n)(hv:∀(j:Nat) (v:Value),vs[j]? =some v->w.cell? ⟨b,o+j,none⟩=some v):
  (loadVar T ⟨b,o,none⟩).run P w=.ok (.agg ⟨vs⟩) w:=by
 have h1:=run_loadCells_list (P:=P) (w:=w) ⟨b,o,none⟩ vs (λj v e=>by rw[fP];exact hv j v e);rw[hlen]at h1;simp[loadVar,zV.isAgg,zV.size (T:=T) (n:=n),h1]
inductive KN:List AV->Nat->List SV->Prop
 |nil {l:List AV} {off:Nat}:KN l off []
 |cons {l:List AV} {off:Nat} {s:SV} {cs:List SV} (h:l[off]? =some (.sv s)) (t:KN l (off+1) cs):KN l off (s::cs)
theorem KN.k2{l:List AV}{o:Nat}{a b:SV}(h1:l[o]? =some (.sv a))(h2:l[o+1]? =some (.sv b)):KN l o [a,b]:=.cons h1 (.cons h2 .nil)
theorem KN.k3{l:List AV}{o:Nat}{a b c:SV}(h1:l[o]? =some (.sv a))(h2:l[o+1]? =some (.sv b))(h3:l[o+1+1]? =some (.sv c)):KN l o [a,b,c]:=.cons h1 (.cons h2 (.cons h3 .nil))
theorem KN.k4{l:List AV}{o:Nat}{a b c d:SV}(h1:l[o]? =some (.sv a))(h2:l[o+1]? =some (.sv b))(h3:l[o+1+1]? =some (.sv c))(h4:l[o+1+1+1]? =some (.sv d)):KN l o [a,b,c,d]:=.cons h1 (.cons h2 (.cons h3 (.cons h4 .nil)))
theorem KN.vals{E:Env}{l:List AV}{vs:List Value}(h:di E l vs):∀{off:Nat} {cs:List SV},KN l off cs->∃us:List Value,SV.ef E.M cs us/\∀(j:Nat) (v:Value),us[j]? =some v->vs[off+j]? =some v:=by
 intro off cs hs
 induction hs with
 |nil=>exact⟨[],aq,by simp⟩
 | @cons off s cs h1 _ ih=>
  obtain⟨us,h2,h3⟩:=ih;obtain⟨x,hx,hs⟩:=h.get h1;refine⟨x::us,⟨hs,h2⟩,λj v hj=>?_⟩;cases j with
  |zero=>simp at hj;subst hj;exact hx
  |succ j=>rw[show off+(j+1)=off+1+j by omega];exact h3 j v (by simpa using hj)
theorem RT.load(hg:Gd ops S gd rg){n:Nat}[tA:zV P T n]{j off:Nat}{B:nX}{cs:List SV}(hx:S.ev x=.ptr j off)(hB:S.b j=some B)(hcs:KN B.cells off cs)(hn:cs.length=n)(hd:d<S.n)
  (next:RunT P C ops nd K rest (⟨rg++aZ x,[j],[],⟨some (d,.sv (.agg cs)),[],[]⟩⟩::acc) (S.set d (.sv (.agg cs)))):RunT P C ops nd K (⟨some d,.load T x,ty,pos,aft,gd⟩::rest) acc S:=
 RT.value hg (aZ x) [j] [] (.sv (.agg cs)) hd (by intro c h;cases h) (λS' ht hb _ E a w h=>by
  have h1:a.eval x=.pointer (some ⟨E.β j,off,none⟩):=by have h1:=h.ev x;rw[bw (λ_ h=>h) ht,hx]at h1;exact h1
  obtain⟨_,_,_,vs,hv,hall⟩:=h.bx j B (by rw[hb j (by simp)];exact hB);obtain⟨us,zW,kN⟩:=hcs.vals hall;have hl:=zW.length;refine⟨.agg ⟨us⟩,?_,⟨us,Y,zW⟩,ff⟩;have:=rX (P:=P) (T:=T) (n:=n) (w:=w) (b:=E.β j) (o:=off) (vs:=us) (by omega) (λi v e=>by
   simp[World.cell?,hv,kN i v e])
  simp[execOp,h1,Instr.loadAt,Instr.sureAddr,this]) next
theorem RT.fY(hg:Gd ops S gd rg)[tV:pV P T]{j off:Nat}{B:nX}{s:AV}(hx:S.ev x=.ptr j off)(hB:S.b j=some B)(hn:B.cells[off]? =some s)(hd:d<S.n)
  (next:RunT P C ops nd K rest (⟨rg++aZ x,[j],[],⟨some (d,s),[],[]⟩⟩::acc) (S.set d s)):RunT P C ops nd K (⟨some d,.load T x,ty,pos,aft,gd⟩::rest) acc S:=
 RT.value hg (aZ x) [j] [] s hd (by intro c h;cases h) (λS' ht hb _ E a w h=>by
  have h1:a.eval x=.pointer (some ⟨E.β j,off,none⟩):=by have h1:=h.ev x;rw[bw (λ_ h=>h) ht,hx]at h1;exact h1
  have fu:S'.b j=some B:=by rw[hb j (by simp)];exact hB
  obtain⟨_,_,_,vs,hv,hall⟩:=h.bx j B fu;obtain⟨u,hu,hs⟩:=hall.get hn;have hm:s∈B.cells:=List.mem_of_getElem? hn;refine⟨u,?_,hs,h.wf.bb j B fu s hm,h.wf.br j B fu s hm⟩;have hc:w.cell? ⟨E.β j,off,none⟩=some u:=by simp[World.cell?,hv,hu]
  simp[execOp,h1,Instr.loadAt,Instr.sureAddr,loadVar,tV.isAgg,hc]) next
theorem EY{M:Mem}{b:Nat}:∀(l:List SV) (o:Nat),(∀(k:Nat) (s:SV),l[k]? =some s->∃y,M b (o+k)=some y/\y.oneCell'=true/\s.h M y)->∃vs:List Value,SV.ef M l vs/\∀(k:Nat) (v:Value),vs[k]? =some v->M b (o+k)=some v/\v.oneCell'=true
 |[],_,_=>⟨[],aq,by simp⟩
 |s::l,o,hl=>by
  obtain⟨y,hy,Wu,hs⟩:=hl 0 s Y;obtain⟨vs,h1,h2⟩:=EY (M:=M) (b:=b) l (o+1) (λk s hk=>by
   have:=hl (k+1) s (by simpa using hk);rwa[show o+(k+1)=o+1+k by omega]at this)
  refine⟨y::vs,⟨hs,h1⟩,λk v hk=>?_⟩;cases k with
  |zero=>simp at hk;subst hk;exact⟨hy,Wu⟩
  |succ k=>rw[show o+(k+1)=o+1+k by omega];exact h2 k v (by simpa using hk)
theorem RT.iC(hg:Gd ops S gd rg){n:Nat}[tA:zV P T n]{cells:List SV}(hx:S.ev x=.sv (ref cells))(hd:d<S.n){cs:List SV}(hcs:cells.take n=cs)(hn:cs.length=n)
  (next:RunT P C ops nd K rest (⟨rg++aZ x,[],[],⟨some (d,.sv (.agg cs)),[],[]⟩⟩::acc) (S.set d (.sv (.agg cs)))):RunT P C ops nd K (⟨some d,.load T x,ty,pos,aft,gd⟩::rest) acc S:=
 RT.value hg (aZ x) [] [] (.sv (.agg cs)) hd (by intro c h;cases h) (λS' ht _ _ E a w h=>by
  have h1:=h.ev x;rw[bw (λ_ h=>h) ht,hx]at h1;obtain⟨b,o,e,hc⟩:=h1;obtain⟨vs,hall,kN⟩:=EY (M:=E.M) (b:=b) cs o (λk s hk=>by
   refine hc k s ?_;rw[<-hcs,List.getElem?_take]at hk;split at hk
   ·exact hk
   cases hk)
  refine⟨.agg ⟨vs⟩,?_,⟨vs,Y,hall⟩,ff⟩;have hl:=hall.length;have:=rX (P:=P) (T:=T) (n:=n) (w:=w) (b:=b) (o:=o) (vs:=vs) (by omega) (λi v e=>(h.dh _ _ _ (kN i v e).1).cell (kN i v e).2);simp[execOp,e,Instr.loadAt,Instr.sureAddr,this]) next
theorem RT.dr(hg:Gd ops S gd rg)[tV:pV P T]{cells:List SV}{s:SV}(hx:S.ev x=.sv (ref cells))(hn:cells[0]? =some s)(hd:d<S.n)
  (next:RunT P C ops nd K rest (⟨rg++aZ x,[],[],⟨some (d,.sv s),[],[]⟩⟩::acc) (S.set d (.sv s))):RunT P C ops nd K (⟨some d,.load T x,ty,pos,aft,gd⟩::rest) acc S:=
 RT.value hg (aZ x) [] [] (.sv s) hd (by intro c h;cases h) (λS' ht hb _ E a w h=>by
  have h1:=h.ev x;rw[bw (λ_ h=>h) ht,hx]at h1;obtain⟨b,o,e,hc⟩:=h1;obtain⟨u,hu,VT,hs⟩:=hc 0 s hn;refine⟨u,?_,hs,ff⟩;have SQ:w.cell? ⟨b,o,none⟩=some u:=(h.dh _ _ _ hu).cell VT;simp[execOp,e,Instr.loadAt,Instr.sureAddr,loadVar,tV.isAgg,SQ]) next
end steps
end
section
open Go.RowKit
def lO{α:Type}:List α->Nat->List α->List α
 |l,_,[]=>l
 |l,k,x::xs=>lO (l.set k x) (k+1) xs
theorem vg{α:Type}:∀(xs l:List α) (k:Nat),(lO l k xs).length=l.length
 |[],_,_=>rfl
 |x::xs,l,k=>by rw[lO,vg xs];simp
theorem IE{E:Env}:∀{xs:List AV} {us:List Value} {l:List AV} {vs:List Value} {k:Nat},di E l vs->di E xs us->di E (lO l k xs) (lO vs k us)
 |[],[],_,_,_,h,_=>h
 |s::xs,u::us,l,vs,k,h,hx=>by rw[lO,lO];exact IE (h.set hx.1) hx.2
 |[],_::_,_,_,_,_,h=>h.elim
 |_::_,[],_,_,_,_,h=>h.elim
theorem CW{α:Type}:∀(xs pre l:List α),l.length=xs.length->lO (pre++l) pre.length xs=pre++xs
 |[],pre,l,h=>by simp at h;subst h;rfl
 |x::xs,pre,[],h=>by simp at h
 |x::xs,pre,y::l,h=>by
  rw[lO];have:(pre++y::l).set pre.length x=(pre++[x])++l:=by simp
  rw[this,show pre.length+1=(pre++[x]).length by simp,CW xs (pre++[x]) l (by simpa using h)];simp
def fD(w:World)(b:Nat)(vs:List Value)(T:TypeId):World:={w with heap:=w.heap.setIfInBounds b (.cells ⟨vs⟩ T (0,0))}
theorem EZ{w:World}{b o:Nat}{vs:List Value}{T:TypeId}(hv:w.heap[b]? =some (.cells ⟨vs⟩ T (0,0)))(u:Value):w.setCell ⟨b,o,none⟩ u=fD w b (vs.set o u) T:=by
 have hb:=(Array.getElem?_eq_some_iff.1 hv);unfold World.setCell fD;congr 1;apply Array.ext_getElem?;intro i;rw[Array.getElem?_modify,Array.getElem?_setIfInBounds];by_cases h:b=i
 ·subst h;rw[if_pos Y,if_pos Y,if_pos hb.1,hv];simp
 rw[if_neg h,if_neg h]
theorem xM{w:World}{b:Nat}{vs us:List Value}{T:TypeId}(hv:w.heap[b]? =some (.cells ⟨vs⟩ T (0,0))):(fD w b us T).heap[b]? =some (.cells ⟨us⟩ T (0,0)):=by
 have hb:=(Array.getElem?_eq_some_iff.1 hv);simp[fD,hb.1]
theorem Ho{w:World}{b:Nat}{us vs:List Value}{T:TypeId}:fD (fD w b us T) b vs T=fD w b vs T:=by
 simp[fD]
theorem E4{w:World}{b:Nat}{vs:List Value}{T:TypeId}(hv:w.heap[b]? =some (.cells ⟨vs⟩ T (0,0))):fD w b vs T=w:=by
 have hb:=(Array.getElem?_eq_some_iff.1 hv);unfold fD;have:w.heap.setIfInBounds b (.cells ⟨vs⟩ T (0,0))=w.heap:=by
  apply Array.ext_getElem?;intro i;rw[Array.getElem?_setIfInBounds];by_cases h:b=i
  ·subst h;rw[if_pos Y,if_pos hb.1,hv]
  rw[if_neg h]
 rw[this]
theorem iw{w:World}{b k:Nat}{us:List Value}{T:TypeId}(h:k≠b):(fD w b us T).heap[k]? =w.heap[k]? :=by
 simp only[fD,Array.getElem?_setIfInBounds];rw[if_neg (Ne.symm h)]
theorem oY{w:World}{b:Nat}{us:List Value}{T:TypeId}:(fD w b us T).heap.size=w.heap.size:=by simp[fD]
theorem jU{P:Program}{b:Nat}{T:TypeId}:∀(us:List Value) (i o:Nat) (w:World) (vs:List Value),(∀u∈us,u.oneCell'=true)->w.heap[b]? =some (.cells ⟨vs⟩ T (0,0))->o+i+us.length<=vs.length->
  (storeCells ⟨b,o,none⟩ us i).run P w=.ok () (fD w b (lO vs (o+i) us) T)
 |[],i,o,w,vs,_,hv,_=>by
  rw[lO,E4 hv];rfl
 |u::us,i,o,w,vs,h1,hv,hl=>by
  have hu:=h1 u (by simp);have hc:w.cell? ⟨b,o+i,none⟩=some (vs[o+i]'(by simp at hl;omega)):=by
   simp[World.cell?,hv]
  have hf:w.frozen? ⟨b,o+i,none⟩=false:=by simp[World.frozen?,hv]
  have hs:=run_store P w ⟨b,o+i,none⟩ u .plain hu;rw[hc,hf]at hs;have ih:=jU (P:=P) us (i+1) o (fD w b (vs.set (o+i) u) T) (vs.set (o+i) u) (λv hv=>h1 v (List.mem_cons_of_mem _ hv)) (xM hv) (by simp at hl⊢;omega);rw[storeCells,lO];simp only[Sem.run_bind,fP,hs];simp only[Bool.false_eq_true,if_false,Result.andThen_ok];rw[EZ hv,ih,Ho];rfl
section steps
variable {P:Program}{C:Ctx}{ops:Array Oper}{S:AS}{nd:Bool}{K:List Ac->AS->Prop}{rest:List Oper}{acc:List Ac}
variable {gd:Option (Nat×Bool)}{rg:List Nat}{d:Nat}{ty:TypeId}{pos:String}{aft:Array Edge}{x y z:Operand}{T U E0:TypeId}
theorem bn.Ld{E:Env}{a:Act}{w:World}(h:bn C S E a w){j:Nat}{B:nX}(hB:S.b j=some B){cells:List AV}{vs:List Value}(hc:di E cells vs)(hl:∀x∈cells,(∀j,x.mb j->∃B,S.b j=some B)/\(∀j,x.mr j->S.r j≠ .un)):
  bn C (S.jv j ⟨B.T,cells⟩) E a (fD w (E.β j) vs B.T):=by
 have VU:=h.bx j B hB;have rW:∀k,(∃B,S.b k=some B)->∃B',(S.jv j ⟨B.T,cells⟩).b k=some B':=λk hk=>by
  by_cases e:k=j
  ·subst e;exact⟨_,AS.cV _ _ _⟩
  obtain⟨B',fu⟩:=hk;exact⟨B',by rw[AS.bR _ _ _ _ e];exact fu⟩
 have Le:E.M.dh (fD w (E.β j) vs B.T):=eA h.dh λb ⟨o,v,e⟩=>iw (by
  rintro rfl;rw[VU.2.1 o]at e;cases e)
 exact{
  wf:=by
   refine⟨λs k hk=>rW k (h.wf.tb s k hk),h.wf.tr,λi B' fu x hx k hk=>?_,λi B' fu x hx k hk=>?_⟩
   ·by_cases hi:i=j
    ·subst hi;rw[AS.cV]at fu;cases fu;exact rW k ((hl x hx).1 k hk)
    rw[AS.bR _ _ _ _ hi]at fu;exact rW k (h.wf.bb i B' fu x hx k hk)
   by_cases hi:i=j
   ·subst hi;rw[AS.cV]at fu;cases fu;exact(hl x hx).2 k hk
   rw[AS.bR _ _ _ _ hi]at fu;exact h.wf.br i B' fu x hx k hk
  marks:=by
   obtain⟨ds,h1,h2,h3⟩:=h.marks;refine⟨ds,h1,h2,λr hr=>?_⟩;obtain⟨h4,h5,h6⟩:=h3 r hr;refine⟨h4,h5,?_⟩;rw[iw (by rintro rfl;obtain⟨_,_,_,us,hu,_⟩:=VU;rw[h6]at hu;cases hu)];exact h6
  size:=h.size
  os:=h.os
  tape:=h.tape
  output:=h.output
  grown:=by rw[oY];exact h.grown
  frame:=λk hk hk'=>by
   have hne:k≠E.β j:=by
    rintro rfl;rcases VU.1 with h1|h1
    ·omega
    exact hk' (C.Cf _ h1)
   rw[iw hne];exact h.frame k hk hk'
  m0:=h.m0
  eG:=h.eG
  dh:=Le
  tm:=h.tm
  bx:=λi B' fu=>by
   by_cases hi:i=j
   ·subst hi;rw[AS.cV]at fu;cases fu;obtain⟨h1,h2,h3,vs',h4,_⟩:=VU;exact⟨h1,h2,h3,vs,xM h4,hc⟩
   rw[AS.bR _ _ _ _ hi]at fu;obtain⟨h1,h2,h3,vs',h4,h5⟩:=h.bx i B' fu;exact⟨h1,h2,h3,vs',by rw[iw (λe=>hi (h.inj i j B' B fu hB e))];exact h4,h5⟩
  inj:=λi k B1 B2 h1 h2 e=>by
   have f:∀i B1,(S.jv j ⟨B.T,cells⟩).b i=some B1->∃B2,S.b i=some B2:=by
    intro i B1 h;by_cases hi:i=j
    ·subst hi;exact⟨B,hB⟩
    rw[AS.bR _ _ _ _ hi]at h;exact⟨_,h⟩
   obtain⟨_,g1⟩:=f i B1 h1;obtain⟨_,g2⟩:=f k B2 h2;exact h.inj i k _ _ g1 g2 e
  rx:=λi R hR=>by
   obtain⟨⟨us,h1,h2⟩,h3⟩:=h.rx i R hR;refine⟨⟨us,dw h1 λg hg=>iw (λe=>(h3 g hg).2.2.2 j B hB e.symm),h2⟩,λg hg=>?_⟩;obtain⟨h4,h5,h6,h7⟩:=h3 g hg;refine⟨h4,h5,h6,λk B' fu=>?_⟩;by_cases hk:k=j
   ·subst hk;exact h7 k B hB
   rw[AS.bR _ _ _ _ hk]at fu;exact h7 k B' fu
  fm:=h.fm
  gC:=h.gC
  ee:=h.ee
  kD:=λb hb=>by rw[oY];exact h.kD b hb
  jj:=C.jf _ _ _ _ _ _ _ h.jj (Mem.le_refl _) Le (λ_ _ _ e=>.inl e)
   (λb hb=>iw (by
    rintro rfl;rcases hb with hb|hb
    ·rcases VU.1 with h1|h1
     ·omega
     exact hb.2 h1
    exact VU.2.2.1 hb)) Y Y Y (by rw[oY];exact Nat.le_refl _)}
theorem RT.Hp(hg:Gd ops S gd rg){n:Nat}{j off:Nat}{B:nX}{cs:List AV}(rr:List Nat)(hx:S.ev x=.ptr j off)(hB:S.b j=some B)(hy:∀(S':AS) (E:Env) (a:Act) (w:World),bn C S' E a w->S'.ev y=S.ev y->(∀i∈rr,S'.r i=S.r i)->∃us:List Value,(a.eval y).cells=⟨us⟩/\di E cs us/\(∀u∈us,u.oneCell'=true)/\∀x∈cs,(∀j,x.mb j->∃B,S'.b j=some B)/\(∀j,x.mr j->S'.r j≠ .un))
  (hs:∀w:World,(sizeOf T).run P w=.ok n w) (uG:cs.length=n) (hn:off+n<=B.cells.length) {cells:List AV} (hcs:lO B.cells off cs=cells)
  (next:RunT P C ops nd K rest (⟨rg++(aZ x++aZ y),[j],rr,⟨none,[(j,⟨B.T,cells⟩)],[]⟩⟩::acc) (S.jv j ⟨B.T,cells⟩)):RunT P C ops nd K (⟨none,.store T x y,ty,pos,aft,gd⟩::rest) acc S:=by
 refine .inl ⟨_,[j],rr,_,?_,next⟩;rintro S' hn' ht hb' Lf i a w L Q ho ⟨E,h⟩ hL;refine cA (C:=C) ho (hg.wanted h (λs hs=>ht s (List.mem_append_left _ hs)) Y) ?_;have h1:a.eval x=.pointer (some ⟨E.β j,off,none⟩):=by
  have h1:=h.ev x;rw[bw (λ_ h=>List.mem_append_right _ (List.mem_append_left _ h)) ht,hx]at h1;exact h1
 obtain⟨us,hu,hall,hone,hlv⟩:=hy S' E a w h (bw (λ_ h=>List.mem_append_right _ (List.mem_append_right _ h)) ht) Lf;have fu:S'.b j=some B:=by rw[hb' j (by simp)];exact hB
 obtain⟨_,_,_,vs,hv,hvs⟩:=h.bx j B fu;have SR:=hall.length;have Zv:=hvs.length;have hst:=jU (P:=P) us 0 off w vs hone hv (by omega);have hr:(execOp a.eval ⟨none,.store T x y,ty,pos,aft,gd⟩).run P w=.ok .skip (fD w (E.β j) (lO vs off us) B.T):=by
  simp only[execOp,h1,Instr.storeAt,Instr.sureAddr,storeVar,hu];simp only[Sem.run_bind,Sem.run_pure,Result.andThen_ok,hs];simp only[show ¬(us.length≠n)from by omega,List.size_toArray,if_false];simp only[Nat.add_zero]at hst;simp only[Result.andThen_ok,hst]
 refine ct (C:=C) (by intro c h;cases h) hr (hL _ _ ⟨E,hcs▸h.Ld fu (IE hvs hall) ?_⟩);have DC:∀(xs l:List AV) (k:Nat) (x:AV),x∈lO l k xs->x∈l\/x∈xs:=by
  intro xs
  induction xs with
  |nil=>intro l k x hx;exact .inl hx
  |cons z xs ih=>
   intro l k x hx;rw[lO]at hx;rcases ih _ _ _ hx with h1|h1
   ·rcases List.mem_or_eq_of_mem_set h1 with h2|h2
    ·exact .inl h2
    exact .inr (by simp[h2])
   exact .inr (List.mem_cons_of_mem _ h1)
 intro x hx;rcases DC _ _ _ _ hx with hx|hx
 ·exact⟨h.wf.bb j B fu x hx,h.wf.br j B fu x hx⟩
 exact hlv x hx
theorem mJ{S:AS}{cs:List SV}:∀x∈cs.map AV.sv,(∀j,x.mb j->∃B,S.b j=some B)/\(∀j,x.mr j->S.r j≠ .un):=λx hx=>by
 obtain⟨s,_,rfl⟩:=List.mem_map.1 hx;exact ff
theorem RT.store(hg:Gd ops S gd rg){n:Nat}[tA:zV P T n]{j:Nat}{B:nX}{cs:List SV}[o1:qG cs](hx:S.ev x=.ptr j 0)(hB:S.b j=some B)(hy:S.ev y=.sv (.agg cs))(uG:cs.length=n)(hn:B.cells.length=n)
  (next:RunT P C ops nd K rest (⟨rg++(aZ x++aZ y),[j],[],⟨none,[(j,⟨B.T,cs.map AV.sv⟩)],[]⟩⟩::acc) (S.jv j ⟨B.T,cs.map AV.sv⟩)):RunT P C ops nd K (⟨none,.store T x y,ty,pos,aft,gd⟩::rest) acc S:=by
 refine RT.Hp hg [] hx hB (cs:=cs.map AV.sv) ?_ (λw=>tA.size w) (by simp[uG]) (by omega) (cells:=cs.map AV.sv) ?_ next
 ·intro S' E a w h e _;have h2:=h.ev y;rw[e,hy]at h2;obtain⟨us,hu,hall⟩:=h2;exact⟨us,by rw[hu];rfl,di.wm hall,o1.h E.M us hall,mJ⟩
 exact CW (cs.map AV.sv) [] B.cells (by simp;omega)
theorem RT.qJ(hg:Gd ops S gd rg)[tV:pV P T]{j off:Nat}{B:nX}{s:AV}[o1:Lc s](hx:S.ev x=.ptr j off)(hB:S.b j=some B)(hy:S.ev y=s)(hn:off<B.cells.length){cells:List AV}(hcs:B.cells.set off s=cells)
  (next:RunT P C ops nd K rest (⟨rg++(aZ x++aZ y),[j],[],⟨none,[(j,⟨B.T,cells⟩)],[]⟩⟩::acc) (S.jv j ⟨B.T,cells⟩)):RunT P C ops nd K (⟨none,.store T x y,ty,pos,aft,gd⟩::rest) acc S:=by
 refine RT.Hp hg [] hx hB (cs:=[s]) ?_ (λw=>tV.size w) Y hn (cells:=cells) (by rw[<-hcs];rfl) next
 intro S' E a w h e _;have h2:=h.ev y;rw[e,hy]at h2;have:=o1.h _ _ h2;refine⟨[a.eval y],iI this,⟨h2,aq⟩,by simpa using this,λz hz=>?_⟩;obtain rfl:z=s:=by simpa using hz
 exact kO h.wf (e.trans hy)
theorem RT.lY(hg:Gd ops S gd rg)[tV:pV P T]{j off i:Nat}{B:nX}{R:Row}(hx:S.ev x=.ptr j off)(hB:S.b j=some B)(hy:S.ev y=.row i)(hR:S.r i=.live R)(hn:off<B.cells.length){cells:List AV}(hcs:B.cells.set off (.row i)=cells)
  (next:RunT P C ops nd K rest (⟨rg++(aZ x++aZ y),[j],[i],⟨none,[(j,⟨B.T,cells⟩)],[]⟩⟩::acc) (S.jv j ⟨B.T,cells⟩)):RunT P C ops nd K (⟨none,.store T x y,ty,pos,aft,gd⟩::rest) acc S:=by
 refine RT.Hp hg [i] hx hB (cs:=[.row i]) ?_ (λw=>tV.size w) Y hn (cells:=cells) (by rw[<-hcs];rfl) next
 intro S' E a w h e hr;have h2:=h.ev y;rw[e,hy]at h2;obtain⟨⟨us,ho,_⟩,_⟩:=h.rx i R (by rw[hr i (by simp)];exact hR);have hone:(a.eval y).oneCell'=true:=by
  rw[show a.eval y=E.ν i from h2];rcases ho.2 with⟨h3,_⟩|⟨g,cap,cur,h3,_⟩<;>rw[h3]<;>rfl
 refine⟨[a.eval y],iI hone,⟨h2,aq⟩,by simpa using hone,λz hz=>?_⟩;obtain rfl:z=.row i:=by simpa using hz
 exact kO h.wf (e.trans hy)
theorem yP{f off:Nat}[hf:xH P T f off U](hU:∀w:World,∃n,(sizeOf U).run P w=.ok (n+1) w)(b o:Nat)(w:World):(Instr.fieldAt T (.pointer (some ⟨b,o,none⟩)) f).run P w=.ok (.pointer (some ⟨b,o+off,none⟩)) w:=by
 have h:=hf.h;cases hu:P.underlying T with
 |none=>rw[hu]at h;cases h
 |some u=>
  rw[hu]at h;cases u with
  |struct fs=>
   simp only at h;cases hF:fs[f]? with
   |none=>rw[hF]at h;cases h
   |some F=>
    rw[hF]at h;simp only[Option.map_some,Option.some.injEq,Prod.mk.injEq]at h;obtain⟨h1,h2⟩:=h;obtain⟨n,hn⟩:=hU w;rw[<-h2]at hn;simp[Instr.fieldAt,underlying,hu,hF,Instr.sureAddr,fieldPlace,hn,fP,h1]
  |_=>cases h
class E5 (P:Program) (U:TypeId):Prop where
 h:∀w:World,∃n,(sizeOf U).run P w=.ok (n+1) w
instance[t:pV P U]:E5 P U:=⟨λw=>⟨0,t.size w⟩⟩
theorem RT.fieldAddr(hg:Gd ops S gd rg){f off:Nat}[hf:xH P T f off U][sU:E5 P U]{j o:Nat}(hx:S.ev x=.ptr j o)(hd:d<S.n){o':Nat}(ho':o+off=o')
  (next:RunT P C ops nd K rest (⟨rg++aZ x,[],[],⟨some (d,.ptr j o'),[],[]⟩⟩::acc) (S.set d (.ptr j o'))):RunT P C ops nd K (⟨some d,.fieldAddr T x f,ty,pos,aft,gd⟩::rest) acc S:=
 RT.value hg (aZ x) [] [] (.ptr j o') hd (by intro c h;cases h) (λS' ht _ _ E a w h=>by
  have hx':S'.ev x=.ptr j o:=by rw[bw (λ_ h=>h) ht,hx]
  have h1:a.eval x=.pointer (some ⟨E.β j,o,none⟩):=by have h1:=h.ev x;rw[hx']at h1;exact h1
  have:=yP (P:=P) (T:=T) (f:=f) (off:=off) (U:=U) sU.h (E.β j) o w;refine⟨.pointer (some ⟨E.β j,o',none⟩),by simp[execOp,h1,this,ho'],Y,?_⟩;have hl:=kO h.wf hx';exact⟨λk hk=>hl.1 k hk,λk hk=>hk.elim⟩) next
theorem Lg{cells:List SV}{off:Nat}{M:Mem}{b o:Nat}(h:∀(k:Nat) (s:SV),cells[k]? =some s->∃y,M b (o+k)=some y/\y.oneCell'=true/\s.h M y):(ref (cells.drop off)).h M (.pointer (some ⟨b,o+off,none⟩)):=
 ⟨b,o+off,Y,λk s hk=>by
  rw[List.getElem?_drop]at hk;have:=h (off+k) s hk;rwa[show o+(off+k)=o+off+k by omega]at this⟩
theorem RT.bO(hg:Gd ops S gd rg){f off:Nat}[hf:xH P T f off U][sU:E5 P U]{cells cs:List SV}(hx:S.ev x=.sv (ref cells))(hd:d<S.n)(hcs:cells.drop off=cs)
  (next:RunT P C ops nd K rest (⟨rg++aZ x,[],[],⟨some (d,.sv (ref cs)),[],[]⟩⟩::acc) (S.set d (.sv (ref cs)))):RunT P C ops nd K (⟨some d,.fieldAddr T x f,ty,pos,aft,gd⟩::rest) acc S:=
 RT.value hg (aZ x) [] [] (.sv (ref cs)) hd (by intro c h;cases h) (λS' ht _ _ E a w h=>by
  have h1:=h.ev x;rw[bw (λ_ h=>h) ht,hx]at h1;obtain⟨b,o,e,hc⟩:=h1;have:=yP (P:=P) (T:=T) (f:=f) (off:=off) (U:=U) sU.h b o w;exact⟨_,by simp[execOp,e,this],hcs▸Lg hc,ff⟩) next
theorem RT.indexAddr(hg:Gd ops S gd rg){n:Nat}[tS:eM P T E0 n]{s:SV}{rows:List (List SV)}[hs:ON s n rows]{kk:IntKind}{i:Int}(row:List SV)(hx:S.ev x=.sv s)(hy:S.ev y=.sv (.v (.int kk i)))(hd:d<S.n)(h0:0<=i)(hi:rows[i.toNat]? =some row)
  (next:RunT P C ops nd K rest (⟨rg++(aZ x++aZ y),[],[],⟨some (d,.sv (ref row)),[],[]⟩⟩::acc) (S.set d (.sv (ref row)))):RunT P C ops nd K (⟨some d,.indexAddr T x y,ty,pos,aft,gd⟩::rest) acc S:=
 RT.value hg (aZ x++aZ y) [] [] (.sv (ref row)) hd (by intro c h;cases h) (λS' ht _ _ E a w h=>by
  have h1:=h.ev x;rw[bw (λ_ h=>List.mem_append_left _ h) ht,hx]at h1;have h2:a.eval y=.int kk i:=by have h2:=h.ev y;rw[bw (λ_ h=>List.mem_append_right _ h) ht,hy]at h2;exact h2
  have hlt:i.toNat<rows.length:=(List.getElem?_eq_some_iff.1 hi).1;rcases hs.h _ _ h1 with⟨_,_,e⟩|⟨b,o,c,e,hc,E6,hr⟩
  ·subst e;simp at hlt
  refine⟨.pointer (some ⟨b,o+i.toNat*n,none⟩),?_,⟨b,_,Y,λk s hk=>?_⟩,ff⟩
  ·have hsz:=tS.size w;have hb:0<=i/\i<(rows.length:Int):=⟨h0,by omega⟩;simp[execOp,h2,e,Instr.indexAt,asIntOf,underlying,tS.u,hsz,fP,hb]
  obtain⟨y,h3,h5,h4⟩:=(hr i.toNat row hi).2 k s hk;exact⟨y,h3,h5,h4⟩) next
theorem RT.len(hg:Gd ops S gd rg){n m:Nat}[tS:eM P T E0 m]{s:SV}[hl:Zu s n](hx:S.ev x=.sv s)(hd:d<S.n)
  (next:RunT P C ops nd K rest (⟨rg++aZ x,[],[],⟨some (d,.sv (.v (.int .i64 n))),[],[]⟩⟩::acc) (S.set d (.sv (.v (.int .i64 n))))):RunT P C ops nd K (⟨some d,.call ⟨.builtin .len,#[x],#[T]⟩,ty,pos,aft,gd⟩::rest) acc S:=
 RT.value hg (aZ x) [] [] (.sv (.v (.int .i64 n))) hd (by intro c h;cases h) (λS' ht _ _ E a w h=>by
  have h1:=h.ev x;rw[bw (λ_ h=>h) ht,hx]at h1;obtain⟨b,c,e⟩:=hl.h _ _ h1;exact⟨_,by simp[execOp,resolve,invoke,builtin,Builtin.len_,underlying,tS.u,e,goInt],Y,ff⟩) next
theorem RT.aal(hg:Gd ops S gd rg){m:Nat}[tS:eM P T E0 m]{i:Nat}{R:Row}(hx:S.ev x=.row i)(hR:S.r i=.live R)(hd:d<S.n)
  (next:RunT P C ops nd K rest (⟨rg++aZ x,[],[i],⟨some (d,.sv (.v (.int .i64 R.n))),[],[]⟩⟩::acc) (S.set d (.sv (.v (.int .i64 R.n))))):RunT P C ops nd K (⟨some d,.call ⟨.builtin .len,#[x],#[T]⟩,ty,pos,aft,gd⟩::rest) acc S:=
 RT.value hg (aZ x) [] [i] (.sv (.v (.int .i64 R.n))) hd (by intro c h;cases h) (λS' ht _ hr E a w h=>by
  have h1:a.eval x=E.ν i:=by have h1:=h.ev x;rw[bw (λ_ h=>h) ht,hx]at h1;exact h1
  obtain⟨⟨us,ho,_⟩,_⟩:=h.rx i R (by rw[hr i (by simp)];exact hR);obtain⟨b,c,e⟩:∃b c,E.ν i=.slice b R.n c:=by
   rcases ho.2 with⟨h3,h4⟩|⟨g,cap,cur,h3,_⟩
   ·exact⟨none,0,by rw[h3,h4]⟩
   exact⟨_,_,h3⟩
  rw[e]at h1;exact⟨_,by simp[execOp,resolve,invoke,builtin,Builtin.len_,underlying,tS.u,h1,goInt],Y,ff⟩) next
theorem RT.max(hg:Gd ops S gd rg){k k':IntKind}{p q:Int}{at_:Array TypeId}(c:Int)(hx:S.ev x=.sv (.v (.int k p)))(hy:S.ev y=.sv (.v (.int k' q)))(hd:d<S.n)(hc:(if q>p then q else p)=c)
  (next:RunT P C ops nd K rest (⟨rg++(aZ x++aZ y),[],[],⟨some (d,.sv (.v (.int k c))),[],[]⟩⟩::acc) (S.set d (.sv (.v (.int k c))))):RunT P C ops nd K (⟨some d,.call ⟨.builtin .max,#[x,y],at_⟩,ty,pos,aft,gd⟩::rest) acc S:=
 RT.Hl hg (by intro c h;cases h) hx hy hd (λρ w h1 h2=>by simp[execOp,resolve,invoke,builtin,Builtin.max_,Builtin.max2,h1,h2,<-hc]) next
theorem RT.min(hg:Gd ops S gd rg){k k':IntKind}{p q:Int}{at_:Array TypeId}(c:Int)(hx:S.ev x=.sv (.v (.int k p)))(hy:S.ev y=.sv (.v (.int k' q)))(hd:d<S.n)(hc:(if q<p then q else p)=c)
  (next:RunT P C ops nd K rest (⟨rg++(aZ x++aZ y),[],[],⟨some (d,.sv (.v (.int k c))),[],[]⟩⟩::acc) (S.set d (.sv (.v (.int k c))))):RunT P C ops nd K (⟨some d,.call ⟨.builtin .min,#[x,y],at_⟩,ty,pos,aft,gd⟩::rest) acc S:=
 RT.Hl hg (by intro c h;cases h) hx hy hd (λρ w h1 h2=>by simp[execOp,resolve,invoke,builtin,Builtin.min_,Builtin.min2,h1,h2,<-hc]) next
def ga(S:AS):List Operand->List SV->Prop
 |[],[]=>True
 |x::xs,s::ss=>S.ev x=.sv s/\ga S xs ss
 |_,_=>False
theorem ga.vals{E:Env}{a:Act}{w:World}{S':AS}(h:bn C S' E a w):∀{xs:List Operand} {ss:List SV},ga S xs ss->(∀s∈xs.flatMap aZ,S'.t s=S.t s)->SV.ef E.M ss (xs.map a.eval)
 |[],[],_,_=>trivial
 |x::xs,s::ss,hs,ht=>by
  have h1:=h.ev x;rw[bw (λt h=>List.mem_flatMap.2 ⟨x,by simp,h⟩) ht,hs.1]at h1;refine⟨h1,ga.vals (xs:=xs) (ss:=ss) h hs.2 (λt h=>ht t ?_)⟩;rw[List.flatMap_cons];exact List.mem_append_right _ h
 |[],_::_,h,_=>h.elim
 |_::_,[],h,_=>h.elim
theorem RT.call(hg:Gd ops S gd rg){f:FuncId}[dz P f]{g:Operand}{xs:Array Operand}{at_:Array TypeId}{args:List SV}{r:SV}(hp:Pure P f args r)(hf:S.ev g=.sv (.v (.func (.func f) #[] #[])))(hargs:ga S xs.toList args)(hd:d<S.n)
  (next:RunT P C ops nd K rest (⟨rg++(aZ g++xs.toList.flatMap aZ),[],[],⟨some (d,.sv r),[],[]⟩⟩::acc) (S.set d (.sv r))):RunT P C ops nd K (⟨some d,.call ⟨.value g,xs,at_⟩,ty,pos,aft,gd⟩::rest) acc S:=by
 refine .inl ⟨_,[],[],_,?_,next⟩;rintro S' hn ht _ _ i a w L Q ho ⟨E,h⟩ hL;refine cA (C:=C) ho (hg.wanted h (λs hs=>ht s (List.mem_append_left _ hs)) Y) ?_;have rY:a.eval g=.func (.func f) #[] #[]:=by
  have h1:=h.ev g;rw[bw (λ_ h=>List.mem_append_right _ (List.mem_append_left _ h)) ht,hf]at h1;exact h1
 have hall:=ga.vals h hargs (λs hs=>ht s (List.mem_append_right _ (List.mem_append_right _ hs)));have hr:(execOp a.eval ⟨some d,.call ⟨.value g,xs,at_⟩,ty,pos,aft,gd⟩).run P w=.ok (.enter f ⟨xs.toList.map a.eval⟩) w:=by
  have e2:xs.map a.eval=⟨xs.toList.map a.eval⟩:=by apply Array.ext';simp
  have e1:=dz.run (P:=P) (f:=f) (xs.map a.eval) w;rw[<-e2];simp[execOp,resolve,rY,Deferred.ofValue,invoke,e1]
 refine ct (C:=C) (by intro c h;cases h) hr ?_;refine⟨λh=>by simp at h,gi ((hp E.M w _ h.dh hall).mono ?_)⟩;rintro e w' ⟨v,M',rfl,hM,hnew,hin,hv,hb⟩;exact hL _ _ ⟨_,(h.grow hM hnew hin hb).put (x:=.sv r) hv (by show d<S'.n;omega) ff⟩
theorem RT.extract(hg:Gd ops S gd rg){i:Nat}{ss:List SV}{s:SV}(hx:S.ev x=.sv (.yM ss))(hi:ss[i]? =some s)(hd:d<S.n)
  (next:RunT P C ops nd K rest (⟨rg++aZ x,[],[],⟨some (d,.sv s),[],[]⟩⟩::acc) (S.set d (.sv s))):RunT P C ops nd K (⟨some d,.extract x i,ty,pos,aft,gd⟩::rest) acc S:=
 RT.value hg (aZ x) [] [] (.sv s) hd (by intro c h;cases h) (λS' ht _ _ E a w h=>by
  have h1:=h.ev x;rw[bw (λ_ h=>h) ht,hx]at h1;obtain⟨vs,hv,hall⟩:=h1;obtain⟨u,hu,hs⟩:=hall.get hi;exact⟨u,by simp[execOp,hv,Instr.extract,hu],hs,ff⟩) next
end steps
def Aw:List SV->Nat->AV
 |[],_=>.sv .any
 |s::_,0=>.sv s
 |_::l,n+1=>Aw l n
def AS.init(n:Nat)(args:List SV):AS:=⟨n,Aw args,λ_=>none,λ_=>.un,0,true⟩
theorem Ax:∀(l:List SV) (k:Nat),∃s,Aw l k=.sv s
 |[],_=>⟨_,Y⟩
 |s::_,0=>⟨s,Y⟩
 |_::l,n+1=>Ax l n
theorem yQ{E:Env}:∀{args:List SV} {vs:List Value} {k:Nat} (rest:List Value),SV.ef E.M args vs->(Aw args k).holds E ((vs++rest)[k]?.getD undef)
 |[],[],_,_,_=>trivial
 |s::args,v::vs,0,_,h=>h.1
 |s::args,v::vs,k+1,rest,h=>by
  have:=yQ (E:=E) (k:=k) rest (show SV.ef E.M args vs from h.2);simpa[Aw]using this
 |[],_::_,_,_,h=>h.elim
 |_::_,[],_,_,h=>h.elim
def Lh(P:Program)(S:AS):ResultVar->SV->Prop
 |.tmp t,s=>S.t t=.sv s
 |.cell t T,s=>∃i B,S.t t=.ptr i 0/\S.b i=some B/\((∃n cs,zV P T n/\KN B.cells 0 cs/\cs.length=n/\s=.agg cs)\/(pV P T/\B.cells=[.sv s]))
def wC(P:Program)(S:AS):List ResultVar->List SV->Prop
 |[],[]=>True
 |r::rs,s::ss=>Lh P S r s/\wC P S rs ss
 |_,_=>False
def Li(P:Program)(S:AS)(rs:List ResultVar)(r:SV):Prop:=∃ss,wC P S rs ss/\SV.imp (match ss with|[s]=>s|ss=>.yM ss) r
theorem Hq{P:Program}{C:Ctx}{S:AS}{E:Env}{a:Act}{w:World}(h:bn C S E a w){rv:ResultVar}{s:SV}(hr:Lh P S rv s):
  ∃v,(match rv with|.tmp t=>pure (a.tmps.getD t undef)|.cell b t=>do loadVar t (<-asAddr (a.tmps.getD b undef)):Sem Value).run P w=.ok v w/\s.h E.M v:=by
 cases rv with
 |tmp t=>
  have:=h.tm t;rw[show S.t t=.sv s from hr]at this;exact⟨_,Y,this⟩
 |cell t T=>
  obtain⟨i,B,h1,h2,h3⟩:=hr;have ht:a.tmps.getD t undef=.pointer (some ⟨E.β i,0,none⟩):=by have:=h.tm t;rw[h1]at this;exact this
  obtain⟨_,_,_,vs,hv,hall⟩:=h.bx i B h2;rcases h3 with⟨n,cs,tA,Lj,hn,rfl⟩|⟨tV,hc⟩
  ·obtain⟨us,zW,kN⟩:=Lj.vals hall;have hl:=zW.length;refine⟨.agg ⟨us⟩,?_,us,Y,zW⟩;have:=rX (P:=P) (T:=T) (n:=n) (w:=w) (b:=E.β i) (o:=0) (vs:=us) (by omega) (λj v e=>by simp[World.cell?,hv];simpa using kN j v e);simp[ht,asAddr,this]
  rw[hc]at hall;cases vs with
  |nil=>exact hall.elim
  |cons u us=>
   cases us with
   |cons _ _=>exact hall.2.elim
   |nil=>
    refine⟨u,?_,hall.1⟩;have SQ:w.cell? ⟨E.β i,0,none⟩=some u:=by simp[World.cell?,hv]
    simp[ht,asAddr,loadVar,tV.isAgg,SQ]
theorem yR{P:Program}{C:Ctx}{S:AS}{E:Env}{a:Act}{w:World}(h:bn C S E a w):∀{rs:List ResultVar} {ss:List SV},wC P S rs ss->
  ∃vs:List Value,(rs.mapM (λ(rv:ResultVar)=>(match rv with|.tmp t=>pure (a.tmps.getD t undef)|.cell b t=>do loadVar t (<-asAddr (a.tmps.getD b undef)):Sem Value))).run P w=.ok vs w/\SV.ef E.M ss vs
 |[],[],_=>⟨[],Y,aq⟩
 |r::rs,s::ss,hr=>by
  obtain⟨v,h1,h2⟩:=Hq h hr.1;obtain⟨vs,h3,h4⟩:=yR h hr.2;refine⟨v::vs,?_,h2,h4⟩;rw[List.mapM_cons];simp only[Sem.run_bind,h1,Result.andThen_ok,h3,Sem.run_pure]
 |[],_::_,h=>h.elim
 |_::_,[],h=>h.elim
theorem DD{P:Program}{C:Ctx}{S:AS}{E:Env}{a:Act}{w:World}(h:bn C S E a w){fn:Func}{ss:List SV}(Qz:wC P S fn.results.toList ss):
  ∃v,(results fn a.tmps).run P w=.ok v w/\(match ss with|[s]=>s|ss=>SV.yM ss).h E.M v:=by
 obtain⟨us,zW,hall⟩:=yR h Qz;unfold results;rw[<-Array.toArray_toList (xs:=fn.results),List.mapM_toArray];simp only[Sem.run_bind,Sem.run_map];generalize hm:List.mapM (m:=Sem) (β:=Value) _ fn.results.toList=m;have aam:m.run P w=.ok us w:=by rw[<-hm];exact zW
 rw[aam];simp only[Result.andThen_ok,Sem.run_pure];refine⟨_,Y,?_⟩;cases us with
 |nil=>cases ss with
  |nil=>exact⟨[],by simp,aq⟩
  |cons _ _=>exact hall.elim
 |cons u us=>
  cases ss with
  |nil=>exact hall.elim
  |cons s ss=>
   cases us with
   |nil=>cases ss with
    |nil=>simpa using hall.1
    |cons _ _=>exact hall.2.elim
   |cons u' us=>
    cases ss with
    |nil=>exact hall.2.elim
    |cons s' ss=>exact⟨u::u'::us,by simp,hall⟩
theorem nM{P:Program}{fn:Func}{tmps:Array Value}{R:Ending->World->Prop}:∀(ds:List Nat) (w:World),ds.Nodup->(∀r∈ds,w.heap[r]? =some (.deferred (some [])))->
  (∀w':World,w'.os=w.os->w'.tape=w.tape->w'.output=w.output->w'.heap.size=w.heap.size->(∀k,k∉ds->w'.heap[k]? =w.heap[k]?)->∃v,(results fn tmps).run P w'=.ok v w'/\R (.returned v) w')->
  LeavesInM (Fr none) 0 P fn tmps R (ds.map lW) .returning w
 |[],w,_,_,h=>by
  obtain⟨v,h1,h2⟩:=h w rfl rfl rfl rfl (λ_ _=>rfl);exact⟨v,h1,h2⟩
 |r::ds,w,hnd,hr,h=>by
  have hr0:=hr r (by simp);obtain⟨hnr,aan⟩:=List.nodup_cons.1 hnd;have hsz:=(Array.getElem?_eq_some_iff.1 hr0).1;refine⟨by simp,.inl ⟨r,{w with heap:=w.heap.setIfInBounds r (.deferred none)},Y,?_,?_⟩⟩
  ·simp[Instr.takeDeferred,getObj,setObj,Sem.run,hr0,bind,Sem.bind,pure]
  refine nM ds _ aan (λr' hr'=>?_) (λw' h1 h2 h3 h4 h5=>?_)
  ·have hne:r≠r':=by rintro rfl;exact hnr hr'
   rw[Array.getElem?_setIfInBounds,if_neg hne];exact hr r' (List.mem_cons_of_mem _ hr')
  refine h w' h1 h2 h3 (by rw[h4];simp) (λk hk=>?_);rw[List.mem_cons,not_or]at hk;rw[h5 k hk.2,Array.getElem?_setIfInBounds,if_neg (Ne.symm hk.1)]
theorem bn.Ay{C:Ctx}{S:AS}{E:Env}{a:Act}{w w':World}(h:bn C S E a w){ds:List Nat}(hds:∀r∈ds,C.w0.heap.size<=r/\¬E.O r/\w.heap[r]? =some (.deferred (some [])))
  (h1:w'.os=w.os) (h2:w'.tape=w.tape) (h3:w'.output=w.output) (h4:w'.heap.size=w.heap.size) (h5:∀k,k∉ds->w'.heap[k]? =w.heap[k]?):bn C S E {a with defers:=[]} w':=by
 have cell:∀(k:Nat) (vs:Array Value) (T:TypeId),w.heap[k]? =some (Obj.cells vs T (0,0))->w'.heap[k]? =w.heap[k]? :=λk vs T hk=>h5 k (λhm=>by rw[(hds k hm).2.2]at hk;cases hk);have hin:E.M.dh w':=eA h.dh λb ⟨o,v,e⟩=>h5 b (λhm=>by
  exact(h.dh b o v e).no (by simp[World.cell?,(hds b hm).2.2]) (λes ck q=>by rw[(hds b hm).2.2]at q;cases q) (λc T q=>by rw[(hds b hm).2.2]at q;cases q))
 exact{
  wf:=h.wf
  marks:=⟨[],Y,List.nodup_nil,by simp⟩
  size:=h.size
  os:=h1.trans h.os
  tape:=h2.trans h.tape
  output:=h3.trans h.output
  grown:=by rw[h4];exact h.grown
  frame:=λk hk hk'=>by rw[h5 k (λhm=>by have:=(hds k hm).1;omega)];exact h.frame k hk hk'
  m0:=h.m0
  eG:=h.eG
  dh:=hin
  tm:=h.tm
  bx:=λi B hB=>by
   obtain⟨h6,h7,h8,vs,h9,gM⟩:=h.bx i B hB;exact⟨h6,h7,h8,vs,by rw[cell _ _ _ h9];exact h9,gM⟩
  inj:=h.inj
  rx:=λi R hR=>by
   obtain⟨⟨us,h6,h7⟩,h8⟩:=h.rx i R hR;refine⟨⟨us,dw h6 λg hg=>?_,h7⟩,h8⟩;rcases h6.2 with⟨h9,_⟩|⟨g',cap,cur,h9,_,gM,_⟩
   ·rw[h9]at hg;cases hg
   rw[h9]at hg;cases hg;exact cell _ _ _ gM
  fm:=h.fm
  gC:=h.gC
  ee:=h.ee
  kD:=λb hb=>by rw[h4];exact h.kD b hb
  jj:=C.jf _ _ _ _ _ _ _ h.jj (Mem.le_refl _) hin (λ_ _ _ e=>.inl e) (λb hb=>h5 b (λhm=>by
   rcases hb with hb|hb
   ·have:=(hds b hm).1;omega
   exact(hds b hm).2.1 hb)) h1 h2 h3 (by rw[h4];exact Nat.le_refl _)}
def E7(w:World)(M:Mem):Ctx:={w0:=w,M0:=M,own:=λ_=>False,tO:=λ_=>False,gC:=λ_=>none,ee:=λ_=>none,ro:=none,J:=λ_ _ _ _ _=>True,Cf:=λ_ h=>h,JI:=λ_ _ h=>(by cases h),jf:=λ_ _ _ _ _ _ _ _ _ _ _ _ _ _ _ _=>trivial}
theorem jV{n:Nat}{args:List SV}{vs:List Value}{w:World}{M:Mem}(hM:M.dh w)(hvs:SV.ef M args vs)(hn:args.length<=n):
  bn (E7 w M) (AS.init n args) ⟨λ_=>0,λ_=>.nilIface,λ_=>False,M⟩ {tmps:=⟨vs⟩++Array.replicate (n-(⟨vs⟩:Array Value).size) undef,defers:=[]} w:=by
 have hl:=hvs.length;refine⟨⟨λs j hj=>?_,λs j hj=>?_,λi B e=>(by cases e),λi B e=>(by cases e)⟩,⟨[],rfl,List.nodup_nil,by simp⟩,by simp[AS.init];omega,rfl,rfl,rfl,Nat.le_refl _,λ_ _ _=>rfl,Mem.le_refl _,λ_ _ _ e=>.inl e,hM,λs=>?_,λi B e=>(by cases e),λi j B B' e=>(by cases e),λi R e=>(by cases e),λi j R R' e=>(by cases e),λi b e=>(by cases e),λi b e=>(by cases e),λb e=>e.elim,aq⟩
 ·obtain⟨s',hs'⟩:=Ax args s;rw[show(AS.init n args).t s=Aw args s from rfl,hs']at hj;exact hj.elim
 ·obtain⟨s',hs'⟩:=Ax args s;rw[show(AS.init n args).t s=Aw args s from rfl,hs']at hj;exact hj.elim
 have:=yQ (E:=⟨λ_=>0,λ_=>.nilIface,λ_=>False,M⟩) (k:=s) (List.replicate (n-vs.length) undef) hvs;rw[Array.getD_eq_getD_getElem?];simpa[AS.init,List.getElem?_toArray,Array.getElem?_append,List.getElem?_append,List.getElem?_replicate,Array.getElem?_replicate]using this
theorem bz{P:Program}{f:FuncId}{fn:Func}{code:Code}{args:List SV}{r:SV}(hf:P.funcs[f]? =some fn)(hb:fn.body=some code)(hn:args.length<=fn.ntmps)
  (h:∀(w:World) (M:Mem) (vs:List Value),SV.ef M args vs->Ok P (E7 w M) code (AS.init fn.ntmps args) (λe S=>(e=.normal\/e=.ret)/\Li P S fn.results.toList r)):Pure P f args r:=by
 intro M w vs hM hvs;refine(callsIn_wide (n:=0)).1 (callsIn_of_wp_marks (F:=Fence.wide) hf hb trivial ?_);refine wpIn_mono (h w M vs hvs _ w ⟨_,jV hM hvs hn⟩) ?_;rintro e a' w' ⟨S',⟨he,ss,Qz,himp⟩,E,hh⟩;have key:LeavesInM Fence.wide 0 P fn a'.tmps (λe w'=>∃v M',e=.returned v/\M.le M'/\(∀b o x,M' b o=some x->M b o=some x\/w.heap.size<=b)/\M'.dh w'/\r.h M' v/\Below w.heap.size w w') a'.defers .returning w':=by
  obtain⟨ds,h1,h2,h3⟩:=hh.marks;rw[h1];refine nM ds w' h2 (λr hr=>(h3 r hr).2.2) (λw2 g1 g2 g3 g4 g5=>?_);have Cj:=hh.Ay h3 g1 g2 g3 g4 g5;obtain⟨v,hv,hs⟩:=DD Cj Qz;refine⟨v,hv,v,E.M,Y,Cj.m0,λb o x e=>?_,Cj.dh,himp _ _ hs,Cj.os,Cj.tape,Cj.output,Cj.grown,λk hk=>Cj.frame k hk (λh=>h)⟩;rcases Cj.eG b o x e with h|h|h
  ·exact .inl h
  ·exact .inr h
  exact h.elim
 rcases he with rfl|rfl
 ·exact key
 exact key
end
section
open Go.RowKit
inductive JK (σ:Nat->Nat):AV->AV->Prop
 |sv {s s':SV} (h:SV.imp s s'):JK σ (.sv s) (.sv s')
 |ptr {i o:Nat}:JK σ (.ptr i o) (.ptr i o)
 |EO {i o l c:Nat}:JK σ (.EO i o l c) (.EO i o l c)
 |row {i j:Nat} (h:j=σ i):JK σ (.row j) (.row i)
 |nC {i j o l:Nat} (h:j=σ i):JK σ (.nC j o l) (.nC i o l)
 |fV {g:FuncId} {js:List qE}:JK σ (.fV g js) (.fV g js)
theorem SV.aU(s:SV):SV.imp s s:=λ_ _ h=>h
theorem au{s:SV}:SV.imp s s:=SV.aU _
theorem SV.aX{k:IntKind}{p q:Int}(h:p=q):SV.imp (.v (.int k p)) (.v (.int k q)):=by subst h;exact au
theorem JK.holds{σ:Nat->Nat}{x y:AV}(h:JK σ x y){E:Env}{v:Value}(hv:x.holds E v):y.holds {E with ν:=λi=>E.ν (σ i)} v:=by
 cases h with
 |sv h=>exact h _ _ hv
 |ptr=>exact hv
 |EO=>exact hv
 |row h=>subst h;exact hv
 |nC h=>subst h;exact hv
 | @fV g js=>
  obtain⟨vs,rfl,h⟩:=hv;refine⟨vs,Y,?_⟩;have key:∀(l:List qE) (vs:List Value),zu E l vs->zu {E with ν:=λi=>E.ν (σ i)} l vs:=by
   intro l
   induction l with
   |nil=>intro vs h;cases vs with|nil=>trivial|cons _ _=>exact h.elim
   |cons c l ih=>
    intro vs h;cases vs with
    |nil=>exact h.elim
    |cons x xs=>exact⟨by have h1:=h.1;cases c<;>exact h1,ih xs h.2⟩
  exact key js vs h
def Hr(σ:Nat->Nat):List AV->List AV->Prop
 |[],[]=>True
 |x::l,y::l'=>JK σ x y/\Hr σ l l'
 |_,_=>False
theorem Hr.holds{σ:Nat->Nat}{E:Env}:∀{l l':List AV} {vs:List Value},Hr σ l l'->di E l vs->di {E with ν:=λi=>E.ν (σ i)} l' vs
 |[],[],[],_,_=>trivial
 |_::_,_::_,_::_,h,hv=>⟨h.1.holds hv.1,Hr.holds h.2 hv.2⟩
 |[],[],_::_,_,hv=>hv.elim
 |_::_,_::_,[],_,hv=>hv.elim
 |[],_::_,_,h,_=>h.elim
 |_::_,[],_,h,_=>h.elim
def cJ:List SV->List SV->Prop
 |[],[]=>True
 |x::l,y::l'=>SV.imp x y/\cJ l l'
 |_,_=>False
theorem cJ.holds{M:Mem}:∀{l l':List SV} {vs:List Value},cJ l l'->SV.ef M l vs->SV.ef M l' vs
 |[],[],[],_,_=>trivial
 |_::_,_::_,_::_,h,hv=>⟨h.1 _ _ hv.1,cJ.holds h.2 hv.2⟩
 |[],[],_::_,_,hv=>hv.elim
 |_::_,_::_,[],_,hv=>hv.elim
 |[],_::_,_,h,_=>h.elim
 |_::_,[],_,h,_=>h.elim
theorem cJ.refl:∀l:List SV,cJ l l
 |[]=>trivial
 |s::l=>⟨SV.aU s,cJ.refl l⟩
def IF:List (Nat×AV)->Nat->AV
 |[],_=>.sv .any
 |(k,x)::l,s=>bif Nat.beq s k then x else IF l s
def Ow:List (Nat×nX)->Nat->Option nX
 |[],_=>none
 |(k,x)::l,s=>bif Nat.beq s k then some x else Ow l s
def Ca:List (Nat×Row)->Nat->Option Row
 |[],_=>none
 |(k,x)::l,s=>bif Nat.beq s k then some x else Ca l s
def AS.cM(n:Nat)(ts:List (Nat×AV))(bs:List (Nat×nX))(rs:List (Nat×Row))(g:Nat:=0)(go:Bool:=true):AS:=
 ⟨n,IF ts,Ow bs,λi=>match Ca rs i with|some R=>.live R|none=>.un,g,go⟩
def AV.pG(bs:List (Nat×nX))(rs:List (Nat×Row)):AV->Bool
 |.sv _=>true
 |.ptr i _=>(Ow bs i).isSome
 |.EO i _ _ _=>(Ow bs i).isSome
 |.row i=>(Ca rs i).isSome
 |.iS i _=>(Ca rs i).isSome
 |.nC i _ _=>(Ca rs i).isSome
 |.fV _ js=>js.all λc=>match c with|.box i=>(Ow bs i).isSome|.val _=>true
 |.cmp _ _=>false
theorem zX{ts:List (Nat×AV)}{s:Nat}:IF ts s=.sv .any\/∃p∈ts,p.1=s/\IF ts s=p.2:=by
 induction ts with
 |nil=>exact .inl Y
 |cons p ts ih=>
  obtain⟨k,x⟩:=p;by_cases h:s=k
  ·subst h;exact .inr ⟨(s,x),by simp,Y,by simp[IF]⟩
  simp only[IF,cC h,cond_false];rcases ih with ih|⟨p,hp,h1,h2⟩
  ·exact .inl ih
  exact .inr ⟨p,List.mem_cons_of_mem _ hp,h1,h2⟩
theorem oZ{bs:List (Nat×nX)}{s:Nat}{B:nX}(h:Ow bs s=some B):(s,B)∈bs:=by
 induction bs with
 |nil=>cases h
 |cons p bs ih=>
  obtain⟨k,x⟩:=p;by_cases e:s=k
  ·subst e;simp[Ow]at h;subst h;simp
  simp only[Ow,cC e,cond_false]at h;exact List.mem_cons_of_mem _ (ih h)
theorem zY{bs:List (Nat×Row)}{s:Nat}{B:Row}(h:Ca bs s=some B):(s,B)∈bs:=by
 induction bs with
 |nil=>cases h
 |cons p bs ih=>
  obtain⟨k,x⟩:=p;by_cases e:s=k
  ·subst e;simp[Ca]at h;subst h;simp
  simp only[Ca,cC e,cond_false]at h;exact List.mem_cons_of_mem _ (ih h)
theorem SS{n:Nat}{ts:List (Nat×AV)}{bs:List (Nat×nX)}{rs:List (Nat×Row)}{g:Nat}{go:Bool}
  (h:(ts.all λp=>p.2.pG bs rs)&&(bs.all λp=>p.2.cells.all λx=>x.pG bs rs)):(AS.cM n ts bs rs g go).wf:=by
 simp only[Bool.and_eq_true,List.all_eq_true]at h;have kb:∀x:AV,x.pG bs rs=true->∀j,x.mb j->∃B,Ow bs j=some B:=by
  intro x hx j hj;cases x with
  |ptr i o=>cases hj;exact Option.isSome_iff_exists.1 hx
  |EO i o l c=>cases hj;exact Option.isSome_iff_exists.1 hx
  |fV g js=>exact Option.isSome_iff_exists.1 (List.all_eq_true.1 hx (.box j) hj)
  |cmp t js=>cases hx
  |_=>exact hj.elim
 have kr:∀x:AV,x.pG bs rs=true->∀j,x.mr j->(AS.cM n ts bs rs g go).r j≠ .un:=by
  intro x hx j hj;have hs:∀i,(Ca rs i).isSome=true->(AS.cM n ts bs rs g go).r i≠ .un:=by
   intro i hi;obtain⟨R,hR⟩:=Option.isSome_iff_exists.1 hi;simp[AS.cM,hR]
  cases x with
  |row i=>cases hj;exact hs _ hx
  |iS i k=>cases hj;exact hs _ hx
  |nC i o l=>cases hj;exact hs _ hx
  |cmp t js=>cases hx
  |_=>exact hj.elim
 refine⟨λs j hj=>?_,λs j hj=>?_,λi B hB x hx j hj=>?_,λi B hB x hx j hj=>?_⟩
 ·rcases zX (ts:=ts) (s:=s)with e|⟨p,hp,_,e⟩
  ·rw[show(AS.cM n ts bs rs g go).t s=IF ts s from rfl,e]at hj;exact hj.elim
  rw[show(AS.cM n ts bs rs g go).t s=IF ts s from rfl,e]at hj;exact kb _ (h.1 p hp) j hj
 ·rcases zX (ts:=ts) (s:=s)with e|⟨p,hp,_,e⟩
  ·rw[show(AS.cM n ts bs rs g go).t s=IF ts s from rfl,e]at hj;exact hj.elim
  rw[show(AS.cM n ts bs rs g go).t s=IF ts s from rfl,e]at hj;exact kr _ (h.1 p hp) j hj
 ·exact kb x (h.2 (i,B) (oZ hB) x hx) j hj
 exact kr x (h.2 (i,B) (oZ hB) x hx) j hj
def VV(σ:Nat->Nat)(S:AS):List (Nat×AV)->Prop
 |[]=>True
 |(k,x)::l=>JK σ (S.t k) x/\VV σ S l
def VW(σ:Nat->Nat)(S:AS):List (Nat×nX)->Prop
 |[]=>True
 |(k,x)::l=>(∃cs,S.b k=some ⟨x.T,cs⟩/\Hr σ cs x.cells)/\VW σ S l
def VX(σ:Nat->Nat)(S:AS):List (Nat×Row)->Prop
 |[]=>True
 |(k,x)::l=>(∃cs,S.r (σ k)=.live ⟨x.E,x.sz,x.n,cs⟩/\cJ cs x.cells)/\VX σ S l
theorem VV.mem{σ:Nat->Nat}{S:AS}:∀{l:List (Nat×AV)},VV σ S l->∀p∈l,JK σ (S.t p.1) p.2
 |_::_,h,p,hp=>by
  rcases List.mem_cons.1 hp with rfl|hp
  ·exact h.1
  exact VV.mem h.2 p hp
theorem VW.mem{σ:Nat->Nat}{S:AS}:∀{l:List (Nat×nX)},VW σ S l->∀p∈l,∃cs,S.b p.1=some ⟨p.2.T,cs⟩/\Hr σ cs p.2.cells
 |_::_,h,p,hp=>by
  rcases List.mem_cons.1 hp with rfl|hp
  ·exact h.1
  exact VW.mem h.2 p hp
theorem VX.mem{σ:Nat->Nat}{S:AS}:∀{l:List (Nat×Row)},VX σ S l->∀p∈l,∃cs,S.r (σ p.1)=.live ⟨p.2.E,p.2.sz,p.2.n,cs⟩/\cJ cs p.2.cells
 |_::_,h,p,hp=>by
  rcases List.mem_cons.1 hp with rfl|hp
  ·exact h.1
  exact VX.mem h.2 p hp
theorem bn.dM{C:Ctx}{S:AS}{E:Env}{a:Act}{w:World}(h:bn C S E a w)(σ:Nat->Nat){n:Nat}{ts:List (Nat×AV)}{bs:List (Nat×nX)}{rs:List (Nat×Row)}{g:Nat}{go:Bool}(hn:S.n=n)(hg:S.g=g)(OO:S.go=go)
  (hwf:((ts.all λp=>p.2.pG bs rs)&&(bs.all λp=>p.2.cells.all λx=>x.pG bs rs))=true) (hσ:((rs.all λp=>rs.all λq=>!(Nat.beq (σ p.1) (σ q.1))||Nat.beq p.1 q.1))=true)
  (ht:VV σ S ts) (hb:VW σ S bs) (hr:VX σ S rs) (hp:∀i,1000<=i->σ i=i):bn C (AS.cM n ts bs rs g go) {E with ν:=λi=>E.ν (σ i)} a w where
 wf:=SS hwf
 marks:=h.marks
 size:=by rw[h.size,hn];rfl
 os:=h.os
 tape:=h.tape
 output:=h.output
 grown:=h.grown
 frame:=h.frame
 m0:=h.m0
 eG:=h.eG
 dh:=h.dh
 tm:=λs=>by
  rcases zX (ts:=ts) (s:=s)with e|⟨p,hp,rfl,e⟩
  ·show(IF ts s).holds _ _;rw[e];exact trivial
  show(IF ts p.1).holds _ _;rw[e];exact(ht.mem p hp).holds (h.tm p.1)
 bx:=λi B hB=>by
  obtain⟨cs,h1,h2⟩:=hb.mem (i,B) (oZ hB);obtain⟨h3,h4,h5,vs,h6,h7⟩:=h.bx i _ h1;exact⟨h3,h4,h5,vs,h6,h2.holds h7⟩
 inj:=λi j B B' hi hj e=>by
  obtain⟨cs,h1,_⟩:=hb.mem (i,B) (oZ hi);obtain⟨cs',h2,_⟩:=hb.mem (j,B') (oZ hj);exact h.inj i j _ _ h1 h2 e
 rx:=λi R hR=>by
  have nU:Ca rs i=some R:=by
   simp only[AS.cM]at hR;cases e:Ca rs i with
   |none=>rw[e]at hR;cases hR
   |some R'=>rw[e]at hR;cases hR;rfl
  obtain⟨cs,h1,h2⟩:=hr.mem (i,R) (zY nU);obtain⟨⟨vs,h3,h4⟩,h5⟩:=h.rx _ _ h1;refine⟨⟨vs,h3,h2.holds h4⟩,λk hk=>?_⟩;obtain⟨h6,h7,h8,h9⟩:=h5 k hk;refine⟨h6,h7,h8,λj B hB=>?_⟩;obtain⟨cs',gM,_⟩:=hb.mem (j,B) (oZ hB);exact h9 j _ gM
 fm:=λi j R R' hi hj k h1 h2=>by
  have f:∀i R,(AS.cM n ts bs rs g go).r i=.live R->Ca rs i=some R:=by
   intro i R hR;simp only[AS.cM]at hR;cases e:Ca rs i with
   |none=>rw[e]at hR;cases hR
   |some R'=>rw[e]at hR;cases hR;rfl
  have mi:=zY (f i R hi);have mj:=zY (f j R' hj);obtain⟨cs,g1,_⟩:=hr.mem _ mi;obtain⟨cs',g2,_⟩:=hr.mem _ mj;have e:=h.fm _ _ _ _ g1 g2 k h1 h2;have:=List.all_eq_true.1 (List.all_eq_true.1 hσ _ mi) _ mj;simp only[Bool.or_eq_true,Bool.not_eq_true']at this;rcases this with h3|h3
  ·rw[e]at h3;simp at h3
  exact Nat.eq_of_beq_eq_true h3
 gC:=h.gC
 ee:=λi v e=>by show E.ν (σ i)=v;rw[hp i (C.JI i v e)];exact h.ee i v e
 kD:=h.kD
 jj:=by show C.J g go E.O E.M w;rw[<-hg,<-OO];exact h.jj
theorem dM{S:AS}(σ:Nat->Nat){n:Nat}{ts:List (Nat×AV)}{bs:List (Nat×nX)}{rs:List (Nat×Row)}{g:Nat}{go:Bool}(hn:S.n=n)(hg:S.g=g)(OO:S.go=go)
  (hwf:((ts.all λp=>p.2.pG bs rs)&&(bs.all λp=>p.2.cells.all λx=>x.pG bs rs))=true) (hσ:((rs.all λp=>rs.all λq=>!(Nat.beq (σ p.1) (σ q.1))||Nat.beq p.1 q.1))=true)
  (ht:VV σ S ts) (hb:VW σ S bs) (hr:VX σ S rs) (hp:∀i,1000<=i->σ i=i):rV S (AS.cM n ts bs rs g go):=λ_ _ _ ⟨_,h⟩=>⟨_,h.dM σ hn hg OO hwf hσ ht hb hr hp⟩
end
section
open Go.RowKit
class jw (P:Program) (E:TypeId) (n:outParam Nat) (by_:outParam Nat) (z:outParam Value):Prop where
 h:(P.info? E).map (λi=>(i.size,i.bytes,i.zero))=some (n,by_,some z)
 z:z.cells.size=n
 p:0<n
 b:by_<=1048576
theorem jw.info{P:Program}{E:TypeId}{n by_:Nat}{z:Value}[t:jw P E n by_ z]:∃i,P.info? E=some i/\i.size=n/\i.bytes=by_/\i.zero=some z:=by
 have h:=t.h;cases hi:P.info? E with
 |none=>rw[hi]at h;cases h
 |some i=>
  rw[hi]at h;simp only[Option.map_some,Option.some.injEq,Prod.mk.injEq]at h;exact⟨i,Y,h.1,h.2.1,h.2.2⟩
section steps
variable {P:Program}{C:Ctx}{ops:Array Oper}{S:AS}{nd:Bool}{K:List Ac->AS->Prop}{rest:List Oper}{acc:List Ac}
variable {gd:Option (Nat×Bool)}{rg:List Nat}{d:Nat}{ty:TypeId}{pos:String}{aft:Array Edge}{x y z:Operand}{T U E0:TypeId}
def JM(C:Ctx)(S:AS)(E:Env)(g:Nat):Prop:=
 C.w0.heap.size<=g/\(∀o,E.M g o=none)/\¬E.O g/\(∀j B,S.b j=some B->E.β j≠g)/\(∀j R,S.r j=.live R->(E.ν j).ownBlock≠some g)
theorem bn.free{E:Env}{a:Act}{w:World}(h:bn C S E a w){g:Nat}(hg:w.heap.size<=g):JM C S E g:=by
 refine⟨Nat.le_trans h.grown hg,λo=>?_,λho=>?_,λj B hB e=>?_,λj R hj e=>?_⟩
 ·cases e:E.M g o with
  |none=>rfl
  |some v=>have:=nm h.dh e;omega
 ·have:=(h.kD _ ho).1;omega
 ·have:=qH h hB;omega
 have:=jb h hj e;omega
theorem bn.DE{E:Env}{a:Act}{w w':World}(h:bn C S E a w){d:Nat}(hd:S.r d=.un)(we:d<1000)(old:List (Nat×kK))(DF:Option Nat)
  (hold:(old=[]/\DF=none)\/∃i R,old=[(i,.dead)]/\S.r i=.live R/\DF=(E.ν i).ownBlock)
  {R':Row} {v':Value} {vs':List Value} (hown:w'.ownsRow 0 R'.E R'.sz v' R'.n vs') (vh:SV.ef E.M R'.cells vs') (hat:∀g,v'.ownBlock=some g->DF=some g\/JM C S E g) (hgrow:w.grownBy w' DF):
  bn C (AS.b9 (old++[(d,.live R')]) S) {E with ν:=λj=>if j=d then v' else E.ν j} a w':=by
 have EP:=eU (old++[(d,kK.live R')]) S;have hb:∀g,DF=some g->(C.w0.heap.size<=g\/C.tO g)/\(∀o,E.M g o=none)/\¬E.O g/\(∀j B,S.b j=some B->E.β j≠g)/\g<w.heap.size/\(∃c e,w.heap[g]? =some (Obj.cells c e (0,0)))/\∃i R,old=[(i,.dead)]/\S.r i=.live R/\(E.ν i).ownBlock=some g:=by
  intro g hg;rcases hold with⟨_,h2⟩|⟨i,R,h1,h2,h3⟩
  ·rw[h2]at hg;cases hg
  rw[h3]at hg;obtain⟨⟨us,ho,_⟩,h4⟩:=h.rx i R h2;obtain⟨h5,h6,h7,h8⟩:=h4 g hg;refine⟨h5,h6,h7,h8,jb h h2 hg,?_,i,R,h1,h2,hg⟩;rcases ho.2 with⟨h9,_⟩|⟨g',cap,cur,h9,_,gM,_⟩
  ·rw[h9]at hg;cases hg
  rw[h9]at hg;cases hg;exact⟨_,_,gM⟩
 have same:∀k,k<w.heap.size->(∀g,DF=some g->k≠g)->w'.heap[k]? =w.heap[k]? :=λk hk hne=>hgrow.block k hk (λe=>hne k e.symm Y);have VY:∀j,(AS.b9 (old++[(d,kK.live R')]) S).r j=if j=d then .live R' else(dL old j).getD (S.r j):=by
  intro j;rw[jR];have:∀l:List (Nat×kK),dL (l++[(d,kK.live R')]) j=if j=d then some (.live R')else dL l j:=by
   intro l
   induction l with
   |nil=>rfl
   |cons p l ih=>
    obtain⟨i,R⟩:=p;rw[List.cons_append,dL,dL,ih];by_cases e:j=d
    ·simp[e]
    simp[e]
  rw[this];by_cases e:j=d
  ·simp[e]
  simp[e]
 have afH:∀i,(i,kK.dead)∈old->S.r i≠ .un:=by
  intro i hi;rcases hold with⟨h1,_⟩|⟨i',R,h1,h2,_⟩
  ·rw[h1]at hi;simp at hi
  rw[h1]at hi;simp at hi;subst hi;rw[h2];simp
 have IG:∀j,dL old j=none\/(dL old j=some .dead/\(j,kK.dead)∈old):=by
  intro j;rcases hold with⟨h1,_⟩|⟨i',R,h1,h2,_⟩
  ·rw[h1];exact .inl Y
  rw[h1];by_cases e:j=i'
  ·subst e;exact .inr ⟨by simp[dL],by simp⟩
  exact .inl (by simp[dL,e])
 have QA:∀j,S.r j≠ .un->(AS.b9 (old++[(d,kK.live R')]) S).r j≠ .un:=by
  intro j hj;rw[VY];by_cases e:j=d
  ·simp[e]
  rw[if_neg e];rcases IG j with h1|⟨h1,_⟩
  ·rw[h1];exact hj
  rw[h1];simp
 have wD:∀j R,(AS.b9 (old++[(d,kK.live R')]) S).r j=.live R->j≠d->S.r j=.live R/\(∀g,DF=some g->(E.ν j).ownBlock≠some g):=by
  intro j R hj hne;rw[VY,if_neg hne]at hj;rcases IG j with h1|⟨h1,_⟩
  ·rw[h1]at hj;refine⟨hj,λg hg e=>?_⟩;obtain⟨_,_,_,_,_,_,i,R2,h2,h3,h4⟩:=hb g hg;have hji:=h.fm j i R R2 hj h3 g e h4;subst hji;rw[h2]at h1;simp[dL]at h1
  rw[h1]at hj;cases hj
 have nod:∀x:AV,(∀j,x.mr j->S.r j≠ .un)->∀v,x.holds E v->x.holds {E with ν:=λj=>if j=d then v' else E.ν j} v:=λx hx v hv=>
  AV.cI (E:=E) (E':={E with ν:=λj=>if j=d then v' else E.ν j}) (Mem.le_refl _) (λ_ _=>rfl) (λj hj=>if_neg (by rintro rfl;exact hx j hj hd)) hv
 have Le:E.M.dh w':=eA h.dh λb ⟨o,v,e⟩=>same b (nm h.dh e) (λg hg hbg=>by subst hbg;rw[(hb _ hg).2.1 o]at e;cases e);have Hs:∀g,v'.ownBlock=some g->(C.w0.heap.size<=g\/C.tO g)/\(∀o,E.M g o=none)/\¬E.O g/\(∀j B,S.b j=some B->E.β j≠g)/\(∀j R,(AS.b9 (old++[(d,kK.live R')]) S).r j=.live R->j≠d->(E.ν j).ownBlock≠some g):=by
  intro g hg;rcases hat g hg with h1|⟨f1,f2,f3,f4,f5⟩
  ·obtain⟨h2,h3,h4,h5,_⟩:=hb g h1;exact⟨h2,h3,h4,h5,λj R hj hne=>(wD j R hj hne).2 g h1⟩
  exact⟨.inl f1,f2,f3,f4,λj R hj hne=>f5 j R (wD j R hj hne).1⟩
 exact{
  wf:=by
   refine⟨λs j hj=>?_,λs j hj=>?_,λi B hB x hx j hj=>?_,λi B hB x hx j hj=>?_⟩
   ·rw[EP.2.1]at hj;rw[EP.2.2.1];exact h.wf.tb s j hj
   ·rw[EP.2.1]at hj;exact QA j (h.wf.tr s j hj)
   ·rw[EP.2.2.1]at hB⊢;exact h.wf.bb i B hB x hx j hj
   rw[EP.2.2.1]at hB;exact QA j (h.wf.br i B hB x hx j hj)
  marks:=by
   obtain⟨ds,h1,h2,h3⟩:=h.marks;refine⟨ds,h1,h2,λr hr=>?_⟩;obtain⟨h4,h5,h6⟩:=h3 r hr;refine⟨h4,h5,?_⟩;rw[same r (Array.getElem?_eq_some_iff.1 h6).1 (λg hg e=>by
    subst e;obtain⟨c,e,hc⟩:=(hb _ hg).2.2.2.2.2.1;rw[h6]at hc;cases hc)]
   exact h6
  size:=by rw[EP.1];exact h.size
  os:=hgrow.os.trans h.os
  tape:=hgrow.tape.trans h.tape
  output:=hgrow.output.trans h.output
  grown:=Nat.le_trans h.grown hgrow.size
  frame:=λk hk hk'=>by
   rw[same k (by have:=h.grown;omega) (λg hg e=>by
    subst e;rcases(hb _ hg).1 with h1|h1
    ·omega
    exact hk' (C.Cf _ h1))]
   exact h.frame k hk hk'
  m0:=h.m0
  eG:=h.eG
  dh:=Le
  tm:=λs=>by rw[EP.2.1];exact nod _ (h.wf.tr s) _ (h.tm s)
  bx:=λi B hB=>by
   rw[EP.2.2.1]at hB;obtain⟨h1,h2,h3,vs,h4,h5⟩:=h.bx i B hB;exact⟨h1,h2,h3,vs,by rw[same _ (qH h hB) (λg hg e=>(hb g hg).2.2.2.1 i B hB e)];exact h4,h5.imp λx hx v hv=>nod x (h.wf.br i B hB x hx) v hv⟩
  inj:=λi j B B' hi hj e=>by rw[EP.2.2.1]at hi hj;exact h.inj i j B B' hi hj e
  rx:=λj R hR=>by
   by_cases Lk:j=d
   ·subst Lk;rw[VY,if_pos rfl]at hR;cases hR;simp only[if_true];refine⟨⟨vs',hown,vh⟩,λg hg=>?_⟩;obtain⟨h1,h2,h3,h4,_⟩:=Hs g hg;exact⟨h1,h2,h3,λk B hB=>by rw[EP.2.2.1]at hB;exact h4 k B hB⟩
   obtain⟨h1,h2⟩:=wD j R hR Lk;simp only[if_neg Lk];obtain⟨⟨us,h3,h4⟩,h5⟩:=h.rx j R h1;refine⟨⟨us,dw h3 λg hg=>same g (jb h h1 hg) (λg' yS e=>by subst e;exact h2 g yS hg),h4⟩,λg hg=>?_⟩;obtain⟨h6,h7,h8,h9⟩:=h5 g hg;exact⟨h6,h7,h8,λk B hB=>by rw[EP.2.2.1]at hB;exact h9 k B hB⟩
  fm:=λi j R R2 hi hj g h1 h2=>by
   by_cases Ci:i=d
   ·subst Ci;by_cases Lk:j=i
    ·exact Lk.symm
    simp only[if_true,if_neg Lk]at h1 h2;exact absurd h2 ((Hs g h1).2.2.2.2 j R2 hj Lk)
   by_cases Lk:j=d
   ·subst Lk;simp only[if_true,if_neg Ci]at h1 h2;exact absurd h1 ((Hs g h2).2.2.2.2 i R hi Ci)
   simp only[if_neg Ci,if_neg Lk]at h1 h2;exact h.fm i j R R2 (wD i R hi Ci).1 (wD j R2 hj Lk).1 g h1 h2
  gC:=h.gC
  ee:=λi v e=>by
   have:i≠d:=by have:=C.JI i v e;omega
   simp only[if_neg this];exact h.ee i v e
  kD:=λb hb'=>by
   obtain⟨h1,h2⟩:=h.kD b hb';exact⟨Nat.lt_of_lt_of_le h1 hgrow.size,h2⟩
  jj:=by
   rw[EP.2.2.2.1,EP.2.2.2.2];exact C.jf _ _ _ _ _ _ _ h.jj (Mem.le_refl _) Le (λ_ _ _ e=>.inl e) (λb Ht=>same b (by
     rcases Ht with Ht|Ht
     ·have:=h.grown;omega
     ·exact(h.kD b Ht).1) (λg hg e=>by
     subst e;rcases Ht with Ht|Ht
     ·rcases(hb _ hg).1 with h1|h1
      ·omega
      exact Ht.2 h1
     exact(hb _ hg).2.2.1 Ht)) hgrow.os hgrow.tape hgrow.output hgrow.size}
theorem bn.newRow{E:Env}{a:Act}{w w':World}(h:bn C S E a w){d:Nat}(hd:S.r d=.un)(we:d<1000)(old:List (Nat×kK))(DF:Option Nat)
  (hold:(old=[]/\DF=none)\/∃i R,old=[(i,.dead)]/\S.r i=.live R/\DF=(E.ν i).ownBlock)
  {R':Row} {v':Value} {vs':List Value} (hown:w'.ownsRow 0 R'.E R'.sz v' R'.n vs') (vh:SV.ef E.M R'.cells vs') (hat:v'.ownBlock=DF\/v'.ownBlock=some w.heap.size\/v'.ownBlock=none) (hgrow:w.grownBy w' DF):
  bn C (AS.b9 (old++[(d,.live R')]) S) {E with ν:=λj=>if j=d then v' else E.ν j} a w':=
 h.DE hd we old DF hold hown vh (λg hg=>by
  rcases hat with h1|h1|h1
  ·exact .inl (by rw[<-h1,hg])
  ·rw[hg]at h1;cases h1;exact .inr (h.free (Nat.le_refl _))
  rw[hg]at h1;cases h1) hgrow
theorem Az{M:Mem}{b sz:Nat}:∀(rows:List (List SV)) (o:Nat),(∀(i:Nat) (row:List SV),rows[i]? =some row->row.length=sz/\∀(k:Nat) (s:SV),row[k]? =some s->∃y,M b (o+i*sz+k)=some y/\y.oneCell'=true/\s.h M y)->
  ∃vs:List Value,SV.ef M rows.flatten vs/\vs.length=rows.length*sz/\(∀u∈vs,u.oneCell'=true)/\∀(k:Nat) (v:Value),vs[k]? =some v->M b (o+k)=some v
 |[],_,_=>⟨[],aq,by simp,by simp,by simp⟩
 |row::rows,o,h=>by
  obtain⟨h1,h2⟩:=h 0 row Y;have one:∀(l:List SV) (o:Nat),(∀(k:Nat) (s:SV),l[k]? =some s->∃y,M b (o+k)=some y/\y.oneCell'=true/\s.h M y)->∃vs:List Value,SV.ef M l vs/\(∀u∈vs,u.oneCell'=true)/\∀(k:Nat) (v:Value),vs[k]? =some v->M b (o+k)=some v:=by
   intro l
   induction l with
   |nil=>intro o _;exact⟨[],aq,by simp,by simp⟩
   |cons s l ih=>
    intro o hl;obtain⟨y,hy,Wu,hs⟩:=hl 0 s Y;obtain⟨vs,g1,g2,g3⟩:=ih (o+1) (λk s hk=>by
     have:=hl (k+1) s (by simpa using hk);rwa[show o+(k+1)=o+1+k by omega]at this)
    refine⟨y::vs,⟨hs,g1⟩,λu hu=>?_,λk v hk=>?_⟩
    ·rcases List.mem_cons.1 hu with rfl|hu
     ·exact Wu
     exact g2 u hu
    cases k with
    |zero=>simp at hk;subst hk;exact hy
    |succ k=>rw[show o+(k+1)=o+1+k by omega];exact g3 k v (by simpa using hk)
  obtain⟨us,g1,g2,g3⟩:=one row o (λk s hk=>by have:=h2 k s hk;simpa using this);obtain⟨vs,g4,g5,g6,g7⟩:=Az (M:=M) (b:=b) (sz:=sz) rows (o+sz) (λi r hr=>by
   have:=h (i+1) r (by simpa using hr);rwa[show o+(i+1)*sz=o+sz+i*sz by rw[Nat.add_mul];omega]at this)
  have hl:=g1.length;refine⟨us++vs,?_,?_,λu hu=>?_,λk v hk=>?_⟩
  ·rw[List.flatten_cons];exact SV.ef.append g1 g4
  ·rw[List.length_append,g5,<-hl,h1,List.length_cons,Nat.add_mul];omega
  ·rcases List.mem_append.1 hu with hu|hu
   ·exact g2 u hu
   exact g6 u hu
  rw[List.getElem?_append]at hk;split at hk
  ·exact g3 k v hk
  have:=g7 _ v hk;rwa[show o+sz+(k-us.length)=o+k by omega]at this
theorem RT.OP(hg:Gd ops S gd rg){n by_:Nat}{zv:Value}[tS:eM P T E0 n][tE:jw P E0 n by_ zv](old:List (Nat×kK))(rr:List Nat){m:Nat}{cs:List SV}{s:SV}{rows:List (List SV)}[hs:ON s n rows]
  (hx:∀S' E a w,bn C S' E a w->S'.ev x=S.ev x->(∀i∈rr,S'.r i=S.r i)->(∃vs,w.ownsRow 0 E0 n (a.eval x) m vs/\SV.ef E.M cs vs)/\((old=[]/\(a.eval x).ownBlock=none)\/∃i R,old=[(i,.dead)]/\S'.r i=.live R/\(a.eval x).ownBlock=(E.ν i).ownBlock))
  (hy:S.ev y=.sv s) (hd:d<S.n) (xN:S.r d=.un) (we:d<1000) (Lf:d∈rr) (hroom:(m+rows.length)*by_<=140737488355328) (rZ:m+rows.length<=140737488355328) {R':Row} (nU:R'=⟨E0,n,m+rows.length,cs++rows.flatten⟩)
  (next:RunT P C ops nd K rest (⟨rg++(aZ x++aZ y),[],rr,⟨some (d,.row d),[],old++[(d,.live R')]⟩⟩::acc) ((AS.b9 (old++[(d,.live R')]) S).set d (.row d))):RunT P C ops nd K (⟨some d,.call ⟨.builtin .append,#[x,y],#[T,T]⟩,ty,pos,aft,gd⟩::rest) acc S:=by
 subst nU;refine .inl ⟨_,[],rr,_,?_,next⟩;rintro S' hn ht _ hr i a w L Q ho ⟨E,h⟩ hL;refine cA (C:=C) ho (hg.wanted h (λs hs=>ht s (List.mem_append_left _ hs)) Y) ?_;obtain⟨⟨vs,hown,hvs⟩,hold⟩:=hx S' E a w h (bw (λ_ h=>List.mem_append_right _ (List.mem_append_left _ h)) ht) hr;have h2:=h.ev y;rw[bw (λ_ h=>List.mem_append_right _ (List.mem_append_right _ h)) ht,hy]at h2;obtain⟨info,hi,hsz,hby,hz⟩:=jw.info (P:=P) (E:=E0) (n:=n) (by_:=by_) (z:=zv);have JN:S'.r d=.un:=by rw[hr d Lf];exact xN
 have run:∃v' w' vs',(Builtin.append_ #[T,T] ty #[a.eval x,a.eval y]).run P w=.ok v' w'/\w'.ownsRow 0 E0 n v' (m+rows.length) vs'/\SV.ef E.M (cs++rows.flatten) vs'/\w.grownBy w' (a.eval x).ownBlock/\(v'.ownBlock=(a.eval x).ownBlock\/v'.ownBlock=some w.heap.size\/v'.ownBlock=none):=by
  rcases hs.h _ _ h2 with⟨a0,e,e2⟩|⟨b,o,c,e,hc,E6,hrow⟩
  ·rw[e,e2];cases a0 with
   |none=>exact⟨_,_,vs,run_append_owned_none w 0 T ty E0 info n tS.u hi _ m vs hown,by simpa using hown,by simpa using hvs,⟨Y,Y,Y,Nat.le_refl _,λ_ _ _=>Y⟩,.inl Y⟩
   |some a0=>
    rw[e2,List.length_nil]at hroom rZ;obtain⟨v',w',q1,q2,q3,_,q4⟩:=run_append_own_at (P:=P) w 0 T ty E0 info zv n by_ tS.u hi hz hsz hby tE.z tE.p _ m vs hown a0 0 0 [] (by simp) (by simp) (by simp) (by unfold maxLen;omega) hroom (Nat.zero_le _);exact⟨v',w',vs,q1,by simpa using q2,by simpa using hvs,q3,q4.imp id .inl⟩
  obtain⟨us,g1,g2,g3,g4⟩:=Az rows o hrow;rw[e];obtain⟨v',w',q1,q2,q3,_,q4⟩:=run_append_own_at (P:=P) w 0 T ty E0 info zv n by_ tS.u hi hz hsz hby tE.z tE.p _ m vs hown ⟨b,o,none⟩ rows.length c us g2 (λj u hj=>by rw[fP];exact(h.dh _ _ _ (g4 j u hj)).cell (g3 u (List.mem_of_getElem? hj))) g3 (by unfold maxLen;omega) hroom (Nat.zero_le _);exact⟨v',w',vs++us,q1,q2,SV.ef.append hvs g1,q3,q4.imp id .inl⟩
 obtain⟨v',w',vs',q1,q2,q3,q4,q5⟩:=run;have hr':(execOp a.eval ⟨some d,.call ⟨.builtin .append,#[x,y],#[T,T]⟩,ty,pos,aft,gd⟩).run P w=.ok (.value v') w':=by
  simp[execOp,resolve,invoke,builtin,q1]
 refine ct (C:=C) (by intro c h;cases h) hr' (hL _ _ ⟨_,(h.newRow JN we old (a.eval x).ownBlock hold (R':=⟨E0,n,m+rows.length,cs++rows.flatten⟩) q2 q3 q5 q4).put (x:=.row d) (v:=v') (by simp[AV.holds]) (by rw[(eU _ _).1];omega) ⟨λ_ e=>e.elim,λj e=>?_⟩⟩);cases e;rw[jR];have:∀l:List (Nat×kK),dL (l++[(d,kK.live ⟨E0,n,m+rows.length,cs++rows.flatten⟩)]) d=some (.live ⟨E0,n,m+rows.length,cs++rows.flatten⟩):=by
  intro l
  induction l with
  |nil=>simp[dL]
  |cons p l ih=>obtain⟨i,R⟩:=p;rw[List.cons_append,dL,ih]
 rw[this];simp
theorem RT.OQ(hg:Gd ops S gd rg){n by_:Nat}{zv:Value}[tS:eM P T E0 n][tE:jw P E0 n by_ zv]{s:SV}{rows:List (List SV)}[hs:ON s n rows]{i m:Nat}{cs:List SV}(hx:S.ev x=.row i)(hR:S.r i=.live ⟨E0,n,m,cs⟩)(hy:S.ev y=.sv s)(hd:d<S.n)(xN:S.r d=.un)(we:d<1000)
  (hroom:(m+rows.length)*by_<=140737488355328) (rZ:m+rows.length<=140737488355328) (R':Row) (nU:R'=⟨E0,n,m+rows.length,cs++rows.flatten⟩)
  (next:RunT P C ops nd K rest (⟨rg++(aZ x++aZ y),[],[i,d],⟨some (d,.row d),[],[(i,.dead),(d,.live R')]⟩⟩::acc) ((AS.b9 [(i,.dead),(d,.live R')] S).set d (.row d))):RunT P C ops nd K (⟨some d,.call ⟨.builtin .append,#[x,y],#[T,T]⟩,ty,pos,aft,gd⟩::rest) acc S:=by
 refine RT.OP hg [(i,.dead)] [i,d] (m:=m) (cs:=cs) (s:=s) (rows:=rows) (λS' E a w h e hr=>?_) hy hd xN we (by simp) hroom rZ nU next
 have h1:a.eval x=E.ν i:=by have h1:=h.ev x;rw[e,hx]at h1;exact h1
 have nU:S'.r i=.live ⟨E0,n,m,cs⟩:=by rw[hr i (by simp)];exact hR
 rw[h1];obtain⟨⟨vs,h2,h3⟩,_⟩:=h.rx i _ nU;exact⟨⟨vs,h2,h3⟩,.inr ⟨i,_,Y,nU,Y⟩⟩
theorem RT.Wv(hg:Gd ops S gd rg){n by_:Nat}{zv:Value}[tS:eM P T E0 n][tE:jw P E0 n by_ zv]{kl kc:IntKind}{c:Int}(hx:S.ev x=.sv (.v (.int kl 0)))(hy:S.ev y=.sv (.v (.int kc c)))(hd:d<S.n)(xN:S.r d=.un)(we:d<1000)(h0:0<=c)(hroom:(by_:Int)*c<=281474976710656)(rZ:c<=140737488355328)
  (next:RunT P C ops nd K rest (⟨rg++(aZ x++aZ y),[],[d],⟨some (d,.row d),[],[(d,.live ⟨E0,n,0,[]⟩)]⟩⟩::acc) ((AS.b9 [(d,.live ⟨E0,n,0,[]⟩)] S).set d (.row d))):RunT P C ops nd K (⟨some d,.makeSlice T x y,ty,pos,aft,gd⟩::rest) acc S:=by
 refine .inl ⟨_,[],[d],_,?_,next⟩;rintro S' hn ht _ hr i a w L Q ho ⟨E,h⟩ hL;refine cA (C:=C) ho (hg.wanted h (λs hs=>ht s (List.mem_append_left _ hs)) Y) ?_;have h1:a.eval x=.int kl 0:=by have h1:=h.ev x;rw[bw (λ_ h=>List.mem_append_right _ (List.mem_append_left _ h)) ht,hx]at h1;exact h1
 have h2:a.eval y=.int kc c:=by have h2:=h.ev y;rw[bw (λ_ h=>List.mem_append_right _ (List.mem_append_right _ h)) ht,hy]at h2;exact h2
 obtain⟨info,hi,hsz,hby,hz⟩:=jw.info (P:=P) (E:=E0) (n:=n) (by_:=by_) (z:=zv);obtain⟨m,rfl⟩:=Int.eq_ofNat_of_zero_le h0;have hm:info.bytes*m<=281474976710656:=by
  rw[hby];have:((by_*m:Nat):Int)<=281474976710656:=by rw[Int.natCast_mul];exact hroom
  omega
 obtain⟨w',q1,q2,q3⟩:=run_make_own (P:=P) w 0 T E0 info zv n tS.u hi hz hsz kl kc m hm (by unfold maxLen;omega) (Nat.zero_le _);have hr':(execOp a.eval ⟨some d,.makeSlice T x y,ty,pos,aft,gd⟩).run P w=.ok (.value (.slice (some ⟨w.heap.size,0,none⟩) 0 m)) w':=by
  simp only[execOp,h1,h2];simp[q1]
 have JN:S'.r d=.un:=by rw[hr d (by simp)];exact xN
 refine ct (C:=C) (by intro c h;cases h) hr' (hL _ _ ⟨_,(h.newRow JN we [] none (.inl ⟨rfl,rfl⟩) (R':=⟨E0,n,0,[]⟩) q2 (vs':=[]) trivial (.inr (.inl rfl)) q3).put (x:=.row d) (by simp[AV.holds]) (by show d<S'.n;omega) ⟨λ_ e=>e.elim,λj e=>?_⟩⟩);cases e;show(AS.pE S' d _).r d≠_;rw[AS.gW];simp
end steps
end
section
open Go.RowKit
def AV.nD(i:Nat)(X:SV):AV->AV
 |.row j=>bif Nat.beq j i then .sv X else .row j
 |.iS j k=>bif Nat.beq j i then .sv .any else .iS j k
 |.nC j o l=>bif Nat.beq j i then .sv .any else .nC j o l
 |.cmp t js=>bif js.any (Fc.yN i)then .sv .any else .cmp t js
 |x=>x
def AS.nD(S:AS)(i:Nat)(X:SV):AS:={S with t:=λs=>(S.t s).nD i X,b:=λj=>(S.b j).map λB=>⟨B.T,B.cells.map (AV.nD i X)⟩,r:=λj=>bif Nat.beq j i then .dead else S.r j}
theorem Ll{i:Nat}{X:SV}{x:AV}{j:Nat}(h:(x.nD i X).mb j):x.mb j:=by
 cases x with
 |row k=>simp only[AV.nD]at h;cases e:Nat.beq k i<;>rw[e]at h<;>exact h.elim
 |iS k o=>simp only[AV.nD]at h;cases e:Nat.beq k i<;>rw[e]at h<;>exact h.elim
 |nC k o l=>simp only[AV.nD]at h;cases e:Nat.beq k i<;>rw[e]at h<;>exact h.elim
 |cmp t js=>
  simp only[AV.nD]at h;cases e:js.any (Fc.yN i)with
  |true=>rw[e]at h;exact h.elim
  |false=>rw[e]at h;exact h
 |_=>exact h
theorem Lm{i:Nat}{X:SV}{x:AV}{j:Nat}(h:(x.nD i X).mr j):x.mr j/\j≠i:=by
 cases x with
 |row k=>
  simp only[AV.nD]at h;cases e:Nat.beq k i with
  |true=>rw[e]at h;exact h.elim
  |false=>
   rw[e]at h;cases h;exact⟨rfl,by rintro rfl;simp at e⟩
 |iS k o=>
  simp only[AV.nD]at h;cases e:Nat.beq k i with
  |true=>rw[e]at h;exact h.elim
  |false=>
   rw[e]at h;cases h;exact⟨rfl,by rintro rfl;simp at e⟩
 |nC k o l=>
  simp only[AV.nD]at h;cases e:Nat.beq k i with
  |true=>rw[e]at h;exact h.elim
  |false=>
   rw[e]at h;cases h;exact⟨rfl,by rintro rfl;simp at e⟩
 |cmp t js=>
  simp only[AV.nD]at h;cases e:js.any (Fc.yN i)with
  |true=>rw[e]at h;exact h.elim
  |false=>
   rw[e]at h;refine⟨h,?_⟩;rintro rfl;have:js.any (Fc.yN j)=true:=List.any_eq_true.2 ⟨_,h,by simp[Fc.yN]⟩;rw[this]at e;cases e
 |_=>exact h.elim
def Rows(sz:Nat)(rows:List (List SV))(cells:List SV):Prop:=rows.flatten=cells/\∀r∈rows,r.length=sz
theorem pW{sz:Nat}:∀{rows:List (List SV)} {cells:List SV},Rows sz rows cells->∀(i:Nat) (row:List SV),rows[i]? =some row->row.length=sz/\∀(k:Nat) (s:SV),row[k]? =some s->cells[i*sz+k]? =some s
 |[],_,_,_,_,h=>by simp at h
 |r::rows,cells,⟨h1,h2⟩,0,row,h=>by
  simp at h;subst h;refine⟨h2 r (by simp),λk s hk=>?_⟩;rw[<-h1,List.flatten_cons];have hk':=(List.getElem?_eq_some_iff.1 hk).1;rw[Nat.zero_mul,Nat.zero_add,List.getElem?_append_left hk'];exact hk
 |r::rows,cells,⟨h1,h2⟩,i+1,row,h=>by
  have ih:=pW (sz:=sz) (rows:=rows) (cells:=rows.flatten) ⟨Y,λr hr=>h2 r (List.mem_cons_of_mem _ hr)⟩ i row (by simpa using h);refine⟨ih.1,λk s hk=>?_⟩;have hr:=h2 r (by simp);rw[<-h1,List.flatten_cons,List.getElem?_append_right (by rw[hr,Nat.add_mul];omega),hr,show(i+1)*sz+k-sz=i*sz+k by rw[Nat.add_mul];omega];exact ih.2 k s hk
theorem r5{sz:Nat}:∀{rows:List (List SV)} {cells:List SV},Rows sz rows cells->cells.length=rows.length*sz
 |[],_,⟨h,_⟩=>by rw[<-h];simp
 |r::rows,cells,⟨h1,h2⟩=>by
  have ih:=r5 (sz:=sz) (rows:=rows) (cells:=rows.flatten) ⟨Y,λr hr=>h2 r (List.mem_cons_of_mem _ hr)⟩;rw[<-h1,List.flatten_cons,List.length_append,ih,h2 r (by simp),List.length_cons,Nat.add_mul];omega
theorem bn.nD{C:Ctx}{S:AS}{E:Env}{a:Act}{w:World}(h:bn C S E a w){i:Nat}{R:Row}(hR:S.r i=.live R){rows:List (List SV)}(jc:Rows R.sz rows R.cells)(hn:rows.length=R.n)(hlen:R.n<=9223372036854775807)(hone:∀M vs,SV.ef M R.cells vs->∀v∈vs,v.oneCell'=true)
  {X:SV} (hX:∀M v,(slc R.sz rows).h M v->(∀g,v.ownBlock=some g->(C.w0.heap.size<=g\/C.tO g)/\∃o,M g o=some (.agg #[]))->X.h M v):∃E',bn C (S.nD i X) E' a w:=by
 obtain⟨⟨vs,hown,hvs⟩,jW⟩:=h.rx i R hR;have hvl:=hvs.length;have uG:=r5 jc;obtain⟨M',hM,hval,hnew,hin,hmk⟩:∃M':Mem,E.M.le M'/\(slc R.sz rows).h M' (E.ν i)/\(∀b o v,M' b o=some v->E.M b o=some v\/(E.ν i).ownBlock=some b)/\M'.dh w/\∀g,(E.ν i).ownBlock=some g->∃o,M' g o=some (.agg #[]):=by
  rcases hown.2 with⟨h1,h2⟩|⟨g,cap,cur,h1,_,h2,h3,_,h5,h6⟩
  ·refine⟨E.M,Mem.le_refl _,.inl ⟨none,h1,?_⟩,λ_ _ _ e=>.inl e,h.dh,λg e=>by rw[h1]at e;cases e⟩;rw[h2]at hn;exact List.length_eq_zero_iff.1 hn
  have hg:(E.ν i).ownBlock=some g:=by rw[h1];rfl
  have hno:=(jW g hg).2.1;refine⟨λb o=>if b=g/\o<R.n*R.sz then vs[o]? else if b=g/\o=R.n*R.sz then some (.agg #[])else E.M b o,λb o v e=>?_,?_,λb o v e=>?_,λb o v e=>?_,λg' e=>⟨R.n*R.sz,by rw[hg]at e;cases e;simp⟩⟩
  ·have:b≠g:=by rintro rfl;rw[hno o]at e;cases e
   simp[this,e]
  ·refine .inr ⟨g,0,cap,by rw[h1,hn],by rw[hn];exact h3,by omega,λk row hk=>?_⟩;obtain⟨q1,q2⟩:=pW jc k row hk;refine⟨q1,λj s hs=>?_⟩;have Ck:=q2 j s hs;obtain⟨y,hy,hys⟩:=hvs.get Ck;have hlt:k*R.sz+j<R.n*R.sz:=by
    have:=(List.getElem?_eq_some_iff.1 Ck).1;rw[uG,hn]at this;exact this
   refine⟨y,by simp[hlt,hy],hone _ _ hvs y (List.mem_of_getElem? hy),s.mono (λb o v e=>?_) hys⟩;have:b≠g:=by rintro rfl;rw[hno o]at e;cases e
   simp[this,e]
  ·simp only at e;split at e
   ·rename_i hc;exact .inr (by rw[hg,hc.1])
   split at e
   ·rename_i hc;exact .inr (by rw[hg,hc.1])
   exact .inl e
  simp only at e;split at e
  ·rename_i hc;obtain⟨rfl,E6⟩:=hc;refine .of ?_ (hone _ _ hvs v (List.mem_of_getElem? e));simp only[World.cell?,h2];rw[<-h6,List.getElem?_take,if_pos E6]at e;simpa using e
  split at e
  ·rename_i hc;cases e;rw[hc.1];exact⟨_,_,h2⟩
  exact h.dh b o v e
 have Ht:∀b,(E.ν i).ownBlock=some b->(C.w0.heap.size<=b\/C.tO b)/\(∀o,E.M b o=none)/\¬E.O b/\∀j B,S.b j=some B->E.β j≠b:=jW;have E8:∀x:AV,(x.mr i->True)->∀v,x.holds E v->(x.nD i X).holds {E with M:=M'} v:=by
  intro x _ v hv;cases x with
  |row k=>
   simp only[AV.nD];cases e:Nat.beq k i with
   |true=>
    obtain rfl:=Nat.eq_of_beq_eq_true e;have hv:v=E.ν k:=hv;show X.h M' v;rw[hv];exact hX _ _ hval (λg hg=>⟨(jW g hg).1,hmk g hg⟩)
   |false=>exact hv
  |iS k o=>
   simp only[AV.nD];cases e:Nat.beq k i with
   |true=>trivial
   |false=>exact hv
  |nC k o l=>
   simp only[AV.nD];cases e:Nat.beq k i with
   |true=>trivial
   |false=>exact hv
  |cmp t js=>
   simp only[AV.nD];cases e:js.any (Fc.yN i)with
   |true=>trivial
   |false=>exact AV.cI (E:=E) (E':={E with M:=M'}) (x:=.cmp t js) hM (λ_ _=>rfl) (λ_ _=>rfl) hv
  |_=>exact AV.cI (E:=E) (E':={E with M:=M'}) hM (λ_ _=>rfl) (λ_ _=>rfl) hv
 have AA:∀b,(∀o,E.M b o=none)->(E.ν i).ownBlock≠some b->∀o,M' b o=none:=λb h1 h2 o=>by
  cases e:M' b o with
  |none=>rfl
  |some v=>
   rcases hnew b o v e with h3|h3
   ·rw[h1 o]at h3;cases h3
   exact absurd h3 h2
 have zx:∀j B',(S.nD i X).b j=some B'->∃B,S.b j=some B/\B'=⟨B.T,B.cells.map (AV.nD i X)⟩:=by
  intro j B' fu;simp only[AS.nD]at fu;cases e:S.b j with
  |none=>rw[e]at fu;cases fu
  |some B=>rw[e]at fu;cases fu;exact⟨B,rfl,rfl⟩
 have VY:∀j,(S.nD i X).r j=if j=i then .dead else S.r j:=by
  intro j;simp only[AS.nD];by_cases e:j=i
  ·subst e;simp
  simp[cC e,e]
 have Ln:∀j R',(S.nD i X).r j=.live R'->S.r j=.live R'/\j≠i:=by
  intro j R' hj;rw[VY]at hj;split at hj
  ·cases hj
  rename_i hne;exact⟨hj,hne⟩
 have QA:∀j,S.r j≠ .un->(S.nD i X).r j≠ .un:=by
  intro j hj;rw[VY];split
  ·simp
  exact hj
 have E9:∀j,(∃B,S.b j=some B)->∃B,(S.nD i X).b j=some B:=by
  rintro j ⟨B,hB⟩;exact⟨_,by simp only[AS.nD,hB,Option.map_some];rfl⟩
 refine⟨{E with M:=M'},{
  wf:=by
   refine⟨λs j hj=>E9 j (h.wf.tb s j (Ll hj)),λs j hj=>QA j (h.wf.tr s j (Lm hj).1),λk B' fu x hx j hj=>?_,λk B' fu x hx j hj=>?_⟩
   ·obtain⟨B,hB,rfl⟩:=zx k B' fu;obtain⟨y,hy,rfl⟩:=List.mem_map.1 hx;exact E9 j (h.wf.bb k B hB y hy j (Ll hj))
   obtain⟨B,hB,rfl⟩:=zx k B' fu;obtain⟨y,hy,rfl⟩:=List.mem_map.1 hx;exact QA j (h.wf.br k B hB y hy j (Lm hj).1)
  marks:=h.marks
  size:=h.size
  os:=h.os
  tape:=h.tape
  output:=h.output
  grown:=h.grown
  frame:=h.frame
  m0:=Mem.le_trans h.m0 hM
  eG:=λb o v e=>by
   rcases hnew b o v e with h1|h1
   ·exact h.eG b o v h1
   rcases(Ht b h1).1 with h2|h2
   ·exact .inr (.inl h2)
   exact .inr (.inr (C.Cf _ h2))
  dh:=hin
  tm:=λs=>E8 _ (λ_=>trivial) _ (h.tm s)
  bx:=λj B' fu=>by
   obtain⟨B,hB,rfl⟩:=zx j B' fu;obtain⟨h1,h2,h3,us,h4,h5⟩:=h.bx j B hB;refine⟨h1,AA _ h2 (λe=>(Ht _ e).2.2.2 j B hB Y),h3,us,h4,?_⟩;have key:∀(l:List AV) (us:List Value),di E l us->di {E with M:=M'} (l.map (AV.nD i X)) us:=by
    intro l
    induction l with
    |nil=>intro us h;cases us with|nil=>trivial|cons _ _=>exact h.elim
    |cons x l ih=>
     intro us h;cases us with
     |nil=>exact h.elim
     |cons u us=>exact⟨E8 x (λ_=>trivial) u h.1,ih us h.2⟩
   exact key _ _ h5
  inj:=λj k B B' hj hk e=>by
   obtain⟨_,h1,_⟩:=zx j B hj;obtain⟨_,h2,_⟩:=zx k B' hk;exact h.inj j k _ _ h1 h2 e
  rx:=λj R' hj=>by
   obtain⟨h1,h2⟩:=Ln j R' hj;obtain⟨⟨us,h3,h4⟩,h5⟩:=h.rx j R' h1;refine⟨⟨us,h3,h4.mono hM⟩,λg hg=>?_⟩;obtain⟨h6,h7,h8,h9⟩:=h5 g hg;refine⟨h6,AA _ h7 (λe=>h2 (h.fm j i R' R h1 hR g hg e)),h8,λk B' fu=>?_⟩;obtain⟨B,hB,_⟩:=zx k B' fu;exact h9 k B hB
  fm:=λj k R1 R2 hj hk=>h.fm j k R1 R2 (Ln j R1 hj).1 (Ln k R2 hk).1
  gC:=h.gC
  ee:=h.ee
  kD:=λb hb=>by
   obtain⟨h1,h2,h3⟩:=h.kD b hb;exact⟨h1,AA b h2 (λe=>(Ht b e).2.2.1 hb),h3⟩
  jj:=C.jf _ _ _ _ _ _ _ h.jj hM hin (λb o v e=>by
   rcases hnew b o v e with h1|h1
   ·exact .inl h1
   exact .inr ⟨(Ht b h1).1,(Ht b h1).2.2.1⟩) (λ_ _=>rfl) rfl rfl rfl (Nat.le_refl _)}⟩
def iT(g:FuncId)(caps:List SV):SV:=⟨λM v=>∃vs:List Value,v=.func (.func g) #[] ⟨vs⟩/\SV.ef M caps vs,λhM ⟨vs,e,h⟩=>⟨vs,e,h.mono hM⟩⟩
def qE.nD(i:Nat)(cs:List SV):qE->qE
 |.box j=>bif Nat.beq j i then .val (ref cs)else .box j
 |c=>c
def qE.yT(i:Nat):qE->qE
 |.box j=>bif Nat.beq j i then .val .any else .box j
 |c=>c
def AV.yT(i:Nat):AV->AV
 |.ptr j o=>bif Nat.beq j i then .sv .any else .ptr j o
 |.EO j o l c=>bif Nat.beq j i then .sv .any else .EO j o l c
 |.fV g js=>.fV g (js.map (qE.yT i))
 |.cmp t js=>bif js.any (Fc.CU i)then .sv .any else .cmp t js
 |x=>x
def Lo:List (Nat×AV)->Nat->Option AV
 |[],_=>none
 |(k,x)::l,s=>bif Nat.beq s k then some x else Lo l s
def AS.Fa(S:AS)(i:Nat)(ts:List (Nat×AV)):AS:={S with t:=λs=>(Lo ts s).getD ((S.t s).yT i),b:=λj=>bif Nat.beq j i then none else(S.b j).map λB=>⟨B.T,B.cells.map (AV.yT i)⟩}
theorem Hu{i:Nat}{x:AV}{j:Nat}(h:(x.yT i).mb j):x.mb j/\j≠i:=by
 cases x with
 |ptr k o=>
  simp only[AV.yT]at h;cases e:Nat.beq k i with
  |true=>rw[e]at h;exact h.elim
  |false=>rw[e]at h;cases h;exact⟨rfl,by rintro rfl;simp at e⟩
 |EO k o l c=>
  simp only[AV.yT]at h;cases e:Nat.beq k i with
  |true=>rw[e]at h;exact h.elim
  |false=>rw[e]at h;cases h;exact⟨rfl,by rintro rfl;simp at e⟩
 |fV g js=>
  have h:qE.box j∈js.map (qE.yT i):=h;obtain⟨c,hc,e⟩:=List.mem_map.1 h;cases c with
  |val s=>cases e
  |box k=>
   simp only[qE.yT]at e;cases e2:Nat.beq k i with
   |true=>rw[e2]at e;cases e
   |false=>rw[e2]at e;cases e;exact⟨hc,by rintro rfl;simp at e2⟩
 |cmp t js=>
  simp only[AV.yT]at h;cases e:js.any (Fc.CU i)with
  |true=>rw[e]at h;exact h.elim
  |false=>
   rw[e]at h;refine⟨h,?_⟩;rintro rfl;have:js.any (Fc.CU j)=true:=List.any_eq_true.2 ⟨_,h,by simp[Fc.CU]⟩;rw[this]at e;cases e
 |_=>exact h.elim
theorem Lp{i:Nat}{x:AV}{j:Nat}(h:(x.yT i).mr j):x.mr j:=by
 cases x with
 |ptr k o=>simp only[AV.yT]at h;cases e:Nat.beq k i<;>rw[e]at h<;>exact h.elim
 |EO k o l c=>simp only[AV.yT]at h;cases e:Nat.beq k i<;>rw[e]at h<;>exact h.elim
 |fV g js=>exact h.elim
 |cmp t js=>
  simp only[AV.yT]at h;cases e:js.any (Fc.CU i)with
  |true=>rw[e]at h;exact h.elim
  |false=>rw[e]at h;exact h
 |_=>exact h
inductive FT (S:AS) (i:Nat) (cs:List SV) (X:SV) (L:Nat):Nat->AV->Prop
 |sl {s:Nat} (h:S.t s=.EO i 0 L L):FT S i cs X L s (.sv X)
 |ptr {s o:Nat} (h:S.t s=.ptr i o):FT S i cs X L s (.sv (ref (cs.drop o)))
 |fV {s:Nat} {g:FuncId} {js:List qE} (h:S.t s=.fV g js):FT S i cs X L s (.fV g (js.map (qE.nD i cs)))
def VZ(S:AS)(i:Nat)(cs:List SV)(X:SV)(L:Nat):List (Nat×AV)->Prop
 |[]=>True
 |(k,x)::l=>FT S i cs X L k x/\VZ S i cs X L l
theorem VZ.get{S:AS}{i:Nat}{cs:List SV}{X:SV}{L:Nat}:∀{ts:List (Nat×AV)},VZ S i cs X L ts->∀s x,Lo ts s=some x->FT S i cs X L s x
 |[],_,_,_,h=>by cases h
 |(k,y)::l,hf,s,x,h=>by
  by_cases e:s=k
  ·subst e;simp[Lo]at h;subst h;exact hf.1
  simp only[Lo,cC e,cond_false]at h;exact VZ.get hf.2 s x h
theorem bn.Fa{C:Ctx}{S:AS}{E:Env}{a:Act}{w:World}(h:bn C S E a w){i:Nat}{B:nX}(hB:S.b i=some B){cs:List SV}(Lj:KN B.cells 0 cs){X:SV}{L:Nat}
  (hX:∀M b,(∀(k:Nat) (s:SV),cs[k]? =some s->∃y,M b k=some y/\y.oneCell'=true/\s.h M y)->X.h M (.slice (some ⟨b,0,none⟩) L L)) (hone:∀M vs,SV.ef M cs vs->∀v∈vs,v.oneCell'=true)
  {ts:List (Nat×AV)} (hts:VZ S i cs X L ts):∃E',bn C (S.Fa i ts) E' a w:=by
 obtain⟨xO,Cb,Zw,vs,hv,hall⟩:=h.bx i B hB;obtain⟨us,zW,kN⟩:=Lj.vals hall
 let M':Mem:=λb o=>if b=E.β i then us[o]? else E.M b o
 have hM:E.M.le M':=λb o v e=>by
  have:b≠E.β i:=by rintro rfl;rw[Cb o]at e;cases e
  simp[M',this,e]
 have hnew:∀b o v,M' b o=some v->E.M b o=some v\/b=E.β i:=λb o v e=>by
  by_cases hb:b=E.β i
  ·exact .inr hb
  simp only[M',if_neg hb]at e;exact .inl e
 have hin:M'.dh w:=λb o v e=>by
  by_cases hb:b=E.β i
  ·subst hb;simp only[M',if_true]at e;have:=kN o v e;refine .of ?_ (hone _ _ zW v (List.mem_of_getElem? e));simp[World.cell?,hv];simpa using this
  simp only[M',if_neg hb]at e;exact h.dh b o v e
 have hcs:∀(k:Nat) (s:SV),cs[k]? =some s->∃y,M' (E.β i) k=some y/\y.oneCell'=true/\s.h M' y:=λk s hk=>by
  obtain⟨y,hy,hs⟩:=zW.get hk;exact⟨y,by simp[M',hy],hone _ _ zW y (List.mem_of_getElem? hy),s.mono hM hs⟩
 have AA:∀b,(∀o,E.M b o=none)->b≠E.β i->∀o,M' b o=none:=λb h1 h2 o=>by simp[M',h2,h1 o]
 have Ww:∀o,(ref (cs.drop o)).h M' (.pointer (some ⟨E.β i,o,none⟩)):=λo=>⟨E.β i,o,Y,λj s hj=>by
  rw[List.getElem?_drop]at hj;exact hcs _ s hj⟩
 have E8:∀x:AV,∀v,x.holds E v->(x.yT i).holds {E with M:=M'} v:=by
  intro x v uu;cases x with
  |ptr k o=>
   simp only[AV.yT];cases e:Nat.beq k i with
   |true=>trivial
   |false=>exact uu
  |EO k o l c=>
   simp only[AV.yT];cases e:Nat.beq k i with
   |true=>trivial
   |false=>exact uu
  |fV g js=>
   obtain⟨ws,rfl,hc⟩:=uu;refine⟨ws,Y,?_⟩;have key:∀(l:List qE) (ws:List Value),zu E l ws->zu {E with M:=M'} (l.map (qE.yT i)) ws:=by
    intro l
    induction l with
    |nil=>intro ws h;cases ws with|nil=>trivial|cons _ _=>exact h.elim
    |cons c l ih=>
     intro ws h;cases ws with
     |nil=>exact h.elim
     |cons u ws=>
      refine⟨?_,ih ws h.2⟩;have h1:=h.1;cases c with
      |val s=>exact s.mono hM h1
      |box k=>
       simp only[qE.yT];cases e:Nat.beq k i with
       |true=>trivial
       |false=>exact h1
   exact key js ws hc
  |sv s=>exact s.mono hM uu
  |row k=>exact uu
  |iS k o=>exact uu
  |nC k o l=>exact uu
  |cmp t js=>
   simp only[AV.yT];cases e:js.any (Fc.CU i)with
   |true=>trivial
   |false=>exact AV.cI (E:=E) (E':={E with M:=M'}) (x:=.cmp t js) hM (λ_ _=>rfl) (λ_ _=>rfl) uu
 have Wx:∀s v,(S.t s).holds E v->((Lo ts s).getD ((S.t s).yT i)).holds {E with M:=M'} v:=by
  intro s v uu;cases e:Lo ts s with
  |none=>exact E8 _ v uu
  |some x=>
   show x.holds _ v;cases hts.get s x e with
   |sl h1=>rw[h1]at uu;have uu:v=_:=uu;subst uu;exact hX M' _ hcs
   |ptr h1=>rw[h1]at uu;have uu:v=_:=uu;subst uu;exact Ww _
   | @fV g js h1=>
    rw[h1]at uu;obtain⟨ws,rfl,hc⟩:=uu;refine⟨ws,Y,?_⟩;have key:∀(l:List qE) (ws:List Value),zu E l ws->zu {E with M:=M'} (l.map (qE.nD i cs)) ws:=by
     intro l
     induction l with
     |nil=>intro ws h;cases ws with|nil=>trivial|cons _ _=>exact h.elim
     |cons c l ih=>
      intro ws h;cases ws with
      |nil=>exact h.elim
      |cons u ws=>
       refine⟨?_,ih ws h.2⟩;have h1:=h.1;cases c with
       |val s=>exact s.mono hM h1
       |box k=>
        simp only[qE.nD];cases e:Nat.beq k i with
        |true=>
         obtain rfl:=Nat.eq_of_beq_eq_true e;have h1:u=.pointer (some ⟨E.β k,0,none⟩):=h1;subst h1;exact Ww 0
        |false=>exact h1
    exact key js ws hc
 have zx:∀j B',(S.Fa i ts).b j=some B'->∃B,S.b j=some B/\j≠i/\B'=⟨B.T,B.cells.map (AV.yT i)⟩:=by
  intro j B' fu;simp only[AS.Fa]at fu;by_cases hj:j=i
  ·subst hj;simp at fu
  rw[cC hj]at fu;cases e:S.b j with
  |none=>rw[e]at fu;cases fu
  |some B=>rw[e]at fu;cases fu;exact⟨B,rfl,hj,rfl⟩
 have E9:∀j,j≠i->(∃B,S.b j=some B)->∃B,(S.Fa i ts).b j=some B:=by
  rintro j hj ⟨B,hB⟩;exact⟨⟨B.T,B.cells.map (AV.yT i)⟩,by simp[AS.Fa,cC hj,hB]⟩
 have tmb:∀s j,((Lo ts s).getD ((S.t s).yT i)).mb j->(S.t s).mb j/\j≠i:=by
  intro s j hj;cases e:Lo ts s with
  |none=>rw[e]at hj;exact Hu hj
  |some x=>
   rw[e]at hj;cases hts.get s x e with
   |sl h1=>exact hj.elim
   |ptr h1=>exact hj.elim
   | @fV g js h1=>
    rw[h1];have hj:qE.box j∈js.map (qE.nD i cs):=hj;obtain⟨c,hc,e2⟩:=List.mem_map.1 hj;cases c with
    |val s=>cases e2
    |box k=>
     simp only[qE.nD]at e2;cases e3:Nat.beq k i with
     |true=>rw[e3]at e2;cases e2
     |false=>rw[e3]at e2;cases e2;exact⟨hc,by rintro rfl;simp at e3⟩
 have tmr:∀s j,((Lo ts s).getD ((S.t s).yT i)).mr j->(S.t s).mr j:=by
  intro s j hj;cases e:Lo ts s with
  |none=>rw[e]at hj;exact Lp hj
  |some x=>
   rw[e]at hj;cases hts.get s x e with
   |sl h1=>exact hj.elim
   |ptr h1=>exact hj.elim
   |fV h1=>exact hj.elim
 refine⟨{E with M:=M'},{
  wf:=by
   refine⟨λs j hj=>E9 j (tmb s j hj).2 (h.wf.tb s j (tmb s j hj).1),λs j hj=>h.wf.tr s j (tmr s j hj),λk B' fu x hx j hj=>?_,λk B' fu x hx j hj=>?_⟩
   ·obtain⟨B,hB,_,rfl⟩:=zx k B' fu;obtain⟨y,hy,rfl⟩:=List.mem_map.1 hx;exact E9 j (Hu hj).2 (h.wf.bb k B hB y hy j (Hu hj).1)
   obtain⟨B,hB,_,rfl⟩:=zx k B' fu;obtain⟨y,hy,rfl⟩:=List.mem_map.1 hx;exact h.wf.br k B hB y hy j (Lp hj)
  marks:=h.marks
  size:=h.size
  os:=h.os
  tape:=h.tape
  output:=h.output
  grown:=h.grown
  frame:=h.frame
  m0:=Mem.le_trans h.m0 hM
  eG:=λb o v e=>by
   rcases hnew b o v e with h1|rfl
   ·exact h.eG b o v h1
   rcases xO with h2|h2
   ·exact .inr (.inl h2)
   exact .inr (.inr (C.Cf _ h2))
  dh:=hin
  tm:=λs=>Wx s _ (h.tm s)
  bx:=λj B' fu=>by
   obtain⟨B1,Zx,hj,rfl⟩:=zx j B' fu;obtain⟨h1,h2,h3,ws,h4,h5⟩:=h.bx j B1 Zx;refine⟨h1,AA _ h2 (λe=>hj (h.inj j i B1 B Zx hB e)),h3,ws,h4,?_⟩;have key:∀(l:List AV) (us:List Value),di E l us->di {E with M:=M'} (l.map (AV.yT i)) us:=by
    intro l
    induction l with
    |nil=>intro us h;cases us with|nil=>trivial|cons _ _=>exact h.elim
    |cons x l ih=>
     intro us h;cases us with
     |nil=>exact h.elim
     |cons u us=>exact⟨E8 x u h.1,ih us h.2⟩
   exact key _ _ h5
  inj:=λj k B1 B2 hj hk e=>by
   obtain⟨_,h1,_⟩:=zx j B1 hj;obtain⟨_,h2,_⟩:=zx k B2 hk;exact h.inj j k _ _ h1 h2 e
  rx:=λj R' hj=>by
   obtain⟨⟨ws,h3,h4⟩,h5⟩:=h.rx j R' hj;refine⟨⟨ws,h3,h4.mono hM⟩,λg hg=>?_⟩;obtain⟨h6,h7,h8,h9⟩:=h5 g hg;refine⟨h6,AA _ h7 (λe=>h9 i B hB e.symm),h8,λk B' fu=>?_⟩;obtain⟨B1,Zx,_⟩:=zx k B' fu;exact h9 k B1 Zx
  fm:=h.fm
  gC:=h.gC
  ee:=h.ee
  kD:=λb hb=>by
   obtain⟨h1,h2,h3⟩:=h.kD b hb;exact⟨h1,AA b h2 (λe=>Zw (e▸hb)),h3⟩
  jj:=C.jf _ _ _ _ _ _ _ h.jj hM hin (λb o v e=>by
   rcases hnew b o v e with h1|rfl
   ·exact .inl h1
   exact .inr ⟨xO,Zw⟩) (λ_ _=>rfl) rfl rfl rfl (Nat.le_refl _)}⟩
theorem gY{S:AS}{i:Nat}{B:nX}(hB:S.b i=some B)(cs:List SV)(Lj:KN B.cells 0 cs)(X:SV)(L:Nat)(ts:List (Nat×AV))
  (hX:∀M b,(∀(k:Nat) (s:SV),cs[k]? =some s->∃y,M b k=some y/\y.oneCell'=true/\s.h M y)->X.h M (.slice (some ⟨b,0,none⟩) L L)) (hone:∀M vs,SV.ef M cs vs->∀v∈vs,v.oneCell'=true)
  (hts:VZ S i cs X L ts):rV S (S.Fa i ts):=λ_ _ _ ⟨_,h⟩=>h.Fa hB Lj hX hone hts
end
section
open Go.RowKit
section lits
variable {P:Program}{C:Ctx}{ops:Array Oper}{S:AS}{nd:Bool}{K:List Ac->AS->Prop}{rest:List Oper}{acc:List Ac}
variable {gd:Option (Nat×Bool)}{rg:List Nat}{d:Nat}{ty:TypeId}{pos:String}{aft:Array Edge}{x y z:Operand}{T U E0:TypeId}
inductive nE (S:AS):List (Nat×Operand)->List (Nat×List SV)->Prop
 |nil:nE S [] []
 |agg {i:Nat} {x:Operand} {l:List SV} {ps:List (Nat×Operand)} {qs:List (Nat×List SV)} [o:qG l] (h:S.ev x=.sv (.agg l)) (t:nE S ps qs):nE S ((i,x)::ps) ((i,l)::qs)
 |one {i:Nat} {x:Operand} {s:SV} {ps:List (Nat×Operand)} {qs:List (Nat×List SV)} [o:One s] (h:S.ev x=.sv s) (t:nE S ps qs):nE S ((i,x)::ps) ((i,[s])::qs)
def uH(place:Nat->Option (Nat×Nat))(cells:List SV):List (Nat×List SV)->Option (List SV)
 |[]=>some cells
 |(i,v)::rest=>match place i with
  |none=>none
  |some (off,size)=>bif Nat.beq v.length size&&Nat.ble (off+v.length) cells.length then uH place (lO cells off v) rest else none
def kQ(ps:List (Nat×Operand)):List Nat:=ps.flatMap λp=>aZ p.2
theorem Fb:∀(us:List Value) (cs:Array Value) (off k:Nat),(us.zipIdx k).foldl (λcs (p:Value×Nat)=>cs.setIfInBounds (off+p.2) p.1) cs=⟨lO cs.toList (off+k) us⟩
 |[],cs,off,k=>by simp[lO]
 |u::us,cs,off,k=>by
  rw[List.zipIdx_cons,List.foldl_cons,Fb us,lO];simp[Nat.add_assoc]
theorem AB{M:Mem}:∀{xs:List SV} {us:List Value} {l:List SV} {vs:List Value} {k:Nat},SV.ef M l vs->SV.ef M xs us->SV.ef M (lO l k xs) (lO vs k us):=by
 have set:∀{l:List SV} {xs:List Value} {i:Nat} {s:SV} {x:Value},SV.ef M l xs->s.h M x->SV.ef M (l.set i s) (xs.set i x):=by
  intro l
  induction l with
  |nil=>intro xs i s x h hs;cases xs with|nil=>exact h|cons _ _=>exact h.elim
  |cons t l ih=>
   intro xs i s x h hs;cases xs with
   |nil=>exact h.elim
   |cons u xs=>
    cases i with
    |zero=>exact⟨hs,h.2⟩
    |succ i=>exact⟨h.1,ih h.2 hs⟩
 intro xs
 induction xs with
 |nil=>intro us l vs k h hx;cases us with|nil=>exact h|cons _ _=>exact hx.elim
 |cons s xs ih=>
  intro us l vs k h hx;cases us with
  |nil=>exact hx.elim
  |cons u us=>rw[lO,lO];exact ih (set h hx.1) hx.2
theorem AD{E:Env}{a:Act}{w:World}{S':AS}(h:bn C S' E a w)(place:Nat->Option (Nat×Nat)):∀{ps:List (Nat×Operand)} {qs:List (Nat×List SV)},nE S ps qs->(∀s∈kQ ps,S'.t s=S.t s)->∀{cells:List SV} {vs:List Value} {cs:List SV},
  SV.ef E.M cells vs->(∀v∈vs,v.oneCell'=true)->uH place cells qs=some cs->∃us:List Value,Instr.fill place ⟨vs⟩ (ps.map λp=>(p.1,a.eval p.2))=some ⟨us⟩/\SV.ef E.M cs us/\(∀v∈us,v.oneCell'=true):=by
 intro ps qs hp
 induction hp with
 |nil=>intro _ cells vs cs hv h1 hf;cases hf;exact⟨vs,rfl,hv,h1⟩
 | @agg i x l ps qs o hx _ ih=>
  intro ht cells vs cs hv h1 hf;have hx':=h.ev x;rw[bw (rs:=kQ ((i,x)::ps)) (λs hs=>by simp only[kQ,List.flatMap_cons];exact List.mem_append_left _ hs) ht,hx]at hx';obtain⟨us,hu,zW⟩:=hx';have hl:=zW.length;have hvl:=hv.length;rw[uH]at hf;rw[List.map_cons,Instr.fill];simp only[hu];cases Wy:place i with
  |none=>rw[Wy]at hf;cases hf
  |some q=>
   obtain⟨off,size⟩:=q;rw[Wy]at hf;simp only at hf⊢;cases hc:(Nat.beq l.length size&&Nat.ble (off+l.length) cells.length)with
   |false=>rw[hc]at hf;cases hf
   |true=>
    rw[hc]at hf;simp only[cond_true]at hf;rw[Bool.and_eq_true]at hc;have e1:=Nat.eq_of_beq_eq_true hc.1;have e2:=af hc.2;have E6:((Value.agg ⟨us⟩).cells.size≠size||off+(Value.agg ⟨us⟩).cells.size>(⟨vs⟩:Array Value).size)=false:=by
     simp[Value.cells];omega
    rw[if_neg (by rw[E6];simp)];have hfs:(Value.agg ⟨us⟩).cells.zipIdx.foldl (λ(cs:Array Value) (p:Value×Nat)=>cs.setIfInBounds (off+p.2) p.1) (⟨vs⟩:Array Value)=(⟨lO vs off us⟩:Array Value):=by
     have:=Fb us ⟨vs⟩ off 0;rw[<-Array.foldl_toList];simpa[Value.cells]using this
    have hone:∀v∈lO vs off us,v.oneCell'=true:=by
     have DC:∀(xs l:List Value) (k:Nat) (x:Value),x∈lO l k xs->x∈l\/x∈xs:=by
      intro xs
      induction xs with
      |nil=>intro l k x hx;exact .inl hx
      |cons z xs ih=>
       intro l k x hx;rw[lO]at hx;rcases ih _ _ _ hx with h1|h1
       ·rcases List.mem_or_eq_of_mem_set h1 with h2|h2
        ·exact .inl h2
        exact .inr (by simp[h2])
       exact .inr (List.mem_cons_of_mem _ h1)
     intro v uu;rcases DC _ _ _ _ uu with h2|h2
     ·exact h1 v h2
     exact o.h _ _ zW v h2
    obtain⟨Wz,g1,g2,g3⟩:=ih (λs hs=>ht s (by simp only[kQ,List.flatMap_cons];exact List.mem_append_right _ hs)) (AB hv zW) hone hf;refine⟨Wz,?_,g2,g3⟩;rw[<-g1];congr 1
 | @one i x s ps qs o hx _ ih=>
  intro ht cells vs cs hv h1 hf;have hx':=h.ev x;rw[bw (rs:=kQ ((i,x)::ps)) (λs hs=>by simp only[kQ,List.flatMap_cons];exact List.mem_append_left _ hs) ht,hx]at hx';have QB:=o.h _ _ hx';have hvl:=hv.length;rw[uH]at hf;rw[List.map_cons,Instr.fill];simp only[iI QB];cases Wy:place i with
  |none=>rw[Wy]at hf;cases hf
  |some q=>
   obtain⟨off,size⟩:=q;rw[Wy]at hf;simp only at hf⊢;cases hc:(Nat.beq [s].length size&&Nat.ble (off+[s].length) cells.length)with
   |false=>rw[hc]at hf;cases hf
   |true=>
    rw[hc]at hf;simp only[cond_true]at hf;rw[Bool.and_eq_true]at hc;have e1:=Nat.eq_of_beq_eq_true hc.1;have e2:=af hc.2;simp only[List.length_cons,List.length_nil]at e1 e2;have E6:((#[a.eval x]:Array Value).size≠size||off+(#[a.eval x]:Array Value).size>(⟨vs⟩:Array Value).size)=false:=by
     simp;omega
    rw[if_neg (by rw[E6];simp)];obtain⟨Wz,g1,g2,g3⟩:=ih (λs hs=>ht s (by simp only[kQ,List.flatMap_cons];exact List.mem_append_right _ hs)) (AB (xs:=[s]) (us:=[a.eval x]) hv ⟨hx',aq⟩) (λv uu=>by
     rw[lO,lO]at uu;rcases List.mem_or_eq_of_mem_set uu with h2|h2
     ·exact h1 v h2
     rw[h2];exact QB) hf
    refine⟨Wz,?_,g2,g3⟩;rw[<-g1];congr 1;simp[lO]
class iD (P:Program) (T:TypeId) (pl:outParam (List (Nat×Nat))) (z:outParam (List Value)):Prop where
 h:(match P.underlying T with|some (.struct fs)=>fs.toList.mapM (λf=>(P.info? f.type).map λi=>(f.offset,i.size))|_=>none)=some pl
 hz:(P.info? T).bind (·.zero)=some (.agg ⟨z⟩)
 o:z.all (λv=>v.oneCell')=true
theorem si{fs:List Field}{pl:List (Nat×Nat)}{w:World}(h:fs.mapM (λf=>(P.info? f.type).map λi=>(f.offset,i.size))=some pl):
  (fs.mapM (λf=>do pure (f.offset,<-sizeOf f.type):Field->Sem (Nat×Nat))).run P w=.ok pl w:=by
 induction fs generalizing pl with
 |nil=>simp at h;subst h;rfl
 |cons f fs ih=>
  rw[List.mapM_cons]at h⊢;cases hi:P.info? f.type with
  |none=>rw[hi]at h;simp at h
  |some i=>
   rw[hi]at h;cases hr:fs.mapM (λf=>(P.info? f.type).map λi=>(f.offset,i.size))with
   |none=>rw[hr]at h;simp at h
   |some pl'=>
    rw[hr]at h;simp at h;have hs:(sizeOf f.type).run P w=.ok i.size w:=by simp[sizeOf,typeInfo,hi]
    simp only[Sem.run_bind,hs,Result.andThen_ok,Sem.run_pure,ih hr];rw[<-h]
theorem RT.build(hg:Gd ops S gd rg){pl:List (Nat×Nat)}{zc:List Value}[tP:iD P T pl zc]{parts:Array (Nat×Operand)}{qs:List (Nat×List SV)}(hp:nE S parts.toList qs){cs:List SV}(hf:uH (λi=>pl[i]?) (zc.map SV.v) qs=some cs)(hd:d<S.n)
  (next:RunT P C ops nd K rest (⟨rg++kQ parts.toList,[],[],⟨some (d,.sv (.agg cs)),[],[]⟩⟩::acc) (S.set d (.sv (.agg cs)))):RunT P C ops nd K (⟨some d,.build T parts,ty,pos,aft,gd⟩::rest) acc S:=
 RT.value hg (kQ parts.toList) [] [] (.sv (.agg cs)) hd (by intro c h;cases h) (λS' ht _ _ E a w h=>by
  have hu:=tP.h;cases hT:P.underlying T with
  |none=>rw[hT]at hu;cases hu
  |some u=>
   rw[hT]at hu;cases u with
   |struct fs=>
    simp only at hu;have hz:(zeroValue T).run P w=.ok (.agg ⟨zc⟩) w:=gX.run (t:=⟨tP.hz⟩) w;obtain⟨us,h1,h2,_⟩:=AD h (λi=>pl[i]?) hp ht (cells:=zc.map SV.v) (vs:=zc) (by
     clear hf;have:∀l:List Value,SV.ef E.M (l.map SV.v) l:=by
      intro l;induction l with
      |nil=>trivial
      |cons v l ih=>exact⟨Y,ih⟩
     exact this zc) (List.all_eq_true.1 tP.o) hf
    refine⟨.agg ⟨us⟩,?_,⟨us,Y,h2⟩,ff⟩;have hm:(fs.mapM (λf=>do pure (f.offset,<-sizeOf f.type):Field->Sem (Nat×Nat))).run P w=.ok pl.toArray w:=by
     have:=si (P:=P) (w:=w) hu;rw[<-Array.toArray_toList (xs:=fs),List.mapM_toArray];rw[Sem.run_map,this];rfl
    have e3:(parts.map λp=>(p.1,a.eval p.2)).toList=parts.toList.map λp=>(p.1,a.eval p.2):=by simp
    have h1':Instr.fill (λi=>pl.toArray[i]?) ⟨zc⟩ (parts.toList.map λp=>(p.1,a.eval p.2))=some ⟨us⟩:=by simpa using h1
    simp only[execOp,Instr.build,underlying];simp only[Sem.run_bind,hz,Result.andThen_ok,run_program,hT,Sem.run_pure,Value.cells];have hm':(Array.mapM (λf=>do
      let __do_lift<-sizeOf f.type
      pure (f.offset,__do_lift)) fs:Sem _).run P w=.ok pl.toArray w:=hm
    simp only[hm',Result.andThen_ok];have e4:(Array.map (λx=>match x with|(i,x)=>(i,a.eval x)) parts).toList=parts.toList.map λp=>(p.1,a.eval p.2):=by simp
    simp only[e4,h1',Sem.run_pure,Result.andThen_ok]
   |_=>cases hu) next
def Mem.add(M:Mem)(g:Nat)(vs:List Value):Mem:=λb o=>if b=g then vs[o]? else M b o
theorem bn.SU{E:Env}{a:Act}{w:World}(h:bn C S E a w)(vs:List Value)(T:TypeId)(hone:∀v∈vs,v.oneCell'=true):bn C S {E with M:=E.M.add w.heap.size vs} a (w.alloc (.cells ⟨vs⟩ T)):=by
 have hno:∀o,E.M w.heap.size o=none:=λo=>by
  cases e:E.M w.heap.size o with
  |none=>rfl
  |some v=>have:=nm h.dh e;omega
 refine h.grow (λb o v e=>?_) (λb o v e=>?_) (λb o v e=>?_) (((Below.refl _ _).alloc (Nat.le_refl _) _))
 ·have:b≠w.heap.size:=by rintro rfl;rw[hno o]at e;cases e
  simp[Mem.add,this,e]
 ·by_cases hb:b=w.heap.size
  ·exact .inr (by omega)
  simp only[Mem.add,if_neg hb]at e;exact .inl e
 by_cases hb:b=w.heap.size
 ·subst hb;simp only[Mem.add,if_true]at e;refine .of ?_ (hone v (List.mem_of_getElem? e));rw[World.cell?_alloc_new];simpa using e
 simp only[Mem.add,if_neg hb]at e;refine(h.dh b o v e).same ?_;show(w.heap.push _)[b]? =_;rw[Array.getElem?_push,if_neg hb]
def pH:Nat->List (Nat×List SV)->Bool
 |_,[]=>true
 |k,(i,_)::l=>Nat.beq i k&&pH (k+1) l
theorem yU{sz:Nat}:∀(qs:List (Nat×List SV)) (pre zs:List SV) (k:Nat),pH k qs=true->(∀q∈qs,q.2.length=sz)->pre.length=k*sz->zs.length=qs.length*sz->
  uH (λi=>some (i*sz,sz)) (pre++zs) qs=some (pre++(qs.map (·.2)).flatten)
 |[],pre,zs,k,_,_,_,hz=>by
  have:zs=[]:=List.length_eq_zero_iff.1 (by simpa using hz);simp[uH,this]
 |(i,v)::qs,pre,zs,k,hc,hl,hp,hz=>by
  simp only[pH,Bool.and_eq_true]at hc;have hi:=Nat.eq_of_beq_eq_true hc.1;subst hi;have hv:=hl (i,v) (by simp);simp only at hv;have Zy:zs.length=qs.length*sz+sz:=by rw[hz,List.length_cons,Nat.add_mul];omega
  rw[uH];simp only;have Lq:(Nat.beq v.length sz&&Nat.ble (i*sz+v.length) (pre++zs).length)=true:=by
   rw[Bool.and_eq_true];refine⟨by rw[hv];simp,?_⟩;rw[List.length_append,hp,hv];exact Nat.ble_eq_true_of_le (by omega)
  rw[Lq,cond_true];have hs:lO (pre++zs) (i*sz) v=(pre++v)++zs.drop sz:=by
   have e:pre++zs=pre++(zs.take sz++zs.drop sz):=by rw[List.take_append_drop]
   have gen:∀(xs pre l post:List SV),l.length=xs.length->lO (pre++(l++post)) pre.length xs=pre++(xs++post):=by
    intro xs
    induction xs with
    |nil=>intro pre l post h;simp at h;subst h;rfl
    |cons x xs ih=>
     intro pre l post h;cases l with
     |nil=>simp at h
     |cons y l=>
      rw[lO];have:(pre++(y::l++post)).set pre.length x=(pre++[x])++(l++post):=by simp
      rw[this,show pre.length+1=(pre++[x]).length by simp,ih (pre++[x]) l post (by simpa using h)];simp
   rw[e,<-hp,gen v pre (zs.take sz) (zs.drop sz) (by rw[hv];simp;omega)];simp
  rw[hs,yU qs (pre++v) (zs.drop sz) (i+1) hc.2 (λq hq=>hl q (List.mem_cons_of_mem _ hq)) (by rw[List.length_append,hp,hv,Nat.add_mul];omega) (by simp;omega)];simp
theorem nY{E:Env}{a:Act}{w:World}{S':AS}(h:bn C S' E a w){n by_:Nat}{zv:Value}[tS:eM P T E0 n][tE:jw P E0 n by_ zv]{len:Nat}{parts:Array (Nat×Operand)}{qs:List (Nat×List SV)}(hp:nE S parts.toList qs)(ht:∀s∈kQ parts.toList,S'.t s=S.t s)
  (hc:pH 0 qs=true) (hl:qs.length=len) (hsz:(qs.all λq=>Nat.beq q.2.length n)=true) (hlen:len*n<=16777216) (JO:∀v∈zv.cells.toList,v.oneCell'=true):
  ∃vs:List Value,(execOp a.eval ⟨some d,.buildSlice T len parts,ty,pos,aft,gd⟩).run P w=.ok (.value (.slice (some ⟨w.heap.size,0,none⟩) len len)) (w.alloc (.cells ⟨vs⟩ E0))/\SV.ef E.M (qs.map (·.2)).flatten vs/\(∀v∈vs,v.oneCell'=true):=by
 obtain⟨info,hi,V0,xO,hz⟩:=jw.info (P:=P) (E:=E0) (n:=n) (by_:=by_) (z:=zv);have hzr:(zeroValue E0).run P w=.ok zv w:=by simp[zeroValue,typeInfo,hi,hz]
 have EP:=tS.size w;have hq:∀q∈qs,q.2.length=n:=λq hq=>Nat.eq_of_beq_eq_true (List.all_eq_true.1 hsz q hq);have WA:¬(len*n>2^24):=by omega
 let zero:Array Value:=if len*n=0 then #[]else zv.cells
 have hz0:((if len*n=0 then pure #[]else do pure (<-zeroValue E0).cells):Sem (Array Value)).run P w=.ok zero w:=by
  by_cases e:len*n=0
  ·simp[zero,e]
  simp[zero,e,hzr]
 let Ox:List Value:=((Array.range (len*n)).map (zero[· %zero.size]!)).toList
 have aap:Ox.length=len*n:=by simp[Ox]
 have hv0:∀v∈Ox,v.oneCell'=true:=by
  intro v hv;simp only[Ox,Array.toList_map,List.mem_map,Array.mem_toList_iff,Array.mem_range]at hv;obtain⟨k,hk,rfl⟩:=hv;have hne:len*n≠0:=by omega
  have hzz:zero=zv.cells:=by simp[zero,hne]
  rw[hzz];have hcs:=tE.z;have hpos:k%zv.cells.size<zv.cells.size:=Nat.mod_lt _ (by rw[hcs];exact tE.p);rw[getElem!_pos zv.cells _ hpos];exact JO _ (Array.getElem_mem_toList hpos)
 have WB:SV.ef E.M (Ox.map SV.v) Ox:=by
  have:∀l:List Value,SV.ef E.M (l.map SV.v) l:=by
   intro l;induction l with
   |nil=>trivial
   |cons v l ih=>exact⟨Y,ih⟩
  exact this Ox
 have QC:=yU (sz:=n) qs [] (Ox.map SV.v) 0 hc hq (by simp) (by simp[aap,hl]);simp only[List.nil_append]at QC;obtain⟨us,h1,h2,h3⟩:=AD h (λi=>some (i*n,n)) hp ht WB hv0 QC;refine⟨us,?_,h2,h3⟩;have e4:(Array.map (λx=>match x with|(i,x)=>(i,a.eval x)) parts).toList=parts.toList.map λp=>(p.1,a.eval p.2):=by simp
 simp only[execOp,Instr.buildSlice,underlying];simp only[Sem.run_bind,run_program,Result.andThen_ok,tS.u,Sem.run_pure,EP,if_neg WA];have h1':Instr.fill (λi=>some (i*n,n)) (Array.map (λx=>zero[x%zero.size]!) (Array.range (len*n))) (parts.toList.map λp=>(p.1,a.eval p.2))=some ⟨us⟩:=h1;by_cases e:len*n=0
 ·have hz2:zero=#[]:=by simp[zero,e]
  rw[hz2]at h1';simp only[if_pos e,e4,Sem.run_bind,Sem.run_pure,Result.andThen_ok,h1',newRow,run_newObj];rfl
 have hz2:zero=zv.cells:=by simp[zero,e]
 rw[hz2]at h1';simp only[if_neg e,e4,Sem.run_bind,Sem.run_pure,Result.andThen_ok,hzr,h1',newRow,run_newObj];rfl
theorem RT.buildSlice(hg:Gd ops S gd rg){n by_:Nat}{zv:Value}[tS:eM P T E0 n][tE:jw P E0 n by_ zv]{len:Nat}{parts:Array (Nat×Operand)}{qs:List (Nat×List SV)}(hp:nE S parts.toList qs)(hd:d<S.n)
  (hc:pH 0 qs=true) (hl:qs.length=len) (hsz:(qs.all λq=>Nat.beq q.2.length n)=true) (hlen:len*n<=16777216) (JO:∀v∈zv.cells.toList,v.oneCell'=true) {rows:List (List SV)} (jc:qs.map (·.2)=rows)
  (next:RunT P C ops nd K rest (⟨rg++kQ parts.toList,[],[],⟨some (d,.sv (slc n rows)),[],[]⟩⟩::acc) (S.set d (.sv (slc n rows)))):RunT P C ops nd K (⟨some d,.buildSlice T len parts,ty,pos,aft,gd⟩::rest) acc S:=by
 subst jc;refine .inl ⟨_,[],[],_,?_,next⟩;rintro S' hn ht _ _ i a w L Q ho ⟨E,h⟩ hL;refine cA (C:=C) ho (hg.wanted h (λs hs=>ht s (List.mem_append_left _ hs)) Y) ?_;obtain⟨vs,hr,hall,hone⟩:=nY (P:=P) (T:=T) (E0:=E0) (n:=n) (by_:=by_) (zv:=zv) (d:=d) (ty:=ty) (pos:=pos) (aft:=aft) (gd:=gd) h hp (λs hs=>ht s (List.mem_append_right _ hs)) hc hl hsz hlen JO;refine ct (C:=C) (by intro c h;cases h) hr (hL _ _ ⟨_,(h.SU vs E0 hone).put (d:=d) (x:=.sv (slc n (qs.map λ(q:Nat×List SV)=>q.2))) (v:=.slice (some ⟨w.heap.size,0,none⟩) len len) ?_ (by show d<S'.n;omega) ff⟩);have hrw:Rows n (qs.map (·.2)) (qs.map (·.2)).flatten:=⟨Y,λr hr=>by
  obtain⟨q,hq,rfl⟩:=List.mem_map.1 hr;exact Nat.eq_of_beq_eq_true (List.all_eq_true.1 hsz q hq)⟩
 have Ls:=tE.p;have hlb:len<=16777216:=Nat.le_trans (Nat.le_mul_of_pos_right _ Ls) hlen;refine .inr ⟨w.heap.size,0,len,by rw[List.length_map,hl],by rw[List.length_map,hl];exact Nat.le_refl _,by rw[List.length_map,hl];omega,λk row hk=>?_⟩;obtain⟨q1,q2⟩:=pW hrw k row hk;refine⟨q1,λj s hs=>?_⟩;obtain⟨y,hy,hys⟩:=hall.get (q2 j s hs);refine⟨y,by simp[Mem.add,hy],hone y (List.mem_of_getElem? hy),s.mono (λb o v e=>?_) hys⟩;have:b≠w.heap.size:=by rintro rfl;have:=nm h.dh e;omega
 simp[Mem.add,this,e]
theorem RT.Fe(hg:Gd ops S gd rg){n by_:Nat}{zv:Value}[tS:eM P T E0 n][tE:jw P E0 n by_ zv]{len:Nat}{parts:Array (Nat×Operand)}{qs:List (Nat×List SV)}(hp:nE S parts.toList qs)(hd:d<S.n)(xN:S.r d=.un)(we:d<1000)
  (hc:pH 0 qs=true) (hl:qs.length=len) (hsz:(qs.all λq=>Nat.beq q.2.length n)=true) (hlen:len*n<=16777216) (JO:∀v∈zv.cells.toList,v.oneCell'=true) {cells:List SV} (vh:(qs.map (·.2)).flatten=cells)
  (next:RunT P C ops nd K rest (⟨rg++kQ parts.toList,[],[d],⟨some (d,.row d),[],[(d,.live ⟨E0,n,len,cells⟩)]⟩⟩::acc) ((AS.b9 [(d,.live ⟨E0,n,len,cells⟩)] S).set d (.row d))):RunT P C ops nd K (⟨some d,.buildSlice T len parts,ty,pos,aft,gd⟩::rest) acc S:=by
 subst vh;refine .inl ⟨_,[],[d],_,?_,next⟩;rintro S' hn ht _ Lf i a w L Q ho ⟨E,h⟩ hL;refine cA (C:=C) ho (hg.wanted h (λs hs=>ht s (List.mem_append_left _ hs)) Y) ?_;obtain⟨vs,hr,hall,hone⟩:=nY (P:=P) (T:=T) (E0:=E0) (n:=n) (by_:=by_) (zv:=zv) (d:=d) (ty:=ty) (pos:=pos) (aft:=aft) (gd:=gd) h hp (λs hs=>ht s (List.mem_append_right _ hs)) hc hl hsz hlen JO;have Ls:=tE.p;have hlb:len<=16777216:=Nat.le_trans (Nat.le_mul_of_pos_right _ Ls) hlen;have hrw:Rows n (qs.map (·.2)) (qs.map (·.2)).flatten:=⟨Y,λr hr=>by
  obtain⟨q,hq,rfl⟩:=List.mem_map.1 hr;exact Nat.eq_of_beq_eq_true (List.all_eq_true.1 hsz q hq)⟩
 have hvl:vs.length=len*n:=by rw[<-hall.length,r5 hrw,List.length_map,hl]
 have JN:S'.r d=.un:=by rw[Lf d (by simp)];exact xN
 have hown:(w.alloc (.cells ⟨vs⟩ E0)).ownsRow 0 E0 n (.slice (some ⟨w.heap.size,0,none⟩) len len) len vs:=World.ownsRow_lit w ⟨vs⟩ len (Nat.zero_le _) (by unfold maxLen;omega) (by simpa using hvl);refine ct (C:=C) (by intro c h;cases h) hr (hL _ _ ⟨_,(h.newRow JN we [] none (.inl ⟨rfl,rfl⟩) (R':=⟨E0,n,len,(qs.map λ(q:Nat×List SV)=>q.2).flatten⟩) hown hall (.inr (.inl rfl)) (World.grownBy_alloc w _ none)).put (d:=d) (x:=.row d) (v:=.slice (some ⟨w.heap.size,0,none⟩) len len) (by simp[AV.holds]) (by show d<S'.n;omega) ⟨λ_ e=>e.elim,λj e=>?_⟩⟩);cases e;show(AS.pE S' d _).r d≠_;rw[AS.gW];simp
class Sub (s:SV) (n:outParam Nat) (sz:outParam Nat) (f:outParam (Nat->Nat->SV)):Prop where
 h:∀M v,s.h M v->∃a c,v=.slice a n c/\n<=c/\∀lo hi,lo<=hi->hi<=n->(f lo hi).h M (.slice (if c=lo then a else a.map (·.add (lo*sz))) (hi-lo) (c-lo))
def cut{α:Type}(l:List α)(lo hi:Nat):List α:=(l.drop lo).take (hi-lo)
theorem OR{sz:Nat}{rows:List (List SV)}{M:Mem}{v:Value}(h:(slc sz rows).h M v):∃a c,v=.slice a rows.length c/\rows.length<=c/\∀lo hi,lo<=hi->hi<=rows.length->(slc sz (cut rows lo hi)).h M (.slice (if c=lo then a else a.map (·.add (lo*sz))) (hi-lo) (c-lo)):=by
 rcases h with⟨a,rfl,rfl⟩|⟨b,o,c,rfl,hc,E6,hr⟩
 ·refine⟨a,0,Y,Nat.le_refl _,λlo hi h1 h2=>.inl ⟨a,?_,by simp[cut]⟩⟩;simp at h2;have:lo=0:=by omega
  subst this;subst h2;simp
 refine⟨some ⟨b,o,none⟩,c,Y,hc,λlo hi h1 h2=>?_⟩;have hl:(cut rows lo hi).length=hi-lo:=by simp[cut];omega
 by_cases e:c=lo
 ·have:hi-lo=0:=by omega
  rw[if_pos e];refine .inr ⟨b,o,c-lo,by rw[hl],by omega,by omega,λi row hi'=>?_⟩;have:=(List.getElem?_eq_some_iff.1 hi').1;omega
 rw[if_neg e];refine .inr ⟨b,o+lo*sz,c-lo,by rw[hl];simp[fP],by omega,by omega,λi row hi'=>?_⟩;have hi2:rows[lo+i]? =some row:=by
  simp only[cut,List.getElem?_take,List.getElem?_drop]at hi';split at hi'
  ·exact hi'
  cases hi'
 obtain⟨q1,q2⟩:=hr _ row hi2;refine⟨q1,λk s hk=>?_⟩;have:=q2 k s hk;rwa[show o+(lo+i)*sz+k=o+lo*sz+i*sz+k by rw[Nat.add_mul];omega]at this
instance{sz:Nat}{rows:List (List SV)}:Sub (slc sz rows) rows.length sz (λlo hi=>slc sz (cut rows lo hi)):=⟨λ_ _ h=>OR h⟩
theorem II{α β:Type}(l:List α)(f:α->β)(lo hi:Nat):cut (l.map f) lo hi=(cut l lo hi).map f:=by simp[cut,List.map_take,List.map_drop]
def AE(S:AS)(dflt:Nat):Option Operand->Int->Prop
 |none,i=>i=dflt
 |some x,i=>∃k,S.ev x=.sv (.v (.int k i))
def nF:Option Operand->List Nat
 |none=>[]
 |some x=>aZ x
theorem zZ{E:Env}{a:Act}{w:World}{S':AS}(h:bn C S' E a w){df:Nat}{ox:Option Operand}{i:Int}(hb:AE S df ox i)(ht:∀s∈nF ox,S'.t s=S.t s):(ox=none/\i=df)\/∃x k,ox=some x/\a.eval x=.int k i:=by
 cases ox with
 |none=>exact .inl ⟨Y,hb⟩
 |some x=>
  obtain⟨k,hk⟩:=hb;have h1:=h.ev x;rw[bw (rs:=nF (some x)) (λs hs=>hs) ht,hk]at h1;exact .inr ⟨x,k,Y,h1⟩
theorem RT.slice(hg:Gd ops S gd rg){n sz:Nat}[tS:eM P T E0 sz]{s:SV}{f:Nat->Nat->SV}[hs:Sub s n sz f](hx:S.ev x=.sv s){lo hi:Option Operand}(l h':Int)(hlo:AE S 0 lo l)(hhi:AE S n hi h')(hd:d<S.n)(h0:0<=l)(h1:l<=h')(h2:h'<=n)(X:SV)(hX:f l.toNat h'.toNat=X)
  (next:RunT P C ops nd K rest (⟨rg++(aZ x++(nF lo++nF hi)),[],[],⟨some (d,.sv X),[],[]⟩⟩::acc) (S.set d (.sv X))):RunT P C ops nd K (⟨some d,.slice T x lo hi none,ty,pos,aft,gd⟩::rest) acc S:=
 RT.value hg (aZ x++(nF lo++nF hi)) [] [] (.sv X) hd (by intro c h;cases h) (λS' ht _ _ E a w h=>by
  have hv:=h.ev x;rw[bw (λ_ h=>List.mem_append_left _ h) ht,hx]at hv;obtain⟨b,c,e,hc,hsub⟩:=hs.h _ _ hv;have g1:=zZ h hlo (λs hs=>ht s (List.mem_append_right _ (List.mem_append_left _ hs)));have g2:=zZ h hhi (λs hs=>ht s (List.mem_append_right _ (List.mem_append_right _ hs)));obtain⟨kl,Cm⟩:=Int.eq_ofNat_of_zero_le h0;obtain⟨kh,SW⟩:=Int.eq_ofNat_of_zero_le (show 0<=h' by omega);have hkm:kl<=kh:=by omega
  have hmn:kh<=n:=by omega
  have WC:kh<=c:=by omega
  have hres:=hsub l.toNat h'.toNat (by omega) (by omega);rw[hX]at hres;refine⟨_,?_,hres,ff⟩;have hsz:=tS.size w;rcases g1 with⟨rfl,q1⟩|⟨x1,k1,rfl,q1⟩<;>rcases g2 with⟨rfl,q2⟩|⟨x2,k2,rfl,q2⟩
  ·have e1:kl=0:=by omega
   have e2:kh=n:=by omega
   simp[execOp,e,Instr.sliceAt,Instr.slice,underlying,tS.u,Instr.sliceBounds,hsz,Cm,SW,e1,e2]
  ·have e1:kl=0:=by omega
   simp[execOp,e,Instr.sliceAt,Instr.slice,underlying,tS.u,Instr.sliceBounds,Instr.sliceBound,asIntOf,q2,hsz,Cm,SW,e1,WC]
  ·have e2:kh=n:=by omega
   have e3:kl<=n:=by omega
   simp[execOp,e,Instr.sliceAt,Instr.slice,underlying,tS.u,Instr.sliceBounds,Instr.sliceBound,asIntOf,q1,hsz,Cm,SW,e2,e3]
  simp[execOp,e,Instr.sliceAt,Instr.slice,underlying,tS.u,Instr.sliceBounds,Instr.sliceBound,asIntOf,q1,q2,hsz,Cm,SW,WC,hkm]) next
inductive Ff (S:AS):List Operand->List qE->Prop
 |nil:Ff S [] []
 |box {x:Operand} {i:Nat} {xs:List Operand} {cs:List qE} (h:S.ev x=.ptr i 0) (t:Ff S xs cs):Ff S (x::xs) (.box i::cs)
 |val {x:Operand} {s:SV} {xs:List Operand} {cs:List qE} (h:S.ev x=.sv s) (t:Ff S xs cs):Ff S (x::xs) (.val s::cs)
theorem Ff.vals{E:Env}{a:Act}{w:World}{S':AS}(h:bn C S' E a w){xs:List Operand}{cs:List qE}(hc:Ff S xs cs)(ht:∀s∈xs.flatMap aZ,S'.t s=S.t s):zu E cs (xs.map a.eval)/\∀j,qE.box j∈cs->∃B,S'.b j=some B:=by
 induction hc with
 |nil=>exact⟨aq,by simp⟩
 | @box x i xs cs hx _ ih=>
  have hx':S'.ev x=.ptr i 0:=by rw[bw (rs:=(x::xs).flatMap aZ) (λs hs=>by rw[List.flatMap_cons];exact List.mem_append_left _ hs) ht,hx]
  have h1:=h.ev x;rw[hx']at h1;obtain⟨i1,i2⟩:=ih (λs hs=>ht s (by rw[List.flatMap_cons];exact List.mem_append_right _ hs));refine⟨⟨h1,i1⟩,λj hj=>?_⟩;rcases List.mem_cons.1 hj with e|hj
  ·cases e;exact(kO h.wf hx').1 i rfl
  exact i2 j hj
 | @val x s xs cs hx _ ih=>
  have hx':S'.ev x=.sv s:=by rw[bw (rs:=(x::xs).flatMap aZ) (λs hs=>by rw[List.flatMap_cons];exact List.mem_append_left _ hs) ht,hx]
  have h1:=h.ev x;rw[hx']at h1;obtain⟨i1,i2⟩:=ih (λs hs=>ht s (by rw[List.flatMap_cons];exact List.mem_append_right _ hs));refine⟨⟨h1,i1⟩,λj hj=>?_⟩;rcases List.mem_cons.1 hj with e|hj
  ·cases e
  exact i2 j hj
theorem RT.makeFunc(hg:Gd ops S gd rg){g:FuncId}{xs:Array Operand}{cs:List qE}(hc:Ff S xs.toList cs)(hd:d<S.n)
  (next:RunT P C ops nd K rest (⟨rg++xs.toList.flatMap aZ,[],[],⟨some (d,.fV g cs),[],[]⟩⟩::acc) (S.set d (.fV g cs))):RunT P C ops nd K (⟨some d,.makeFunc (.func g) #[] xs,ty,pos,aft,gd⟩::rest) acc S:=
 RT.value hg (xs.toList.flatMap aZ) [] [] (.fV g cs) hd (by intro c h;cases h) (λS' ht _ _ E a w h=>by
  obtain⟨h1,h2⟩:=hc.vals h ht;refine⟨.func (.func g) #[] ⟨xs.toList.map a.eval⟩,?_,⟨_,Y,h1⟩,λj hj=>h2 j hj,λ_ h=>h.elim⟩;have e2:xs.map a.eval=⟨xs.toList.map a.eval⟩:=by apply Array.ext';simp
  simp[execOp,Instr.makeFunc,e2]) next
end lits
end
section
open Go.RowKit
theorem tl{a b:Nat}(h:Nat.ble (a+1) b=true):a<b:=af h
theorem kR{x:Int}(h: -9223372036854775808<=x/\x<=9223372036854775807):IntKind.i64.wrap x=x:=IntWalk.i64_in x h
section steps
variable {P:Program}{C:Ctx}{ops:Array Oper}{S:AS}{nd:Bool}{K:List Ac->AS->Prop}{rest:List Oper}{acc:List Ac}
variable {gd:Option (Nat×Bool)}{rg:List Nat}{d:Nat}{ty:TypeId}{pos:String}{aft:Array Edge}{x y z:Operand}{T U E0:TypeId}
theorem RT.done(h:K acc S):RunT P C ops nd K [] acc S:=h
theorem RT.mv(hg:Gd ops S gd rg){s:SV}(hx:S.ev x=.sv s)(hd:d<S.n)
  (next:RunT P C ops nd K rest (⟨rg++aZ x,[],[],⟨some (d,.sv s),[],[]⟩⟩::acc) (S.set d (.sv s))):RunT P C ops nd K (⟨some d,.move x,ty,pos,aft,gd⟩::rest) acc S:=RT.move hg hx hd next
theorem RT.AF(hg:Gd ops S gd rg){s:SV}(hx:S.ev x=.sv s)(hd:d<S.n)
  (next:RunT P C ops nd K rest (⟨rg++aZ x,[],[],⟨some (d,.sv s),[],[]⟩⟩::acc) (S.set d (.sv s))):RunT P C ops nd K (⟨some d,.assign x,ty,pos,aft,gd⟩::rest) acc S:=RT.assign hg hx hd next
theorem RT.sj(hg:Gd ops S gd rg)[tV:pV P T]{j off:Nat}{B:nX}{s:SV}(hx:S.ev x=.ptr j off)(hB:S.b j=some B)(hn:B.cells[off]? =some (.sv s))(hd:d<S.n)
  (next:RunT P C ops nd K rest (⟨rg++aZ x,[j],[],⟨some (d,.sv s),[],[]⟩⟩::acc) (S.set d (.sv s))):RunT P C ops nd K (⟨some d,.load T x,ty,pos,aft,gd⟩::rest) acc S:=RT.fY hg hx hB hn hd next
theorem RT.Lt(hg:Gd ops S gd rg){n:Nat}[tS:eM P T E0 n]{s:SV}{rows:List (List SV)}[hs:ON s n rows]{kk:IntKind}{i:Int}(row:List SV)(h0:0<=i)(hi:rows[i.toNat]? =some row)(hx:S.ev x=.sv s)(hy:S.ev y=.sv (.v (.int kk i)))(hd:d<S.n)
  (next:RunT P C ops nd K rest (⟨rg++(aZ x++aZ y),[],[],⟨some (d,.sv (ref row)),[],[]⟩⟩::acc) (S.set d (.sv (ref row)))):RunT P C ops nd K (⟨some d,.indexAddr T x y,ty,pos,aft,gd⟩::rest) acc S:=RT.indexAddr hg row hx hy hd h0 hi next
end steps
inductive KO (P:Program) (S:AS):List ResultVar->List SV->Prop
 |nil:KO P S [] []
 |tmp {t:Nat} {s:SV} {rs:List ResultVar} {ss:List SV} (h:S.t t=.sv s) (r:KO P S rs ss):KO P S (.tmp t::rs) (s::ss)
 |agg {t:Nat} {T:TypeId} {n i:Nat} {B:nX} {cs:List SV} {rs:List ResultVar} {ss:List SV} [tA:zV P T n] (h:S.t t=.ptr i 0) (hB:S.b i=some B) (hs:KN B.cells 0 cs) (hn:cs.length=n) (r:KO P S rs ss):KO P S (.cell t T::rs) (.agg cs::ss)
 |one {t:Nat} {T:TypeId} {i:Nat} {B:nX} {s:SV} {rs:List ResultVar} {ss:List SV} [tV:pV P T] (h:S.t t=.ptr i 0) (hB:S.b i=some B) (hs:B.cells=[.sv s]) (r:KO P S rs ss):KO P S (.cell t T::rs) (s::ss)
theorem KO.all{P:Program}{S:AS}{rs:List ResultVar}{ss:List SV}(h:KO P S rs ss):wC P S rs ss:=by
 induction h with
 |nil=>trivial
 |tmp h _ ih=>exact⟨h,ih⟩
 | @agg t T n i B cs rs ss tA h hB hs hn _ ih=>exact⟨⟨i,B,h,hB,.inl ⟨n,cs,tA,hs,hn,Y⟩⟩,ih⟩
 | @one t T i B s rs ss tV h hB hs _ ih=>exact⟨⟨i,B,h,hB,.inr ⟨tV,hs⟩⟩,ih⟩
def Lu:List SV->SV
 |[s]=>s
 |ss=>.yM ss
theorem gj{P:Program}{S:AS}{rs:List ResultVar}{ss:List SV}{r:SV}(h:KO P S rs ss)(e:SV.imp (Lu ss) r):Li P S rs r:=⟨ss,h.all,λM v hv=>e M v (by cases ss with|nil=>exact hv|cons s l=>cases l<;>exact hv)⟩
theorem DG{P:Program}{S:AS}{rs:List ResultVar}{ss:List SV}{r:SV}(h:KO P S rs ss)(e:r=Lu ss):Li P S rs r:=gj h (by rw[e];exact λ_ _ h=>h)
theorem SV.dB{l l':List SV}(h:cJ l l'):SV.imp (.agg l) (.agg l'):=λ_ _ ⟨vs,e,hv⟩=>⟨vs,e,h.holds hv⟩
end
section
open Go.RowKit
theorem Fg{α:Type}:∀(us l:List α) (k n:Nat),k+us.length<=n->(lO l k us).take n=lO (l.take n) k us
 |[],l,k,n,_=>rfl
 |u::us,l,k,n,h=>by
  simp only[List.length_cons]at h;rw[lO,lO,Fg us _ _ _ (by omega)];congr 1;rw[List.take_set]
section steps
variable {P:Program}{C:Ctx}{ops:Array Oper}{S:AS}{nd:Bool}{K:List Ac->AS->Prop}{rest:List Oper}{acc:List Ac}
variable {gd:Option (Nat×Bool)}{rg:List Nat}{d:Nat}{ty:TypeId}{pos:String}{aft:Array Edge}{x y z:Operand}{T U E0:TypeId}
theorem bn.Hv{E:Env}{a:Act}{w:World}(h:bn C S E a w){i:Nat}{R:Row}(hR:S.r i=.live R){g:Nat}(hg:(E.ν i).ownBlock=some g){w':World}(hw:∃c e,w.heap[g]? =some (Obj.cells c e (0,0)))
  (h1:w'.os=w.os) (h2:w'.tape=w.tape) (h3:w'.output=w.output) (h4:w'.heap.size=w.heap.size) (h5:∀k,k≠g->w'.heap[k]? =w.heap[k]?)
  {cells:List SV} {vs:List Value} (hown:w'.ownsRow 0 R.E R.sz (E.ν i) R.n vs) (hall:SV.ef E.M cells vs):bn C (S.pE i (.live ⟨R.E,R.sz,R.n,cells⟩)) E a w':=by
 obtain⟨b1,b2,b3,b4⟩:=(h.rx i R hR).2 g hg;have hin:E.M.dh w':=eA h.dh λb ⟨o,v,e⟩=>h5 b (by rintro rfl;rw[b2 o]at e;cases e);have QA:∀j,S.r j≠ .un->(S.pE i (.live ⟨R.E,R.sz,R.n,cells⟩)).r j≠ .un:=λj hj=>by
  by_cases e:j=i
  ·subst e;rw[AS.gW];simp
  rw[AS.jT _ _ _ _ e];exact hj
 have QD:∀j R',(S.pE i (.live ⟨R.E,R.sz,R.n,cells⟩)).r j=.live R'->∃R2,S.r j=.live R2:=λj R' hj=>by
  by_cases e:j=i
  ·subst e;exact⟨R,hR⟩
  rw[AS.jT _ _ _ _ e]at hj;exact⟨R',hj⟩
 exact{
  wf:=⟨h.wf.tb,λs j hj=>QA j (h.wf.tr s j hj),h.wf.bb,λk B hB x hx j hj=>QA j (h.wf.br k B hB x hx j hj)⟩
  marks:=by
   obtain⟨ds,q1,q2,q3⟩:=h.marks;refine⟨ds,q1,q2,λr hr=>?_⟩;obtain⟨q4,q5,q6⟩:=q3 r hr;refine⟨q4,q5,?_⟩;rw[h5 r (by rintro rfl;obtain⟨c,e,hc⟩:=hw;rw[q6]at hc;cases hc)];exact q6
  size:=h.size
  os:=h1.trans h.os
  tape:=h2.trans h.tape
  output:=h3.trans h.output
  grown:=by rw[h4];exact h.grown
  frame:=λk hk hk'=>by
   rw[h5 k (by
    rintro rfl;rcases b1 with q|q
    ·omega
    exact hk' (C.Cf _ q))]
   exact h.frame k hk hk'
  m0:=h.m0
  eG:=h.eG
  dh:=hin
  tm:=h.tm
  bx:=λj B hB=>by
   obtain⟨q1,q2,q3,us,q4,q5⟩:=h.bx j B hB;exact⟨q1,q2,q3,us,by rw[h5 _ (b4 j B hB)];exact q4,q5⟩
  inj:=h.inj
  rx:=λj R' hj=>by
   by_cases e:j=i
   ·subst e;rw[AS.gW]at hj;cases hj;exact⟨⟨vs,hown,hall⟩,(h.rx j R hR).2⟩
   rw[AS.jT _ _ _ _ e]at hj;obtain⟨⟨us,q1,q2⟩,q3⟩:=h.rx j R' hj;exact⟨⟨us,dw q1 λg' yS=>h5 g' (by rintro rfl;exact e (h.fm j i R' R hj hR _ yS hg)),q2⟩,q3⟩
  fm:=λj k R1 R2 hj hk=>by
   obtain⟨_,q1⟩:=QD j R1 hj;obtain⟨_,q2⟩:=QD k R2 hk;exact h.fm j k _ _ q1 q2
  gC:=h.gC
  ee:=h.ee
  kD:=λb hb=>by rw[h4];exact h.kD b hb
  jj:=C.jf _ _ _ _ _ _ _ h.jj (Mem.le_refl _) hin (λ_ _ _ e=>.inl e) (λb hb=>h5 b (by
   rintro rfl;rcases hb with hb|hb
   ·rcases b1 with q|q
    ·omega
    exact hb.2 q
   exact b3 hb)) h1 h2 h3 (by rw[h4];exact Nat.le_refl _)}
inductive RS (S:AS):Operand->Nat->Nat->Nat->List Nat->Prop
 |row {x:Operand} {i:Nat} {R:Row} (h:S.ev x=.row i) (hR:S.r i=.live R):RS S x i 0 R.n [i]
 |nC {x:Operand} {i o l:Nat} (h:S.ev x=.nC i o l):RS S x i o l []
theorem RS.val{E:Env}{a:Act}{w:World}{S':AS}(h:bn C S' E a w){i o l:Nat}{rr:List Nat}(hs:RS S x i o l rr)(ht:∀s∈aZ x,S'.t s=S.t s)(hr:∀j∈rr,S'.r j=S.r j)(hpos:0<l):∃g c,(E.ν i).ownBlock=some g/\a.eval x=.slice (some ⟨g,o,none⟩) l c/\l<=c:=by
 cases hs with
 | @row R h1 hR=>
  have hx:=h.ev x;rw[bw (λ_ h=>h) ht,h1]at hx;have hx:a.eval x=E.ν i:=hx;obtain⟨⟨vs,ho,_⟩,_⟩:=h.rx i R (by rw[hr i (by simp)];exact hR);rcases ho.2 with⟨_,q2⟩|⟨g,cap,cur,q1,_,_,q3,_⟩
  ·omega
  exact⟨g,cap,by rw[q1];rfl,by rw[hx,q1],q3⟩
 |nC h1=>
  have hx:=h.ev x;rw[bw (λ_ h=>h) ht,h1]at hx;obtain⟨g,q1,c,q2,q3⟩:=hx;exact⟨g,c,q1,q2,q3⟩
theorem RS.live{S':AS}(h:S'.wf){i o l:Nat}{rr:List Nat}(hs:RS S x i o l rr)(ht:∀s∈aZ x,S'.t s=S.t s):S'.r i≠ .un:=by
 cases hs with
 |row h1 hR=>exact(kO h (show S'.ev x=.row i by rw[bw (λ_ h=>h) ht,h1])).2 i Y
 |nC h1=>
  exact(kO h (show S'.ev x=.nC i o l by rw[bw (λ_ h=>h) ht,h1])).2 i Y
theorem RT.ixR(hg:Gd ops S gd rg){n:Nat}[tS:eM P T E0 n]{i o l:Nat}{rr:List Nat}(hx:RS S x i o l rr){kk:IntKind}{j:Int}(hy:S.ev y=.sv (.v (.int kk j)))(hd:d<S.n)(h0:0<=j)(h1:j<l)(k:Nat)(hk:o+j.toNat*n=k)
  (next:RunT P C ops nd K rest (⟨rg++(aZ x++aZ y),[],rr,⟨some (d,.iS i k),[],[]⟩⟩::acc) (S.set d (.iS i k))):RunT P C ops nd K (⟨some d,.indexAddr T x y,ty,pos,aft,gd⟩::rest) acc S:=
 RT.value hg (aZ x++aZ y) [] rr (.iS i k) hd (by intro c h;cases h) (λS' ht _ hr E a w h=>by
  obtain⟨g,c,q1,q2,_⟩:=hx.val h (λs hs=>ht s (List.mem_append_left _ hs)) hr (by omega);have h2:a.eval y=.int kk j:=by have h2:=h.ev y;rw[bw (λ_ h=>List.mem_append_right _ h) ht,hy]at h2;exact h2
  have hl:=hx.live h.wf (λs hs=>ht s (List.mem_append_left _ hs));refine⟨.pointer (some ⟨g,k,none⟩),?_,⟨g,q1,rfl⟩,λ_ e=>e.elim,λj' e=>by cases e;exact hl⟩;have hsz:=tS.size w;have hb:0<=j/\j<(l:Int):=⟨h0,h1⟩;simp[execOp,h2,q2,Instr.indexAt,asIntOf,underlying,tS.u,hsz,fP,hb,hk]) next
theorem AG{E:Env}{a:Act}{w:World}(h:bn C S E a w){i:Nat}{R:Row}(hR:S.r i=.live R){g:Nat}(hg:(E.ν i).ownBlock=some g):∃cur vs:List Value,w.heap[g]? =some (.cells ⟨cur⟩ R.E (0,0))/\cur.take (R.n*R.sz)=vs/\vs.length=R.n*R.sz/\SV.ef E.M R.cells vs/\∃cap,E.ν i=.slice (some ⟨g,0,none⟩) R.n cap/\R.n<=cap/\cap<=maxLen/\cur.length=cap*R.sz:=by
 obtain⟨⟨vs,ho,hv⟩,_⟩:=h.rx i R hR;rcases ho.2 with⟨q1,_⟩|⟨g',cap,cur,q1,_,q2,q3,q4,q5,q6⟩
 ·rw[q1]at hg;cases hg
 rw[q1]at hg;cases hg;exact⟨cur.toList,vs,by rw[q2],q6,ho.1,hv,cap,q1,q3,q4,by simpa using q5⟩
theorem RT.ldR(hg:Gd ops S gd rg)[tV:pV P T]{i k:Nat}{R:Row}{s:SV}(hx:S.ev x=.iS i k)(hR:S.r i=.live R)(hs:R.cells[k]? =some s)(hd:d<S.n)
  (next:RunT P C ops nd K rest (⟨rg++aZ x,[],[i],⟨some (d,.sv s),[],[]⟩⟩::acc) (S.set d (.sv s))):RunT P C ops nd K (⟨some d,.load T x,ty,pos,aft,gd⟩::rest) acc S:=
 RT.value hg (aZ x) [] [i] (.sv s) hd (by intro c h;cases h) (λS' ht _ hr E a w h=>by
  have h1:=h.ev x;rw[bw (λ_ h=>h) ht,hx]at h1;obtain⟨g,yS,e⟩:=h1;have nU:S'.r i=.live R:=by rw[hr i (by simp)];exact hR
  obtain⟨cur,vs,q1,q2,q3,q4,_⟩:=AG h nU yS;obtain⟨u,hu,zW⟩:=q4.get hs;refine⟨u,?_,zW,ff⟩;have hc:w.cell? ⟨g,k,none⟩=some u:=by
   rw[<-q2,List.getElem?_take]at hu;split at hu
   ·simpa[World.cell?,q1]using hu
   cases hu
  simp[execOp,e,Instr.loadAt,Instr.sureAddr,loadVar,tV.isAgg,hc]) next
theorem RT.WD(hg:Gd ops S gd rg){m:Nat}{i k:Nat}{R:Row}{us:List SV}(hx:S.ev x=.iS i k)(hR:S.r i=.live R)(hy:∀(S':AS) (E:Env) (a:Act) (w:World),bn C S' E a w->S'.ev y=S.ev y->∃vs:List Value,(a.eval y).cells=⟨vs⟩/\SV.ef E.M us vs/\(∀u∈vs,u.oneCell'=true))
  (hsT:∀w:World,(sizeOf T).run P w=.ok m w) (hul:us.length=m) (hk:k+m<=R.n*R.sz) {cells:List SV} (hcs:lO R.cells k us=cells)
  (next:RunT P C ops nd K rest (⟨rg++(aZ x++aZ y),[],[i],⟨none,[],[(i,.live ⟨R.E,R.sz,R.n,cells⟩)]⟩⟩::acc) (AS.b9 [(i,.live ⟨R.E,R.sz,R.n,cells⟩)] S)):RunT P C ops nd K (⟨none,.store T x y,ty,pos,aft,gd⟩::rest) acc S:=by
 refine .inl ⟨_,[],[i],_,?_,next⟩;rintro S' hn' ht _ Lf ix a w L Q ho ⟨E,h⟩ hL;refine cA (C:=C) ho (hg.wanted h (λs hs=>ht s (List.mem_append_left _ hs)) Y) ?_;have h1:=h.ev x;rw[bw (λ_ h=>List.mem_append_right _ (List.mem_append_left _ h)) ht,hx]at h1;obtain⟨g,yS,e⟩:=h1;have nU:S'.r i=.live R:=by rw[Lf i (by simp)];exact hR
 obtain⟨cur,vs,q1,q2,q3,q4,cap,q5,q6,q7,q8⟩:=AG h nU yS;obtain⟨ws,hu,hall,hone⟩:=hy S' E a w h (bw (λ_ h=>List.mem_append_right _ (List.mem_append_right _ h)) ht);have SR:=hall.length;have uG:R.n*R.sz<=cur.length:=by rw[q8];exact Nat.mul_le_mul_right _ q6
 have hst:=jU (P:=P) (T:=R.E) ws 0 k w cur hone q1 (by omega);have hr:(execOp a.eval ⟨none,.store T x y,ty,pos,aft,gd⟩).run P w=.ok .skip (fD w g (lO cur k ws) R.E):=by
  simp only[execOp,e,Instr.storeAt,Instr.sureAddr,storeVar,hu];simp only[Sem.run_bind,Sem.run_pure,Result.andThen_ok,hsT];simp only[show ¬(ws.length≠m)from by omega,List.size_toArray,if_false];simp only[Nat.add_zero]at hst;simp only[Result.andThen_ok,hst]
 have hown:(fD w g (lO cur k ws) R.E).ownsRow 0 R.E R.sz (E.ν i) R.n (lO vs k ws):=by
  refine⟨by rw[vg];exact q3,.inr ⟨g,cap,⟨lO cur k ws⟩,q5,Nat.zero_le _,xM q1,q6,q7,by simp[vg,q8],?_⟩⟩;show(lO cur k ws).take _=_;rw[Fg _ _ _ _ (by omega),q2]
 refine ct (C:=C) (by intro c h;cases h) hr (hL _ _ ⟨E,?_⟩);have hp:=h.Hv nU yS (w':=fD w g (lO cur k ws) R.E) ⟨_,_,q1⟩ Y Y Y oY (λk' hk'=>iw hk') hown (AB q4 hall);rw[hcs]at hp;exact hp
theorem RT.stR(hg:Gd ops S gd rg)[tV:pV P T]{i k:Nat}{R:Row}{s:SV}[o1:One s](hx:S.ev x=.iS i k)(hR:S.r i=.live R)(hy:S.ev y=.sv s)(hk:k+1<=R.n*R.sz)(cells:List SV)(hcs:R.cells.set k s=cells)
  (next:RunT P C ops nd K rest (⟨rg++(aZ x++aZ y),[],[i],⟨none,[],[(i,.live ⟨R.E,R.sz,R.n,cells⟩)]⟩⟩::acc) (AS.b9 [(i,.live ⟨R.E,R.sz,R.n,cells⟩)] S)):RunT P C ops nd K (⟨none,.store T x y,ty,pos,aft,gd⟩::rest) acc S:=by
 refine RT.WD hg hx hR (us:=[s]) (λS' E a w h e=>?_) (λw=>tV.size w) Y hk (cells:=cells) (by rw[<-hcs];rfl) next
 have h2:=h.ev y;rw[e,hy]at h2;have:=o1.h _ _ h2;exact⟨[a.eval y],iI this,⟨h2,aq⟩,by simpa using this⟩
theorem RT.aat(hg:Gd ops S gd rg){n:Nat}[tA:zV P T n]{i k:Nat}{R:Row}{cs:List SV}[o1:qG cs](hx:S.ev x=.iS i k)(hR:S.r i=.live R)(hy:S.ev y=.sv (.agg cs))(uG:cs.length=n)(hk:k+n<=R.n*R.sz)(cells:List SV)(hcs:lO R.cells k cs=cells)
  (next:RunT P C ops nd K rest (⟨rg++(aZ x++aZ y),[],[i],⟨none,[],[(i,.live ⟨R.E,R.sz,R.n,cells⟩)]⟩⟩::acc) (AS.b9 [(i,.live ⟨R.E,R.sz,R.n,cells⟩)] S)):RunT P C ops nd K (⟨none,.store T x y,ty,pos,aft,gd⟩::rest) acc S:=by
 refine RT.WD hg hx hR (us:=cs) (λS' E a w h e=>?_) (λw=>tA.size w) uG hk (cells:=cells) hcs next
 have h2:=h.ev y;rw[e,hy]at h2;obtain⟨us,hu,hall⟩:=h2;exact⟨us,by rw[hu];rfl,hall,o1.h E.M us hall⟩
theorem RT.SX(hg:Gd ops S gd rg){sz:Nat}[tS:eM P T E0 sz]{i o l0:Nat}{rr:List Nat}(hx:RS S x i o l0 rr){lo hi:Option Operand}(l h':Int)(hlo:AE S 0 lo l)(hhi:AE S l0 hi h')(hd:d<S.n)(h0:0<=l)(h1:l<l0)(h3:l<=h')(h2:h'<=l0)
  (o' l':Nat) (ho':o+l.toNat*sz=o') (hl':(h'-l).toNat=l') (next:RunT P C ops nd K rest (⟨rg++(aZ x++(nF lo++nF hi)),[],rr,⟨some (d,.nC i o' l'),[],[]⟩⟩::acc) (S.set d (.nC i o' l'))):RunT P C ops nd K (⟨some d,.slice T x lo hi none,ty,pos,aft,gd⟩::rest) acc S:=by
 subst ho';subst hl';refine RT.value hg (aZ x++(nF lo++nF hi)) [] rr (.nC i (o+l.toNat*sz) (h'-l).toNat) hd (by intro c h;cases h) (λS' ht _ Lf E a w h=>?_) next
 obtain⟨g,cap,q1,hval,hcap⟩:=hx.val h (λs hs=>ht s (List.mem_append_left _ hs)) Lf (by omega);have hlv:=hx.live h.wf (λs hs=>ht s (List.mem_append_left _ hs));have g1:=zZ h hlo (λs hs=>ht s (List.mem_append_right _ (List.mem_append_left _ hs)));have g2:=zZ h hhi (λs hs=>ht s (List.mem_append_right _ (List.mem_append_right _ hs)));obtain⟨kl,Cm⟩:=Int.eq_ofNat_of_zero_le h0;obtain⟨kh,SW⟩:=Int.eq_ofNat_of_zero_le (show 0<=h' by omega);have hkm:kl<=kh:=by omega
 have WC:kh<=cap:=by omega
 have hne:¬cap=kl:=by omega
 have hsz:=tS.size w;have hr:(execOp a.eval ⟨some d,.slice T x lo hi none,ty,pos,aft,gd⟩).run P w=.ok (.value (.slice (some ⟨g,o+kl*sz,none⟩) (kh-kl) (cap-kl))) w:=by
  rcases g1 with⟨rfl,e1⟩|⟨x1,k1,rfl,e1⟩<;>rcases g2 with⟨rfl,e2⟩|⟨x2,k2,rfl,e2⟩
  ·have e1':kl=0:=by omega
   have e2':kh=l0:=by omega
   subst e1';subst e2';simp[execOp,hval,Instr.sliceAt,Instr.slice,underlying,tS.u,Instr.sliceBounds,hsz,fP]
  ·have e1':kl=0:=by omega
   subst e1';simp[execOp,hval,Instr.sliceAt,Instr.slice,underlying,tS.u,Instr.sliceBounds,Instr.sliceBound,asIntOf,e2,hsz,SW,WC,fP]
  ·have e2':kh=l0:=by omega
   have e3':kl<=l0:=by omega
   subst e2';simp[execOp,hval,Instr.sliceAt,Instr.slice,underlying,tS.u,Instr.sliceBounds,Instr.sliceBound,asIntOf,e1,hsz,Cm,e3',fP,hne]
  simp[execOp,hval,Instr.sliceAt,Instr.slice,underlying,tS.u,Instr.sliceBounds,Instr.sliceBound,asIntOf,e1,e2,hsz,Cm,SW,WC,hkm,fP,hne]
 have e1:l.toNat=kl:=by omega
 have e2:(h'-l).toNat=kh-kl:=by omega
 refine⟨_,hr,⟨g,q1,cap-kl,by rw[e1,e2],by rw[e2];omega⟩,λ_ e=>e.elim,λj e=>?_⟩;cases e;exact hlv
theorem RT.WE(hg:Gd ops S gd rg){m:Nat}[tS:eM P T E0 m]{i o l:Nat}(hx:S.ev x=.nC i o l)(hd:d<S.n)
  (next:RunT P C ops nd K rest (⟨rg++aZ x,[],[],⟨some (d,.sv (.v (.int .i64 l))),[],[]⟩⟩::acc) (S.set d (.sv (.v (.int .i64 l))))):RunT P C ops nd K (⟨some d,.call ⟨.builtin .len,#[x],#[T]⟩,ty,pos,aft,gd⟩::rest) acc S:=
 RT.value hg (aZ x) [] [] (.sv (.v (.int .i64 l))) hd (by intro c h;cases h) (λS' ht _ _ E a w h=>by
  have h1:=h.ev x;rw[bw (λ_ h=>h) ht,hx]at h1;obtain⟨g,_,c,e,_⟩:=h1;exact⟨_,by simp[execOp,resolve,invoke,builtin,Builtin.len_,underlying,tS.u,e,goInt],Y,ff⟩) next
end steps
end
section
open Go.RowKit
theorem gp{P:Program}{f:FuncId}{fn:Func}{code:Code}{C:Ctx}{S:AS}{E0:Env}(hro:C.ro=none)(hf:P.funcs[f]? =some fn)(hb:fn.body=some code){vs:List Value}{w:World}
  (h0:bn C S E0 {tmps:=⟨vs⟩++Array.replicate (fn.ntmps-(⟨vs⟩:Array Value).size) undef,defers:=[]} w) {Q:AS->Prop} {R:Ending->World->Prop}
  (h:Ok P C code S (λe S'=>(e=.normal\/e=.ret)/\Q S'))
  (hR:∀S' E a w',Q S'->bn C S' E a w'->∃v,(results fn a.tmps).run P w'=.ok v w'/\R (.returned v) w'):Calls P f ⟨vs⟩ w R:=by
 refine(callsIn_wide (n:=0)).1 (callsIn_of_wp_marks (F:=Fence.wide) hf hb trivial ?_);have h1:=h _ w ⟨_,h0⟩;rw[hro]at h1;refine wpIn_mono h1 ?_;rintro e a' w' ⟨S',⟨he,hq⟩,E,hh⟩;have key:LeavesInM Fence.wide 0 P fn a'.tmps R a'.defers .returning w':=by
  obtain⟨ds,h1,h2,h3⟩:=hh.marks;rw[h1];refine nM ds w' h2 (λr hr=>(h3 r hr).2.2) (λw2 g1 g2 g3 g4 g5=>?_);exact hR S' E {a' with defers:=[]} w2 hq (hh.Ay h3 g1 g2 g3 g4 g5)
 rcases he with rfl|rfl
 ·exact key
 exact key
inductive zy (P:Program) (S:AS):List ResultVar->AV->Prop
 |tmp {t:Nat} {x:AV} (h:S.t t=x):zy P S [.tmp t] x
 |one {t:Nat} {T:TypeId} {i:Nat} {B:nX} {x:AV} [tV:pV P T] (h:S.t t=.ptr i 0) (hB:S.b i=some B) (hs:B.cells=[x]):zy P S [.cell t T] x
 |sv {rs:List ResultVar} {r:SV} (h:Li P S rs r):zy P S rs (.sv r)
theorem zy.run{P:Program}{C:Ctx}{S:AS}{E:Env}{a:Act}{w:World}(h:bn C S E a w){fn:Func}{x:AV}(hr:zy P S fn.results.toList x):∃v,(results fn a.tmps).run P w=.ok v w/\x.holds E v:=by
 generalize hl:fn.results.toList=l at hr;cases hr with
 |sv hs=>
  obtain⟨ss,Qz,himp⟩:=hs;rw[<-hl]at Qz;obtain⟨v,hv,hx⟩:=DD h Qz;exact⟨v,hv,himp _ _ hx⟩
 | @tmp t x ht=>
  have hfr:fn.results=#[.tmp t]:=by rw[<-Array.toArray_toList (xs:=fn.results),hl]
  refine⟨_,?_,ht▸h.tm _⟩;simp[results,hfr]
 | @one t T i B x tV ht hB hs=>
  have hfr:fn.results=#[.cell t T]:=by rw[<-Array.toArray_toList (xs:=fn.results),hl]
  obtain⟨_,_,_,vs,hv,hall⟩:=h.bx i B hB;rw[hs]at hall;have h1:a.tmps.getD t undef=.pointer (some ⟨E.β i,0,none⟩):=by have:=h.tm t;rw[ht]at this;exact this
  cases vs with
  |nil=>exact hall.elim
  |cons u us=>
   cases us with
   |cons _ _=>exact hall.2.elim
   |nil=>
    refine⟨u,?_,hall.1⟩;have SQ:w.cell? ⟨E.β i,0,none⟩=some u:=by simp[World.cell?,hv]
    rw[Array.getD_eq_getD_getElem?]at h1;simp[results,hfr,h1,asAddr,loadVar,tV.isAgg,SQ]
def qK:List AV->Nat->AV
 |[],_=>.sv .any
 |s::_,0=>s
 |_::l,n+1=>qK l n
def AS.Cc(n:Nat)(args:List AV)(bs:List (Nat×nX))(rs:List (Nat×Row)):AS:=
 ⟨n,qK args,Ow bs,λi=>match Ca rs i with|some R=>.live R|none=>.un,0,true⟩
theorem wE:∀{l:List AV} {k:Nat},qK l k=.sv .any\/qK l k∈l
 |[],_=>.inl Y
 |s::_,0=>.inr (by simp[qK])
 |_::l,n+1=>by
  rcases wE (l:=l) (k:=n)with h|h
  ·exact .inl h
  exact .inr (List.mem_cons_of_mem _ h)
theorem AH{E:Env}:∀{args:List AV} {vs:List Value} {k:Nat} (rest:List Value),di E args vs->(qK args k).holds E ((vs++rest)[k]?.getD undef)
 |[],[],_,_,_=>trivial
 |s::args,v::vs,0,_,h=>h.1
 |s::args,v::vs,k+1,rest,h=>by
  have:=AH (E:=E) (k:=k) rest (show di E args vs from h.2);simpa[qK]using this
 |[],_::_,_,_,h=>h.elim
 |_::_,[],_,_,h=>h.elim
theorem Hw{E:Env}{n:Nat}{args:List AV}{vs:List Value}(h:di E args vs)(s:Nat):(qK args s).holds E ((⟨vs⟩++Array.replicate (n-(⟨vs⟩:Array Value).size) undef:Array Value).getD s undef):=by
 have:=AH (E:=E) (k:=s) (List.replicate (n-vs.length) undef) h;rw[Array.getD_eq_getD_getElem?];simpa[List.getElem?_toArray,Array.getElem?_append,List.getElem?_append,List.getElem?_replicate,Array.getElem?_replicate]using this
def AV.xP:AV->Bool
 |.sv _=>true
 |.row i=>Nat.beq i 1000
 |.iS i _=>Nat.beq i 1000
 |.nC i _ _=>Nat.beq i 1000
 |_=>false
def AV.yV(j:Nat):AV->AV
 |.row _=>.row j
 |.iS _ k=>.iS j k
 |.nC _ o l=>.nC j o l
 |x=>x
def tR(M:Mem)(v:Value):Env:=⟨λ_=>0,λ_=>v,λ_=>False,M⟩
theorem xQ{E:Env}{j:Nat}{x:AV}{v:Value}(hx:x.xP=true):(x.yV j).holds E v↔x.holds (tR E.M (E.ν j)) v:=by
 cases x<;>first|exact Iff.rfl|cases hx
theorem IJ{E:Env}{j:Nat}:∀{l:List AV} {vs:List Value},(l.all AV.xP)=true->di E (l.map (AV.yV j)) vs->di (tR E.M (E.ν j)) l vs
 |[],[],_,_=>trivial
 |x::l,v::vs,h,hv=>by
  rw[List.all_cons,Bool.and_eq_true]at h;exact⟨(xQ h.1).1 hv.1,IJ h.2 hv.2⟩
 |[],_::_,_,h=>h.elim
 |_::_,[],_,h=>h.elim
def Hx(P:Program)(f:FuncId)(args:List AV)(R:Row)(res:AV)(cells:List SV):Prop:=
 ∀(M:Mem) (w:World) (v0:Value) (vs us:List Value),M.dh w->w.ownsRow 0 R.E R.sz v0 R.n us->SV.ef M R.cells us->(∀g,v0.ownBlock=some g->∀o,M g o=none)->di (tR M v0) args vs->
  Calls P f ⟨vs⟩ w λe w'=>∃v M' us',e=.returned v/\M.le M'/\(∀b o x,M' b o=some x->M b o=some x\/w.heap.size<=b)/\M'.dh w'/\res.holds (tR M' v0) v/\
   w'.ownsRow 0 R.E R.sz v0 R.n us'/\SV.ef M' cells us'/\w.grownBy w' v0.ownBlock
theorem Lw{i:Nat}{v v0:Value}(h:(bif Nat.beq i 1000 then some v0 else none)=some v):1000<=i:=by
 cases e:Nat.beq i 1000 with
 |false=>rw[e]at h;cases h
 |true=>have:=Nat.eq_of_beq_eq_true e;omega
def SY(w:World)(M:Mem)(v0:Value):Ctx:={w0:=w,M0:=M,own:=λk=>v0.ownBlock=some k,tO:=λk=>v0.ownBlock=some k,gC:=λ_=>none,ee:=λi=>bif Nat.beq i 1000 then some v0 else none,ro:=none,J:=λ_ _ _ _ _=>True,Cf:=λ_ h=>h,JI:=λ_ _ h=>Lw h,jf:=λ_ _ _ _ _ _ _ _ _ _ _ _ _ _ _ _=>trivial}
theorem OS{n:Nat}{args:List AV}{R:Row}{M:Mem}{w:World}{v0:Value}{vs us:List Value}(hM:M.dh w)(ho:w.ownsRow 0 R.E R.sz v0 R.n us)(hc:SV.ef M R.cells us)(hm:∀g,v0.ownBlock=some g->∀o,M g o=none)(hv:di (tR M v0) args vs)
  (hrow:args.all AV.xP=true) (hn:args.length<=n):bn (SY w M v0) (AS.Cc n args [] [(1000,R)]) (tR M v0) {tmps:=⟨vs⟩++Array.replicate (n-(⟨vs⟩:Array Value).size) undef,defers:=[]} w:=by
 have hl:=hv.length;have IK:∀s,(qK args s).xP=true:=λs=>by
  rcases wE (l:=args) (k:=s)with e|e
  ·rw[e];rfl
  exact List.all_eq_true.1 hrow _ e
 have live:∀j R',(AS.Cc n args [] [(1000,R)]).r j=.live R'->j=1000/\R'=R:=by
  intro j R' h;simp only[AS.Cc,Ca]at h;cases e:Nat.beq j 1000 with
  |false=>
   simp[cC (λh=>by subst h;simp at e:j≠1000)]at h
  |true=>
   have:=Nat.eq_of_beq_eq_true e;subst this;simp at h;exact⟨Y,h.symm⟩
 exact{
  wf:=by
   refine⟨λs j hj=>?_,λs j hj=>?_,λi B e=>(by cases e),λi B e=>(by cases e)⟩
   ·have:=IK s
    revert hj this
    show(qK args s).mb j->_;cases qK args s<;>intro hj hr<;>first|exact hj.elim|cases hr
   have:=IK s;have hj':j=1000:=by
    revert hj this
    show(qK args s).mr j->_;cases qK args s<;>intro hj hr<;>first|exact hj.elim|exact(Bool.false_ne_true hr).elim|(cases hj;exact Nat.eq_of_beq_eq_true hr)
   subst hj';show(match Ca [(1000,R)] 1000 with|some R=>kK.live R|none=>.un)≠ .un;simp[Ca]
  marks:=⟨[],Y,List.nodup_nil,by simp⟩
  size:=by simp[AS.Cc];omega
  os:=rfl
  tape:=rfl
  output:=rfl
  grown:=Nat.le_refl _
  frame:=λ_ _ _=>rfl
  m0:=Mem.le_refl _
  eG:=λ_ _ _ e=>.inl e
  dh:=hM
  tm:=λs=>Hw hv s
  bx:=λi B e=>by cases e
  inj:=λi j B B' e=>by cases e
  rx:=λi R' h=>by
   obtain⟨rfl,rfl⟩:=live i R' h;exact⟨⟨us,ho,hc⟩,λg hg=>⟨.inr hg,hm g hg,λh=>h,λj B e=>by cases e⟩⟩
  fm:=λi j R1 R2 hi hj _ _ _=>by rw[(live i R1 hi).1,(live j R2 hj).1]
  gC:=λi b e=>by cases e
  ee:=λi v e=>by
   simp only[SY]at e;cases h:Nat.beq i 1000 with
   |false=>rw[h]at e;cases e
   |true=>rw[h]at e;cases e;rfl
  kD:=λb e=>e.elim
  jj:=trivial}
theorem vi{P:Program}{f:FuncId}{fn:Func}{code:Code}{args:List AV}{R:Row}{res:AV}{cells:List SV}(hf:P.funcs[f]? =some fn)(hb:fn.body=some code)(hn:args.length<=fn.ntmps)(hrow:args.all AV.xP=true)(hres:res.xP=true)
  (h:∀(w:World) (M:Mem) (v0:Value),Ok P (SY w M v0) code (AS.Cc fn.ntmps args [] [(1000,R)]) (λe S=>(e=.normal\/e=.ret)/\zy P S fn.results.toList res/\S.r 1000=.live ⟨R.E,R.sz,R.n,cells⟩)):Hx P f args R res cells:=by
 intro M w v0 vs us hM ho hc hm hv;refine gp Y hf hb (OS hM ho hc hm hv hrow hn) (h w M v0) ?_;rintro S' E a w' ⟨hr,hR⟩ hh;obtain⟨v,hv,hx⟩:=hr.run hh;have hν:E.ν 1000=v0:=hh.ee 1000 v0 Y;obtain⟨⟨us',q1,q2⟩,q3⟩:=hh.rx 1000 _ hR;rw[hν]at q1 q3;refine⟨v,hv,v,E.M,us',Y,hh.m0,λb o x e=>?_,hh.dh,?_,q1,q2,hh.os,hh.tape,hh.output,hh.grown,λk hk hne=>hh.frame k hk (λe=>hne e.symm)⟩
 ·rcases hh.eG b o x e with e'|e'|e'
  ·exact .inl e'
  ·exact .inr e'
  rw[(q3 b e').2.1 o]at e;cases e
 have:res.yV 1000=res:=by
  cases res<;>first|rfl|(simp only[AV.yV,AV.row.injEq,AV.iS.injEq,AV.nC.injEq];have:=Nat.eq_of_beq_eq_true hres;simp[this])
 rw[<-hν];rw[<-this]at hx;exact(xQ hres).1 hx
def restore(w w':World)(g:Nat):World:=match w.heap[g]? with|some o=>{w' with heap:=w'.heap.setIfInBounds g o}|none=>w'
theorem AI{w w':World}{g:Nat}{o:Obj}(h:w.heap[g]? =some o)(hs:w.heap.size<=w'.heap.size):(restore w w' g).heap[g]? =some o:=by
 have h1:=(Array.getElem?_eq_some_iff.1 h).1;have h2:g<w'.heap.size:=Nat.lt_of_lt_of_le h1 hs;simp[restore,h,h2]
theorem mA{w w':World}{g k:Nat}(hk:k≠g):(restore w w' g).heap[k]? =w'.heap[k]? :=by
 unfold restore;split
 ·simp only[Array.getElem?_setIfInBounds];rw[if_neg (Ne.symm hk)]
 rfl
theorem wF{w w':World}{g:Nat}:(restore w w' g).os=w'.os/\(restore w w' g).tape=w'.tape/\(restore w w' g).output=w'.output/\(restore w w' g).heap.size=w'.heap.size:=by
 unfold restore;split
 ·exact⟨Y,Y,Y,by simp⟩
 exact⟨Y,Y,Y,Y⟩
theorem uI{w w':World}{g:Nat}(hg:w.grownBy w' (some g))(hlt:g<w.heap.size):Below w.heap.size w (restore w w' g):=by
 obtain⟨h1,h2,h3,h4⟩:=wF (w:=w) (w':=w') (g:=g);refine⟨h1.trans hg.os,h2.trans hg.tape,h3.trans hg.output,by rw[h4];exact hg.size,λk hk=>?_⟩;by_cases e:k=g
 ·subst e;rw[AI (Array.getElem?_eq_getElem hlt) hg.size,Array.getElem?_eq_getElem hlt]
 rw[mA e];exact hg.block k hk (by simp[e])
section steps
variable {P:Program}{C:Ctx}{ops:Array Oper}{S:AS}{nd:Bool}{K:List Ac->AS->Prop}{rest:List Oper}{acc:List Ac}
variable {gd:Option (Nat×Bool)}{rg:List Nat}{d:Nat}{ty:TypeId}{pos:String}{aft:Array Edge}{x y z:Operand}{T U E0:TypeId}
theorem AS.CX{i:Nat}{R:kK}(h:S.r i=R):S.pE i R=S:=by
 refine AS.ext' rfl (λ_=>rfl) (λ_=>rfl) (λs=>?_) rfl rfl;by_cases e:s=i
 ·subst e;rw[AS.gW,h]
 rw[AS.jT _ _ _ _ e]
theorem Cn{w w':World}(h:w.grownBy w' none):Below w.heap.size w w':=⟨h.os,h.tape,h.output,h.size,λk hk=>h.block k hk (by simp)⟩
theorem bn.OT{E:Env}{a:Act}{w w':World}(h:bn C S E a w){i:Nat}{R:Row}(hR:S.r i=.live R){M':Mem}{cells:List SV}{us:List Value}
  (hM:E.M.le M') (hn:∀b o x,M' b o=some x->E.M b o=some x\/w.heap.size<=b) (hin:M'.dh w') (ho:w'.ownsRow 0 R.E R.sz (E.ν i) R.n us) (hc:SV.ef M' cells us) (hg:w.grownBy w' (E.ν i).ownBlock):
  bn C (S.pE i (.live ⟨R.E,R.sz,R.n,cells⟩)) {E with M:=M'} a w':=by
 obtain⟨⟨vs,q1,q2⟩,q3⟩:=h.rx i R hR;cases hb:(E.ν i).ownBlock with
 |none=>
  rw[hb]at hg;have hz:R.n=0:=by
   rcases q1.2 with⟨_,h2⟩|⟨g,cap,cur,h1,_⟩
   ·exact h2
   rw[h1]at hb;cases hb
  have e1:us=[]:=List.length_eq_zero_iff.1 (by have:=ho.1;rw[hz]at this;simpa using this);have e2:vs=[]:=List.length_eq_zero_iff.1 (by have:=q1.1;rw[hz]at this;simpa using this);have e3:cells=[]:=List.length_eq_zero_iff.1 (by have:=hc.length;rw[e1]at this;simpa using this);have e4:R.cells=[]:=List.length_eq_zero_iff.1 (by have:=q2.length;rw[e2]at this;simpa using this);have:S.pE i (.live ⟨R.E,R.sz,R.n,cells⟩)=S:=AS.CX (by rw[hR,e3,<-e4]);rw[this];exact h.grow hM hn hin (Cn hg)
 |some g=>
  rw[hb]at hg;have hlt:=jb h hR hb;have hnone:∀o,M' g o=none:=λo=>by
   cases e:M' g o with
   |none=>rfl
   |some v=>
    rcases hn _ _ _ e with e'|e'
    ·rw[(q3 g hb).2.1 o]at e';cases e'
    omega
  have Lx:M'.dh (restore w w' g):=eA hin λb ⟨o,v,e⟩=>mA (by rintro rfl;rw[hnone o]at e;cases e);have h1:=h.grow hM hn Lx (uI hg hlt);obtain⟨r1,r2,r3,r4⟩:=wF (w:=w) (w':=w') (g:=g);refine h1.Hv (R:=R) hR hb ?_ r1.symm r2.symm r3.symm r4.symm (λk hk=>(mA hk).symm) ho hc;rcases q1.2 with⟨h2,_⟩|⟨g',cap,cur,h2,_,h3,_⟩
  ·rw[h2]at hb;cases hb
  rw[h2]at hb;cases hb;exact⟨_,_,AI h3 hg.size⟩
inductive vk (S:AS):List Operand->List AV->Prop
 |nil:vk S [] []
 |cons {x:Operand} {xs:List Operand} {s:AV} {ss:List AV} (h:S.ev x=s) (r:vk S xs ss):vk S (x::xs) (s::ss)
theorem vk.k2{S:AS}{xa xb:Operand}{a b:AV}(h1:S.ev xa=a)(h2:S.ev xb=b):vk S [xa,xb] [a,b]:=.cons h1 (.cons h2 .nil)
theorem vk.k3{S:AS}{xa xb xc:Operand}{a b c:AV}(h1:S.ev xa=a)(h2:S.ev xb=b)(h3:S.ev xc=c):vk S [xa,xb,xc] [a,b,c]:=.cons h1 (.cons h2 (.cons h3 .nil))
theorem vk.k4{S:AS}{xa xb xc xd:Operand}{a b c d:AV}(h1:S.ev xa=a)(h2:S.ev xb=b)(h3:S.ev xc=c)(h4:S.ev xd=d):vk S [xa,xb,xc,xd] [a,b,c,d]:=.cons h1 (.cons h2 (.cons h3 (.cons h4 .nil)))
theorem vk.vals{E:Env}{a:Act}{w:World}{S':AS}(h:bn C S' E a w){xs:List Operand}{ss:List AV}(hs:vk S xs ss)(ht:∀s∈xs.flatMap aZ,S'.t s=S.t s):di E ss (xs.map a.eval):=by
 induction hs with
 |nil=>trivial
 | @cons x xs s ss h1 _ ih=>
  have h2:=h.ev x;rw[bw (λt h=>List.mem_flatMap.2 ⟨x,by simp,h⟩) ht,h1]at h2;refine⟨h2,ih (λt h=>ht t ?_)⟩;rw[List.flatMap_cons];exact List.mem_append_right _ h
theorem mK{f:FuncId}[dz P f]{o:Option Nat}{g:Operand}{xs:Array Operand}{at_:Array TypeId}{a:Act}{w:World}{caps:List Value}(rY:a.eval g=.func (.func f) #[] ⟨caps⟩):
  (execOp a.eval ⟨o,.call ⟨.value g,xs,at_⟩,ty,pos,aft,gd⟩).run P w=.ok (.enter f ⟨xs.toList.map a.eval++caps⟩) w:=by
 have e2:xs.map a.eval++⟨caps⟩=⟨xs.toList.map a.eval++caps⟩:=by apply Array.ext';simp
 have e1:=dz.run (P:=P) (f:=f) (xs.map a.eval++⟨caps⟩) w;rw[<-e2];simp[execOp,resolve,rY,Deferred.ofValue,invoke,e1]
theorem Ly{S:AS}{i:Nat}{R:Row}{x:AV}(hx:x.xP=true)(hR:S.r i=.live R):(∀j,(x.yV i).mb j->∃B,S.b j=some B)/\(∀j,(x.yV i).mr j->S.r j≠ .un):=by
 cases x<;>first|cases hx|skip
 all_goals refine⟨λj e=>e.elim,λj e=>?_⟩
 all_goals first|exact e.elim|(cases e;rw[hR];simp)
theorem RT.WG(hg:Gd ops S gd rg){f:FuncId}[dz P f]{g:Operand}{xs:Array Operand}{at_:Array TypeId}{args:List AV}{R:Row}{res:AV}{cells:List SV}(hp:Hx P f args R res cells)(i:Nat)(hR:S.r i=.live R)(hrow:args.all AV.xP=true)(hres:res.xP=true)
  (hf:S.ev g=.sv (.v (.func (.func f) #[] #[]))) (hargs:vk S xs.toList (args.map (AV.yV i))) (hd:d<S.n)
  (next:RunT P C ops nd K rest (⟨rg++(aZ g++xs.toList.flatMap aZ),[],[i],⟨some (d,res.yV i),[],[(i,.live ⟨R.E,R.sz,R.n,cells⟩)]⟩⟩::acc) ((AS.b9 [(i,.live ⟨R.E,R.sz,R.n,cells⟩)] S).set d (res.yV i))):RunT P C ops nd K (⟨some d,.call ⟨.value g,xs,at_⟩,ty,pos,aft,gd⟩::rest) acc S:=by
 refine .inl ⟨_,[],[i],_,?_,next⟩;rintro S' hn ht _ hr k a w L Q ho ⟨E,h⟩ hL;refine cA (C:=C) ho (hg.wanted h (λs hs=>ht s (List.mem_append_left _ hs)) Y) ?_;have rY:a.eval g=.func (.func f) #[] ⟨[]⟩:=by
  have h1:=h.ev g;rw[bw (λ_ h=>List.mem_append_right _ (List.mem_append_left _ h)) ht,hf]at h1;exact h1
 have hall:=vk.vals h hargs (λs hs=>ht s (List.mem_append_right _ (List.mem_append_right _ hs)));have nU:S'.r i=.live R:=by rw[hr i (by simp)];exact hR
 obtain⟨⟨us,q1,q2⟩,q3⟩:=h.rx i R nU;refine ct (C:=C) (by intro c h;cases h) (mK rY) ?_;rw[List.append_nil];refine⟨λh=>by simp at h,gi ((hp E.M w (E.ν i) _ us h.dh q1 q2 (λg hg=>(q3 g hg).2.1) (IJ hrow hall)).mono ?_)⟩;rintro e w' ⟨v,M',us',rfl,hM,hnew,hin,hv,ho',hc,WH⟩;have h1:=h.OT nU hM hnew hin ho' hc WH;refine hL _ _ ⟨_,h1.put (x:=res.yV i) (v:=v) ((xQ (E:={E with M:=M'}) hres).2 hv) (by show d<S'.n;omega) (Ly hres (AS.gW _ _ _))⟩
end steps
end
section
open Go.RowKit
def DH(P:Program)(f:FuncId)(args:List SV)(R:Row):Prop:=
 ∀(M:Mem) (w:World) (vs:List Value),M.dh w->SV.ef M args vs->
  Calls P f ⟨vs⟩ w λe w'=>∃v M' us,e=.returned v/\M.le M'/\(∀b o x,M' b o=some x->M b o=some x\/w.heap.size<=b)/\M'.dh w'/\
   w'.ownsRow 0 R.E R.sz v R.n us/\SV.ef M' R.cells us/\(∀g,v.ownBlock=some g->w.heap.size<=g/\∀o,M' g o=none)/\Below w.heap.size w w'
theorem nZ{P:Program}{f:FuncId}{fn:Func}{code:Code}{args:List SV}{R:Row}(hf:P.funcs[f]? =some fn)(hb:fn.body=some code)(hn:args.length<=fn.ntmps)
  (h:∀(w:World) (M:Mem) (vs:List Value),SV.ef M args vs->Ok P (E7 w M) code (AS.init fn.ntmps args) (λe S=>(e=.normal\/e=.ret)/\∃k,zy P S fn.results.toList (.row k)/\S.r k=.live R)):DH P f args R:=by
 intro M w vs hM hvs;refine gp Y hf hb (jV hM hvs hn) (h w M vs hvs) ?_;rintro S' E a w' ⟨k,hr,hR⟩ hh;obtain⟨v,hv,hx⟩:=hr.run hh;obtain⟨⟨us,q1,q2⟩,q3⟩:=hh.rx k R hR;rw[<-show v=E.ν k from hx]at q1 q3;refine⟨v,hv,v,E.M,us,Y,hh.m0,λb o x e=>?_,hh.dh,q1,q2,λg hg=>?_,hh.os,hh.tape,hh.output,hh.grown,λk hk=>hh.frame k hk (λh=>h)⟩
 ·rcases hh.eG b o x e with h|h|h
  ·exact .inl h
  ·exact .inr h
  exact h.elim
 obtain⟨q4,q5,_⟩:=q3 g hg;exact⟨q4.elim id (λh=>h.elim),q5⟩
def Lz(P:Program)(f:FuncId)(args:List SV)(T:TypeId)(c0:List SV)(res:SV)(c1:List SV):Prop:=
 ∀(M:Mem) (w:World) (β:Nat) (vs us:List Value),M.dh w->w.heap[β]? =some (.cells ⟨us⟩ T (0,0))->SV.ef M c0 us->(∀o,M β o=none)->SV.ef M args vs->
  Calls P f ⟨vs++[.pointer (some ⟨β,0,none⟩)]⟩ w λe w'=>∃v M' us',e=.returned v/\M.le M'/\(∀b o x,M' b o=some x->M b o=some x\/w.heap.size<=b)/\M'.dh w'/\res.h M' v/\
   w'.heap[β]? =some (.cells ⟨us'⟩ T (0,0))/\SV.ef M' c1 us'/\w.grownBy w' (some β)
def SZ(w:World)(M:Mem)(β:Nat):Ctx:={w0:=w,M0:=M,own:=λk=>k=β,tO:=λk=>k=β,gC:=λi=>bif Nat.beq i 1000 then some β else none,ee:=λ_=>none,ro:=none,J:=λ_ _ _ _ _=>True,Cf:=λ_ h=>h,JI:=λ_ _ h=>(by cases h),jf:=λ_ _ _ _ _ _ _ _ _ _ _ _ _ _ _ _=>trivial}
theorem di.append{E:Env}:∀{l l':List AV} {xs ys:List Value},di E l xs->di E l' ys->di E (l++l') (xs++ys)
 |[],_,[],_,_,h=>h
 |_::_,_,_::_,_,h,h'=>⟨h.1,di.append h.2 h'⟩
 |[],_,_::_,_,h,_=>h.elim
 |_::_,_,[],_,h,_=>h.elim
theorem tW{E:Env}:∀{l:List SV} {vs:List Value},di E (l.map AV.sv) vs->SV.ef E.M l vs
 |[],[],_=>trivial
 |_::_,_::_,h=>⟨h.1,tW h.2⟩
 |[],_::_,h=>h.elim
 |_::_,[],h=>h.elim
theorem OU{n:Nat}{args:List SV}{T:TypeId}{c0:List SV}{M:Mem}{w:World}{β:Nat}{vs us:List Value}(hM:M.dh w)(hb:w.heap[β]? =some (.cells ⟨us⟩ T (0,0)))(hc:SV.ef M c0 us)(hm:∀o,M β o=none)(hv:SV.ef M args vs)(hn:args.length+1<=n):
  bn (SZ w M β) (AS.Cc n (args.map AV.sv++[.ptr 1000 0]) [(1000,⟨T,c0.map AV.sv⟩)] []) ⟨λ_=>β,λ_=>.nilIface,λ_=>False,M⟩ {tmps:=⟨vs++[.pointer (some ⟨β,0,none⟩)]⟩++Array.replicate (n-(⟨vs++[.pointer (some ⟨β,0,none⟩)]⟩:Array Value).size) undef,defers:=[]} w:=by
 have hl:=hv.length;have hall:di ⟨λ_=>β,λ_=>.nilIface,λ_=>False,M⟩ (args.map AV.sv++[.ptr 1000 0]) (vs++[.pointer (some ⟨β,0,none⟩)]):=di.append (di.wm hv) ⟨Y,aq⟩;have live:∀j B,(AS.Cc n (args.map AV.sv++[.ptr 1000 0]) [(1000,⟨T,c0.map AV.sv⟩)] []).b j=some B->j=1000/\B=⟨T,c0.map AV.sv⟩:=by
  intro j B h;have:=oZ h;simpa using this
 have LA:(AS.Cc n (args.map AV.sv++[.ptr 1000 0]) [(1000,⟨T,c0.map AV.sv⟩)] []).b 1000=some ⟨T,c0.map AV.sv⟩:=rfl;have QE:∀s,qK (args.map AV.sv++[.ptr 1000 0]) s=.ptr 1000 0\/∃t,qK (args.map AV.sv++[.ptr 1000 0]) s=.sv t:=λs=>by
  rcases wE (l:=args.map AV.sv++[.ptr 1000 0]) (k:=s)with e|e
  ·exact .inr ⟨_,e⟩
  rcases List.mem_append.1 e with e|e
  ·obtain⟨t,_,ht⟩:=List.mem_map.1 e;exact .inr ⟨t,ht.symm⟩
  exact .inl (by simpa using e)
 exact{
  wf:=by
   refine⟨λs j hj=>?_,λs j hj=>?_,λi B hB x hx j hj=>?_,λi B hB x hx j hj=>?_⟩
   ·rcases QE s with e|⟨t,e⟩
    ·have hj':(qK (args.map AV.sv++[.ptr 1000 0]) s).mb j:=hj;rw[e]at hj';cases hj';exact⟨_,LA⟩
    have hj':(qK (args.map AV.sv++[.ptr 1000 0]) s).mb j:=hj;rw[e]at hj';exact hj'.elim
   ·have hj':(qK (args.map AV.sv++[.ptr 1000 0]) s).mr j:=hj;rcases QE s with e|⟨t,e⟩<;>rw[e]at hj'<;>exact hj'.elim
   ·obtain⟨rfl,rfl⟩:=live i B hB;exact(mJ (S:=AS.Cc n (args.map AV.sv++[.ptr 1000 0]) [(1000,⟨T,c0.map AV.sv⟩)] []) x hx).1 j hj
   obtain⟨rfl,rfl⟩:=live i B hB;exact(mJ (S:=AS.Cc n (args.map AV.sv++[.ptr 1000 0]) [(1000,⟨T,c0.map AV.sv⟩)] []) x hx).2 j hj
  marks:=⟨[],Y,List.nodup_nil,by simp⟩
  size:=by simp[AS.Cc];omega
  os:=rfl
  tape:=rfl
  output:=rfl
  grown:=Nat.le_refl _
  frame:=λ_ _ _=>rfl
  m0:=Mem.le_refl _
  eG:=λ_ _ _ e=>.inl e
  dh:=hM
  tm:=λs=>Hw hall s
  bx:=λi B h=>by
   obtain⟨rfl,rfl⟩:=live i B h;exact⟨.inr Y,hm,λh=>h,us,hb,di.wm hc⟩
  inj:=λi j B1 B2 hi hj _=>by rw[(live i B1 hi).1,(live j B2 hj).1]
  rx:=λi R e=>by cases e
  fm:=λi j R R' e=>by cases e
  gC:=λi b e=>by
   simp only[SZ]at e;cases h:Nat.beq i 1000 with
   |false=>rw[h]at e;cases e
   |true=>rw[h]at e;cases e;rfl
  ee:=λi v e=>by cases e
  kD:=λb e=>e.elim
  jj:=trivial}
theorem AJ{P:Program}{f:FuncId}{fn:Func}{code:Code}{args:List SV}{T:TypeId}{c0 c1:List SV}{res:SV}(hf:P.funcs[f]? =some fn)(hb:fn.body=some code)(hn:args.length+1<=fn.ntmps)
  (h:∀(w:World) (M:Mem) (β:Nat),Ok P (SZ w M β) code (AS.Cc fn.ntmps (args.map AV.sv++[.ptr 1000 0]) [(1000,⟨T,c0.map AV.sv⟩)] []) (λe S=>(e=.normal\/e=.ret)/\Li P S fn.results.toList res/\S.b 1000=some ⟨T,c1.map AV.sv⟩)):Lz P f args T c0 res c1:=by
 intro M w β vs us hM S0 hc hm hv;refine gp Y hf hb (OU hM S0 hc hm hv hn) (h w M β) ?_;rintro S' E a w' ⟨hr,hB⟩ hh;obtain⟨v,hv,hx⟩:=(zy.sv hr).run hh;have hβ:E.β 1000=β:=hh.gC 1000 β Y;obtain⟨_,q1,_,us',q2,q3⟩:=hh.bx 1000 _ hB;rw[hβ]at q1 q2;refine⟨v,hv,v,E.M,us',Y,hh.m0,λb o x e=>?_,hh.dh,hx,q2,tW q3,hh.os,hh.tape,hh.output,hh.grown,λk hk hne=>hh.frame k hk (λe=>hne (by rw[show k=β from e]))⟩;rcases hh.eG b o x e with e'|e'|e'
 ·exact .inl e'
 ·exact .inr e'
 rw[show b=β from e',q1 o]at e;cases e
def S3(P:Program)(f:FuncId)(args:List SV)(g:FuncId)(T:TypeId)(cells:List SV):Prop:=
 ∀(M:Mem) (w:World) (vs:List Value),M.dh w->SV.ef M args vs->
  Calls P f ⟨vs⟩ w λe w'=>∃β M' us,e=.returned (.func (.func g) #[] #[.pointer (some ⟨β,0,none⟩)])/\M.le M'/\(∀b o x,M' b o=some x->M b o=some x\/w.heap.size<=b)/\M'.dh w'/\
   w.heap.size<=β/\w'.heap[β]? =some (.cells ⟨us⟩ T (0,0))/\SV.ef M' cells us/\(∀o,M' β o=none)/\Below w.heap.size w w'
theorem Hy{P:Program}{f:FuncId}{fn:Func}{code:Code}{args:List SV}{g:FuncId}{T:TypeId}{cells:List SV}(hf:P.funcs[f]? =some fn)(hb:fn.body=some code)(hn:args.length<=fn.ntmps)
  (h:∀(w:World) (M:Mem) (vs:List Value),SV.ef M args vs->Ok P (E7 w M) code (AS.init fn.ntmps args) (λe S=>(e=.normal\/e=.ret)/\∃k,zy P S fn.results.toList (.fV g [.box k])/\S.b k=some ⟨T,cells.map AV.sv⟩)):S3 P f args g T cells:=by
 intro M w vs hM hvs;refine gp Y hf hb (jV hM hvs hn) (h w M vs hvs) ?_;rintro S' E a w' ⟨k,hr,hB⟩ hh;obtain⟨v,hv,cs,rfl,hcs⟩:=hr.run hh;obtain⟨q1,q2,_,us,q3,q4⟩:=hh.bx k _ hB;cases cs with
 |nil=>exact hcs.elim
 |cons c cs=>
  cases cs with
  |cons _ _=>exact hcs.2.elim
  |nil=>
   obtain rfl:c=.pointer (some ⟨E.β k,0,none⟩):=hcs.1;refine⟨_,hv,E.β k,E.M,us,Y,hh.m0,λb o x e=>?_,hh.dh,q1.elim id (λh=>h.elim),q3,tW q4,q2,hh.os,hh.tape,hh.output,hh.grown,λk hk=>hh.frame k hk (λh=>h)⟩;rcases hh.eG b o x e with h|h|h
   ·exact .inl h
   ·exact .inr h
   exact h.elim
section steps
variable {P:Program}{C:Ctx}{ops:Array Oper}{S:AS}{nd:Bool}{K:List Ac->AS->Prop}{rest:List Oper}{acc:List Ac}
variable {gd:Option (Nat×Bool)}{rg:List Nat}{d:Nat}{ty:TypeId}{pos:String}{aft:Array Edge}{x y z:Operand}{T U E0:TypeId}
theorem qL(w:World)(b:Option Nat):w.grownBy w b:=⟨Y,Y,Y,Nat.le_refl _,λ_ _ _=>Y⟩
theorem bn.z1{E:Env}{a:Act}{w:World}(h:bn C S E a w){g:Nat}{M':Mem}(hg:w.heap.size<=g)(hM:∀o,M' g o=none):JM C S {E with M:=M'} g:=by
 obtain⟨h1,_,h3,h4,h5⟩:=h.free hg;exact⟨h1,hM,h3,h4,h5⟩
theorem RT.WI(hg:Gd ops S gd rg){f:FuncId}[dz P f]{g:Operand}{xs:Array Operand}{at_:Array TypeId}{args:List SV}{R:Row}(hp:DH P f args R)(hf:S.ev g=.sv (.v (.func (.func f) #[] #[])))(hargs:ga S xs.toList args)(hd:d<S.n)(xN:S.r d=.un)(we:d<1000)
  (next:RunT P C ops nd K rest (⟨rg++(aZ g++xs.toList.flatMap aZ),[],[d],⟨some (d,.row d),[],[(d,.live R)]⟩⟩::acc) ((AS.b9 [(d,.live R)] S).set d (.row d))):RunT P C ops nd K (⟨some d,.call ⟨.value g,xs,at_⟩,ty,pos,aft,gd⟩::rest) acc S:=by
 refine .inl ⟨_,[],[d],_,?_,next⟩;rintro S' hn ht _ hr i a w L Q ho ⟨E,h⟩ hL;refine cA (C:=C) ho (hg.wanted h (λs hs=>ht s (List.mem_append_left _ hs)) Y) ?_;have rY:a.eval g=.func (.func f) #[] ⟨[]⟩:=by
  have h1:=h.ev g;rw[bw (λ_ h=>List.mem_append_right _ (List.mem_append_left _ h)) ht,hf]at h1;exact h1
 have hall:=ga.vals h hargs (λs hs=>ht s (List.mem_append_right _ (List.mem_append_right _ hs)));have JN:S'.r d=.un:=by rw[hr d (by simp)];exact xN
 refine ct (C:=C) (by intro c h;cases h) (mK rY) ?_;rw[List.append_nil];refine⟨λh=>by simp at h,gi ((hp E.M w _ h.dh hall).mono ?_)⟩;rintro e w' ⟨v,M',us,rfl,hM,hnew,hin,hv,hc,hfr,hb⟩;have h1:=(h.grow hM hnew hin hb).DE JN we [] none (.inl ⟨Y,Y⟩) (R':=R) hv hc (λg hg=>.inr (h.z1 (hfr g hg).1 (hfr g hg).2)) (qL w' none);refine hL _ _ ⟨_,h1.put (x:=.row d) (v:=v) (by simp[AV.holds]) (by show d<S'.n;omega) ⟨λ_ e=>e.elim,λj e=>?_⟩⟩;cases e;show(AS.pE S' d _).r d≠_;rw[AS.gW];simp
theorem bn.OV{E:Env}{a:Act}{w w':World}(h:bn C S E a w){j:Nat}{B:nX}(hB:S.b j=some B){M':Mem}{c1:List SV}{us:List Value}
  (hM:E.M.le M') (hn:∀b o x,M' b o=some x->E.M b o=some x\/w.heap.size<=b) (hin:M'.dh w') (hb:w'.heap[E.β j]? =some (.cells ⟨us⟩ B.T (0,0))) (hc:SV.ef M' c1 us) (hg:w.grownBy w' (some (E.β j))):
  bn C (S.jv j ⟨B.T,c1.map AV.sv⟩) {E with M:=M'} a w':=by
 obtain⟨_,q1,_,vs,q2,_⟩:=h.bx j B hB;have hlt:=qH h hB;have hnone:∀o,M' (E.β j) o=none:=λo=>by
  cases e:M' (E.β j) o with
  |none=>rfl
  |some v=>
   rcases hn _ _ _ e with e'|e'
   ·rw[q1 o]at e';cases e'
   omega
 have Lx:M'.dh (restore w w' (E.β j)):=eA hin λb ⟨o,v,e⟩=>mA (by rintro rfl;rw[hnone o]at e;cases e);have h1:=h.grow hM hn Lx (uI hg hlt);have h2:=h1.Ld (B:=B) hB (cells:=c1.map AV.sv) (vs:=us) (di.wm hc) mJ;have e:fD (restore w w' (E.β j)) (E.β j) us B.T=w':=by
  have aaw:=(Array.getElem?_eq_some_iff.1 hb).1;unfold restore;rw[q2];unfold fD;have:(w'.heap.setIfInBounds (E.β j) (.cells ⟨vs⟩ B.T (0,0))).setIfInBounds (E.β j) (.cells ⟨us⟩ B.T (0,0))=w'.heap:=by
   apply Array.ext_getElem?;intro k;rw[Array.getElem?_setIfInBounds];by_cases hk:E.β j=k
   ·subst hk;rw[if_pos Y,if_pos (by simpa using aaw),hb]
   rw[if_neg hk,Array.getElem?_setIfInBounds,if_neg hk]
  simp only[this]
 exact e▸h2
theorem RT.WJ(hg:Gd ops S gd rg){f:FuncId}[dz P f]{g:Operand}{xs:Array Operand}{at_:Array TypeId}{args:List SV}{T:TypeId}{c0 c1:List SV}{res:SV}(hp:Lz P f args T c0 res c1)(j:Nat)(hB:S.b j=some ⟨T,c0.map AV.sv⟩)
  (hf:S.ev g=.fV f [.box j]) (hargs:ga S xs.toList args) (hd:d<S.n)
  (next:RunT P C ops nd K rest (⟨rg++(aZ g++xs.toList.flatMap aZ),[j],[],⟨some (d,.sv res),[(j,⟨T,c1.map AV.sv⟩)],[]⟩⟩::acc) ((AS.fo [(j,⟨T,c1.map AV.sv⟩)] S).set d (.sv res))):RunT P C ops nd K (⟨some d,.call ⟨.value g,xs,at_⟩,ty,pos,aft,gd⟩::rest) acc S:=by
 refine .inl ⟨_,[j],[],_,?_,next⟩;rintro S' hn ht hb _ k a w L Q ho ⟨E,h⟩ hL;refine cA (C:=C) ho (hg.wanted h (λs hs=>ht s (List.mem_append_left _ hs)) Y) ?_;have rY:a.eval g=.func (.func f) #[] ⟨[.pointer (some ⟨E.β j,0,none⟩)]⟩:=by
  have h1:=h.ev g;rw[bw (λ_ h=>List.mem_append_right _ (List.mem_append_left _ h)) ht,hf]at h1;obtain⟨vs,h2,h3⟩:=h1;cases vs with
  |nil=>exact h3.elim
  |cons v vs=>
   cases vs with
   |cons _ _=>exact h3.2.elim
   |nil=>rw[h2,show v=_ from h3.1]
 have hall:=ga.vals h hargs (λs hs=>ht s (List.mem_append_right _ (List.mem_append_right _ hs)));have fu:S'.b j=some ⟨T,c0.map AV.sv⟩:=by rw[hb j (by simp)];exact hB
 obtain⟨_,q1,_,us,q2,q3⟩:=h.bx j _ fu;refine ct (C:=C) (by intro c h;cases h) (mK rY) ?_;refine⟨λh=>by simp at h,gi ((hp E.M w (E.β j) _ us h.dh q2 (tW q3) q1 hall).mono ?_)⟩;rintro e w' ⟨v,M',us',rfl,hM,hnew,hin,hv,S0,hc,WH⟩;have h1:=h.OV fu hM hnew hin S0 hc WH;exact hL _ _ ⟨_,h1.put (x:=.sv res) (v:=v) hv (by show d<S'.n;omega) ff⟩
theorem bn.IL{E:Env}{a:Act}{w:World}(h:bn C S E a w){i:Nat}(hi:S.b i=none)(hp:C.gC i=none){g:Nat}(hg:JM C S E g){cells:List AV}{vs:List Value}(hb:w.heap[g]? =some (.cells ⟨vs⟩ T (0,0)))(hc:di E cells vs)(hl:∀x∈cells,(∀j,x.mb j->∃B,S.b j=some B)/\(∀j,x.mr j->S.r j≠ .un)):
  bn C (S.jv i ⟨T,cells⟩) {E with β:=λj=>if j=i then g else E.β j} a w:=by
 obtain⟨f1,f2,f3,f4,f5⟩:=hg;have ne:∀j,(∃B,S.b j=some B)->j≠i:=by rintro j ⟨B,hB⟩ rfl;rw[hi]at hB;cases hB
 have keep:∀x:AV,(∀j,x.mb j->∃B,S.b j=some B)->∀v,x.holds E v->x.holds {E with β:=λj=>if j=i then g else E.β j} v:=λx hx v hv=>
  AV.cI (E:=E) (E':={E with β:=λj=>if j=i then g else E.β j}) (Mem.le_refl _) (λj hj=>if_neg (ne j (hx j hj))) (λ_ _=>rfl) hv
 have rW:∀j,(∃B,S.b j=some B)->∃B,(S.jv i ⟨T,cells⟩).b j=some B:=λj hj=>by
  obtain⟨B,hB⟩:=hj;exact⟨B,by rw[AS.bR _ _ _ _ (ne j ⟨B,hB⟩)];exact hB⟩
 exact{
  wf:=by
   refine⟨λs j hj=>rW j (h.wf.tb s j hj),h.wf.tr,λj B hB x hx k hk=>?_,λj B hB x hx k hk=>?_⟩
   ·by_cases hj:j=i
    ·subst hj;rw[AS.cV]at hB;cases hB;exact rW k ((hl x hx).1 k hk)
    rw[AS.bR _ _ _ _ hj]at hB;exact rW k (h.wf.bb j B hB x hx k hk)
   by_cases hj:j=i
   ·subst hj;rw[AS.cV]at hB;cases hB;exact(hl x hx).2 k hk
   rw[AS.bR _ _ _ _ hj]at hB;exact h.wf.br j B hB x hx k hk
  marks:=h.marks
  size:=h.size
  os:=h.os
  tape:=h.tape
  output:=h.output
  grown:=h.grown
  frame:=h.frame
  m0:=h.m0
  eG:=h.eG
  dh:=h.dh
  tm:=λs=>keep _ (h.wf.tb s) _ (h.tm s)
  bx:=λj B hB=>by
   by_cases hj:j=i
   ·subst hj;rw[AS.cV]at hB;cases hB;simp only[if_true];exact⟨.inl f1,f2,f3,vs,hb,hc.imp λx hx v hv=>keep x (hl x hx).1 v hv⟩
   rw[AS.bR _ _ _ _ hj]at hB;obtain⟨h1,h2,h3,vs',h4,h5⟩:=h.bx j B hB;simp only[if_neg hj];exact⟨h1,h2,h3,vs',h4,h5.imp λx hx v hv=>keep x (h.wf.bb j B hB x hx) v hv⟩
  inj:=λj k B B' hj hk e=>by
   by_cases h1:j=i
   ·subst h1;by_cases h2:k=j
    ·exact h2.symm
    rw[AS.bR _ _ _ _ h2]at hk;simp only[if_true,if_neg h2]at e;exact absurd e.symm (f4 k B' hk)
   rw[AS.bR _ _ _ _ h1]at hj;by_cases h2:k=i
   ·subst h2;simp only[if_true,if_neg h1]at e;exact absurd e (f4 j B hj)
   rw[AS.bR _ _ _ _ h2]at hk;simp only[if_neg h1,if_neg h2]at e;exact h.inj j k B B' hj hk e
  rx:=λj R hR=>by
   obtain⟨⟨us,h1,h2⟩,h3⟩:=h.rx j R hR;refine⟨⟨us,h1,h2⟩,λg' yS=>?_⟩;obtain⟨h4,h5,h6,h7⟩:=h3 g' yS;refine⟨h4,h5,h6,λk B hB=>?_⟩;by_cases hk:k=i
   ·subst hk;simp only[if_true];rintro rfl;exact f5 j R hR yS
   rw[AS.bR _ _ _ _ hk]at hB;simp only[if_neg hk];exact h7 k B hB
  fm:=h.fm
  gC:=λj b hj=>by
   have hne:j≠i:=by rintro rfl;rw[hp]at hj;cases hj
   simp only[if_neg hne];exact h.gC j b hj
  ee:=h.ee
  kD:=h.kD
  jj:=h.jj}
theorem RT.AK(hg:Gd ops S gd rg){f:FuncId}[dz P f]{g:Operand}{xs:Array Operand}{at_:Array TypeId}{args:List SV}{fc:FuncId}{T:TypeId}{cells:List SV}(hp:S3 P f args fc T cells)(hf:S.ev g=.sv (.v (.func (.func f) #[] #[])))(hargs:ga S xs.toList args)(hd:d<S.n)(hdb:S.b d=none)(Hz:C.gC d=none)
  (next:RunT P C ops nd K rest (⟨rg++(aZ g++xs.toList.flatMap aZ),[d],[],⟨some (d,.fV fc [.box d]),[(d,⟨T,cells.map AV.sv⟩)],[]⟩⟩::acc) ((AS.fo [(d,⟨T,cells.map AV.sv⟩)] S).set d (.fV fc [.box d]))):RunT P C ops nd K (⟨some d,.call ⟨.value g,xs,at_⟩,ty,pos,aft,gd⟩::rest) acc S:=by
 refine .inl ⟨_,[d],[],_,?_,next⟩;rintro S' hn ht hb _ i a w L Q ho ⟨E,h⟩ hL;refine cA (C:=C) ho (hg.wanted h (λs hs=>ht s (List.mem_append_left _ hs)) Y) ?_;have rY:a.eval g=.func (.func f) #[] ⟨[]⟩:=by
  have h1:=h.ev g;rw[bw (λ_ h=>List.mem_append_right _ (List.mem_append_left _ h)) ht,hf]at h1;exact h1
 have hall:=ga.vals h hargs (λs hs=>ht s (List.mem_append_right _ (List.mem_append_right _ hs)));have hdn:S'.b d=none:=by rw[hb d (by simp)];exact hdb
 refine ct (C:=C) (by intro c h;cases h) (mK rY) ?_;rw[List.append_nil];refine⟨λh=>by simp at h,gi ((hp E.M w _ h.dh hall).mono ?_)⟩;rintro e w' ⟨β,M',us,rfl,hM,hnew,hin,hβ,S0,hc,hno,OW⟩;have h1:=(h.grow hM hnew hin OW).IL hdn Hz (h.z1 hβ hno) S0 (di.wm hc) mJ;refine hL _ _ ⟨_,h1.put (x:=.fV fc [.box d]) ⟨[_],Y,by simp[qE.holds],aq⟩ (by show d<S'.n;omega) ⟨λj e=>?_,λj e=>e.elim⟩⟩;have:j=d:=by simpa[AV.mb]using e
 subst this;exact⟨_,AS.cV _ _ _⟩
end steps
end
section
open Go.RowKit
abbrev JT:=Nat->Bool->(Nat->Prop)->Mem->World->Prop
structure S4 (O:Nat->Prop) (M:Mem) (w:World) (O':Nat->Prop) (M':Mem) (w':World):Prop where
 le:M.le M'
 dh:M'.dh w'
 new:∀b o v,M' b o=some v->M b o=some v\/w.heap.size<=b\/O b
 oo:∀b,O' b->(O b\/w.heap.size<=b)/\b<w'.heap.size/\∀o,M' b o=none
 same:∀k,k<w.heap.size->¬O k->w'.heap[k]? =w.heap[k]?
 os:w'.os=w.os
 tape:w'.tape=w.tape
 output:w'.output=w.output
 size:w.heap.size<=w'.heap.size
def AL(w0:World)(J:JT):Prop:=
 ∀(g:Nat) (h:Bool) (O:Nat->Prop) (M M':Mem) (w w':World),J g h O M w->M.le M'->M'.dh w'->(∀b o v,M' b o=some v->M b o=some v\/(w0.heap.size<=b/\¬O b))->
  (∀b,b<w0.heap.size\/O b->w'.heap[b]? =w.heap[b]?)->w'.os=w.os->w'.tape=w.tape->w'.output=w.output->w.heap.size<=w'.heap.size->J g h O M' w'
def HA(P:Program)(l:Nat)(J:JT)(n:Nat)(xs:Nat->List SV)(M0:Mem):Prop:=
 ∀(k:Nat) (O:Nat->Prop) (M:Mem) (w:World) (args:List Value),k<n->J k true O M w->M0.le M->M.dh w->SV.ef M (xs k) args->
  YieldAt (Fr none) 0 P l ⟨args⟩ w λe w'=>∃b O' M',e=.returned (.bool b)/\J (k+1) b O' M' w'/\S4 O M w O' M' w'
def Iter(P:Program)(f:FuncId)(caps:List SV)(n:Nat)(xs:Nat->List SV):Prop:=
 ∀(J:JT) (O:Nat->Prop) (M:Mem) (w:World) (l:Nat) (n7:List Value),M.dh w->SV.ef M caps n7->AL w J->HA P l J n xs M->(∀b,O b->b<w.heap.size/\∀o,M b o=none)->J 0 true O M w->
  Calls P f ⟨.func (.yield l) #[] #[]::n7⟩ w λe w'=>∃v g b O' M',e=.returned v/\J g b O' M' w'/\(b=true->g=n)
theorem JP{w0:World}{J:JT}(hJ:AL w0 J)(g:Nat)(h:Bool)(O:Nat->Prop)(M M':Mem)(w w':World)(j:J g h O M w)(hM:M.le M')(hin:M'.dh w')(hn:∀b o v,M' b o=some v->M b o=some v\/((w0.heap.size<=b\/False)/\¬O b))
  (hs:∀b,(b<w0.heap.size/\¬False)\/O b->w'.heap[b]? =w.heap[b]?) (h1:w'.os=w.os) (h2:w'.tape=w.tape) (h3:w'.output=w.output) (h4:w.heap.size<=w'.heap.size):J g h O M' w':=
 hJ g h O M M' w w' j hM hin (λb o v e=>(hn b o v e).imp id (λ⟨a,c⟩=>⟨a.elim id (λx=>x.elim),c⟩)) (λb hb=>hs b (hb.imp (λx=>⟨x,λy=>y⟩) id)) h1 h2 h3 h4
def WK(w:World)(M:Mem)(O:Nat->Prop)(J:JT)(hJ:AL w J):Ctx:={w0:=w,M0:=M,own:=O,tO:=λ_=>False,gC:=λ_=>none,ee:=λ_=>none,ro:=none,J:=J,Cf:=λ_ h=>h.elim,JI:=λ_ _ h=>(by cases h),jf:=JP hJ}
theorem qM{P:Program}{f:FuncId}{fn:Func}{code:Code}{caps:List SV}{n:Nat}{xs:Nat->List SV}(hf:P.funcs[f]? =some fn)(hb:fn.body=some code)(hres:fn.results=#[])(hn:caps.length+1<=fn.ntmps)
  (h:∀(w:World) (M:Mem) (O:Nat->Prop) (l:Nat) (J:JT) (hJ:AL w J),(∃n7,SV.ef M caps n7)->HA P l J n xs M->
   Ok P (WK w M O J hJ) code (AS.init fn.ntmps (.v (.func (.yield l) #[] #[])::caps)) (λe S=>(e=.normal\/e=.ret)/\(S.go=true->S.g=n))):Iter P f caps n xs:=by
 intro J O M w l n7 hM hc hJ hr hO h0;have hvs:SV.ef M (.v (.func (.yield l) #[] #[])::caps) (.func (.yield l) #[] #[]::n7):=⟨Y,hc⟩;have hl:=hvs.length;have S5:bn (WK w M O J hJ) (AS.init fn.ntmps (.v (.func (.yield l) #[] #[])::caps)) ⟨λ_=>0,λ_=>.nilIface,O,M⟩ {tmps:=⟨.func (.yield l) #[] #[]::n7⟩++Array.replicate (fn.ntmps-(⟨.func (.yield l) #[] #[]::n7⟩:Array Value).size) undef,defers:=[]} w:=by
  have h1:=jV (n:=fn.ntmps) hM hvs (by simpa using hn);exact{h1 with tm:=λs=>AV.cI (E:=⟨λ_=>0,λ_=>.nilIface,λ_=>False,M⟩) (E':=⟨λ_=>0,λ_=>.nilIface,O,M⟩) (Mem.le_refl _) (λ_ _=>rfl) (λ_ _=>rfl) (h1.tm s),marks:=⟨[],rfl,List.nodup_nil,by simp⟩,frame:=λ_ _ _=>rfl,eG:=λ_ _ _ e=>.inl e,bx:=λi B e=>(by cases e),rx:=λi R e=>(by cases e),gC:=λi b e=>(by cases e),ee:=λi b e=>(by cases e),kD:=λb hb=>⟨(hO b hb).1,(hO b hb).2,.inl hb⟩,jj:=h0}
 refine gp Y hf hb S5 (h w M O l J hJ ⟨n7,hc⟩ hr) ?_;rintro S' E a w' hg hh;refine⟨.tuple #[],?_,.tuple #[],S'.g,S'.go,E.O,E.M,Y,hh.jj,hg⟩;simp[results,hres]
section steps
variable {P:Program}{C:Ctx}{ops:Array Oper}{S:AS}{nd:Bool}{K:List Ac->AS->Prop}{rest:List Oper}{acc:List Ac}
variable {gd:Option (Nat×Bool)}{rg:List Nat}{d:Nat}{ty:TypeId}{pos:String}{aft:Array Edge}{x y z:Operand}{T U E0:TypeId}
theorem bn.swap{E:Env}{a:Act}{w w':World}(h:bn C S E a w){O':Nat->Prop}{M':Mem}(hs:S4 E.O E.M w O' M' w')(S6:∀k,¬C.tO k){g:Nat}{go:Bool}(hj:C.J g go O' M' w'):
  bn C {S with g:=g,go:=go} {E with O:=O',M:=M'} a w':=by
 have keep:∀x:AV,∀v,x.holds E v->x.holds {E with O:=O',M:=M'} v:=λx v hv=>AV.cI (E:=E) (E':={E with O:=O',M:=M'}) hs.le (λ_ _=>rfl) (λ_ _=>rfl) hv;have none:∀b,b<w.heap.size->¬E.O b->(∀o,E.M b o=none)->∀o,M' b o=none:=λb hb hO h2 o=>by
  cases e:M' b o with
  |none=>rfl
  |some v=>
   rcases hs.new _ _ _ e with e'|e'|e'
   ·rw[h2 o]at e';cases e'
   ·omega
   exact absurd e' hO
 have S7:∀b,b<w.heap.size->¬E.O b->¬O' b:=λb hb hO h'=>by
  rcases(hs.oo b h').1 with e|e
  ·exact hO e
  omega
 exact{
  wf:=⟨h.wf.tb,h.wf.tr,h.wf.bb,h.wf.br⟩
  marks:=by
   obtain⟨ds,h1,h2,h3⟩:=h.marks;refine⟨ds,h1,h2,λr hr=>?_⟩;obtain⟨h4,h5,h6⟩:=h3 r hr;have hlt:=(Array.getElem?_eq_some_iff.1 h6).1;exact⟨h4,S7 r hlt h5,by rw[hs.same r hlt h5];exact h6⟩
  size:=h.size
  os:=hs.os.trans h.os
  tape:=hs.tape.trans h.tape
  output:=hs.output.trans h.output
  grown:=Nat.le_trans h.grown hs.size
  frame:=λk hk hk'=>by
   rw[hs.same k (by have:=h.grown;omega) (λhO=>by
    rcases(h.kD k hO).2.2 with e|e
    ·exact hk' e
    omega)]
   exact h.frame k hk hk'
  m0:=Mem.le_trans h.m0 hs.le
  eG:=λb o v e=>by
   rcases hs.new b o v e with e'|e'|e'
   ·exact h.eG b o v e'
   ·exact .inr (.inl (Nat.le_trans h.grown e'))
   exact .inr ((h.kD b e').2.2.symm)
  dh:=hs.dh
  tm:=λs=>keep _ _ (h.tm s)
  bx:=λi B hB=>by
   obtain⟨h1,h2,h3,vs,h4,h5⟩:=h.bx i B hB;have hlt:=qH h hB;exact⟨h1,none _ hlt h3 h2,S7 _ hlt h3,vs,by rw[hs.same _ hlt h3];exact h4,h5.imp λx _ v hv=>keep x v hv⟩
  inj:=h.inj
  rx:=λi R hR=>by
   obtain⟨⟨us,h1,h2⟩,h3⟩:=h.rx i R hR;refine⟨⟨us,dw h1 λg hg=>hs.same g (jb h hR hg) (h3 g hg).2.2.1,h2.mono hs.le⟩,λg hg=>?_⟩;obtain⟨h4,h5,h6,h7⟩:=h3 g hg;exact⟨h4,none _ (jb h hR hg) h6 h5,S7 _ (jb h hR hg) h6,h7⟩
  fm:=h.fm
  gC:=h.gC
  ee:=h.ee
  kD:=λb hO=>by
   obtain⟨h1,h2,h3⟩:=hs.oo b hO;refine⟨h2,h3,?_⟩;rcases h1 with e|e
   ·exact(h.kD b e).2.2
   exact .inr (Nat.le_trans h.grown e)
  jj:=hj}
theorem RT.yield(hg:Gd ops S gd rg){l n:Nat}{xs:Nat->List SV}(hr:HA P l C.J n xs C.M0)(hro:C.ro=none)(S6:∀k,¬C.tO k){g:Operand}{ys:Array Operand}{at_:Array TypeId}(hf:S.ev g=.sv (.v (.func (.yield l) #[] #[])))(k:Nat)(hk:S.g=k)(OO:S.go=true)(hlt:k<n)(hargs:ga S ys.toList (xs k))(hd:d<S.n)
  {R:AS->Prop} (next:∀b:Bool,RunT P C ops true (λ_ S=>R S) rest [] ((AS.mk S.n S.t S.b S.r (k+1) b).set d (.sv (.v (.bool b))))):RunT P C ops true (λ_ S=>R S) (⟨some d,.call ⟨.value g,ys,at_⟩,ty,pos,aft,gd⟩::rest) acc S:=by
 refine .inr ⟨Y,λS'=>∃b:Bool,S'=(AS.mk S.n S.t S.b S.r (k+1) b).set d (.sv (.v (.bool b))),?_,?_⟩
 ·rintro i a w L Q ho ⟨E,h⟩ hL;refine cA (C:=C) ho (hg.wanted h (λ_ _=>rfl) rfl) ?_;have rY:a.eval g=.func (.yield l) #[] #[]:=by have h1:=h.ev g;rw[hf]at h1;exact h1
  have hall:=ga.vals h hargs (λ_ _=>rfl);have hj:=h.jj;rw[hk,OO]at hj;obtain⟨fn,tmps,assign,body,hy,S8⟩:=hr k E.O E.M w _ hlt hj h.m0 h.dh hall;have e2:ys.map a.eval=⟨ys.toList.map a.eval⟩:=by apply Array.ext';simp
  have hrun:(execOp a.eval ⟨some d,.call ⟨.value g,ys,at_⟩,ty,pos,aft,gd⟩).run P w=.ok (.round l fn tmps assign body) w:=by
   rw[<-e2]at hy;simp[execOp,resolve,rY,Deferred.ofValue,invoke,hy]
  refine ct (C:=C) (by intro c h;cases h) hrun ?_;rw[hro];refine⟨λh=>by simp at h,RoundIn.mono S8 ?_⟩;rintro e w' ⟨b,O',M',rfl,hj',hs⟩;exact hL _ _ _ ⟨b,Y⟩ ⟨_,(h.swap hs S6 hj').put (x:=.sv (.v (.bool b))) Y hd ff⟩
 rintro S' ⟨b,rfl⟩;exact next b
end steps
end
section
open Go.RowKit
structure RD where
 W:World
 M:Mem
 tO:Nat->Prop
 β:Nat->Nat
 l:Nat
 o:Bool->Obj
theorem OX(D:RD)(h:Bool)(O:Nat->Prop)(w w':World)(j:O D.l/\w.heap[D.l]? =some (D.o h))(hs:∀b,(b<D.W.heap.size/\¬D.tO b)\/O b->w'.heap[b]? =w.heap[b]?):O D.l/\w'.heap[D.l]? =some (D.o h):=
 ⟨j.1,by rw[hs D.l (.inr j.1)];exact j.2⟩
def HB(pb:List Nat)(β:Nat->Nat)(p:Nat->Option Nat)(i:Nat):Option Nat:=bif pb.any (Nat.beq i)then some (β i)else p i
def zA(C:Ctx)(D:RD)(pb:List Nat):Ctx:={w0:=D.W,M0:=D.M,own:=λk=>D.tO k\/k=D.l,tO:=D.tO,gC:=HB pb D.β C.gC,ee:=C.ee,ro:=some D.l,J:=λ_ go O _ w=>O D.l/\w.heap[D.l]? =some (D.o go),Cf:=λ_ h=>.inl h,JI:=C.JI,jf:=λ_ h O _ _ w w' j _ _ _ hs _ _ _ _=>OX D h O w w' j hs}
def AM(C:Ctx)(β:Nat->Nat)(pb:List Nat):Ctx:={w0:=C.w0,M0:=C.M0,own:=C.own,tO:=C.tO,gC:=HB pb β C.gC,ee:=C.ee,ro:=C.ro,J:=C.J,Cf:=C.Cf,JI:=C.JI,jf:=C.jf}
theorem wG{pb:List Nat}{i:Nat}:pb.any (Nat.beq i)=true↔i∈pb:=by
 rw[List.any_eq_true];exact⟨λ⟨x,h1,h2⟩=>by rw[Nat.eq_of_beq_eq_true h2];exact h1,λh=>⟨i,h,by simp⟩⟩
theorem bn.pinned{C:Ctx}{S:AS}{E:Env}{a:Act}{w:World}(h:bn C S E a w)(pb:List Nat):bn (AM C E.β pb) S E a w:=
 {wf:=h.wf,marks:=h.marks,size:=h.size,os:=h.os,tape:=h.tape,output:=h.output,grown:=h.grown,frame:=h.frame,m0:=h.m0,eG:=h.eG,dh:=h.dh,tm:=h.tm,bx:=h.bx,inj:=h.inj,rx:=h.rx,fm:=h.fm,ee:=h.ee,kD:=h.kD,jj:=h.jj,
  gC:=λi b e=>by
   simp only[AM,HB]at e;cases hh:pb.any (Nat.beq i)with
   |true=>rw[hh]at e;cases e;rfl
   |false=>rw[hh]at e;exact h.gC i b e}
theorem bn.LB{C:Ctx}{S:AS}{E:Env}{a:Act}{w:World}{β:Nat->Nat}{pb:List Nat}(h:bn (AM C β pb) S E a w)(hβ:∀i b,C.gC i=some b->β i=b):bn C S E a w:=
 {wf:=h.wf,marks:=h.marks,size:=h.size,os:=h.os,tape:=h.tape,output:=h.output,grown:=h.grown,frame:=h.frame,m0:=h.m0,eG:=h.eG,dh:=h.dh,tm:=h.tm,bx:=h.bx,inj:=h.inj,rx:=h.rx,fm:=h.fm,ee:=h.ee,kD:=h.kD,jj:=h.jj,
  gC:=λi b e=>by
   cases hh:pb.any (Nat.beq i)with
   |true=>rw[h.gC i (β i) (by simp[AM,HB,hh])];exact hβ i b e
   |false=>exact h.gC i b (by simpa[AM,HB,hh]using e)}
def Cl(S:AS)(E:Env)(k:Nat):Prop:=(∃i B,S.b i=some B/\E.β i=k)\/(∃i R,S.r i=.live R/\(E.ν i).ownBlock=some k)
theorem mL{C:Ctx}{S:AS}{E:Env}{a:Act}{w:World}(h:bn C S E a w){k:Nat}(hk:Cl S E k):(C.w0.heap.size<=k\/C.tO k)/\(∀o,E.M k o=none)/\¬E.O k/\∃c e,w.heap[k]? =some (Obj.cells c e (0,0)):=by
 rcases hk with⟨i,B,h1,rfl⟩|⟨i,R,h1,h2⟩
 ·obtain⟨h3,h4,h5,vs,h6,_⟩:=h.bx i B h1;exact⟨h3,h4,h5,_,_,h6⟩
 obtain⟨⟨us,h3,_⟩,h4⟩:=h.rx i R h1;obtain⟨h5,h6,h7,_⟩:=h4 k h2;refine⟨h5,h6,h7,?_⟩;rcases h3.2 with⟨h8,_⟩|⟨g,cap,cur,h8,_,h9,_⟩
 ·rw[h8]at h2;cases h2
 rw[h8]at h2;cases h2;exact⟨_,_,h9⟩
def rH:List Nat->List SV->AS->AS
 |p::ps,s::ss,S=>rH ps ss (S.set p (.sv s))
 |_,_,S=>S
def AS.LC(S:AS)(ps:List Nat)(ss:List SV):AS:=rH ps ss ⟨S.n,S.t,S.b,S.r,S.g,false⟩
def AS.AN(S:AS):AS:=⟨S.n,S.t,S.b,S.r,S.g,true⟩
def RP(p:Prop)(pb:List Nat)(T next:AS)(Q:Exit->AS->Prop):Exit->AS->Prop
 |.normal,S=>p/\S.go=true/\(pb.all λi=>(S.b i).isSome)=true/\rV (AS.mk T.n T.t S.b S.r S.g true) next
 |.ret,S=>S.go=true/\(pb.all λi=>(S.b i).isSome)=true/\Q .ret (AS.mk T.n T.t S.b S.r S.g true)
 |.exit id,S=>S.go=true/\(pb.all λi=>(S.b i).isSome)=true/\Q (.exit id) (AS.mk T.n T.t S.b S.r S.g true)
 |_,_=>False
theorem bn.OY{C:Ctx}{S:AS}{E:Env}{a:Act}{w:World}(h:bn C S E a w){l:Nat}{o:Obj}(hO:E.O l)(hown:C.w0.heap.size<=l\/C.own l){go:Bool}(hj:C.J S.g go E.O E.M (w.putObj l o)):
  bn C ⟨S.n,S.t,S.b,S.r,S.g,go⟩ E a (w.putObj l o):=by
 have same:∀k,k≠l->(w.putObj l o).heap[k]? =w.heap[k]? :=λk hk=>World.putObj_heap_other hk
 exact{
  wf:=⟨h.wf.tb,h.wf.tr,h.wf.bb,h.wf.br⟩
  marks:=by
   obtain⟨ds,h1,h2,h3⟩:=h.marks;refine⟨ds,h1,h2,λr hr=>?_⟩;obtain⟨h4,h5,h6⟩:=h3 r hr;exact⟨h4,h5,by rw[same r (by rintro rfl;exact h5 hO)];exact h6⟩
  size:=h.size
  os:=h.os
  tape:=h.tape
  output:=h.output
  grown:=by rw[World.putObj_size];exact h.grown
  frame:=λk hk hk'=>by
   rw[same k (by
    rintro rfl;rcases hown with e|e
    ·omega
    exact hk' e)]
   exact h.frame k hk hk'
  m0:=h.m0
  eG:=h.eG
  dh:=eA h.dh λb ⟨o',v,e⟩=>same b (by rintro rfl;rw[(h.kD _ hO).2.1 o']at e;cases e)
  tm:=h.tm
  bx:=λi B hB=>by
   obtain⟨h1,h2,h3,vs,h4,h5⟩:=h.bx i B hB;exact⟨h1,h2,h3,vs,by rw[same _ (by intro e;rw[e]at h3;exact h3 hO)];exact h4,h5⟩
  inj:=h.inj
  rx:=λi R hR=>by
   obtain⟨⟨us,h1,h2⟩,h3⟩:=h.rx i R hR;exact⟨⟨us,dw h1 λg hg=>same g (by rintro rfl;exact(h3 _ hg).2.2.1 hO),h2⟩,h3⟩
  fm:=h.fm
  gC:=h.gC
  ee:=h.ee
  kD:=λb hb=>by rw[World.putObj_size];exact h.kD b hb
  jj:=hj}
theorem yW{C:Ctx}{E:Env}{w:World}:∀(ps:List Nat) (ss:List SV) (S:AS) (vs:List Value) (tmps:Array Value),bn C S E ⟨tmps,[]⟩ w->SV.ef E.M ss vs->ps.length=ss.length->(∀p∈ps,p<S.n)->
  bn C (rH ps ss S) E ⟨(ps.zip vs).foldl (λt (p,v)=>t.setIfInBounds p v) tmps,[]⟩ w
 |[],[],S,[],tmps,h,_,_,_=>h
 |p::ps,s::ss,S,v::vs,tmps,h,hv,hl,hp=>by
  have h1:=h.put (d:=p) (x:=.sv s) (v:=v) hv.1 (hp p (by simp)) ff;exact yW ps ss _ vs _ h1 hv.2 (by simpa using hl) (λq hq=>hp q (List.mem_cons_of_mem _ hq))
 |[],_::_,_,_,_,_,_,hl,_=>by simp at hl
 |_::_,[],_,_,_,_,_,hl,_=>by simp at hl
 |[],[],_,_::_,_,_,h,_,_=>h.elim
 |_::_,_::_,_,[],_,_,h,_,_=>h.elim
theorem bn.JQ{C:Ctx}{S:AS}{E:Env}{a:Act}{w:World}{β:Nat->Nat}{pb:List Nat}(h:bn (AM C β pb) S E a w){l:Nat}{o:Bool->Obj}(hl:w.heap[l]? =some (o false))(hlo:∀b c e,o b≠ .cells c e (0,0))(KM:∀o',E.M l o'=none):
  bn (zA C ⟨w,E.M,Cl S E,β,l,o⟩ pb) ⟨S.n,S.t,S.b,S.r,S.g,false⟩ {E with O:=λb=>b=l} ⟨a.tmps,[]⟩ w where
 wf:=⟨h.wf.tb,h.wf.tr,h.wf.bb,h.wf.br⟩
 marks:=⟨[],Y,List.nodup_nil,by simp⟩
 size:=h.size
 os:=rfl
 tape:=rfl
 output:=rfl
 grown:=Nat.le_refl _
 frame:=λ_ _ _=>rfl
 m0:=Mem.le_refl _
 eG:=λ_ _ _ e=>.inl e
 dh:=h.dh
 tm:=λs=>AV.cI (E:=E) (E':={E with O:=λb=>b=l}) (Mem.le_refl _) (λ_ _=>rfl) (λ_ _=>rfl) (h.tm s)
 bx:=λi B hB=>by
  obtain⟨h1,h2,h3,vs,h4,h5⟩:=h.bx i B hB;refine⟨.inr (.inl ⟨i,B,hB,rfl⟩),h2,?_,vs,h4,h5.imp λx _ v hv=>AV.cI (E:=E) (E':={E with O:=λb=>b=l}) (Mem.le_refl _) (λ_ _=>rfl) (λ_ _=>rfl) hv⟩;intro e;rw[show E.β i=l from e,hl]at h4;exact hlo _ _ _ (Option.some.inj h4)
 inj:=h.inj
 rx:=λi R hR=>by
  obtain⟨⟨us,h1,h2⟩,h3⟩:=h.rx i R hR;refine⟨⟨us,h1,h2⟩,λg hg=>?_⟩;obtain⟨h4,h5,h6,h7⟩:=h3 g hg;refine⟨.inr (.inr ⟨i,R,hR,hg⟩),h5,?_,h7⟩;intro e;obtain⟨_,_,_,c,e',hc⟩:=mL h (.inr ⟨i,R,hR,hg⟩);rw[show g=l from e,hl]at hc;exact hlo _ _ _ (Option.some.inj hc)
 fm:=h.fm
 gC:=h.gC
 ee:=h.ee
 kD:=λb e=>by
  obtain rfl:b=l:=e;exact⟨(Array.getElem?_eq_some_iff.1 hl).1,KM,.inl (.inr Y)⟩
 jj:=⟨Y,hl⟩
theorem bn.WL{C:Ctx}{T S2:AS}{E E2:Env}{a a2:Act}{W3:World}{D:RD}{pb:List Nat}(h2:bn (zA C D pb) S2 E2 a2 W3)
  (hT:∀s,(∀j,(T.t s).mb j->j∈pb)/\(∀j,¬(T.t s).mr j)) (hpb:(pb.all λi=>(S2.b i).isSome)=true) (hn:a.tmps.size=T.n) (htm:∀s,(T.t s).holds E (a.tmps.getD s undef)) (hM:E.M.le E2.M) (hβ:∀i,i∈pb->E.β i=D.β i):
  bn (zA C D pb) ⟨T.n,T.t,S2.b,S2.r,S2.g,S2.go⟩ E2 ⟨a.tmps,[]⟩ W3:=
 {h2 with
  wf:=⟨λs j hj=>by
    have:=List.all_eq_true.1 hpb j ((hT s).1 j hj);exact Option.isSome_iff_exists.1 this,λs j hj=>absurd hj ((hT s).2 j),h2.wf.bb,h2.wf.br⟩
  marks:=⟨[],Y,List.nodup_nil,by simp⟩
  size:=hn
  tm:=λs=>AV.cI hM (λj hj=>by
    have hj':=(hT s).1 j hj;rw[hβ j hj']
    exact h2.gC j (D.β j) (by simp[zA,HB,wG.2 hj'])) (λj hj=>absurd hj ((hT s).2 j)) (htm s)}
theorem bn.outOfRound{C:Ctx}{S S2:AS}{E E2:Env}{a:Act}{w W3:World}{β:Nat->Nat}{pb:List Nat}(hJ:∀g h O M w,C.J g h O M w)(h:bn (AM C β pb) S E a w){l:Nat}{o:Bool->Obj}(hl0:C.w0.heap.size<=l)(KM:∀r,a.defers≠[]->lW r∈a.defers->r≠l)
  (h2:bn (zA C ⟨w,E.M,Cl S E,β,l,o⟩ pb) S2 E2 ⟨a.tmps,[]⟩ W3) (o':Obj):
  bn (AM C β pb) S2 {E2 with O:=λ_=>False} a (W3.putObj l o'):=by
 have V1:E2.O l:=h2.jj.1;have same:∀k,k≠l->(W3.putObj l o').heap[k]? =W3.heap[k]? :=λk hk=>World.putObj_heap_other hk;have keep:∀x:AV,∀v,x.holds E2 v->x.holds {E2 with O:=λ_=>False} v:=λx v hv=>AV.cI (E:=E2) (E':={E2 with O:=λ_=>False}) (Mem.le_refl _) (λ_ _=>rfl) (λ_ _=>rfl) hv;have tO:∀k,w.heap.size<=k\/Cl S E k->C.w0.heap.size<=k\/C.tO k:=λk hk=>by
  rcases hk with e|e
  ·exact .inl (Nat.le_trans h.grown e)
  exact(mL h e).1
 exact{
  wf:=h2.wf
  marks:=by
   obtain⟨ds,h1,h3,h4⟩:=h.marks;refine⟨ds,h1,h3,λr hr=>?_⟩;obtain⟨h5,_,h6⟩:=h4 r hr;have hmem:lW r∈a.defers:=by rw[h1];exact List.mem_map_of_mem hr
   refine⟨h5,λh=>h,?_⟩;rw[same r (KM r (List.ne_nil_of_mem hmem) hmem),h2.frame r (Array.getElem?_eq_some_iff.1 h6).1 (λe=>?_)]
   ·exact h6
   rcases e with e|e
   ·obtain⟨_,_,_,c,e',hc⟩:=mL h e;rw[h6]at hc;cases hc
   exact KM r (List.ne_nil_of_mem hmem) hmem e
  size:=h2.size
  os:=h2.os.trans h.os
  tape:=h2.tape.trans h.tape
  output:=h2.output.trans h.output
  grown:=by rw[World.putObj_size];exact Nat.le_trans h.grown h2.grown
  frame:=λk hk hk'=>by
   have Cm:k≠l:=by have:k<C.w0.heap.size:=hk;omega
   have WM:k<w.heap.size:=by have:C.w0.heap.size<=w.heap.size:=h.grown;have:k<C.w0.heap.size:=hk;omega
   rw[same k Cm,h2.frame k WM (λe=>?_)]
   ·exact h.frame k hk hk'
   rcases e with e|e
   ·rcases(mL h e).1 with e|e
    ·have:k<C.w0.heap.size:=hk;have:C.w0.heap.size<=k:=e;omega
    exact hk' (C.Cf _ e)
   exact Cm e
  m0:=Mem.le_trans h.m0 h2.m0
  eG:=λb o v e=>by
   rcases h2.eG b o v e with e|e|e
   ·exact h.eG b o v e
   ·exact .inr (.inl (Nat.le_trans h.grown e))
   rcases e with e|e
   ·rcases(mL h e).1 with e|e
    ·exact .inr (.inl e)
    exact .inr (.inr (C.Cf _ e))
   exact .inr (.inl (by rw[show b=l from e];exact hl0))
  dh:=eA h2.dh λb ⟨o',v,e⟩=>same b (by rintro rfl;rw[(h2.kD _ V1).2.1 o']at e;cases e)
  tm:=λs=>keep _ _ (h2.tm s)
  bx:=λi B hB=>by
   obtain⟨q1,q2,q3,vs,q4,q5⟩:=h2.bx i B hB;exact⟨tO _ q1,q2,λh=>h,vs,by rw[same _ (by intro e;rw[e]at q3;exact q3 V1)];exact q4,q5.imp λx _ v hv=>keep x v hv⟩
  inj:=h2.inj
  rx:=λi R hR=>by
   obtain⟨⟨us,q1,q2⟩,q3⟩:=h2.rx i R hR;refine⟨⟨us,dw q1 λg hg=>same g (by rintro rfl;exact(q3 _ hg).2.2.1 V1),q2⟩,λg hg=>?_⟩;obtain⟨q4,q5,q6,q7⟩:=q3 g hg;exact⟨tO _ q4,q5,λh=>h,q7⟩
  fm:=h2.fm
  gC:=h2.gC
  ee:=h2.ee
  kD:=λb e=>e.elim
  jj:=hJ _ _ _ _ _}
def JL(C:Ctx)(β:Nat->Nat)(pb:List Nat)(m:Nat)(I:Nat->AS)(Q:Exit->AS->Prop)(a0:Act)(l:Nat)(rec:LoopState->Option Code->Loop):JT:=λg b O M w=>
 ∃E S',bn (AM C β pb) S' E a0 w/\E.M=M/\(∀k,¬E.O k)/\(∀k,O k↔k=l\/Cl S' E k)/\
  ((b=true/\g<=m/\S'=I g/\w.heap[l]? =some (.loop (rec .ready none)))\/(b=false/\∃c,((c=.ret/\Q .ret S')\/∃id,c=.exit id/\Q (.exit id) S')/\w.heap[l]? =some (.loop (rec .done (some c)))))
theorem LD{C:Ctx}{β:Nat->Nat}{pb:List Nat}{m:Nat}{I:Nat->AS}{Q:Exit->AS->Prop}{a0:Act}{l:Nat}{rec:LoopState->Option Code->Loop}{W1:World}(hJ:∀g h O M w,C.J g h O M w)(hmk:∀r,lW r∈a0.defers->r<W1.heap.size)(hW:C.w0.heap.size<=W1.heap.size):AL W1 (JL C β pb m I Q a0 l rec):=by
 rintro g b O M M' w w' ⟨E,S',h,rfl,hO,uG,xR⟩ hM hin hn hs g1 g2 g3 g4;have keep:∀x:AV,∀v,x.holds E v->x.holds {E with M:=M'} v:=λx v hv=>AV.cI (E:=E) (E':={E with M:=M'}) hM (λ_ _=>rfl) (λ_ _=>rfl) hv;have none:∀b,O b->(∀o,E.M b o=none)->∀o,M' b o=none:=λb hb h2 o=>by
  cases e:M' b o with
  |none=>rfl
  |some v=>
   rcases hn _ _ _ e with e'|e'
   ·rw[h2 o]at e';cases e'
   exact absurd hb e'.2
 have ob:∀i B,S'.b i=some B->O (E.β i):=λi B hB=>(uG _).2 (.inr (.inl ⟨i,B,hB,Y⟩));have orr:∀i R,S'.r i=.live R->∀g,(E.ν i).ownBlock=some g->O g:=λi R hR g hg=>(uG _).2 (.inr (.inr ⟨i,R,hR,hg⟩));refine⟨{E with M:=M'},S',?_,Y,hO,uG,?_⟩
 ·exact{
   wf:=h.wf
   marks:=by
    obtain⟨ds,h1,h2,h3⟩:=h.marks;refine⟨ds,h1,h2,λr hr=>?_⟩;obtain⟨h4,h5,h6⟩:=h3 r hr;exact⟨h4,h5,by rw[hs r (.inl (hmk r (by rw[h1];exact List.mem_map_of_mem hr)))];exact h6⟩
   size:=h.size
   os:=g1.trans h.os
   tape:=g2.trans h.tape
   output:=g3.trans h.output
   grown:=Nat.le_trans h.grown g4
   frame:=λk hk hk'=>by
    rw[hs k (.inl (Nat.lt_of_lt_of_le hk hW))];exact h.frame k hk hk'
   m0:=Mem.le_trans h.m0 hM
   eG:=λb o v e=>by
    rcases hn b o v e with e|e
    ·exact h.eG b o v e
    exact .inr (.inl (Nat.le_trans hW e.1))
   dh:=hin
   tm:=λs=>keep _ _ (h.tm s)
   bx:=λi B hB=>by
    obtain⟨h1,h2,h3,vs,h4,h5⟩:=h.bx i B hB;exact⟨h1,none _ (ob i B hB) h2,h3,vs,by rw[hs _ (.inr (ob i B hB))];exact h4,h5.imp λx _ v hv=>keep x v hv⟩
   inj:=h.inj
   rx:=λi R hR=>by
    obtain⟨⟨us,h1,h2⟩,h3⟩:=h.rx i R hR;refine⟨⟨us,dw h1 λg hg=>hs g (.inr (orr i R hR g hg)),h2.mono hM⟩,λg hg=>?_⟩;obtain⟨h4,h5,h6,h7⟩:=h3 g hg;exact⟨h4,none _ (orr i R hR g hg) h5,h6,h7⟩
   fm:=h.fm
   gC:=h.gC
   ee:=h.ee
   kD:=λb hb=>absurd hb (hO b)
   jj:=hJ _ _ _ _ _}
 have hl:w'.heap[l]? =w.heap[l]? :=hs l (.inr ((uG l).2 (.inl Y)));rcases xR with⟨e1,e2,e3⟩|⟨e1,c,e2,e3⟩
 ·exact .inl ⟨e1,e2,by rw[hl];exact e3⟩
 exact .inr ⟨e1,c,e2,by rw[hl];exact e3⟩
theorem AO{r:Loop}(c:Array Value)(e:TypeId):(Obj.loop r)≠ .cells c e (0,0):=by intro h;cases h
theorem pI{P:Program}{C:Ctx}{S:AS}{Q:Exit->AS->Prop}{g:Operand}{ps:Array Tmp}{assign body:Code}{f:FuncId}[dz P f]{caps:List SV}{n:Nat}{xs:Nat->List SV}
  (hit:Iter P f caps n xs) (hJ:∀g h O M w,C.J g h O M w) (hro:C.ro=none) (I:Nat->AS) (pb:List Nat) (hg:(I 0).ev g=.sv (iT f caps)) (hI:∀k,(I k).n=(I 0).n/\(I k).t=(I 0).t)
  (hT:∀s,(∀j,((I 0).t s).mb j->j∈pb)/\∀j,¬((I 0).t s).mr j) (hps:∀k,(xs k).length=ps.size) (Ls:∀p∈ps.toList,p<(I 0).n) (h0:rV S (I 0))
  (m:Nat) (round:∀k,k<n->k<=m->∀D:RD,C.w0.heap.size<=D.W.heap.size->Ok P (zA C D pb) assign ((I k).LC ps.toList (xs k)) (aV (λS1=>S1.go=false/\Ok P (zA C D pb) body S1.AN (RP (k+1<=m) pb (I 0) (I (k+1)) Q)) (λ_ _=>False)))
  (done:n<=m->Q .normal (I n)):Ok P C (.rangeFunc g ps assign body) S Q:=by
 intro a w hs;obtain⟨E',h1⟩:=h0 C a w hs;obtain⟨n7,ER,aaA⟩:(iT f caps).h E'.M (a.eval g):=by have:=h1.ev g;rw[hg]at this;exact this
 rw[hro];refine wpIn_rangeFunc ?_;intro fn _;obtain⟨rec,xR⟩:∃rec:LoopState->Option Code->Loop,rec=λst pe=>{state:=st,pending:=pe,fn,tmps:=a.tmps,params:=ps,assign,body,defers:=w.heap.size}:=⟨_,Y⟩;obtain⟨W1,WN⟩:∃W1,(w.alloc (.deferred (some []))).alloc (.loop (rec .ready none))=W1:=⟨_,Y⟩;have Zz:W1.heap[w.heap.size+1]? =some (.loop (rec .ready none)):=by
  rw[<-WN];have:=World.alloc_heap_new (w.alloc (.deferred (some []))) (.loop (rec .ready none));rwa[World.size_alloc]at this
 have hK1:W1.heap[w.heap.size]? =some (.deferred (some [])):=by
  rw[<-WN];exact(Below.heap_alloc _ _ _ (by simp)).trans (World.alloc_heap_new w _)
 have xO:Below w.heap.size w W1:=by rw[<-WN];exact(((Below.refl _ w).alloc (Nat.le_refl _) _).alloc (by simp) _)
 have hsz:W1.heap.size=w.heap.size+2:=by rw[<-WN];simp
 have h2:=h1.grow (M':=E'.M) (Mem.le_refl _) (λ_ _ _ e=>.inl e) (eA h1.dh λb ⟨o,v,e⟩=>xO.block b (nm h1.dh e)) xO;obtain⟨a0,ha0⟩:∃a0:Act,a0={a with defers:=lW w.heap.size::a.defers}:=⟨_,Y⟩;obtain⟨ds,d1,d2,d3⟩:=h1.marks;have dlt:∀r∈ds,r<w.heap.size:=λr hr=>(Array.getElem?_eq_some_iff.1 (d3 r hr).2.2).1;have IM:∀r r',lW r=lW r'->r=r':=λr r' e=>by
  have:=congrArg Deferred.target e;simpa[lW]using this
 have hmk:∀r,lW r∈a0.defers->r<w.heap.size+1:=λr hr=>by
  rw[ha0]at hr;rcases List.mem_cons.1 hr with e|e
  ·rw[IM _ _ e];omega
  rw[d1]at e;obtain⟨r',hr',e⟩:=List.mem_map.1 e;rw[<-IM _ _ e];have:=dlt r' hr';omega
 have h3:bn C (I 0) {E' with O:=λ_=>False} a0 W1:=
  {h2 with
   marks:=by
    refine⟨w.heap.size::ds,by rw[ha0,List.map_cons,d1],List.nodup_cons.2 ⟨λhm=>by have:=dlt _ hm;omega,d2⟩,λr hr=>?_⟩;rcases List.mem_cons.1 hr with rfl|hr
    ·exact⟨h1.grown,λh=>h,hK1⟩
    exact⟨(d3 r hr).1,λh=>h,by rw[xO.block r (dlt r hr)];exact(d3 r hr).2.2⟩
   size:=by rw[ha0];exact h2.size
   tm:=λs=>by rw[ha0];exact AV.cI (E:=E') (E':={E' with O:=λ_=>False}) (Mem.le_refl _) (λ_ _=>rfl) (λ_ _=>rfl) (h2.tm s)
   bx:=λi B hB=>by
    obtain⟨q1,q2,q3,vs,q4,q5⟩:=h2.bx i B hB;exact⟨q1,q2,λh=>h,vs,q4,q5.imp λx _ v hv=>AV.cI (E:={E' with M:=E'.M}) (E':={E' with O:=λ_=>False}) (Mem.le_refl _) (λ_ _=>rfl) (λ_ _=>rfl) hv⟩
   rx:=λi R hR=>by
    obtain⟨q1,q2⟩:=h2.rx i R hR;exact⟨q1,λg hg=>⟨(q2 g hg).1,(q2 g hg).2.1,λh=>h,(q2 g hg).2.2.2⟩⟩
   kD:=λb e=>e.elim
   jj:=hJ _ _ _ _ _}
 have S9:∀i b,C.gC i=some b->E'.β i=b:=h1.gC;have h4:=h3.pinned pb;have hl0:C.w0.heap.size<=w.heap.size+1:=Nat.le_succ_of_le h1.grown;refine⟨w.heap.size+1,[lW w.heap.size],W1,{target:=.fn (.func f) ⟨n7⟩,args:=#[.func (.yield (w.heap.size+1)) #[] #[]]},W1,f,
  ⟨.func (.yield (w.heap.size+1)) #[] #[]::n7⟩,W1,?_,?_,λ_ _=>trivial,?_,λh=>by simp at h,?_⟩
 ·rw[<-WN,xR];exact run_enterLoop_outer _ _ _ _ _
 ·simp only[resolve,ER];simp[Deferred.ofValue,Act.eval]
 ·have:=dz.run (P:=P) (f:=f) (#[.func (.yield (w.heap.size+1)) #[] #[]]++⟨n7⟩) W1;have e:(#[.func (.yield (w.heap.size+1)) #[] #[]]++⟨n7⟩:Array Value)=⟨.func (.yield (w.heap.size+1)) #[] #[]::n7⟩:=by apply Array.ext';simp
  rw[e]at this;simp[invoke,e,this]
 have QF:E'.M.dh W1:=h3.dh;refine gi ((hit (JL C E'.β pb m I Q a0 (w.heap.size+1) rec) (λk=>k=w.heap.size+1\/Cl (I 0) {E' with O:=λ_=>False} k) E'.M W1 (w.heap.size+1) n7 QF aaA
  (LD hJ (λr hr=>by have:=hmk r hr;omega) (by have:=h3.grown;exact this)) ?_ ?_ ?_).mono ?_)
 ·
  rintro k O M W args hk ⟨E,S',h,rfl,hO,uG,hst⟩ _ hin hargs;rcases hst with⟨_,hkm,rfl,hl⟩|⟨e,_⟩
  case inr=>cases e
  have hlM:∀o,E.M (w.heap.size+1) o=none:=λo=>by
   cases e:E.M (w.heap.size+1) o with
   |none=>rfl
   |some v=>exact((hin _ _ _ e).no (by simp[World.cell?,hl]) (λes ck q=>by rw[hl]at q;cases q) (λc T q=>by rw[hl]at q;cases q)).elim
  have hlen:args.length=ps.size:=by rw[<-hargs.length,hps k]
  have hy:=run_yield (P:=P) (args:=⟨args⟩) hl (by rw[xR];simpa using hlen);rw[xR]at hy;refine⟨fn,_,assign,body,hy,?_⟩;simp only;clear hy
  let o:Bool->Obj:=λb=>bif b then .loop (rec .busy none)else .loop (rec .ready none)
  have Lx:=h.JQ (l:=w.heap.size+1) (o:=o) hl (λb c e=>by cases b<;>exact AO c e) hlM;have aaD:a0.tmps=a.tmps:=by rw[ha0]
  have WO:=yW ps.toList (xs k) _ args a0.tmps Lx hargs (by rw[hps k];simp) (by
   intro p hp;show p<(I k).n;rw[(hI k).1];exact Ls p hp)
  have htm:(ps.toList.zip args).foldl (λt (p,v)=>t.setIfInBounds p v) a0.tmps=(ps.zip ⟨args⟩).foldl (λtmps (t,a)=>tmps.setIfInBounds t a) a.tmps:=by
   rw[aaD,<-Array.foldl_toList,Array.toList_zip]
  rw[htm]at WO;have hr:=round k hk hkm ⟨W,E.M,Cl (I k) E,E'.β,w.heap.size+1,o⟩ h.grown _ W ⟨_,WO⟩;refine roundIn_of_wpIn (F:=Fr none) trivial (wpIn_mono hr ?_);rintro e a1 w1 ⟨S1,q,E1,hh1⟩;cases e with
  |normal=>
   obtain⟨OO,hbody⟩:=q;obtain⟨V1,SR⟩:=hh1.jj;rw[OO]at SR;refine⟨_,run_beginRound SR (by rw[xR]),?_⟩;have aaE:=(Array.getElem?_eq_some_iff.1 SR).1;have Cb:Obj.loop {rec .ready none with state:=.busy}=o true:=by simp only[o,xR];rfl
   have Cj:=hh1.OY (l:=w.heap.size+1) (o:=o true) V1 (.inr (.inr Y)) (go:=true) ⟨V1,World.putObj_heap_same aaE⟩;rw[Cb];refine wpIn_mono (hbody a1 _ ⟨_,Cj⟩) ?_;have KM:∀r,a0.defers≠[]->lW r∈a0.defers->r≠w.heap.size+1:=λr _ hr=>by have:=hmk r hr;omega
   have out:∀(S2:AS) (E2:Env) (a2:Act) (W3:World),bn (zA C ⟨W,E.M,Cl (I k) E,E'.β,w.heap.size+1,o⟩ pb) S2 E2 a2 W3->S2.go=true->(pb.all λi=>(S2.b i).isSome)=true->
     bn (zA C ⟨W,E.M,Cl (I k) E,E'.β,w.heap.size+1,o⟩ pb) ⟨(I 0).n,(I 0).t,S2.b,S2.r,S2.g,true⟩ E2 ⟨a0.tmps,[]⟩ W3:=by
    intro S2 E2 a2 W3 hh Ta hpb;have:=hh.WL (T:=I 0) (E:=E) (a:=a0) hT hpb (by rw[h.size,(hI k).1]) (λs=>by have:=h.tm s;rw[(hI k).2]at this;exact this) hh.m0 (λi hi=>h.gC i (E'.β i) (by simp[AM,HB,wG.2 hi]));rw[Ta]at this;exact this
   have fin:∀(S2:AS) (E2:Env) (W3:World) (jump:Option Code),bn (zA C ⟨W,E.M,Cl (I k) E,E'.β,w.heap.size+1,o⟩ pb) S2 E2 ⟨a0.tmps,[]⟩ W3->S2.go=true->
     (Instr.endRound (w.heap.size+1) jump).run P W3=.ok (.bool jump.isNone) (W3.putObj (w.heap.size+1) (.loop (rec (if jump.isNone then .ready else .done) jump)))/\
     bn (AM C E'.β pb) S2 {E2 with O:=λ_=>False} a0 (W3.putObj (w.heap.size+1) (.loop (rec (if jump.isNone then .ready else .done) jump)))/\
     (W3.putObj (w.heap.size+1) (.loop (rec (if jump.isNone then .ready else .done) jump))).heap[w.heap.size+1]? =some (.loop (rec (if jump.isNone then .ready else .done) jump))/\
     S4 O E.M W (λb=>b=w.heap.size+1\/Cl S2 {E2 with O:=λ_=>False} b) E2.M (W3.putObj (w.heap.size+1) (.loop (rec (if jump.isNone then .ready else .done) jump))):=by
    intro S2 E2 W3 jump hh Ta;obtain⟨aaF,Tc⟩:=hh.jj;rw[Ta]at Tc;have WQ:=(Array.getElem?_eq_some_iff.1 Tc).1;have hrun:=run_endRound (P:=P) jump Tc;have hout:=h.outOfRound hJ (l:=w.heap.size+1) (o:=o) hl0 KM hh (.loop (rec (if jump.isNone then .ready else .done) jump));refine⟨?_,hout,World.putObj_heap_same WQ,?_⟩
    ·rw[hrun,xR]
    refine⟨hh.m0,hout.dh,λb o v e=>?_,λb hb=>?_,λk' hk' hnO=>?_,hh.os,hh.tape,hh.output,by rw[World.putObj_size];exact hh.grown⟩
    ·rcases hh.eG b o v e with e|e|e
     ·exact .inl e
     ·exact .inr (.inl e)
     exact .inr (.inr ((uG b).2 (e.symm)))
    ·rw[World.putObj_size];rcases hb with hb|hb
     ·subst hb;exact⟨.inl ((uG _).2 (.inl Y)),WQ,(hh.kD _ aaF).2.1⟩
     obtain⟨q1,q2,q3,c,e',q4⟩:=mL hh (show Cl S2 E2 b from hb);refine⟨?_,(Array.getElem?_eq_some_iff.1 q4).1,q2⟩;rcases q1 with q1|q1
     ·exact .inr q1
     exact .inl ((uG b).2 (.inr q1))
    have hne:k'≠w.heap.size+1:=by rintro rfl;exact hnO ((uG _).2 (.inl rfl))
    rw[World.putObj_heap_other hne];exact hh.frame k' hk' (λe=>hnO ((uG k').2 e.symm))
   rintro e a2 W3 ⟨S2,hp,E2,ZA⟩;cases e with
   |normal=>
    obtain⟨p0,p1,p2,p3⟩:=hp;obtain⟨E3,hh4⟩:=p3 _ _ _ ⟨_,out S2 E2 a2 W3 ZA p1 p2⟩;have aaG:(I (k+1)).go=true\/(I (k+1)).go=false:=by cases(I (k+1)).go<;>simp
    have aaH:(I (k+1)).go=true:=by
     rcases aaG with e|e
     ·exact e
     exfalso;have h5:=hh4.jj.2;have h6:=(out S2 E2 a2 W3 ZA p1 p2).jj.2;rw[e]at h5;rw[show(AS.mk (I 0).n (I 0).t S2.b S2.r S2.g true).go=true from rfl]at h6;rw[h5]at h6;simp[o,xR]at h6
    obtain⟨f1,f2,f3,f4⟩:=fin _ E3 W3 none hh4 aaH;exact⟨_,_,f1,true,_,_,Y,⟨_,_,f2,Y,λ_ h=>h,λ_=>Iff.rfl,.inl ⟨Y,p0,Y,f3⟩⟩,f4⟩
   |ret=>
    obtain⟨p1,p2,p3⟩:=hp;obtain⟨f1,f2,f3,f4⟩:=fin _ E2 W3 (some .ret) (out S2 E2 a2 W3 ZA p1 p2) Y;exact⟨_,_,f1,false,_,_,Y,⟨_,_,f2,Y,λ_ h=>h,λ_=>Iff.rfl,.inr ⟨Y,.ret,.inl ⟨Y,p3⟩,f3⟩⟩,f4⟩
   |exit id=>
    obtain⟨p1,p2,p3⟩:=hp;obtain⟨f1,f2,f3,f4⟩:=fin _ E2 W3 (some (.exit id)) (out S2 E2 a2 W3 ZA p1 p2) Y;exact⟨_,_,f1,false,_,_,Y,⟨_,_,f2,Y,λ_ h=>h,λ_=>Iff.rfl,.inr ⟨Y,.exit id,.inr ⟨id,Y,p3⟩,f3⟩⟩,f4⟩
   |goto t=>exact hp.elim
   |panic ch=>exact hp.elim
   |outgrown=>exact hp.elim
  |_=>exact q.elim
 ·
  rintro b (rfl|hb)
  ·refine⟨by omega,λo=>?_⟩;cases e:E'.M (w.heap.size+1) o with
   |none=>rfl
   |some v=>exact((QF _ _ _ e).no (by simp[World.cell?,Zz]) (λes ck q=>by rw[Zz]at q;cases q) (λc T q=>by rw[Zz]at q;cases q)).elim
  obtain⟨_,q2,_,c,e,q3⟩:=mL h4 hb;exact⟨(Array.getElem?_eq_some_iff.1 q3).1,q2⟩
 ·exact⟨_,_,h4,Y,λ_ h=>h,λ_=>Iff.rfl,.inl ⟨Y,Nat.zero_le _,Y,Zz⟩⟩
 rintro e w' ⟨v,k,b,O',M',rfl,⟨E,S',h,rfl,hO,uG,hst⟩,Td⟩;have hnl:∀o',bn C S' E a0 (w'.putObj (w.heap.size+1) o'):=λo'=>by
  have hh:=h.LB S9;have hlr:∃r,w'.heap[w.heap.size+1]? =some (.loop r):=by
   rcases hst with⟨_,_,_,h⟩|⟨_,c,_,h⟩<;>exact⟨_,h⟩
  obtain⟨r,hlr⟩:=hlr;have hlM:∀o,E.M (w.heap.size+1) o=none:=λo=>by
   cases e:E.M (w.heap.size+1) o with
   |none=>rfl
   |some v=>exact((h.dh _ _ _ e).no (by simp[World.cell?,hlr]) (λes ck q=>by rw[hlr]at q;cases q) (λc T q=>by rw[hlr]at q;cases q)).elim
  have WR:∀b,Cl S' E b->b≠w.heap.size+1:=by
   rintro b hb rfl;obtain⟨_,_,_,c,e,q⟩:=mL hh hb;rw[hlr]at q;cases q
  have same:∀k,k≠w.heap.size+1->(w'.putObj (w.heap.size+1) o').heap[k]? =w'.heap[k]? :=λk hk=>World.putObj_heap_other hk
  exact{hh with
   marks:=by
    obtain⟨ds',q1,q2,q3⟩:=hh.marks;refine⟨ds',q1,q2,λr hr=>?_⟩;obtain⟨q4,q5,q6⟩:=q3 r hr;exact⟨q4,q5,by rw[same r (by have:=hmk r (by rw[q1];exact List.mem_map_of_mem hr);omega)];exact q6⟩
   grown:=by rw[World.putObj_size];exact hh.grown
   frame:=λk hk hk'=>by rw[same k (by omega)];exact hh.frame k hk hk'
   dh:=eA hh.dh λb ⟨o,v,e⟩=>same b (by rintro rfl;rw[hlM o]at e;cases e)
   bx:=λi B hB=>by
    obtain⟨q1,q2,q3,vs,q4,q5⟩:=hh.bx i B hB;exact⟨q1,q2,q3,vs,by rw[same _ (WR _ (.inl ⟨i,B,hB,Y⟩))];exact q4,q5⟩
   rx:=λi R hR=>by
    obtain⟨⟨us,q1,q2⟩,q3⟩:=hh.rx i R hR;exact⟨⟨us,dw q1 λg hg=>same g (WR g (.inr ⟨i,R,hR,hg⟩)),q2⟩,q3⟩
   kD:=λb hb=>absurd hb (hO b)
   jj:=hJ _ _ _ _ _}
 rw[show({a with defers:=[lW w.heap.size]++a.defers}:Act)=a0 from by rw[ha0];rfl];rcases hst with⟨hb,hkm,rfl,hl⟩|⟨hb,c,hc,hl⟩
 ·have hk:=Td hb;subst hk;refine⟨none,_,by have:=run_endLoop (P:=P) hl (by rw[xR];simp);rw[xR]at this;exact this,_,done hkm,_,hnl _⟩
 refine⟨some c,_,by have:=run_endLoop (P:=P) hl (by rw[xR];simp);rw[xR]at this;exact this,?_⟩;rcases hc with⟨rfl,hq⟩|⟨id,rfl,hq⟩
 ·exact wpIn_ret ⟨_,hq,_,hnl _⟩
 exact wpIn_exit ⟨_,hq,_,hnl _⟩
theorem iy{P:Program}{C:Ctx}{S:AS}{Q:Exit->AS->Prop}{g:Operand}{ps:Array Tmp}{assign body:Code}{f:FuncId}[dz P f]{caps:List SV}{n:Nat}{xs:Nat->List SV}
  (hit:Iter P f caps n xs) (hJ:∀g h O M w,C.J g h O M w) (hro:C.ro=none) (I:Nat->AS) (pb:List Nat) (hg:(I 0).ev g=.sv (iT f caps)) (hI:∀k,(I k).n=(I 0).n/\(I k).t=(I 0).t)
  (hT:∀s,(∀j,((I 0).t s).mb j->j∈pb)/\∀j,¬((I 0).t s).mr j) (hps:∀k,(xs k).length=ps.size) (Ls:∀p∈ps.toList,p<(I 0).n) (h0:rV S (I 0))
  (round:∀k,k<n->∀D:RD,C.w0.heap.size<=D.W.heap.size->Ok P (zA C D pb) assign ((I k).LC ps.toList (xs k)) (aV (λS1=>S1.go=false/\Ok P (zA C D pb) body S1.AN (RP True pb (I 0) (I (k+1)) Q)) (λ_ _=>False)))
  (done:Q .normal (I n)):Ok P C (.rangeFunc g ps assign body) S Q:=
 pI hit hJ hro I pb hg hI hT hps Ls h0 n (λk hk _ D hD=>DA (round k hk D hD) λe S1 q=>by
  cases e with
  |normal=>exact⟨q.1,DA q.2 λe' S2 q'=>by cases e'<;>first|exact⟨hk,q'.2⟩|exact q'⟩
  |_=>exact q) (λ_=>done)
end
section
open Go.RowKit
theorem OZ{a:Nat}:IntKind.u64.wrap (a:Int)=((a%18446744073709551616:Nat):Int):=by
 simp[IntKind.wrap,IntKind.signed,IntKind.bits]
section steps
variable {P:Program}{C:Ctx}{ops:Array Oper}{S:AS}{nd:Bool}{K:List Ac->AS->Prop}{rest:List Oper}{acc:List Ac}
variable {gd:Option (Nat×Bool)}{rg:List Nat}{d:Nat}{ty:TypeId}{pos:String}{aft:Array Edge}{x y z:Operand}{T U E0 E1:TypeId}
theorem RT.WS{R:AS->Prop}(hg:Gd ops S gd rg){n:Nat}[tS:eM P T E0 n]{s:SV}{rows:List (List SV)}[hs:ON s n rows]{n' c':Nat}(hx:S.ev x=.sv s)(hd:d<S.n)
  (next:∀b:Bool,(b=true->rows=[])->RunT P C ops true (λ_ S=>R S) rest [] (S.set d (.sv (.v (.bool b))))):RunT P C ops true (λ_ S=>R S) (⟨some d,.binOp .eql T x (.const (.slice none n' c')) U,ty,pos,aft,gd⟩::rest) acc S:=by
 refine .inr ⟨Y,λS'=>∃b:Bool,(b=true->rows=[])/\S'=S.set d (.sv (.v (.bool b))),?_,?_⟩
 ·rintro i a w L Q ho ⟨E,h⟩ hL;refine cA (C:=C) ho (hg.wanted h (λ_ _=>rfl) rfl) ?_;have h1:=h.ev x;rw[hx]at h1;obtain⟨ad,n0,c0,hv,aaJ⟩:∃ad n0 c0,a.eval x=.slice ad n0 c0/\(ad.isNone=true->rows=[]):=by
   rcases hs.h _ _ h1 with⟨_,e,e2⟩|⟨b,o,c,e,_⟩
   ·exact⟨_,_,_,e,λ_=>e2⟩
   exact⟨_,_,_,e,λh=>by cases h⟩
  have hrun:(execOp a.eval ⟨some d,.binOp .eql T x (.const (.slice none n' c')) U,ty,pos,aft,gd⟩).run P w=.ok (.value (.bool ad.isNone)) w:=by
   have e1:=Lib.run_eql_slice_nil (P:=P) w T E0 ad n0 c0 n' c' tS.u;have e2:(eqGuard .eql T x (.const (.slice none n' c')) (.slice ad n0 c0) (.slice none n' c')).run P w=.ok () w:=by simp[eqGuard]
   have e0:a.eval (.const (.slice none n' c'))=.slice none n' c':=rfl;simp only[execOp,hv,e0];simp only[Sem.run_bind,e2,e1,Result.andThen_ok,Sem.run_pure]
  exact ct (C:=C) (by intro c h;cases h) hrun (hL _ _ _ ⟨_,aaJ,rfl⟩ ⟨E,h.put (x:=.sv (.v (.bool ad.isNone))) rfl hd ff⟩)
 rintro S' ⟨b,hb,rfl⟩;exact next b hb
theorem RT.field(hg:Gd ops S gd rg){f off:Nat}[hf:xH P T f off U][tV:pV P U]{cs:List SV}{s:SV}(hx:S.ev x=.sv (.agg cs))(hs:cs[off]? =some s)(hd:d<S.n)
  (next:RunT P C ops nd K rest (⟨rg++aZ x,[],[],⟨some (d,.sv s),[],[]⟩⟩::acc) (S.set d (.sv s))):RunT P C ops nd K (⟨some d,.field T x f,ty,pos,aft,gd⟩::rest) acc S:=
 RT.value hg (aZ x) [] [] (.sv s) hd (by intro c h;cases h) (λS' ht _ _ E a w h=>by
  have h1:=h.ev x;rw[bw (λ_ h=>h) ht,hx]at h1;obtain⟨vs,hv,hall⟩:=h1;obtain⟨u,hu,hs⟩:=hall.get hs;refine⟨u,?_,hs,ff⟩;have hF:=hf.h;cases hT:P.underlying T with
  |none=>rw[hT]at hF;cases hF
  |some ut=>
   rw[hT]at hF;cases ut with
   |struct fs=>
    simp only at hF;cases hFf:fs[f]? with
    |none=>rw[hFf]at hF;cases hF
    |some F=>
     rw[hFf]at hF;simp only[Option.map_some,Option.some.injEq,Prod.mk.injEq]at hF;obtain⟨q1,q2⟩:=hF;simp[execOp,Instr.field,underlying,hT,hFf,hv,asAgg,part,q1,q2,tV.isAgg,hu]
   |_=>cases hF) next
end steps
theorem jd{S:AS}(s k:Nat)(E0:TypeId)(sz:Nat)(hs:S.t s=.sv (.v (.slice none 0 0)))(hk:S.r k=.un)(WM:k<1000):rV S ((AS.b9 [(k,.live ⟨E0,sz,0,[]⟩)] S).set s (.row k)):=by
 rintro C a w ⟨E,h⟩;have h1:=h.newRow hk WM [] none (.inl ⟨Y,Y⟩) (R':=⟨E0,sz,0,[]⟩) (World.ownsRow_nil w 0 E0 sz) (vs':=[]) trivial (.inl Y) (qL w none);refine⟨_,{h1 with wf:=?_,tm:=λt=>?_}⟩
 ·refine⟨λt j hj=>?_,λt j hj=>?_,h1.wf.bb,h1.wf.br⟩
  ·by_cases e:t=s
   ·subst e;rw[AS.ja]at hj;exact hj.elim
   rw[AS.gV _ _ _ _ e]at hj;exact h1.wf.tb t j hj
  by_cases e:t=s
  ·subst e;rw[AS.ja]at hj;cases hj;show(AS.pE S k _).r k≠_;rw[AS.gW];simp
  rw[AS.gV _ _ _ _ e]at hj;exact h1.wf.tr t j hj
 by_cases e:t=s
 ·subst e;rw[AS.ja];have:=h.tm t;rw[hs]at this;show a.tmps.getD t undef=if k=k then _ else _;rw[if_pos rfl];exact this
 rw[AS.gV _ _ _ _ e];exact h1.tm t
theorem DI{S:AS}(s:Nat)(X:SV)(hx:∀E v,(S.t s).holds E v->X.h E.M v):rV S (S.set s (.sv X)):=by
 rintro C a w ⟨E,h⟩;refine⟨E,{h with wf:=?_,tm:=λt=>?_}⟩
 ·refine⟨λt j hj=>?_,λt j hj=>?_,h.wf.bb,h.wf.br⟩
  ·by_cases e:t=s
   ·subst e;rw[AS.ja]at hj;exact hj.elim
   rw[AS.gV _ _ _ _ e]at hj;exact h.wf.tb t j hj
  by_cases e:t=s
  ·subst e;rw[AS.ja]at hj;exact hj.elim
  rw[AS.gV _ _ _ _ e]at hj;exact h.wf.tr t j hj
 by_cases e:t=s
 ·subst e;rw[AS.ja];exact hx E _ (h.tm t)
 rw[AS.gV _ _ _ _ e];exact h.tm t
theorem DJ{g:FuncId}{caps:List SV}{E:Env}{v:Value}(h:(AV.fV g (caps.map qE.val)).holds E v):(iT g caps).h E.M v:=by
 obtain⟨vs,rfl,h⟩:=h;refine⟨vs,Y,?_⟩;have key:∀(l:List SV) (vs:List Value),zu E (l.map qE.val) vs->SV.ef E.M l vs:=by
  intro l
  induction l with
  |nil=>intro vs h;cases vs with|nil=>trivial|cons _ _=>exact h.elim
  |cons c l ih=>
   intro vs h;cases vs with
   |nil=>exact h.elim
   |cons x xs=>exact⟨h.1,ih xs h.2⟩
 exact key caps vs h
def AV.rt(pb:List Nat):AV->Bool
 |.sv _=>true
 |.ptr i _=>pb.any (Nat.beq i)
 |.EO i _ _ _=>pb.any (Nat.beq i)
 |.fV _ js=>js.all λc=>match c with|.box i=>pb.any (Nat.beq i)|.val _=>true
 |_=>false
theorem WT{pb:List Nat}{x:AV}(h:x.rt pb=true):(∀j,x.mb j->j∈pb)/\∀j,¬x.mr j:=by
 cases x<;>first|cases h|skip
 ·exact⟨λj e=>e.elim,λj e=>e⟩
 ·exact⟨λj e=>by cases e;exact wG.1 h,λj e=>e⟩
 ·exact⟨λj e=>by cases e;exact wG.1 h,λj e=>e⟩
 refine⟨λj e=>?_,λj e=>e⟩;exact wG.1 (List.all_eq_true.1 h _ e)
theorem qN{n:Nat}{ts:List (Nat×AV)}{bs:List (Nat×nX)}{rs:List (Nat×Row)}{pb:List Nat}(h:(ts.all λp=>p.2.rt pb)=true)(s:Nat):(∀j,((AS.cM n ts bs rs).t s).mb j->j∈pb)/\∀j,¬((AS.cM n ts bs rs).t s).mr j:=by
 show(∀j,(IF ts s).mb j->j∈pb)/\∀j,¬(IF ts s).mr j;rcases zX (ts:=ts) (s:=s)with e|⟨p,hp,_,e⟩
 ·rw[e];exact⟨λj e=>e.elim,λj e=>e⟩
 rw[e];exact WT (List.all_eq_true.1 h p hp)
theorem qO{ps:List Nat}{n:Nat}(h:(ps.all λp=>Nat.ble (p+1) n)=true):∀p∈ps,p<n:=λp hp=>af (List.all_eq_true.1 h p hp)
end
section
open Go.RowKit
inductive Src (S:AS) (E0:TypeId) (n:Nat):Operand->List (Nat×kK)->List Nat->Nat->List SV->Prop
 |nil {x:Operand} (h:S.ev x=.sv (.v (.slice none 0 0))):Src S E0 n x [] [] 0 []
 |row {x:Operand} {i m:Nat} {cs:List SV} (h:S.ev x=.row i) (hR:S.r i=.live ⟨E0,n,m,cs⟩):Src S E0 n x [(i,.dead)] [i] m cs
theorem LF{i:Nat}{X:SV}{x:AV}(h:¬x.mr i):x.nD i X=x:=by
 cases x with
 |row k=>simp only[AV.nD];rw[cC (λe=>h e.symm)];rfl
 |iS k o=>simp only[AV.nD];rw[cC (λe=>h e.symm)];rfl
 |nC k o l=>simp only[AV.nD];rw[cC (λe=>h e.symm)];rfl
 |cmp t js=>
  simp only[AV.nD];have:js.any (Fc.yN i)=false:=by
   cases e:js.any (Fc.yN i)with
   |false=>rfl
   |true=>
    obtain⟨c,hc,hi⟩:=List.any_eq_true.1 e;cases c with
    |row j=>have hi:Nat.beq j i=true:=hi;obtain rfl:=Nat.eq_of_beq_eq_true hi;exact absurd hc h
    |_=>cases hi
  rw[this];rfl
 |_=>rfl
section steps
variable {P:Program}{C:Ctx}{ops:Array Oper}{S:AS}{nd:Bool}{K:List Ac->AS->Prop}{rest:List Oper}{acc:List Ac}
variable {gd:Option (Nat×Bool)}{rg:List Nat}{d:Nat}{ty:TypeId}{pos:String}{aft:Array Edge}{x y z:Operand}{T U E0:TypeId}
theorem Src.val{E:Env}{a:Act}{w:World}{S':AS}{n m:Nat}{old:List (Nat×kK)}{rr:List Nat}{cs:List SV}(h:bn C S' E a w)(hx:Src S E0 n x old rr m cs)(ht:∀s∈aZ x,S'.t s=S.t s)(hr:∀i∈rr,S'.r i=S.r i):
  (∃vs,w.ownsRow 0 E0 n (a.eval x) m vs/\SV.ef E.M cs vs)/\((old=[]/\(a.eval x).ownBlock=none)\/∃i R,old=[(i,.dead)]/\S'.r i=.live R/\(a.eval x).ownBlock=(E.ν i).ownBlock):=by
 cases hx with
 |nil hx=>
  have h1:a.eval x=.slice none 0 0:=by have h1:=h.ev x;rw[bw (λ_ h=>h) ht,hx]at h1;exact h1
  rw[h1];exact⟨⟨[],World.ownsRow_nil _ _ _ _,aq⟩,.inl ⟨Y,Y⟩⟩
 | @row i _ _ hx hR=>
  have h1:a.eval x=E.ν i:=by have h1:=h.ev x;rw[bw (λ_ h=>h) ht,hx]at h1;exact h1
  have nU:=(hr i (by simp)).trans hR;rw[h1];obtain⟨⟨vs,h2,h3⟩,_⟩:=h.rx i _ nU;exact⟨⟨vs,h2,h3⟩,.inr ⟨i,_,Y,nU,Y⟩⟩
theorem RT.IN(hg:Gd ops S gd rg){n by_:Nat}{zv:Value}[tS:eM P T E0 n][tE:jw P E0 n by_ zv]{old:List (Nat×kK)}{rr:List Nat}{m:Nat}{cs:List SV}{s:SV}{rows:List (List SV)}[hs:ON s n rows]
  (hx:Src S E0 n x old rr m cs) (hy:S.ev y=.sv s) (hd:d<S.n) (xN:S.r d=.un) (we:d<1000) (hroom:(m+rows.length)*by_<=140737488355328) (rZ:m+rows.length<=140737488355328)
  (X:SV) {rows':List (List SV)} (hX:∀M v,(slc n rows').h M v->(∀g,v.ownBlock=some g->(C.w0.heap.size<=g\/C.tO g)/\∃o,M g o=some (.agg #[]))->X.h M v) (jc:Rows n rows' (cs++rows.flatten)) (hlen:rows'.length=m+rows.length) (hone:∀M vs,SV.ef M (cs++rows.flatten) vs->∀v∈vs,v.oneCell'=true)
  (next:RunT P C ops nd K rest (⟨rg++(aZ x++aZ y),[],d::rr,⟨some (d,.sv X),[],old++[(d,.dead)]⟩⟩::acc) ((AS.b9 (old++[(d,.dead)]) S).set d (.sv X))):RunT P C ops nd K (⟨some d,.call ⟨.builtin .append,#[x,y],#[T,T]⟩,ty,pos,aft,gd⟩::rest) acc S:=by
 refine .inl ⟨_,[],d::rr,_,?_,next⟩;rintro S' hn ht _ hr i a w L Q ho ⟨E,h⟩ hL;refine cA (C:=C) ho (hg.wanted h (λs hs=>ht s (List.mem_append_left _ hs)) Y) ?_;obtain⟨⟨vs,hown,hvs⟩,hold⟩:=hx.val h (λs hs=>ht s (List.mem_append_right _ (List.mem_append_left _ hs))) (λi hi=>hr i (List.mem_cons_of_mem _ hi));have h2:=h.ev y;rw[bw (λ_ h=>List.mem_append_right _ (List.mem_append_right _ h)) ht,hy]at h2;obtain⟨info,hi,hsz,hby,hz⟩:=jw.info (P:=P) (E:=E0) (n:=n) (by_:=by_) (z:=zv);have JN:S'.r d=.un:=by rw[hr d (by simp)];exact xN
 have run:∃v' w' vs',(Builtin.append_ #[T,T] ty #[a.eval x,a.eval y]).run P w=.ok v' w'/\w'.ownsRow 0 E0 n v' (m+rows.length) vs'/\SV.ef E.M (cs++rows.flatten) vs'/\w.grownBy w' (a.eval x).ownBlock/\(v'.ownBlock=(a.eval x).ownBlock\/v'.ownBlock=some w.heap.size\/v'.ownBlock=none):=by
  rcases hs.h _ _ h2 with⟨a0,e,e2⟩|⟨b,o,c,e,hc,E6,hrow⟩
  ·rw[e,e2];cases a0 with
   |none=>exact⟨_,_,vs,run_append_owned_none w 0 T ty E0 info n tS.u hi _ m vs hown,by simpa using hown,by simpa using hvs,⟨Y,Y,Y,Nat.le_refl _,λ_ _ _=>Y⟩,.inl Y⟩
   |some a0=>
    rw[e2,List.length_nil]at hroom rZ;obtain⟨v',w',q1,q2,q3,_,q4⟩:=run_append_own_at (P:=P) w 0 T ty E0 info zv n by_ tS.u hi hz hsz hby tE.z tE.p _ m vs hown a0 0 0 [] (by simp) (by simp) (by simp) (by unfold maxLen;omega) hroom (Nat.zero_le _);exact⟨v',w',vs,q1,by simpa using q2,by simpa using hvs,q3,q4.imp id .inl⟩
  obtain⟨us,g1,g2,g3,g4⟩:=Az rows o hrow;rw[e];obtain⟨v',w',q1,q2,q3,_,q4⟩:=run_append_own_at (P:=P) w 0 T ty E0 info zv n by_ tS.u hi hz hsz hby tE.z tE.p _ m vs hown ⟨b,o,none⟩ rows.length c us g2 (λj u hj=>by rw[fP];exact(h.dh _ _ _ (g4 j u hj)).cell (g3 u (List.mem_of_getElem? hj))) g3 (by unfold maxLen;omega) hroom (Nat.zero_le _);exact⟨v',w',vs++us,q1,q2,SV.ef.append hvs g1,q3,q4.imp id .inl⟩
 obtain⟨v',w',vs',q1,q2,q3,q4,q5⟩:=run;have hr':(execOp a.eval ⟨some d,.call ⟨.builtin .append,#[x,y],#[T,T]⟩,ty,pos,aft,gd⟩).run P w=.ok (.value v') w':=by
  simp[execOp,resolve,invoke,builtin,q1]
 have IP:∀(l:List (Nat×kK)) (R:kK) (j:Nat),dL (l++[(d,R)]) j=if j=d then some R else dL l j:=by
  intro l R j
  induction l with
  |nil=>rfl
  |cons p l ih=>
   obtain⟨i,R'⟩:=p;rw[List.cons_append,dL,dL,ih];by_cases e:j=d
   ·simp[e]
   simp[e]
 have h3:=(h.newRow JN we old (a.eval x).ownBlock hold (R':=⟨E0,n,m+rows.length,cs++rows.flatten⟩) q2 q3 q5 q4).put (d:=d) (x:=.row d) (v:=v') (by simp[AV.holds]) (by rw[(eU _ _).1];omega) ⟨λ_ e=>e.elim,λj e=>by
  cases e;rw[jR,IP];simp⟩
 have hRd:(AS.set (AS.b9 (old++[(d,kK.live ⟨E0,n,m+rows.length,cs++rows.flatten⟩)]) S') d (.row d)).r d=.live ⟨E0,n,m+rows.length,cs++rows.flatten⟩:=by
  show(AS.b9 _ S').r d=_;rw[jR,IP];simp
 obtain⟨E',h4⟩:=h3.nD hRd jc hlen (Nat.le_trans rZ (by decide)) hone hX;have e:(AS.set (AS.b9 (old++[(d,kK.live ⟨E0,n,m+rows.length,cs++rows.flatten⟩)]) S') d (.row d)).nD d X=S'.app ⟨some (d,.sv X),[],old++[(d,.dead)]⟩:=by
  have n1:=eU (old++[(d,kK.live ⟨E0,n,m+rows.length,cs++rows.flatten⟩)]) S';have n2:=eU (old++[(d,kK.dead)]) S';refine AS.ext' ?_ (λt=>?_) (λj=>?_) (λj=>?_) ?_ ?_
  ·show(AS.b9 _ S').n=(AS.b9 _ S').n;rw[n1.1,n2.1]
  ·rw[AS.KX];show((AS.set (AS.b9 _ S') d (.row d)).t t).nD d X=_;by_cases e:t=d
   ·subst e;rw[AS.ja];simp[AV.nD,wT]
   rw[AS.gV _ _ _ _ e,n1.2.1,LF (λhm=>h.wf.tr t d hm JN)];simp[wT,e]
  ·rw[AS.KY];show((AS.b9 _ S').b j).map _=_;rw[n1.2.2.1];simp only[rT,Option.getD_none];cases hb:S'.b j with
   |none=>rfl
   |some B=>
    rw[Option.map_some];have:B.cells.map (AV.nD d X)=B.cells:=by
     conv=>rhs;rw[<-List.map_id B.cells]
     exact List.map_congr_left λc hc=>LF (λhm=>h.wf.br j B hb c hc d hm JN)
    rw[this]
  ·rw[AS.KZ];show(bif Nat.beq j d then kK.dead else(AS.b9 _ S').r j)=_;rw[jR,IP,IP];by_cases e:j=d
   ·subst e;simp
   simp[cC e,e]
  ·rw[(AS.IB _ _).1];exact n1.2.2.2.1
  rw[(AS.IB _ _).2];exact n1.2.2.2.2
 exact ct (C:=C) (by intro c h;cases h) hr' (hL _ _ ⟨E',e▸h4⟩)
end steps
end
end Go.Fw
