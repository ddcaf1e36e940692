/- A part of the proof: the framework, the plain functions, the followed functions, the plain laws. -/
import Derived.Test.YtianbhacbgnboaaGreatRows
import Derived.WalkKit
import Derived.OrdersIn
import Derived.RangeFuncLeaves
import Derived.RangeFuncCalls
import Derived.Deep.LoopGhost
import Derived.Maps.AppendAt
import Derived.RangeFuncSeq
import Derived.KernelRfl
import Derived.Lib.SliceRun
import Derived.MapKept
import Derived.Scope
import Derived.Laws.BytesArg
import Derived.Laws.Strings
import Derived.Test.YtianbhacbgnboaaGreatProg
import Derived.ProofKit
import Derived.OpenShut
import Derived.ShutString
import Derived.ChangeOld
import Derived.Below
import Derived.JoinedCond
import Derived.Deep.Slices
import Derived.TacticsIn
import Derived.Shelf.GgSortFunc.Small
import Derived.Shelf.GgSortFunc.Tiny
import Derived.Ground.GgsProg
import Derived.Deep.QuietTactic
import Derived.Lib.SortBridge
import Derived.Sort.LotA
set_option linter.unusedVariables false
set_option linter.unusedSimpArgs false
set_option linter.unusedSectionVars false
namespace Go.Fw
section
open Go.RowKit
theorem Y.{u}{α:Sort u}{a:α}:a=a:=rfl
theorem ω{P:Prop}(h:P:=by omega):P:=h
theorem ξ{P:Prop}(h:P:=by decide):P:=h
theorem η{P:Prop}(h:P:=by simp):P:=h
theorem ζ{P:Prop}(h:P:=by intro c h;cases h):P:=h
theorem ψ{P:Prop}(h:P:=by kernel_rfl):P:=h
theorem θ{P:Prop}(h:P:=by simp;omega):P:=h
theorem aob{α:Type}{a b:α}(h:some a=some b):a=b:=Option.some.inj h
theorem an:True:=trivial
theorem af{n m:Nat}(h:Nat.ble n m=true):n<=m:=Nat.le_of_ble_eq_true h
abbrev Mem:=Nat->Nat->Option Value
def Mem.le(M M':Mem):Prop:=∀b o v,M b o=some v->M' b o=some v
def aeL(D:Array MapEntry):Array Value:=⟨D.toList.map λe=>.tuple #[e.key,e.val]⟩
def Fact(w:World)(b o:Nat):Value->Prop
 |.tuple t=>∃a d,w.heap[b]? =some (.map a d)/\t=aeL a
 |.agg _=>∃c T,w.heap[b]? =some (.cells c T (0,0))
 |v=>w.cell? ⟨b,o,none⟩=some v
def Mem.kf(M:Mem)(w:World):Prop:=∀b o v,M b o=some v->Fact w b o v
theorem Fact.cell{w:World}{b o:Nat}{v:Value}(h:Fact w b o v)(D:v.oneCell'=true):w.cell? ⟨b,o,none⟩=some v:=by
 cases v<;>first|exact h|simp[Value.oneCell']at D
theorem Fact.of{w:World}{b o:Nat}{v:Value}(h:w.cell? ⟨b,o,none⟩=some v)(D:v.oneCell'=true):Fact w b o v:=by
 cases v<;>first|exact h|simp[Value.oneCell']at D
theorem Fact.lt{w:World}{b o:Nat}{v:Value}(h:Fact w b o v):b<w.heap.size:=by
 cases v<;>first|exact World.block_lt_of_cell? w _ h|(obtain⟨a,d,h,_⟩:=h;exact(Array.getElem?_eq_some_iff.1 h).1)|(obtain⟨c,T,h⟩:=h;exact(Array.getElem?_eq_some_iff.1 h).1)
theorem Fact.same{w w':World}{b o:Nat}{v:Value}(h:Fact w b o v)(e:w'.heap[b]? =w.heap[b]?):Fact w' b o v:=by
 cases v<;>first|(show w'.cell? _=_;rw[World.cell?_of_block (w:=w) (a:=⟨b,o,none⟩) e];exact h)|(obtain⟨f,g,h,d⟩:=h;exact⟨f,g,by rw[e];exact h,d⟩)|(obtain⟨c,T,h⟩:=h;exact⟨c,T,by rw[e];exact h⟩)
theorem Fact.no{w:World}{b o:Nat}{v:Value}(h:Fact w b o v)(h1:w.cell? ⟨b,o,none⟩=none)(I:∀D H,w.heap[b]? ≠some (.map D H))(K:∀c T,w.heap[b]? ≠some (.cells c T (0,0))):False:=by
 cases v<;>first|(have h:w.cell? _=_:=h;rw[h1]at h;cases h)|(obtain⟨D,H,h,_⟩:=h;exact I D H h)|(obtain⟨c,T,h⟩:=h;exact K c T h)
theorem Mem.le_refl(M:Mem):M.le M:=λ_ _ _ h=>h
theorem Mem.le_trans{A B C:Mem}(h:A.le B)(k:B.le C):A.le C:=λb o v e=>k b o v (h b o v e)
structure SV where
 h:Mem->Value->Prop
 mono:∀{M M':Mem} {v:Value},M.le M'->h M v->h M' v
namespace SV
def any:SV:=⟨λ_ _=>True,λ_ h=>h⟩
def v(x:Value):SV:=⟨λ_ y=>y=x,λ_ h=>h⟩
def jN(M:Mem):List SV->List Value->Prop
 |[],[]=>True
 |s::l,x::xs=>s.h M x/\jN M l xs
 |_,_=>False
theorem jN.mono{M M':Mem}(D:M.le M'):∀{l:List SV} {xs:List Value},jN M l xs->jN M' l xs
 |[],[],_=>trivial
 |s::_,_::_,h=>⟨s.mono D h.1,jN.mono D h.2⟩
 |[],_::_,h=>h.elim
 |_::_,[],h=>h.elim
theorem jN.length{M:Mem}:∀{l:List SV} {xs:List Value},jN M l xs->l.length=xs.length
 |[],[],_=>rfl
 |_::_,_::_,h=>congrArg (· +1) (jN.length h.2)
 |[],_::_,h=>h.elim
 |_::_,[],h=>h.elim
theorem jN.get{M:Mem}:∀{l:List SV} {xs:List Value} {i:Nat} {s:SV},jN M l xs->l[i]? =some s->∃x,xs[i]? =some x/\s.h M x
 |s::_,x::_,0,_,h,e=>⟨x,rfl,by cases e;exact h.1⟩
 |_::l,_::xs,_+1,_,h,e=>jN.get (l:=l) (xs:=xs) h.2 e
 |[],_,_,_,_,e=>by simp at e
 |_::_,[],_,_,h,_=>h.elim
theorem jN.append{M:Mem}:∀{l a:List SV} {xs b:List Value},jN M l xs->jN M a b->jN M (l++a) (xs++b)
 |[],_,[],_,_,h=>h
 |_::_,_,_::_,_,h,a=>⟨h.1,jN.append h.2 a⟩
 |[],_,_::_,_,h,_=>h.elim
 |_::_,_,[],_,h,_=>h.elim
def agg(l:List SV):SV:=⟨λM y=>∃vs:List Value,y=.agg ⟨vs⟩/\jN M l vs,λa ⟨vs,e,h⟩=>⟨vs,e,h.mono a⟩⟩
def lK(l:List SV):SV:=⟨λM y=>∃vs:List Value,y=.tuple ⟨vs⟩/\jN M l vs,λa ⟨vs,e,h⟩=>⟨vs,e,h.mono a⟩⟩
def imp(x y:SV):Prop:=∀M v,x.h M v->y.h M v
end SV
theorem SV.jN.GP(M:Mem):∀l:List Value,SV.jN M (l.map SV.v) l
 |[]=>trivial
 |_::l=>⟨Y,SV.jN.GP M l⟩
inductive AV where
 |sv (s:SV)
 |ob (i:Nat)
 |ptr (i off:Nat)
 |sl (i off len:Nat)
 |sub (i k:Nat)
 |Bp (i k off:Nat)
 |agg (l:List AV)
 |lK (l:List AV)
 |fn (f:FuncId) (b c:List AV)
abbrev ai(x:Int):AV:=.sv (.v (.int .i64 x))
abbrev aj(x:Bool):AV:=.sv (.v (.bool x))
abbrev ak:AV:=.sv (.v (.pointer none))
abbrev ax(x:Int):SV:=.v (.int .i64 x)
abbrev ay(x:Bool):SV:=.v (.bool x)
structure Env where
 ν:Nat->Value
 ρ:Nat->Nat->Value
 κ:Nat->Nat->Value
 O:Nat->Prop
 M:Mem
def Env.rv(E:Env)(D:Bool)(i k:Nat):Value:=bif D then E.κ i k else E.ρ i k
def blk:Value->Option Nat
 |.slice (some a) _ _=>some a.block
 |.pointer (some a)=>some a.block
 |_=>none
mutual
def AV.holds(E:Env):AV->Value->Prop
 |.sv s,v=>s.h E.M v
 |.ob i,v=>v=E.ν i
 |.ptr i o,v=>∃g,blk (E.ν i)=some g/\v=.pointer (some ⟨g,o,none⟩)
 |.sl i o l,v=>∃g c,blk (E.ν i)=some g/\v=.slice (some ⟨g,o,none⟩) l c/\l<=c
 |.sub i k,v=>v=E.ρ i k
 |.Bp i k o,v=>∃g,blk (E.ρ i k)=some g/\v=.pointer (some ⟨g,o,none⟩)
 |.agg l,v=>∃vs:List Value,v=.agg ⟨vs⟩/\jc E l vs
 |.lK l,v=>∃vs:List Value,v=.tuple ⟨vs⟩/\jc E l vs
 |.fn f b c,v=>∃bs cs:List Value,v=.func (.func f) ⟨bs⟩ ⟨cs⟩/\jc E b bs/\jc E c cs
def jc(E:Env):List AV->List Value->Prop
 |[],[]=>True
 |x::l,v::vs=>x.holds E v/\jc E l vs
 |_,_=>False
end
mutual
def AV.refs:AV->List Nat
 |.sv _=>[]
 |.ob i=>[i]
 |.ptr i _=>[i]
 |.sl i _ _=>[i]
 |.sub i _=>[i]
 |.Bp i _ _=>[i]
 |.agg l=>uS l
 |.lK l=>uS l
 |.fn _ b c=>uS b++uS c
def uS:List AV->List Nat
 |[]=>[]
 |x::l=>x.refs++uS l
end
mutual
def AV.uC(σ:Nat->Nat):AV->AV
 |.sv s=>.sv s
 |.ob i=>.ob (σ i)
 |.ptr i o=>.ptr (σ i) o
 |.sl i o l=>.sl (σ i) o l
 |.sub i k=>.sub (σ i) k
 |.Bp i k o=>.Bp (σ i) k o
 |.agg l=>.agg (yC σ l)
 |.lK l=>.lK (yC σ l)
 |.fn f b c=>.fn f (yC σ b) (yC σ c)
def yC(σ:Nat->Nat):List AV->List AV
 |[]=>[]
 |x::l=>x.uC σ::yC σ l
end
def Env.uC(E:Env)(σ:Nat->Nat):Env:={E with ν:=λi=>E.ν (σ i),ρ:=λi=>E.ρ (σ i),κ:=λi=>E.κ (σ i)}
mutual
theorem AV.jl{E E':Env}(D:E.M.le E'.M):∀(x:AV),(∀j∈x.refs,E'.ν j=E.ν j/\E'.ρ j=E.ρ j)->∀v,x.holds E v->x.holds E' v
 |.sv s,_,_,h=>s.mono D h
 |.ob i,hr,_,h=>by have:=hr i (by simp[AV.refs]);simp only[AV.holds]at*;rw[this.1];exact h
 |.ptr i o,hr,_,h=>by have:=hr i (by simp[AV.refs]);simp only[AV.holds]at*;rw[this.1];exact h
 |.sl i o l,hr,_,h=>by have:=hr i (by simp[AV.refs]);simp only[AV.holds]at*;rw[this.1];exact h
 |.sub i k,hr,_,h=>by have:=hr i (by simp[AV.refs]);simp only[AV.holds]at*;rw[this.2];exact h
 |.Bp i k o,hr,_,h=>by have:=hr i (by simp[AV.refs]);simp only[AV.holds]at*;rw[this.2];exact h
 |.agg l,hr,_,⟨vs,e,h⟩=>⟨vs,e,jc.congr D l hr vs h⟩
 |.lK l,hr,_,⟨vs,e,h⟩=>⟨vs,e,jc.congr D l hr vs h⟩
 |.fn f b c,hr,_,⟨bs,cs,e,h,a⟩=>⟨bs,cs,e,jc.congr D b (λj hj=>hr j (List.mem_append_left _ hj)) bs h,jc.congr D c (λj hj=>hr j (List.mem_append_right _ hj)) cs a⟩
theorem jc.congr{E E':Env}(D:E.M.le E'.M):∀(l:List AV),(∀j∈uS l,E'.ν j=E.ν j/\E'.ρ j=E.ρ j)->∀vs,jc E l vs->jc E' l vs
 |[],_,[],_=>trivial
 |[],_,_::_,h=>h.elim
 |_::_,_,[],h=>h.elim
 |x::l,hr,v::vs,h=>⟨AV.jl D x (λj hj=>hr j (List.mem_append_left _ hj)) v h.1,jc.congr D l (λj hj=>hr j (List.mem_append_right _ hj)) vs h.2⟩
end
mutual
theorem AV.GQ{E:Env}{σ:Nat->Nat}:∀(x:AV) (v:Value),(x.uC σ).holds E v↔x.holds (E.uC σ) v
 |.sv _,_=>Iff.rfl
 |.ob _,_=>Iff.rfl
 |.ptr _ _,_=>Iff.rfl
 |.sl _ _ _,_=>Iff.rfl
 |.sub _ _,_=>Iff.rfl
 |.Bp _ _ _,_=>Iff.rfl
 |.agg l,_=>by simp only[AV.uC,AV.holds,jc.uC l]
 |.lK l,_=>by simp only[AV.uC,AV.holds,jc.uC l]
 |.fn f b c,_=>by simp only[AV.uC,AV.holds,jc.uC b,jc.uC c]
theorem jc.uC{E:Env}{σ:Nat->Nat}:∀(l:List AV) (vs:List Value),jc E (yC σ l) vs↔jc (E.uC σ) l vs
 |[],[]=>Iff.rfl
 |[],_::_=>Iff.rfl
 |_::_,[]=>Iff.rfl
 |x::l,v::vs=>by simp only[yC,jc,AV.GQ x v,jc.uC l vs]
end
theorem jc.length{E:Env}:∀{l:List AV} {vs:List Value},jc E l vs->l.length=vs.length
 |[],[],_=>rfl
 |_::_,_::_,h=>congrArg (· +1) (jc.length h.2)
 |[],_::_,h=>h.elim
 |_::_,[],h=>h.elim
theorem jc.get{E:Env}:∀{l:List AV} {xs:List Value} {i:Nat} {s:AV},jc E l xs->l[i]? =some s->∃x,xs[i]? =some x/\s.holds E x
 |s::_,x::_,0,_,h,e=>⟨x,rfl,by cases e;exact h.1⟩
 |_::l,_::xs,_+1,_,h,e=>jc.get (l:=l) (xs:=xs) h.2 e
 |[],_,_,_,_,e=>by simp at e
 |_::_,[],_,_,h,_=>h.elim
theorem jc.set{E:Env}:∀{l:List AV} {xs:List Value} {i:Nat} {s:AV} {x:Value},jc E l xs->s.holds E x->jc E (l.set i s) (xs.set i x)
 |[],[],_,_,_,_,_=>trivial
 |_::_,_::_,0,_,_,h,a=>⟨a,h.2⟩
 |_::l,_::xs,_+1,_,_,h,a=>⟨h.1,jc.set (l:=l) (xs:=xs) h.2 a⟩
 |[],_::_,_,_,_,h,_=>h.elim
 |_::_,[],_,_,_,h,_=>h.elim
theorem jc.IA{E:Env}:∀{l:List SV} {xs:List Value},SV.jN E.M l xs->jc E (l.map AV.sv) xs
 |[],[],_=>trivial
 |_::_,_::_,h=>⟨h.1,jc.IA h.2⟩
 |[],_::_,h=>h.elim
 |_::_,[],h=>h.elim
theorem jc.Bq{E:Env}:∀{l:List SV} {xs:List Value},jc E (l.map AV.sv) xs->SV.jN E.M l xs
 |[],[],_=>trivial
 |_::_,_::_,h=>⟨h.1,jc.Bq h.2⟩
 |[],_::_,h=>h.elim
 |_::_,[],h=>h.elim
theorem NV{l:List AV}{x:AV}{j:Nat}(D:x∈l)(hj:j∈x.refs):j∈uS l:=by
 induction l with
 |nil=>cases D
 |cons y l a=>
  rcases List.mem_cons.1 D with rfl|D
  ·exact List.mem_append_left _ hj
  exact List.mem_append_right _ (a D)
theorem Br{l:List AV}{j:Nat}(hj:j∈uS l):∃x∈l,j∈x.refs:=by
 induction l with
 |nil=>cases hj
 |cons y l c=>
  rcases List.mem_append.1 hj with h|h
  ·exact⟨y,by simp,h⟩
  obtain⟨x,b,a⟩:=c h;exact⟨x,List.mem_cons_of_mem _ b,a⟩
inductive Ob where
 |dead
 |box (T:TypeId) (cs:List AV)
 |row (T:TypeId) (sz n:Nat) (cs:List SV)
 |arr (T:TypeId) (cs:List AV)
 |vF (T U:TypeId) (sz:Nat) (rs:List (Nat×List SV)) (f:List (Nat×Nat)) (lk:Bool)
def Ob.IB:Ob->List AV
 |.box _ cs=>cs
 |.arr _ cs=>cs
 |.vF _ _ _ _ f _=>f.map λp=>.ob p.2
 |_=>[]
def Ob.kM(E:Env)(i:Nat):Ob->Option Nat->Nat->Prop
 |.dead,_,_=>False
 |.vF _ _ _ rs f a,some k,g=>((∃r,rs[k]? =some r)/\k∉f.map (·.1))/\blk (E.rv a i k)=some g
 |_,some _,_=>False
 |_,none,g=>blk (E.ν i)=some g
def Ob.ok(E:Env)(w:World)(i:Nat):Ob->Prop
 |.dead=>True
 |.box T cs=>∃(g:Nat) (vs:List Value),E.ν i=.pointer (some ⟨g,0,none⟩)/\w.heap[g]? =some (.cells ⟨vs⟩ T (0,0))/\jc E cs vs
 |.row T sz n cs=>∃vs:List Value,w.ownsRow 0 T sz (E.ν i) n vs/\SV.jN E.M cs vs
 |.arr T cs=>∃vs:List Value,w.ownsRow 0 T 1 (E.ν i) cs.length vs/\jc E cs vs
 |.vF T U sz rs f a=>(∃us:List Value,w.ownsRow 0 T 1 (E.ν i) rs.length us/\∀k,k<rs.length->us[k]? =some (E.rv a i k))/\(∀p∈f,E.rv a i p.1=E.ν p.2)/\
   ∀(k n:Nat) (cs:List SV),rs[k]? =some (n,cs)->k∉f.map (·.1)->∃vs:List Value,w.ownsRow 0 U sz (E.rv a i k) n vs/\SV.jN E.M cs vs
def Ob.uC(σ:Nat->Nat):Ob->Ob
 |.box T cs=>.box T (yC σ cs)
 |.arr T cs=>.arr T (yC σ cs)
 |.vF T U sz rs f a=>.vF T U sz rs (f.map λp=>(p.1,σ p.2)) a
 |x=>x
theorem CR{w:World}{b:Nat}{T:TypeId}{sz n:Nat}{v:Value}{xs:List Value}(h:w.ownsRow b T sz v n xs){g:Nat}(D:blk v=some g):v.ownBlock=some g/\∃c,w.heap[g]? =some (.cells c T (0,0)):=by
 rcases h.2 with⟨rfl,_⟩|⟨f,d,a,rfl,_,e,_⟩
 ·cases D
 cases D;exact⟨rfl,_,e⟩
theorem jO{w w':World}{b:Nat}{T:TypeId}{sz n:Nat}{v:Value}{xs:List Value}(h:w.ownsRow b T sz v n xs)(D:∀g,blk v=some g->w'.heap[g]? =w.heap[g]?):w'.ownsRow b T sz v n xs:=by
 refine⟨h.1,?_⟩;rcases h.2 with h|⟨g,c,a,rfl,f,d,e⟩
 ·exact .inl h
 exact .inr ⟨g,c,a,Y,f,by rw[D g rfl];exact d,e⟩
theorem Ob.cells{E:Env}{w:World}{i:Nat}{ob:Ob}(h:ob.ok E w i){a:Option Nat}{g:Nat}(D:ob.kM E i a g):∃c T,w.heap[g]? =some (.cells c T (0,0)):=by
 cases ob with
 |dead=>exact D.elim
 |box T cs=>
  cases a with
  |some _=>exact D.elim
  |none=>
   obtain⟨e,vs,b,d,_⟩:=h;have D:blk (E.ν i)=some g:=D;rw[b]at D;cases D;exact⟨_,_,d⟩
 |row T sz n cs=>
  cases a with
  |some _=>exact D.elim
  |none=>obtain⟨vs,b,_⟩:=h;obtain⟨_,c,d⟩:=CR b D;exact⟨c,T,d⟩
 |arr T cs=>
  cases a with
  |some _=>exact D.elim
  |none=>obtain⟨vs,b,_⟩:=h;obtain⟨_,c,d⟩:=CR b D;exact⟨c,T,d⟩
 |vF T U sz rs f e=>
  cases a with
  |some k=>
   obtain⟨⟨⟨⟨n,cs⟩,hr⟩,j⟩,e⟩:=D;obtain⟨vs,b,_⟩:=h.2.2 k n cs hr j;obtain⟨_,c,d⟩:=CR b e;exact⟨c,U,d⟩
  |none=>obtain⟨⟨us,b,_⟩,_⟩:=h;obtain⟨_,c,d⟩:=CR b D;exact⟨c,T,d⟩
theorem Ob.fF{E E':Env}{i:Nat}(h:E'.ν i=E.ν i/\E'.ρ i=E.ρ i/\E'.κ i=E.κ i){ob:Ob}{a:Option Nat}{g:Nat}:ob.kM E' i a g↔ob.kM E i a g:=by
 cases ob<;>cases a<;>simp only[Ob.kM,Env.rv,h.1,h.2.1,h.2.2]
theorem Ob.rH{E E':Env}{w w':World}{i:Nat}{ob:Ob}(h:ob.ok E w i)(I:E.M.le E'.M)(D:E'.ν i=E.ν i/\E'.ρ i=E.ρ i/\E'.κ i=E.κ i)(hr:∀x∈ob.IB,∀j∈x.refs,E'.ν j=E.ν j/\E'.ρ j=E.ρ j)(H:∀a g,ob.kM E i a g->w'.heap[g]? =w.heap[g]?):ob.ok E' w' i:=by
 have m:∀{l:List AV} {vs},(∀x∈l,∀j∈x.refs,E'.ν j=E.ν j/\E'.ρ j=E.ρ j)->jc E l vs->jc E' l vs:=λhl d=>jc.congr I _ (λj hj=>by obtain⟨x,b,c⟩:=Br hj;exact hl x b j c) _ d;cases ob with
 |dead=>trivial
 |box T cs=>
  obtain⟨g,vs,b,c,o⟩:=h;exact⟨g,vs,by rw[D.1,b],by rw[H none g (by simp[Ob.kM,b,blk])];exact c,m hr o⟩
 |row T sz n cs=>obtain⟨vs,b,c⟩:=h;exact⟨vs,by rw[D.1];exact jO b λg d=>H none g d,c.mono I⟩
 |arr T cs=>obtain⟨vs,b,c⟩:=h;exact⟨vs,by rw[D.1];exact jO b λg d=>H none g d,m hr c⟩
 |vF T U sz rs f m=>
  obtain⟨⟨us,b,c⟩,o,r⟩:=h;have e:∀k,E'.rv m i k=E.rv m i k:=λk=>by simp only[Env.rv,D.2.1,D.2.2]
  refine⟨⟨us,by rw[D.1];exact jO b λg d=>H none g d,λk m=>by rw[e];exact c k m⟩,λp hp=>?_,λk n cs m q=>?_⟩
  ·rw[e,o p hp,(hr (.ob p.2) (List.mem_map.2 ⟨p,hp,Y⟩) p.2 (by simp[AV.refs])).1]
  obtain⟨vs,c,b⟩:=r k n cs m q;exact⟨vs,by rw[e];exact jO c λg d=>H (some k) g ⟨⟨⟨_,m⟩,q⟩,d⟩,b.mono I⟩
structure AS where
 n:Nat
 t:Nat->AV
 o:Nat->Option Ob
 g:Nat
 go:Bool
def AS.set(S:AS)(d:Nat)(x:AV):AS:={S with t:=λs=>bif Nat.beq s d then x else S.t s}
def AS.Pf(S:AS)(i:Nat)(x:Ob):AS:={S with o:=λj=>bif Nat.beq j i then some x else S.o j}
def AS.ia:List (Nat×Ob)->AS->AS
 |[],S=>S
 |(i,x)::l,S=>ia l (S.Pf i x)
theorem sX{s d:Nat}(h:s≠d):Nat.beq s d=false:=by
 cases e:Nat.beq s d with
 |false=>rfl
 |true=>exact absurd (Nat.eq_of_beq_eq_true e) h
theorem AS.oA(S:AS)(d:Nat)(x:AV):(S.set d x).t d=x:=by simp[AS.set]
theorem AS.lU(S:AS)(d s:Nat)(x:AV)(h:s≠d):(S.set d x).t s=S.t s:=by simp[AS.set,sX h]
theorem AS.yD(S:AS)(d:Nat)(x:Ob):(S.Pf d x).o d=some x:=by simp[AS.Pf]
theorem AS.vG(S:AS)(d s:Nat)(x:Ob)(h:s≠d):(S.Pf d x).o s=S.o s:=by simp[AS.Pf,sX h]
def AS.lG(S:AS)(x:AV):Prop:=∀j∈x.refs,S.o j≠none
structure AS.wf (S:AS):Prop where
 t:∀s,S.lG (S.t s)
 o:∀i ob,S.o i=some ob->∀x∈ob.IB,S.lG x
structure Ctx where
 w0:World
 M0:Mem
 own:Nat->Prop
 MU:Nat->Prop
 qZ:Nat->Bool
 ν0:Nat->Value
 ρ0:Nat->Nat->Value
 ro:Option Nat
 J:Nat->Bool->(Nat->Prop)->Mem->World->Prop
 hbo:∀k,MU k->own k
 jf:∀(g:Nat) (h:Bool) (O:Nat->Prop) (M M':Mem) (w w':World),J g h O M w->M.le M'->M'.kf w'->(∀b o v,M' b o=some v->M b o=some v\/((w0.heap.size<=b\/MU b)/\¬O b))->
  (∀b,(b<w0.heap.size/\¬MU b)\/O b->w'.heap[b]? =w.heap[b]?)->w'.os=w.os->w'.tape=w.tape->w'.output=w.output->w.heap.size<=w'.heap.size->J g h O M' w'
def rI(r:Nat):Deferred:={target:=.collected r,args:=#[]}
structure bw (C:Ctx) (S:AS) (E:Env) (a:Act) (w:World):Prop where
 wf:S.wf
 marks:∃ds:List Nat,a.defers=ds.map rI/\ds.Nodup/\∀r∈ds,C.w0.heap.size<=r/\¬E.O r/\w.heap[r]? =some (.deferred (some []))
 size:a.tmps.size=S.n
 os:w.os=C.w0.os
 tape:w.tape=C.w0.tape
 output:w.output=C.w0.output
 grown:C.w0.heap.size<=w.heap.size
 frame:∀k,k<C.w0.heap.size->¬C.own k->w.heap[k]? =C.w0.heap[k]?
 m0:C.M0.le E.M
 Be:∀b o v,E.M b o=some v->C.M0 b o=some v\/C.w0.heap.size<=b\/C.own b
 kf:E.M.kf w
 tm:∀s,(S.t s).holds E (a.tmps.getD s undef)
 ob:∀i ob,S.o i=some ob->ob.ok E w i
 mine:∀i ob a g,S.o i=some ob->ob.kM E i a g->(C.w0.heap.size<=g\/C.MU g)/\(∀o,E.M g o=none)/\¬E.O g
 inj:∀i ob a j iU b g,S.o i=some ob->S.o j=some iU->ob.kM E i a g->iU.kM E j b g->i=j/\a=b
 qZ:∀i,C.qZ i=true->E.ν i=C.ν0 i/\E.ρ i=C.ρ0 i
 GK:∀b,E.O b->b<w.heap.size/\(∀o,E.M b o=none)/\(C.own b\/C.w0.heap.size<=b)
 jj:C.J S.g S.go E.O E.M w
def AS.holds(C:Ctx)(S:AS)(a:Act)(w:World):Prop:=∃E,bw C S E a w
def AS.ev(S:AS):Operand->AV
 |.tmp t=>S.t t
 |.const x=>.sv (.v x)
 |.global g=>.sv (.v (.pointer (some ⟨g,0,none⟩)))
 |.func f=>.sv (.v (.func (.func f) #[] #[]))
def bD:Operand->List Nat
 |.tmp t=>[t]
 |_=>[]
theorem bw.ev{C:Ctx}{S:AS}{E:Env}{a:Act}{w:World}(h:bw C S E a w)(x:Operand):(S.ev x).holds E (a.eval x):=by
 cases x with
 |tmp t=>exact h.tm t
 |const x=>exact rfl
 |global g=>exact rfl
 |func f=>exact rfl
theorem bw.evl{C:Ctx}{S:AS}{E:Env}{a:Act}{w:World}(h:bw C S E a w)(x:Operand):S.lG (S.ev x):=by
 cases x with
 |tmp t=>exact h.wf.t t
 |_=>exact λ_ h=>by cases h
theorem qw{M:Mem}{w:World}(h:M.kf w){b o:Nat}{v:Value}(e:M b o=some v):b<w.heap.size:=(h b o v e).lt
theorem iG{M:Mem}{w w':World}(h:M.kf w)(D:∀b,(∃o v,M b o=some v)->w'.heap[b]? =w.heap[b]?):M.kf w':=λb o v e=>(h b o v e).same (D b ⟨o,v,e⟩)
section
variable {C:Ctx}{S S':AS}{E E':Env}{a:Act}{w w':World}
theorem bw.lt(h:bw C S E a w){i:Nat}{ob:Ob}{b:Option Nat}{g:Nat}(D:S.o i=some ob)(H:ob.kM E i b g):g<w.heap.size:=by
 obtain⟨c,T,e⟩:=Ob.cells (h.ob i ob D) H;exact(Array.getElem?_eq_some_iff.1 e).1
theorem bw.tr(h:bw C S E a w)(D:Nat->Prop)(X:Nat->Prop)
  (hX:∀g,X g->∃i ob a,S.o i=some ob/\ob.kM E i a g) (hn:S'.n=S.n) (ht:S'.t=S.t) (K:S'.g=S.g) (hgo:S'.go=S.go)
  (hO:E'.O=E.O) (hM:E.M.le E'.M) (hMn:∀b o v,E'.M b o=some v->E.M b o=some v\/w.heap.size<=b\/X b) (hin:E'.M.kf w')
  (hν:∀i,S.o i≠none\/C.qZ i=true->E'.ν i=E.ν i/\E'.ρ i=E.ρ i) (hκ:∀i,S.o i≠none->¬D i->E'.κ i=E.κ i)
  (hs:∀k,k<w.heap.size->¬X k->w'.heap[k]? =w.heap[k]?) (hos:w'.os=w.os) (htp:w'.tape=w.tape) (hout:w'.output=w.output) (hsz:w.heap.size<=w'.heap.size)
  (hun:∀i,S.o i≠none->S'.o i≠none)
  (hold:∀i ob,¬D i->S'.o i=some ob->S.o i=some ob/\∀a g,ob.kM E i a g->¬X g)
  (hnew:∀i ob,D i->S'.o i=some ob->ob.ok E' w' i/\(∀x∈ob.IB,S'.lG x)/\∀a g,ob.kM E' i a g->(X g\/w.heap.size<=g)/\∀o,E'.M g o=none)
  (hinj:∀i ob a j H b g,D i->D j->S'.o i=some ob->S'.o j=some H->ob.kM E' i a g->H.kM E' j b g->i=j/\a=b):bw C S' E' a w':=by
 have G:∀x,S.lG x->S'.lG x:=λx z j hj=>hun j (z j hj);have y:∀g,X g->(C.w0.heap.size<=g\/C.MU g)/\¬E.O g/\g<w.heap.size/\∃c T,w.heap[g]? =some (.cells c T (0,0)):=λg K=>by
  obtain⟨i,ob,b,d,l⟩:=hX g K;have:=h.mine i ob b g d l;exact⟨this.1,this.2.2,h.lt d l,Ob.cells (h.ob i ob d) l⟩
 have J:∀i ob,¬D i->S'.o i=some ob->∀a g,ob.kM E i a g->w'.heap[g]? =w.heap[g]? :=λi ob m f a g p=>by
  obtain⟨d,l⟩:=hold i ob m f;exact hs g (h.lt d p) (l a g p)
 have A:∀i ob,¬D i->S'.o i=some ob->E'.ν i=E.ν i/\E'.ρ i=E.ρ i/\E'.κ i=E.κ i:=λi ob m f=>by
  have p:S.o i≠none:=by rw[(hold i ob m f).1];simp
  exact⟨(hν i (.inl p)).1,(hν i (.inl p)).2,hκ i p m⟩
 have F:∀g,(∀o,E.M g o=none)->g<w.heap.size->¬X g->∀o,E'.M g o=none:=λg d l p o=>by
  cases e:E'.M g o with
  |none=>rfl
  |some v=>
   rcases hMn _ _ _ e with e|e|e
   ·rw[d]at e;cases e
   ·omega
   exact absurd e p
 have parts:∀i ob b g,S'.o i=some ob->ob.kM E' i b g->(D i/\(X g\/w.heap.size<=g))\/(¬D i/\S.o i=some ob/\ob.kM E i b g/\¬X g/\g<w.heap.size):=λi ob b g f m=>by
  by_cases q:D i
  ·exact .inl ⟨q,((hnew i ob q f).2.2 b g m).1⟩
  obtain⟨d,l⟩:=hold i ob q f;have p:=(Ob.fF (A i ob q f)).1 m;exact .inr ⟨q,d,p,l b g p,h.lt d p⟩
 refine{wf:=⟨λs=>by rw[ht];exact G _ (h.wf.t s),λi ob f x z=>?_⟩,marks:=?_,size:=by rw[hn];exact h.size,os:=hos.trans h.os,tape:=htp.trans h.tape,output:=hout.trans h.output,grown:=Nat.le_trans h.grown hsz,frame:=λk P B=>?_,m0:=Mem.le_trans h.m0 hM,Be:=λb o v e=>?_,kf:=hin,tm:=λs=>?_,ob:=λi ob f=>?_,mine:=λi ob b g f m=>?_,inj:=λi ob b j H b' g f hj m N=>?_,qZ:=λi hp=>?_,GK:=λb u=>?_,jj:=?_}
 ·by_cases q:D i
  ·exact(hnew i ob q f).2.1 x z
  exact G x (h.wf.o i ob (hold i ob q f).1 x z)
 ·obtain⟨G,d,l,p⟩:=h.marks;refine⟨G,d,l,λr hr=>?_⟩;obtain⟨I,L,G⟩:=p r hr;refine⟨I,by rw[hO];exact L,?_⟩;rw[hs r (Array.getElem?_eq_some_iff.1 G).1 (λq=>by obtain⟨_,_,_,c,T,e⟩:=y r q;rw[G]at e;cases e)];exact G
 ·rw[hs k (by have:=h.grown;omega) (λq=>by
   rcases(y k q).1 with e|e
   ·omega
   exact B (C.hbo _ e))]
  exact h.frame k P B
 ·rcases hMn b o v e with e|e|e
  ·exact h.Be b o v e
  ·exact .inr (.inl (Nat.le_trans h.grown e))
  exact .inr ((y b e).1.imp id (C.hbo b))
 ·rw[ht];exact AV.jl hM _ (λj hj=>hν j (.inl (h.wf.t s j hj))) _ (h.tm s)
 ·by_cases q:D i
  ·exact(hnew i ob q f).1
  obtain⟨d,_⟩:=hold i ob q f;exact Ob.rH (h.ob i ob d) hM (A i ob q f) (λx z j hj=>hν j (.inl (h.wf.o i ob d x z j hj))) (J i ob q f)
 ·rw[hO];rcases parts i ob b g f m with⟨q,e⟩|⟨q,d,l,p,I⟩
  ·have z:=((hnew i ob q f).2.2 b g m).2;rcases e with e|e
   ·exact⟨(y g e).1,z,(y g e).2.1⟩
   exact⟨.inl (Nat.le_trans h.grown e),z,λq=>by have:=(h.GK g q).1;omega⟩
  obtain⟨L,G,z⟩:=h.mine i ob b g d l;exact⟨L,F g G I p,z⟩
 ·rcases parts i ob b g f m with⟨q,e⟩|⟨q,d,l,p,I⟩<;>rcases parts j H b' g hj N with⟨D,I⟩|⟨D,z,B,A,G⟩
  ·exact hinj i ob b j H b' g q D f hj m N
  ·rcases e with e|e
   ·exact absurd e A
   omega
  ·rcases I with e|e
   ·exact absurd e p
   omega
  exact h.inj i ob b j H b' g d z l B
 ·rw[(hν i (.inr hp)).1,(hν i (.inr hp)).2];exact h.qZ i hp
 ·rw[hO]at u;obtain⟨d,l,p⟩:=h.GK b u;refine⟨Nat.lt_of_lt_of_le d hsz,F b l d (λq=>(y b q).2.1 u),p⟩
 rw[K,hgo,hO];exact C.jf _ _ _ _ _ _ _ h.jj hM hin (λb o v e=>by
   rcases hMn b o v e with e|e|e
   ·exact .inl e
   ·exact .inr ⟨.inl (Nat.le_trans h.grown e),λq=>by have:=(h.GK b q).1;omega⟩
   exact .inr ⟨(y b e).1,(y b e).2.1⟩)
  (λb u=>hs b (by
   rcases u with u|u
   ·have:=h.grown;omega
   ·exact(h.GK b u).1) (λq=>by
   rcases u with u|u
   ·rcases(y b q).1 with e|e
    ·omega
    exact u.2 e
   exact(y b q).2.1 u)) hos htp hout hsz
theorem bw.put(h:bw C S E a w){d:Nat}{x:AV}{v:Value}(H:x.holds E v)(D:d<S.n)(hl:S.lG x):bw C (S.set d x) E (a.put (some d) v) w:=
 {h with
  wf:=⟨λs=>by
    by_cases e:s=d
    ·subst e;rw[AS.oA];exact hl
    rw[AS.lU _ _ _ _ e];exact h.wf.t s,h.wf.o⟩
  size:=by simp[Act.put];exact h.size
  tm:=λs=>by
   by_cases e:s=d
   ·subst e;rw[AS.oA];have:(a.put (some s) v).tmps.getD s undef=v:=by simp[Act.put,Array.getD_eq_getD_getElem?,h.size,D]
    rw[this];exact H
   rw[AS.lU _ _ _ _ e];have:(a.put (some d) v).tmps.getD s undef=a.tmps.getD s undef:=by simp[Act.put,Array.getD_eq_getD_getElem?,Array.getElem?_setIfInBounds_ne (Ne.symm e)]
   rw[this];exact h.tm s}
theorem bw.grow{M':Mem}(h:bw C S E a w)(H:E.M.le M')(I:∀b o v,M' b o=some v->E.M b o=some v\/w.heap.size<=b)(K:M'.kf w')(D:Below w.heap.size w w'):bw C S {E with M:=M'} a w':=
 h.tr (λ_=>False) (λ_=>False) (λ_ h=>h.elim) rfl rfl rfl rfl rfl H (λb o v e=>(I b o v e).imp id .inl) K (λ_ _=>⟨rfl,rfl⟩) (λ_ _ _=>rfl) (λk c _=>D.block k c) D.os D.tape D.output D.size (λ_ h=>h) (λi ob _ c=>⟨c,λ_ _ _ h=>h⟩) (λ_ _ h=>h.elim) (λ_ _ _ _ _ _ _ h=>h.elim)
theorem bw.drew(h:bw C S E a w):bw C S E a w.drew:=
 h.grow (M':=E.M) (Mem.le_refl _) (λ_ _ _ e=>.inl e) h.kf ⟨Y,Y,Y,Nat.le_refl _,λ_ _=>Y⟩
end
end
section
open Go.RowKit
abbrev Fr(ro:Option Nat):Fence:={fn:=λ_=>True,depth:=none,alive:=false,round:=ro}
theorem yE{ro:Option Nat}{n:Nat}{P:Program}{f:FuncId}{args:Array Value}{w:World}{R:Ending->World->Prop}(h:Calls P f args w R):CallsIn (Fr ro) n P f args w R:=by
 have a:CallsIn Fence.wide n P f args w R:=callsIn_wide.2 h;cases ro with
 |none=>exact a
 |some l=>exact a.inRound l
theorem tR{S S':AS}{x:Operand}{rs:List Nat}(D:∀s∈bD x,s∈rs)(h:∀s∈rs,S'.t s=S.t s):S'.ev x=S.ev x:=by
 cases x with
 |tmp t=>exact h t (D t (by simp[bD]))
 |_=>rfl
structure Fh where
 sl:Option (Nat×AV)
 ob:List (Nat×Ob)
def AS.app(S:AS)(e:Fh):AS:=
 match e.sl with
 |some (d,x)=>(AS.ia e.ob S).set d x
 |none=>AS.ia e.ob S
def wT(e:Fh)(s:Nat):Option AV:=match e.sl with|some (d,x)=>if s=d then some x else none|none=>none
def cB:List (Nat×Ob)->Nat->Option (Option Ob)
 |[],_=>none
 |(i,R)::l,s=>match cB l s with|some x=>some x|none=>if s=i then some (some R)else none
theorem va:∀(l:List (Nat×Ob)) (S:AS),(AS.ia l S).n=S.n/\(AS.ia l S).t=S.t/\(AS.ia l S).g=S.g/\(AS.ia l S).go=S.go
 |[],_=>⟨Y,Y,Y,Y⟩
 |(_,_)::l,_=>va l _
theorem vb:∀(l:List (Nat×Ob)) (S:AS) (s:Nat),(AS.ia l S).o s=(cB l s).getD (S.o s)
 |[],_,_=>rfl
 |(i,R)::l,S,s=>by
  rw[AS.ia,vb l,cB];cases cB l s with
  |some x=>rfl
  |none=>
   by_cases h:s=i
   ·subst h;simp[AS.yD]
   simp[AS.vG _ _ _ _ h,h]
theorem AS.ahi(S:AS)(e:Fh):(S.app e).n=S.n:=by
 obtain⟨_|⟨d,x⟩,l⟩:=e<;>exact(va l _).1
theorem AS.ahj(S:AS)(e:Fh):(S.app e).g=S.g/\(S.app e).go=S.go:=by
 obtain⟨_|⟨d,x⟩,l⟩:=e<;>exact⟨(va l _).2.2.1,(va l _).2.2.2⟩
theorem AS.ahk(S:AS)(e:Fh)(s:Nat):(S.app e).t s=(wT e s).getD (S.t s):=by
 obtain⟨_|⟨d,x⟩,l⟩:=e
 ·show(AS.ia l S).t s=S.t s;rw[(va l _).2.1]
 by_cases h:s=d
 ·subst h;simp[AS.app,AS.oA,wT]
 simp only[AS.app,AS.lU _ _ _ _ h,wT,h,if_false];rw[(va l _).2.1];rfl
theorem AS.ahl(S:AS)(e:Fh)(s:Nat):(S.app e).o s=(cB e.ob s).getD (S.o s):=by
 obtain⟨_|⟨d,x⟩,l⟩:=e<;>exact vb l S s
theorem AS.ext'{S S':AS}(I:S.n=S'.n)(ht:∀s,S.t s=S'.t s)(D:∀s,S.o s=S'.o s)(H:S.g=S'.g)(K:S.go=S'.go):S=S':=by
 cases S;cases S';simp only[AS.mk.injEq];exact⟨I,funext ht,funext D,H,K⟩
def ajr(P:Program)(C:Ctx)(D:Array Oper)(o:Oper)(rs ro:List Nat)(S:AS)(e:Fh):Prop:=
 ∀S':AS,S'.n=S.n->(∀s∈rs,S'.t s=S.t s)->(∀i∈ro,S'.o i=S.o i)->
  ∀(i:Nat) (a:Act) (w:World) (K:Act->World->Prop) (Q:Exit->Act->World->Prop),D[i]? =some o->S'.holds C a w->(∀b w',(S'.app e).holds C b w'->K b w')->wpOpIn (Fr C.ro) 0 P D Q i K a w
def anM(P:Program)(C:Ctx)(H:Array Oper)(o:Oper)(S:AS)(D:AS->Prop):Prop:=
 ∀(i:Nat) (a:Act) (w:World) (K:Act->World->Prop) (Q:Exit->Act->World->Prop),H[i]? =some o->S.holds C a w->(∀S' b w',D S'->S'.holds C b w'->K b w')->wpOpIn (Fr C.ro) 0 P H Q i K a w
structure Ac where
 rs:List Nat
 ro:List Nat
 e:Fh
def RunT(P:Program)(C:Ctx)(D:Array Oper)(H:Bool)(K:List Ac->AS->Prop):List Oper->List Ac->AS->Prop
 |[],b,S=>K b S
 |o::a,b,S=>(∃rs ro e,ajr P C D o rs ro S e/\RunT P C D H K a (⟨rs,ro,e⟩::b) (S.app e))\/
   (H=true/\∃b,anM P C D o S b/\∀S',b S'->RunT P C D H K a [] S')
def Ok(P:Program)(C:Ctx)(c:Code)(S:AS)(Q:Exit->AS->Prop):Prop:=
 ∀a w,S.holds C a w->c.wpIn (Fr C.ro) 0 P (λe b w'=>∃S':AS,Q e S'/\S'.holds C b w') a w
theorem GR{P:Program}{C:Ctx}{D:Array Oper}{R:AS->Prop}{Q:Exit->Act->World->Prop}
  (hQ:∀S a w,R S->S.holds C a w->Q .normal a w):
  ∀(b:List Oper) (k:Nat) (c:List Ac) (S:AS) (a:Act) (w:World),D.toList.drop k=b->RunT P C D true (λ_ S=>R S) b c S->S.holds C a w->wpOpsIn (Fr C.ro) 0 P D Q (List.range' k b.length) a w
 |[],k,c,S,a,w,_,h,d=>by simpa[wpOpsIn]using hQ S a w h d
 |o::b,k,c,S,a,w,f,h,d=>by
  have j:D[k]? =some o:=by
   have:(D.toList.drop k)[0]? =some o:=by rw[f];rfl
   simpa using this
  have c:D.toList.drop (k+1)=b:=by
   rw[<-List.drop_drop,f];rfl
  rw[List.length_cons,List.range'_succ,wpOpsIn_cons];rcases h with⟨rs,ro,e,g,hr⟩|⟨_,f,g,hr⟩
  ·exact g S rfl (λ_ _=>rfl) (λ_ _=>rfl) k a w _ Q j d (λf w' i=>GR hQ b (k+1) _ _ f w' c hr i)
  exact g k a w _ Q j d (λS' f w' hp i=>GR hQ b (k+1) _ _ f w' c (hr S' hp) i)
theorem aU{P:Program}{C:Ctx}{H:Nat}{D:Array Oper}{S:AS}{Q:Exit->AS->Prop}
  (h:RunT P C D true (λ_ S=>Q .normal S) D.toList [] S):Ok P C (.region H D false) S Q:=λa w b=>by
 refine wpIn_region ?_;have:=GR (Q:=λe c w'=>∃S':AS,Q e S'/\S'.holds C c w') (λS a w r b=>⟨S,r,b⟩) D.toList 0 [] S a w Y h b;simpa[List.range_eq_range']using this
def XV(H rs D:List Nat):Bool:=H.any λd=>rs.contains d||D.contains d
def Fh.ks(e:Fh):List Nat:=match e.sl with|some (d,_)=>[d]|none=>[]
def Fh.ko(e:Fh):List Nat:=e.ob.map (·.1)
def Ac.Fi(x y:Ac):Bool:=
 XV x.e.ks y.rs y.e.ks||XV y.e.ks x.rs []||XV x.e.ko y.ro y.e.ko||XV y.e.ko x.ro []
def vc(D:Array Oper)(acts:List Ac):Bool:=
 let b:=Region.before D
 (acts.length==D.size)&&
 (D.toList.zipIdx.all λ(o,j)=>o.after.all λe=>!Region.binds .any e||decide (e.on<j))&&
 (acts.zipIdx.all λ(y,j)=>acts.zipIdx.all λ(x,i)=>!(decide (i<j))|| !(x.Fi y)||(b.getD j 0).testBit i)
def Down(D:Array Oper)(L:Nat->Bool):Prop:=∀(j:Nat) (o:Oper),D[j]? =some o->L j=true->∀e∈o.after,Region.binds .any e=true->L e.on=true
theorem XW(H:Array Nat)(D:List Edge)(L:Nat->Bool)(I:∀j i,(H.getD j 0).testBit i=true->L j=true->L i=true)
  (hL:∀e∈D,Region.binds .any e=true->L e.on=true):∀(s i:Nat),(s.testBit i=true->L i=true)->
   (D.foldl (λs e=>if Region.binds .any e then s ||| 2^e.on ||| H.getD e.on 0 else s) s).testBit i=true->L i=true:=by
 induction D with
 |nil=>intro s i c h;exact c h
 |cons e D a=>
  intro s i c h;rw[List.foldl_cons]at h;refine a (λb a=>hL b (List.mem_cons_of_mem _ a)) _ i ?_ h;intro a;split at a
  ·rename_i d;have b:=hL e (List.mem_cons_self ..) d;rw[Nat.testBit_or,Nat.testBit_or,Bool.or_eq_true,Bool.or_eq_true,Nat.testBit_two_pow]at a;rcases a with(a|a)|a
   ·exact c a
   ·simp only[decide_eq_true_eq]at a;exact a▸b
   exact I _ _ a b
  exact c a
theorem IC{D:Array Oper}{L:Nat->Bool}(H:Down D L):∀j i,((Region.before D).getD j 0).testBit i=true->L j=true->L i=true:=by
 have d:∀(l:List Oper) (k:Nat) (a:Array Nat),a.size=k->(∀m,l[m]? =D[k+m]?)->
   (∀j i,(a.getD j 0).testBit i=true->L j=true->L i=true)->
   ∀j i,((l.foldl (λa o=>a.push (o.after.foldl (λs e=>if Region.binds .any e then s ||| 2^e.on ||| a.getD e.on 0 else s) 0)) a).getD j 0).testBit i=true->L j=true->L i=true:=by
  intro l
  induction l with
  |nil=>intro k a _ _ h;exact h
  |cons o l c=>
   intro k a f hl b;rw[List.foldl_cons];refine c (k+1) _ (by simp[f]) (λm=>?_) ?_
   ·have:=hl (m+1);rw[List.getElem?_cons_succ]at this;rw[this];congr 1;omega
   intro j i h hj;by_cases c:j=k
   ·subst c;have c:D[j]? =some o:=by have:=hl 0;simpa using this.symm
    rw[Array.getD_eq_getD_getElem?,<-f,Array.getElem?_push_size,Option.getD_some,<-Array.foldl_toList]at h;exact XW a o.after.toList L b (λe a f=>H j o c hj e (Array.mem_toList_iff.1 a) f) 0 i η h
   rw[Array.getD_eq_getD_getElem?,Array.getElem?_push,if_neg ω,<-Array.getD_eq_getD_getElem?]at h;exact b j i h hj
 intro j i h hj;refine d D.toList 0 #[] Y (λm=>by simp) (by intro j i h;simp at h) j i ?_ hj;rw[Region.before,<-Array.foldl_toList]at h;exact h
def ov(S:AS)(acts:Nat->Fh)(L:Nat->Bool):Nat->AS
 |0=>S
 |k+1=>if L k then(ov S acts L k).app (acts k)else ov S acts L k
theorem ajs(S:AS)(acts:Nat->Fh)(L:Nat->Bool):∀k,(ov S acts L k).n=S.n
 |0=>rfl
 |k+1=>by unfold ov;split<;>simp[AS.ahi,ajs S acts L k]
theorem Bt(S:AS)(acts:Nat->Fh){L L':Nat->Bool}:∀k,(∀i,i<k->L i=L' i)->ov S acts L k=ov S acts L' k
 |0,_=>rfl
 |k+1,h=>by unfold ov;rw[h k ω,Bt S acts k (λi a=>h i ω)]
section comp
variable {α:Type}(get:AS->Nat->α)(wr:Fh->Nat->Option α)(sY:∀S e s,get (S.app e) s=(wr e s).getD (get S s))
include sY
theorem aeO(S:AS)(acts:Nat->Fh)(L:Nat->Bool)(s i:Nat):∀k,i<=k->(∀m,i<=m->m<k->L m=true->wr (acts m) s=none)->get (ov S acts L k) s=get (ov S acts L i) s:=by
 intro k
 induction k with
 |zero=>
      intro h _;obtain rfl:i=0:=by omega
      rfl
 |succ k c=>
  intro h b;by_cases a:i=k+1
  ·subst a;rfl
  have a:=c ω (λm c d=>b m c ω);rw[<-a];show get (if L k then(ov S acts L k).app (acts k)else ov S acts L k) s=_;split
  ·rename_i hl;rw[sY,b k ω ω hl];rfl
  rfl
theorem Zl(S:AS)(acts:Nat->Fh)(L L':Nat->Bool)(s:Nat):∀k,(∀m,m<k->wr (acts m) s≠none->L m=L' m)->get (ov S acts L k) s=get (ov S acts L' k) s:=by
 intro k
 induction k with
 |zero=>intro _;rfl
 |succ k a=>
  intro c;have b:=a (λm h=>c m ω);have a:∀M:Nat->Bool,get (ov S acts M (k+1)) s=if M k=true then(wr (acts k) s).getD (get (ov S acts M k) s)else get (ov S acts M k) s:=by
   intro M;show get (if M k then(ov S acts M k).app (acts k)else ov S acts M k) s=_;split
   ·rw[sY]
   rfl
  rw[a,a,b];cases a:wr (acts k) s with
  |none=>simp
  |some x=>rw[c k ω (by rw[a];simp)]
end comp
theorem Zm{e:Fh}{s:Nat}(h:wT e s≠none):s∈e.ks:=by
 unfold wT at h;unfold Fh.ks;split at h
 ·split at h
  ·subst_vars;simp
  exact absurd Y h
 exact absurd Y h
theorem GS:∀{l:List (Nat×Ob)} {s:Nat},cB l s≠none->s∈l.map (·.1)
 |[],_,h=>absurd Y h
 |(i,R)::l,s,h=>by
  rw[cB]at h;cases e:cB l s with
  |some x=>exact List.mem_cons_of_mem _ (GS (by rw[e];simp))
  |none=>
   rw[e]at h;by_cases a:s=i
   ·subst a;simp
   simp[a]at h
theorem zM{H rs D:List Nat}(h:XV H rs D=false):∀d∈H,d∉rs/\d∉D:=by
 intro d a;simp only[XV,List.any_eq_false,Bool.or_eq_true,not_or]at h;have:=h d a;simpa using this
section drawn
variable {P:Program}{C:Ctx}{ops:Array Oper}{acts:List Ac}{S:AS}
def gH(acts:List Ac)(i:Nat):Fh:=((acts[i]?).map (·.e)).getD ⟨none,[]⟩
def ajt(P:Program)(C:Ctx)(D:Array Oper)(acts:List Ac)(S:AS):Prop:=
 ∀(i:Nat) (o:Oper) (x:Ac),D[i]? =some o->acts[i]? =some x->ajr P C D o x.rs x.ro (ov S (gH acts) (λ_=>true) i) x.e
def unl(n:Nat)(D:Array Bool):Nat:=((List.range n).filter λi=>!D.getD i true).length
theorem yF{p q:Nat->Bool}:∀(l:List Nat) (i:Nat),i∈l->(∀j,q j=true->p j=true)->p i=true->q i=false->(l.filter q).length<(l.filter p).length
 |[],_,h,_,_,_=>by simp at h
 |x::l,i,h,b,hp,e=>by
  have c:∀l:List Nat,(l.filter q).length<=(l.filter p).length:=by
   intro l
   induction l with
   |nil=>simp
   |cons y l g=>
    rw[List.filter_cons,List.filter_cons];cases a:q y with
    |false=>cases d:p y<;>simp<;>omega
    |true=>simp[b y a];omega
  rw[List.filter_cons,List.filter_cons];rcases List.mem_cons.1 h with rfl|f
  ·rw[hp,e];have:=c l;simp;omega
  have g:=yF l i f b hp e;cases a:q x with
  |false=>cases d:p x<;>simp<;>omega
  |true=>simp[b x a];omega
theorem aju{n i:Nat}{D:Array Bool}(I:i<n)(H:D.size=n)(h:D.getD i true=false):unl n (D.setIfInBounds i true)<unl n D:=by
 refine yF (List.range n) i (List.mem_range.2 I) (λj hj=>?_) (by simp[h]) ?_
 ·rw[Bool.not_eq_true']at hj⊢;rw[Array.getD_eq_getD_getElem?,Array.getElem?_setIfInBounds]at hj;split at hj
  ·split at hj<;>simp at hj
  rw[Array.getD_eq_getD_getElem?];exact hj
 simp[Array.getD_eq_getD_getElem?,H,I]
theorem MZ(h:vc ops acts=true):acts.length=ops.size/\
  (∀(j:Nat) (o:Oper),ops[j]? =some o->∀e∈o.after,Region.binds .any e=true->e.on<j)/\
  (∀(i j:Nat) (x y:Ac),acts[i]? =some x->acts[j]? =some y->i<j->x.Fi y=true->((Region.before ops).getD j 0).testBit i=true):=by
 simp only[vc,Bool.and_eq_true,beq_iff_eq,List.all_eq_true]at h;obtain⟨⟨b,a⟩,d⟩:=h;refine⟨b,?_,?_⟩
 ·intro j o b e f c;have:=a (o,j) (List.mem_zipIdx_iff_getElem?.2 (by simpa using b));simp only[Array.all_eq_true_iff_forall_mem]at this;have:=this e f;simpa[c]using this
 intro i j x y c b a f;have:=d (y,j) (List.mem_zipIdx_iff_getElem?.2 (by simpa using b)) (x,i) (List.mem_zipIdx_iff_getElem?.2 (by simpa using c));simpa[a,f]using this
theorem M1(hT:ajt P C ops acts S)(D:vc ops acts=true){Q:Exit->Act->World->Prop}
  (hQ:∀a w,(ov S (gH acts) (λ_=>true) ops.size).holds C a w->Q .normal a w):
  ∀(c:Nat) (b:Array Bool) (a:Act) (w:World),b.size=ops.size->unl ops.size b<=c->Down ops (λi=>b.getD i false)->
   (ov S (gH acts) (λi=>b.getD i false) ops.size).holds C a w->wpAnyIn (Fr C.ro) 0 P .any ops Q c b a w:=by
 obtain⟨f,v,A⟩:=MZ D;have u:∀(b:Array Bool) (i:Nat),b.size=ops.size->i<ops.size->b.getD i true=b.getD i false:=by
  intro b i r f;rw[Array.getD_eq_getD_getElem?,Array.getD_eq_getD_getElem?];rw[Array.getElem?_eq_getElem ω];rfl
 have p:∀(b:Array Bool),b.size=ops.size->Region.ready .any ops b=[]->∀i,i<ops.size->b.getD i false=true:=by
  intro b r hr i
  induction i using Nat.strongRecOn with
  |_ i W=>
   intro f;cases n:b.getD i false with
   |true=>rfl
   |false=>
    exfalso;have:i∈Region.ready .any ops b:=by
     simp only[Region.ready,List.mem_filter,List.mem_range];refine⟨f,?_⟩;rw[u b i r f,n,Array.getElem?_eq_getElem f];simp only[Bool.not_false,Bool.true_and,Option.map_some,Option.getD_some,Array.all_eq_true_iff_forall_mem];intro e l;cases q:Region.binds .any e with
     |false=>rfl
     |true=>
      have g:=v i ops[i] (Array.getElem?_eq_getElem f) e l q;rw[W e.on g ω];rfl
    rw[hr]at this;simp at this
 intro c
 induction c with
 |zero=>
  intro b a w r v z N;have g:∀i,i<ops.size->b.getD i false=true:=by
   intro i f;cases n:b.getD i false with
   |true=>rfl
   |false=>
    exfalso;have E:i∈(List.range ops.size).filter λi=>!b.getD i true:=by
     rw[List.mem_filter];exact⟨List.mem_range.2 f,by rw[u b i r f,n];rfl⟩
    have:0<unl ops.size b:=List.length_pos_of_mem E;omega
  refine⟨?_,?_⟩
  ·simp only[Region.ready,List.filter_eq_nil_iff,List.mem_range];intro i f;rw[u b i r f,g i f];simp
  refine hQ a w ?_;rwa[Bt S (gH acts) (L:=λi=>b.getD i false) (L':=λ_=>true) ops.size g]at N
 |succ c W=>
  intro b a w r v z N;refine⟨λhr=>?_,λi f=>?_⟩
  ·refine hQ a w ?_;rwa[Bt S (gH acts) (L:=λi=>b.getD i false) (L':=λ_=>true) ops.size (p b r hr)]at N
  simp only[Region.ready,List.mem_filter,List.mem_range,Bool.and_eq_true,Bool.not_eq_true']at f;obtain⟨f,n,c⟩:=f;have F:b.getD i false=false:=by rw[<-u b i r f];exact n
  have M:ops[i]? =some ops[i]:=Array.getElem?_eq_getElem f;have p:∀e∈ops[i].after,Region.binds .any e=true->b.getD e.on false=true:=by
   rw[M]at c;simp only[Option.map_some,Option.getD_some,Array.all_eq_true_iff_forall_mem]at c;intro e l q;have:=c e l;simpa[q]using this
  have c:i<acts.length:=by omega
  have V:acts[i]? =some acts[i]:=List.getElem?_eq_getElem c;have O:gH acts i=acts[i].e:=by simp[gH,c]
  have g:∀m,(b.setIfInBounds i true).getD m false=if m=i then true else b.getD m false:=by
   intro m;rw[Array.getD_eq_getD_getElem?,Array.getElem?_setIfInBounds];by_cases E:m=i
   ·subst E;simp[r,f]
   rw[if_neg ω,if_neg E,Array.getD_eq_getD_getElem?]
  have J:Down ops (λm=>(b.setIfInBounds i true).getD m false):=by
   intro j o hj hl e l q;simp only[g]at hl⊢;by_cases c:j=i
   ·subst c;have:o=ops[j]:=by rw[M]at hj;exact(aob hj).symm
    subst this;have:=p e l q;split<;>simp_all
   rw[if_neg c]at hl;have:=z j o hj hl e l q;split<;>simp_all
  have v:∀k,i<k->b.getD k false=true->(acts[i]).Fi ((acts[k]?).getD ⟨[],[],⟨none,[]⟩⟩)=false:=by
   intro k p l;have R:k<ops.size:=by
    rcases Nat.lt_or_ge k ops.size with h|h
    ·exact h
    rw[Array.getD_eq_getD_getElem?,Array.getElem?_eq_none ω]at l;simp at l
   have c:acts[k]? =some acts[k]:=List.getElem?_eq_getElem ω;rw[c,Option.getD_some];cases B:(acts[i]).Fi acts[k]with
   |false=>rfl
   |true=>
    have q:=A i k _ _ V c p B;have:=IC z k i q l;simp only[F]at this;exact absurd this η
  have U:∀k,k<i->b.getD k false=false->((acts[k]?).getD ⟨[],[],⟨none,[]⟩⟩).Fi acts[i]=false:=by
   intro k p l;have c:acts[k]? =some acts[k]:=List.getElem?_eq_getElem ω;rw[c,Option.getD_some];cases B:(acts[k]).Fi acts[i]with
   |false=>rfl
   |true=>
    have q:=A k i _ _ c V p B;have:=IC J i k q (by simp[g]);rw[g,if_neg ω,l]at this;exact absurd this η
  have D:∀k,((acts[k]?).getD ⟨[],[],⟨none,[]⟩⟩).e=gH acts k:=by
   intro k;unfold gH;cases acts[k]? <;>rfl
  have I:∀{x y:Ac},x.Fi y=false->(∀d∈x.e.ks,d∉y.rs/\d∉y.e.ks)/\(∀d∈y.e.ks,d∉x.rs)/\(∀d∈x.e.ko,d∉y.ro/\d∉y.e.ko)/\(∀d∈y.e.ko,d∉x.ro):=by
   intro x y h;simp only[Ac.Fi,Bool.or_eq_false_iff]at h;exact⟨zM h.1.1.1,λd u=>(zM h.1.1.2 d u).1,zM h.1.2,λd u=>(zM h.2 d u).1⟩
  have A:∀{α:Type} (c:AS->Nat->α) (q:Fh->Nat->Option α) (g:∀S e s,c (S.app e) s=(q e s).getD (c S s)) (H:Ac->List Nat) (z:Fh->List Nat)
    (p:∀e s,q e s≠none->s∈z e) (G:∀x y:Ac,x.Fi y=false->(∀d∈z x.e,d∉H y)/\(∀d∈z y.e,d∉H x)),∀s∈H acts[i],
    c (ov S (gH acts) (λm=>b.getD m false) ops.size) s=c (ov S (gH acts) (λ_=>true) i) s:=by
   intro α c q g H z p G s H;rw[aeO c q g S (gH acts) _ s i ops.size ω]
   ·refine Zl c q g S (gH acts) _ _ s i λm E X=>?_;cases K:b.getD m false with
    |true=>rfl
    |false=>
     have:=(G _ _ (U m E K)).1 s (by rw[D];exact p _ _ X);exact absurd H this
   intro m U U K;cases X:q (gH acts m) s with
   |none=>rfl
   |some x=>
    exfalso;rcases Nat.lt_or_ge i m with h|h
    ·have:=(G _ _ (v m h K)).2 s (by rw[D];exact p _ _ (by rw[X];simp));exact this H
    obtain rfl:m=i:=by omega
    simp only[F]at K;exact absurd K η
  refine hT i ops[i] acts[i] M V (ov S (gH acts) (λm=>b.getD m false) ops.size) (by rw[ajs,ajs]) ?_ ?_ i a w _ Q M N ?_
  ·exact A AS.t wT AS.ahk Ac.rs Fh.ks (λ_ _ h=>Zm h) (λx y h=>⟨λd u=>((I h).1 d u).1,(I h).2.1⟩)
  ·exact A AS.o (λe=>cB e.ob) AS.ahl Ac.ro Fh.ko (λ_ _ h=>GS h) (λx y h=>⟨λd u=>((I h).2.2.1 d u).1,(I h).2.2.2⟩)
  intro A w' H;refine W (b.setIfInBounds i true) A w' (by simp[r]) ?_ J ?_
  ·have:=aju f r n;omega
  have A:ov S (gH acts) (λm=>(b.setIfInBounds i true).getD m false) ops.size=(ov S (gH acts) (λm=>b.getD m false) ops.size).app acts[i].e:=by
   have K:∀k,k<=i->ov S (gH acts) (λm=>(b.setIfInBounds i true).getD m false) k=ov S (gH acts) (λm=>b.getD m false) k:=λk p=>
    Bt S (gH acts) k (λm E=>by rw[g,if_neg ω])
   have r:∀k,i<k->k<=ops.size->ov S (gH acts) (λm=>(b.setIfInBounds i true).getD m false) k=(ov S (gH acts) (λm=>b.getD m false) k).app acts[i].e:=by
    intro k p R
    induction k with
    |zero=>omega
    |succ k J=>
     by_cases n:k=i
     ·subst n;show(if(b.setIfInBounds k true).getD k false then _ else _)=AS.app (if b.getD k false then _ else _) _;rw[g,if_pos Y,if_pos Y,F,K k (Nat.le_refl _),O];rfl
     have E:=J ω ω;show(if(b.setIfInBounds i true).getD k false then(ov S (gH acts) (λm=>(b.setIfInBounds i true).getD m false) k).app (gH acts k)else ov S (gH acts) (λm=>(b.setIfInBounds i true).getD m false) k)=AS.app (if b.getD k false then(ov S (gH acts) (λm=>b.getD m false) k).app (gH acts k)else ov S (gH acts) (λm=>b.getD m false) k) _;rw[g,if_neg n,E];cases l:b.getD k false with
     |false=>rfl
     |true=>
      rw[if_pos Y,if_pos rfl];have B:=I (v k ω l);rw[D]at B;have b:∀{α:Type} (c:AS->Nat->α) (q:Fh->Nat->Option α) (g:∀S e s,c (S.app e) s=(q e s).getD (c S s)) (z:Fh->List Nat) (p:∀e s,q e s≠none->s∈z e)
        (G:∀d∈z acts[i].e,d∉z (gH acts k)) (T:AS) (s:Nat),c ((T.app acts[i].e).app (gH acts k)) s=c ((T.app (gH acts k)).app acts[i].e) s:=by
       intro α c q g z p G T s;rw[g,g,g,g];cases g:q acts[i].e s with
       |none=>rfl
       |some x=>
        cases c:q (gH acts k) s with
        |none=>rfl
        |some y=>exact absurd (p _ s (by rw[c];simp)) (G s (p _ s (by rw[g];simp)))
      refine AS.ext' (by simp[AS.ahi]) (λs=>?_) (λs=>?_) (by simp[AS.ahj]) (by simp[AS.ahj])
      ·exact b AS.t wT AS.ahk Fh.ks (λ_ _ h=>Zm h) (λd u=>(B.1 d u).2) _ s
      exact b AS.o (λe=>cB e.ob) AS.ahl Fh.ko (λ_ _ h=>GS h) (λd u=>(B.2.2.1 d u).2) _ s
   exact r ops.size f (Nat.le_refl _)
  rw[A];exact H
end drawn
theorem Pg(S:AS)(x:Ac)(xs:List Ac):∀i,ov S (gH (x::xs)) (λ_=>true) (i+1)=ov (S.app x.e) (gH xs) (λ_=>true) i
 |0=>rfl
 |i+1=>by
  have a:=Pg S x xs i;show(ov S (gH (x::xs)) (λ_=>true) (i+1)).app (gH (x::xs) (i+1))=(ov (S.app x.e) (gH xs) (λ_=>true) i).app (gH xs i);rw[a];rfl
theorem NW{P:Program}{C:Ctx}{ops:Array Oper}{K:List Ac->AS->Prop}:∀(rest:List Oper) (a:List Ac) (S:AS),RunT P C ops false K rest a S->
  ∃xs:List Ac,xs.length=rest.length/\(∀(i:Nat) (o:Oper) (x:Ac),rest[i]? =some o->xs[i]? =some x->ajr P C ops o x.rs x.ro (ov S (gH xs) (λ_=>true) i) x.e)/\
   K (xs.reverse++a) (ov S (gH xs) (λ_=>true) rest.length)
 |[],a,S,h=>⟨[],Y,by simp,h⟩
 |o::rest,a,S,h=>by
  rcases h with⟨rs,ro,e,c,hr⟩|⟨h,_⟩
  case inr=>cases h
  obtain⟨xs,hl,hxs,d⟩:=NW rest _ _ hr;refine⟨⟨rs,ro,e⟩::xs,by simp[hl],?_,?_⟩
  ·intro i o' x a b;cases i with
   |zero=>simp at a b;subst a;subst b;exact c
   |succ i=>
    rw[Pg];exact hxs i o' x (by simpa using a) (by simpa using b)
  rw[List.length_cons,Pg,List.reverse_cons,List.append_assoc];exact d
theorem AS.holds.drew{C:Ctx}{S:AS}{a:Act}{w:World}(h:S.holds C a w):S.holds C a w.drew:=by
 obtain⟨E,h⟩:=h;exact⟨E,h.drew⟩
theorem bz{P:Program}{C:Ctx}{K:Nat}{D:Array Oper}{S:AS}{Q:Exit->AS->Prop}(I:P.follows .mixedOrders=true)
  (h:RunT P C D false (λH S=>vc D H.reverse=true/\Q .normal S) D.toList [] S):Ok P C (.region K D true) S Q:=λa w f=>by
 obtain⟨xs,hl,c,b,e⟩:=NW _ _ _ h;rw[List.append_nil,List.reverse_reverse]at b;refine wpIn_region_any I ?_;refine M1 (acts:=xs) (S:=S) (λi o x d g=>c i o x (by simpa using d) g) b (λa w b=>⟨_,e,by simpa using b⟩) D.size _ a _ η ?_ ?_ ?_
 ·have:=List.length_filter_le (λi=>!(Array.replicate D.size false).getD i true) (List.range D.size);simpa[unl]using this
 ·intro j o _ hj;exfalso;simp only[Array.getD_eq_getD_getElem?,Array.getElem?_replicate]at hj;split at hj<;>simp at hj
 rw[Bt S (gH xs) (L':=λ_=>false) D.size (λi b=>by rw[Array.getD_eq_getD_getElem?,Array.getElem?_replicate,if_pos b];rfl)];have:∀k,ov S (gH xs) (λ_=>false) k=S:=by
  intro k;induction k with
  |zero=>rfl
  |succ k b=>simpa[ov]using b
 rw[this];exact f.drew
def aR(D:AS->Prop)(Q:Exit->AS->Prop):Exit->AS->Prop
 |.normal,S=>D S
 |e,S=>Q e S
def bn(D:Nat)(Q:Exit->AS->Prop):Exit->AS->Prop
 |.exit a,S=>if a=D then Q .normal S else Q (.exit a) S
 |e,S=>Q e S
section control
variable {P:Program}{C:Ctx}{S:AS}{Q:Exit->AS->Prop}
theorem aR.n{D:AS->Prop}(h:D S):aR D Q .normal S:=h
theorem aR.r{D:AS->Prop}(h:Q .ret S):aR D Q .ret S:=h
theorem aR.x{D:AS->Prop}{H:Nat}(h:Q (.exit H) S):aR D Q (.exit H) S:=h
theorem bn.n{D:Nat}(h:Q .normal S):bn D Q .normal S:=h
theorem bn.r{D:Nat}(h:Q .ret S):bn D Q .ret S:=h
theorem bn.x{D:Nat}(h:Q .normal S):bn D Q (.exit D) S:=by simp only[bn,if_true];exact h
theorem bn.y{I D:Nat}(H:D≠I)(h:Q (.exit D) S):bn I Q (.exit D) S:=by simp only[bn,if_neg H];exact h
theorem Fk{c:Code}{D:Exit->AS->Prop}(h:Ok P C c S Q)(H:∀e S,Q e S->D e S):Ok P C c S D:=λa w b=>
 wpIn_mono (h a w b) λ_ _ _ ⟨S',q,b⟩=>⟨S',H _ _ q,b⟩
theorem aT{x y:Code}(h:Ok P C x S (aR (λS'=>Ok P C y S' Q) Q)):Ok P C (.seq x y) S Q:=λa w b=>by
 refine wpIn_seq (wpIn_mono (h a w b) ?_);rintro e c w' ⟨S',q,b⟩;cases e<;>first|exact q c w' b|exact⟨S',q,b⟩
theorem aX(h:Q .normal S):Ok P C .skip S Q:=λ_ _ a=>wpIn_skip ⟨S,h,a⟩
theorem aY(h:Q .ret S):Ok P C .ret S Q:=λ_ _ a=>wpIn_ret ⟨S,h,a⟩
theorem bt{D:Nat}(h:Q (.exit D) S):Ok P C (.exit D) S Q:=λ_ _ a=>wpIn_exit ⟨S,h,a⟩
theorem Wb{c:Operand}{x y:Code}{t:Bool}(H:S.ev c=.sv (.v (.bool t)))(ht:t=true->Ok P C x S Q)(D:t=false->Ok P C y S Q):Ok P C (.cond c x y) S Q:=λa w b=>by
 obtain⟨E,h⟩:=b;have b:a.eval c=.bool t:=by have:=h.ev c;rw[H]at this;exact this
 exact wpIn_cond_split b (λe=>ht e a w ⟨E,h⟩) (λe=>D e a w ⟨E,h⟩)
theorem Rx{c:Operand}{x y:Code}(D:S.ev c=.sv (.v (.bool true)))(ht:Ok P C x S Q):Ok P C (.cond c x y) S Q:=Wb D (λ_=>ht) (λh=>by cases h)
theorem Ry{c:Operand}{x y:Code}(H:S.ev c=.sv (.v (.bool false)))(D:Ok P C y S Q):Ok P C (.cond c x y) S Q:=Wb H (λh=>by cases h) (λ_=>D)
theorem aV{D:Nat}{c:Code}(h:Ok P C c S (bn D Q)):Ok P C (.block D c) S Q:=λa w b=>by
 refine wpIn_block (wpIn_mono (h a w b) ?_);rintro e b w' ⟨S',q,d⟩;cases e with
 |exit b=>
  simp only[bn,Exit.inBlock]at*;split at q<;>rename_i b
  ·rw[if_pos b];exact⟨S',q,d⟩
  rw[if_neg b];exact⟨S',q,d⟩
 |_=>exact⟨S',q,d⟩
def jx(C:Ctx)(S S':AS):Prop:=∀(a:Act) (w:World),S.holds C a w->S'.holds C a w
theorem aeR{c:Code}{S':AS}(D:jx C S S')(h:Ok P C c S' Q):Ok P C c S Q:=λa w b=>h a w (D a w b)
theorem AO{F:Fence}{n:Nat}{Q:Exit->Act->World->Prop}{a:Act}{w:World}{c:Code}(I:Nat->Act->World->Prop)(D:Nat)(H:I D a w)
  (round:∀m a w,I m a w->c.wpIn F n P (Exit.then (λK w'=>∃m',m'<m/\I m' K w') Q) a w):(Code.loop c).wpIn F n P Q a w:=by
 refine wpIn_loop (λa w=>∃n,I n a w) (λa w=>leastOf (λn=>I n a w)) ⟨D,H⟩ ?_;intro a w b;refine wpIn_mono (round _ a w (leastOf_spec b).1) ?_;intro e K w' g;cases e with
 |normal=>
  obtain⟨f,d,b⟩:=g;exact show(∃n,I n K w')/\leastOf (λn=>I n K w')<leastOf (λn=>I n a w)from⟨⟨f,b⟩,Nat.lt_of_le_of_lt ((leastOf_spec ⟨f,b⟩).2 f b) d⟩
 |_=>exact g
theorem Wc{ι:Type}{c:Code}(I:ι->AS)(μ:ι->Nat)(D:ι)(H:jx C S (I D))
  (round:∀x,Ok P C c (I x) (aR (λS'=>∃y,μ y<μ x/\jx C S' (I y)) Q)):Ok P C (.loop c) S Q:=λa w b=>by
 refine AO (λn a w=>∃x,μ x=n/\(I x).holds C a w) (μ D) ⟨D,Y,H a w b⟩ ?_;rintro n a w ⟨x,rfl,b⟩;refine wpIn_mono (round x a w b) ?_;rintro e f w' ⟨S',q,d⟩;cases e with
 |normal=>obtain⟨y,g,b⟩:=q;exact⟨μ y,g,y,Y,b f w' d⟩
 |_=>exact⟨S',q,d⟩
end control
end
section
open Go.RowKit
theorem SV.aS(s:SV):SV.imp s s:=λ_ _ h=>h
theorem aq{s:SV}:SV.imp s s:=SV.aS _
def yG:List SV->List SV->Prop
 |[],[]=>True
 |x::l,y::a=>SV.imp x y/\yG l a
 |_,_=>False
theorem yG.holds{M:Mem}:∀{l a:List SV} {vs:List Value},yG l a->SV.jN M l vs->SV.jN M a vs
 |[],[],[],_,_=>trivial
 |_::_,_::_,_::_,h,a=>⟨h.1 _ _ a.1,yG.holds h.2 a.2⟩
 |[],[],_::_,_,a=>a.elim
 |_::_,_::_,[],_,a=>a.elim
 |[],_::_,_,h,_=>h.elim
 |_::_,[],_,h,_=>h.elim
theorem yG.refl:∀l:List SV,yG l l
 |[]=>trivial
 |s::l=>⟨SV.aS s,yG.refl l⟩
theorem SV.aeS{l D:List SV}(h:yG l D):SV.imp (.agg l) (.agg D):=λ_ _ ⟨vs,e,a⟩=>⟨vs,e,h.holds a⟩
def AV.le(σ:Nat->Nat)(x y:AV):Prop:=∀(E:Env) v,x.holds E v->y.holds (E.uC σ) v
theorem AV.Bu{σ:Nat->Nat}{x y:AV}(h:x=y.uC σ):AV.le σ x y:=λE v a=>(AV.GQ y v).1 (h▸a)
theorem AV.Zo{σ:Nat->Nat}{s s':SV}(h:SV.imp s s'):AV.le σ (.sv s) (.sv s'):=λ_ v a=>h _ v a
def Ob.le(σ:Nat->Nat)(x y:Ob):Prop:=∀(E:Env) (w:World) (i:Nat),(x.ok E w (σ i)->y.ok (E.uC σ) w i)/\∀a g,y.kM (E.uC σ) i a g->x.kM E (σ i) a g
theorem Ob.Bu{σ:Nat->Nat}{x y:Ob}(h:x=y.uC σ):Ob.le σ x y:=by
 subst h;intro E w i;cases y with
 |dead=>exact⟨λ_=>trivial,λa g h=>h.elim⟩
 |box T cs=>exact⟨λ⟨g,vs,c,b,d⟩=>⟨g,vs,c,b,(jc.uC cs vs).1 d⟩,λa g h=>by cases a<;>exact h⟩
 |row T sz n cs=>exact⟨λh=>h,λa g h=>by cases a<;>exact h⟩
 |arr T cs=>
  refine⟨λ⟨vs,c,b⟩=>⟨vs,?_,(jc.uC cs vs).1 b⟩,λa g h=>by cases a<;>exact h⟩;have:(yC σ cs).length=cs.length:=by rw[b.length,((jc.uC cs vs).1 b).length]
  rw[this]at c;exact c
 |vF T U sz rs f e=>
  have e:(f.map λp=>(p.1,σ p.2)).map (·.1)=f.map (·.1):=by simp
  refine⟨λ⟨c,b,d⟩=>⟨c,λp hp=>b (p.1,σ p.2) (List.mem_map.2 ⟨p,hp,Y⟩),λk n cs j l=>d k n cs j (by rw[e];exact l)⟩,λa g h=>?_⟩;cases a with
  |none=>exact h
  |some k=>exact⟨⟨h.1.1,by rw[e];exact h.1.2⟩,h.2⟩
def Bo:List (Nat×Nat)->Nat->Nat
 |[],i=>i
 |(k,v)::l,i=>bif Nat.beq i k then v else Bo l i
theorem Wd:∀{l:List (Nat×Nat)} {i:Nat},(∀p∈l,p.1≠i)->Bo l i=i
 |[],_,_=>rfl
 |(k,v)::l,i,h=>by
  rw[Bo,sX (λe=>h (k,v) η e.symm)];exact Wd (λp hp=>h p (List.mem_cons_of_mem _ hp))
def TI:List (Nat×AV)->Nat->AV
 |[],_=>.sv .any
 |(k,x)::l,s=>bif Nat.beq s k then x else TI l s
def ve:List (Nat×Ob)->Nat->Option Ob
 |[],_=>none
 |(k,x)::l,s=>bif Nat.beq s k then some x else ve l s
def AS.bM(n:Nat)(ts:List (Nat×AV))(os:List (Nat×Ob))(g:Nat:=0)(go:Bool:=true):AS:=⟨n,TI ts,ve os,g,go⟩
theorem JP{ts:List (Nat×AV)}{s:Nat}:TI ts s=.sv .any\/∃p∈ts,p.1=s/\TI ts s=p.2:=by
 induction ts with
 |nil=>exact .inl Y
 |cons p ts a=>
  obtain⟨k,x⟩:=p;by_cases h:s=k
  ·subst h;exact .inr ⟨(s,x),by simp,Y,by simp[TI]⟩
  simp only[TI,sX h,cond_false];rcases a with a|⟨p,hp,c,b⟩
  ·exact .inl a
  exact .inr ⟨p,List.mem_cons_of_mem _ hp,c,b⟩
theorem kG{os:List (Nat×Ob)}{s:Nat}{x:Ob}(h:ve os s=some x):(s,x)∈os:=by
 induction os with
 |nil=>cases h
 |cons p os a=>
  obtain⟨k,y⟩:=p;by_cases e:s=k
  ·subst e;simp[ve]at h;subst h;simp
  simp only[ve,sX e,cond_false]at h;exact List.mem_cons_of_mem _ (a h)
def Kj(os:List (Nat×Ob))(x:AV):Bool:=x.refs.all λj=>(ve os j).isSome
theorem Zq{n:Nat}{ts:List (Nat×AV)}{os:List (Nat×Ob)}{g:Nat}{go:Bool}(h:((ts.all λp=>Kj os p.2)&&(os.all λp=>p.2.IB.all (Kj os)))=true):(AS.bM n ts os g go).wf:=by
 simp only[Bool.and_eq_true,List.all_eq_true]at h;have a:∀x,Kj os x=true->(AS.bM n ts os g go).lG x:=λx b j hj=>by
  have:=List.all_eq_true.1 b j hj;intro e;rw[show ve os j=none from e]at this;cases this
 refine⟨λs=>?_,λi ob c x b=>a x (h.2 _ (kG c) x b)⟩;rcases JP (ts:=ts) (s:=s)with e|⟨p,hp,_,e⟩
 ·show(AS.bM n ts os g go).lG (TI ts s);rw[e];exact λ_ h=>by cases h
 show(AS.bM n ts os g go).lG (TI ts s);rw[e];exact a _ (h.1 p hp)
def TsI(σ:Nat->Nat)(S:AS):List (Nat×AV)->Prop
 |[]=>True
 |(k,x)::l=>AV.le σ (S.t k) x/\TsI σ S l
def Rz(σ:Nat->Nat)(S:AS):List (Nat×Ob)->Prop
 |[]=>True
 |(k,x)::l=>(∃y,S.o (σ k)=some y/\Ob.le σ y x)/\Rz σ S l
theorem TsI.mem{σ:Nat->Nat}{S:AS}:∀{l:List (Nat×AV)},TsI σ S l->∀p∈l,AV.le σ (S.t p.1) p.2
 |_::_,h,p,hp=>by
  rcases List.mem_cons.1 hp with rfl|hp
  ·exact h.1
  exact TsI.mem h.2 p hp
theorem Rz.mem{σ:Nat->Nat}{S:AS}:∀{l:List (Nat×Ob)},Rz σ S l->∀p∈l,∃y,S.o (σ p.1)=some y/\Ob.le σ y p.2
 |_::_,h,p,hp=>by
  rcases List.mem_cons.1 hp with rfl|hp
  ·exact h.1
  exact Rz.mem h.2 p hp
theorem TsI.vH{σ:Nat->Nat}{S:AS}:∀{ts:List (Nat×AV)},(ts.map λp=>S.t p.1)=(ts.map λp=>p.2.uC σ)->TsI σ S ts
 |[],_=>trivial
 |(k,x)::l,h=>by simp only[List.map_cons,List.cons.injEq]at h;exact⟨AV.Bu h.1,TsI.vH h.2⟩
theorem Rz.vH{σ:Nat->Nat}{S:AS}:∀{os:List (Nat×Ob)},(os.map λp=>S.o (σ p.1))=(os.map λp=>some (p.2.uC σ))->Rz σ S os
 |[],_=>trivial
 |(k,x)::l,h=>by simp only[List.map_cons,List.cons.injEq]at h;exact⟨⟨_,h.1,Ob.Bu Y⟩,Rz.vH h.2⟩
theorem anP{C:Ctx}{S:AS}(l:List (Nat×Nat)){n:Nat}{ts:List (Nat×AV)}{os:List (Nat×Ob)}{g:Nat}{go:Bool}(ht:TsI (Bo l) S ts)(H:Rz (Bo l) S os)(I:S.n=n:=by exact rfl)(K:S.g=g:=by exact rfl)(D:S.go=go:=by exact rfl)
  (hwf:((ts.all λp=>Kj os p.2)&&(os.all λp=>p.2.IB.all (Kj os)))=true:=by exact rfl) (hσ:((os.all λp=>os.all λq=>!(Nat.beq (Bo l p.1) (Bo l q.1))||Nat.beq p.1 q.1))=true:=by exact rfl) (hp:(l.all λp=>!C.qZ p.1)=true:=by exact rfl):jx C S (AS.bM n ts os g go):=by
 rintro a w ⟨E,h⟩;have m:∀i ob,(AS.bM n ts os g go).o i=some ob->∃y,S.o (Bo l i)=some y/\Ob.le (Bo l) y ob:=λi ob c=>H.mem (i,ob) (kG c);refine⟨E.uC (Bo l),Zq hwf,h.marks,by rw[h.size,I];rfl,h.os,h.tape,h.output,h.grown,h.frame,h.m0,h.Be,h.kf,λs=>?_,λi ob c=>?_,λi ob b d c r=>?_,λi ob b j x b' d c hj r v=>?_,λi c=>?_,h.GK,?_⟩
 ·rcases JP (ts:=ts) (s:=s)with e|⟨p,hp,rfl,e⟩
  ·show(TI ts s).holds _ _;rw[e];exact trivial
  show(TI ts p.1).holds _ _;rw[e];exact ht.mem p hp _ _ (h.tm p.1)
 ·obtain⟨y,f,k⟩:=m i ob c;exact(k E w i).1 (h.ob _ y f)
 ·obtain⟨y,f,k⟩:=m i ob c;exact h.mine _ y b d f ((k E w i).2 b d r)
 ·obtain⟨y,f,k⟩:=m i ob c;obtain⟨t,u,z⟩:=m j x hj;obtain⟨e,m⟩:=h.inj _ y b _ t b' d f u ((k E w i).2 b d r) ((z E w j).2 b' d v);refine⟨?_,m⟩;have:=List.all_eq_true.1 (List.all_eq_true.1 hσ _ (kG c)) _ (kG hj);simp only[Bool.or_eq_true,Bool.not_eq_true']at this;rcases this with q|q
  ·rw[e]at q;simp at q
  exact Nat.eq_of_beq_eq_true q
 ·have e:Bo l i=i:=Wd (λp d e=>by
   have:=List.all_eq_true.1 hp p d;rw[e,c]at this;cases this)
  show E.ν (Bo l i)=_/\E.ρ (Bo l i)=_;rw[e];exact h.qZ i c
 show C.J g go E.O E.M w;rw[<-K,<-D];exact h.jj
end
section
open Go.RowKit
def cut{α:Type}(l:List α)(D H:Nat):List α:=(l.drop D).take (H-D)
theorem tl{a b:Nat}(h:Nat.ble (a+1) b=true):a<b:=af h
def bU{J R:Type}(k:J->Option R)(f:(J->Option R)->Option R):Option R:=f k
theorem bind_some{α β:Type}{x:Option α}{f:α->Option β}{r:β}(h:Option.bind x f=some r):∃a,x=some a/\f a=some r:=by
 cases x with
 |none=>cases h
 |some a=>exact⟨a,Y,h⟩
theorem cn{α:Type}{x y:Option α}{r:α}(h:(bif true then x else y)=some r):x=some r:=h
theorem ct{α:Type}{x y:Option α}{r:α}(h:(bif false then x else y)=some r):y=some r:=h
theorem sk{b w:Bool}(h:(b==w)=false):b≠w:=by cases b<;>cases w<;>simp_all
def bV{α:Type}(l:List α)(i:Int):Option α:=if 0<=i then l[i.toNat]? else none
def fG{α:Type}(l:List α)(i:Int):Option Nat:=if 0<=i/\i<l.length then some i.toNat else none
def Kk{α:Type}(l:List α)(D H:Int):Option (List α):=if 0<=D/\D<=H/\H<=l.length then some (cut l D.toNat H.toNat)else none
def uE{α:Type}(by_:Nat)(l k:List α):Option (List α):=if(l.length+k.length)*by_<=140737488355328/\l.length+k.length<=140737488355328 then some (l++k)else none
def uF{α:Type}(by_:Nat)(c:Int)(z:α):Option (List α):=if 0<=c/\by_*c<=281474976710656/\c<=140737488355328 then some (List.replicate c.toNat z)else none
def RA{α:Type}(by_:Nat)(c:Int):Option (List α):=if 0<=c/\by_*c<=281474976710656/\c<=140737488355328 then some []else none
def stM{α:Type}(l:List α)(n:Nat)(y:α):Option (List α):=if n<l.length then some (l.set n y)else none
def DY(a b:Int):Option Int:=if b=0 then none else some (IntKind.i64.wrap (a.tdiv b))
def M3(a b:Int):Option Int:=if b=0 then none else some (a.tmod b)
def M4(M a b:Nat):Option Nat:=if b=0 then none else some (a/b%M)
def Kl(a b:Nat):Option Nat:=if b=0 then none else some (a%b)
def vf(M a b:Nat):Nat:=(((a:Int)-b)%M).toNat
theorem NX{α:Type}{l:List α}{i:Int}{a:α}(h:bV l i=some a):0<=i/\l[i.toNat]? =some a:=by
 unfold bV at h;split at h
 ·exact⟨by assumption,h⟩
 cases h
theorem Zs{α:Type}{l:List α}{i:Int}{k:Nat}(h:fG l i=some k):0<=i/\i<l.length/\i.toNat=k:=by
 unfold fG at h;split at h
 ·rename_i a;exact⟨a.1,a.2,aob h⟩
 cases h
theorem XX{α:Type}{l D:List α}{a b:Int}(h:Kk l a b=some D):0<=a/\a<=b/\b<=l.length/\cut l a.toNat b.toNat=D:=by
 unfold Kk at h;split at h
 ·rename_i c;exact⟨c.1,c.2.1,c.2.2,aob h⟩
 cases h
theorem Fm{α:Type}{by_:Nat}{l k D:List α}(h:uE by_ l k=some D):(l.length+k.length)*by_<=140737488355328/\l.length+k.length<=140737488355328/\l++k=D:=by
 unfold uE at h;split at h
 ·rename_i a;exact⟨a.1,a.2,aob h⟩
 cases h
theorem RB{α:Type}{by_:Nat}{c:Int}{z:α}{D:List α}(h:uF by_ c z=some D):0<=c/\by_*c<=281474976710656/\c<=140737488355328/\List.replicate c.toNat z=D:=by
 unfold uF at h;split at h
 ·rename_i a;exact⟨a.1,a.2.1,a.2.2,aob h⟩
 cases h
theorem Zt{α:Type}{by_:Nat}{c:Int}{D:List α}(h:RA by_ c=some D):0<=c/\by_*c<=281474976710656/\c<=140737488355328/\[]=D:=by
 unfold RA at h;split at h
 ·rename_i a;exact⟨a.1,a.2.1,a.2.2,aob h⟩
 cases h
theorem Km{α:Type}{l D:List α}{n:Nat}{y:α}(h:stM l n y=some D):n<l.length/\l.set n y=D:=by
 unfold stM at h;split at h
 ·rename_i a;exact⟨a,aob h⟩
 cases h
def lW{S E:Type}(body:S->Option (S⊕E)):Nat->S->Option E
 |0,_=>none
 |n+1,s=>match body s with
  |some (.inl s')=>lW body n s'
  |some (.inr e)=>some e
  |none=>none
theorem DZ{S E:Type}{body:S->Option (S⊕E)}:∀{n m:Nat} {s:S} {e:E},n<=m->lW body n s=some e->lW body m s=some e
 |0,_,_,_,_,h=>by cases h
 |n+1,0,_,_,a,_=>by omega
 |n+1,m+1,s,e,a,h=>by
  unfold lW at h⊢;cases a:body s with
  |none=>rw[a]at h;cases h
  |some y=>
   rw[a]at h;cases y with
   |inl s'=>exact DZ ω h
   |inr a=>exact h
open Classical in
noncomputable def bH{S E:Type}(body:S->Option (S⊕E))(s:S):Option E:=if h:∃n e,lW body n s=some e then some (Classical.choose (Classical.choose_spec h))else none
theorem zN{S E:Type}{body:S->Option (S⊕E)}{s:S}{e:E}(h:bH body s=some e):∃n,lW body n s=some e:=by
 unfold bH at h;split at h
 ·rename_i a;exact⟨_,by rw[<-aob h];exact Classical.choose_spec (Classical.choose_spec a)⟩
 cases h
theorem Kn{S E:Type}{body:S->Option (S⊕E)}{s:S}{e:E}{n:Nat}(h:lW body n s=some e):bH body s=some e:=by
 have a:∃n e,lW body n s=some e:=⟨n,e,h⟩;unfold bH;rw[dif_pos a];have c:=Classical.choose_spec (Classical.choose_spec a);have d:=DZ (Nat.le_max_left n (Classical.choose a)) h;have b:=DZ (Nat.le_max_right n (Classical.choose a)) c;rw[d]at b;exact b.symm
theorem my{S E:Type}{body:S->Option (S⊕E)}{s:S}{e:E}(h:body s=some (.inr e)):bH body s=some e:=Kn (n:=1) (by simp[lW,h])
theorem sZ{S E:Type}{body:S->Option (S⊕E)}{s s':S}(h:body s=some (.inl s')):bH body s=bH body s':=by
 cases hl:bH body s' with
 |some e=>obtain⟨n,a⟩:=zN hl;exact Kn (n:=n+1) (by simp[lW,h,a])
 |none=>
  cases b:bH body s with
  |none=>rfl
  |some e=>
   obtain⟨n,a⟩:=zN b;cases n with
   |zero=>cases a
   |succ n=>simp only[lW,h]at a;rw[Kn a]at hl;cases hl
theorem GU{S E:Type}{body:S->Option (S⊕E)}(I:S->Prop)(D:E->Prop)(μ:S->Nat)
  (step:∀s,I s->(∃s',body s=some (.inl s')/\I s'/\μ s'<μ s)\/(∃e,body s=some (.inr e)/\D e)) {s:S} (h:I s):∃e,bH body s=some e/\D e:=by
 have c:∀(n:Nat) (s:S),μ s<=n->I s->∃e,bH body s=some e/\D e:=by
  intro n
  induction n with
  |zero=>
   intro s f d;rcases step s d with⟨s',_,_,i⟩|⟨e,a,b⟩
   ·omega
   exact⟨e,my a,b⟩
  |succ n g=>
   intro s f d;rcases step s d with⟨s',a,b,i⟩|⟨e,a,b⟩
   ·obtain⟨e,d,f⟩:=g s' ω b;exact⟨e,by rw[sZ a];exact d,f⟩
   exact⟨e,my a,b⟩
 exact c _ s (Nat.le_refl _) h
theorem yH{S E:Type}{body:S->Option (S⊕E)}(D:Nat->S)(n:Nat){e:E}(H:∀k,k<n->body (D k)=some (.inl (D (k+1))))(I:body (D n)=some (.inr e)):bH body (D 0)=some e:=by
 have a:∀k,k<=n->bH body (D (n-k))=some e:=by
  intro k
  induction k with
  |zero=>intro _;exact my I
  |succ k b=>
   intro c;rw[sZ (H (n-(k+1)) ω),show n-(k+1)+1=n-k by omega];exact b ω
 have:=a n (Nat.le_refl _);rwa[Nat.sub_self]at this
theorem eqI{p q:Int}{c:Bool}(h:decide (p=q)=c):(p==q)=c:=by rw[<-h];exact Bool.beq_eq_decide_eq p q
theorem neI{p q:Int}{c:Bool}(h:decide (p≠q)=c):(p != q)=c:=by rw[<-h,bne,Bool.beq_eq_decide_eq p q];simp
theorem eqN{p q:Nat}{c:Bool}(h:decide (p=q)=c):((p:Int)==(q:Int))=c:=eqI (by rw[<-h];simp[Int.natCast_inj])
theorem neN{p q:Nat}{c:Bool}(h:decide (p≠q)=c):((p:Int) != (q:Int))=c:=neI (by rw[<-h];simp[Int.natCast_inj])
theorem ltN{p q:Nat}{c:Bool}(h:decide (p<q)=c):decide ((p:Int)<(q:Int))=c:=by rw[<-h];simp
theorem leN{p q:Nat}{c:Bool}(h:decide (p<=q)=c):decide ((p:Int)<=(q:Int))=c:=by rw[<-h];simp
theorem arX{p q c:Int}(h:max p q=c):(if q>p then q else p)=c:=by rw[<-h];split<;>omega
theorem arY{p q c:Int}(h:min p q=c):(if q<p then q else p)=c:=by rw[<-h];split<;>omega
class UK (k:IntKind) (b:outParam Nat) (M:outParam Nat):Prop where
 w:∀x:Int,k.wrap x=x%M
 hb:k.bits=b
 hm:2^b=M
instance:UK .u8 8 256:=⟨λx=>by simp[IntKind.wrap,IntKind.signed,IntKind.bits],rfl,by decide⟩
instance:UK .u32 32 4294967296:=⟨λx=>by simp[IntKind.wrap,IntKind.signed,IntKind.bits],rfl,by decide⟩
instance:UK .u64 64 18446744073709551616:=⟨λx=>by simp[IntKind.wrap,IntKind.signed,IntKind.bits],rfl,by decide⟩
section uk
variable {k:IntKind}{bi M a b c:Nat}[u:UK k bi M]
include u
theorem UK.pos:0<M:=by rw[<-u.hm];exact Nat.two_pow_pos _
theorem UK.nat(h:a%M=c):k.wrap (a:Int)=(c:Int):=by rw[u.w,<-h,Int.natCast_emod]
theorem UK.add(h:(a+b)%M=c):k.wrap ((a:Int)+(b:Int))=(c:Int):=by rw[<-Int.natCast_add];exact UK.nat h
theorem UK.mul(h:(a*b)%M=c):k.wrap ((a:Int)*(b:Int))=(c:Int):=by rw[<-Int.natCast_mul];exact UK.nat h
theorem UK.sub(h:vf M a b=c):k.wrap ((a:Int)-(b:Int))=(c:Int):=by
 rw[u.w,<-h,vf,Int.toNat_of_nonneg];exact Int.emod_nonneg _ (by have:=UK.pos (k:=k) (bi:=bi) (M:=M);omega)
theorem UK.neg(h:vf M 0 a=c):k.wrap (0-(a:Int))=(c:Int):=UK.sub h
theorem UK.conv{p:Int}(h:(p%M).toNat=c):k.wrap p=(c:Int):=by
 rw[u.w,<-h,Int.toNat_of_nonneg];exact Int.emod_nonneg _ (by have:=UK.pos (k:=k) (bi:=bi) (M:=M);omega)
theorem UK.quo(h:M4 M a b=some c):k.wrap ((a:Int).tdiv (b:Int))=(c:Int):=by
 unfold M4 at h;split at h
 ·cases h
 rw[Int.tdiv_eq_ediv_of_nonneg ω,<-Int.natCast_ediv];exact UK.nat (aob h)
theorem UK.shl{q:Int}{s:Nat}(D:min q.toNat k.bits=s)(h:a*2^s%M=c):k.wrap ((a:Int)*2^(min q.toNat k.bits))=(c:Int):=by
 rw[D,show(a:Int)*2^s=((a*2^s:Nat):Int) by rw[Int.natCast_mul,Int.natCast_pow];rfl];exact UK.nat h
theorem UK.ofInt(a:Nat):(BitVec.ofInt k.bits (a:Int)).toNat=a%M:=by
 rw[BitVec.ofInt_natCast,BitVec.toNat_ofNat,u.hb,u.hm]
theorem UK.or(h:(a ||| b)%M=c):k.wrap ((BitVec.ofInt k.bits (a:Int) ||| BitVec.ofInt k.bits (b:Int)).toNat)=(c:Int):=by
 rw[BitVec.toNat_or,UK.ofInt,UK.ofInt,<-u.hm,<-Nat.or_mod_two_pow,u.hm,h,UK.nat (a:=c) (c:=c)];rw[<-h,Nat.mod_mod]
end uk
theorem Ko{k:IntKind}{a c s:Nat}{q:Int}(D:min q.toNat k.bits=s)(h:a/2^s=c):(a:Int).fdiv (2^(min q.toNat k.bits))=(c:Int):=by
 rw[D,Int.fdiv_eq_ediv_of_nonneg _ (Int.le_of_lt (Int.pow_pos ξ)),<-h,Int.natCast_ediv,Int.natCast_pow];rfl
theorem XY{a b c:Nat}(h:Kl a b=some c):(a:Int).tmod (b:Int)=(c:Int):=by
 unfold Kl at h;split at h
 ·cases h
 rw[Int.tmod_eq_emod_of_nonneg ω,<-aob h];rfl
theorem anQ{a b c:Nat}(h:a%b=c):(a:Int).tmod (b:Int)=(c:Int):=by
 rw[Int.tmod_eq_emod_of_nonneg ω,<-h];rfl
theorem nzU{M a b c:Nat}(h:M4 M a b=some c):(b:Int)≠0:=by
 unfold M4 at h;split at h
 ·cases h
 omega
theorem nzR{a b c:Nat}(h:Kl a b=some c):(b:Int)≠0:=by
 unfold Kl at h;split at h
 ·cases h
 omega
theorem nzI{a b c:Int}(h:DY a b=some c):b≠0:=by unfold DY at h;split at h<;>simp_all
theorem arZ{a b c:Int}(h:M3 a b=some c):b≠0:=by unfold M3 at h;split at h<;>simp_all
theorem Zu{a b c:Int}(h:DY a b=some c):IntKind.i64.wrap (a.tdiv b)=c:=by
 unfold DY at h;split at h
 ·cases h
 exact aob h
theorem aeT{a b c:Int}(h:M3 a b=some c):a.tmod b=c:=by
 unfold M3 at h;split at h
 ·cases h
 exact aob h
class dZ (P:Program) (T:TypeId) (k:outParam IntKind):Prop where
 h:P.underlying T=some (.int k):=by kernel_rfl
class Ph (P:Program) (T:TypeId):Prop where
 h:P.underlying T=some .bool:=by kernel_rfl
class aho (P:Program) (T:TypeId):Prop where
 h:P.underlying T=some .string:=by kernel_rfl
class vI (P:Program) (T:TypeId) (n:outParam Nat):Prop where
 u:(match P.underlying T with|some (.struct _)|some (.array _ _)=>true|_=>false)=true:=by kernel_rfl
 s:(P.info? T).map (·.size)=some n:=by kernel_rfl
class uG (P:Program) (T:TypeId):Prop where
 u:(match P.underlying T with|some (.struct _)|some (.array _ _)|none=>false|_=>true)=true:=by kernel_rfl
 s:(P.info? T).map (·.size)=some 1:=by kernel_rfl
class ez (P:Program) (T:TypeId) (z:outParam Value):Prop where
 h:(P.info? T).bind (·.zero)=some z:=by kernel_rfl
class ku (P:Program) (T:TypeId) (E:outParam TypeId) (n:outParam Nat):Prop where
 u:P.underlying T=some (.slice E):=by kernel_rfl
 s:(P.info? E).map (·.size)=some n:=by kernel_rfl
class kH (P:Program) (T:TypeId) (f:Nat) (off:outParam Nat) (U:outParam TypeId):Prop where
 h:(match P.underlying T with|some (.struct fs)=>(fs[f]?).map λF=>(F.offset,F.type)|_=>none)=some (off,U):=by kernel_rfl
class cE (P:Program) (f:FuncId):Prop where
 h:((P.funcs[f]?).map λfn=>(fn.name== "runtime.NumGoroutine",fn.body.isNone))=some (false,false):=by kernel_rfl
theorem cE.run{P:Program}{f:FuncId}[e:cE P f](args:Array Value)(w:World):(callFunc f args).run P w=.ok (.enter f args) w:=by
 have h:=e.h;cases a:P.funcs[f]? with
 |none=>rw[a]at h;simp at h
 |some fn=>
  rw[a]at h;simp only[Option.map_some,Option.some.injEq,Prod.mk.injEq]at h;have c:fn.name≠ "runtime.NumGoroutine" :=by simpa using h.1
  have b:¬fn.body=none:=by have:=h.2;intro e;rw[e]at this;simp at this
  simp[callFunc,a,c,b]
theorem vI.isAgg{P:Program}{T:TypeId}{n:Nat}[t:vI P T n](w:World):(isAgg T).run P w=.ok true w:=by
 have h:=t.u;unfold Go.isAgg underlying;cases a:P.underlying T with
 |none=>rw[a]at h;simp at h
 |some u=>rw[a]at h;cases u<;>simp[a]at h⊢
theorem vI.size{P:Program}{T:TypeId}{n:Nat}[t:vI P T n](w:World):(sizeOf T).run P w=.ok n w:=by
 have h:=t.s;unfold Go.sizeOf typeInfo;cases a:P.info? T with
 |none=>rw[a]at h;simp at h
 |some i=>rw[a]at h;simp at h;simp[a,h]
theorem uG.isAgg{P:Program}{T:TypeId}[t:uG P T](w:World):(isAgg T).run P w=.ok false w:=by
 have h:=t.u;unfold Go.isAgg underlying;cases a:P.underlying T with
 |none=>rw[a]at h;simp at h
 |some u=>rw[a]at h;cases u<;>simp[a]at h⊢
theorem uG.size{P:Program}{T:TypeId}[t:uG P T](w:World):(sizeOf T).run P w=.ok 1 w:=by
 have h:=t.s;unfold Go.sizeOf typeInfo;cases a:P.info? T with
 |none=>rw[a]at h;simp at h
 |some i=>rw[a]at h;simp at h;simp[a,h]
theorem ez.run{P:Program}{T:TypeId}{z:Value}[t:ez P T z](w:World):(zeroValue T).run P w=.ok z w:=by
 have h:=t.h;unfold Go.zeroValue typeInfo;cases a:P.info? T with
 |none=>rw[a]at h;simp at h
 |some i=>rw[a]at h;simp at h;simp[a,h]
theorem ku.size{P:Program}{T E:TypeId}{n:Nat}[t:ku P T E n](w:World):(sizeOf E).run P w=.ok n w:=by
 have h:=t.s;unfold Go.sizeOf typeInfo;cases a:P.info? E with
 |none=>rw[a]at h;simp at h
 |some i=>rw[a]at h;simp at h;simp[a,h]
inductive Gd (ops:Array Oper) (S:AS):Option (Nat×Bool)->List Nat->Prop
 |none:Gd ops S none []
 |some {j g:Nat} {want:Bool} (h1:(ops[j]?).bind (·.dst)=some g) (h2:S.t g=.sv (.v (.bool want))):Gd ops S (some (j,want)) [g]
theorem We{a:Act}{g:Nat}{v:Value}(h:a.tmps.getD g undef=v)(D:v≠undef):a.tmps[g]? =some v:=by
 rw[Array.getD_eq_getD_getElem?]at h;cases e:a.tmps[g]? with
 |none=>rw[e]at h;exact absurd h.symm D
 |some x=>rw[e]at h;simp at h;rw[h]
theorem Gd.wanted{D:Array Oper}{S S':AS}{gd:Option (Nat×Bool)}{rs:List Nat}(H:Gd D S gd rs){C:Ctx}{E:Env}{a:Act}{w:World}(h:bw C S' E a w)
  (ht:∀s∈rs,S'.t s=S.t s) {o:Oper} (ho:o.guard=gd):Region.wanted o (yielded D a.tmps)=true:=by
 cases H with
 |none=>simp[Region.wanted,ho]
 | @some j g b e d=>
  have c:=h.tm g;rw[ht g η,d]at c;have:a.tmps[g]? =Option.some (.bool b):=We c (by simp[undef]);simp[Region.wanted,ho,yielded,e,this]
section steps
variable {P:Program}{C:Ctx}{ops:Array Oper}{S:AS}{nd:Bool}{K:List Ac->AS->Prop}{rest:List Oper}{acc:List Ac}
abbrev Nx(P:Program)(C:Ctx)(I:Array Oper)(nd:Bool)(K:List Ac->AS->Prop)(D:List Oper)(H:List Ac)(S:AS)(rs ro:List Nat)(e:Fh):Prop:=RunT P C I nd K D (⟨rs,ro,e⟩::H) (S.app e)
theorem cW{o:Oper}{i:Nat}{a:Act}{w:World}{L:Act->World->Prop}{Q:Exit->Act->World->Prop}(D:ops[i]? =some o)(H:Region.wanted o (yielded ops a.tmps)=true)(h:o.wpIn (Fr C.ro) 0 P a w L Q):wpOpIn (Fr C.ro) 0 P ops Q i L a w:=by
 simp only[wpOpIn,D,H,if_true];exact h
theorem cZ{o:Oper}{a:Act}{w:World}{L:Act->World->Prop}{Q:Exit->Act->World->Prop}(D:∀c,o.op≠ .defer c){r:Result Next}(hr:(execOp a.eval o).run P w=r)(h:o.uponIn (Fr C.ro) 0 P a L Q r):o.wpIn (Fr C.ro) 0 P a w L Q:=by
 refine⟨λ_ _=>trivial,?_⟩;rw[Oper.semAt_eq _ _ _ D,hr];exact h
variable {gd:Option (Nat×Bool)}{rg:List Nat}{d:Nat}{ty:TypeId}{pos:String}{aft:Array Edge}{x y z:Operand}{T U:TypeId}{k:IntKind}{p q:Int}
theorem aF(h:K acc S):RunT P C ops nd K [] acc S:=h
theorem ahx(I:Gd ops S gd rg){H:Op}(rs ro:List Nat)(x:AV)(obs:List (Nat×Ob))(hd:d<S.n)(D:∀c,H≠ .defer c)
  (hv:∀S':AS,S'.n=S.n->(∀s∈rs,S'.t s=S.t s)->(∀i∈ro,S'.o i=S.o i)->∀E a w,bw C S' E a w->∃v E' w',(execOp a.eval ⟨some d,H,ty,pos,aft,gd⟩).run P w=.ok (.value v) w'/\bw C (AS.ia obs S') E' a w'/\x.holds E' v/\(AS.ia obs S').lG x)
  (next:Nx P C ops nd K rest acc S (rg++rs) ro ⟨some (d,x),obs⟩):RunT P C ops nd K (⟨some d,H,ty,pos,aft,gd⟩::rest) acc S:=by
 refine .inl ⟨rg++rs,ro,⟨some (d,x),obs⟩,?_,next⟩;rintro S' f ht hr i a w L Q b ⟨E,h⟩ g;refine cW (C:=C) b (I.wanted h (λs e=>ht s (List.mem_append_left _ e)) Y) ?_;obtain⟨v,E',w',b,k,j,hl⟩:=hv S' f (λs e=>ht s (List.mem_append_right _ e)) hr E a w h;exact cZ (C:=C) D b (g _ _ ⟨E',k.put j (by rw[(va obs S').1];omega) hl⟩)
theorem akN(I:Gd ops S gd rg){H:Op}(rs ro:List Nat)(obs:List (Nat×Ob))(D:∀c,H≠ .defer c)
  (hv:∀S':AS,S'.n=S.n->(∀s∈rs,S'.t s=S.t s)->(∀i∈ro,S'.o i=S.o i)->∀E a w,bw C S' E a w->∃E' w',(execOp a.eval ⟨none,H,ty,pos,aft,gd⟩).run P w=.ok .skip w'/\bw C (AS.ia obs S') E' a w')
  (next:Nx P C ops nd K rest acc S (rg++rs) ro ⟨none,obs⟩):RunT P C ops nd K (⟨none,H,ty,pos,aft,gd⟩::rest) acc S:=by
 refine .inl ⟨rg++rs,ro,⟨none,obs⟩,?_,next⟩;rintro S' e ht hr i a w L Q b ⟨E,h⟩ f;refine cW (C:=C) b (I.wanted h (λs d=>ht s (List.mem_append_left _ d)) Y) ?_;obtain⟨E',w',b,g⟩:=hv S' e (λs d=>ht s (List.mem_append_right _ d)) hr E a w h;exact cZ (C:=C) D b (f _ _ ⟨E',g⟩)
theorem aeY(I:Gd ops S gd rg){H:Op}(rs ro:List Nat)(x:AV)(hd:d<S.n)(D:∀c,H≠ .defer c)
  (hv:∀S':AS,(∀s∈rs,S'.t s=S.t s)->(∀i∈ro,S'.o i=S.o i)->∀E a w,bw C S' E a w->∃v,(execOp a.eval ⟨some d,H,ty,pos,aft,gd⟩).run P w=.ok (.value v) w/\x.holds E v/\S'.lG x)
  (next:Nx P C ops nd K rest acc S (rg++rs) ro ⟨some (d,x),[]⟩):RunT P C ops nd K (⟨some d,H,ty,pos,aft,gd⟩::rest) acc S:=
 ahx I rs ro x [] hd D (λS' _ ht hr E a w h=>by obtain⟨v,b,f,e⟩:=hv S' ht hr E a w h;exact⟨v,E,w,b,h,f,e⟩) next
theorem rz{s:SV}{S:AS}:S.lG (.sv s):=λ_ h=>by cases h
theorem bw.qy{S':AS}{E:Env}{a:Act}{w:World}(h:bw C S' E a w){x:Operand}{s:AV}(D:S.ev x=s){rs:List Nat}(ht:∀s∈rs,S'.t s=S.t s)(H:∀s∈bD x,s∈rs):s.holds E (a.eval x)/\S'.lG s:=by
 have e:S'.ev x=s:=by rw[tR H ht,D]
 exact⟨e▸h.ev x,e▸h.evl x⟩
theorem ang{I:Op}{j g:Nat}{D:Bool}(v:Value)(H:(ops[j]?).bind (·.dst)=some g)(h2:S.t g=.sv (.v v))(hb:v≠ .bool D)(hd:d<S.n)
  (next:Nx P C ops nd K rest acc S [g] [] ⟨some (d,.sv (.v undef)),[]⟩):RunT P C ops nd K (⟨some d,I,ty,pos,aft,some (j,D)⟩::rest) acc S:=by
 refine .inl ⟨[g],[],⟨some (d,.sv (.v undef)),[]⟩,?_,next⟩;rintro S' b ht _ i a w L Q f ⟨E,h⟩ k;have b:=h.tm g;rw[ht g η,h2]at b;have l:Region.wanted ⟨some d,I,ty,pos,aft,some (j,D)⟩ (yielded ops a.tmps)=false:=by
  by_cases c:v=undef
  ·subst c;simp only[Region.wanted,yielded,H];have b:a.tmps.getD g undef=undef:=b;rw[Array.getD_eq_getD_getElem?]at b;cases e:a.tmps[g]? with
   |none=>simp[e]
   |some x=>rw[e]at b;simp at b;subst b;simp[e,undef]
  have:=We (a:=a) (v:=v) b c;cases v<;>simp_all [Region.wanted,yielded,H]
 simp only[wpOpIn,f,l];exact⟨λ_ _=>trivial,k _ _ ⟨E,h.put (x:=.sv (.v undef)) (v:=undef) Y ω rz⟩⟩
end steps
end
section
open Go.RowKit
class One (s:SV):Prop where
 h:∀M v,s.h M v->v.oneCell'=true
class RC (l:List SV):Prop where
 h:∀M vs,SV.jN M l vs->∀v∈vs,v.oneCell'=true
instance:RC []:=⟨λ_ vs h=>by cases vs with|nil=>simp|cons _ _=>exact h.elim⟩
instance{s:SV}{l:List SV}[o:One s][os:RC l]:RC (s::l):=⟨λM vs h=>by
 cases vs with
 |nil=>exact h.elim
 |cons x xs=>
        intro v a;rcases List.mem_cons.1 a with rfl|a
        ·exact o.h M _ h.1
        exact os.h M xs h.2 v a⟩
instance{b:Bool}:One (.v (.bool b)):=⟨λ_ _ h=>by cases h;rfl⟩
instance{k:IntKind}{n:Int}:One (.v (.int k n)):=⟨λ_ _ h=>by cases h;rfl⟩
instance{a:Option Addr}{l c:Nat}:One (.v (.slice a l c)):=⟨λ_ _ h=>by cases h;rfl⟩
instance{f:Fn}{a b:Array Value}:One (.v (.func f a b)):=⟨λ_ _ h=>by cases h;rfl⟩
theorem je{v:Value}(h:v.oneCell'=true):v.cells=#[v]:=by cases v<;>first|rfl|simp[Value.oneCell']at h
def slc(sz:Nat)(rows:List (List SV)):SV where
 h M v:=(∃a,v=.slice a 0 0/\rows=[])\/∃b o c,v=.slice (some ⟨b,o,none⟩) rows.length c/\rows.length<=c/\rows.length<=9223372036854775807/\
  ∀(i:Nat) (d:List SV),rows[i]? =some d->d.length=sz/\∀(k:Nat) (s:SV),d[k]? =some s->∃y,M b (o+i*sz+k)=some y/\y.oneCell'=true/\s.h M y
 mono hM h:=by
  rcases h with h|⟨b,o,c,e,f,g,j⟩
  ·exact .inl h
  refine .inr ⟨b,o,c,e,f,g,λi d hr=>⟨(j i d hr).1,λk s m=>?_⟩⟩;obtain⟨y,l,f,g⟩:=(j i d hr).2 k s m;exact⟨y,hM _ _ _ l,f,s.mono hM g⟩
abbrev aoc{α:Type}(n:Nat)(e:α->List SV)(l:List α):=slc n (List.map e l)
abbrev aoh{α:Type}(n:Nat)(e:α->List SV)(l:List α):AV:=.sv (slc n (List.map e l))
def ref(cells:List SV):SV where
 h M v:=∃b o,v=.pointer (some ⟨b,o,none⟩)/\∀(k:Nat) (s:SV),cells[k]? =some s->∃y,M b (o+k)=some y/\y.oneCell'=true/\s.h M y
 mono hM h:=by
  obtain⟨b,o,e,h⟩:=h;refine⟨b,o,e,λk s c=>?_⟩;obtain⟨y,d,f,a⟩:=h k s c;exact⟨y,hM _ _ _ d,f,s.mono hM a⟩
instance{sz:Nat}{rows:List (List SV)}:One (slc sz rows):=⟨λM v h=>by
 rcases h with⟨a,rfl,rfl⟩|⟨b,o,c,rfl,_⟩<;>rfl⟩
def pq{α:Type}:List α->Nat->List α->List α
 |l,_,[]=>l
 |l,k,x::xs=>pq (l.set k x) (k+1) xs
theorem D0{α:Type}:∀(xs l:List α) (k:Nat),(pq l k xs).length=l.length
 |[],_,_=>rfl
 |x::xs,l,k=>by rw[pq,D0 xs];simp
def Rows(sz:Nat)(rows:List (List SV))(cells:List SV):Prop:=rows.flatten=cells/\∀r∈rows,r.length=sz
theorem Kp{sz:Nat}:∀{rows:List (List SV)} {cells:List SV},Rows sz rows cells->∀(i:Nat) (a:List SV),rows[i]? =some a->a.length=sz/\∀(k:Nat) (s:SV),a[k]? =some s->cells[i*sz+k]? =some s
 |[],_,_,_,_,h=>by simp at h
 |r::rows,cells,⟨d,b⟩,0,a,h=>by
  simp at h;subst h;refine⟨b r η,λk s c=>?_⟩;rw[<-d,List.flatten_cons];have e:=(List.getElem?_eq_some_iff.1 c).1;rw[Nat.zero_mul,Nat.zero_add,List.getElem?_append_left e];exact c
 |r::rows,cells,⟨d,b⟩,i+1,a,h=>by
  have e:=Kp (sz:=sz) (rows:=rows) (cells:=rows.flatten) ⟨Y,λr hr=>b r (List.mem_cons_of_mem _ hr)⟩ i a (by simpa using h);refine⟨e.1,λk s c=>?_⟩;have hr:=b r η;rw[<-d,List.flatten_cons,List.getElem?_append_right (by rw[hr,Nat.add_mul];omega),hr,show(i+1)*sz+k-sz=i*sz+k by rw[Nat.add_mul];omega];exact e.2 k s c
theorem RE{sz:Nat}:∀{rows:List (List SV)} {cells:List SV},Rows sz rows cells->cells.length=rows.length*sz
 |[],_,⟨h,_⟩=>by rw[<-h];simp
 |r::rows,cells,⟨b,a⟩=>by
  have c:=RE (sz:=sz) (rows:=rows) (cells:=rows.flatten) ⟨Y,λr hr=>a r (List.mem_cons_of_mem _ hr)⟩;rw[<-b,List.flatten_cons,List.length_append,c,a r η,List.length_cons,Nat.add_mul];omega
theorem mQ(b o n:Nat):(⟨b,o,none⟩:Addr).add n=⟨b,o+n,none⟩:=by
 unfold Addr.add;split
 ·subst_vars;rfl
 rfl
theorem xq{P:Program}{T:TypeId}{n:Nat}[vI P T n]{w:World}{b o:Nat}{vs:List Value}(D:vs.length=n)(H:∀(j:Nat) (v:Value),vs[j]? =some v->w.cell? ⟨b,o+j,none⟩=some v):
  (loadVar T ⟨b,o,none⟩).run P w=.ok (.agg ⟨vs⟩) w:=by
 have a:=run_loadCells_list (P:=P) (w:=w) ⟨b,o,none⟩ vs (λj v e=>by rw[mQ];exact H j v e);rw[D]at a;simp[loadVar,vI.isAgg,vI.size (T:=T) (n:=n),a]
theorem RF{M:Mem}{b:Nat}:∀(l:List SV) (o:Nat),(∀(k:Nat) (s:SV),l[k]? =some s->∃y,M b (o+k)=some y/\y.oneCell'=true/\s.h M y)->∃vs:List Value,SV.jN M l vs/\∀(k:Nat) (v:Value),vs[k]? =some v->M b (o+k)=some v/\v.oneCell'=true
 |[],_,_=>⟨[],an,by simp⟩
 |s::l,o,hl=>by
  obtain⟨y,f,c,e⟩:=hl 0 s Y;obtain⟨vs,g,d⟩:=RF (M:=M) (b:=b) l (o+1) (λk s a=>by
   have:=hl (k+1) s (by simpa using a);rwa[show o+(k+1)=o+1+k by omega]at this)
  refine⟨y::vs,⟨e,g⟩,λk v a=>?_⟩;cases k with
  |zero=>simp at a;subst a;exact⟨f,c⟩
  |succ k=>rw[show o+(k+1)=o+1+k by omega];exact d k v (by simpa using a)
class oh (P:Program) (E:TypeId) (n:outParam Nat) (by_:outParam Nat) (z:outParam Value):Prop where
 h:(P.info? E).map (λi=>(i.size,i.bytes,i.zero))=some (n,by_,some z):=by kernel_rfl
 z:z.cells.size=n:=by rfl
 p:0<n:=by decide
 b:by_<=1048576:=by decide
theorem oh.info{P:Program}{E:TypeId}{n by_:Nat}{z:Value}[t:oh P E n by_ z]:∃i,P.info? E=some i/\i.size=n/\i.bytes=by_/\i.zero=some z:=by
 have h:=t.h;cases a:P.info? E with
 |none=>rw[a]at h;cases h
 |some i=>
  rw[a]at h;simp only[Option.map_some,Option.some.injEq,Prod.mk.injEq]at h;exact⟨i,Y,h.1,h.2.1,h.2.2⟩
theorem RG{M:Mem}{b sz:Nat}:∀(rows:List (List SV)) (o:Nat),(∀(i:Nat) (a:List SV),rows[i]? =some a->a.length=sz/\∀(k:Nat) (s:SV),a[k]? =some s->∃y,M b (o+i*sz+k)=some y/\y.oneCell'=true/\s.h M y)->
  ∃vs:List Value,SV.jN M rows.flatten vs/\vs.length=rows.length*sz/\(∀u∈vs,u.oneCell'=true)/\∀(k:Nat) (v:Value),vs[k]? =some v->M b (o+k)=some v
 |[],_,_=>⟨[],an,by simp,by simp,by simp⟩
 |a::rows,o,h=>by
  obtain⟨m,t⟩:=h 0 a Y;have j:∀(l:List SV) (o:Nat),(∀(k:Nat) (s:SV),l[k]? =some s->∃y,M b (o+k)=some y/\y.oneCell'=true/\s.h M y)->∃vs:List Value,SV.jN M l vs/\(∀u∈vs,u.oneCell'=true)/\∀(k:Nat) (v:Value),vs[k]? =some v->M b (o+k)=some v:=by
   intro l
   induction l with
   |nil=>intro o _;exact⟨[],an,by simp,by simp⟩
   |cons s l c=>
    intro o hl;obtain⟨y,p,n,q⟩:=hl 0 s Y;obtain⟨vs,e,g,f⟩:=c (o+1) (λk s c=>by
     have:=hl (k+1) s (by simpa using c);rwa[show o+(k+1)=o+1+k by omega]at this)
    refine⟨y::vs,⟨q,e⟩,λu d=>?_,λk v c=>?_⟩
    ·rcases List.mem_cons.1 d with rfl|d
     ·exact n
     exact g u d
    cases k with
    |zero=>simp at c;subst c;exact p
    |succ k=>rw[show o+(k+1)=o+1+k by omega];exact f k v (by simpa using c)
  obtain⟨us,e,g,f⟩:=j a o (λk s c=>by have:=t k s c;simpa using this);obtain⟨vs,p,j,a,n⟩:=RG (M:=M) (b:=b) (sz:=sz) rows (o+sz) (λi r hr=>by
   have:=h (i+1) r (by simpa using hr);rwa[show o+(i+1)*sz=o+sz+i*sz by rw[Nat.add_mul];omega]at this)
  have hl:=e.length;refine⟨us++vs,?_,?_,λu d=>?_,λk v c=>?_⟩
  ·rw[List.flatten_cons];exact SV.jN.append e p
  ·rw[List.length_append,j,<-hl,m,List.length_cons,Nat.add_mul];omega
  ·rcases List.mem_append.1 d with d|d
   ·exact g u d
   exact a u d
  rw[List.getElem?_append]at c;split at c
  ·exact f k v c
  have:=n _ v c;rwa[show o+sz+(k-us.length)=o+k by omega]at this
theorem aeU{sz:Nat}{rows:List (List SV)}{M:Mem}{v:Value}(h:(slc sz rows).h M v):∃a c,v=.slice a rows.length c/\rows.length<=c/\∀d f,d<=f->f<=rows.length->(slc sz (cut rows d f)).h M (.slice (if c=d then a else a.map (·.add (d*sz))) (f-d) (c-d)):=by
 rcases h with⟨a,rfl,rfl⟩|⟨b,o,c,rfl,l,g,hr⟩
 ·refine⟨a,0,Y,Nat.le_refl _,λd f j g=>.inl ⟨a,?_,by simp[cut]⟩⟩;simp at g;have:d=0:=by omega
  subst this;subst g;simp
 refine⟨some ⟨b,o,none⟩,c,Y,l,λd f j g=>?_⟩;have hl:(cut rows d f).length=f-d:=by simp[cut];omega
 by_cases e:c=d
 ·have:f-d=0:=by omega
  rw[if_pos e];refine .inr ⟨b,o,c-d,by rw[hl],by omega,by omega,λi g f=>?_⟩;have:=(List.getElem?_eq_some_iff.1 f).1;omega
 rw[if_neg e];refine .inr ⟨b,o+d*sz,c-d,by rw[hl];simp[mQ],by omega,by omega,λi g f=>?_⟩;have l:rows[d+i]? =some g:=by
  simp only[cut,List.getElem?_take,List.getElem?_drop]at f;split at f
  ·exact f
  cases f
 obtain⟨f,j⟩:=hr _ g l;refine⟨f,λk s g=>?_⟩;have:=j k s g;rwa[show o+(d+i)*sz+k=o+d*sz+i*sz+k by rw[Nat.add_mul];omega]at this
theorem aeV{α β:Type}(l:List α)(f:α->β)(H D:Nat):cut (l.map f) H D=(cut l H D).map f:=by simp[cut,List.map_take,List.map_drop]
abbrev eU8(x:Nat):List SV:=[.v (.int .u8 (x:Nat))]
abbrev bf(x:Nat):List SV:=[.v (.int .u32 (x:Nat))]
abbrev anR(x:Int):List SV:=[.v (.int .i16 x)]
abbrev bh(x:Int):List SV:=[.v (.int .i64 x)]
abbrev eB(x:Bool):List SV:=[.v (.bool x)]
abbrev eS{α:Type}(n:Nat)(e:α->List SV)(l:List α):List SV:=[slc n (l.map e)]
structure Zr where
 neg:Bool
 w:List Nat
structure Qr where
 num:Zr
 den:Zr
abbrev eZ(z:Zr):List SV:=[.v (.bool z.neg),slc 1 (z.w.map bf)]
abbrev eQ(q:Qr):List SV:=[.v (.bool q.num.neg),slc 1 (q.num.w.map bf),.v (.bool q.den.neg),slc 1 (q.den.w.map bf)]
class EL {α:Type} (e:α->List SV) (n:outParam Nat):Prop where
 len:∀x,(e x).length=n
 one:∀x,RC (e x)
instance:EL bf 1:=⟨λ_=>rfl,λ_=>inferInstance⟩
instance:EL bh 1:=⟨λ_=>rfl,λ_=>inferInstance⟩
instance:EL eB 1:=⟨λ_=>rfl,λ_=>inferInstance⟩
instance{α:Type}{n:Nat}{e:α->List SV}:EL (eS n e) 1:=⟨λ_=>rfl,λ_=>inferInstance⟩
instance:EL eQ 4:=⟨λ_=>rfl,λ_=>inferInstance⟩
structure Lr where
 vars:Int
 ik:List (List Qr)
 rows:List (List Qr)
 bounds:List Qr
abbrev TY(x:Lr):List SV:=[.v (.int .i64 x.vars),slc 1 (x.ik.map (eS 4 eQ)),slc 1 (x.rows.map (eS 4 eQ)),slc 4 (x.bounds.map eQ)]
structure Sz where
 vars:Int
 ik:Int
 rows:Int
 bounds:Int
abbrev eSz(x:Sz):List SV:=[.v (.int .i64 x.vars),.v (.int .i64 x.ik),.v (.int .i64 x.rows),.v (.int .i64 x.bounds)]
abbrev TR(E:TypeId)(sz:Nat){α:Type}(e:α->List SV)(l:List α):Ob:=.row E sz l.length (l.flatMap e)
abbrev TM(E F:TypeId)(sz:Nat){α:Type}(e:α->List SV)(ll:List (List α))(f:List (Nat×Nat))(D:Bool):Ob:=.vF E F sz (ll.map λl=>(l.length,l.flatMap e)) f D
theorem aA{α:Type}{n:Nat}{e:α->List SV}:SV.imp (.v (.slice none 0 0)) (slc n (([]:List α).map e)):=λ_ _ h=>.inl ⟨none,h,Y⟩
theorem Kq{α:Type}(e:α->List SV)(l:List α):(l.map e).flatten=l.flatMap e:=by rw[List.flatMap_def]
theorem Zv{α:Type}{e:α->List SV}{n:Nat}[h:EL e n](l:List α):Rows n (l.map e) (l.flatMap e):=⟨Kq e l,λr hr=>by obtain⟨x,_,rfl⟩:=List.mem_map.1 hr;exact h.len x⟩
theorem NY{M:Mem}:∀{l k:List SV} {vs:List Value},SV.jN M (l++k) vs->∃us a,vs=us++a/\SV.jN M l us/\SV.jN M k a
 |[],_,vs,h=>⟨[],vs,Y,an,h⟩
 |_::_,_,[],h=>h.elim
 |_::l,_,v::vs,h=>by
  obtain⟨us,a,rfl,c,b⟩:=NY (l:=l) h.2;exact⟨v::us,a,Y,⟨h.1,c⟩,b⟩
theorem CT{α:Type}{e:α->List SV}{n:Nat}[h:EL e n](l:List α):∀M vs,SV.jN M (l.flatMap e) vs->∀v∈vs,v.oneCell'=true:=by
 intro M
 induction l with
 |nil=>intro vs a;cases vs with|nil=>simp|cons _ _=>exact a.elim
 |cons x l f=>
  intro vs a;rw[List.flatMap_cons]at a;obtain⟨us,c,rfl,d,b⟩:=NY a;intro v a;rcases List.mem_append.1 a with a|a
  ·exact(h.one x).h M us d v a
  exact f c b v a
theorem RH{α:Type}{e:α->List SV}{n:Nat}[h:EL e n]:∀{l:List α} {k:Nat} {a:α},l[k]? =some a->((l.flatMap e).drop (k*n)).take n=e a
 |[],_,_,b=>by simp at b
 |x::l,0,a,b=>by
  simp only[List.getElem?_cons_zero,Option.some.injEq]at b;subst b;rw[List.flatMap_cons,Nat.zero_mul,List.drop_zero,<-h.len x,List.take_left'];rfl
 |x::l,k+1,a,b=>by
  rw[List.getElem?_cons_succ]at b;rw[List.flatMap_cons,show(k+1)*n=(e x).length+k*n by rw[h.len,Nat.add_mul];omega,<-List.drop_drop,List.drop_left']
  ·exact RH b
  rfl
theorem RI{α:Type}{e:α->List SV}{n:Nat}[h:EL e n]{y:α}:∀{l:List α} {k:Nat},k<l.length->pq (l.flatMap e) (k*n) (e y)=(l.set k y).flatMap e:=by
 have f:∀(u:List SV) (a b:List SV) (j:Nat),j+u.length<=a.length->pq (a++b) j u=pq a j u++b:=by
  intro u
  induction u with
  |nil=>intro a b j _;rfl
  |cons s u c=>
   intro a b j hj;simp only[List.length_cons]at hj;simp only[pq];rw[List.set_append_left _ _ ω,c _ _ _ (by rw[List.length_set];omega)]
 have g:∀(u:List SV) (a b:List SV) (j:Nat),pq (a++b) (a.length+j) u=a++pq b j u:=by
  intro u
  induction u with
  |nil=>intro a b j;rfl
  |cons s u c=>
   intro a b j;simp only[pq];rw[List.set_append_right _ _ ω,show a.length+j-a.length=j by omega,show a.length+j+1=a.length+(j+1) by omega,c]
 have i:∀(u a:List SV),u.length=a.length->pq a 0 u=u:=by
  have m:∀(u a p:List SV),u.length=a.length->pq (p++a) p.length u=p++u:=by
   intro u
   induction u with
   |nil=>intro a p d;have:a=[]:=List.eq_nil_of_length_eq_zero d.symm;subst this;rfl
   |cons s u c=>
    intro a p d;cases a with
    |nil=>cases d
    |cons t a=>
     simp only[pq];rw[List.set_append_right _ _ (Nat.le_refl _),Nat.sub_self,List.set_cons_zero,show p++s::a=(p++[s])++a by simp,show p.length+1=(p++[s]).length by simp,c a _ (by simpa using d)];simp
  intro u a d;exact m u a [] d
 intro l
 induction l with
 |nil=>intro k d;simp at d
 |cons x l c=>
  intro k d;cases k with
  |zero=>
   rw[List.set_cons_zero,List.flatMap_cons,List.flatMap_cons,Nat.zero_mul,f _ _ _ _ (by rw[h.len,h.len];omega),i _ _ (by rw[h.len,h.len])]
  |succ k=>
   simp only[List.length_cons]at d;rw[List.set_cons_succ,List.flatMap_cons,List.flatMap_cons,show(k+1)*n=(e x).length+k*n by rw[h.len,Nat.add_mul];omega,g,c ω]
structure Sp where
 kS:Int
 dm:Int
abbrev iq(x:Sp):List SV:=[.v (.int .i64 x.kS),.v (.int .i64 x.dm)]
instance:EL iq 2:=⟨λ_=>rfl,λ_=>inferInstance⟩
structure sI where
 uH:Int
 low:Int
 steps:List Sp
 up:Int
 down:Int
 start:Int
 idle:Int
 Zw:Int
 on:Int
abbrev gK(x:sI):List SV:=[.v (.int .i64 x.uH),.v (.int .i64 x.low),slc 2 (x.steps.map iq),.v (.int .i64 x.up),.v (.int .i64 x.down),.v (.int .i64 x.start),.v (.int .i64 x.idle),.v (.int .i64 x.Zw),.v (.int .i64 x.on)]
instance:EL gK 9:=⟨λ_=>rfl,λ_=>inferInstance⟩
structure Bd where
 uH:Int
 steps:List Sp
abbrev rJ(x:Bd):List SV:=[.v (.int .i64 x.uH),slc 2 (x.steps.map iq)]
instance:EL rJ 2:=⟨λ_=>rfl,λ_=>inferInstance⟩
structure Ln where
 a:Int
 b:Int
 x:Int
 cap:Int
abbrev nT(x:Ln):List SV:=[.v (.int .i64 x.a),.v (.int .i64 x.b),.v (.int .i64 x.x),.v (.int .i64 x.cap)]
instance:EL nT 4:=⟨λ_=>rfl,λ_=>inferInstance⟩
structure Nt where
 dA:Int
 lines:List Ln
abbrev Dn(x:Nt):List SV:=[.v (.int .i64 x.dA),slc 4 (x.lines.map nT)]
structure Hr where
 uT:Nt
 out:List Int
 units:List sI
 on:List Bool
 zO:List Bd
abbrev eHr(x:Hr):List SV:=[.v (.int .i64 x.uT.dA),slc 4 (x.uT.lines.map nT),slc 1 (x.out.map bh),slc 9 (x.units.map gK),slc 1 (x.on.map eB),slc 2 (x.zO.map rJ)]
structure Ck where
 f:Nat
abbrev eCk(x:Ck):List SV:=[.v (.func (.func x.f) #[] #[])]
structure Co where
 X0:Bool
 which:Int
 step:Int
abbrev Wg(x:Co):List SV:=[.v (.bool x.X0),.v (.int .i64 x.which),.v (.int .i64 x.step)]
instance:EL Wg 3:=⟨λ_=>rfl,λ_=>inferInstance⟩
structure Va where
 col:Co
 uH:Int
 step:Sp
 sign:Int
abbrev AP(x:Va):List SV:=[.v (.bool x.col.X0),.v (.int .i64 x.col.which),.v (.int .i64 x.col.step),.v (.int .i64 x.uH),.v (.int .i64 x.step.kS),.v (.int .i64 x.step.dm),.v (.int .i64 x.sign)]
instance:EL AP 7:=⟨λ_=>rfl,λ_=>inferInstance⟩
structure Dh where
 gen:List (List Qr)
 take:List (List Qr)
 inj:List Qr
 ID:List Qr
 nU:List Qr
 lines:List Qr
 qA:List Qr
 vg:Qr
 gz:Qr
abbrev eDh(x:Dh):List SV:=[slc 1 (x.gen.map (eS 4 eQ)),slc 1 (x.take.map (eS 4 eQ)),slc 4 (x.inj.map eQ),slc 4 (x.ID.map eQ),slc 4 (x.nU.map eQ),slc 4 (x.lines.map eQ),slc 4 (x.qA.map eQ),.v (.bool x.vg.num.neg),slc 1 (x.vg.num.w.map bf),.v (.bool x.vg.den.neg),slc 1 (x.vg.den.w.map bf),.v (.bool x.gz.num.neg),slc 1 (x.gz.num.w.map bf),.v (.bool x.gz.den.neg),slc 1 (x.gz.den.w.map bf)]
structure Gr where
 uT:Nt
 out:List Int
 nU:List Int
 count:Int
 zP:List (List Qr)
abbrev eGr(x:Gr):List SV:=[.v (.int .i64 x.uT.dA),slc 4 (x.uT.lines.map nT),slc 1 (x.out.map bh),slc 1 (x.nU.map bh),.v (.int .i64 x.count),slc 1 (x.zP.map (eS 4 eQ))]
structure Pc where
 X1:Gr
 anS:List Qr
abbrev ePc(x:Pc):List SV:=[.v (.int .i64 x.X1.uT.dA),slc 4 (x.X1.uT.lines.map nT),slc 1 (x.X1.out.map bh),slc 1 (x.X1.nU.map bh),.v (.int .i64 x.X1.count),slc 1 (x.X1.zP.map (eS 4 eQ)),slc 4 (x.anS.map eQ)]
structure zI where
 dm:Int
 kS:Int
 parts:List Int
abbrev iJ(x:zI):List SV:=[.v (.int .i64 x.dm),.v (.int .i64 x.kS),slc 1 (x.parts.map bh)]
instance:EL iJ 3:=⟨λ_=>rfl,λ_=>inferInstance⟩
structure Cr where
 kS:Int
 dm:Int
 Wh:Int
 Zx:List Int
 ajz:List Int
abbrev eCr(x:Cr):List SV:=[.v (.int .i64 x.kS),.v (.int .i64 x.dm),.v (.int .i64 x.Wh),slc 1 (x.Zx.map bh),slc 1 (x.ajz.map bh)]
structure Rs where
 kind:Nat
 x:List Qr
 y:List (List Qr)
 ray:List Qr
 ajA:List Qr
 cg:Int
abbrev Zy(x:Rs):List SV:=[.v (.int .u8 ((x.kind:Nat):Int)),slc 4 (x.x.map eQ),slc 1 (x.y.map (eS 4 eQ)),slc 4 (x.ray.map eQ),slc 4 (x.ajA.map eQ),.v (.int .i64 x.cg)]
structure xb where
 vs:List Va
 lp:Lr
structure Dp where
 vars:Int
 basic:List Int
 free:List Int
 rows:List (List Qr)
 bS:List Qr
abbrev GV(x:Dp):List SV:=[.v (.int .i64 x.vars),slc 1 (x.basic.map bh),slc 1 (x.free.map bh),slc 1 (x.rows.map (eS 4 eQ)),slc 4 (x.bS.map eQ)]
structure Dx where
 vars:Int
 basic:List Int
 free:List Int
 rows:List (List Qr)
 bS:List (List Qr)
 cg:Int
 row:Int
 col:Int
abbrev pM(x:Dx):List SV:=[.v (.int .i64 x.vars),slc 1 (x.basic.map bh),slc 1 (x.free.map bh),slc 1 (x.rows.map (eS 4 eQ)),slc 1 (x.bS.map (eS 4 eQ)),.v (.int .i64 x.cg),.v (.int .i64 x.row),.v (.int .i64 x.col)]
section lits
variable {P:Program}{C:Ctx}{S:AS}{gd:Option (Nat×Bool)}{d:Nat}{ty:TypeId}{pos:String}{aft:Array Edge}{T E0:TypeId}
inductive Bv (S:AS):List (Nat×Operand)->List (Nat×List SV)->Prop
 |nil:Bv S [] []
 |agg {i:Nat} {x:Operand} {l:List SV} {ps:List (Nat×Operand)} {qs:List (Nat×List SV)} [o:RC l] (h:S.ev x=.sv (.agg l)) (t:Bv S ps qs):Bv S ((i,x)::ps) ((i,l)::qs)
 |one {i:Nat} {x:Operand} {s:SV} {ps:List (Nat×Operand)} {qs:List (Nat×List SV)} [o:One s] (h:S.ev x=.sv s) (t:Bv S ps qs):Bv S ((i,x)::ps) ((i,[s])::qs)
def Dq(D:Nat->Option (Nat×Nat))(cells:List SV):List (Nat×List SV)->Option (List SV)
 |[]=>some cells
 |(i,v)::a=>match D i with
  |none=>none
  |some (off,size)=>bif Nat.beq v.length size&&Nat.ble (off+v.length) cells.length then Dq D (pq cells off v) a else none
def yI(D:List (Nat×Operand)):List Nat:=D.flatMap λp=>bD p.2
theorem RJ:∀(us:List Value) (cs:Array Value) (off k:Nat),(us.zipIdx k).foldl (λcs (p:Value×Nat)=>cs.setIfInBounds (off+p.2) p.1) cs=⟨pq cs.toList (off+k) us⟩
 |[],cs,off,k=>by simp[pq]
 |u::us,cs,off,k=>by
  rw[List.zipIdx_cons,List.foldl_cons,RJ us,pq];simp[Nat.add_assoc]
theorem Kr{M:Mem}:∀{xs:List SV} {us:List Value} {l:List SV} {vs:List Value} {k:Nat},SV.jN M l vs->SV.jN M xs us->SV.jN M (pq l k xs) (pq vs k us):=by
 have set:∀{l:List SV} {xs:List Value} {i:Nat} {s:SV} {x:Value},SV.jN M l xs->s.h M x->SV.jN M (l.set i s) (xs.set i x):=by
  intro l
  induction l with
  |nil=>intro xs i s x h a;cases xs with|nil=>exact h|cons _ _=>exact h.elim
  |cons t l b=>
   intro xs i s x h a;cases xs with
   |nil=>exact h.elim
   |cons u xs=>
    cases i with
    |zero=>exact⟨a,h.2⟩
    |succ i=>exact⟨h.1,b h.2 a⟩
 intro xs
 induction xs with
 |nil=>intro us l vs k h a;cases us with|nil=>exact h|cons _ _=>exact a.elim
 |cons s xs b=>
  intro us l vs k h a;cases us with
  |nil=>exact a.elim
  |cons u us=>rw[pq,pq];exact b (set h a.1) a.2
theorem RK{E:Env}{a:Act}{w:World}{S':AS}(h:bw C S' E a w)(D:Nat->Option (Nat×Nat)):∀{m:List (Nat×Operand)} {qs:List (Nat×List SV)},Bv S m qs->(∀s∈yI m,S'.t s=S.t s)->∀{cells:List SV} {vs:List Value} {cs:List SV},
  SV.jN E.M cells vs->(∀v∈vs,v.oneCell'=true)->Dq D cells qs=some cs->∃us:List Value,Instr.fill D ⟨vs⟩ (m.map λp=>(p.1,a.eval p.2))=some ⟨us⟩/\SV.jN E.M cs us/\(∀v∈us,v.oneCell'=true):=by
 intro m qs hp
 induction hp with
 |nil=>intro _ cells vs cs n g b;cases b;exact⟨vs,rfl,n,g⟩
 | @agg i x l m qs o j _ y=>
  intro ht cells vs cs n g b;have c:=h.ev x;rw[tR (rs:=yI ((i,x)::m)) (λs r=>by simp only[yI,List.flatMap_cons];exact List.mem_append_left _ r) ht,j]at c;obtain⟨us,d,u⟩:=c;have hl:=u.length;have K:=n.length;rw[Dq]at b;rw[List.map_cons,Instr.fill];simp only[d];cases f:D i with
  |none=>rw[f]at b;cases b
  |some q=>
   obtain⟨off,size⟩:=q;rw[f]at b;simp only at b⊢;cases d:(Nat.beq l.length size&&Nat.ble (off+l.length) cells.length)with
   |false=>rw[d]at b;cases b
   |true=>
    rw[d]at b;simp only[cond_true]at b;rw[Bool.and_eq_true]at d;have N:=Nat.eq_of_beq_eq_true d.1;have L:=af d.2;have F:((Value.agg ⟨us⟩).cells.size≠size||off+(Value.agg ⟨us⟩).cells.size>(⟨vs⟩:Array Value).size)=false:=by
     simp[Value.cells];omega
    rw[if_neg (by rw[F];simp)];have e:(Value.agg ⟨us⟩).cells.zipIdx.foldl (λ(cs:Array Value) (p:Value×Nat)=>cs.setIfInBounds (off+p.2) p.1) (⟨vs⟩:Array Value)=(⟨pq vs off us⟩:Array Value):=by
     have:=RJ us ⟨vs⟩ off 0;rw[<-Array.foldl_toList];simpa[Value.cells]using this
    have A:∀v∈pq vs off us,v.oneCell'=true:=by
     have G:∀(xs l:List Value) (k:Nat) (x:Value),x∈pq l k xs->x∈l\/x∈xs:=by
      intro xs
      induction xs with
      |nil=>intro l k x j;exact .inl j
      |cons z xs y=>
       intro l k x j;rw[pq]at j;rcases y _ _ _ j with g|g
       ·rcases List.mem_or_eq_of_mem_set g with e|e
        ·exact .inl e
        exact .inr (by simp[e])
       exact .inr (List.mem_cons_of_mem _ g)
     intro v B;rcases G _ _ _ _ B with e|e
     ·exact g v e
     exact o.h _ _ u v e
    obtain⟨J,G,I,H⟩:=y (λs r=>ht s (by simp only[yI,List.flatMap_cons];exact List.mem_append_right _ r)) (Kr n u) A b;refine⟨J,?_,I,H⟩;rw[<-G];congr 1
 | @one i x s m qs o j _ y=>
  intro ht cells vs cs n g b;have c:=h.ev x;rw[tR (rs:=yI ((i,x)::m)) (λs r=>by simp only[yI,List.flatMap_cons];exact List.mem_append_left _ r) ht,j]at c;have j:=o.h _ _ c;have K:=n.length;rw[Dq]at b;rw[List.map_cons,Instr.fill];simp only[je j];cases f:D i with
  |none=>rw[f]at b;cases b
  |some q=>
   obtain⟨off,size⟩:=q;rw[f]at b;simp only at b⊢;cases d:(Nat.beq [s].length size&&Nat.ble (off+[s].length) cells.length)with
   |false=>rw[d]at b;cases b
   |true=>
    rw[d]at b;simp only[cond_true]at b;rw[Bool.and_eq_true]at d;have N:=Nat.eq_of_beq_eq_true d.1;have L:=af d.2;simp only[List.length_cons,List.length_nil]at N L;have F:((#[a.eval x]:Array Value).size≠size||off+(#[a.eval x]:Array Value).size>(⟨vs⟩:Array Value).size)=false:=by
     simp;omega
    rw[if_neg (by rw[F];simp)];obtain⟨J,G,I,H⟩:=y (λs r=>ht s (by simp only[yI,List.flatMap_cons];exact List.mem_append_right _ r)) (Kr (xs:=[s]) (us:=[a.eval x]) n ⟨c,an⟩) (λv B=>by
     rw[pq,pq]at B;rcases List.mem_or_eq_of_mem_set B with e|e
     ·exact g v e
     rw[e];exact j) b
    refine⟨J,?_,I,H⟩;rw[<-G];congr 1;simp[pq]
class dx (P:Program) (T:TypeId) (pl:outParam (List (Nat×Nat))) (z:outParam (List Value)):Prop where
 h:(match P.underlying T with|some (.struct fs)=>fs.toList.mapM (λf=>(P.info? f.type).map λi=>(f.offset,i.size))|_=>none)=some pl:=by kernel_rfl
 hz:(P.info? T).bind (·.zero)=some (.agg ⟨z⟩):=by kernel_rfl
 o:z.all (λv=>v.oneCell')=true:=by rfl
theorem Bw{D:List Field}{H:List (Nat×Nat)}{w:World}(h:D.mapM (λf=>(P.info? f.type).map λi=>(f.offset,i.size))=some H):
  (D.mapM (λf=>do pure (f.offset,<-sizeOf f.type):Field->Sem (Nat×Nat))).run P w=.ok H w:=by
 induction D generalizing H with
 |nil=>simp at h;subst h;rfl
 |cons f D c=>
  rw[List.mapM_cons]at h⊢;cases a:P.info? f.type with
  |none=>rw[a]at h;simp at h
  |some i=>
   rw[a]at h;cases hr:D.mapM (λf=>(P.info? f.type).map λi=>(f.offset,i.size))with
   |none=>rw[hr]at h;simp at h
   |some b=>
    rw[hr]at h;simp at h;have b:(sizeOf f.type).run P w=.ok i.size w:=by simp[sizeOf,typeInfo,a]
    simp only[Sem.run_bind,b,Result.andThen_ok,Sem.run_pure,c hr];rw[<-h]
def Mem.add(M:Mem)(g:Nat)(vs:List Value):Mem:=λb o=>if b=g then vs[o]? else M b o
theorem bw.ajB{E:Env}{a:Act}{w:World}(h:bw C S E a w)(vs:List Value)(T:TypeId)(D:∀v∈vs,v.oneCell'=true):bw C S {E with M:=E.M.add w.heap.size vs} a (w.alloc (.cells ⟨vs⟩ T)):=by
 have c:∀o,E.M w.heap.size o=none:=λo=>by
  cases e:E.M w.heap.size o with
  |none=>rfl
  |some v=>have:=qw h.kf e;omega
 refine h.grow (λb o v e=>?_) (λb o v e=>?_) (λb o v e=>?_) (((Below.refl _ _).alloc (Nat.le_refl _) _))
 ·have:b≠w.heap.size:=by rintro rfl;rw[c o]at e;cases e
  simp[Mem.add,this,e]
 ·by_cases c:b=w.heap.size
  ·exact .inr ω
  simp only[Mem.add,if_neg c]at e;exact .inl e
 by_cases c:b=w.heap.size
 ·subst c;simp only[Mem.add,if_true]at e;refine .of ?_ (D v (List.mem_of_getElem? e));rw[World.cell?_alloc_new];simpa using e
 simp only[Mem.add,if_neg c]at e;refine(h.kf b o v e).same ?_;show(w.heap.push _)[b]? =_;rw[Array.getElem?_push,if_neg c]
def GW:Nat->List (Nat×List SV)->Bool
 |_,[]=>true
 |k,(i,_)::l=>Nat.beq i k&&GW (k+1) l
theorem IE{sz:Nat}:∀(qs:List (Nat×List SV)) (pre zs:List SV) (k:Nat),GW k qs=true->(∀q∈qs,q.2.length=sz)->pre.length=k*sz->zs.length=qs.length*sz->
  Dq (λi=>some (i*sz,sz)) (pre++zs) qs=some (pre++(qs.map (·.2)).flatten)
 |[],pre,zs,k,_,_,_,c=>by
  have:zs=[]:=List.length_eq_zero_iff.1 (by simpa using c);simp[Dq,this]
 |(i,v)::qs,pre,zs,k,b,hl,hp,c=>by
  simp only[GW,Bool.and_eq_true]at b;have a:=Nat.eq_of_beq_eq_true b.1;subst a;have a:=hl (i,v) η;simp only at a;have d:zs.length=qs.length*sz+sz:=by rw[c,List.length_cons,Nat.add_mul];omega
  rw[Dq];simp only;have c:(Nat.beq v.length sz&&Nat.ble (i*sz+v.length) (pre++zs).length)=true:=by
   rw[Bool.and_eq_true];refine⟨by rw[a];simp,?_⟩;rw[List.length_append,hp,a];exact Nat.ble_eq_true_of_le ω
  rw[c,cond_true];have f:pq (pre++zs) (i*sz) v=(pre++v)++zs.drop sz:=by
   have e:pre++zs=pre++(zs.take sz++zs.drop sz):=by rw[List.take_append_drop]
   have c:∀(xs pre l post:List SV),l.length=xs.length->pq (pre++(l++post)) pre.length xs=pre++(xs++post):=by
    intro xs
    induction xs with
    |nil=>intro pre l post h;simp at h;subst h;rfl
    |cons x xs d=>
     intro pre l post h;cases l with
     |nil=>simp at h
     |cons y l=>
      rw[pq];have:(pre++(y::l++post)).set pre.length x=(pre++[x])++(l++post):=by simp
      rw[this,show pre.length+1=(pre++[x]).length by simp,d (pre++[x]) l post (by simpa using h)];simp
   rw[e,<-hp,c v pre (zs.take sz) (zs.drop sz) (by rw[a];simp;omega)];simp
  rw[f,IE qs (pre++v) (zs.drop sz) (i+1) b.2 (λq b=>hl q (List.mem_cons_of_mem _ b)) (by rw[List.length_append,hp,a,Nat.add_mul];omega) θ];simp
theorem vJ{E:Env}{a:Act}{w:World}{S':AS}(h:bw C S' E a w){n by_:Nat}{zv:Value}[H:ku P T E0 n][D:oh P E0 n by_ zv]{len:Nat}{parts:Array (Nat×Operand)}{qs:List (Nat×List SV)}(hp:Bv S parts.toList qs)(ht:∀s∈yI parts.toList,S'.t s=S.t s)
  (hc:GW 0 qs=true) (hl:qs.length=len) (hsz:(qs.all λq=>Nat.beq q.2.length n)=true) (hlen:len*n<=16777216) (hz1:∀v∈zv.cells.toList,v.oneCell'=true):
  ∃vs:List Value,(execOp a.eval ⟨some d,.buildSlice T len parts,ty,pos,aft,gd⟩).run P w=.ok (.value (.slice (some ⟨w.heap.size,0,none⟩) len len)) (w.alloc (.cells ⟨vs⟩ E0))/\SV.jN E.M (qs.map (·.2)).flatten vs/\(∀v∈vs,v.oneCell'=true):=by
 obtain⟨info,f,b,g,c⟩:=oh.info (P:=P) (E:=E0) (n:=n) (by_:=by_) (z:=zv);have g:(zeroValue E0).run P w=.ok zv w:=by simp[zeroValue,typeInfo,f,c]
 have o:=H.size w;have r:∀q∈qs,q.2.length=n:=λq r=>Nat.eq_of_beq_eq_true (List.all_eq_true.1 hsz q r);have y:¬(len*n>2^24):=by omega
 let b:Array Value:=if len*n=0 then #[]else zv.cells
 have c:((if len*n=0 then pure #[]else do pure (<-zeroValue E0).cells):Sem (Array Value)).run P w=.ok b w:=by
  by_cases e:len*n=0
  ·simp[b,e]
  simp[b,e,g]
 let c:List Value:=((Array.range (len*n)).map (b[· %b.size]!)).toList
 have A:c.length=len*n:=by simp[c]
 have m:∀v∈c,v.oneCell'=true:=by
  intro v f;simp only[c,Array.toList_map,List.mem_map,Array.mem_toList_iff,Array.mem_range]at f;obtain⟨k,j,rfl⟩:=f;have j:len*n≠0:=by omega
  have f:b=zv.cells:=by simp[b,j]
  rw[f];have j:=D.z;have f:k%zv.cells.size<zv.cells.size:=Nat.mod_lt _ (by rw[j];exact D.p);rw[getElem!_pos zv.cells _ f];exact hz1 _ (Array.getElem_mem_toList f)
 have j:SV.jN E.M (c.map SV.v) c:=by
  have:∀l:List Value,SV.jN E.M (l.map SV.v) l:=by
   intro l;induction l with
   |nil=>trivial
   |cons v l f=>exact⟨Y,f⟩
  exact this c
 have f:=IE (sz:=n) qs [] (c.map SV.v) 0 hc r η (by simp[A,hl]);simp only[List.nil_append]at f;obtain⟨us,r,A,c⟩:=RK h (λi=>some (i*n,n)) hp ht j m f;refine⟨us,?_,A,c⟩;have j:(Array.map (λx=>match x with|(i,x)=>(i,a.eval x)) parts).toList=parts.toList.map λp=>(p.1,a.eval p.2):=by simp
 simp only[execOp,Instr.buildSlice,underlying];simp only[Sem.run_bind,run_program,Result.andThen_ok,H.u,Sem.run_pure,o,if_neg y];have c:Instr.fill (λi=>some (i*n,n)) (Array.map (λx=>b[x%b.size]!) (Array.range (len*n))) (parts.toList.map λp=>(p.1,a.eval p.2))=some ⟨us⟩:=r;by_cases e:len*n=0
 ·have f:b=#[]:=by simp[b,e]
  rw[f]at c;simp only[if_pos e,j,Sem.run_bind,Sem.run_pure,Result.andThen_ok,c,newRow,run_newObj];rfl
 have f:b=zv.cells:=by simp[b,e]
 rw[f]at c;simp only[if_neg e,j,Sem.run_bind,Sem.run_pure,Result.andThen_ok,g,c,newRow,run_newObj];rfl
end lits
end
section
open Go.RowKit
section steps
variable {P:Program}{C:Ctx}{ops:Array Oper}{S:AS}{nd:Bool}{K:List Ac->AS->Prop}{rest:List Oper}{acc:List Ac}
variable {gd:Option (Nat×Bool)}{rg:List Nat}{d:Nat}{ty:TypeId}{pos:String}{aft:Array Edge}{x y z:Operand}{T U E0:TypeId}{k kk:IntKind}{p q:Int}{R β:Type}{r:R}
variable {α:Type}{l l':List α}{e:α->List SV}{n by_:Nat}{zv:Value}
theorem aeZ(D:Nx P C ops nd K rest acc S (rg++bD x) [] ⟨some (d,S.ev x),[]⟩)(I:Gd ops S gd rg:=by first|exact .none|exact .some Y Y)(H:d<S.n:=by exact tl Y):RunT P C ops nd K (⟨some d,.move x,ty,pos,aft,gd⟩::rest) acc S:=
 aeY I (bD x) [] (S.ev x) H ζ (λS' ht _ E a w h=>⟨a.eval x,rfl,h.qy rfl ht (λ_ h=>h)⟩) D
theorem afz(D:Nx P C ops nd K rest acc S (rg++bD x) [] ⟨some (d,S.ev x),[]⟩)(I:Gd ops S gd rg:=by first|exact .none|exact .some Y Y)(H:d<S.n:=by exact tl Y):RunT P C ops nd K (⟨some d,.assign x,ty,pos,aft,gd⟩::rest) acc S:=
 aeY I (bD x) [] (S.ev x) H ζ (λS' ht _ E a w h=>⟨a.eval x,rfl,h.qy rfl ht (λ_ h=>h)⟩) D
theorem aeD{s X:SV}(H:SV.imp s X)(D:Nx P C ops nd K rest acc S (rg++bD x) [] ⟨some (d,.sv X),[]⟩)(hx:S.ev x=.sv s:=by exact rfl)(hg:Gd ops S gd rg:=by first|exact .none|exact .some Y Y)(I:d<S.n:=by exact tl Y):RunT P C ops nd K (⟨some d,.assign x,ty,pos,aft,gd⟩::rest) acc S:=
 aeY hg (bD x) [] (.sv X) I ζ (λS' ht _ E a w h=>⟨a.eval x,rfl,H _ _ (h.qy hx ht (λ_ h=>h)).1,rz⟩) D
theorem anx(D:Nx P C ops nd K rest acc S (rg++(bD x++bD y)) [] ⟨some (d,S.ev y),[]⟩)(I:S.ev x=.sv (.v (.bool true)):=by exact rfl)(hg:Gd ops S gd rg:=by first|exact .none|exact .some Y Y)(H:d<S.n:=by exact tl Y):RunT P C ops nd K (⟨some d,.pick x y z,ty,pos,aft,gd⟩::rest) acc S:=
 aeY hg _ [] (S.ev y) H ζ (λS' ht _ E a w h=>by
  have b:a.eval x=.bool true:=(h.qy I ht (λ_ h=>List.mem_append_left _ h)).1;exact⟨a.eval y,by simp[execOp,b,asBool],h.qy Y ht (λ_ h=>List.mem_append_right _ h)⟩) D
theorem anz(D:Nx P C ops nd K rest acc S (rg++(bD x++bD z)) [] ⟨some (d,S.ev z),[]⟩)(I:S.ev x=.sv (.v (.bool false)):=by exact rfl)(hg:Gd ops S gd rg:=by first|exact .none|exact .some Y Y)(H:d<S.n:=by exact tl Y):RunT P C ops nd K (⟨some d,.pick x y z,ty,pos,aft,gd⟩::rest) acc S:=
 aeY hg _ [] (S.ev z) H ζ (λS' ht _ E a w h=>by
  have b:a.eval x=.bool false:=(h.qy I ht (λ_ h=>List.mem_append_left _ h)).1;exact⟨a.eval z,by simp[execOp,b,asBool],h.qy Y ht (λ_ h=>List.mem_append_right _ h)⟩) D
theorem afw{I:Op}(H:∀c,I≠ .defer c){v:β}{f:β->Option R}(F:β->Value)(h:Option.bind (some v) f=some r)(D:∀c,f c=some r->Nx P C ops nd K rest acc S (rg++(bD x++bD y)) [] ⟨some (d,.sv (.v (F c))),[]⟩){vx vy:Value}(hx:S.ev x=.sv (.v vx))(hy:S.ev y=.sv (.v vy))
  (hr:∀(ρ:Operand->Value) (w:World),ρ x=vx->ρ y=vy->(execOp ρ ⟨some d,I,ty,pos,aft,gd⟩).run P w=.ok (.value (F v)) w) (hg:Gd ops S gd rg) (hd:d<S.n):RunT P C ops nd K (⟨some d,I,ty,pos,aft,gd⟩::rest) acc S:=
 aeY hg _ [] (.sv (.v (F v))) hd H (λS' ht _ E a w b=>⟨F v,hr _ w (b.qy hx ht (λ_ h=>List.mem_append_left _ h)).1 (b.qy hy ht (λ_ h=>List.mem_append_right _ h)).1,Y,rz⟩) (D v h)
theorem ahP{I:Op}(H:∀c,I≠ .defer c){v:β}{f:β->Option R}(F:β->Value)(h:Option.bind (some v) f=some r)(D:∀c,f c=some r->Nx P C ops nd K rest acc S (rg++bD x) [] ⟨some (d,.sv (.v (F c))),[]⟩){vx:Value}(hx:S.ev x=.sv (.v vx))
  (hr:∀(ρ:Operand->Value) (w:World),ρ x=vx->(execOp ρ ⟨some d,I,ty,pos,aft,gd⟩).run P w=.ok (.value (F v)) w) (hg:Gd ops S gd rg) (hd:d<S.n):RunT P C ops nd K (⟨some d,I,ty,pos,aft,gd⟩::rest) acc S:=
 aeY hg _ [] (.sv (.v (F v))) hd H (λS' ht _ E a w b=>⟨F v,hr _ w (b.qy hx ht (λ_ h=>h)).1,Y,rz⟩) (D v h)
theorem fR{D:BinOp}{ρ:Operand->Value}{w:World}{r:Value}{j:IntKind}(I:ρ x=.int k p)(H:ρ y=.int j q)(h:(binOp D T (.int k p) (.int j q)).run P w=.ok r w):
  (execOp ρ ⟨some d,.binOp D T x y U,ty,pos,aft,gd⟩).run P w=.ok (.value r) w:=by
 simp only[execOp,I,H];have a:(eqGuard D T x y (.int k p) (.int j q)).run P w=.ok () w:=by
  unfold eqGuard;cases D<;>simp
 simp[a,h]
theorem aO[tI:dZ P T k]{f:Int->Option R}(h:Option.bind (some (k.wrap (p+q))) f=some r)(D:∀c,f c=some r->Nx P C ops nd K rest acc S (rg++(bD x++bD y)) [] ⟨some (d,.sv (.v (.int k c))),[]⟩)(hx:S.ev x=.sv (.v (.int k p)):=by exact rfl)(I:S.ev y=.sv (.v (.int k q)):=by exact rfl)(hg:Gd ops S gd rg:=by first|exact .none|exact .some Y Y)(H:d<S.n:=by exact tl Y):RunT P C ops nd K (⟨some d,.binOp .add T x y U,ty,pos,aft,gd⟩::rest) acc S:=
 afw ζ (λc:Int=>.int k c) h D hx I (λ_ w b a=>fR b a (by simp[binOp,Op.intArith])) hg H
theorem ajb{a b:Nat}[tI:dZ P T k]{bi M:Nat}[u:UK k bi M]{f:Nat->Option R}(h:Option.bind (some ((a+b)%M)) f=some r)(D:∀c,f c=some r->Nx P C ops nd K rest acc S (rg++(bD x++bD y)) [] ⟨some (d,.sv (.v (.int k ((c:Nat):Int)))),[]⟩)(hx:S.ev x=.sv (.v (.int k (a:Int))):=by exact rfl)(I:S.ev y=.sv (.v (.int k (b:Int))):=by exact rfl)(hg:Gd ops S gd rg:=by first|exact .none|exact .some Y Y)(H:d<S.n:=by exact tl Y):RunT P C ops nd K (⟨some d,.binOp .add T x y U,ty,pos,aft,gd⟩::rest) acc S:=
 afw ζ (λc:Nat=>.int k (c:Int)) h D hx I (λ_ w g e=>fR g e (by simp only[binOp,Op.intArith];rw[UK.add rfl];simp)) hg H
theorem aeK[tI:dZ P T k]{f:Int->Option R}(h:Option.bind (some (k.wrap (p-q))) f=some r)(D:∀c,f c=some r->Nx P C ops nd K rest acc S (rg++(bD x++bD y)) [] ⟨some (d,.sv (.v (.int k c))),[]⟩)(hx:S.ev x=.sv (.v (.int k p)):=by exact rfl)(I:S.ev y=.sv (.v (.int k q)):=by exact rfl)(hg:Gd ops S gd rg:=by first|exact .none|exact .some Y Y)(H:d<S.n:=by exact tl Y):RunT P C ops nd K (⟨some d,.binOp .sub T x y U,ty,pos,aft,gd⟩::rest) acc S:=
 afw ζ (λc:Int=>.int k c) h D hx I (λ_ w b a=>fR b a (by simp[binOp,Op.intArith])) hg H
theorem ajH{a b:Nat}[tI:dZ P T k]{bi M:Nat}[u:UK k bi M]{f:Nat->Option R}(h:Option.bind (some (vf M a b)) f=some r)(D:∀c,f c=some r->Nx P C ops nd K rest acc S (rg++(bD x++bD y)) [] ⟨some (d,.sv (.v (.int k ((c:Nat):Int)))),[]⟩)(hx:S.ev x=.sv (.v (.int k (a:Int))):=by exact rfl)(I:S.ev y=.sv (.v (.int k (b:Int))):=by exact rfl)(hg:Gd ops S gd rg:=by first|exact .none|exact .some Y Y)(H:d<S.n:=by exact tl Y):RunT P C ops nd K (⟨some d,.binOp .sub T x y U,ty,pos,aft,gd⟩::rest) acc S:=
 afw ζ (λc:Nat=>.int k (c:Int)) h D hx I (λ_ w g e=>fR g e (by simp only[binOp,Op.intArith];rw[UK.sub rfl];simp)) hg H
theorem ahm[tI:dZ P T k]{f:Int->Option R}(h:Option.bind (some (k.wrap (p*q))) f=some r)(D:∀c,f c=some r->Nx P C ops nd K rest acc S (rg++(bD x++bD y)) [] ⟨some (d,.sv (.v (.int k c))),[]⟩)(hx:S.ev x=.sv (.v (.int k p)):=by exact rfl)(I:S.ev y=.sv (.v (.int k q)):=by exact rfl)(hg:Gd ops S gd rg:=by first|exact .none|exact .some Y Y)(H:d<S.n:=by exact tl Y):RunT P C ops nd K (⟨some d,.binOp .mul T x y U,ty,pos,aft,gd⟩::rest) acc S:=
 afw ζ (λc:Int=>.int k c) h D hx I (λ_ w b a=>fR b a (by simp[binOp,Op.intArith])) hg H
theorem ajW{a b:Nat}[tI:dZ P T k]{bi M:Nat}[u:UK k bi M]{f:Nat->Option R}(h:Option.bind (some ((a*b)%M)) f=some r)(D:∀c,f c=some r->Nx P C ops nd K rest acc S (rg++(bD x++bD y)) [] ⟨some (d,.sv (.v (.int k ((c:Nat):Int)))),[]⟩)(hx:S.ev x=.sv (.v (.int k (a:Int))):=by exact rfl)(I:S.ev y=.sv (.v (.int k (b:Int))):=by exact rfl)(hg:Gd ops S gd rg:=by first|exact .none|exact .some Y Y)(H:d<S.n:=by exact tl Y):RunT P C ops nd K (⟨some d,.binOp .mul T x y U,ty,pos,aft,gd⟩::rest) acc S:=
 afw ζ (λc:Nat=>.int k (c:Int)) h D hx I (λ_ w g e=>fR g e (by simp only[binOp,Op.intArith];rw[UK.mul rfl];simp)) hg H
theorem ajJ{a b:Nat}[tI:dZ P T k]{bi M:Nat}[u:UK k bi M]{f:Nat->Option R}(h:Option.bind (some ((a ||| b)%M)) f=some r)(D:∀c,f c=some r->Nx P C ops nd K rest acc S (rg++(bD x++bD y)) [] ⟨some (d,.sv (.v (.int k ((c:Nat):Int)))),[]⟩)(hx:S.ev x=.sv (.v (.int k (a:Int))):=by exact rfl)(I:S.ev y=.sv (.v (.int k (b:Int))):=by exact rfl)(hg:Gd ops S gd rg:=by first|exact .none|exact .some Y Y)(H:d<S.n:=by exact tl Y):RunT P C ops nd K (⟨some d,.binOp .or T x y U,ty,pos,aft,gd⟩::rest) acc S:=
 afw ζ (λc:Nat=>.int k (c:Int)) h D hx I (λ_ w g e=>fR g e (by simp only[binOp,Op.intBits,UK.or (k:=k) (a:=a) (b:=b) rfl];simp)) hg H
theorem aeH[tI:dZ P T k]{f:Bool->Option R}(h:Option.bind (some (decide (p=q))) f=some r)(D:∀c,f c=some r->Nx P C ops nd K rest acc S (rg++(bD x++bD y)) [] ⟨some (d,.sv (.v (.bool c))),[]⟩)(hx:S.ev x=.sv (.v (.int k p)):=by exact rfl)(I:S.ev y=.sv (.v (.int k q)):=by exact rfl)(hg:Gd ops S gd rg:=by first|exact .none|exact .some Y Y)(H:d<S.n:=by exact tl Y):RunT P C ops nd K (⟨some d,.binOp .eql T x y U,ty,pos,aft,gd⟩::rest) acc S:=
 afw ζ (λc:Bool=>.bool c) h D hx I (λ_ w b a=>fR b a (by have e:(p==q)=decide (p=q):=eqI rfl;simp[binOp,Op.intCmp,e])) hg H
theorem ajK{a b:Nat}[tI:dZ P T k]{f:Bool->Option R}(h:Option.bind (some (decide (a=b))) f=some r)(D:∀c,f c=some r->Nx P C ops nd K rest acc S (rg++(bD x++bD y)) [] ⟨some (d,.sv (.v (.bool c))),[]⟩)(hx:S.ev x=.sv (.v (.int k (a:Int))):=by exact rfl)(I:S.ev y=.sv (.v (.int k (b:Int))):=by exact rfl)(hg:Gd ops S gd rg:=by first|exact .none|exact .some Y Y)(H:d<S.n:=by exact tl Y):RunT P C ops nd K (⟨some d,.binOp .eql T x y U,ty,pos,aft,gd⟩::rest) acc S:=
 afw ζ (λc:Bool=>.bool c) h D hx I (λ_ w i g=>fR i g (by have e:((a:Int)==(b:Int))=decide (a=b):=eqN rfl;simp[binOp,Op.intCmp,e])) hg H
theorem aeA[tI:dZ P T k]{f:Bool->Option R}(h:Option.bind (some (decide (p≠q))) f=some r)(D:∀c,f c=some r->Nx P C ops nd K rest acc S (rg++(bD x++bD y)) [] ⟨some (d,.sv (.v (.bool c))),[]⟩)(hx:S.ev x=.sv (.v (.int k p)):=by exact rfl)(I:S.ev y=.sv (.v (.int k q)):=by exact rfl)(hg:Gd ops S gd rg:=by first|exact .none|exact .some Y Y)(H:d<S.n:=by exact tl Y):RunT P C ops nd K (⟨some d,.binOp .neq T x y U,ty,pos,aft,gd⟩::rest) acc S:=
 afw ζ (λc:Bool=>.bool c) h D hx I (λ_ w b a=>fR b a (by have e:(p != q)=decide (p≠q):=neI rfl;simp[binOp,Op.intCmp,e])) hg H
theorem ajY{a b:Nat}[tI:dZ P T k]{f:Bool->Option R}(h:Option.bind (some (decide (a≠b))) f=some r)(D:∀c,f c=some r->Nx P C ops nd K rest acc S (rg++(bD x++bD y)) [] ⟨some (d,.sv (.v (.bool c))),[]⟩)(hx:S.ev x=.sv (.v (.int k (a:Int))):=by exact rfl)(I:S.ev y=.sv (.v (.int k (b:Int))):=by exact rfl)(hg:Gd ops S gd rg:=by first|exact .none|exact .some Y Y)(H:d<S.n:=by exact tl Y):RunT P C ops nd K (⟨some d,.binOp .neq T x y U,ty,pos,aft,gd⟩::rest) acc S:=
 afw ζ (λc:Bool=>.bool c) h D hx I (λ_ w i g=>fR i g (by have e:((a:Int) != (b:Int))=decide (a≠b):=neN rfl;simp[binOp,Op.intCmp,e])) hg H
theorem aL[tI:dZ P T k]{f:Bool->Option R}(h:Option.bind (some (decide (p<q))) f=some r)(D:∀c,f c=some r->Nx P C ops nd K rest acc S (rg++(bD x++bD y)) [] ⟨some (d,.sv (.v (.bool c))),[]⟩)(hx:S.ev x=.sv (.v (.int k p)):=by exact rfl)(I:S.ev y=.sv (.v (.int k q)):=by exact rfl)(hg:Gd ops S gd rg:=by first|exact .none|exact .some Y Y)(H:d<S.n:=by exact tl Y):RunT P C ops nd K (⟨some d,.binOp .lss T x y U,ty,pos,aft,gd⟩::rest) acc S:=
 afw ζ (λc:Bool=>.bool c) h D hx I (λ_ w b a=>fR b a (by have e:(decide (p<q))=decide (p<q):=rfl;simp[binOp,Op.intCmp,e])) hg H
theorem anA{a b:Nat}[tI:dZ P T k]{f:Bool->Option R}(h:Option.bind (some (decide (a<b))) f=some r)(D:∀c,f c=some r->Nx P C ops nd K rest acc S (rg++(bD x++bD y)) [] ⟨some (d,.sv (.v (.bool c))),[]⟩)(hx:S.ev x=.sv (.v (.int k (a:Int))):=by exact rfl)(I:S.ev y=.sv (.v (.int k (b:Int))):=by exact rfl)(hg:Gd ops S gd rg:=by first|exact .none|exact .some Y Y)(H:d<S.n:=by exact tl Y):RunT P C ops nd K (⟨some d,.binOp .lss T x y U,ty,pos,aft,gd⟩::rest) acc S:=
 afw ζ (λc:Bool=>.bool c) h D hx I (λ_ w i g=>fR i g (by have e:(decide ((a:Int)<(b:Int)))=decide (a<b):=ltN rfl;simp[binOp,Op.intCmp,e])) hg H
theorem agS[tI:dZ P T k]{f:Bool->Option R}(h:Option.bind (some (decide (p<=q))) f=some r)(D:∀c,f c=some r->Nx P C ops nd K rest acc S (rg++(bD x++bD y)) [] ⟨some (d,.sv (.v (.bool c))),[]⟩)(hx:S.ev x=.sv (.v (.int k p)):=by exact rfl)(I:S.ev y=.sv (.v (.int k q)):=by exact rfl)(hg:Gd ops S gd rg:=by first|exact .none|exact .some Y Y)(H:d<S.n:=by exact tl Y):RunT P C ops nd K (⟨some d,.binOp .leq T x y U,ty,pos,aft,gd⟩::rest) acc S:=
 afw ζ (λc:Bool=>.bool c) h D hx I (λ_ w b a=>fR b a (by have e:(decide (p<=q))=decide (p<=q):=rfl;simp[binOp,Op.intCmp,e])) hg H
theorem aeG[tI:dZ P T k]{f:Bool->Option R}(h:Option.bind (some (decide (q<p))) f=some r)(D:∀c,f c=some r->Nx P C ops nd K rest acc S (rg++(bD x++bD y)) [] ⟨some (d,.sv (.v (.bool c))),[]⟩)(hx:S.ev x=.sv (.v (.int k p)):=by exact rfl)(I:S.ev y=.sv (.v (.int k q)):=by exact rfl)(hg:Gd ops S gd rg:=by first|exact .none|exact .some Y Y)(H:d<S.n:=by exact tl Y):RunT P C ops nd K (⟨some d,.binOp .gtr T x y U,ty,pos,aft,gd⟩::rest) acc S:=
 afw ζ (λc:Bool=>.bool c) h D hx I (λ_ w b a=>fR b a (by have e:(decide (q<p))=decide (q<p):=rfl;simp[binOp,Op.intCmp,e])) hg H
theorem akZ{a b:Nat}[tI:dZ P T k]{f:Bool->Option R}(h:Option.bind (some (decide (b<a))) f=some r)(D:∀c,f c=some r->Nx P C ops nd K rest acc S (rg++(bD x++bD y)) [] ⟨some (d,.sv (.v (.bool c))),[]⟩)(hx:S.ev x=.sv (.v (.int k (a:Int))):=by exact rfl)(I:S.ev y=.sv (.v (.int k (b:Int))):=by exact rfl)(hg:Gd ops S gd rg:=by first|exact .none|exact .some Y Y)(H:d<S.n:=by exact tl Y):RunT P C ops nd K (⟨some d,.binOp .gtr T x y U,ty,pos,aft,gd⟩::rest) acc S:=
 afw ζ (λc:Bool=>.bool c) h D hx I (λ_ w i g=>fR i g (by have e:(decide ((b:Int)<(a:Int)))=decide (b<a):=ltN rfl;simp[binOp,Op.intCmp,e])) hg H
theorem afy[tI:dZ P T k]{f:Bool->Option R}(h:Option.bind (some (decide (q<=p))) f=some r)(D:∀c,f c=some r->Nx P C ops nd K rest acc S (rg++(bD x++bD y)) [] ⟨some (d,.sv (.v (.bool c))),[]⟩)(hx:S.ev x=.sv (.v (.int k p)):=by exact rfl)(I:S.ev y=.sv (.v (.int k q)):=by exact rfl)(hg:Gd ops S gd rg:=by first|exact .none|exact .some Y Y)(H:d<S.n:=by exact tl Y):RunT P C ops nd K (⟨some d,.binOp .geq T x y U,ty,pos,aft,gd⟩::rest) acc S:=
 afw ζ (λc:Bool=>.bool c) h D hx I (λ_ w b a=>fR b a (by have e:(decide (q<=p))=decide (q<=p):=rfl;simp[binOp,Op.intCmp,e])) hg H
theorem alk{a b:Nat}[tI:dZ P T k]{f:Bool->Option R}(h:Option.bind (some (decide (b<=a))) f=some r)(D:∀c,f c=some r->Nx P C ops nd K rest acc S (rg++(bD x++bD y)) [] ⟨some (d,.sv (.v (.bool c))),[]⟩)(hx:S.ev x=.sv (.v (.int k (a:Int))):=by exact rfl)(I:S.ev y=.sv (.v (.int k (b:Int))):=by exact rfl)(hg:Gd ops S gd rg:=by first|exact .none|exact .some Y Y)(H:d<S.n:=by exact tl Y):RunT P C ops nd K (⟨some d,.binOp .geq T x y U,ty,pos,aft,gd⟩::rest) acc S:=
 afw ζ (λc:Bool=>.bool c) h D hx I (λ_ w i g=>fR i g (by have e:(decide ((b:Int)<=(a:Int)))=decide (b<=a):=leN rfl;simp[binOp,Op.intCmp,e])) hg H
theorem ain{a bi M:Nat}[tI:dZ P T k][u:UK k bi M]{j:IntKind}{s:Nat}{f:Nat->Option R}(h:Option.bind (some (a*2^s%M)) f=some r)(D:∀c,f c=some r->Nx P C ops nd K rest acc S (rg++(bD x++bD y)) [] ⟨some (d,.sv (.v (.int k ((c:Nat):Int)))),[]⟩)(hx:S.ev x=.sv (.v (.int k (a:Int))):=by exact rfl)(H:S.ev y=.sv (.v (.int j q)):=by exact rfl)(hs:min q.toNat k.bits=s:=by exact rfl)(h0:0<=q:=by first|exact Int.natCast_nonneg _|decide)(I:Gd ops S gd rg:=by first|exact .none|exact .some Y Y)(hd:d<S.n:=by exact tl Y):RunT P C ops nd K (⟨some d,.binOp .shl T x y U,ty,pos,aft,gd⟩::rest) acc S:=
 afw ζ (λc:Nat=>.int k (c:Int)) h D hx H (λ_ w b e=>fR b e (by have b:¬q<0:=Int.not_lt.2 h0;simp only[binOp,Op.shift,b,if_false,UK.shl (k:=k) (a:=a) (q:=q) hs rfl];rfl)) I hd
theorem ahA{a bi M:Nat}[tI:dZ P T k][u:UK k bi M]{j:IntKind}{s:Nat}{f:Nat->Option R}(h:Option.bind (some (a/2^s)) f=some r)(D:∀c,f c=some r->Nx P C ops nd K rest acc S (rg++(bD x++bD y)) [] ⟨some (d,.sv (.v (.int k ((c:Nat):Int)))),[]⟩)(hx:S.ev x=.sv (.v (.int k (a:Int))):=by exact rfl)(H:S.ev y=.sv (.v (.int j q)):=by exact rfl)(hs:min q.toNat k.bits=s:=by exact rfl)(h0:0<=q:=by first|exact Int.natCast_nonneg _|decide)(I:Gd ops S gd rg:=by first|exact .none|exact .some Y Y)(hd:d<S.n:=by exact tl Y):RunT P C ops nd K (⟨some d,.binOp .shr T x y U,ty,pos,aft,gd⟩::rest) acc S:=
 afw ζ (λc:Nat=>.int k (c:Int)) h D hx H (λ_ w b e=>fR b e (by have b:¬q<0:=Int.not_lt.2 h0;simp only[binOp,Op.shift,b,if_false,Go.Fw.Ko (k:=k) (a:=a) (q:=q) hs rfl];rfl)) I hd
theorem alW{a b bi M:Nat}[u:UK k bi M][tI:dZ P T k]{f:Nat->Option R}(h:Option.bind (M4 M a b) f=some r)(D:∀c,f c=some r->Nx P C ops nd K rest acc S (rg++(bD x++bD y)) [] ⟨some (d,.sv (.v (.int k ((c:Nat):Int)))),[]⟩)(hx:S.ev x=.sv (.v (.int k (a:Int))):=by exact rfl)(H:S.ev y=.sv (.v (.int k (b:Int))):=by exact rfl)(I:Gd ops S gd rg:=by first|exact .none|exact .some Y Y)(hd:d<S.n:=by exact tl Y):RunT P C ops nd K (⟨some d,.binOp .quo T x y U,ty,pos,aft,gd⟩::rest) acc S:=
 by
 obtain⟨g,e,h⟩:=bind_some h;exact afw (v:=g) (f:=f) ζ (λc:Nat=>.int k (c:Int)) h D hx H (λ_ w g i=>fR g i (by simp only[binOp,Op.intDiv,nzU e,if_false,ne_eq,not_true_eq_false,UK.quo e];rfl)) I hd
theorem ajZ{a b bi M:Nat}[u:UK k bi M][tI:dZ P T k]{f:Nat->Option R}(h:Option.bind (Kl a b) f=some r)(D:∀c,f c=some r->Nx P C ops nd K rest acc S (rg++(bD x++bD y)) [] ⟨some (d,.sv (.v (.int k ((c:Nat):Int)))),[]⟩)(hx:S.ev x=.sv (.v (.int k (a:Int))):=by exact rfl)(H:S.ev y=.sv (.v (.int k (b:Int))):=by exact rfl)(I:Gd ops S gd rg:=by first|exact .none|exact .some Y Y)(hd:d<S.n:=by exact tl Y):RunT P C ops nd K (⟨some d,.binOp .rem T x y U,ty,pos,aft,gd⟩::rest) acc S:=
 by
 obtain⟨g,e,h⟩:=bind_some h;exact afw (v:=g) (f:=f) ζ (λc:Nat=>.int k (c:Int)) h D hx H (λ_ w g i=>fR g i (by simp only[binOp,Op.intDiv,nzR e,if_false,ne_eq,not_true_eq_false,Go.Fw.XY e];rfl)) I hd
theorem anB{a b bi M:Nat}[u:UK k bi M][tI:dZ P T k]{f:Nat->Option R}(h:Option.bind (some (a%b)) f=some r)(D:∀c,f c=some r->Nx P C ops nd K rest acc S (rg++(bD x++bD y)) [] ⟨some (d,.sv (.v (.int k ((c:Nat):Int)))),[]⟩)(h0:(b:Int)≠0:=by decide)(hx:S.ev x=.sv (.v (.int k (a:Int))):=by exact rfl)(H:S.ev y=.sv (.v (.int k (b:Int))):=by exact rfl)(I:Gd ops S gd rg:=by first|exact .none|exact .some Y Y)(hd:d<S.n:=by exact tl Y):RunT P C ops nd K (⟨some d,.binOp .rem T x y U,ty,pos,aft,gd⟩::rest) acc S:=
 afw ζ (λc:Nat=>.int k (c:Int)) h D hx H (λ_ w e g=>fR e g (by simp only[binOp,Op.intDiv,h0,if_false,ne_eq,not_true_eq_false,Go.Fw.anQ (a:=a) (b:=b) rfl];rfl)) I hd
theorem amy[tI:dZ P T .i64]{f:Int->Option R}(h:Option.bind (DY p q) f=some r)(D:∀c,f c=some r->Nx P C ops nd K rest acc S (rg++(bD x++bD y)) [] ⟨some (d,.sv (.v (.int .i64 c))),[]⟩)(hx:S.ev x=.sv (.v (.int .i64 p)):=by exact rfl)(I:S.ev y=.sv (.v (.int .i64 q)):=by exact rfl)(hg:Gd ops S gd rg:=by first|exact .none|exact .some Y Y)(H:d<S.n:=by exact tl Y):RunT P C ops nd K (⟨some d,.binOp .quo T x y U,ty,pos,aft,gd⟩::rest) acc S:=
 by
 obtain⟨b,a,h⟩:=bind_some h;exact afw (v:=b) (f:=f) ζ (λc:Int=>.int .i64 c) h D hx I (λ_ w e b=>fR e b (by simp[binOp,Op.intDiv,nzI a,Go.Fw.Zu a])) hg H
theorem anh[tI:dZ P T .i64]{f:Int->Option R}(h:Option.bind (M3 p q) f=some r)(D:∀c,f c=some r->Nx P C ops nd K rest acc S (rg++(bD x++bD y)) [] ⟨some (d,.sv (.v (.int .i64 c))),[]⟩)(hx:S.ev x=.sv (.v (.int .i64 p)):=by exact rfl)(I:S.ev y=.sv (.v (.int .i64 q)):=by exact rfl)(hg:Gd ops S gd rg:=by first|exact .none|exact .some Y Y)(H:d<S.n:=by exact tl Y):RunT P C ops nd K (⟨some d,.binOp .rem T x y U,ty,pos,aft,gd⟩::rest) acc S:=
 by
 obtain⟨b,a,h⟩:=bind_some h;exact afw (v:=b) (f:=f) ζ (λc:Int=>.int .i64 c) h D hx I (λ_ w e b=>fR e b (by simp[binOp,Op.intDiv,arZ a,Go.Fw.aeT a])) hg H
theorem agy{b:Bool}{f:Bool->Option R}(h:Option.bind (some (!b)) f=some r)(D:∀c,f c=some r->Nx P C ops nd K rest acc S (rg++bD x) [] ⟨some (d,.sv (.v (.bool c))),[]⟩)(I:S.ev x=.sv (.v (.bool b)):=by exact rfl)(hg:Gd ops S gd rg:=by first|exact .none|exact .some Y Y)(H:d<S.n:=by exact tl Y):RunT P C ops nd K (⟨some d,.unOp .not T x,ty,pos,aft,gd⟩::rest) acc S:=
 ahP ζ (λc:Bool=>.bool c) h D I (λ_ w a=>by simp[execOp,a,Op.unary]) hg H
theorem anC{b:Bool}(D:Nx P C ops nd K rest acc S (rg++bD x) [] ⟨some (d,.sv (.v (.bool (!b)))),[]⟩)(I:S.ev x=.sv (.v (.bool b)):=by exact rfl)(hg:Gd ops S gd rg:=by first|exact .none|exact .some Y Y)(H:d<S.n:=by exact tl Y):RunT P C ops nd K (⟨some d,.unOp .not T x,ty,pos,aft,gd⟩::rest) acc S:=
 ahP (f:=λc=>some c) ζ (λc:Bool=>.bool c) rfl (λ_ e=>by cases e;exact D) I (λ_ w a=>by simp[execOp,a,Op.unary]) hg H
theorem ahy[tI:dZ P T k]{f:Int->Option R}(h:Option.bind (some (k.wrap (0-p))) f=some r)(D:∀c,f c=some r->Nx P C ops nd K rest acc S (rg++bD x) [] ⟨some (d,.sv (.v (.int k c))),[]⟩)(I:S.ev x=.sv (.v (.int k p)):=by exact rfl)(hg:Gd ops S gd rg:=by first|exact .none|exact .some Y Y)(H:d<S.n:=by exact tl Y):RunT P C ops nd K (⟨some d,.unOp .neg T x,ty,pos,aft,gd⟩::rest) acc S:=
 ahP ζ (λc:Int=>.int k c) h D I (λ_ w a=>by simp only[execOp,a,Op.unary,Op.intArith];simp) hg H
theorem aiq{k':IntKind}{j:IntKind}[H:dZ P T j][tU:dZ P U k]{f:Int->Option R}(h:Option.bind (some (k.wrap p)) f=some r)(D:∀c,f c=some r->Nx P C ops nd K rest acc S (rg++bD x) [] ⟨some (d,.sv (.v (.int k c))),[]⟩)(hx:S.ev x=.sv (.v (.int k' p)):=by exact rfl)(hg:Gd ops S gd rg:=by first|exact .none|exact .some Y Y)(I:d<S.n:=by exact tl Y):RunT P C ops nd K (⟨some d,.convert T U x,ty,pos,aft,gd⟩::rest) acc S:=
 ahP ζ (λc:Int=>.int k c) h D hx (λ_ w a=>by simp[execOp,a,convert,underlying,H.h,tU.h,Conv.intToInt]) hg I
theorem afj{a bi M:Nat}{k':IntKind}{j:IntKind}[H:dZ P T j][tU:dZ P U k][u:UK k bi M]{f:Nat->Option R}(h:Option.bind (some (a%M)) f=some r)(D:∀c,f c=some r->Nx P C ops nd K rest acc S (rg++bD x) [] ⟨some (d,.sv (.v (.int k ((c:Nat):Int)))),[]⟩)(hx:S.ev x=.sv (.v (.int k' (a:Int))):=by exact rfl)(hg:Gd ops S gd rg:=by first|exact .none|exact .some Y Y)(I:d<S.n:=by exact tl Y):RunT P C ops nd K (⟨some d,.convert T U x,ty,pos,aft,gd⟩::rest) acc S:=
 ahP ζ (λc:Nat=>.int k (c:Int)) h D hx (λ_ w b=>by simp[execOp,b,convert,underlying,H.h,tU.h,Conv.intToInt,UK.nat (k:=k) (a:=a) rfl]) hg I
theorem ani{bi M:Nat}{k':IntKind}{j:IntKind}[H:dZ P T j][tU:dZ P U k][u:UK k bi M]{f:Nat->Option R}(h:Option.bind (some ((p%M).toNat)) f=some r)(D:∀c,f c=some r->Nx P C ops nd K rest acc S (rg++bD x) [] ⟨some (d,.sv (.v (.int k ((c:Nat):Int)))),[]⟩)(hx:S.ev x=.sv (.v (.int k' p)):=by exact rfl)(hg:Gd ops S gd rg:=by first|exact .none|exact .some Y Y)(I:d<S.n:=by exact tl Y):RunT P C ops nd K (⟨some d,.convert T U x,ty,pos,aft,gd⟩::rest) acc S:=
 ahP ζ (λc:Nat=>.int k (c:Int)) h D hx (λ_ w a=>by simp[execOp,a,convert,underlying,H.h,tU.h,Conv.intToInt,UK.conv (k:=k) (p:=p) rfl]) hg I
theorem anj{b c:Bool}[H:Ph P T]{f:Bool->Option R}(h:Option.bind (some (b==c)) f=some r)(D:∀c,f c=some r->Nx P C ops nd K rest acc S (rg++(bD x++bD y)) [] ⟨some (d,.sv (.v (.bool c))),[]⟩)(hx:S.ev x=.sv (.v (.bool b)):=by exact rfl)(hy:S.ev y=.sv (.v (.bool c)):=by exact rfl)(hg:Gd ops S gd rg:=by first|exact .none|exact .some Y Y)(I:d<S.n:=by exact tl Y):RunT P C ops nd K (⟨some d,.binOp .eql T x y U,ty,pos,aft,gd⟩::rest) acc S:=
 afw ζ (λc:Bool=>.bool c) h D hx hy (λρ w e a=>by
  have g:=run_eql_bool (P:=P) w T b c H.h;simp[execOp,e,a,eqGuard,g]) hg I
theorem amG{b c:Bool}[H:Ph P T]{f:Bool->Option R}(h:Option.bind (some (!(b==c))) f=some r)(D:∀c,f c=some r->Nx P C ops nd K rest acc S (rg++(bD x++bD y)) [] ⟨some (d,.sv (.v (.bool c))),[]⟩)(hx:S.ev x=.sv (.v (.bool b)):=by exact rfl)(hy:S.ev y=.sv (.v (.bool c)):=by exact rfl)(hg:Gd ops S gd rg:=by first|exact .none|exact .some Y Y)(I:d<S.n:=by exact tl Y):RunT P C ops nd K (⟨some d,.binOp .neq T x y U,ty,pos,aft,gd⟩::rest) acc S:=
 afw ζ (λc:Bool=>.bool c) h D hx hy (λρ w e a=>by
  have g:=run_neq_bool (P:=P) w T b c H.h;simp[execOp,e,a,eqGuard,g]) hg I
theorem ahD{at_:Array TypeId}{f:Int->Option R}(h:Option.bind (some (max p q)) f=some r)(D:∀c,f c=some r->Nx P C ops nd K rest acc S (rg++(bD x++bD y)) [] ⟨some (d,.sv (.v (.int k c))),[]⟩){k':IntKind}(hx:S.ev x=.sv (.v (.int k p)):=by exact rfl)(I:S.ev y=.sv (.v (.int k' q)):=by exact rfl)(hg:Gd ops S gd rg:=by first|exact .none|exact .some Y Y)(H:d<S.n:=by exact tl Y):RunT P C ops nd K (⟨some d,.call ⟨.builtin .max,#[x,y],at_⟩,ty,pos,aft,gd⟩::rest) acc S:=
 afw ζ (λc:Int=>.int k c) h D hx I (λρ w b a=>by have e:(if q>p then q else p)=(Max.max p q:Int):=Go.Fw.arX rfl;simp[execOp,resolve,invoke,builtin,Builtin.max_,Builtin.max2,b,a,e]) hg H
theorem ahE{at_:Array TypeId}{f:Int->Option R}(h:Option.bind (some (min p q)) f=some r)(D:∀c,f c=some r->Nx P C ops nd K rest acc S (rg++(bD x++bD y)) [] ⟨some (d,.sv (.v (.int k c))),[]⟩){k':IntKind}(hx:S.ev x=.sv (.v (.int k p)):=by exact rfl)(I:S.ev y=.sv (.v (.int k' q)):=by exact rfl)(hg:Gd ops S gd rg:=by first|exact .none|exact .some Y Y)(H:d<S.n:=by exact tl Y):RunT P C ops nd K (⟨some d,.call ⟨.builtin .min,#[x,y],at_⟩,ty,pos,aft,gd⟩::rest) acc S:=
 afw ζ (λc:Int=>.int k c) h D hx I (λρ w b a=>by have e:(if q<p then q else p)=(Min.min p q:Int):=Go.Fw.arY rfl;simp[execOp,resolve,invoke,builtin,Builtin.min_,Builtin.min2,b,a,e]) hg H
theorem aN{m:Nat}[I:ku P T E0 m]{f:Int->Option R}(h:Option.bind (some (l.length:Int)) f=some r)(D:∀c,f c=some r->Nx P C ops nd K rest acc S (rg++bD x) [] ⟨some (d,.sv (.v (.int .i64 c))),[]⟩)(hx:S.ev x=.sv (slc n (l.map e)):=by exact rfl)(H:Gd ops S gd rg:=by first|exact .none|exact .some Y Y)(hd:d<S.n:=by exact tl Y):RunT P C ops nd K (⟨some d,.call ⟨.builtin .len,#[x],#[T]⟩,ty,pos,aft,gd⟩::rest) acc S:=
 aeY H _ [] _ hd ζ (λS' ht _ E a w g=>by
  have i:=(g.qy hx ht (λ_ h=>h)).1;obtain⟨b,c,g⟩:∃b c,a.eval x=.slice b l.length c:=by
   rcases i with⟨b,g,i⟩|⟨b,o,c,g,_⟩
   ·exact⟨b,0,by rw[g];have:=congrArg List.length i;simp at this;simp[this]⟩
   exact⟨_,_,by rw[g,List.length_map]⟩
  exact⟨.int .i64 l.length,by simp[execOp,resolve,invoke,builtin,Builtin.len_,underlying,I.u,g,goInt],Y,rz⟩) (D _ h)
theorem aQ[H:ku P T E0 n]{i:Int}{f:α->Option R}(hx:S.ev x=.sv (slc n (l.map e)))(h:Option.bind (bV l i) f=some r)(D:∀a,f a=some r->Nx P C ops nd K rest acc S (rg++(bD x++bD y)) [] ⟨some (d,.sv (ref (e a))),[]⟩)(I:S.ev y=.sv (.v (.int kk i)):=by exact rfl)(hg:Gd ops S gd rg:=by first|exact .none|exact .some Y Y)(hd:d<S.n:=by exact tl Y):RunT P C ops nd K (⟨some d,.indexAddr T x y,ty,pos,aft,gd⟩::rest) acc S:=
 by
 obtain⟨a0,g,h⟩:=bind_some h;obtain⟨p,q⟩:=NX g;refine aeY hg _ [] _ hd ζ (λS' ht _ E a w g=>?_) (D a0 h);have m:=(g.qy hx ht (λ_ h=>List.mem_append_left _ h)).1;have t:a.eval y=.int kk i:=(g.qy I ht (λ_ h=>List.mem_append_right _ h)).1;have j:(l.map e)[i.toNat]? =some (e a0):=by rw[List.getElem?_map,q];rfl
 have g:i.toNat<(l.map e).length:=(List.getElem?_eq_some_iff.1 j).1;rcases m with⟨_,_,m⟩|⟨b,o,c,m,z,q,hr⟩
 ·rw[m]at g;simp at g
 refine⟨.pointer (some ⟨b,o+i.toNat*n,none⟩),?_,⟨b,_,Y,λk s g=>(hr i.toNat _ j).2 k s g⟩,rz⟩;have g:=H.size w;have q:0<=i/\i<((l.map e).length:Int):=⟨p,by omega⟩;have j:i<(l.length:Int):=by simpa using q.2
 simp[execOp,t,m,Instr.indexAt,asIntOf,underlying,H.u,g,mQ,p,j]
theorem IF{P:Program}{f off:Nat}{T U:TypeId}[H:kH P T f off U](D:∀w:World,∃n,(sizeOf U).run P w=.ok (n+1) w)(b o:Nat)(w:World):(Instr.fieldAt T (.pointer (some ⟨b,o,none⟩)) f).run P w=.ok (.pointer (some ⟨b,o+off,none⟩)) w:=by
 have h:=H.h;cases a:P.underlying T with
 |none=>rw[a]at h;cases h
 |some u=>
  rw[a]at h;cases u with
  |struct d=>
   simp only at h;cases c:d[f]? with
   |none=>rw[c]at h;cases h
   |some F=>
    rw[c]at h;simp only[Option.map_some,Option.some.injEq,Prod.mk.injEq]at h;obtain⟨e,g⟩:=h;obtain⟨n,d⟩:=D w;rw[<-g]at d;simp[Instr.fieldAt,underlying,a,c,Instr.sureAddr,fieldPlace,d,mQ,e]
  |_=>cases h
class By (P:Program) (T:TypeId) (k:outParam TypeId) (e:outParam TypeId):Prop where
 u:P.underlying T=some (.map k e):=by kernel_rfl
class Dr (P:Program) (U:TypeId):Prop where
 h:∀w:World,∃n,(sizeOf U).run P w=.ok (n+1) w
instance{P:Program}{U:TypeId}[t:uG P U]:Dr P U:=⟨λw=>⟨0,t.size w⟩⟩
theorem ZC{cells:List SV}{off:Nat}{M:Mem}{b o:Nat}(h:∀(k:Nat) (s:SV),cells[k]? =some s->∃y,M b (o+k)=some y/\y.oneCell'=true/\s.h M y):(ref (cells.drop off)).h M (.pointer (some ⟨b,o+off,none⟩)):=
 ⟨b,o+off,Y,λk s a=>by
  rw[List.getElem?_drop]at a;have:=h (off+k) s a;rwa[show o+(off+k)=o+off+k by omega]at this⟩
theorem aew{f off:Nat}[hf:kH P T f off U][H:Dr P U]{cells:List SV}(hx:S.ev x=.sv (ref cells))(D:Nx P C ops nd K rest acc S (rg++bD x) [] ⟨some (d,.sv (ref (cells.drop off))),[]⟩)(I:Gd ops S gd rg:=by first|exact .none|exact .some Y Y)(hd:d<S.n:=by exact tl Y):RunT P C ops nd K (⟨some d,.fieldAddr T x f,ty,pos,aft,gd⟩::rest) acc S:=
 aeY I _ [] _ hd ζ (λS' ht _ E a w h=>by
  obtain⟨b,o,e,c⟩:=(h.qy hx ht (λ_ h=>h)).1;have:=IF (P:=P) (T:=T) (f:=f) (off:=off) (U:=U) H.h b o w;exact⟨_,by simp[execOp,e,this],ZC c,rz⟩) D
theorem aI[I:uG P T]{cells:List SV}{s:SV}(hx:S.ev x=.sv (ref cells))(H:cells[0]? =some s)(D:Nx P C ops nd K rest acc S (rg++bD x) [] ⟨some (d,.sv s),[]⟩)(hg:Gd ops S gd rg:=by first|exact .none|exact .some Y Y)(hd:d<S.n:=by exact tl Y):RunT P C ops nd K (⟨some d,.load T x,ty,pos,aft,gd⟩::rest) acc S:=
 aeY hg _ [] _ hd ζ (λS' ht _ E a w h=>by
  obtain⟨b,o,e,f⟩:=(h.qy hx ht (λ_ h=>h)).1;obtain⟨u,g,c,i⟩:=f 0 s H;have f:w.cell? ⟨b,o,none⟩=some u:=(h.kf _ _ _ g).cell c;exact⟨u,by simp[execOp,e,Instr.loadAt,Instr.sureAddr,loadVar,I.isAgg,f],i,rz⟩) D
theorem anD{m:Nat}[tA:vI P T m]{cells:List SV}(I:S.ev x=.sv (ref cells))(D:Nx P C ops nd K rest acc S (rg++bD x) [] ⟨some (d,.sv (.agg (cells.take m))),[]⟩)(hn:(cells.take m).length=m:=by exact rfl)(H:Gd ops S gd rg:=by first|exact .none|exact .some Y Y)(hd:d<S.n:=by exact tl Y):RunT P C ops nd K (⟨some d,.load T x,ty,pos,aft,gd⟩::rest) acc S:=
 aeY H _ [] _ hd ζ (λS' ht _ E a w h=>by
  obtain⟨b,o,e,j⟩:=(h.qy I ht (λ_ h=>h)).1;obtain⟨vs,c,g⟩:=RF (M:=E.M) (b:=b) (cells.take m) o (λk s f=>j k s (by
   rw[List.getElem?_take]at f;split at f
   ·exact f
   cases f))
  refine⟨.agg ⟨vs⟩,?_,⟨vs,Y,c⟩,rz⟩;have hl:=c.length;have:=xq (P:=P) (T:=T) (n:=m) (w:=w) (b:=b) (o:=o) (vs:=vs) ω (λi v e=>(h.kf _ _ _ (g i v e).1).cell (g i v e).2);simp[execOp,e,Instr.loadAt,Instr.sureAddr,this]) D
theorem aeE{cs:List SV}(I:S.ev x=.sv (ref cs))(D:Nx P C ops nd K rest acc S (rg++bD x) [] ⟨some (d,.sv (ref cs)),[]⟩)(hg:Gd ops S gd rg:=by first|exact .none|exact .some Y Y)(H:d<S.n:=by exact tl Y):RunT P C ops nd K (⟨some d,.nilCheck x,ty,pos,aft,gd⟩::rest) acc S:=
 aeY hg _ [] _ H ζ (λS' ht _ E a w h=>by
  have f:=(h.qy I ht (λ_ h=>h)).1;obtain⟨b,o,e,c⟩:=f;exact⟨a.eval x,by simp[execOp,e],⟨b,o,e,c⟩,rz⟩) D
def T3(S:AS)(D:Nat):Option Operand->Int->Prop
 |none,i=>i=D
 |some x,i=>∃k,S.ev x=.sv (.v (.int k i))
def IG:Option Operand->List Nat
 |none=>[]
 |some x=>bD x
theorem Wi{E:Env}{a:Act}{w:World}{S':AS}(h:bw C S' E a w){H:Nat}{D:Option Operand}{i:Int}(I:T3 S H D i)(ht:∀s∈IG D,S'.t s=S.t s):(D=none/\i=H)\/∃x k,D=some x/\a.eval x=.int k i:=by
 cases D with
 |none=>exact .inl ⟨Y,I⟩
 |some x=>
  obtain⟨k,c⟩:=I;exact .inr ⟨x,k,Y,(h.qy c (rs:=IG (some x)) ht (λs b=>b)).1⟩
theorem NZ{E:Env}{a:Act}{w:World}{S':AS}(h:bw C S' E a w){sz m:Nat}[D:ku P T E0 sz]{K hi:Option Operand}{i j:Int}(hlo:T3 S 0 K i)(I:T3 S m hi j)(ht:∀s∈IG K++IG hi,S'.t s=S.t s){A:Option Addr}{c:Nat}(H:a.eval x=.slice A m c)(hc:m<=c)(h0:0<=i)(h1:i<=j)(h2:j<=m):
  (execOp a.eval ⟨some d,.slice T x K hi none,ty,pos,aft,gd⟩).run P w=.ok (.value (.slice (if c=i.toNat then A else A.map (·.add (i.toNat*sz))) (j.toNat-i.toNat) (c-i.toNat))) w:=by
 have n:=Wi h hlo (λs b=>ht s (List.mem_append_left _ b));have o:=Wi h I (λs b=>ht s (List.mem_append_right _ b));obtain⟨l,f⟩:=Int.eq_ofNat_of_zero_le h0;obtain⟨k,b⟩:=Int.eq_ofNat_of_zero_le (show 0<=j by omega);have q:l<=k:=by omega
 have e:k<=m:=by omega
 have g:k<=c:=by omega
 have e:=D.size w;rcases n with⟨rfl,n⟩|⟨p,r,rfl,n⟩<;>rcases o with⟨rfl,o⟩|⟨r,p,rfl,o⟩
 ·have r:l=0:=by omega
  have p:k=m:=by omega
  simp[execOp,H,Instr.sliceAt,Instr.slice,underlying,D.u,Instr.sliceBounds,e,f,b,r,p]
 ·have r:l=0:=by omega
  simp[execOp,H,Instr.sliceAt,Instr.slice,underlying,D.u,Instr.sliceBounds,Instr.sliceBound,asIntOf,o,e,f,b,r,g]
 ·have p:k=m:=by omega
  have k:l<=m:=by omega
  simp[execOp,H,Instr.sliceAt,Instr.slice,underlying,D.u,Instr.sliceBounds,Instr.sliceBound,asIntOf,n,e,f,b,p,k]
 simp[execOp,H,Instr.sliceAt,Instr.slice,underlying,D.u,Instr.sliceBounds,Instr.sliceBound,asIntOf,n,o,e,f,b,g,q]
theorem ajL[tS:ku P T E0 n]{I hi:Option Operand}{i j:Int}{f:List α->Option R}(hx:S.ev x=.sv (slc n (l.map e)))(h:Option.bind (Kk l i j) f=some r)(D:∀l',f l'=some r->Nx P C ops nd K rest acc S (rg++(bD x++(IG I++IG hi))) [] ⟨some (d,(.sv (slc n (l'.map e)))),[]⟩)(hlo:T3 S 0 I i:=by first|exact⟨_,Y⟩|exact rfl)(H:T3 S l.length hi j:=by first|exact⟨_,Y⟩|exact rfl)(hg:Gd ops S gd rg:=by first|exact .none|exact .some Y Y)(hd:d<S.n:=by exact tl Y):RunT P C ops nd K (⟨some d,.slice T x I hi none,ty,pos,aft,gd⟩::rest) acc S:=
 by
 obtain⟨g,b,h⟩:=bind_some h;obtain⟨q,o,p,rfl⟩:=XX b;refine aeY hg _ [] _ hd ζ (λS' ht _ E a w m=>?_) (D _ h);obtain⟨A,c,ev,k,b⟩:=aeU (m.qy hx ht (λ_ h=>List.mem_append_left _ h)).1;rw[List.length_map]at ev k b;have g:=b i.toNat j.toNat ω ω;rw[aeV]at g;exact⟨_,NZ (S:=S) m hlo H (λs b=>ht s (List.mem_append_right _ b)) ev k q o p,g,rz⟩
theorem SV.jN.ZD{M:Mem}:∀{l:List SV} {vs:List Value},SV.jN M l vs->∀i m,SV.jN M ((l.drop i).take m) ((vs.drop i).take m)
 |[],[],_,i,m=>by simp;trivial
 |s::l,v::vs,h,0,0=>trivial
 |s::l,v::vs,h,0,m+1=>⟨h.1,by have:=SV.jN.ZD h.2 0 m;simpa using this⟩
 |s::l,v::vs,h,i+1,m=>by have:=SV.jN.ZD h.2 i m;simpa using this
 |[],_::_,h,_,_=>h.elim
 |_::_,[],h,_,_=>h.elim
theorem ajg{f off:Nat}[hf:kH P T f off U][H:uG P U]{cs:List SV}{s:SV}(hx:S.ev x=.sv (.agg cs))(hs:cs[off]? =some s)(D:Nx P C ops nd K rest acc S (rg++bD x) [] ⟨some (d,.sv s),[]⟩)(I:Gd ops S gd rg:=by first|exact .none|exact .some Y Y)(hd:d<S.n:=by exact tl Y):RunT P C ops nd K (⟨some d,.field T x f,ty,pos,aft,gd⟩::rest) acc S:=
 aeY I _ [] _ hd ζ (λS' ht _ E a w h=>by
  obtain⟨vs,i,b⟩:=(h.qy hx ht (λ_ h=>h)).1;obtain⟨u,j,c⟩:=b.get hs;refine⟨u,?_,c,rz⟩;have b:=hf.h;cases e:P.underlying T with
  |none=>rw[e]at b;cases b
  |some c=>
   rw[e]at b;cases c with
   |struct g=>
    simp only at b;cases c:g[f]? with
    |none=>rw[c]at b;cases b
    |some F=>
     rw[c]at b;simp only[Option.map_some,Option.some.injEq,Prod.mk.injEq]at b;obtain⟨g,k⟩:=b;simp[execOp,Instr.field,underlying,e,c,i,asAgg,part,g,k,H.isAgg,j]
   |_=>cases b) D
theorem anE{pl:List (Nat×Nat)}{zc:List Value}[tP:dx P T pl zc]{parts:Array (Nat×Operand)}{qs:List (Nat×List SV)}{cs cs':List SV}(hp:Bv S parts.toList qs)(hi:yG cs cs')(next:Nx P C ops nd K rest acc S (rg++yI parts.toList) [] ⟨some (d,.sv (.agg cs')),[]⟩)(hf:Dq (λi=>pl[i]?) (zc.map SV.v) qs=some cs:=by exact rfl)(hg:Gd ops S gd rg:=by first|exact .none|exact .some Y Y)(hd:d<S.n:=by exact tl Y):RunT P C ops nd K (⟨some d,.build T parts,ty,pos,aft,gd⟩::rest) acc S:=
 aeY hg (yI parts.toList) [] (.sv (.agg cs')) hd ζ (λS' ht _ E a w h=>by
  have b:=tP.h;cases e:P.underlying T with
  |none=>rw[e]at b;cases b
  |some u=>
   rw[e]at b;cases u with
   |struct g=>
    simp only at b;have hz:(zeroValue T).run P w=.ok (.agg ⟨zc⟩) w:=ez.run (t:=⟨tP.hz⟩) w;obtain⟨us,j,c,_⟩:=RK h (λi=>pl[i]?) hp ht (cells:=zc.map SV.v) (vs:=zc) (SV.jN.GP _ zc) (List.all_eq_true.1 tP.o) hf;refine⟨.agg ⟨us⟩,?_,⟨us,Y,hi.holds c⟩,rz⟩;have k:(g.mapM (λf=>do pure (f.offset,<-sizeOf f.type):Field->Sem (Nat×Nat))).run P w=.ok pl.toArray w:=by
     have:=Bw (P:=P) (w:=w) b;rw[<-Array.toArray_toList (xs:=g),List.mapM_toArray];rw[Sem.run_map,this];rfl
    have c:Instr.fill (λi=>pl.toArray[i]?) ⟨zc⟩ (parts.toList.map λp=>(p.1,a.eval p.2))=some ⟨us⟩:=by simpa using j
    simp only[execOp,Instr.build,underlying];simp only[Sem.run_bind,hz,Result.andThen_ok,run_program,e,Sem.run_pure,Value.cells];have e:(Array.mapM (λf=>do
      let __do_lift<-sizeOf f.type
      pure (f.offset,__do_lift)) g:Sem _).run P w=.ok pl.toArray w:=k
    simp only[e,Result.andThen_ok];have e:(Array.map (λx=>match x with|(i,x)=>(i,a.eval x)) parts).toList=parts.toList.map λp=>(p.1,a.eval p.2):=by simp
    simp only[e,c,Sem.run_pure,Result.andThen_ok]
   |_=>cases b) next
theorem anF(hg:Gd ops S gd rg){H:Op}(D:∀c,H≠ .defer c)(rs:List Nat)(s:SV)(hd:d<S.n)(I:∀S':AS,(∀s∈rs,S'.t s=S.t s)->∀E a w,bw C S' E a w->∃v E' w',(execOp a.eval ⟨some d,H,ty,pos,aft,gd⟩).run P w=.ok (.value v) w'/\bw C S' E' a w'/\s.h E'.M v)
  (next:Nx P C ops nd K rest acc S (rg++rs) [] ⟨some (d,.sv s),[]⟩):RunT P C ops nd K (⟨some d,H,ty,pos,aft,gd⟩::rest) acc S:=
 ahx hg rs [] (.sv s) [] hd D (λS' _ ht _ E a w h=>by obtain⟨v,E',w',b,f,e⟩:=I S' ht E a w h;exact⟨v,E',w',b,f,e,rz⟩) next
theorem aeI[tS:ku P T E0 n][tE:oh P E0 n by_ zv]{len:Nat}{parts:Array (Nat×Operand)}{qs:List (Nat×List SV)}(hp:Bv S parts.toList qs)(I:qs.map (·.2)=l.map e)(H:Nx P C ops nd K rest acc S (rg++yI parts.toList) [] ⟨some (d,.sv (slc n (l.map e))),[]⟩)(hc:GW 0 qs=true:=by exact rfl)(hl:qs.length=len:=by exact rfl)(hsz:(qs.all λq=>Nat.beq q.2.length n)=true:=by exact rfl)(D:Nat.ble (len*n) 16777216=true:=by exact rfl)(hz1:(zv.cells.toList.all λv=>v.oneCell')=true:=by exact rfl)(hg:Gd ops S gd rg:=by first|exact .none|exact .some Y Y)(hd:d<S.n:=by exact tl Y):RunT P C ops nd K (⟨some d,.buildSlice T len parts,ty,pos,aft,gd⟩::rest) acc S:=
 by
 rw[<-I]at H
 refine anF hg ζ _ _ hd (λS' ht E a w h=>?_) H
 obtain⟨vs,hr,f,c⟩:=vJ (P:=P) (T:=T) (E0:=E0) (n:=n) (by_:=by_) (zv:=zv) (d:=d) (ty:=ty) (pos:=pos) (aft:=aft) (gd:=gd) h hp ht hc hl hsz (af D) (List.all_eq_true.1 hz1);refine⟨_,_,_,hr,h.ajB vs E0 c,?_⟩;have g:Rows n (qs.map (·.2)) (qs.map (·.2)).flatten:=⟨Y,λr hr=>by
  obtain⟨q,i,rfl⟩:=List.mem_map.1 hr;exact Nat.eq_of_beq_eq_true (List.all_eq_true.1 hsz q i)⟩
 have m:=tE.p;have i:len<=16777216:=Nat.le_trans (Nat.le_mul_of_pos_right _ m) (af D);refine .inr ⟨w.heap.size,0,len,by rw[List.length_map,hl],by rw[List.length_map,hl];exact Nat.le_refl _,by rw[List.length_map,hl];omega,λk i t=>?_⟩;obtain⟨m,u⟩:=Kp g k i t;refine⟨m,λj s t=>?_⟩;obtain⟨y,i,g⟩:=f.get (u j s t);refine⟨y,by simp[Mem.add,i],c y (List.mem_of_getElem? i),s.mono (λb o v e=>?_) g⟩;have:b≠w.heap.size:=by rintro rfl;have:=qw h.kf e;omega
 simp[Mem.add,this,e]
theorem aP{i:Nat}{ss:List SV}{s:SV}(hx:S.ev x=.sv (.lK ss))(I:ss[i]? =some s)(D:Nx P C ops nd K rest acc S (rg++bD x) [] ⟨some (d,.sv s),[]⟩)(H:Gd ops S gd rg:=by first|exact .none|exact .some Y Y)(hd:d<S.n:=by exact tl Y):RunT P C ops nd K (⟨some d,.extract x i,ty,pos,aft,gd⟩::rest) acc S:=
 aeY H _ [] _ hd ζ (λS' ht _ E a w h=>by
  obtain⟨vs,c,b⟩:=(h.qy hx ht (λ_ h=>h)).1;obtain⟨u,e,f⟩:=b.get I;exact⟨u,by simp[execOp,c,Instr.extract,e],f,rz⟩) D
theorem ank{i:Nat}{ss:List AV}{s:AV}(hx:S.ev x=.lK ss)(H:ss[i]? =some s)(D:Nx P C ops nd K rest acc S (rg++bD x) [] ⟨some (d,s),[]⟩)(I:Gd ops S gd rg:=by first|exact .none|exact .some Y Y)(hd:d<S.n:=by exact tl Y):RunT P C ops nd K (⟨some d,.extract x i,ty,pos,aft,gd⟩::rest) acc S:=
 aeY I _ [] _ hd ζ (λS' ht _ E a w h=>by
  obtain⟨⟨vs,c,b⟩,hl⟩:=h.qy hx ht (λ_ h=>h);obtain⟨u,e,f⟩:=b.get H;exact⟨u,by simp[execOp,c,Instr.extract,e],f,λj hj=>hl j (NV (List.mem_of_getElem? H) hj)⟩) D
end steps
end
section
open Go.RowKit
def Env.rC(E:Env)(d:Nat)(v:Value)(r:Nat->Value):Env:={E with ν:=λj=>if j=d then v else E.ν j,ρ:=λj=>if j=d then r else E.ρ j,κ:=λj=>if j=d then r else E.κ j}
theorem Env.lX(E:Env)(d:Nat)(v:Value)(r:Nat->Value):(E.rC d v r).ν d=v/\(E.rC d v r).ρ d=r:=⟨if_pos Y,if_pos Y⟩
theorem Env.ZF(E:Env)(d:Nat)(v:Value)(r:Nat->Value)(D:Bool)(k:Nat):(E.rC d v r).rv D d k=r k:=by cases D<;>simp[Env.rv,Env.rC]
theorem Env.ae3(E:Env){d j:Nat}(v:Value)(r:Nat->Value)(h:j≠d)(D:Bool)(k:Nat):(E.rC d v r).rv D j k=E.rv D j k:=by cases D<;>simp[Env.rv,Env.rC,h]
theorem Env.vh(E:Env){d j:Nat}(v:Value)(r:Nat->Value)(h:j≠d):(E.rC d v r).ν j=E.ν j/\(E.rC d v r).ρ j=E.ρ j:=⟨if_neg h,if_neg h⟩
section
variable {C:Ctx}{S:AS}{E E':Env}{a:Act}{w w':World}
theorem Bz:∀(l:List (Nat×Ob)) (i:Nat),cB l i≠some none
 |[],_,h=>by cases h
 |(k,x)::l,i,h=>by
  rw[cB]at h;cases e:cB l i with
  |some y=>rw[e]at h;cases h;exact Bz l i e
  |none=>
   rw[e]at h;by_cases q:i=k
   ·simp[q]at h
   simp[q]at h
theorem BA:∀{obs:List (Nat×Ob)} {i:Nat} {ob:Ob},(i,ob)∈obs->∃a,cB obs i=some (some a)
 |(k,x)::l,i,ob,h=>by
  rw[cB];cases e:cB l i with
  |some y=>
   cases y with
   |some y=>exact⟨y,Y⟩
   |none=>exact absurd e (Bz l i)
  |none=>
   rcases List.mem_cons.1 h with h|h
   ·cases h;exact⟨x,by simp⟩
   obtain⟨y,a⟩:=BA h;rw[e]at a;cases a
theorem bw.trO(h:bw C S E a w)(obs:List (Nat×Ob))(H:List Nat)(I:∀j∈H,∃ob,(j,ob)∈obs)(K:E'.O=E.O)(hM:E.M.le E'.M)
  (hMn:∀b o v,E'.M b o=some v->E.M b o=some v\/w.heap.size<=b\/∃j∈H,∃ob t,S.o j=some ob/\ob.kM E j t b) (hin:E'.M.kf w')
  (hν:∀i,S.o i≠none\/C.qZ i=true->E'.ν i=E.ν i/\E'.ρ i=E.ρ i) (hκ:∀i,S.o i≠none->cB obs i=none->E'.κ i=E.κ i)
  (hs:∀k,k<w.heap.size->(∀j∈H,∀ob t,S.o j=some ob->¬ob.kM E j t k)->w'.heap[k]? =w.heap[k]?) (hos:w'.os=w.os) (htp:w'.tape=w.tape) (hout:w'.output=w.output) (hsz:w.heap.size<=w'.heap.size)
  (hnew:∀i ob,cB obs i=some (some ob)->ob.ok E' w' i/\(∀x∈ob.IB,(AS.ia obs S).lG x)/\∀t g,ob.kM E' i t g->((∃j∈H,∃ob t,S.o j=some ob/\ob.kM E j t g)\/w.heap.size<=g)/\∀o,E'.M g o=none)
  (hinj:∀i ob t j D u g,cB obs i=some (some ob)->cB obs j=some (some D)->ob.kM E' i t g->D.kM E' j u g->i=j/\t=u):bw C (AS.ia obs S) E' a w':=by
 obtain⟨s,r,p,q⟩:=va obs S;have n:=vb obs S;have f:∀i ob,cB obs i≠none->(AS.ia obs S).o i=some ob->cB obs i=some (some ob):=λi ob d c=>by
  rw[n]at c;cases e:cB obs i with
  |none=>exact absurd e d
  |some y=>rw[e]at c;simp at c;rw[c]
 refine h.tr (λi=>cB obs i≠none) (λg=>∃j∈H,∃ob t,S.o j=some ob/\ob.kM E j t g) (λg ⟨j,_,ob,t,l,m⟩=>⟨j,ob,t,l,m⟩) s r p q K hM hMn hin hν (λi p d=>hκ i p (Classical.byContradiction d))
  (λk p q=>hs k p (λj hj ob t l m=>q ⟨j,hj,ob,t,l,m⟩)) hos htp hout hsz (λi c=>?_) (λi ob d c=>?_) (λi ob d c=>hnew i ob (f i ob d c)) (λi ob t j D u g d p c hj=>hinj i ob t j D u g (f i ob d c) (f j D p hj))
 ·rw[n];cases e:cB obs i with
  |none=>exact c
  |some y=>
   cases y with
   |some y=>simp
   |none=>exact absurd e (Bz obs i)
 have e:cB obs i=none:=Classical.byContradiction d;rw[n,e]at c;have c:S.o i=some ob:=c;refine⟨c,λt g d ⟨j,hj,D,u,l,m⟩=>?_⟩;obtain⟨f,_⟩:=h.inj i ob t j D u g c l d m;subst f;obtain⟨c,d⟩:=I i hj;obtain⟨y,c⟩:=BA d;rw[e]at c;cases c
theorem bw.hno(h:bw C S E a w){g:Nat}(D:w.heap.size<=g)(o:Nat):E.M g o=none:=by
 cases e:E.M g o with
 |none=>rfl
 |some v=>have:=qw h.kf e;omega
theorem bw.new(h:bw C S E a w){d:Nat}(I:S.o d=none)(hp:C.qZ d=false)(v:Value)(r:Nat->Value)(ob:Ob)(D:ob.ok (E.rC d v r) w' d)(hl:∀x∈ob.IB,S.lG x)(H:∀t g,ob.kM (E.rC d v r) d t g->w.heap.size<=g)(K:∀t u g,ob.kM (E.rC d v r) d t g->ob.kM (E.rC d v r) d u g->t=u)
  (hb:Below w.heap.size w w'):bw C (AS.ia [(d,ob)] S) (E.rC d v r) a w':=by
 refine h.trO [(d,ob)] [] η rfl (Mem.le_refl _) (λ_ _ _ e=>.inl e) (iG h.kf λb ⟨o,v,e⟩=>hb.block b (qw h.kf e)) (λi c=>E.vh _ _ (by rintro rfl;rcases c with q|q;exact q I;rw[hp]at q;cases q)) (λi f _=>if_neg (by rintro rfl;exact f I)) (λk f _=>hb.block k f) hb.os hb.tape hb.output hb.size (λi l c=>?_) (λi l t j p u g c f n y=>?_)
 ·have e:i=d/\l=ob:=by
   by_cases q:i=d
   ·subst q;simp[cB]at c;exact⟨Y,c.symm⟩
   simp[cB,q]at c
  obtain⟨rfl,rfl⟩:=e;refine⟨D,λx s j hj=>?_,λt g m=>⟨.inr (H t g m),h.hno (H t g m)⟩⟩;have:=hl x s j hj;show(AS.Pf S i l).o j≠none;by_cases q:j=i
  ·subst q;rw[AS.yD];simp
  rw[AS.vG _ _ _ _ q];exact this
 have m:i=d/\l=ob:=by
  by_cases q:i=d
  ·subst q;simp[cB]at c;exact⟨Y,c.symm⟩
  simp[cB,q]at c
 have c:j=d/\p=ob:=by
  by_cases q:j=d
  ·subst q;simp[cB]at f;exact⟨Y,f.symm⟩
  simp[cB,q]at f
 obtain⟨rfl,rfl⟩:=m;obtain⟨rfl,rfl⟩:=c;exact⟨Y,K t u g n y⟩
theorem bw.chg(h:bw C S E a w){j:Nat}{ob:Ob}(hj:S.o j=some ob)(iU:Ob)(H:iU.ok E w' j)(hl:∀x∈iU.IB,S.lG x)(D:∀t g,iU.kM E j t g->ob.kM E j t g)
  (hs:∀k,k<w.heap.size->(∀t,¬ob.kM E j t k)->w'.heap[k]? =w.heap[k]?) (hos:w'.os=w.os) (htp:w'.tape=w.tape) (hout:w'.output=w.output) (hsz:w.heap.size<=w'.heap.size):bw C (AS.ia [(j,iU)] S) E a w':=by
 have one:∀i c,cB [(j,iU)] i=some (some c)->i=j/\c=iU:=λi c d=>by
  by_cases q:i=j
  ·subst q;simp[cB]at d;exact⟨Y,d.symm⟩
  simp[cB,q]at d
 have l:∀k,k<w.heap.size->(∀i∈[j],∀ob t,S.o i=some ob->¬ob.kM E i t k)->w'.heap[k]? =w.heap[k]? :=λk f m=>hs k f (λt=>m j η ob t hj);refine h.trO [(j,iU)] [j] η rfl (Mem.le_refl _) (λ_ _ _ e=>.inl e) (iG h.kf λb ⟨o,v,e⟩=>hs b (qw h.kf e) (λt ht=>by have e:E.M b o=some v:=e;rw[(h.mine j ob t b hj ht).2.1 o]at e;cases e)) (λ_ _=>⟨rfl,rfl⟩) (λ_ _ _=>rfl) l hos htp hout hsz (λi c d=>?_) (λi c t i' ob3 u g d l n r=>?_)
 ·obtain⟨rfl,rfl⟩:=one i c d;refine⟨H,λx p k f=>?_,λt g m=>⟨.inl ⟨i,by simp,ob,t,hj,D t g m⟩,(h.mine i ob t g hj (D t g m)).2.1⟩⟩;have:=hl x p k f;show(AS.Pf S i c).o k≠none;by_cases q:k=i
  ·subst q;rw[AS.yD];simp
  rw[AS.vG _ _ _ _ q];exact this
 obtain⟨rfl,rfl⟩:=one i c d;obtain⟨rfl,rfl⟩:=one i' ob3 l;exact h.inj _ ob t _ ob u g hj hj (D t g n) (D u g r)
theorem bw.mov(h:bw C S E a w){j d:Nat}{ob:Ob}(hj:S.o j=some ob)(H:S.o d=none)(hp:C.qZ d=false)(v:Value)(r:Nat->Value)(iU:Ob)(hok:iU.ok (E.rC d v r) w' d)(hl:∀x∈iU.IB,S.lG x)
  (hc:∀t g,iU.kM (E.rC d v r) d t g->(∃u,ob.kM E j u g)\/w.heap.size<=g) (D:∀t u g,iU.kM (E.rC d v r) d t g->iU.kM (E.rC d v r) d u g->t=u)
  (hs:∀k,k<w.heap.size->(∀t,¬ob.kM E j t k)->w'.heap[k]? =w.heap[k]?) (hos:w'.os=w.os) (htp:w'.tape=w.tape) (hout:w'.output=w.output) (hsz:w.heap.size<=w'.heap.size):bw C (AS.ia [(j,.dead),(d,iU)] S) (E.rC d v r) a w':=by
 have hne:j≠d:=by rintro rfl;rw[hj]at H;cases H
 have two:∀i f,cB [(j,.dead),(d,iU)] i=some (some f)->(i=d/\f=iU)\/(i=j/\f=.dead):=λi f D=>by
  by_cases q:i=d
  ·subst q;simp[cB]at D;exact .inl ⟨Y,D.symm⟩
  by_cases q':i=j
  ·subst q';simp[cB,q]at D;exact .inr ⟨Y,D.symm⟩
  simp[cB,q,q']at D
 have hs':∀k,k<w.heap.size->(∀i∈[j],∀ob t,S.o i=some ob->¬ob.kM E i t k)->w'.heap[k]? =w.heap[k]? :=λk hk c=>hs k hk (λt=>c j η ob t hj);refine h.trO [(j,.dead),(d,iU)] [j] η rfl (Mem.le_refl _) (λ_ _ _ e=>.inl e) (iG h.kf λb ⟨o,v,e⟩=>hs b (qw h.kf e) (λt ht=>by have e:E.M b o=some v:=e;rw[(h.mine j ob t b hj ht).2.1 o]at e;cases e)) (λi c=>E.vh _ _ (by rintro rfl;rcases c with q|q;exact q H;rw[hp]at q;cases q)) (λi l _=>if_neg (by rintro rfl;exact l H)) hs' hos htp hout hsz (λi f c=>?_) (λi f t i' ob3 u g c n l m=>?_)
 ·rcases two i f c with⟨rfl,rfl⟩|⟨rfl,rfl⟩
  ·refine⟨hok,λx hx k hk=>?_,λt g p=>?_⟩
   ·have:=hl x hx k hk;rw[vb];cases e:cB [(j,Ob.dead),(i,f)] k with
    |none=>exact this
    |some y=>
     by_cases q:k=i
     ·subst q;simp[cB]at e;subst e;simp
     by_cases q':k=j
     ·subst q';simp[cB,q]at e;subst e;simp
     simp[cB,q,q']at e
   rcases hc t g p with⟨u,hu⟩|e
   ·exact⟨.inl ⟨j,by simp,ob,u,hj,hu⟩,(h.mine j ob u g hj hu).2.1⟩
   exact⟨.inr e,h.hno e⟩
  exact⟨an,λ_ h=>(by cases h),λ_ _ h=>h.elim⟩
 rcases two i f c with⟨rfl,rfl⟩|⟨rfl,rfl⟩
 ·rcases two i' ob3 n with⟨rfl,rfl⟩|⟨rfl,rfl⟩
  ·exact⟨Y,D t u g l m⟩
  exact m.elim
 exact l.elim
end
def lj(w:World)(b:Nat)(vs:List Value)(T:TypeId):World:={w with heap:=w.heap.setIfInBounds b (.cells ⟨vs⟩ T (0,0))}
theorem RM{w:World}{b o:Nat}{vs:List Value}{T:TypeId}(D:w.heap[b]? =some (.cells ⟨vs⟩ T (0,0)))(u:Value):w.setCell ⟨b,o,none⟩ u=lj w b (vs.set o u) T:=by
 have a:=(Array.getElem?_eq_some_iff.1 D);unfold World.setCell lj;congr 1;apply Array.ext_getElem?;intro i;rw[Array.getElem?_modify,Array.getElem?_setIfInBounds];by_cases h:b=i
 ·subst h;rw[if_pos Y,if_pos Y,if_pos a.1,D];simp
 rw[if_neg h,if_neg h]
theorem CU{w:World}{b:Nat}{vs us:List Value}{T:TypeId}(D:w.heap[b]? =some (.cells ⟨vs⟩ T (0,0))):(lj w b us T).heap[b]? =some (.cells ⟨us⟩ T (0,0)):=by
 have a:=(Array.getElem?_eq_some_iff.1 D);simp[lj,a.1]
theorem T4{w:World}{b:Nat}{us vs:List Value}{T:TypeId}:lj (lj w b us T) b vs T=lj w b vs T:=by simp[lj]
theorem RN{w:World}{b:Nat}{vs:List Value}{T:TypeId}(D:w.heap[b]? =some (.cells ⟨vs⟩ T (0,0))):lj w b vs T=w:=by
 have a:=(Array.getElem?_eq_some_iff.1 D);unfold lj;have:w.heap.setIfInBounds b (.cells ⟨vs⟩ T (0,0))=w.heap:=by
  apply Array.ext_getElem?;intro i;rw[Array.getElem?_setIfInBounds];by_cases h:b=i
  ·subst h;rw[if_pos Y,if_pos a.1,D]
  rw[if_neg h]
 rw[this]
theorem kT{w:World}{b k:Nat}{us:List Value}{T:TypeId}(h:k≠b):(lj w b us T).heap[k]? =w.heap[k]? :=by
 simp only[lj,Array.getElem?_setIfInBounds];rw[if_neg (Ne.symm h)]
theorem vK{P:Program}{b:Nat}{T:TypeId}:∀(us:List Value) (i o:Nat) (w:World) (vs:List Value),(∀u∈us,u.oneCell'=true)->w.heap[b]? =some (.cells ⟨vs⟩ T (0,0))->o+i+us.length<=vs.length->
  (storeCells ⟨b,o,none⟩ us i).run P w=.ok () (lj w b (pq vs (o+i) us) T)
 |[],i,o,w,vs,_,a,_=>by
  rw[pq,RN a];rfl
 |u::us,i,o,w,vs,c,a,hl=>by
  have f:=c u η;have e:w.cell? ⟨b,o+i,none⟩=some (vs[o+i]'(by simp at hl;omega)):=by simp[World.cell?,a]
  have g:w.frozen? ⟨b,o+i,none⟩=false:=by simp[World.frozen?,a]
  have d:=run_store P w ⟨b,o+i,none⟩ u .plain f;rw[e,g]at d;have e:=vK (P:=P) us (i+1) o (lj w b (vs.set (o+i) u) T) (vs.set (o+i) u) (λv a=>c v (List.mem_cons_of_mem _ a)) (CU a) (by simp at hl⊢;omega);rw[storeCells,pq];simp only[Sem.run_bind,mQ,d];simp only[Bool.false_eq_true,if_false,Result.andThen_ok];rw[RM a,e,T4];rfl
theorem BB{P:Program}{ρ:Operand->Value}{T U:TypeId}{x y:Operand}{ty:TypeId}{pos:String}{aft:Array Edge}{gd:Option (Nat×Bool)}{b o n:Nat}{vs us:List Value}{w:World}(H:ρ x=.pointer (some ⟨b,o,none⟩))(I:(ρ y).cells=⟨us⟩)(D:∀u∈us,u.oneCell'=true)(K:(sizeOf T).run P w=.ok n w)(hn:us.length=n)
  (hv:w.heap[b]? =some (.cells ⟨vs⟩ U (0,0))) (hl:o+n<=vs.length):(execOp ρ ⟨none,.store T x y,ty,pos,aft,gd⟩).run P w=.ok .skip (lj w b (pq vs o us) U):=by
 have a:=vK (P:=P) us 0 o w vs D hv ω;simp only[execOp,H,Instr.storeAt,Instr.sureAddr,storeVar,I];simp only[Sem.run_bind,Sem.run_pure,Result.andThen_ok,K];simp only[show ¬(us.length≠n)from by omega,List.size_toArray,if_false];simp only[Nat.add_zero]at a;simp only[Result.andThen_ok,a]
theorem Wj{E:Env}:∀{xs:List AV} {us:List Value} {l:List AV} {vs:List Value} {k:Nat},jc E l vs->jc E xs us->jc E (pq l k xs) (pq vs k us)
 |[],[],_,_,_,h,_=>h
 |s::xs,u::us,l,vs,k,h,a=>by rw[pq,pq];exact Wj (h.set a.1) a.2
 |[],_::_,_,_,_,_,h=>h.elim
 |_::_,[],_,_,_,_,h=>h.elim
theorem Pj{α:Type}:∀(xs l:List α) (k:Nat) (x:α),x∈pq l k xs->x∈l\/x∈xs:=by
 intro xs
 induction xs with
 |nil=>intro l k x a;exact .inl a
 |cons z xs b=>
  intro l k x a;rw[pq]at a;rcases b _ _ _ a with b|b
  ·rcases List.mem_or_eq_of_mem_set b with a|a
   ·exact .inl a
   exact .inr (by simp[a])
  exact .inr (List.mem_cons_of_mem _ b)
inductive I5 (S:AS):List Nat->AV->Prop
 |sv {s:SV} [o:One s]:I5 S [] (.sv s)
 |ptr {i o:Nat}:I5 S [] (.ptr i o)
 |sl {i o l:Nat}:I5 S [] (.sl i o l)
 |fn {f:FuncId} {b c:List AV}:I5 S [] (.fn f b c)
 |ob {i:Nat} {T:TypeId} {sz n:Nat} {cs:List SV} (h:S.o i=some (.row T sz n cs)):I5 S [i] (.ob i)
 |mt {i:Nat} {T U:TypeId} {sz:Nat} {rs:List (Nat×List SV)} {f:List (Nat×Nat)} {lk:Bool} (h:S.o i=some (.vF T U sz rs f lk)):I5 S [i] (.ob i)
theorem Wk{w:World}{b:Nat}{T:TypeId}{sz n:Nat}{v:Value}{xs:List Value}(h:w.ownsRow b T sz v n xs):v.oneCell'=true:=by
 rcases h.2 with⟨rfl,_⟩|⟨_,_,_,rfl,_⟩<;>rfl
theorem I5.one{C:Ctx}{S S':AS}{E:Env}{a:Act}{w:World}{I:List Nat}{x:AV}(K:I5 S I x)(h:bw C S' E a w)(H:∀i∈I,S'.o i=S.o i){v:Value}(D:x.holds E v):v.oneCell'=true:=by
 cases K with
 | @sv s o=>exact o.h _ _ D
 |ptr=>obtain⟨_,_,rfl⟩:=D;rfl
 |sl=>obtain⟨_,_,_,rfl,_⟩:=D;rfl
 |fn=>obtain⟨_,_,rfl,_⟩:=D;rfl
 |ob e=>obtain⟨vs,b,_⟩:=h.ob _ _ ((H _ η).trans e);have D:v=_:=D;rw[D];exact Wk b
 |mt e=>obtain⟨⟨us,b,_⟩,_⟩:=h.ob _ _ ((H _ η).trans e);have D:v=_:=D;rw[D];exact Wk b
section steps
variable {P:Program}{C:Ctx}{ops:Array Oper}{S:AS}{nd:Bool}{K:List Ac->AS->Prop}{rest:List Oper}{acc:List Ac}
variable {gd:Option (Nat×Bool)}{rg:List Nat}{d:Nat}{ty:TypeId}{pos:String}{aft:Array Edge}{x y z:Operand}{T U E0:TypeId}
theorem amO(D:Gd ops S gd rg){I:Op}(H:∀c,I≠ .defer c)(rs ro:List Nat){cells:List AV}(hd:d<S.n)(hb:S.o d=none)(hp:C.qZ d=false)
  (hv:∀S':AS,(∀s∈rs,S'.t s=S.t s)->(∀i∈d::ro,S'.o i=S.o i)->∀E a w,bw C S' E a w->∃vs:List Value,(execOp a.eval ⟨some d,I,ty,pos,aft,gd⟩).run P w=.ok (.value (.pointer (some ⟨w.heap.size,0,none⟩))) (w.alloc (.cells ⟨vs⟩ T))/\jc E cells vs/\∀x∈cells,S'.lG x)
  (next:Nx P C ops nd K rest acc S (rg++rs) (d::ro) ⟨some (d,.ptr d 0),[(d,.box T cells)]⟩):RunT P C ops nd K (⟨some d,I,ty,pos,aft,gd⟩::rest) acc S:=by
 refine ahx D rs (d::ro) (.ptr d 0) [(d,.box T cells)] hd H (λS' _ ht k E a w h=>?_) next
 obtain⟨vs,f,m,p⟩:=hv S' ht k E a w h;have b:S'.o d=none:=by rw[k d η];exact hb
 have k:∀x∈cells,∀j∈x.refs,j≠d:=λx l j hj e=>p x l j hj (by rw[e];exact b);have q:jc (E.rC d (.pointer (some ⟨w.heap.size,0,none⟩)) (E.ρ d)) cells vs:=jc.congr (E:=E) (E':=E.rC d (.pointer (some ⟨w.heap.size,0,none⟩)) (E.ρ d)) (Mem.le_refl _) cells (λj hj=>by obtain⟨x,l,hj⟩:=Br hj;exact E.vh _ _ (k x l j hj)) vs m;refine⟨_,_,_,f,h.new b hp (.pointer (some ⟨w.heap.size,0,none⟩)) (E.ρ d) (.box T cells) ⟨w.heap.size,vs,(E.lX _ _ _).1,World.alloc_heap_new w _,q⟩ p (λt g D=>?_) (λt u g f m=>?_) ((Below.refl _ _).alloc (Nat.le_refl _) _),⟨w.heap.size,by rw[(E.lX _ _ _).1];rfl,Y⟩,λj hj=>?_⟩
 ·cases t with
  |some _=>exact D.elim
  |none=>have D:blk _=some g:=D;rw[(E.lX _ _ _).1]at D;cases D;exact Nat.le_refl _
 ·cases t with
  |some _=>exact f.elim
  |none=>cases u with
   |some _=>exact m.elim
   |none=>rfl
 have:j=d:=by simpa[AV.refs]using hj
 subst this;show(AS.Pf S' j _).o j≠none;rw[AS.yD];simp
variable {zv:Value}
theorem acj{cells:List SV}(I:S.ev x=.sv (.agg cells))(D:Nx P C ops nd K rest acc S (rg++bD x) [d] ⟨some (d,.ptr d 0),[(d,.box T (cells.map AV.sv))]⟩)(H:Gd ops S gd rg:=by first|exact .none|exact .some Y Y)(hd:d<S.n:=by exact tl Y)(hb:S.o d=none:=by exact rfl)(hp:C.qZ d=false:=by exact rfl):RunT P C ops nd K (⟨some d,.box T x,ty,pos,aft,gd⟩::rest) acc S:=
 amO H ζ (bD x) [] hd hb hp (λS' ht _ E a w h=>by
  obtain⟨vs,c,b⟩:=(h.qy I ht (λ_ h=>h)).1;refine⟨vs,by simp[execOp,Instr.box,newVar,newRow,c,Value.cells],jc.IA b,λy e=>?_⟩;obtain⟨s,_,rfl⟩:=List.mem_map.1 e;exact rz) D
theorem anG{H:List Nat}{s:AV}(hx:S.ev x=s)(I:I5 S H s)(D:Nx P C ops nd K rest acc S (rg++bD x) (d::H) ⟨some (d,.ptr d 0),[(d,.box T [s])]⟩)(hg:Gd ops S gd rg:=by first|exact .none|exact .some Y Y)(hd:d<S.n:=by exact tl Y)(hb:S.o d=none:=by exact rfl)(hp:C.qZ d=false:=by exact rfl):RunT P C ops nd K (⟨some d,.box T x,ty,pos,aft,gd⟩::rest) acc S:=
 amO hg ζ (bD x) H (cells:=[s]) hd hb hp (λS' ht c E a w h=>by
  obtain⟨b,hl⟩:=h.qy hx ht (λ_ h=>h);refine⟨[a.eval x],by simp[execOp,Instr.box,newVar,newRow,je (I.one h (λi f=>c i (List.mem_cons_of_mem _ f)) b)],⟨b,an⟩,λy e=>?_⟩;obtain rfl:y=s:=by simpa using e
  exact hl) D
theorem aM[tz:ez P T zv]{cs:List SV}(H:yG (zv.cells.toList.map SV.v) cs)(D:Nx P C ops nd K rest acc S (rg++[]) [d] ⟨some (d,.ptr d 0),[(d,.box T (cs.map AV.sv))]⟩)(hg:Gd ops S gd rg:=by first|exact .none|exact .some Y Y)(I:d<S.n:=by exact tl Y)(hb:S.o d=none:=by exact rfl)(hp:C.qZ d=false:=by exact rfl):RunT P C ops nd K (⟨some d,.alloc T,ty,pos,aft,gd⟩::rest) acc S:=
 amO hg ζ [] [] I hb hp (λS' _ _ E a w h=>⟨zv.cells.toList,by simp[execOp,Instr.alloc,newVar,newRow,tz.run],jc.IA (H.holds (SV.jN.GP _ _)),λy b=>by
  obtain⟨s,_,rfl⟩:=List.mem_map.1 b;exact rz⟩) D
theorem Pm{S':AS}{E:Env}{a:Act}{w:World}(h:bw C S' E a w){j off:Nat}{cs:List AV}(hj:S'.o j=some (.box U cs))(D:(AV.ptr j off).holds E (a.eval x)):∃g vs,a.eval x=.pointer (some ⟨g,off,none⟩)/\E.ν j=.pointer (some ⟨g,0,none⟩)/\w.heap[g]? =some (.cells ⟨vs⟩ U (0,0))/\jc E cs vs:=by
 obtain⟨g,vs,c,d,f⟩:=h.ob j _ hj;obtain⟨i,b,e⟩:=D;rw[c]at b;cases b;exact⟨g,vs,e,c,d,f⟩
theorem aH[I:uG P T]{j off:Nat}{cs:List AV}{s:AV}(hx:S.ev x=.ptr j off)(hB:S.o j=some (.box U cs))(H:cs[off]? =some s)(D:Nx P C ops nd K rest acc S (rg++bD x) [j] ⟨some (d,s),[]⟩)(hg:Gd ops S gd rg:=by first|exact .none|exact .some Y Y)(hd:d<S.n:=by exact tl Y):RunT P C ops nd K (⟨some d,.load T x,ty,pos,aft,gd⟩::rest) acc S:=
 aeY hg (bD x) [j] s hd ζ (λS' ht c E a w h=>by
  have b:S'.o j=some (.box U cs):=(c j η).trans hB;obtain⟨g,vs,c,_,k,f⟩:=Pm h b (h.qy hx ht (λ_ h=>h)).1;obtain⟨u,e,i⟩:=f.get H;have f:w.cell? ⟨g,off,none⟩=some u:=by simp[World.cell?,k,e]
  exact⟨u,by simp[execOp,c,Instr.loadAt,Instr.sureAddr,loadVar,I.isAgg,f],i,h.wf.o j _ b s (List.mem_of_getElem? H)⟩) D
inductive Seg:List AV->Nat->List SV->Prop
 |nil {l:List AV} {off:Nat}:Seg l off []
 |cons {l:List AV} {off:Nat} {s:SV} {cs:List SV} (h:l[off]? =some (.sv s)) (t:Seg l (off+1) cs):Seg l off (s::cs)
theorem Seg.k2{l:List AV}{o:Nat}{a b:SV}(H:l[o]? =some (.sv a))(D:l[o+1]? =some (.sv b)):Seg l o [a,b]:=.cons H (.cons D .nil)
theorem Seg.k3{l:List AV}{o:Nat}{a b c:SV}(I:l[o]? =some (.sv a))(D:l[o+1]? =some (.sv b))(H:l[o+1+1]? =some (.sv c)):Seg l o [a,b,c]:=.cons I (.cons D (.cons H .nil))
theorem Seg.k4{l:List AV}{o:Nat}{a b c d:SV}(K:l[o]? =some (.sv a))(H:l[o+1]? =some (.sv b))(I:l[o+1+1]? =some (.sv c))(D:l[o+1+1+1]? =some (.sv d)):Seg l o [a,b,c,d]:=.cons K (.cons H (.cons I (.cons D .nil)))
theorem Seg.vals{E:Env}{l:List AV}{vs:List Value}(h:jc E l vs):∀{off:Nat} {cs:List SV},Seg l off cs->∃us:List Value,SV.jN E.M cs us/\∀(j:Nat) (v:Value),us[j]? =some v->vs[off+j]? =some v:=by
 intro off cs a
 induction a with
 |nil=>exact⟨[],an,by simp⟩
 | @cons off s cs b _ c=>
  obtain⟨us,e,d⟩:=c;obtain⟨x,c,a⟩:=h.get b;refine⟨x::us,⟨a,e⟩,λj v hj=>?_⟩;cases j with
  |zero=>simp at hj;subst hj;exact c
  |succ j=>rw[show off+(j+1)=off+1+j by omega];exact d j v (by simpa using hj)
theorem aK{m:Nat}[tA:vI P T m]{j off:Nat}{cs:List AV}{us:List SV}(hx:S.ev x=.ptr j off)(H:S.o j=some (.box U cs))(hs:Seg cs off us)(D:Nx P C ops nd K rest acc S (rg++bD x) [j] ⟨some (d,.sv (.agg us)),[]⟩)(hn:us.length=m:=by exact rfl)(I:Gd ops S gd rg:=by first|exact .none|exact .some Y Y)(hd:d<S.n:=by exact tl Y):RunT P C ops nd K (⟨some d,.load T x,ty,pos,aft,gd⟩::rest) acc S:=
 aeY I (bD x) [j] _ hd ζ (λS' ht c E a w h=>by
  obtain⟨g,vs,k,_,p,l⟩:=Pm h ((c j η).trans H) (h.qy hx ht (λ_ h=>h)).1;obtain⟨us,c,f⟩:=hs.vals l;have hl:=c.length;have:=xq (P:=P) (T:=T) (n:=m) (w:=w) (b:=g) (o:=off) (vs:=us) ω (λi v e=>by simp[World.cell?,p,f i v e]);exact⟨.agg ⟨us⟩,by simp[execOp,k,Instr.loadAt,Instr.sureAddr,this],⟨us,Y,c⟩,rz⟩) D
theorem akt(H:Gd ops S gd rg){j off n:Nat}{cs us:List AV}(rs ro:List Nat)(hx:S.ev x=.ptr j off)(D:S.o j=some (.box U cs))(hr:∀s∈bD x,s∈rs)(I:∀w:World,(sizeOf T).run P w=.ok n w)(hn:us.length=n)(hl:off+n<=cs.length)
  (hy:∀S':AS,(∀s∈rs,S'.t s=S.t s)->(∀i∈j::ro,S'.o i=S.o i)->∀E a w,bw C S' E a w->∃vs:List Value,(a.eval y).cells=⟨vs⟩/\jc E us vs/\(∀u∈vs,u.oneCell'=true)/\∀x∈us,S'.lG x)
  (next:Nx P C ops nd K rest acc S (rg++rs) (j::ro) ⟨none,[(j,.box U (pq cs off us))]⟩):RunT P C ops nd K (⟨none,.store T x y,ty,pos,aft,gd⟩::rest) acc S:=
 akN H rs (j::ro) _ ζ (λS' _ ht d E a w h=>by
  have c:S'.o j=some (.box U cs):=(d j η).trans D;obtain⟨g,vs,v,e,m,l⟩:=Pm h c (h.qy hx ht hr).1;obtain⟨r,q,f,A,p⟩:=hy S' ht d E a w h;have d:=f.length;have d:=l.length;refine⟨E,_,BB v q A (I w) ω m ω,h.chg c (.box U (pq cs off us)) ⟨g,pq vs off r,e,CU m,Wj l f⟩ (λz d=>?_) (λt b B=>by cases t<;>exact B) (λk F D=>kT (by rintro rfl;exact D none (by simp[Ob.kM,e,blk]))) rfl rfl rfl (by simp[lj])⟩;rcases Pj _ _ _ _ d with d|d
  ·exact h.wf.o j _ c z d
  exact p z d) next
theorem aeN[tV:uG P T]{j off:Nat}{cs:List AV}{H:List Nat}{s:AV}(hx:S.ev x=.ptr j off)(hB:S.o j=some (.box U cs))(hy:S.ev y=s)(I:I5 S H s)(D:Nx P C ops nd K rest acc S (rg++(bD x++bD y)) (j::H) ⟨none,[(j,.box U (cs.set off s))]⟩)(hl:Nat.ble (off+1) cs.length=true:=by exact rfl)(hg:Gd ops S gd rg:=by first|exact .none|exact .some Y Y):RunT P C ops nd K (⟨none,.store T x y,ty,pos,aft,gd⟩::rest) acc S:=
 akt hg (us:=[s]) _ H hx hB (λ_ h=>List.mem_append_left _ h) (λw=>tV.size w) Y (af hl) (λS' ht d E a w h=>by
  obtain⟨b,hl⟩:=h.qy hy ht (λ_ h=>List.mem_append_right _ h);have:=I.one h (λi c=>d i (List.mem_cons_of_mem _ c)) b;refine⟨[a.eval y],je this,⟨b,an⟩,by simpa using this,λz c=>?_⟩;obtain rfl:z=s:=by simpa using c
  exact hl) D
theorem anl[I:uG P T]{j off:Nat}{cs:List AV}{s X:SV}[H:One X](hi:SV.imp s X)(hx:S.ev x=.ptr j off)(hB:S.o j=some (.box U cs))(D:Nx P C ops nd K rest acc S (rg++(bD x++bD y)) [j] ⟨none,[(j,.box U (cs.set off (.sv X)))]⟩)(hy:S.ev y=.sv s:=by exact rfl)(hl:Nat.ble (off+1) cs.length=true:=by exact rfl)(hg:Gd ops S gd rg:=by first|exact .none|exact .some Y Y):RunT P C ops nd K (⟨none,.store T x y,ty,pos,aft,gd⟩::rest) acc S:=
 akt hg (us:=[.sv X]) _ [] hx hB (λ_ h=>List.mem_append_left _ h) (λw=>I.size w) Y (af hl) (λS' ht b E a w h=>by
  have b:=hi _ _ (h.qy hy ht (λ_ h=>List.mem_append_right _ h)).1;have:=H.h _ _ b;refine⟨[a.eval y],je this,⟨b,an⟩,by simpa using this,λz c=>?_⟩;obtain rfl:z=.sv X:=by simpa using c
  exact rz) D
theorem aJ{m:Nat}[tA:vI P T m]{j off:Nat}{cs:List AV}{us:List SV}[H:RC us](hx:S.ev x=.ptr j off)(hB:S.o j=some (.box U cs))(hy:S.ev y=.sv (.agg us))(D:Nx P C ops nd K rest acc S (rg++(bD x++bD y)) [j] ⟨none,[(j,.box U (pq cs off (us.map AV.sv)))]⟩)(I:us.length=m:=by exact rfl)(hl:Nat.ble (off+m) cs.length=true:=by exact rfl)(hg:Gd ops S gd rg:=by first|exact .none|exact .some Y Y):RunT P C ops nd K (⟨none,.store T x y,ty,pos,aft,gd⟩::rest) acc S:=
 akt hg (us:=us.map AV.sv) _ [] hx hB (λ_ h=>List.mem_append_left _ h) (λw=>tA.size w) (by simp[I]) (af hl) (λS' ht _ E a w h=>by
  obtain⟨vs,e,b⟩:=(h.qy hy ht (λ_ h=>List.mem_append_right _ h)).1;refine⟨vs,by rw[e];rfl,jc.IA b,H.h E.M vs b,λz c=>?_⟩;obtain⟨s,_,rfl⟩:=List.mem_map.1 c;exact rz) D
theorem aG{f off:Nat}[hf:kH P T f off U][sU:Dr P U]{j o H:Nat}(hx:S.ev x=.ptr j o)(I:o+off=H)(D:Nx P C ops nd K rest acc S (rg++bD x) [] ⟨some (d,.ptr j H),[]⟩)(hg:Gd ops S gd rg:=by first|exact .none|exact .some Y Y)(hd:d<S.n:=by exact tl Y):RunT P C ops nd K (⟨some d,.fieldAddr T x f,ty,pos,aft,gd⟩::rest) acc S:=
 aeY hg (bD x) [] _ hd ζ (λS' ht _ E a w h=>by
  obtain⟨⟨g,b,c⟩,hl⟩:=h.qy hx ht (λ_ h=>h);have:=IF (P:=P) (T:=T) (f:=f) (off:=off) (U:=U) sU.h g o w;exact⟨.pointer (some ⟨g,H,none⟩),by simp[execOp,c,this,I],⟨g,b,Y⟩,hl⟩) D
theorem aeB{i o:Nat}(I:S.ev x=.ptr i o)(D:Nx P C ops nd K rest acc S (rg++bD x) [] ⟨some (d,.ptr i o),[]⟩)(hg:Gd ops S gd rg:=by first|exact .none|exact .some Y Y)(H:d<S.n:=by exact tl Y):RunT P C ops nd K (⟨some d,.nilCheck x,ty,pos,aft,gd⟩::rest) acc S:=
 aeY hg (bD x) [] _ H ζ (λS' ht _ E a w h=>by
  obtain⟨⟨g,c,b⟩,hl⟩:=h.qy I ht (λ_ h=>h);exact⟨a.eval x,by simp[execOp,b],⟨g,c,b⟩,hl⟩) D
end steps
end
section
open Go.RowKit
theorem GX(D:Array Value)(n:Nat)(H:D.size=n)(I:0<n):∀m:Nat,(madeCells D (m*n)).toList=(List.replicate m D.toList).flatten
 |0=>by simp[madeCells]
 |m+1=>by
  have a:=GX D n H I m;rw[List.replicate_succ',List.flatten_append,<-a];simp only[madeCells,Array.toList_map,Array.toList_range,List.flatten_cons,List.flatten_nil,List.append_nil];rw[show(m+1)*n=m*n+n by rw[Nat.add_mul];omega,List.range_add,List.map_append,List.map_map];congr 1;apply List.ext_getElem?;intro i;rw[List.getElem?_map];rcases Nat.lt_or_ge i n with a|a
  ·rw[List.getElem?_range a];simp only[Option.map_some,Function.comp];rw[H,Nat.mul_comm m n,Nat.mul_add_mod,Nat.mod_eq_of_lt a];rw[getElem!_pos D i ω,Array.getElem?_toList,Array.getElem?_eq_getElem ω]
  rw[List.getElem?_eq_none (by simpa using a),List.getElem?_eq_none θ];rfl
theorem RO:∀{a b c d:List SV},yG a c->yG b d->yG (a++b) (c++d)
 |[],_,[],_,_,h=>h
 |_::_,_,_::_,_,h,e=>⟨h.1,RO h.2 e⟩
 |[],_,_::_,_,h,_=>h.elim
 |_::_,_,[],_,h,_=>h.elim
theorem RQ{α:Type}{e:α->List SV}{H:List Value}{I:α}(D:yG (H.map SV.v) (e I)):∀m:Nat,yG ((List.replicate m H).flatten.map SV.v) ((List.replicate m I).flatMap e)
 |0=>trivial
 |m+1=>by
  rw[List.replicate_succ,List.replicate_succ,List.flatten_cons,List.map_append,List.flatMap_cons];exact RO D (RQ D m)
def ckS{α:Type}(l:List α)(D H:Int):Option (Nat×Nat):=if 0<=D/\D<l.length/\D<=H/\H<=l.length then some (D.toNat,(H-D).toNat)else none
theorem ZI{α:Type}{l:List α}{D H:Int}{o n:Nat}(h:ckS l D H=some (o,n)):0<=D/\D<l.length/\D<=H/\H<=l.length/\D.toNat=o/\(H-D).toNat=n:=by
 unfold ckS at h;split at h
 ·rename_i a;obtain⟨b,c⟩:=Prod.mk.inj (aob h);exact⟨a.1,a.2.1,a.2.2.1,a.2.2.2,b,c⟩
 cases h
def ckR(o n:Nat)(i:Int):Option Nat:=if 0<=i/\i<n then some (o+i.toNat)else none
theorem ZJ{o n j:Nat}{i:Int}(h:ckR o n i=some j):0<=i/\i<n/\o+i.toNat=j:=by
 unfold ckR at h;split at h
 ·rename_i a;exact⟨a.1,a.2,aob h⟩
 cases h
theorem RR{α:Type}:∀(us l:List α) (k n:Nat),k+us.length<=n->(pq l k us).take n=pq (l.take n) k us
 |[],l,k,n,_=>rfl
 |u::us,l,k,n,h=>by
  simp only[List.length_cons]at h;rw[pq,pq,RR us _ _ _ ω];congr 1;rw[List.take_set]
theorem SV.jN.asb{M:Mem}:∀{xs:List SV} {us:List Value} {l:List SV} {vs:List Value} {k:Nat},SV.jN M l vs->SV.jN M xs us->SV.jN M (pq l k xs) (pq vs k us):=Kr
inductive Pl where
 |r (i:Nat)
 |s (i k:Nat)
def Pl.nm:Pl->Nat
 |.r i=>i
 |.s i _=>i
def Pl.av:Pl->AV
 |.r i=>.ob i
 |.s i k=>.sub i k
def Pl.ptr:Pl->Nat->AV
 |.r i,o=>.ptr i o
 |.s i k,o=>.Bp i k o
def Pl.v(E:Env):Pl->Value
 |.r i=>E.ν i
 |.s i k=>E.ρ i k
inductive tW (S:AS):Pl->TypeId->Nat->Nat->List SV->(List SV->Ob)->Prop
 |r {i:Nat} {T:TypeId} {sz n:Nat} {cs:List SV} (h:S.o i=some (.row T sz n cs)):tW S (.r i) T sz n cs (λc=>.row T sz n c)
 |s {i k:Nat} {T U:TypeId} {sz n:Nat} {cs:List SV} {rs:List (Nat×List SV)} {f:List (Nat×Nat)} (h:S.o i=some (.vF U T sz rs f false)) (hk:rs[k]? =some (n,cs)) (hf:k∉f.map (·.1)):tW S (.s i k) T sz n cs (λc=>.vF U T sz (rs.set k (n,c)) f false)
theorem tW.congr{S S':AS}{p:Pl}{T:TypeId}{sz n:Nat}{cs:List SV}{F:List SV->Ob}(h:tW S p T sz n cs F)(e:S'.o p.nm=S.o p.nm):tW S' p T sz n cs F:=by
 cases h with
 |r h=>exact .r (e.trans h)
 |s h b a=>exact .s (e.trans h) b a
section
variable {C:Ctx}{S:AS}{E:Env}{a:Act}{w:World}{p:Pl}{T:TypeId}{sz n:Nat}{cs:List SV}{F:List SV->Ob}
theorem tW.own(hr:tW S p T sz n cs F)(h:bw C S E a w):∃vs,w.ownsRow 0 T sz (p.v E) n vs/\SV.jN E.M cs vs:=by
 cases hr with
 |r hr=>exact h.ob _ _ hr
 |s hr c b=>exact(h.ob _ _ hr).2.2 _ _ _ c b
theorem tW.cells(hr:tW S p T sz n cs F)(h:bw C S E a w){g:Nat}(D:blk (p.v E)=some g):∃c vs:List Value,w.heap[g]? =some (.cells ⟨c⟩ T (0,0))/\c.take (n*sz)=vs/\vs.length=n*sz/\SV.jN E.M cs vs/\∃b,p.v E=.slice (some ⟨g,0,none⟩) n b/\n<=b/\b<=maxLen/\c.length=b*sz:=by
 obtain⟨vs,e,i⟩:=hr.own h;rcases e.2 with⟨d,_⟩|⟨o,b,c,d,_,k,l,f,m,j⟩
 ·rw[d]at D;cases D
 rw[d]at D;cases D;exact⟨c.toList,vs,by rw[k],j,e.1,i,b,d,l,f,by simpa using m⟩
theorem tW.put(hr:tW S p T sz n cs F)(h:bw C S E a w){g:Nat}(K:blk (p.v E)=some g){D vs us:List Value}{k H:Nat}{xs:List SV}(q1:w.heap[g]? =some (.cells ⟨D⟩ T (0,0)))(q2:D.take (n*sz)=vs)(q3:vs.length=n*sz)(q4:SV.jN E.M cs vs)(q5:p.v E=.slice (some ⟨g,0,none⟩) n H)(q6:n<=H)(q7:H<=maxLen)(q8:D.length=H*sz)
  (I:SV.jN E.M xs us) (hk:k+us.length<=n*sz):bw C (AS.ia [(p.nm,F (pq cs k xs))] S) E a (lj w g (pq D k us) T):=by
 have l:(lj w g (pq D k us) T).ownsRow 0 T sz (p.v E) n (pq vs k us):=by
  refine⟨by rw[D0];exact q3,.inr ⟨g,H,⟨pq D k us⟩,q5,Nat.zero_le _,CU q1,q6,q7,by simp[D0,q8],?_⟩⟩;show(pq D k us).take _=_;rw[RR _ _ _ _ ω,q2]
 have u:=SV.jN.asb (k:=k) q4 I;cases hr with
 | @r i T sz n cs hr=>
  refine h.chg hr (.row T sz n (pq cs k xs)) ⟨_,l,u⟩ (λ_ I=>by cases I) (λt g z=>by cases t<;>exact z) (λy b G=>kT (by rintro rfl;exact G none K)) rfl rfl rfl (by simp[lj])
 | @s i m T U sz n cs rs f hr B c=>
  obtain⟨⟨D,J,O⟩,L,N⟩:=h.ob _ _ hr;have hl:(rs.set m (n,pq cs k xs)).length=rs.length:=by simp
  have H:(Ob.vF U T sz rs f false).kM E i (some m) g:=⟨⟨⟨_,B⟩,c⟩,K⟩;have A:∀t j,(Ob.vF U T sz rs f false).kM E i t j->t≠some m->j≠g:=λt j z c e=>by subst e;exact c (h.inj i _ t i _ (some m) j hr hr z H).2
  refine h.chg hr (.vF U T sz (rs.set m (n,pq cs k xs)) f false) ⟨⟨D,?_,by rw[hl];exact O⟩,L,λy K cs' b d=>?_⟩ (λx I=>h.wf.o i _ hr x I) (λt j z=>?_) (λy b G=>kT (by rintro rfl;exact G (some m) H)) rfl rfl rfl (by simp[lj])
  ·rw[hl];exact jO J λj c=>kT (A none j c η)
  ·by_cases e:m=y
   ·subst e;rw[List.getElem?_set_self (List.getElem?_eq_some_iff.1 B).1]at b;cases b;exact⟨_,l,u⟩
   rw[List.getElem?_set_ne e]at b;obtain⟨l,u,D⟩:=N y K cs' b d;exact⟨l,jO u λj c=>kT (A (some y) j ⟨⟨⟨_,b⟩,d⟩,c⟩ (λq=>e (by cases q;rfl))),D⟩
  cases t with
  |none=>exact z
  |some y=>
   obtain⟨⟨⟨q,b⟩,d⟩,c⟩:=z;refine⟨⟨?_,d⟩,c⟩;by_cases e:m=y
   ·subst e;exact⟨_,B⟩
   rw[List.getElem?_set_ne e]at b;exact⟨_,b⟩
end
section steps
variable {P:Program}{C:Ctx}{ops:Array Oper}{S:AS}{nd:Bool}{K:List Ac->AS->Prop}{rest:List Oper}{acc:List Ac}
variable {gd:Option (Nat×Bool)}{rg:List Nat}{d:Nat}{ty:TypeId}{pos:String}{aft:Array Edge}{x y z:Operand}{T U E0 E1:TypeId}{kk:IntKind}{R:Type}{r:R}
variable {α:Type}{l l' k:List α}{e:α->List SV}{n by_:Nat}{zv:Value}{p:Pl}{F:List SV->Ob}
theorem Pl.ahw{S':AS}{E:Env}{v:Value}(h:p.av.holds E v):v=p.v E:=by cases p<;>exact h
theorem Pl.ZK{E:Env}{o:Nat}{v:Value}(h:(p.ptr o).holds E v):∃g,blk (p.v E)=some g/\v=.pointer (some ⟨g,o,none⟩):=by cases p<;>exact h
theorem Pl.lv{S:AS}{o:Nat}(h:S.lG p.av):S.lG (p.ptr o):=by cases p<;>exact h
inductive Lng (S:AS):Pl->TypeId->Nat->Nat->Prop
 |r {p:Pl} {T:TypeId} {sz n:Nat} {cs:List SV} {F:List SV->Ob} (h:tW S p T sz n cs F):Lng S p T sz n
 |m {i:Nat} {T U:TypeId} {sz:Nat} {α:Type} {e:α->List SV} {ll:List (List α)} {f:List (Nat×Nat)} {lk:Bool} (h:S.o i=some (TM U T sz e ll f lk)):Lng S (.r i) U 1 ll.length
 |a {i:Nat} {T:TypeId} {cs:List AV} (h:S.o i=some (.arr T cs)):Lng S (.r i) T 1 cs.length
theorem Lng.own{S S':AS}{p:Pl}{T:TypeId}{sz n:Nat}(hr:Lng S p T sz n)(e:S'.o p.nm=S.o p.nm){E:Env}{a:Act}{w:World}(h:bw C S' E a w):∃vs,w.ownsRow 0 T sz (p.v E) n vs:=by
 cases hr with
 |r hr=>obtain⟨vs,b,_⟩:=(hr.congr e).own h;exact⟨vs,b⟩
 |m hr=>obtain⟨⟨us,b,_⟩,_⟩:=h.ob _ _ (e.trans hr);rw[List.length_map]at b;exact⟨us,b⟩
 |a hr=>obtain⟨us,b,_⟩:=h.ob _ _ (e.trans hr);exact⟨us,b⟩
theorem aeJ{m q sz:Nat}[I:ku P T E0 m]{f:Int->Option R}(hx:S.ev x=p.av)(hR:Lng S p E1 sz q)(h:Option.bind (some (q:Int)) f=some r)(D:∀c,f c=some r->Nx P C ops nd K rest acc S (rg++bD x) [p.nm] ⟨some (d,.sv (.v (.int .i64 c))),[]⟩)(H:Gd ops S gd rg:=by first|exact .none|exact .some Y Y)(hd:d<S.n:=by exact tl Y):RunT P C ops nd K (⟨some d,.call ⟨.builtin .len,#[x],#[T]⟩,ty,pos,aft,gd⟩::rest) acc S:=
 aeY H (bD x) [p.nm] _ hd ζ (λS' ht j E a w e=>by
  have i:=Pl.ahw (S':=S') (e.qy hx ht (λ_ h=>h)).1;obtain⟨vs,k⟩:=hR.own (j _ η) e;obtain⟨b,c,l⟩:∃b c,p.v E=.slice b q c:=by
   rcases k.2 with⟨e,o⟩|⟨g,k,j,e,_⟩
   ·exact⟨none,0,by rw[e,o]⟩
   exact⟨_,_,e⟩
  rw[l]at i;exact⟨.int .i64 q,by simp[execOp,resolve,invoke,builtin,Builtin.len_,underlying,I.u,i,goInt],Y,rz⟩) (D _ h)
theorem agI[H:ku P T E0 n]{v:Int}{j:Nat}(hx:S.ev x=p.av)(hR:Lng S p E1 n l.length)(hj:fG l v=some j)(D:Nx P C ops nd K rest acc S (rg++(bD x++bD y)) [p.nm] ⟨some (d,p.ptr (j*n)),[]⟩)(I:S.ev y=.sv (.v (.int kk v)):=by exact rfl)(hg:Gd ops S gd rg:=by first|exact .none|exact .some Y Y)(hd:d<S.n:=by exact tl Y):RunT P C ops nd K (⟨some d,.indexAddr T x y,ty,pos,aft,gd⟩::rest) acc S:=by
 obtain⟨t,o,rfl⟩:=Zs hj;refine aeY hg _ [p.nm] _ hd ζ (λS' ht m E a w b=>?_) D
 obtain⟨c,q⟩:=b.qy hx ht (λ_ h=>List.mem_append_left _ h);have e:=Pl.ahw (S':=S') c;have f:a.eval y=.int kk v:=(b.qy I ht (λ_ h=>List.mem_append_right _ h)).1;obtain⟨vs,c⟩:=hR.own (m _ η) b;rcases c.2 with⟨b,c⟩|⟨g,m,c,b,_⟩
 ·omega
 rw[b]at e;refine⟨.pointer (some ⟨g,v.toNat*n,none⟩),?_,?_,Pl.lv q⟩
 ·have c:=H.size w;simp[execOp,f,e,Instr.indexAt,asIntOf,underlying,H.u,c,mQ,t,o]
 cases p with
 |r i=>exact⟨g,by show blk (Pl.v E (.r i))=_;rw[b];rfl,Y⟩
 |s i k=>exact⟨g,by show blk (Pl.v E (.s i k))=_;rw[b];rfl,Y⟩
theorem acr[tS:ku P T E0 n]{v:Int}{f:Nat->Option R}(hx:S.ev x=p.av)(I:Lng S p E1 n l.length)(h:Option.bind (fG l v) f=some r)(D:∀j,f j=some r->Nx P C ops nd K rest acc S (rg++(bD x++bD y)) [p.nm] ⟨some (d,p.ptr (j*n)),[]⟩)(hy:S.ev y=.sv (.v (.int kk v)):=by exact rfl)(hg:Gd ops S gd rg:=by first|exact .none|exact .some Y Y)(H:d<S.n:=by exact tl Y):RunT P C ops nd K (⟨some d,.indexAddr T x y,ty,pos,aft,gd⟩::rest) acc S:=by
 obtain⟨j,hj,h⟩:=bind_some h;exact agI hx I hj (D _ h) hy hg H
theorem anm(D:Gd ops S gd rg){o q sz:Nat}{cs:List SV}(s:SV)(I:S.ev x=p.ptr o)(H:tW S p E1 sz q cs F)(hd:d<S.n)
  (hl:∀(E:Env) (w:World) (g:Nat) (vs:List Value),SV.jN E.M cs vs->(∀(j:Nat) (u:Value),vs[j]? =some u->w.cell? ⟨g,j,none⟩=some u)->∃u,(loadVar T ⟨g,o,none⟩).run P w=.ok u w/\s.h E.M u)
  (next:Nx P C ops nd K rest acc S (rg++bD x) [p.nm] ⟨some (d,.sv s),[]⟩):RunT P C ops nd K (⟨some d,.load T x,ty,pos,aft,gd⟩::rest) acc S:=
 aeY D (bD x) [p.nm] _ hd ζ (λS' ht f E a w b=>by
  obtain⟨g,i,m⟩:=Pl.ZK (b.qy I ht (λ_ h=>h)).1;obtain⟨k,vs,e,l,r,c,_⟩:=(H.congr (f _ η)).cells b i;obtain⟨u,f,i⟩:=hl E w g vs c (λj u b=>by
   rw[<-l,List.getElem?_take]at b;split at b
   ·simpa[World.cell?,e]using b
   cases b)
  exact⟨u,by simp[execOp,m,Instr.loadAt,Instr.sureAddr,f],i,rz⟩) next
theorem Wn[H:EL e n]{j:Nat}{b:α}(D:l[j]? =some b){M:Mem}{vs:List Value}(h:SV.jN M (l.flatMap e) vs):SV.jN M (e b) ((vs.drop (j*n)).take n):=by
 have:=SV.jN.ZD h (j*n) n;rwa[RH D]at this
theorem aeX[H:uG P T][el:EL e 1]{j:Nat}{s:α->SV}{f:α->Option R}(hx:S.ev x=p.ptr (j*1))(hR:tW S p E1 1 l.length (l.flatMap e) F)(hs:∀b,e b=[s b])(h:Option.bind l[j]? f=some r)(D:∀b,f b=some r->Nx P C ops nd K rest acc S (rg++bD x) [p.nm] ⟨some (d,.sv (s b)),[]⟩)(I:Gd ops S gd rg:=by first|exact .none|exact .some Y Y)(hd:d<S.n:=by exact tl Y):RunT P C ops nd K (⟨some d,.load T x,ty,pos,aft,gd⟩::rest) acc S:=by
 obtain⟨b,k,h⟩:=bind_some h;refine anm I (s b) hx hR hd (λE w g vs c i=>?_) (D b h);have a:=Wn k c;rw[hs b]at a;have hl:=a.length;cases c:(vs.drop (j*1)).take 1 with
 |nil=>rw[c]at a;exact a.elim
 |cons u us=>
  rw[c]at a;have k:vs[j*1]? =some u:=by
   have:((vs.drop (j*1)).take 1)[0]? =some u:=by rw[c];rfl
   simpa using this
  have c:w.cell? ⟨g,j,none⟩=some u:=by have:=i _ u k;rwa[Nat.mul_one]at this
  exact⟨u,by simp[loadVar,H.isAgg,c],a.1⟩
theorem aht[tA:vI P T n][H:EL e n]{j:Nat}{f:α->Option R}(hx:S.ev x=p.ptr (j*n))(hR:tW S p E1 n l.length (l.flatMap e) F)(h:Option.bind l[j]? f=some r)(D:∀b,f b=some r->Nx P C ops nd K rest acc S (rg++bD x) [p.nm] ⟨some (d,.sv (.agg (e b))),[]⟩)(I:Gd ops S gd rg:=by first|exact .none|exact .some Y Y)(hd:d<S.n:=by exact tl Y):RunT P C ops nd K (⟨some d,.load T x,ty,pos,aft,gd⟩::rest) acc S:=by
 obtain⟨b,m,h⟩:=bind_some h;refine anm I (.agg (e b)) hx hR hd (λE w g vs a k=>?_) (D b h);have c:=Wn m a;have hl:=c.length;rw[H.len]at hl;refine⟨.agg ⟨(vs.drop (j*n)).take n⟩,xq (n:=n) hl.symm (λi u a=>?_),⟨_,Y,c⟩⟩;rw[List.getElem?_take]at a;split at a
 ·rw[List.getElem?_drop]at a;exact k _ u a
 cases a
theorem ann(H:Gd ops S gd rg){o m q sz:Nat}{cs us:List SV}(hx:S.ev x=p.ptr o)(I:tW S p E1 sz q cs F)(D:∀S':AS,(∀s∈bD x++bD y,S'.t s=S.t s)->∀E a w,bw C S' E a w->∃vs:List Value,(a.eval y).cells=⟨vs⟩/\SV.jN E.M us vs/\(∀u∈vs,u.oneCell'=true))
  (hs:∀w:World,(sizeOf T).run P w=.ok m w) (hn:us.length=m) (hl:o+m<=q*sz)
  (next:Nx P C ops nd K rest acc S (rg++(bD x++bD y)) [p.nm] ⟨none,[(p.nm,F (pq cs o us))]⟩):RunT P C ops nd K (⟨none,.store T x y,ty,pos,aft,gd⟩::rest) acc S:=
 akN H _ [p.nm] _ ζ (λS' _ ht d E a w c=>by
  have b:=I.congr (d _ η);obtain⟨g,f,A⟩:=Pl.ZK (c.qy hx ht (λ_ h=>List.mem_append_left _ h)).1;obtain⟨d,vs,e,z,r,l,j,G,i,n,k⟩:=b.cells c f;obtain⟨H,v,j,B⟩:=D S' ht E a w c;have D:=j.length;have D:q*sz<=d.length:=by rw[k];exact Nat.mul_le_mul_right _ i
  exact⟨E,_,BB A v B (hs w) ω e ω,b.put c f e z r l G i n k j ω⟩) next
inductive X4 (S:AS) (E1:TypeId) (n:Nat) {α:Type} (e:α->List SV) (l:List α):Pl->(List α->Ob)->Prop
 |r {i:Nat} (h:S.o i=some (TR E1 n e l)):X4 S E1 n e l (.r i) (TR E1 n e)
 |s {i k:Nat} {U:TypeId} {ll:List (List α)} {f:List (Nat×Nat)} (h:S.o i=some (TM U E1 n e ll f false)) (hk:ll[k]? =some l) (hf:k∉f.map (·.1)):X4 S E1 n e l (.s i k) (λl'=>TM U E1 n e (ll.set k l') f false)
theorem X4.at{G:List α->Ob}(h:X4 S E1 n e l p G):∃F,tW S p E1 n l.length (l.flatMap e) F/\∀a,a.length=l.length->F (a.flatMap e)=G a:=by
 cases h with
 |r h=>exact⟨_,.r h,λa hl=>by show Ob.row _ _ _ _=Ob.row _ _ _ _;rw[hl]⟩
 | @s i k U ll f h c b=>
  refine⟨_,.s h (by rw[List.getElem?_map,c];rfl) b,λa hl=>?_⟩;show Ob.vF _ _ _ _ _ _=Ob.vF _ _ _ _ _ _;rw[List.map_set,hl]
theorem Wo{l D:List α}{j:Nat}{b:α}(h:stM l j b=some D):D.length=l.length:=by obtain⟨_,rfl⟩:=Km h;simp
theorem afx[tV:uG P T][el:EL e 1]{j:Nat}{s:SV}[I:One s]{G:List α->Ob}{f:List α->Option R}(b:α)(hs:e b=[s])(hx:S.ev x=p.ptr (j*1))(hR:X4 S E1 1 e l p G)(h:Option.bind (stM l j b) f=some r)(D:∀H,f H=some r->Nx P C ops nd K rest acc S (rg++(bD x++bD y)) [p.nm] ⟨none,[(p.nm,G H)]⟩)(hy:S.ev y=.sv s:=by exact rfl)(hg:Gd ops S gd rg:=by first|exact .none|exact .some Y Y):RunT P C ops nd K (⟨none,.store T x y,ty,pos,aft,gd⟩::rest) acc S:=by
 obtain⟨H,c,h⟩:=bind_some h;obtain⟨F,g,k⟩:=hR.at;have d:=D H h
 obtain⟨hj,i⟩:=Km c;rw[<-k H (Wo c),<-i,<-RI hj,hs]at d;refine ann hg hx g (us:=[s]) (λS' ht E a w g=>?_) (λw=>tV.size w) Y ω d;have c:=(g.qy hy ht (λ_ h=>List.mem_append_right _ h)).1;have:=I.h _ _ c;exact⟨[a.eval y],je this,⟨c,an⟩,by simpa using this⟩
theorem afl[tA:vI P T n][I:EL e n]{j:Nat}{G:List α->Ob}{f:List α->Option R}(b:α)(hx:S.ev x=p.ptr (j*n))(hR:X4 S E1 n e l p G)(h:Option.bind (stM l j b) f=some r)(D:∀H,f H=some r->Nx P C ops nd K rest acc S (rg++(bD x++bD y)) [p.nm] ⟨none,[(p.nm,G H)]⟩)(hy:S.ev y=.sv (.agg (e b)):=by exact rfl)(hg:Gd ops S gd rg:=by first|exact .none|exact .some Y Y):RunT P C ops nd K (⟨none,.store T x y,ty,pos,aft,gd⟩::rest) acc S:=by
 obtain⟨H,c,h⟩:=bind_some h;obtain⟨F,g,k⟩:=hR.at;have d:=D H h
 obtain⟨hj,i⟩:=Km c;rw[<-k H (Wo c),<-i,<-RI hj]at d;have c:j*n+n<=l.length*n:=by have:=Nat.mul_le_mul_right n (show j+1<=l.length by omega);rw[Nat.add_mul]at this;omega
 refine ann hg hx g (us:=e b) (λS' ht E a w g=>?_) (λw=>tA.size w) (I.len b) c d;obtain⟨us,d,c⟩:=(g.qy hy ht (λ_ h=>List.mem_append_right _ h)).1;exact⟨us,by rw[d];rfl,c,(I.one b).h E.M us c⟩
theorem Pn{S:AS}{E:Env}{a:Act}{w w':World}(h:bw C S E a w){d:Nat}(K:S.o d=none)(hp:C.qZ d=false){v:Value}{m sz:Nat}{cs:List SV}{vs:List Value}(D:w'.ownsRow 0 U sz v m vs)(H:SV.jN E.M cs vs)(I:∀g,blk v=some g->w.heap.size<=g)(hb:Below w.heap.size w w'):bw C (AS.ia [(d,.row U sz m cs)] S) (E.rC d v (E.ρ d)) a w':=
 h.new K hp v (E.ρ d) (.row U sz m cs) ⟨vs,by rw[(E.lX _ _ _).1];exact D,H⟩ (λ_ b=>by cases b) (λt g b=>by
  cases t with
  |some _=>exact b.elim
  |none=>have b:blk _=some g:=b;rw[(E.lX _ _ _).1]at b;exact I g b) (λt u g b c=>by
  cases t with
  |some _=>exact b.elim
  |none=>cases u with
   |some _=>exact c.elim
   |none=>rfl) hb
theorem ae6{S:AS}{E:Env}{a:Act}{w w':World}(h:bw C S E a w){i d:Nat}{ob:Ob}(hi:S.o i=some ob)(hc:∀g,blk (E.ν i)=some g->ob.kM E i none g)(hd:S.o d=none)(hp:C.qZ d=false){v:Value}{m sz:Nat}{cs:List SV}{vs:List Value}(D:w'.ownsRow 0 U sz v m vs)(K:SV.jN E.M cs vs)(hat:v.ownBlock=(E.ν i).ownBlock\/v.ownBlock=some w.heap.size\/v.ownBlock=none)(H:∀g,(E.ν i).ownBlock=some g->blk (E.ν i)=some g)(I:w.grownBy w' (E.ν i).ownBlock):bw C (AS.ia [(i,.dead),(d,.row U sz m cs)] S) (E.rC d v (E.ρ d)) a w':=by
 refine h.mov hi hd hp v (E.ρ d) (.row U sz m cs) ⟨vs,by rw[(E.lX _ _ _).1];exact D,K⟩ (λ_ b=>by cases b) (λt g c=>?_) (λt u g b j=>?_) (λk f l=>I.block k f (λe=>l none (hc k (H k e.symm)))) I.os I.tape I.output I.size
 ·cases t with
  |some _=>exact c.elim
  |none=>
   have c:blk _=some g:=c;rw[(E.lX _ _ _).1]at c;have b:=(CR D c).1;rcases hat with q|q|q
   ·exact .inl ⟨none,hc g (H g (by rw[<-q];exact b))⟩
   ·rw[b]at q;cases q;exact .inr (Nat.le_refl _)
   rw[b]at q;cases q
 cases t with
 |some _=>exact b.elim
 |none=>cases u with
  |some _=>exact j.elim
  |none=>rfl
theorem mA(S:AS){obs:List (Nat×Ob)}{d:Nat}{ob:Ob}(h:cB obs d=some (some ob)):(AS.ia obs S).lG (.ob d):=λj hj=>by
 have:j=d:=by simpa[AV.refs]using hj
 subst this;rw[vb,h];simp
theorem aeW[tS:ku P T E0 n][tE:oh P E0 n by_ zv]{kl kc:IntKind}{c:Int}(zz:α){f:List α->Option R}(hi:yG (zv.cells.toList.map SV.v) (e zz))(h:Option.bind (uF by_ c zz) f=some r)(next:∀l',f l'=some r->Nx P C ops nd K rest acc S (rg++(bD x++bD y)) [d] ⟨some (d,.ob d),[(d,TR E0 n e l')]⟩)(hx:S.ev x=.sv (.v (.int kl c)):=by exact rfl)(hy:S.ev y=.sv (.v (.int kc c)):=by exact rfl)(hg:Gd ops S gd rg:=by first|exact .none|exact .some Y Y)(hd:d<S.n:=by exact tl Y)(M5:S.o d=none:=by exact rfl)(hp:C.qZ d=false:=by exact rfl):RunT P C ops nd K (⟨some d,.makeSlice T x y,ty,pos,aft,gd⟩::rest) acc S:=by
 obtain⟨l1,b,h⟩:=bind_some h;obtain⟨j,hroom,i,rfl⟩:=RB b;refine ahx hg _ [d] (.ob d) _ hd ζ (λS' _ ht ho E a w hh=>?_) (next _ h);have b:a.eval x=.int kl c:=(hh.qy hx ht (λ_ h=>List.mem_append_left _ h)).1;have i:a.eval y=.int kc c:=(hh.qy hy ht (λ_ h=>List.mem_append_right _ h)).1;obtain⟨info,hii,hsz,hby,hzz⟩:=oh.info (P:=P) (E:=E0) (n:=n) (by_:=by_) (z:=zv);obtain⟨m,rfl⟩:=Int.eq_ofNat_of_zero_le j;have hb':info.bytes*m<=281474976710656:=by
  rw[hby];have:((by_*m:Nat):Int)<=281474976710656:=by rw[Int.natCast_mul];exact hroom
  omega
 obtain⟨w',q1,q2,q3⟩:=run_make_full (P:=P) w 0 T E0 info zv n tS.u hii hzz hsz kl kc m hb' (by unfold maxLen;omega) (Nat.zero_le _);have hr':(execOp a.eval ⟨some d,.makeSlice T x y,ty,pos,aft,gd⟩).run P w=.ok (.value (.slice (some ⟨w.heap.size,0,none⟩) m m)) w':=by
  simp only[execOp,b,i];simp[q1]
 have b:SV.jN E.M ((List.replicate (m:Int).toNat zz).flatMap e) (madeCells zv.cells (m*n)).toList:=by
  rw[GX zv.cells n tE.z tE.p,show(m:Int).toNat=m by simp];exact yG.holds (l:=((List.replicate m zv.cells.toList).flatten.map SV.v)) (RQ hi m) (SV.jN.GP _ _)
 have hlen:(List.replicate (m:Int).toNat zz).length=m:=by simp
 exact⟨_,_,_,hr',Pn hh (by rw[ho d η];exact M5) hp (by rw[hlen];exact q2) b (λg hg=>by cases hg;exact Nat.le_refl _) ⟨q3.os,q3.tape,q3.output,q3.size,λk hk=>q3.block k hk η⟩,(Env.lX _ _ _ _).1.symm,mA _ (by simp[cB];rfl)⟩
theorem ajq[tS:ku P T E0 n][tE:oh P E0 n by_ zv]{kl kc:IntKind}{c:Int}{f:List α->Option R}(h:Option.bind (RA (α:=α) by_ c) f=some r)(next:∀l',f l'=some r->Nx P C ops nd K rest acc S (rg++(bD x++bD y)) [d] ⟨some (d,.ob d),[(d,TR E0 n e l')]⟩)(hx:S.ev x=.sv (.v (.int kl 0)):=by exact rfl)(hy:S.ev y=.sv (.v (.int kc c)):=by exact rfl)(hg:Gd ops S gd rg:=by first|exact .none|exact .some Y Y)(hd:d<S.n:=by exact tl Y)(M5:S.o d=none:=by exact rfl)(hp:C.qZ d=false:=by exact rfl):RunT P C ops nd K (⟨some d,.makeSlice T x y,ty,pos,aft,gd⟩::rest) acc S:=by
 obtain⟨l1,b,h⟩:=bind_some h;obtain⟨h0,hroom,i,rfl⟩:=Zt b;refine ahx hg _ [d] (.ob d) _ hd ζ (λS' _ ht ho E a w hh=>?_) (next _ h);have h1:a.eval x=.int kl 0:=(hh.qy hx ht (λ_ h=>List.mem_append_left _ h)).1;have h2:a.eval y=.int kc c:=(hh.qy hy ht (λ_ h=>List.mem_append_right _ h)).1;obtain⟨info,hi,hsz,hby,hz⟩:=oh.info (P:=P) (E:=E0) (n:=n) (by_:=by_) (z:=zv);obtain⟨m,rfl⟩:=Int.eq_ofNat_of_zero_le h0;have hm:info.bytes*m<=281474976710656:=by
  rw[hby];have:((by_*m:Nat):Int)<=281474976710656:=by rw[Int.natCast_mul];exact hroom
  omega
 obtain⟨w',q1,q2,q3⟩:=run_make_own (P:=P) w 0 T E0 info zv n tS.u hi hz hsz kl kc m hm (by unfold maxLen;omega) (Nat.zero_le _);have hr':(execOp a.eval ⟨some d,.makeSlice T x y,ty,pos,aft,gd⟩).run P w=.ok (.value (.slice (some ⟨w.heap.size,0,none⟩) 0 m)) w':=by
  simp only[execOp,h1,h2];simp[q1]
 exact⟨_,_,_,hr',Pn hh (by rw[ho d η];exact M5) hp q2 (cs:=[]) (vs:=[]) trivial (λg hg=>by cases hg;exact Nat.le_refl _) ⟨q3.os,q3.tape,q3.output,q3.size,λk hk=>q3.block k hk η⟩,(Env.lX _ _ _ _).1.symm,mA _ (by simp[cB];rfl)⟩
theorem ajN[tS:ku P T E0 n][tE:oh P E0 n by_ zv]{len:Nat}{parts:Array (Nat×Operand)}{qs:List (Nat×List SV)}(hp:Bv S parts.toList qs)(D:qs.map (·.2)=l.map e)(next:Nx P C ops nd K rest acc S (rg++yI parts.toList) [d] ⟨some (d,.ob d),[(d,TR E0 n e l)]⟩)(hc:GW 0 qs=true:=by exact rfl)(hl:qs.length=len:=by exact rfl)(I:(qs.all λq=>Nat.beq q.2.length n)=true:=by exact rfl)(H:Nat.ble (len*n) 16777216=true:=by exact rfl)(hz1:(zv.cells.toList.all λv=>v.oneCell')=true:=by exact rfl)(hg:Gd ops S gd rg:=by first|exact .none|exact .some Y Y)(hd:d<S.n:=by exact tl Y)(M5:S.o d=none:=by exact rfl)(ZE:C.qZ d=false:=by exact rfl):RunT P C ops nd K (⟨some d,.buildSlice T len parts,ty,pos,aft,gd⟩::rest) acc S:=by
 refine ahx hg _ [d] (.ob d) _ hd ζ (λS' _ ht i E a w h=>?_) next
 obtain⟨vs,hr,b,c⟩:=vJ (P:=P) (T:=T) (E0:=E0) (n:=n) (by_:=by_) (zv:=zv) (d:=d) (ty:=ty) (pos:=pos) (aft:=aft) (gd:=gd) h hp ht hc hl I (af H) (List.all_eq_true.1 hz1);have c:=tE.p;have f:len<=16777216:=Nat.le_trans (Nat.le_mul_of_pos_right _ c) (af H);have c:Rows n (qs.map (·.2)) (qs.map (·.2)).flatten:=⟨Y,λr hr=>by
  obtain⟨q,f,rfl⟩:=List.mem_map.1 hr;exact Nat.eq_of_beq_eq_true (List.all_eq_true.1 I q f)⟩
 have f:vs.length=len*n:=by rw[<-b.length,RE c,List.length_map,hl]
 have j:len=l.length:=by have c:=congrArg List.length D;simpa[hl]using c
 rw[D,Kq]at b;have c:(w.alloc (.cells ⟨vs⟩ E0)).ownsRow 0 E0 n (.slice (some ⟨w.heap.size,0,none⟩) len len) len vs:=World.ownsRow_lit w ⟨vs⟩ len (Nat.zero_le _) (by unfold maxLen;omega) (by simpa using f);exact⟨_,_,_,hr,Pn h (by rw[i d η];exact M5) ZE (by rw[<-j];exact c) b (λg hg=>by cases hg;exact Nat.le_refl _) ((Below.refl _ _).alloc (Nat.le_refl _) _),(Env.lX _ _ _ _).1.symm,mA _ (by simp[cB];rfl)⟩
theorem T5{S':AS}{E:Env}{a:Act}{w:World}(h:bw C S' E a w)[K:ku P T E0 n][I:oh P E0 n by_ zv]{rows:List (List SV)}{m:Nat}{vs:List Value}(H:w.ownsRow 0 E0 n (a.eval x) m vs)(hy:(slc n rows).h E.M (a.eval y))(D:(m+rows.length)*by_<=140737488355328)(Po:m+rows.length<=140737488355328):
  ∃f w' g,(execOp a.eval ⟨some d,.call ⟨.builtin .append,#[x,y],#[T,T]⟩,ty,pos,aft,gd⟩).run P w=.ok (.value f) w'/\w'.ownsRow 0 E0 n f (m+rows.length) (vs++g)/\SV.jN E.M rows.flatten g/\w.grownBy w' (a.eval x).ownBlock/\(f.ownBlock=(a.eval x).ownBlock\/f.ownBlock=some w.heap.size\/f.ownBlock=none):=by
 obtain⟨info,v,l,q,B⟩:=oh.info (P:=P) (E:=E0) (n:=n) (by_:=by_) (z:=zv);have run:∃f w' g,(Builtin.append_ #[T,T] ty #[a.eval x,a.eval y]).run P w=.ok f w'/\w'.ownsRow 0 E0 n f (m+rows.length) (vs++g)/\SV.jN E.M rows.flatten g/\w.grownBy w' (a.eval x).ownBlock/\(f.ownBlock=(a.eval x).ownBlock\/f.ownBlock=some w.heap.size\/f.ownBlock=none):=by
  rcases hy with⟨a0,e,i⟩|⟨b,o,c,e,s,k,r⟩
  ·rw[e,i];cases a0 with
   |none=>exact⟨_,_,[],run_append_owned_none w 0 T ty E0 info n K.u v _ m vs H,by simpa using H,an,⟨Y,Y,Y,Nat.le_refl _,λ_ _ _=>Y⟩,.inl Y⟩
   |some a0=>
    rw[i,List.length_nil]at D Po;obtain⟨f,w',i,k,t,_,s⟩:=run_append_own_at (P:=P) w 0 T ty E0 info zv n by_ K.u v B l q I.z I.p _ m vs H a0 0 0 [] η η η (by unfold maxLen;omega) D (Nat.zero_le _);exact⟨f,w',[],i,by simpa using k,an,t,s.imp id .inl⟩
  obtain⟨us,F,G,A,J⟩:=RG rows o r;rw[e];obtain⟨f,w',i,k,t,_,s⟩:=run_append_own_at (P:=P) w 0 T ty E0 info zv n by_ K.u v B l q I.z I.p _ m vs H ⟨b,o,none⟩ rows.length c us G (λj u hj=>by rw[mQ];exact(h.kf _ _ _ (J j u hj)).cell (A u (List.mem_of_getElem? hj))) A (by unfold maxLen;omega) D (Nat.zero_le _);exact⟨f,w',us,i,k,F,t,s.imp id .inl⟩
 obtain⟨f,w',g,i,k⟩:=run;exact⟨f,w',g,by simp[execOp,resolve,invoke,builtin,i],k⟩
theorem aeM[tS:ku P T E0 n][tE:oh P E0 n by_ zv]{i:Nat}{f:List α->Option R}(hx:S.ev x=.ob i)(hR:S.o i=some (TR E0 n e l))(h:Option.bind (uE by_ l k) f=some r)(H:∀I,f I=some r->Nx P C ops nd K rest acc S (rg++(bD x++bD y)) [i,d] ⟨some (d,.ob d),[(i,.dead),(d,TR E0 n e I)]⟩)(hy:S.ev y=.sv (slc n (k.map e)):=by exact rfl)(D:Gd ops S gd rg:=by first|exact .none|exact .some Y Y)(hd:d<S.n:=by exact tl Y)(M5:S.o d=none:=by exact rfl)(hp:C.qZ d=false:=by exact rfl):RunT P C ops nd K (⟨some d,.call ⟨.builtin .append,#[x,y],#[T,T]⟩,ty,pos,aft,gd⟩::rest) acc S:=by
 obtain⟨c,b,h⟩:=bind_some h;obtain⟨I,F,rfl⟩:=Fm b;refine ahx D _ [i,d] (.ob d) _ hd ζ (λS' _ ht s E a w c=>?_) (H _ h);have t:a.eval x=E.ν i:=(c.qy hx ht (λ_ h=>List.mem_append_left _ h)).1;have H:=(c.qy hy ht (λ_ h=>List.mem_append_right _ h)).1;have v:S'.o i=some (TR E0 n e l):=(s i η).trans hR;obtain⟨vs,b,j⟩:=c.ob i _ v;obtain⟨J,w',G,A,B,u,p,z⟩:=T5 (P:=P) (T:=T) (d:=d) (ty:=ty) (pos:=pos) (aft:=aft) (gd:=gd) (E0:=E0) (x:=x) (m:=l.length) (vs:=vs) c (by rw[t];exact b) H (by simpa using I) (by simpa using F);rw[t]at p z;refine⟨_,_,_,A,ae6 c v (λg D=>D) (by rw[s d η];exact M5) hp (by simpa using B) (by rw[Kq]at u;simpa using SV.jN.append j u) z (λg D=>by
  rcases b.2 with⟨q,_⟩|⟨t,_,_,q,_⟩
  ·rw[q]at D;cases D
  rw[q]at D⊢;exact D) p,(Env.lX _ _ _ _).1.symm,mA _ (by simp[cB];rfl)⟩
end steps
end
section
open Go.RowKit
section steps
variable {P:Program}{C:Ctx}{ops:Array Oper}{S:AS}{nd:Bool}{K:List Ac->AS->Prop}{rest:List Oper}{acc:List Ac}
variable {gd:Option (Nat×Bool)}{rg:List Nat}{d:Nat}{ty:TypeId}{pos:String}{aft:Array Edge}{x y z:Operand}{T U E0 E1:TypeId}{kk:IntKind}{R:Type}{r:R}
variable {α:Type}{l l' k:List α}{e:α->List SV}{n by_:Nat}{zv:Value}
theorem ae7{S':AS}{E:Env}{a:Act}{w:World}(h:bw C S' E a w){i:Nat}(D:S'.o i=some (TR E1 n e l)):(E.ν i=.slice none 0 0/\l.length=0)\/∃g c,E.ν i=.slice (some ⟨g,0,none⟩) l.length c/\l.length<=c:=by
 obtain⟨vs,b,_⟩:=h.ob i _ D;rcases b.2 with b|⟨g,c,f,b,_,_,d,_⟩
 ·exact .inl b
 exact .inr ⟨g,c,b,d⟩
theorem ano[tS:ku P T E0 n]{i:Nat}{H I:Option Operand}{p q:Int}{f:Nat×Nat->Option R}(hx:S.ev x=.ob i)(hR:S.o i=some (TR E1 n e l))(h:Option.bind (ckS l p q) f=some r)(D:∀o m,f (o,m)=some r->Nx P C ops nd K rest acc S (rg++(bD x++(IG H++IG I))) [i] ⟨some (d,.sl i (o*n) m),[]⟩)
  (hlo:T3 S 0 H p:=by first|exact⟨_,Y⟩|exact rfl) (hhi:T3 S l.length I q:=by first|exact⟨_,Y⟩|exact rfl) (hg:Gd ops S gd rg:=by first|exact .none|exact .some Y Y) (hd:d<S.n:=by exact tl Y):RunT P C ops nd K (⟨some d,.slice T x H I none,ty,pos,aft,gd⟩::rest) acc S:=by
 obtain⟨⟨o,m⟩,b,h⟩:=bind_some h;obtain⟨B,k,A,z,rfl,rfl⟩:=ZI b;refine aeY hg _ [i] _ hd ζ (λS' ht k E a w t=>?_) (D _ _ h);obtain⟨b,hl⟩:=t.qy hx ht (λ_ h=>List.mem_append_left _ h);have b:a.eval x=E.ν i:=b;rcases ae7 t ((k i η).trans hR)with⟨_,k⟩|⟨g,c,u,v⟩
 ·omega
 rw[u]at b;have k:¬c=p.toNat:=by omega
 refine⟨_,NZ (S:=S) t hlo hhi (λs y=>ht s (List.mem_append_right _ y)) b v B A z,⟨g,c-p.toNat,by rw[u];rfl,?_,by omega⟩,λj hj=>hl j hj⟩;rw[if_neg k];simp only[Option.map_some,mQ,Nat.zero_add];rw[show(q-p).toNat=q.toNat-p.toNat by omega]
theorem ajP[H:ku P T E0 n]{i o q:Nat}{v:Int}{f:Nat->Option R}(hx:S.ev x=.sl i (o*n) q)(h:Option.bind (ckR o q v) f=some r)(D:∀j,f j=some r->Nx P C ops nd K rest acc S (rg++(bD x++bD y)) [] ⟨some (d,.ptr i (j*n)),[]⟩)(I:S.ev y=.sv (.v (.int kk v)):=by exact rfl)(hg:Gd ops S gd rg:=by first|exact .none|exact .some Y Y)(hd:d<S.n:=by exact tl Y):RunT P C ops nd K (⟨some d,.indexAddr T x y,ty,pos,aft,gd⟩::rest) acc S:=by
 obtain⟨j,hj,h⟩:=bind_some h;obtain⟨p,k,rfl⟩:=ZJ hj;refine aeY hg _ [] _ hd ζ (λS' ht _ E a w b=>?_) (D _ h);obtain⟨⟨g,c,l,m,e⟩,hl⟩:=b.qy hx ht (λ_ h=>List.mem_append_left _ h);have e:a.eval y=.int kk v:=(b.qy I ht (λ_ h=>List.mem_append_right _ h)).1;refine⟨.pointer (some ⟨g,o*n+v.toNat*n,none⟩),?_,⟨g,l,by rw[Nat.add_mul]⟩,hl⟩;have b:=H.size w;simp[execOp,e,m,Instr.indexAt,asIntOf,underlying,H.u,b,mQ,p,k]
theorem anH{i o q m:Nat}[I:ku P T E0 m]{f:Int->Option R}(hx:S.ev x=.sl i o q)(h:Option.bind (some (q:Int)) f=some r)(D:∀c,f c=some r->Nx P C ops nd K rest acc S (rg++bD x) [] ⟨some (d,.sv (.v (.int .i64 c))),[]⟩)(H:Gd ops S gd rg:=by first|exact .none|exact .some Y Y)(hd:d<S.n:=by exact tl Y):RunT P C ops nd K (⟨some d,.call ⟨.builtin .len,#[x],#[T]⟩,ty,pos,aft,gd⟩::rest) acc S:=
 aeY H (bD x) [] _ hd ζ (λS' ht _ E a w e=>by
  obtain⟨g,c,_,b,_⟩:=(e.qy hx ht (λ_ h=>h)).1;exact⟨.int .i64 q,by simp[execOp,resolve,invoke,builtin,Builtin.len_,underlying,I.u,b,goInt],Y,rz⟩) (D _ h)
end steps
mutual
def AV.fz(i:Nat)(X:SV)(p:Nat->SV):AV->AV
 |.sv s=>.sv s
 |.ob j=>bif Nat.beq j i then .sv X else .ob j
 |.ptr j o=>bif Nat.beq j i then .sv (p o)else .ptr j o
 |.sl j o l=>bif Nat.beq j i then .sv .any else .sl j o l
 |.sub j k=>bif Nat.beq j i then .sv .any else .sub j k
 |.Bp j k o=>bif Nat.beq j i then .sv .any else .Bp j k o
 |.agg l=>.agg (ZL i X p l)
 |.lK l=>.lK (ZL i X p l)
 |.fn f b c=>.fn f (ZL i X p b) (ZL i X p c)
def ZL(i:Nat)(X:SV)(p:Nat->SV):List AV->List AV
 |[]=>[]
 |x::l=>x.fz i X p::ZL i X p l
end
def Ob.fz(i:Nat)(X:SV)(p:Nat->SV):Ob->Ob
 |.box T cs=>.box T (ZL i X p cs)
 |.arr T cs=>.arr T (ZL i X p cs)
 |.vF T U sz rs f a=>bif f.any (λq=>Nat.beq q.2 i)then .dead else .vF T U sz rs f a
 |x=>x
def AS.fz(S:AS)(i:Nat)(X:SV)(p:Nat->SV):AS:={S with t:=λs=>(S.t s).fz i X p,o:=λj=>bif Nat.beq j i then some .dead else(S.o j).map (Ob.fz i X p)}
theorem nk(j i:Nat):(j=i/\Nat.beq j i=true)\/(j≠i/\Nat.beq j i=false):=by
 by_cases h:j=i
 ·subst h;exact .inl ⟨Y,by simp⟩
 exact .inr ⟨h,sX h⟩
section
variable {i:Nat}{X:SV}{p:Nat->SV}{E:Env}
mutual
theorem AV.RS(D:X.h E.M (E.ν i))(hp:∀o g,blk (E.ν i)=some g->(p o).h E.M (.pointer (some ⟨g,o,none⟩))):∀(x:AV) (v:Value),x.holds E v->(x.fz i X p).holds E v
 |.sv s,_,h=>h
 |.ob j,v,h=>by
  rcases nk j i with⟨rfl,e⟩|⟨_,e⟩<;>simp only[AV.fz,e,cond_true,cond_false]
  ·have h:v=_:=h;rw[h];exact D
  exact h
 |.ptr j o,v,h=>by
  rcases nk j i with⟨rfl,e⟩|⟨_,e⟩<;>simp only[AV.fz,e,cond_true,cond_false]
  ·obtain⟨g,a,rfl⟩:=h;exact hp o g a
  exact h
 |.sl j o l,v,h=>by
  rcases nk j i with⟨rfl,e⟩|⟨_,e⟩<;>simp only[AV.fz,e,cond_true,cond_false]
  ·trivial
  exact h
 |.sub j k,v,h=>by
  rcases nk j i with⟨rfl,e⟩|⟨_,e⟩<;>simp only[AV.fz,e,cond_true,cond_false]
  ·trivial
  exact h
 |.Bp j k o,v,h=>by
  rcases nk j i with⟨rfl,e⟩|⟨_,e⟩<;>simp only[AV.fz,e,cond_true,cond_false]
  ·trivial
  exact h
 |.agg l,_,⟨vs,e,h⟩=>⟨vs,e,jc.fz D hp l vs h⟩
 |.lK l,_,⟨vs,e,h⟩=>⟨vs,e,jc.fz D hp l vs h⟩
 |.fn f b c,_,⟨bs,cs,e,h,a⟩=>⟨bs,cs,e,jc.fz D hp b bs h,jc.fz D hp c cs a⟩
theorem jc.fz(D:X.h E.M (E.ν i))(hp:∀o g,blk (E.ν i)=some g->(p o).h E.M (.pointer (some ⟨g,o,none⟩))):∀(l:List AV) (vs:List Value),jc E l vs->jc E (ZL i X p l) vs
 |[],[],_=>trivial
 |[],_::_,h=>h.elim
 |_::_,[],h=>h.elim
 |x::l,v::vs,h=>⟨AV.RS D hp x v h.1,jc.fz D hp l vs h.2⟩
end
mutual
theorem AV.Wp:∀(x:AV) (j:Nat),j∈(x.fz i X p).refs->j∈x.refs
 |.sv s,_,h=>h
 |.ob k,j,h=>by
  rcases nk k i with⟨rfl,e⟩|⟨_,e⟩<;>simp only[AV.fz,e,cond_true,cond_false]at h
  ·cases h
  exact h
 |.ptr k o,j,h=>by
  rcases nk k i with⟨rfl,e⟩|⟨_,e⟩<;>simp only[AV.fz,e,cond_true,cond_false]at h
  ·cases h
  exact h
 |.sl k o l,j,h=>by
  rcases nk k i with⟨rfl,e⟩|⟨_,e⟩<;>simp only[AV.fz,e,cond_true,cond_false]at h
  ·cases h
  exact h
 |.sub k m,j,h=>by
  rcases nk k i with⟨rfl,e⟩|⟨_,e⟩<;>simp only[AV.fz,e,cond_true,cond_false]at h
  ·cases h
  exact h
 |.Bp k m o,j,h=>by
  rcases nk k i with⟨rfl,e⟩|⟨_,e⟩<;>simp only[AV.fz,e,cond_true,cond_false]at h
  ·cases h
  exact h
 |.agg l,j,h=>yJ l j h
 |.lK l,j,h=>yJ l j h
 |.fn f b c,j,h=>by
  rcases List.mem_append.1 h with h|h
  ·exact List.mem_append_left _ (yJ b j h)
  exact List.mem_append_right _ (yJ c j h)
theorem yJ:∀(l:List AV) (j:Nat),j∈uS (ZL i X p l)->j∈uS l
 |[],_,h=>h
 |x::l,j,h=>by
  rcases List.mem_append.1 h with h|h
  ·exact List.mem_append_left _ (AV.Wp x j h)
  exact List.mem_append_right _ (yJ l j h)
end
theorem Wq:∀l:List AV,(ZL i X p l).length=l.length
 |[]=>rfl
 |_::l=>congrArg (· +1) (Wq l)
end
theorem bw.fz{C:Ctx}{S:AS}{E:Env}{a:Act}{w:World}(h:bw C S E a w){i:Nat}{ob:Ob}(K:S.o i=some ob)(X:SV)(p:Nat->SV)(M':Mem)(I:E.M.le M')(D:∀b o v,M' b o=some v->E.M b o=some v\/∃t,ob.kM E i t b)(H:M'.kf w)
  (hX:X.h M' (E.ν i)) (hp:∀o g,blk (E.ν i)=some g->(p o).h M' (.pointer (some ⟨g,o,none⟩))):bw C (S.fz i X p) {E with M:=M'} a w:=by
 have A:bw C (AS.ia [(i,.dead)] S) {E with M:=M'} a w:=by
  have c:∀j B,cB [(i,Ob.dead)] j=some (some B)->j=i/\B=.dead:=λj B hj=>by
   by_cases q:j=i
   ·subst q;simp[cB]at hj;exact⟨Y,hj.symm⟩
   simp[cB,q]at hj
  refine h.trO [(i,.dead)] [i] η rfl I (λb o v e=>?_) H (λ_ _=>⟨rfl,rfl⟩) (λ_ _ _=>rfl) (λ_ _ _=>rfl) rfl rfl rfl (Nat.le_refl _) (λj B hj=>?_) (λj B t I F u g hj G m L=>?_)
  ·rcases D b o v e with e|⟨t,e⟩
   ·exact .inl e
   exact .inr (.inr ⟨i,by simp,ob,t,K,e⟩)
  ·obtain⟨rfl,rfl⟩:=c j B hj;exact⟨an,λ_ h=>(by cases h),λ_ _ h=>h.elim⟩
  obtain⟨rfl,rfl⟩:=c j B hj;exact m.elim
 have D:∀j,(AS.ia [(i,Ob.dead)] S).o j=if j=i then some .dead else S.o j:=λj=>by
  by_cases q:j=i
  ·subst q;rw[if_pos rfl];exact AS.yD _ _ _
  rw[if_neg q];exact AS.vG _ _ _ _ q
 have r:∀j,(S.fz i X p).o j=if j=i then some .dead else(S.o j).map (Ob.fz i X p):=λj=>by
  show(bif Nat.beq j i then _ else _)=_;by_cases q:j=i
  ·subst q;simp
  rw[sX q,if_neg q];rfl
 have d:∀j z,(S.fz i X p).o j=some z->∃c,(AS.ia [(i,Ob.dead)] S).o j=some c/\z=c.fz i X p:=λj z hj=>by
  rw[r]at hj;by_cases q:j=i
  ·rw[if_pos q]at hj;exact⟨.dead,by rw[D,if_pos q],by cases hj;rfl⟩
  rw[if_neg q]at hj;cases e:S.o j with
  |none=>rw[e]at hj;cases hj
  |some c=>rw[e]at hj;cases hj;exact⟨c,by rw[D,if_neg q];exact e,rfl⟩
 have J:∀j,(AS.ia [(i,Ob.dead)] S).o j≠none->(S.fz i X p).o j≠none:=λj hj=>by
  rw[D]at hj;rw[r];by_cases q:j=i
  ·rw[if_pos q];simp
  rw[if_neg q]at hj⊢;simpa using hj
 have kM:∀(c:Ob) j t g,(c.fz i X p).kM {E with M:=M'} j t g->c.kM {E with M:=M'} j t g:=λc j t g m=>by
  cases c with
  |vF T U sz rs f N=>
   simp only[Ob.fz]at m;cases q:f.any (λq=>Nat.beq q.2 i)with
   |true=>rw[q]at m;exact m.elim
   |false=>rw[q]at m;exact m
  |_=>cases t<;>exact m
 exact{A with
  wf:=by
   refine⟨λs j hj=>J j (A.wf.t s j (AV.Wp _ j hj)),λj z hj x r k K=>?_⟩;obtain⟨c,D,rfl⟩:=d j z hj;have H:∀l:List AV,(∀y∈l,(AS.ia [(i,Ob.dead)] S).lG y)->x∈ZL i X p l->(S.fz i X p).o k≠none:=λl hl r=>by
    obtain⟨y,O,P⟩:=Br (yJ l k (NV r K));exact J k (hl y O k P)
   cases c with
   |box T cs=>exact H cs (A.wf.o j _ D) r
   |arr T cs=>exact H cs (A.wf.o j _ D) r
   |vF T U sz rs f N=>
    simp only[Ob.fz]at r;cases q:f.any (λq=>Nat.beq q.2 i)with
    |true=>rw[q]at r;cases r
    |false=>rw[q]at r;exact J k (A.wf.o j _ D x r k K)
   |dead=>cases r
   |row T sz n cs=>cases r
  tm:=λs=>AV.RS (E:={E with M:=M'}) hX hp _ _ (A.tm s)
  ob:=λj z hj=>by
   obtain⟨c,D,rfl⟩:=d j z hj;have r:=A.ob j c D;cases c with
   |box T cs=>obtain⟨g,vs,H,J,K⟩:=r;exact⟨g,vs,H,J,jc.fz (E:={E with M:=M'}) hX hp cs vs K⟩
   |arr T cs=>obtain⟨vs,H,J⟩:=r;exact⟨vs,by rw[Wq];exact H,jc.fz (E:={E with M:=M'}) hX hp cs vs J⟩
   |vF T U sz rs f N=>
    simp only[Ob.fz];cases q:f.any (λq=>Nat.beq q.2 i)with
    |true=>trivial
    |false=>exact r
   |dead=>trivial
   |row T sz n cs=>exact r
  mine:=λj z t g hj m=>by
   obtain⟨c,D,rfl⟩:=d j z hj;exact A.mine j c t g D (kM c j t g m)
  inj:=λj z t I B u g hj G m L=>by
   obtain⟨c,D,rfl⟩:=d j z hj;obtain⟨F,r,rfl⟩:=d I B G
   exact A.inj j c t I F u g D r (kM c j t g m) (kM F I u g L)}
def Mem.put(M:Mem)(g:Nat)(vs:List Value):Mem:=λb o=>if b=g then vs[o]? else M b o
theorem Mem.ZM{M:Mem}{g:Nat}{vs:List Value}(h:∀o,M g o=none):M.le (M.put g vs):=λb o v e=>by
 have:b≠g:=by rintro rfl;rw[h o]at e;cases e
 simp[Mem.put,this,e]
theorem Mem.ZN{M:Mem}{g:Nat}{D vs:List Value}{w:World}{T:TypeId}(h:M.kf w)(H:w.heap[g]? =some (.cells ⟨D⟩ T (0,0)))(hp:∀(o:Nat) (v:Value),vs[o]? =some v->D[o]? =some v/\v.oneCell'=true):(M.put g vs).kf w:=λb o v e=>by
 by_cases a:b=g
 ·subst a;simp only[Mem.put,if_true]at e;obtain⟨d,c⟩:=hp o v e;exact .of (by simp[World.cell?,H,d]) c
 simp only[Mem.put,if_neg a]at e;exact h b o v e
section
variable {C:Ctx}{S:AS}{P:Program}{Q:Exit->AS->Prop}
theorem T6{M:Mem}{g c:Nat}{n:Nat}{α:Type}{e:α->List SV}[K:EL e n]{l:List α}{vs:List Value}(D:SV.jN M (l.flatMap e) vs)(H:∀(o:Nat) (v:Value),vs[o]? =some v->M g o=some v)(I:l.length<=c)(hl:l.length<=9223372036854775807):(slc n (l.map e)).h M (.slice (some ⟨g,0,none⟩) l.length c):=by
 refine .inr ⟨g,0,c,by rw[List.length_map],by rw[List.length_map];exact I,by rw[List.length_map];exact hl,λi a f=>?_⟩;obtain⟨b,d⟩:=Kp (Zv (e:=e) l) i a f;refine⟨b,λj s f=>?_⟩;obtain⟨y,b,a⟩:=D.get (d j s f);exact⟨y,by rw[Nat.zero_add];exact H _ _ b,CT l M vs D y (List.mem_of_getElem? b),a⟩
theorem bT{i:Nat}{T:TypeId}{n:Nat}{α:Type}{e:α->List SV}[H:EL e n]{l:List α}(D:S.o i=some (TR T n e l)):jx C S (S.fz i (slc n (l.map e)) (λ_=>.any)):=by
 rintro a w ⟨E,h⟩;obtain⟨vs,c,f⟩:=h.ob i _ D;rcases c.2 with⟨j,c⟩|⟨g,k,d,j,_,r,p,m,s,q⟩
 ·refine⟨_,h.fz D _ _ E.M (Mem.le_refl _) (λ_ _ _ e=>.inl e) h.kf ?_ (λ_ _ _=>trivial)⟩;rw[j];exact .inl ⟨none,Y,by rw[List.length_eq_zero_iff.1 c];rfl⟩
 have m:(TR T n e l).kM E i none g:=by show blk (E.ν i)=_;rw[j];rfl
 have c:=(h.mine i _ none g D m).2.1;have d:=Mem.ZM (vs:=vs) c;have c:maxLen=9223372036854775807:=by decide
 have k:=f.mono d;refine⟨_,h.fz D _ _ (E.M.put g vs) d (λb o v e=>?_) (Mem.ZN h.kf r (λo v c=>⟨?_,CT l _ vs f v (List.mem_of_getElem? c)⟩)) ?_ (λ_ _ _=>trivial)⟩
 ·by_cases d:b=g
  ·exact .inr ⟨none,by rw[d];exact m⟩
  simp only[Mem.put,if_neg d]at e;exact .inl e
 ·rw[<-q,List.getElem?_take]at c;split at c
  ·exact c
  cases c
 rw[j];exact T6 k (λo v c=>by simp[Mem.put,c]) p ω
theorem cK{i:Nat}{T:TypeId}(cs:List SV)[H:RC cs](D:S.o i=some (.box T (cs.map AV.sv))):jx C S (S.fz i .any (λo=>ref (cs.drop o))):=by
 rintro a w ⟨E,h⟩;obtain⟨g,vs,f,n,j⟩:=h.ob i _ D;have l:(Ob.box T (cs.map AV.sv)).kM E i none g:=by show blk (E.ν i)=_;rw[f];rfl
 have c:=(h.mine i _ none g D l).2.1;have d:=Mem.ZM (vs:=vs) c;have c:=j.Bq;refine⟨_,h.fz D _ _ (E.M.put g vs) d (λb o v e=>?_) (Mem.ZN h.kf n (λo v j=>⟨j,H.h _ _ c v (List.mem_of_getElem? j)⟩)) trivial (λo p m=>?_)⟩
 ·by_cases j:b=g
  ·exact .inr ⟨none,by rw[j];exact l⟩
  simp only[Mem.put,if_neg j]at e;exact .inl e
 rw[f]at m;cases m;refine⟨g,o,Y,λk s j=>?_⟩;rw[List.getElem?_drop]at j;obtain⟨y,l,f⟩:=c.get j;exact⟨y,by simp[Mem.put,l],H.h _ _ c y (List.mem_of_getElem? l),s.mono d f⟩
end
end
section
open Go.RowKit
def Ds{α:Type}(ll:List (List α))(k:Nat)(v:Int):Option Nat:=Option.bind ll[k]? λl=>fG l v
def M6{α:Type}(ll:List (List α))(k j:Nat):Option α:=Option.bind ll[k]? λl=>l[j]?
def Rk{α:Type}(ll:List (List α))(k j:Nat)(b:α):Option (List (List α)):=Option.bind ll[k]? λl=>Option.bind (stM l j b) λa=>some (ll.set k a)
def lnn{α:Type}(ll:List (List α))(k:Nat):Option Int:=Option.bind ll[k]? λl=>some (l.length:Int)
theorem az{α β:Type}{x:Option α}{a:α}{f:α->Option β}{r:β}(h:x=some a)(k:f a=some r):Option.bind x f=some r:=by rw[h];exact k
section steps
variable {P:Program}{C:Ctx}{ops:Array Oper}{S:AS}{nd:Bool}{K:List Ac->AS->Prop}{rest:List Oper}{acc:List Ac}
variable {gd:Option (Nat×Bool)}{rg:List Nat}{d:Nat}{ty:TypeId}{pos:String}{aft:Array Edge}{x y z:Operand}{T U E0 E1:TypeId}{kk:IntKind}{R:Type}{r:R}
variable {α:Type}{ll:List (List α)}{e:α->List SV}{n by_ i k:Nat}{zv:Value}{lk:Bool}{fo:List (Nat×Nat)}
theorem vL{j:Nat}{l:List α}(h:ll[j]? =some l):(ll.map λl=>(l.length,l.flatMap e))[j]? =some (l.length,l.flatMap e):=by rw[List.getElem?_map,h];rfl
theorem anp{m:Nat}[tS:ku P T E0 m]{f:Int->Option R}(hx:S.ev x=.sub i k)(I:S.o i=some (TM U E1 n e ll [] false))(h:Option.bind (lnn ll k) f=some r)(D:∀c,f c=some r->Nx P C ops nd K rest acc S (rg++bD x) [i] ⟨some (d,.sv (.v (.int .i64 c))),[]⟩)(hg:Gd ops S gd rg:=by first|exact .none|exact .some Y Y)(H:d<S.n:=by exact tl Y):RunT P C ops nd K (⟨some d,.call ⟨.builtin .len,#[x],#[T]⟩,ty,pos,aft,gd⟩::rest) acc S:=by
 obtain⟨c,a,h⟩:=bind_some h;obtain⟨l,hl,a⟩:=bind_some a;cases a;exact aeJ (p:=.s i k) hx (.r (.s I (vL hl) η)) (az Y h) D hg H
theorem agO[tS:ku P T E0 n]{v:Int}{f:Nat->Option R}(hx:S.ev x=.sub i k)(I:S.o i=some (TM U E1 n e ll [] false))(h:Option.bind (Ds ll k v) f=some r)(D:∀j,f j=some r->Nx P C ops nd K rest acc S (rg++(bD x++bD y)) [i] ⟨some (d,.Bp i k (j*n)),[]⟩)(hy:S.ev y=.sv (.v (.int kk v)):=by exact rfl)(hg:Gd ops S gd rg:=by first|exact .none|exact .some Y Y)(H:d<S.n:=by exact tl Y):RunT P C ops nd K (⟨some d,.indexAddr T x y,ty,pos,aft,gd⟩::rest) acc S:=by
 obtain⟨j,a,h⟩:=bind_some h;obtain⟨l,hl,a⟩:=bind_some a;exact agI (p:=.s i k) hx (.r (.s I (vL hl) η)) a (D _ h) hy hg H
theorem ahv[tA:vI P T n][el:EL e n]{j:Nat}{f:α->Option R}(hx:S.ev x=.Bp i k (j*n))(I:S.o i=some (TM U E1 n e ll [] false))(h:Option.bind (M6 ll k j) f=some r)(D:∀b,f b=some r->Nx P C ops nd K rest acc S (rg++bD x) [i] ⟨some (d,.sv (.agg (e b))),[]⟩)(hg:Gd ops S gd rg:=by first|exact .none|exact .some Y Y)(H:d<S.n:=by exact tl Y):RunT P C ops nd K (⟨some d,.load T x,ty,pos,aft,gd⟩::rest) acc S:=by
 obtain⟨b,a,h⟩:=bind_some h;obtain⟨l,hl,a⟩:=bind_some a;exact aht (p:=.s i k) hx (.s I (vL hl) η) (az a h) D hg H
theorem ahF[tA:vI P T n][el:EL e n]{j:Nat}{f:List (List α)->Option R}(b:α)(hx:S.ev x=.Bp i k (j*n))(hR:S.o i=some (TM U E1 n e ll [] false))(h:Option.bind (Rk ll k j b) f=some r)(H:∀D,f D=some r->Nx P C ops nd K rest acc S (rg++(bD x++bD y)) [i] ⟨none,[(i,TM U E1 n e D [] false)]⟩)(I:S.ev y=.sv (.agg (e b)):=by exact rfl)(hg:Gd ops S gd rg:=by first|exact .none|exact .some Y Y):RunT P C ops nd K (⟨none,.store T x y,ty,pos,aft,gd⟩::rest) acc S:=by
 obtain⟨q,a,h⟩:=bind_some h;obtain⟨l,hl,a⟩:=bind_some a;obtain⟨D,c,a⟩:=bind_some a;cases a;exact afl (p:=.s i k) (G:=λD=>TM U E1 n e (ll.set k D) [] false) b hx (.s hR hl η) (az (f:=λD=>f (ll.set k D)) c h) (λa c=>H _ c) I hg
theorem Wr{S':AS}{E:Env}{a:Act}{w:World}(H:bw C S' E a w)(D:S'.o i=some (TM U E1 n e ll fo lk)){j:Nat}(hj:j<ll.length):∃g c b us,E.ν i=.slice (some ⟨g,0,none⟩) ll.length c/\w.heap[g]? =some (.cells ⟨b⟩ U (0,0))/\b.take ll.length=us/\us[j]? =some (E.rv lk i j)/\us.length=ll.length/\ll.length<=c/\c<=maxLen/\b.length=c:=by
 obtain⟨⟨us,d,f⟩,_⟩:=H.ob i _ D;rw[List.length_map]at d f;rcases d.2 with⟨_,h⟩|⟨g,c,b,m,_,q,p,h,k,l⟩
 ·omega
 exact⟨g,c,b.toList,us,m,q,by simpa using l,f j hj,by simpa using d.1,p,h,by simpa using k⟩
theorem anq[H:uG P T](I:Gd ops S gd rg){j:Nat}(X:AV)(hx:S.ev x=.ptr i (j*1))(hR:S.o i=some (TM U E1 n e ll fo lk))(hj:j<ll.length)(hX:∀S':AS,S'.o i=S.o i->∀E a w,bw C S' E a w->X.holds E (E.rv lk i j)/\S'.lG X)(hd:d<S.n)(D:Nx P C ops nd K rest acc S (rg++bD x) [i] ⟨some (d,X),[]⟩):RunT P C ops nd K (⟨some d,.load T x,ty,pos,aft,gd⟩::rest) acc S:=
 aeY I (bD x) [i] X hd ζ (λS' ht f E a w b=>by
  have l:=f i η;obtain⟨g,k,m⟩:=(b.qy hx ht (λ_ h=>h)).1;obtain⟨t,c,r,us,p,s,q,f,_⟩:=Wr b (l.trans hR) hj;rw[p]at k;cases k;have k:w.cell? ⟨t,j,none⟩=some (E.rv lk i j):=by
   rw[<-q,List.getElem?_take,if_pos hj]at f;simp[World.cell?,s,f]
  obtain⟨f,p⟩:=hX S' l E a w b;exact⟨_,by rw[Nat.mul_one]at m;simp[execOp,m,Instr.loadAt,Instr.sureAddr,loadVar,H.isAgg,k],f,p⟩) D
theorem agZ[tV:uG P T]{j:Nat}{f:List α->Option R}(hx:S.ev x=.ptr i (j*1))(H:S.o i=some (TM U E1 n e ll fo false))(h:Option.bind ll[j]? f=some r)(D:∀l,f l=some r->Nx P C ops nd K rest acc S (rg++bD x) [i] ⟨some (d,.sub i j),[]⟩)(I:Gd ops S gd rg:=by first|exact .none|exact .some Y Y)(hd:d<S.n:=by exact tl Y):RunT P C ops nd K (⟨some d,.load T x,ty,pos,aft,gd⟩::rest) acc S:=by
 obtain⟨l,hl,h⟩:=bind_some h;exact anq I (.sub i j) hx H (List.getElem?_eq_some_iff.1 hl).1 (λS' c E a w b=>⟨Y,λq b=>by
  have:q=i:=by simpa[AV.refs]using b
  subst this;rw[c,H];simp⟩) hd (D l h)
theorem ahz[tV:uG P T]{j q:Nat}(hx:S.ev x=.ptr i (j*1))(H:S.o i=some (TM U E1 n e ll fo lk))(hj:Option.isSome ll[j]? =true)(I:(j,q)∈fo)(D:Nx P C ops nd K rest acc S (rg++bD x) [i] ⟨some (d,.ob q),[]⟩)(hg:Gd ops S gd rg:=by first|exact .none|exact .some Y Y)(hd:d<S.n:=by exact tl Y):RunT P C ops nd K (⟨some d,.load T x,ty,pos,aft,gd⟩::rest) acc S:=by
 refine anq hg (.ob q) hx H (by obtain⟨l,hl⟩:=Option.isSome_iff_exists.1 hj;exact(List.getElem?_eq_some_iff.1 hl).1) (λS' b E a w c=>?_) hd D
 have f:=c.ob i _ (b.trans H);exact⟨f.2.1 (j,q) I,λp hp=>c.wf.o i _ (b.trans H) (.ob q) (List.mem_map.2 ⟨(j,q),I,Y⟩) p hp⟩
theorem ahG[tV:uG P T]{j q m:Nat}{cs:List SV}(hx:S.ev x=.ptr i (j*1))(hR:S.o i=some (TM U E1 n e ll fo true))(hj:Option.isSome ll[j]? =true)(hq:S.o q=some (.row E1 n m cs))(hf:∀p∈fo,p.1=j)(next:Nx P C ops nd K rest acc S (rg++(bD x++bD y)) [i,q] ⟨none,[(i,TM U E1 n e ll [(j,q)] true)]⟩)(hy:S.ev y=.ob q:=by exact rfl)(hg:Gd ops S gd rg:=by first|exact .none|exact .some Y Y):RunT P C ops nd K (⟨none,.store T x y,ty,pos,aft,gd⟩::rest) acc S:=by
 refine akN hg _ [i,q] _ ζ (λS' _ ht ho E a w hh=>?_) next
 have hi:=(ho i η).trans hR;have hq':=(ho q η).trans hq;have hj:j<ll.length:=by obtain⟨l,hl⟩:=Option.isSome_iff_exists.1 hj;exact(List.getElem?_eq_some_iff.1 hl).1
 obtain⟨g,h1,h2⟩:=(hh.qy hx ht (λ_ h=>List.mem_append_left _ h)).1;have h3:a.eval y=E.ν q:=(hh.qy hy ht (λ_ h=>List.mem_append_right _ h)).1;obtain⟨r,c,f,us,q1,q2,q3,q4,q5,q6,q7,q8⟩:=Wr hh hi hj;rw[q1]at h1;cases h1;obtain⟨vs,hown,hvs⟩:=hh.ob q _ hq';have hone:(E.ν q).oneCell'=true:=by
  rcases hown.2 with⟨d,_⟩|⟨_,_,_,d,_⟩<;>rw[d]<;>rfl
 have yK:=hh.ob i _ hi;obtain⟨⟨us0,ho1,hu1⟩,hfo,hrs⟩:=yK
 let E':Env:={E with κ:=λp=>if p=i then λt=>if t=j then E.ν q else E.κ i t else E.κ p}
 have hκ:∀t,E'.rv true i t=if t=j then E.ν q else E.κ i t:=λt=>by simp[E',Env.rv]
 have s:(TM U E1 n e ll fo true).kM E i none r:=by show blk (E.ν i)=_;rw[q1];rfl
 have oth:∀t b,(TM U E1 n e ll fo true).kM E i t b->t≠none->b≠r:=λt b hc hne e=>by subst e;exact hne (hh.inj i _ t i _ none b hi hi hc s).2
 have k:∀t b,(TM U E1 n e ll [(j,q)] true).kM E' i t b->(TM U E1 n e ll fo true).kM E i t b:=λt b hc=>by
  cases t with
  |none=>exact hc
  |some t=>
   obtain⟨⟨z,A⟩,hc3⟩:=hc;have hne:t≠j:=by simpa using A
   rw[hκ,if_neg hne]at hc3;exact⟨⟨z,λhm=>by obtain⟨p,hp,rfl⟩:=List.mem_map.1 hm;exact hne (hf p hp)⟩,hc3⟩
 have hst:=BB (P:=P) (ρ:=a.eval) (T:=T) (U:=U) (x:=x) (y:=y) (ty:=ty) (pos:=pos) (aft:=aft) (gd:=gd) (b:=r) (o:=j) (n:=1) (vs:=f) (us:=[E.ν q]) (w:=w) (by rw[h2,Nat.mul_one]) (by rw[h3];exact je hone) (by simpa using hone) (tV.size w) Y q2 ω;refine⟨E',_,hst,?_⟩;have hlen:(ll.map λl=>(l.length,l.flatMap e)).length=ll.length:=by simp
 refine hh.trO [(i,TM U E1 n e ll [(j,q)] true)] [i] η rfl (Mem.le_refl _) (λ_ _ _ e=>.inl e) (iG hh.kf λb ⟨o,v,e⟩=>kT (by rintro rfl;rw[(hh.mine i _ none b hi s).2.1 o]at e;cases e)) (λ_ _=>⟨rfl,rfl⟩) (λp _ hp=>?_) (λb hb hX=>kT (by rintro rfl;exact hX i η _ none hi s)) rfl rfl rfl (by simp[lj]) (λp ob hp=>?_) (λp ob t p' iU u b hp X5 hc qx=>?_)
 ·show(if p=i then _ else E.κ p)=E.κ p;rw[if_neg (by rintro rfl;simp[cB]at hp)]
 ·have hpi:p=i/\ob=TM U E1 n e ll [(j,q)] true:=by
   by_cases h:p=i
   ·subst h;simp[cB]at hp;exact⟨Y,hp.symm⟩
   simp[cB,h]at hp
  obtain⟨rfl,rfl⟩:=hpi;refine⟨⟨⟨us0.set j (E.ν q),?_,λt ht=>?_⟩,λp hp=>?_,λt m cs hm ht=>?_⟩,λX hX t ht=>?_,λt b hc=>⟨.inl ⟨p,by simp,_,t,hi,k t b hc⟩,(hh.mine p _ t b hi (k t b hc)).2.1⟩⟩
  ·rw[hlen]at ho1⊢;refine⟨by simpa using ho1.1,.inr ⟨r,c,⟨pq f j [E.ν q]⟩,q1,Nat.zero_le _,CU q2,q6,q7,by simp[pq,q8],?_⟩⟩;rcases ho1.2 with⟨d,_⟩|⟨f,c2,z,d,_,r,_,_,_,s⟩
   ·rw[d]at q1;cases q1
   rw[d]at q1;cases q1;rw[r]at q2;cases q2;simp only[pq,Nat.mul_one]at*;rw[<-s,List.take_set]
  ·rw[hκ];rw[hlen]at ht;by_cases h:t=j
   ·subst h;rw[if_pos Y,List.getElem?_set_self];have:=ho1.1;rw[hlen]at this;omega
   rw[if_neg h,List.getElem?_set_ne (Ne.symm h)];exact hu1 t (by rw[hlen];exact ht)
  ·have:p=(j,q):=by simpa using hp
   subst this;rw[hκ,if_pos rfl]
  ·have hne:t≠j:=by simpa using ht
   obtain⟨vs',d,f⟩:=hrs t m cs hm (λhm=>by obtain⟨p,hp,rfl⟩:=List.mem_map.1 hm;exact hne (hf p hp));refine⟨vs',?_,f⟩;rw[hκ,if_neg hne];exact jO d λb hb=>kT (oth (some t) b ⟨⟨⟨_,hm⟩,λhm=>by obtain⟨p,hp,rfl⟩:=List.mem_map.1 hm;exact hne (hf p hp)⟩,hb⟩ η)
  have:X=.ob q:=by simpa[Ob.IB]using hX
  subst this;have:t=q:=by simpa[AV.refs]using ht
  subst this;rw[vb];by_cases h:t=p
  ·subst h;simp[cB]
  simp[cB,h];rw[hq'];simp
 have one:∀p ob,cB [(i,TM U E1 n e ll [(j,q)] true)] p=some (some ob)->p=i/\ob=TM U E1 n e ll [(j,q)] true:=λp ob hp=>by
  by_cases h:p=i
  ·subst h;simp[cB]at hp;exact⟨Y,hp.symm⟩
  simp[cB,h]at hp
 obtain⟨rfl,rfl⟩:=one p ob hp;obtain⟨rfl,rfl⟩:=one p' iU X5;exact hh.inj _ _ t _ _ u b hi hi (k t b hc) (k u b qx)
end steps
end
section
open Go.RowKit
abbrev qB:Value:=.slice none 0 0
section
variable {C:Ctx}{S:AS}{E:Env}{a:Act}{w w':World}
theorem bw.Ks(h:bw C S E a w){s:Nat}{x:AV}(D:x.holds E (a.tmps.getD s undef))(hl:S.lG x):bw C (S.set s x) E a w:=
 {h with
  wf:=⟨λt=>by
    by_cases e:t=s
    ·subst e;rw[AS.oA];exact hl
    rw[AS.lU _ _ _ _ e];exact h.wf.t t,h.wf.o⟩
  tm:=λt=>by
    by_cases e:t=s
    ·subst e;rw[AS.oA];exact D
    rw[AS.lU _ _ _ _ e];exact h.tm t}
theorem bw.say(h:bw C S E a w)(obs:List (Nat×Ob))(K:List Nat)(E':Env)(I:∀j∈K,∃ob,(j,ob)∈obs)(hO:E'.O=E.O)(H:E'.M=E.M)
  (hν:∀i,S.o i≠none\/C.qZ i=true->E'.ν i=E.ν i/\E'.ρ i=E.ρ i) (hκ:∀i,S.o i≠none->cB obs i=none->E'.κ i=E.κ i)
  (hnew:∀i ob,cB obs i=some (some ob)->ob.ok E' w i/\(∀x∈ob.IB,(AS.ia obs S).lG x)/\∀t g,ob.kM E' i t g->∃j∈K,∃ob t,S.o j=some ob/\ob.kM E j t g)
  (hinj:∀i ob t j D u g,cB obs i=some (some ob)->cB obs j=some (some D)->ob.kM E' i t g->D.kM E' j u g->i=j/\t=u):bw C (AS.ia obs S) E' a w:=
 h.trO obs K I hO (by rw[H];exact Mem.le_refl _) (λb o v e=>.inl (by rw[<-H];exact e)) (by rw[H];exact h.kf) hν hκ (λ_ _ _=>rfl) rfl rfl rfl (Nat.le_refl _)
  (λi ob c=>by
   obtain⟨f,m,l⟩:=hnew i ob c;exact⟨f,m,λt g k=>by
    obtain⟨j,hj,D,u,c,d⟩:=l t g k;exact⟨.inl ⟨j,hj,D,u,c,d⟩,by rw[H];exact(h.mine j D u g c d).2.1⟩⟩) hinj
theorem ZR{i p:Nat}{ob D:Ob}(h:cB [(i,ob)] p=some (some D)):p=i/\D=ob:=by
 by_cases q:p=i
 ·subst q;simp[cB]at h;exact⟨Y,h.symm⟩
 simp[cB,q]at h
theorem N3{i j p:Nat}{ob H D:Ob}(h:cB [(i,ob),(j,H)] p=some (some D)):(p=j/\D=H)\/(p=i/\p≠j/\D=ob):=by
 by_cases q:p=j
 ·subst q;simp[cB]at h;exact .inl ⟨Y,h.symm⟩
 by_cases a:p=i
 ·subst a;simp[cB,q]at h;exact .inr ⟨Y,q,h.symm⟩
 simp[cB,q,a]at h
end
class RV (ob:Ob):Prop where
 ok:∀(E:Env) (w:World) (i:Nat),E.ν i=qB->ob.ok E w i
 cl:∀(E:Env) (i:Nat) t g,E.ν i=qB->¬ob.kM E i t g
 av:ob.IB=[]
instance{T:TypeId}{sz:Nat}:RV (.row T sz 0 []):=⟨λE w i h=>⟨[],by rw[h];exact World.ownsRow_nil _ _ _ _,an⟩,λE i t g h a=>by
 cases t with
 |none=>have a:blk (E.ν i)=some g:=a;rw[h]at a;cases a
 |some _=>exact a.elim,rfl⟩
instance{T U:TypeId}{sz:Nat}{D:Bool}:RV (.vF T U sz [] [] D):=⟨λE w i h=>⟨⟨[],by rw[h];exact World.ownsRow_nil _ _ _ _,λk b=>(by cases b)⟩,λ_ h=>(by cases h),λk n cs b=>(by simp at b)⟩,λE i t g h a=>by
 cases t with
 |none=>have a:blk (E.ν i)=some g:=a;rw[h]at a;cases a
 |some _=>obtain⟨⟨⟨r,hr⟩,_⟩,_⟩:=a;simp at hr,rfl⟩
section
variable {C:Ctx}{S:AS}
theorem bw.nil{E:Env}{a:Act}{w:World}(h:bw C S E a w){i:Nat}(D:S.o i=none)(hp:C.qZ i=false)(ob:Ob)[o:RV ob]:bw C (AS.ia [(i,ob)] S) (E.rC i qB (λ_=>qB)) a w:=
 h.new D hp qB _ ob (o.ok _ _ _ (Env.lX _ _ _ _).1) (by rw[o.av];intro x b;cases b) (λt g b=>(o.cl _ _ _ _ (Env.lX _ _ _ _).1 b).elim) (λt u g b=>(o.cl _ _ _ _ (Env.lX _ _ _ _).1 b).elim) ⟨rfl,rfl,rfl,Nat.le_refl _,λ_ _=>rfl⟩
theorem gw(s i:Nat)(ob:Ob)[o:RV ob](D:S.t s=.sv (.v qB))(H:S.o i=none:=by exact rfl)(hp:C.qZ i=false:=by exact rfl):jx C S ((AS.ia [(i,ob)] S).set s (.ob i)):=by
 rintro a w ⟨E,h⟩;have b:=h.tm s;rw[D]at b;exact⟨_,(h.nil H hp ob).Ks (x:=.ob i) (by show _=_;rw[(Env.lX _ _ _ _).1];exact b) (mA _ (by simp[cB];rfl))⟩
theorem gx(b c i:Nat)(ob:Ob)[o:RV ob]{T:TypeId}{cs:List AV}(H:S.o b=some (.box T cs))(D:cs[c]? =some (.sv (.v qB)))(I:S.o i=none:=by exact rfl)(hp:C.qZ i=false:=by exact rfl):jx C S (AS.ia [(i,ob),(b,.box T (cs.set c (.ob i)))] S):=by
 rintro a w ⟨E,h⟩;have f:b≠i:=by rintro rfl;rw[H]at I;cases I
 have k:=h.nil I hp ob;have l:(AS.ia [(i,ob)] S).o b=some (.box T cs):=by show(AS.Pf S i ob).o b=_;rw[AS.vG _ _ _ _ f];exact H
 obtain⟨g,vs,q1,q2,q3⟩:=k.ob b _ l;obtain⟨d,vs',q,n,p3⟩:=h.ob b _ H;obtain⟨y,m,d⟩:=p3.get D;have d:y=qB:=d;subst d;have p:(E.rC i qB λ_=>qB).ν b=E.ν b:=(E.vh _ _ f).1;rw[p,q]at q1;cases q1;rw[n]at q2;cases q2;refine⟨_,k.chg l (.box T (cs.set c (.ob i))) ⟨g,vs,by rw[p];exact q,n,?_⟩ (λx d=>?_) (λt g D=>by cases t<;>exact D) (λ_ _ _=>rfl) rfl rfl rfl (Nat.le_refl _)⟩
 ·have:=q3.set (i:=c) (s:=.ob i) (x:=qB) (Env.lX E i qB λ_=>qB).1.symm;rwa[show vs.set c qB=vs from by
   apply List.ext_getElem?;intro j;by_cases e:c=j
   ·subst e;rw[List.getElem?_set_self (List.getElem?_eq_some_iff.1 m).1,m]
   rw[List.getElem?_set_ne e]]at this
 rcases List.mem_or_eq_of_mem_set d with d|rfl
 ·exact k.wf.o b _ l x d
 exact mA _ (by simp[cB];rfl)
variable {U T:TypeId}{n:Nat}{α:Type}{e:α->List SV}{ll:List (List α)}{l l':List α}{f:List (Nat×Nat)}{lk:Bool}{i j k:Nat}
theorem fV(i j k:Nat)(D:S.o i=some (TM U T n e ll f lk))(hl:ll[k]? =some l)(I:k∉f.map (·.1))(H:S.o j=none:=by exact rfl)(hp:C.qZ j=false:=by exact rfl):jx C S (AS.ia [(j,TR T n e l),(i,TM U T n e ll ((k,j)::f) lk)] S):=by
 rintro a w ⟨E,h⟩;have b:i≠j:=by rintro rfl;rw[D]at H;cases H
 obtain⟨v,P,J⟩:=h.ob i _ D;obtain⟨vs,L,M⟩:=J k _ _ (vL hl) I;have F:∀t,(E.rC j (E.rv lk i k) (λ_=>qB)).rv lk i t=E.rv lk i t:=λt=>Env.ae3 _ _ _ b _ _;have z:(E.rC j (E.rv lk i k) (λ_=>qB)).ν i=E.ν i:=(E.vh _ _ b).1;have s:(E.rC j (E.rv lk i k) (λ_=>qB)).ν j=E.rv lk i k:=(Env.lX _ _ _ _).1;have r:∀t g,(TM U T n e ll ((k,j)::f) lk).kM (E.rC j (E.rv lk i k) (λ_=>qB)) i t g->(TM U T n e ll f lk).kM E i t g/\t≠some k:=λt g b=>by
  cases t with
  |none=>exact⟨by have b:blk _=some g:=b;rw[z]at b;exact b,by simp⟩
  |some t=>
   obtain⟨⟨G,B⟩,c⟩:=b;rw[F]at c;simp only[List.map_cons,List.mem_cons,not_or]at B;exact⟨⟨⟨G,B.2⟩,c⟩,λq=>B.1 (by cases q;rfl)⟩
 have c:∀t g,(TR T n e l).kM (E.rC j (E.rv lk i k) (λ_=>qB)) j t g->t=none/\(TM U T n e ll f lk).kM E i (some k) g:=λt g b=>by
  cases t with
  |none=>exact⟨Y,⟨⟨_,vL hl⟩,I⟩,by have b:blk _=some g:=b;rw[s]at b;exact b⟩
  |some t=>exact b.elim
 refine⟨_,h.say _ [i] (E.rC j (E.rv lk i k) (λ_=>qB)) η rfl rfl (λp d=>E.vh _ _ (by rintro rfl;rcases d with q|q;exact q H;rw[hp]at q;cases q)) (λp K _=>if_neg (by rintro rfl;exact K H)) (λp ob d=>?_) (λp ob t Q N u g I O b A=>?_)⟩
 ·rcases N3 d with⟨rfl,rfl⟩|⟨rfl,_,rfl⟩
  ·obtain⟨us,Q,N⟩:=v;refine⟨⟨⟨us,by rw[z];exact Q,λt ht=>by rw[F];exact N t ht⟩,λq d=>?_,λt m cs ht K=>?_⟩,λx v=>?_,λt g b=>⟨p,by simp,_,t,D,(r t g b).1⟩⟩
   ·rw[F];rcases List.mem_cons.1 d with rfl|d
    ·exact s.symm
    rw[P q d];have:q.2≠j:=by
     rintro e;have:=h.wf.o p _ D (.ob q.2) (List.mem_map.2 ⟨q,d,Y⟩) j (by simp[AV.refs,e]);exact this H
    exact((E.vh _ _ this).1).symm
   ·simp only[List.map_cons,List.mem_cons,not_or]at K;obtain⟨z,G,B⟩:=J t m cs ht K.2;exact⟨z,by rw[F];exact G,B⟩
   intro q d;have v:x∈((k,j)::f).map λp=>AV.ob p.2:=v;rw[vb];cases B:cB [(j,TR T n e l),(p,TM U T n e ll ((k,j)::f) lk)] q with
   |some y=>cases y with
    |some y=>simp
    |none=>exact absurd B (Bz _ _)
   |none=>
    rcases List.mem_cons.1 v with rfl|v
    ·have:q=j:=by simpa[AV.refs]using d
     subst this;obtain⟨y,z⟩:=BA (obs:=[(q,TR T n e l),(p,TM U T n e ll ((k,q)::f) lk)]) (i:=q) (ob:=TR T n e l) η;rw[B]at z;cases z
    exact h.wf.o p _ D x v q d
  exact⟨⟨vs,by rw[s];exact L,M⟩,λ_ v=>(by cases v),λt g b=>⟨i,by simp,_,_,D,(c t g b).2⟩⟩
 rcases N3 I with⟨rfl,rfl⟩|⟨rfl,_,rfl⟩<;>rcases N3 O with⟨rfl,rfl⟩|⟨rfl,_,rfl⟩
 ·exact h.inj _ _ t _ _ u g D D (r t g b).1 (r u g A).1
 ·exact absurd (h.inj _ _ t _ _ _ g D D (r t g b).1 (c u g A).2).2 (r t g b).2
 ·exact absurd (h.inj _ _ u _ _ _ g D D (r u g A).1 (c t g b).2).2 (r u g A).2
 exact⟨Y,by rw[(c t g b).1,(c u g A).1]⟩
theorem fW(i j k:Nat)(D:S.o i=some (TM U T n e ll ((k,j)::f) lk))(hj:S.o j=some (TR T n e l'))(hl:Option.isSome ll[k]? =true)(I:k∉f.map (·.1))(H:j∉f.map (·.2):=by simp):jx C S (AS.ia [(j,.dead),(i,TM U T n e (ll.set k l') f lk)] S):=by
 rintro a w ⟨E,h⟩;have s:i≠j:=by rintro rfl;rw[D]at hj;cases hj
 have b:k<ll.length:=by obtain⟨l,hl⟩:=Option.isSome_iff_exists.1 hl;exact(List.getElem?_eq_some_iff.1 hl).1
 obtain⟨⟨us,Q,O⟩,J,M⟩:=h.ob i _ D;obtain⟨vs,K,L⟩:=h.ob j _ hj;have H:E.rv lk i k=E.ν j:=J (k,j) η;have rows:∀(t m:Nat) (cs:List SV),((ll.set k l').map λl=>(l.length,l.flatMap e))[t]? =some (m,cs)->(t=k/\m=l'.length/\cs=l'.flatMap e)\/(t≠k/\(ll.map λl=>(l.length,l.flatMap e))[t]? =some (m,cs)):=λt m cs ht=>by
  by_cases q:t=k
  ·subst q;rw[List.getElem?_map,List.getElem?_set_self b]at ht;simp at ht;exact .inl ⟨Y,ht.1.symm,ht.2.symm⟩
  rw[List.getElem?_map,List.getElem?_set_ne (Ne.symm q),<-List.getElem?_map]at ht;exact .inr ⟨q,ht⟩
 have F:∀t g,(TM U T n e (ll.set k l') f lk).kM E i t g->(t=some k/\(TR T n e l').kM E j none g)\/(TM U T n e ll ((k,j)::f) lk).kM E i t g:=λt g b=>by
  cases t with
  |none=>exact .inr b
  |some t=>
   obtain⟨⟨⟨⟨m,cs⟩,A⟩,r⟩,z⟩:=b;rcases rows t m cs A with⟨rfl,_⟩|⟨q,d⟩
   ·exact .inl ⟨Y,by show blk (E.ν j)=_;rw[<-H];exact z⟩
   exact .inr ⟨⟨⟨_,d⟩,by simp only[List.map_cons,List.mem_cons,not_or];exact⟨q,r⟩⟩,z⟩
 refine⟨E,h.say _ [i,j] E η rfl rfl (λ_ _=>⟨rfl,rfl⟩) (λ_ _ _=>rfl) (λp ob v=>?_) (λp ob t N B u g G P b I=>?_)⟩
 ·rcases N3 v with⟨rfl,rfl⟩|⟨rfl,_,rfl⟩
  ·refine⟨⟨⟨us,by simpa using Q,λt ht=>O t (by simpa using ht)⟩,λq B=>J q (List.mem_cons_of_mem _ B),λt m cs ht N=>?_⟩,λx v=>?_,λt g b=>?_⟩
   ·rcases rows t m cs ht with⟨rfl,rfl,rfl⟩|⟨q,d⟩
    ·exact⟨vs,by rw[H];exact K,L⟩
    exact M t m cs d (by simp only[List.map_cons,List.mem_cons,not_or];exact⟨q,N⟩)
   ·intro q B;have v:x∈f.map λp=>AV.ob p.2:=v;have:=h.wf.o p _ D x (List.mem_cons_of_mem _ v) q B;rw[vb];cases B:cB [(j,Ob.dead),(p,TM U T n e (ll.set k l') f lk)] q with
    |some y=>cases y with
     |some y=>simp
     |none=>exact absurd B (Bz _ _)
    |none=>exact this
   rcases F t g b with⟨_,c⟩|c
   ·exact⟨j,by simp,_,_,hj,c⟩
   exact⟨p,by simp,_,_,D,c⟩
  exact⟨an,λ_ v=>(by cases v),λ_ _ b=>b.elim⟩
 rcases N3 G with⟨rfl,rfl⟩|⟨rfl,_,rfl⟩<;>rcases N3 P with⟨rfl,rfl⟩|⟨rfl,_,rfl⟩
 ·refine⟨Y,?_⟩;rcases F t g b with⟨A,r⟩|r<;>rcases F u g I with⟨z,d⟩|d
  ·rw[A,z]
  ·exact absurd (h.inj _ _ _ _ _ _ g hj D r d).1 (Ne.symm s)
  ·exact absurd (h.inj _ _ _ _ _ _ g hj D d r).1 (Ne.symm s)
  exact(h.inj _ _ _ _ _ _ g D D r d).2
 ·exact I.elim
 ·exact b.elim
 exact b.elim
theorem nr(s:Nat)(I:S.t s=.sub i k)(D:S.o i=some (TM U T n e ll f false))(H:(k,j)∈f):jx C S (S.set s (.ob j)):=by
 rintro a w ⟨E,h⟩;have b:=h.tm s;rw[I]at b;exact⟨E,h.Ks (x:=.ob j) (by have:=(h.ob i _ D).2.1 (k,j) H;exact b.trans this) (λp hp=>h.wf.o i _ D (.ob j) (List.mem_map.2 ⟨(k,j),H,Y⟩) p hp)⟩
theorem D1(s:Nat)(H:S.t s=.ob j)(D:S.o i=some (TM U T n e ll f false))(I:(k,j)∈f):jx C S (S.set s (.sub i k)):=by
 rintro a w ⟨E,h⟩;have b:=h.tm s;rw[H]at b;exact⟨E,h.Ks (x:=.sub i k) (by have:=(h.ob i _ D).2.1 (k,j) I;exact b.trans this.symm) (λp hp=>by
  have:p=i:=by simpa[AV.refs]using hp
  subst this;rw[D];simp)⟩
end
end
section
open Go.RowKit
mutual
def AV.ns(i:Nat):AV->Bool
 |.sv _=>true
 |.ob _=>true
 |.ptr _ _=>true
 |.sl _ _ _=>true
 |.sub j _=>!(Nat.beq j i)
 |.Bp j _ _=>!(Nat.beq j i)
 |.agg l=>nsL i l
 |.lK l=>nsL i l
 |.fn _ b c=>nsL i b&&nsL i c
def nsL(i:Nat):List AV->Bool
 |[]=>true
 |x::l=>x.ns i&&nsL i l
end
section
variable {E E':Env}{i:Nat}(hM:E'.M=E.M)(hν:E'.ν=E.ν)(hρ:∀j,j≠i->E'.ρ j=E.ρ j)
include hM hν hρ
mutual
theorem AV.RW:∀(x:AV) (v:Value),x.ns i=true->x.holds E v->x.holds E' v
 |.sv s,v,_,h=>by simp only[AV.holds]at*;rw[hM];exact h
 |.ob j,v,_,h=>by simp only[AV.holds]at*;rw[hν];exact h
 |.ptr j o,v,_,h=>by simp only[AV.holds]at*;rw[hν];exact h
 |.sl j o l,v,_,h=>by simp only[AV.holds]at*;rw[hν];exact h
 |.sub j k,v,a,h=>by
  simp only[AV.ns,Bool.not_eq_true']at a;simp only[AV.holds]at*;rw[hρ j (by rintro rfl;simp at a)];exact h
 |.Bp j k o,v,a,h=>by
  simp only[AV.ns,Bool.not_eq_true']at a;simp only[AV.holds]at*;rw[hρ j (by rintro rfl;simp at a)];exact h
 |.agg l,_,a,⟨vs,e,h⟩=>⟨vs,e,jc.ns l vs a h⟩
 |.lK l,_,a,⟨vs,e,h⟩=>⟨vs,e,jc.ns l vs a h⟩
 |.fn f b c,_,a,⟨bs,cs,e,h,d⟩=>by
  simp only[AV.ns,Bool.and_eq_true]at a;exact⟨bs,cs,e,jc.ns b bs a.1 h,jc.ns c cs a.2 d⟩
theorem jc.ns:∀(l:List AV) (vs:List Value),nsL i l=true->jc E l vs->jc E' l vs
 |[],[],_,_=>trivial
 |[],_::_,_,h=>h.elim
 |_::_,[],_,h=>h.elim
 |x::l,v::vs,a,h=>by
  simp only[nsL,Bool.and_eq_true]at a;exact⟨AV.RW x v a.1 h.1,jc.ns l vs a.2 h.2⟩
end
end
def Ob.ns(i:Nat):Ob->Bool
 |.box _ cs=>nsL i cs
 |.arr _ cs=>nsL i cs
 |_=>true
def Ob.flip:Ob->Ob
 |.vF T U sz rs f a=>.vF T U sz rs f (!a)
 |x=>x
def BC(i:Nat):List (Nat×Ob)->List (Nat×Ob)
 |[]=>[]
 |(j,x)::l=>(bif Nat.beq j i then(j,x.flip)else(j,x))::BC i l
theorem Wt{i:Nat}:∀{os:List (Nat×Ob)} {j:Nat},ve (BC i os) j=if j=i then(ve os j).map Ob.flip else ve os j
 |[],j=>by simp[BC,ve]
 |(k,x)::os,j=>by
  have a:=@Wt i os j;by_cases h:k=i
  ·subst h;simp only[BC,Nat.beq_refl,cond_true,ve];by_cases q:j=k
   ·subst q;simp
   rw[sX q,cond_false,cond_false,a]
  simp only[BC,sX h,cond_false,ve];by_cases q:j=k
  ·subst q;simp[h]
  rw[sX q,cond_false,cond_false,a]
section
variable {C:Ctx}{S:AS}
theorem Wu(i:Nat){n:Nat}{ts:List (Nat×AV)}{os:List (Nat×Ob)}{g:Nat}{go:Bool}(D:((ts.all λp=>p.2.ns i)&&(os.all λp=>p.2.ns i))=true:=by exact rfl)(hp:C.qZ i=false:=by exact rfl):jx C (AS.bM n ts os g go) (AS.bM n ts (BC i os) g go):=by
 rintro a w ⟨E,h⟩;rw[Bool.and_eq_true,List.all_eq_true,List.all_eq_true]at D;have d:∀j,(AS.bM n ts (BC i os) g go).o j=if j=i then(ve os j).map Ob.flip else ve os j:=λj=>Wt;have c:∀j ob,(AS.bM n ts (BC i os) g go).o j=some ob->∃pJ,ve os j=some pJ/\ob=if j=i then pJ.flip else pJ:=λj ob hj=>by
  rw[d]at hj;by_cases q:j=i
  ·rw[if_pos q]at hj;cases e:ve os j with
   |none=>rw[e]at hj;cases hj
   |some pJ=>rw[e]at hj;cases hj;exact⟨pJ,rfl,by rw[if_pos q]⟩
  rw[if_neg q]at hj;exact⟨ob,hj,by rw[if_neg q]⟩
 have un:∀j,(AS.bM n ts os g go).o j≠none->(AS.bM n ts (BC i os) g go).o j≠none:=λj hj=>by
  rw[d];have hj:ve os j≠none:=hj;by_cases q:j=i
  ·rw[if_pos q];simpa using hj
  rw[if_neg q];exact hj
 cases y:ve os i with
 |none=>
  refine⟨E,?_⟩;have:∀j,(AS.bM n ts (BC i os) g go).o j=(AS.bM n ts os g go).o j:=λj=>by
   rw[d];by_cases q:j=i
   ·subst q;rw[if_pos rfl];show _=ve os j;rw[y];rfl
   rw[if_neg q];rfl
  rw[show AS.bM n ts (BC i os) g go=AS.bM n ts os g go from AS.ext' rfl (λ_=>rfl) this rfl rfl];exact h
 |some oi=>
  let r:Nat->Value:=match oi with|.vF _ _ _ _ _ lk=>E.rv lk i|_=>E.ρ i
  let E':Env:={E with ρ:=λj=>if j=i then r else E.ρ j,κ:=λj=>if j=i then r else E.κ j}
  have hρ:∀j,j≠i->E'.ρ j=E.ρ j:=λj hj=>if_neg hj;have hκ:∀j,j≠i->E'.κ j=E.κ j:=λj hj=>if_neg hj;have rv:∀j lk k,j≠i->E'.rv lk j k=E.rv lk j k:=λj lk k hj=>by simp only[Env.rv,hρ j hj,hκ j hj]
  have IB:∀(j:Nat) (ob:Ob),ve os j=some ob->ob.ns i=true:=λj ob hj=>D.2 _ (kG hj);have key:∀(j:Nat) (ob:Ob),ve os j=some ob->ob.ok E w j->(if j=i then ob.flip else ob).ok E' w j/\∀t g,(if j=i then ob.flip else ob).kM E' j t g->ob.kM E j t g:=λj ob hj v=>by
   have d:=IB j ob hj;cases ob with
   |dead=>by_cases q:j=i<;>simp only[q,if_pos,if_neg,not_false_eq_true]<;>exact⟨an,λ_ _ h=>h.elim⟩
   |box T cs=>
    have e:(if j=i then(Ob.box T cs).flip else .box T cs)=.box T cs:=by by_cases q:j=i<;>simp[q,Ob.flip]
    rw[e];obtain⟨b,vs,q1,q2,q3⟩:=v;exact⟨⟨b,vs,q1,q2,jc.ns (E:=E) (E':=E') (i:=i) rfl rfl hρ cs vs d q3⟩,λt g l=>by cases t<;>exact l⟩
   |row T sz m cs=>
    have e:(if j=i then(Ob.row T sz m cs).flip else .row T sz m cs)=.row T sz m cs:=by by_cases q:j=i<;>simp[q,Ob.flip]
    rw[e];exact⟨v,λt g l=>by cases t<;>exact l⟩
   |arr T cs=>
    have e:(if j=i then(Ob.arr T cs).flip else .arr T cs)=.arr T cs:=by by_cases q:j=i<;>simp[q,Ob.flip]
    rw[e];obtain⟨vs,q1,q2⟩:=v;exact⟨⟨vs,q1,jc.ns (E:=E) (E':=E') (i:=i) rfl rfl hρ cs vs d q2⟩,λt g l=>by cases t<;>exact l⟩
   |vF T U sz rs f lk=>
    have e:∀k,E'.rv (if j=i then !lk else lk) j k=E.rv lk j k:=λk=>by
     by_cases q:j=i
     ·subst q;have:oi=.vF T U sz rs f lk:=by rw[y]at hj;cases hj;rfl
      subst this;rw[if_pos rfl];cases lk<;>simp[E',r,Env.rv]
     rw[if_neg q];exact rv j lk k q
    have d:(if j=i then(Ob.vF T U sz rs f lk).flip else .vF T U sz rs f lk)=.vF T U sz rs f (if j=i then !lk else lk):=by by_cases q:j=i<;>simp[q,Ob.flip]
    rw[d];obtain⟨⟨us,q1,q2⟩,q3,q4⟩:=v;refine⟨⟨⟨us,q1,λk v=>by rw[e];exact q2 k v⟩,λp hp=>by rw[e];exact q3 p hp,λk m cs d y=>?_⟩,λt g l=>?_⟩
    ·obtain⟨vs,z,A⟩:=q4 k m cs d y;exact⟨vs,by rw[e];exact z,A⟩
    cases t with
    |none=>exact l
    |some k=>exact⟨l.1,by have:=l.2;rw[e]at this;exact this⟩
  refine⟨E',{h with wf:=⟨λs j hj=>un j (h.wf.t s j hj),λj ob hj x A k v=>?_⟩,tm:=λs=>?_,ob:=λj ob hj=>?_,mine:=λj ob t g hj l=>?_,inj:=λj ob t j' iU u g hj z l qx=>?_,qZ:=λj hj=>?_}⟩
  ·obtain⟨pJ,d,rfl⟩:=c j ob hj;have e:(if j=i then pJ.flip else pJ).IB=pJ.IB:=by by_cases q:j=i<;>cases pJ<;>simp[q,Ob.flip,Ob.IB]
   rw[e]at A;exact un k (h.wf.o j pJ d x A k v)
  ·refine AV.RW (E:=E) (E':=E') (i:=i) Y Y hρ _ _ ?_ (h.tm s);show(TI ts s).ns i=true;rcases JP (ts:=ts) (s:=s)with e|⟨p,hp,_,e⟩
   ·rw[e];rfl
   rw[e];exact D.1 p hp
  ·obtain⟨pJ,d,rfl⟩:=c j ob hj;exact(key j pJ d (h.ob j pJ d)).1
  ·obtain⟨pJ,d,rfl⟩:=c j ob hj;exact h.mine j pJ t g d ((key j pJ d (h.ob j pJ d)).2 t g l)
  ·obtain⟨pJ,d,rfl⟩:=c j ob hj;obtain⟨v,y,rfl⟩:=c j' iU z;exact h.inj j pJ t j' v u g d y ((key j pJ d (h.ob j pJ d)).2 t g l) ((key j' v y (h.ob j' v y)).2 u g qx)
  have:j≠i:=by rintro rfl;rw[hp]at hj;cases hj
  obtain⟨p1,p2⟩:=h.qZ j hj;exact⟨p1,(hρ j this).trans p2⟩
variable {U T:TypeId}{n:Nat}{α:Type}{e:α->List SV}{ll:List (List α)}{lk:Bool}
theorem ash{β γ:Type}{R:β->γ->Prop}(h:∀x,∃y,R x y):∃f:β->γ,∀x,R x (f x):=⟨λx=>Classical.choose (h x),λx=>Classical.choose_spec (h x)⟩
theorem kx(i:Nat)[H:EL e n](D:S.o i=some (TM U T n e ll [] lk)):jx C S (AS.ia [(i,TR U 1 (eS n e) ll)] S):=by
 rintro a w ⟨E,h⟩;obtain⟨⟨us,u1,u2⟩,_,j⟩:=h.ob i _ D;obtain⟨vs,y⟩:=ash (R:=λk (vs:List Value)=>∀l,ll[k]? =some l->w.ownsRow 0 T n (E.rv lk i k) l.length vs/\SV.jN E.M (l.flatMap e) vs) (λk=>by
  cases d:ll[k]? with
  |none=>exact⟨[],λl hl=>by cases hl⟩
  |some l=>
   obtain⟨vs,q,f⟩:=j k _ _ (vL d) η;exact⟨vs,λl' hl=>by cases hl;exact⟨q,f⟩⟩)
 let j:Nat->Option Nat:=λb=>(List.range ll.length).find? λk=>blk (E.rv lk i k)=some b
 let M':Mem:=λb o=>match j b with|some k=>(vs k)[o]? |none=>E.M b o
 have r:∀b k,j b=some k->k<ll.length/\blk (E.rv lk i k)=some b:=λb k d=>by
  have z:=List.find?_some d;have F:=List.mem_of_find?_eq_some d;exact⟨List.mem_range.1 F,by simpa using z⟩
 have A:∀b k,k<ll.length->blk (E.rv lk i k)=some b->(TM U T n e ll [] lk).kM E i (some k) b:=λb k d x=>⟨⟨⟨_,vL (List.getElem?_eq_getElem d)⟩,by simp⟩,x⟩;have H:∀b k,k<ll.length->blk (E.rv lk i k)=some b->j b=some k:=λb k d x=>by
  cases e:j b with
  |none=>exact absurd x (by have:=List.find?_eq_none.1 e k (List.mem_range.2 d);simpa using this)
  |some s=>
   obtain⟨q,f⟩:=r b s e;have:=(h.inj i _ (some k) i _ (some s) b D D (A b k d x) (A b s q f)).2;cases this;rfl
 have B:E.M.le M':=λb o v e=>by
  show(match j b with|some k=>(vs k)[o]? |none=>E.M b o)=some v;cases s:j b with
  |none=>exact e
  |some k=>
   obtain⟨q,f⟩:=r b k s;rw[(h.mine i _ _ b D (A b k q f)).2.1 o]at e;cases e
 have one:∀k l,ll[k]? =some l->∀v∈vs k,v.oneCell'=true:=λk l hl v G=>CT l _ _ (y k l hl).2 v G;have main:∀b,blk (E.ν i)=some b->j b=none:=λb x=>by
  cases s:j b with
  |none=>rfl
  |some k=>
   obtain⟨q,f⟩:=r b k s;have:=(h.inj i _ (some k) i _ none b D D (A b k q f) x).2;cases this
 have ln:(ll.map λl=>(l.length,l.flatMap e)).length=ll.length:=by simp
 rw[ln]at u1 u2;refine⟨{E with M:=M'},h.trO [(i,TR U 1 (eS n e) ll)] [i] η rfl B (λb o v e=>?_) (λb o v e=>?_) (λ_ _=>⟨rfl,rfl⟩) (λ_ _ _=>rfl) (λ_ _ _=>rfl) rfl rfl rfl (Nat.le_refl _) (λp ob hp=>?_) (λp ob t p' I u g hp L x qx=>?_)⟩
 ·cases s:j b with
  |none=>exact .inl (by have e:(match j b with|some k=>(vs k)[o]? |none=>E.M b o)=some v:=e;rw[s]at e;exact e)
  |some k=>
   obtain⟨q,f⟩:=r b k s;exact .inr (.inr ⟨i,by simp,_,_,D,A b k q f⟩)
 ·have e:(match j b with|some k=>(vs k)[o]? |none=>E.M b o)=some v:=e;cases s:j b with
  |none=>rw[s]at e;exact h.kf b o v e
  |some k=>
   rw[s]at e;obtain⟨q,f⟩:=r b k s;have hl:=List.getElem?_eq_getElem q;obtain⟨w1,w2⟩:=y k _ hl;refine .of ?_ (one k _ hl v (List.mem_of_getElem? e));rcases w1.2 with⟨q,_⟩|⟨g,c,s,q,_,r,_,_,_,I⟩
   ·rw[q]at f;cases f
   rw[q]at f;cases f;have e:(vs k)[o]? =some v:=e;rw[<-I,List.getElem?_take]at e;split at e
   ·simpa[World.cell?,r]using e
   cases e
 ·obtain⟨rfl,rfl⟩:=ZR hp;refine⟨⟨us,u1,?_⟩,λ_ f=>(by cases f),λt b x=>?_⟩
  ·have key:∀(m:Nat) (l2:List (List α)) (f:List Value),f.length=l2.length->(∀k,k<l2.length->f[k]? =some (E.rv lk p (m+k)))->(∀k l,l2[k]? =some l->ll[m+k]? =some l)->SV.jN M' (l2.flatMap (eS n e)) f:=by
    intro m l2
    induction l2 generalizing m with
    |nil=>intro f z _ _;cases f with
     |nil=>trivial
     |cons _ _=>cases z
    |cons l l2 K=>
     intro f z F J;cases f with
     |nil=>cases z
     |cons u f=>
      have A:=F 0 η;have hl:=J 0 l Y;simp only[List.getElem?_cons_zero,Option.some.injEq,Nat.add_zero]at A hl;subst A;refine⟨?_,K (m+1) f (by simpa using z) (λk d=>by have:=F (k+1) (by simpa using d);rw[List.getElem?_cons_succ]at this;rw[this];congr 2;omega) (λk l' d=>by have:=J (k+1) l' (by simpa using d);rw[<-this];congr 1;omega)⟩;obtain⟨w1,w2⟩:=y m l hl;rcases w1.2 with⟨q,r⟩|⟨g,c,s,q,_,r,y,f,_,I⟩
      ·exact .inl ⟨none,q,by rw[List.length_eq_zero_iff.1 r];rfl⟩
      rw[q];have f:maxLen=9223372036854775807:=by decide
      have f:m<ll.length:=(List.getElem?_eq_some_iff.1 hl).1;exact T6 (w2.mono B) (λo v G=>by show(match j g with|some k=>(vs k)[o]? |none=>E.M g o)=some v;rw[H g m f (by rw[q];rfl)];exact G) y ω
   exact key 0 ll us (by simpa using u1.1) (λk d=>by rw[Nat.zero_add];exact u2 k d) (λk l d=>by rw[Nat.zero_add];exact d)
  cases t with
  |some _=>exact x.elim
  |none=>
   have x:blk (E.ν p)=some b:=x;refine⟨.inl ⟨p,by simp,_,none,D,x⟩,λo=>?_⟩;show(match j b with|some k=>(vs k)[o]? |none=>E.M b o)=none;rw[main b x];exact(h.mine p _ none b D x).2.1 o
 obtain⟨rfl,rfl⟩:=ZR hp;obtain⟨rfl,rfl⟩:=ZR L;cases t with
 |some _=>exact x.elim
 |none=>cases u with
  |some _=>exact qx.elim
  |none=>exact⟨Y,Y⟩
end
end
section
open Go.RowKit
section steps
variable {P:Program}{C:Ctx}{ops:Array Oper}{S:AS}{nd:Bool}{K:List Ac->AS->Prop}{rest:List Oper}{acc:List Ac}
variable {gd:Option (Nat×Bool)}{rg:List Nat}{d:Nat}{ty:TypeId}{pos:String}{aft:Array Edge}{x y z:Operand}{T U E0 E1:TypeId}{kk:IntKind}{R:Type}{r:R}
variable {α:Type}{ll:List (List α)}{l:List α}{e:α->List SV}{n by_ i j q:Nat}{zv:Value}{lk:Bool}
theorem ZS{w:World}{T:TypeId}{m:Nat}{v:Value}{us:List Value}(h:w.ownsRow 0 T 1 v m us):us.length=m:=by simpa using h.1
theorem Wv:∀m,(List.replicate m qB.cells.toList).flatten=List.replicate m qB
 |0=>rfl
 |m+1=>by rw[List.replicate_succ,List.flatten_cons,Wv m,List.replicate_succ];rfl
theorem ahL(lk:Bool)[tS:ku P T E0 1][tE:oh P E0 1 by_ qB][tI:ku P E0 E1 n](e:α->List SV){kl kc:IntKind}{c:Int}{f:List (List α)->Option R}(h:Option.bind (uF by_ c ([]:List α)) f=some r)(next:∀l',f l'=some r->Nx P C ops nd K rest acc S (rg++(bD x++bD y)) [d] ⟨some (d,.ob d),[(d,TM E0 E1 n e l' [] lk)]⟩)(hx:S.ev x=.sv (.v (.int kl c)):=by exact rfl)(hy:S.ev y=.sv (.v (.int kc c)):=by exact rfl)(hg:Gd ops S gd rg:=by first|exact .none|exact .some Y Y)(hd:d<S.n:=by exact tl Y)(M5:S.o d=none:=by exact rfl)(hp:C.qZ d=false:=by exact rfl):RunT P C ops nd K (⟨some d,.makeSlice T x y,ty,pos,aft,gd⟩::rest) acc S:=by
 obtain⟨l1,b,h⟩:=bind_some h;obtain⟨j,hroom,i,rfl⟩:=RB b;refine ahx hg _ [d] (.ob d) _ hd ζ (λS' _ ht ho E a w hh=>?_) (next _ h);have b:a.eval x=.int kl c:=(hh.qy hx ht (λ_ h=>List.mem_append_left _ h)).1;have i:a.eval y=.int kc c:=(hh.qy hy ht (λ_ h=>List.mem_append_right _ h)).1;obtain⟨info,hii,hsz,hby,hzz⟩:=oh.info (P:=P) (E:=E0) (n:=1) (by_:=by_) (z:=qB);obtain⟨m,rfl⟩:=Int.eq_ofNat_of_zero_le j;have hb':info.bytes*m<=281474976710656:=by
  rw[hby];have:((by_*m:Nat):Int)<=281474976710656:=by rw[Int.natCast_mul];exact hroom
  omega
 obtain⟨w',q1,q2,q3⟩:=run_make_full (P:=P) w 0 T E0 info qB 1 tS.u hii hzz hsz kl kc m hb' (by unfold maxLen;omega) (Nat.zero_le _);have hr':(execOp a.eval ⟨some d,.makeSlice T x y,ty,pos,aft,gd⟩).run P w=.ok (.value (.slice (some ⟨w.heap.size,0,none⟩) m m)) w':=by
  simp only[execOp,b,i];simp[q1]
 rw[GX _ 1 tE.z ω]at q2;have hmt:(m:Int).toNat=m:=by simp
 have hlen:((List.replicate (m:Int).toNat ([]:List α)).map λl=>(l.length,l.flatMap e)).length=m:=by simp
 have i:=Env.lX E d (.slice (some ⟨w.heap.size,0,none⟩) m m) (λ_=>qB);have b:∀k,(E.rC d (.slice (some ⟨w.heap.size,0,none⟩) m m) (λ_=>qB)).rv lk d k=qB:=λk=>Env.ZF _ _ _ _ _ _;refine⟨_,_,_,hr',hh.new (by rw[ho d η];exact M5) hp _ (λ_=>qB) (TM E0 E1 n e _ [] lk) ⟨⟨_,by rw[hlen,i.1];exact q2,λk hk=>?_⟩,λ_ h=>(by cases h),λk m' cs hk _=>?_⟩ (λ_ hx=>by cases hx) (λt g hc=>?_) (λt u g hc qx=>?_) ⟨q3.os,q3.tape,q3.output,q3.size,λk hk=>q3.block k hk η⟩,i.1.symm,mA _ (by simp[cB];rfl)⟩
 ·rw[hlen]at hk;rw[b];rw[Wv,List.getElem?_replicate,if_pos hk]
 ·rw[List.getElem?_map,List.getElem?_replicate]at hk;split at hk
  ·simp at hk;obtain⟨rfl,rfl⟩:=hk;exact⟨[],by rw[b];exact World.ownsRow_nil _ _ _ _,an⟩
  cases hk
 ·cases t with
  |none=>have hc:blk _=some g:=hc;rw[i.1]at hc;cases hc;exact Nat.le_refl _
  |some k=>have:=hc.2;rw[b]at this;cases this
 cases t with
 |some k=>have:=hc.2;rw[b]at this;cases this
 |none=>cases u with
  |some k=>have:=qx.2;rw[b]at this;cases this
  |none=>rfl
theorem amS[tS:ku P T E0 1][tE:oh P E0 1 by_ zv]{m sz:Nat}{cs:List SV}{t k:Nat}(hy:S.t t=.ob j)(hJ:S.o j=some (.row E1 sz m cs))(next:Nx P C ops nd K rest acc S (rg++[t]) [j,d] ⟨some (d,.ob d),[(d,.arr E0 [.ob j])]⟩)(hz1:(zv.cells.toList.all λv=>v.oneCell')=true:=by exact rfl)(hk:k=0:=by exact rfl)(htn:t<S.n:=by exact tl Y)(hg:Gd ops S gd rg:=by first|exact .none|exact .some Y Y)(hd:d<S.n:=by exact tl Y)(M5:S.o d=none:=by exact rfl)(ZE:C.qZ d=false:=by exact rfl):RunT P C ops nd K (⟨some d,.buildSlice T 1 #[(k,.tmp t)],ty,pos,aft,gd⟩::rest) acc S:=by
 subst hk;refine ahx hg _ [j,d] (.ob d) _ hd ζ (λS' c ht b E a w i=>?_) next
 have e:=(b j η).trans hJ;have l:=(b d η).trans M5;have f:=i.tm t;rw[ht t η,hy]at f;have f:a.tmps.getD t undef=E.ν j:=f;obtain⟨us,b,_⟩:=i.ob j _ e;have c:(E.ν j).oneCell'=true:=by
  rcases b.2 with⟨b,_⟩|⟨_,_,_,b,_⟩<;>rw[b]<;>rfl
 have q:bw C (S'.set t (.sv (.v (E.ν j)))) E a w:=i.Ks (x:=.sv (.v (E.ν j))) f (λ_ h=>by cases h);have o1:One (.v (E.ν j)):=⟨λ_ _ h=>by cases h;exact c⟩;have b:=tE.p;obtain⟨vs,hr,b,_⟩:=vJ (P:=P) (T:=T) (E0:=E0) (n:=1) (by_:=by_) (zv:=zv) (d:=d) (ty:=ty) (pos:=pos) (aft:=aft) (gd:=gd) (S:=S'.set t (.sv (.v (E.ν j)))) (len:=1) (parts:=#[(0,.tmp t)]) (qs:=[(0,[.v (E.ν j)])]) q (.one (AS.oA _ _ _) .nil) (λ_ _=>rfl) rfl rfl rfl ω (List.all_eq_true.1 hz1);have c:vs=[E.ν j]:=by
  cases vs with
  |nil=>exact b.elim
  |cons v vs=>cases vs with
   |nil=>
       have f:v=E.ν j:=b.1;rw[f]
   |cons _ _=>exact b.2.elim
 subst c;have c:j≠d:=by rintro rfl;rw[hJ]at M5;cases M5
 have f:=Env.lX E d (.slice (some ⟨w.heap.size,0,none⟩) 1 1) (λ_=>qB);refine⟨_,_,_,hr,i.new l ZE _ (λ_=>qB) (.arr E0 [.ob j]) ⟨[E.ν j],?_,⟨((E.vh _ _ c).1).symm,an⟩⟩ (λx q=>?_) (λt' g b=>?_) (λt' u g b qx=>?_) ((Below.refl _ _).alloc (Nat.le_refl _) _),f.1.symm,mA _ (by simp[cB];rfl)⟩
 ·rw[f.1];exact World.ownsRow_lit w ⟨[E.ν j]⟩ 1 (Nat.zero_le _) (by unfold maxLen;omega) η
 ·have:x=.ob j:=by simpa[Ob.IB]using q
  subst this;intro p hp;have:p=j:=by simpa[AV.refs]using hp
  subst this;rw[e];simp
 ·cases t' with
  |none=>have b:blk _=some g:=b;rw[f.1]at b;cases b;exact Nat.le_refl _
  |some _=>exact b.elim
 cases t' with
 |some _=>exact b.elim
 |none=>cases u with
  |some _=>exact qx.elim
  |none=>rfl
theorem ZT{i j k m p:Nat}{a b c e ob:Ob}(h:cB [(i,a),(j,b),(k,c),(m,e)] p=some (some ob)):(p=m/\ob=e)\/(ob=a\/ob=b\/ob=c):=by
 by_cases q:p=m
 ·subst q;simp[cB]at h;exact .inl ⟨Y,h.symm⟩
 refine .inr ?_;by_cases d:p=k
 ·subst d;simp[cB,q]at h;exact .inr (.inr h.symm)
 by_cases f:p=j
 ·subst f;simp[cB,q,d]at h;exact .inr (.inl h.symm)
 by_cases g:p=i
 ·subst g;simp[cB,q,d,f]at h;exact .inl h.symm
 simp[cB,q,d,f,g]at h
theorem amZ[tS:ku P T E0 1][tE:oh P E0 1 by_ zv]{f:List (List α)->Option R}(I:S.ev x=.ob i)(hR:S.o i=some (TM E0 E1 n e ll [] lk))(hy:S.ev y=.ob q)(hA:S.o q=some (.arr E0 [.ob j]))(hJ:S.o j=some (TR E1 n e l))(h:Option.bind (uE by_ ll [l]) f=some r)(next:∀l',f l'=some r->Nx P C ops nd K rest acc S (rg++(bD x++bD y)) [i,q,j,d] ⟨some (d,.ob d),[(i,.dead),(q,.dead),(j,.dead),(d,TM E0 E1 n e l' [] lk)]⟩)(D:Gd ops S gd rg:=by first|exact .none|exact .some Y Y)(hd:d<S.n:=by exact tl Y)(H:S.o d=none:=by exact rfl)(hp:C.qZ d=false:=by exact rfl):RunT P C ops nd K (⟨some d,.call ⟨.builtin .append,#[x,y],#[T,T]⟩,ty,pos,aft,gd⟩::rest) acc S:=by
 obtain⟨A,s,h⟩:=bind_some h;obtain⟨r1,r2,rfl⟩:=Fm s;refine ahx D _ [i,q,j,d] (.ob d) _ hd ζ (λS' _ ht B E a w s=>?_) (next _ h);have h1:a.eval x=E.ν i:=(s.qy I ht (λ_ h=>List.mem_append_left _ h)).1;have h2:a.eval y=E.ν q:=(s.qy hy ht (λ_ h=>List.mem_append_right _ h)).1;have A:=(B i η).trans hR;have L:=(B q η).trans hA;have hj:=(B j η).trans hJ;have U:=(B d η).trans H;have B:i≠d:=by rintro rfl;rw[hR]at H;cases H
 have B:q≠d:=by rintro rfl;rw[hA]at H;cases H
 have B:j≠d:=by rintro rfl;rw[hJ]at H;cases H
 have F:i≠j:=by rintro rfl;rw[hR]at hJ;cases hJ
 have B:i≠q:=by rintro rfl;rw[hR]at hA;cases hA
 have ln:∀ll:List (List α),(ll.map λl=>(l.length,l.flatMap e)).length=ll.length:=λ_=>by simp
 obtain⟨⟨us,W,u2⟩,_,u3⟩:=s.ob i _ A;rw[ln]at W u2;obtain⟨vs,J,hvs⟩:=s.ob j _ hj;obtain⟨B,X,G⟩:=s.ob q _ L;have H:B=[E.ν j]:=by
  cases B with
  |nil=>exact G.elim
  |cons v B=>cases B with
   |nil=>
       have O:v=E.ν j:=G.1;rw[O]
   |cons _ _=>exact G.2.elim
 subst H;have N:(E.ν j).oneCell'=true:=by
  rcases J.2 with⟨B,_⟩|⟨_,_,_,B,_⟩<;>rw[B]<;>rfl
 obtain⟨info,L,V,Q,hz⟩:=oh.info (P:=P) (E:=E0) (n:=1) (by_:=by_) (z:=zv);obtain⟨g,c,Z,H⟩:∃g c,E.ν q=.slice (some ⟨g,0,none⟩) 1 c/\w.cell? ⟨g,0,none⟩=some (E.ν j):=by
  rcases X.2 with⟨_,G⟩|⟨g,c,X,B,_,G,e3,_,e4,e5⟩
  ·simp at G
  refine⟨g,c,B,?_⟩;have:X.toList[0]? =some (E.ν j):=by
   have:=congrArg (·[0]?) e5;simpa using this
  simpa[World.cell?,G]using this
 have run:∃G w',(execOp a.eval ⟨some d,.call ⟨.builtin .append,#[x,y],#[T,T]⟩,ty,pos,aft,gd⟩).run P w=.ok (.value G) w'/\w'.ownsRow 0 E0 1 G (ll.length+1) (us++[E.ν j])/\w.grownBy w' (E.ν i).ownBlock/\(G.ownBlock=(E.ν i).ownBlock\/G.ownBlock=some w.heap.size):=by
  obtain⟨G,w',X,q2,q3,_,q4⟩:=run_append_own_at (P:=P) w 0 T ty E0 info zv 1 by_ tS.u L hz V Q tE.z tE.p _ ll.length us W ⟨g,0,none⟩ 1 c [E.ν j] Y (λt u L=>by
   cases t with
   |zero=>simp at L;subst L;rw[mQ];exact H
   |succ t=>simp at L) (by simpa using N) (by unfold maxLen;have:=r2;simp at this;omega) (by simpa using r1) (Nat.zero_le _)
  refine⟨G,w',?_,q2,q3,q4⟩;rw[<-h1,<-Z,<-h2]at X;simp[execOp,resolve,invoke,builtin,X]
 obtain⟨G,w',hr,o1,Q,L⟩:=run
 let E':=E.rC d G (λt=>if t<ll.length then E.rv lk i t else E.ν j)
 have Kt:E'.ν d=G:=(Env.lX _ _ _ _).1;have Ws:∀t,E'.rv lk d t=if t<ll.length then E.rv lk i t else E.ν j:=λt=>Env.ZF _ _ _ _ _ _;have rows:∀(t m:Nat) (cs:List SV),((ll++[l]).map λl=>(l.length,l.flatMap e))[t]? =some (m,cs)->(t<ll.length/\(ll.map λl=>(l.length,l.flatMap e))[t]? =some (m,cs))\/(t=ll.length/\m=l.length/\cs=l.flatMap e):=λt m cs ht=>by
  rw[List.map_append]at ht;by_cases q:t<ll.length
  ·rw[List.getElem?_append_left (by simpa using q)]at ht;exact .inl ⟨q,ht⟩
  rw[List.getElem?_append_right (by simpa using q)]at ht;simp only[List.length_map,List.map_cons,List.map_nil]at ht;have:t-ll.length=0:=by
   cases V:t-ll.length with
   |zero=>rfl
   |succ k=>rw[V]at ht;simp at ht
  rw[this]at ht;simp at ht;exact .inr ⟨by omega,ht.1.symm,ht.2.symm⟩
 have X:∀t g,(t=none/\blk (E.ν i)=some g)\/(∃k m cs,t=some k/\(ll.map λl=>(l.length,l.flatMap e))[k]? =some (m,cs)/\blk (E.rv lk i k)=some g)->(TM E0 E1 n e ll [] lk).kM E i t g:=λt g ht=>by
  rcases ht with⟨rfl,ht⟩|⟨k,m,cs,rfl,O,H⟩
  ·exact ht
  exact⟨⟨⟨_,O⟩,by simp⟩,H⟩
 have H:∀g,(E.ν i).ownBlock=some g->blk (E.ν i)=some g:=λg D=>by
  rcases W.2 with⟨B,_⟩|⟨N,_,_,B,_⟩
  ·rw[B]at D;cases D
  rw[B]at D⊢;exact D
 have cd:∀t g,(TM E0 E1 n e (ll++[l]) [] lk).kM E' d t g->(t=none/\((TM E0 E1 n e ll [] lk).kM E i none g\/w.heap.size<=g))\/(∃k,t=some k/\k<ll.length/\(TM E0 E1 n e ll [] lk).kM E i (some k) g)\/(t=some ll.length/\(TR E1 n e l).kM E j none g):=λt g B=>by
  cases t with
  |none=>
   have B:blk (E'.ν d)=some g:=B;rw[Kt]at B;have O:=(CR o1 B).1;rcases L with q|q
   ·exact .inl ⟨Y,.inl (H g (by rw[<-q];exact O))⟩
   rw[O]at q;cases q;exact .inl ⟨rfl,.inr (Nat.le_refl _)⟩
  |some k=>
   obtain⟨⟨⟨⟨m,cs⟩,O⟩,_⟩,L⟩:=B;rw[Ws]at L;rcases rows k m cs O with⟨q,O⟩|⟨rfl,_⟩
   ·rw[if_pos q]at L;exact .inr (.inl ⟨k,Y,q,X _ _ (.inr ⟨k,m,cs,Y,O,L⟩)⟩)
   rw[if_neg ω]at L;exact .inr (.inr ⟨Y,L⟩)
 have Z:∀b,(E.ν i).ownBlock≠some b->b<w.heap.size->w'.heap[b]? =w.heap[b]? :=λb hb L=>Q.block b L (λq=>hb q.symm);have Ww:∀(t:Nat) (v:Value) (g:Nat),blk v=some g->(∀N,blk (E.ν i)=some N->N≠g)->g<w.heap.size->w'.heap[g]? =w.heap[g]? :=λt v g _ hne L=>Z g (λq=>hne g (H g q) Y) L;refine⟨G,E',w',hr,s.trO _ [i,q,j] (λp hp=>by
  simp only[List.mem_cons,List.not_mem_nil,or_false]at hp;rcases hp with rfl|rfl|rfl<;>exact⟨.dead,by simp⟩) rfl (Mem.le_refl _) (λ_ _ _ e=>.inl e) (iG s.kf λb ⟨o,v,e⟩=>Z b (λq=>by have e:E.M b o=some v:=e;rw[(s.mine i _ none b A (H b q)).2.1 o]at e;cases e) (qw s.kf e)) (λp X5=>E.vh _ _ (by rintro rfl;rcases X5 with q|q;exact q U;rw[hp]at q;cases q)) (λp h0 _=>if_neg (by rintro rfl;exact h0 U)) (λb hb hX=>Z b (λq=>hX i η _ none A (H b q)) hb) Q.os Q.tape Q.output Q.size (λp ob X5=>?_) (λp ob t p' iU u g hp1 T7 B L=>?_),Kt.symm,mA _ (by simp[cB];rfl)⟩
 ·rcases ZT X5 with⟨rfl,rfl⟩|(rfl|rfl|rfl)
  ·refine⟨⟨⟨us++[E.ν j],by rw[Kt,ln,List.length_append];exact o1,λt ht=>?_⟩,λ_ h=>(by cases h),λt m cs ht _=>?_⟩,λ_ I=>(by cases I),λt g B=>?_⟩
   ·rw[ln,List.length_append]at ht;have G:=ZS W;rw[Ws];by_cases q:t<ll.length
    ·rw[if_pos q,List.getElem?_append_left ω];exact u2 t q
    rw[if_neg q,List.getElem?_append_right ω];have:t-us.length=0:=by simp at ht;omega
    rw[this];rfl
   ·rw[Ws];rcases rows t m cs ht with⟨q,O⟩|⟨rfl,rfl,rfl⟩
    ·rw[if_pos q];obtain⟨G,Q,H⟩:=u3 t m cs O η;refine⟨G,jO Q λg D=>?_,H⟩;have B:=X (some t) g (.inr ⟨t,m,cs,Y,O,D⟩);exact Ww t _ g D (λN G V=>by subst V;have:=(s.inj i _ _ i _ none N A A B (X _ _ (.inl ⟨rfl,G⟩))).2;cases this) (s.lt A B)
    rw[if_neg ω];refine⟨vs,jO J λg D=>?_,hvs⟩;exact Ww 0 _ g D (λN G V=>by subst V;exact F (s.inj i _ none j _ none N A hj (X _ _ (.inl ⟨Y,G⟩)) D).1) (s.lt hj (b:=none) D)
   rcases cd t g B with⟨_,c|c⟩|⟨k,_,_,c⟩|⟨_,c⟩
   ·exact⟨.inl ⟨i,by simp,_,_,A,c⟩,(s.mine i _ _ g A c).2.1⟩
   ·exact⟨.inr c,s.hno c⟩
   ·exact⟨.inl ⟨i,by simp,_,_,A,c⟩,(s.mine i _ _ g A c).2.1⟩
   exact⟨.inl ⟨j,by simp,_,_,hj,c⟩,(s.mine j _ _ g hj c).2.1⟩
  ·exact⟨an,λ_ I=>(by cases I),λ_ _ B=>B.elim⟩
  ·exact⟨an,λ_ I=>(by cases I),λ_ _ B=>B.elim⟩
  exact⟨an,λ_ I=>(by cases I),λ_ _ B=>B.elim⟩
 rcases ZT hp1 with⟨rfl,rfl⟩|(rfl|rfl|rfl)
 ·rcases ZT T7 with⟨rfl,rfl⟩|(rfl|rfl|rfl)
  ·refine⟨Y,?_⟩;rcases cd t g B with⟨rfl,c⟩|⟨k,rfl,_,c⟩|⟨rfl,c⟩<;>rcases cd u g L with⟨rfl,D⟩|⟨G,rfl,_,D⟩|⟨rfl,D⟩
   ·rfl
   ·rcases c with c|c
    ·exact(s.inj i _ _ i _ _ g A A c D).2
    have:=s.lt A D;omega
   ·rcases c with c|c
    ·exact absurd (s.inj i _ _ j _ _ g A hj c D).1 F
    have:=s.lt hj D;omega
   ·rcases D with D|D
    ·exact(s.inj i _ _ i _ _ g A A c D).2
    have:=s.lt A c;omega
   ·exact(s.inj i _ _ i _ _ g A A c D).2
   ·exact absurd (s.inj i _ _ j _ _ g A hj c D).1 F
   ·rcases D with D|D
    ·exact absurd (s.inj i _ _ j _ _ g A hj D c).1 F
    have:=s.lt hj c;omega
   ·exact absurd (s.inj i _ _ j _ _ g A hj D c).1 F
   rfl
  ·exact L.elim
  ·exact L.elim
  exact L.elim
 ·exact B.elim
 ·exact B.elim
 exact B.elim
end steps
end
section
open Go.RowKit
def Pure(P:Program)(f:FuncId)(args:List SV)(r:SV):Prop:=
 ∀(M:Mem) (w:World) (vs:List Value),M.kf w->SV.jN M args vs->
  Calls P f ⟨vs⟩ w λe w'=>∃v M',e=.returned v/\M.le M'/\(∀b o x,M' b o=some x->M b o=some x\/w.heap.size<=b)/\M'.kf w'/\r.h M' v/\Below w.heap.size w w'
structure T8 (E:Env) (w:World) (os:List (Nat×Ob)):Prop where
 ob:∀i ob,ve os i=some ob->ob.ok E w i
 no:∀i ob t g,ve os i=some ob->ob.kM E i t g->∀o,E.M g o=none
 inj:∀i ob t j iU u g,ve os i=some ob->ve os j=some iU->ob.kM E i t g->iU.kM E j u g->i=j/\t=u
def bl(E:Env)(os:List (Nat×Ob))(b:Nat):Prop:=∃i ob t,ve os i=some ob/\ob.kM E i t b
def FC(P:Program)(f:FuncId)(args:List AV)(pre:List (Nat×Ob))(res:AV)(post:List (Nat×Ob)):Prop:=
 ∀(E:Env) (w:World) (vs:List Value),E.M.kf w->T8 E w pre->jc E args vs->
  Calls P f ⟨vs⟩ w λe w'=>∃v E',e=.returned v/\E.M.le E'.M/\(∀b o x,E'.M b o=some x->E.M b o=some x\/w.heap.size<=b\/bl E pre b)/\E'.M.kf w'/\(∀i,(ve pre i).isSome=true->E'.ν i=E.ν i/\E'.ρ i=E.ρ i)/\
   res.holds E' v/\T8 E' w' post/\(∀b,bl E' post b->bl E pre b\/w.heap.size<=b)/\w'.os=w.os/\w'.tape=w.tape/\w'.output=w.output/\w.heap.size<=w'.heap.size/\∀k,k<w.heap.size->¬bl E pre k->w'.heap[k]? =w.heap[k]?
inductive ZV (P:Program) (S:AS):ResultVar->AV->Prop
 |t {t:Nat} {x:AV} (h:S.t t=x):ZV P S (.tmp t) x
 |v {t i:Nat} {T U:TypeId} {x:AV} [tV:uG P T] (h:S.t t=.ptr i 0) (hB:S.o i=some (.box U [x])):ZV P S (.cell t T) x
 |a {t i n:Nat} {T U:TypeId} {cs:List AV} {us:List SV} [tA:vI P T n] (h:S.t t=.ptr i 0) (hB:S.o i=some (.box U cs)) (hs:Seg cs 0 us) (hn:us.length=n):ZV P S (.cell t T) (.sv (.agg us))
def T9(P:Program)(S:AS):List ResultVar->List AV->Prop
 |[],[]=>True
 |r::rs,x::xs=>ZV P S r x/\T9 P S rs xs
 |_,_=>False
section
variable {P:Program}{C:Ctx}{S:AS}{E:Env}{a:Act}{w w':World}
theorem ZW(h:bw C S E a w){D:ResultVar}{x:AV}(hr:ZV P S D x):
  ∃v,(match D with|.tmp t=>pure (a.tmps.getD t undef)|.cell b t=>do loadVar t (<-asAddr (a.tmps.getD b undef)):Sem Value).run P w=.ok v w/\x.holds E v:=by
 cases hr with
 |t ht=>have:=h.tm;subst ht;exact⟨_,Y,this _⟩
 | @v t i T U x p ht k=>
  obtain⟨g,vs,f,l,d⟩:=h.ob i _ k;have hp:=h.tm t;rw[ht]at hp;obtain⟨q,c,hp⟩:=hp;rw[f]at c;cases c;cases vs with
  |nil=>exact d.elim
  |cons u us=>cases us with
   |cons _ _=>exact d.2.elim
   |nil=>
    have m:w.cell? ⟨g,0,none⟩=some u:=by simp[World.cell?,l]
    exact⟨u,by simp only[hp];simp[asAddr,loadVar,p.isAgg,m],d.1⟩
 | @a t i n T U cs us m ht k m p=>
  obtain⟨g,vs,f,l,d⟩:=h.ob i _ k;have hp:=h.tm t;rw[ht]at hp;obtain⟨q,c,hp⟩:=hp;rw[f]at c;cases c;obtain⟨f,c,k⟩:=m.vals d;have hl:=c.length;have:=xq (P:=P) (T:=T) (n:=n) (w:=w) (b:=g) (o:=0) (vs:=f) ω (λj v e=>by simp[World.cell?,l];simpa using k j v e);exact⟨.agg ⟨f⟩,by simp only[hp];simp[asAddr,this],f,Y,c⟩
theorem RX(h:bw C S E a w):∀{rs:List ResultVar} {xs:List AV},T9 P S rs xs->
  ∃vs:List Value,(rs.mapM (λ(c:ResultVar)=>(match c with|.tmp t=>pure (a.tmps.getD t undef)|.cell b t=>do loadVar t (<-asAddr (a.tmps.getD b undef)):Sem Value))).run P w=.ok vs w/\jc E xs vs
 |[],[],_=>⟨[],Y,an⟩
 |r::rs,x::xs,hr=>by
  obtain⟨v,f,d⟩:=ZW h hr.1;obtain⟨vs,e,c⟩:=RX h hr.2;refine⟨v::vs,?_,d,c⟩;rw[List.mapM_cons];simp only[Sem.run_bind,f,Result.andThen_ok,e,Sem.run_pure]
 |[],_::_,h=>h.elim
 |_::_,[],h=>h.elim
def afc:List AV->AV
 |[x]=>x
 |xs=>.lK xs
def ajO:List SV->SV
 |[x]=>x
 |xs=>.lK xs
theorem Ua{xs:List SV}{v:Value}(h:(afc (xs.map AV.sv)).holds E v):(ajO xs).h E.M v:=by
 match xs,h with
 |[],⟨vs,e,h⟩=>exact⟨vs,e,h.Bq⟩
 |[x],h=>exact h
 |x::y::l,⟨vs,e,h⟩=>exact⟨vs,e,jc.Bq (l:=x::y::l) h⟩
theorem Wx(h:bw C S E a w){fn:Func}{xs:List AV}(hss:T9 P S fn.results.toList xs):∃v,(results fn a.tmps).run P w=.ok v w/\(afc xs).holds E v:=by
 obtain⟨us,hus,hall⟩:=RX h hss;unfold results;rw[<-Array.toArray_toList (xs:=fn.results),List.mapM_toArray];simp only[Sem.run_bind,Sem.run_map];generalize hm:List.mapM (m:=Sem) (β:=Value) _ fn.results.toList=m;have b:m.run P w=.ok us w:=by rw[<-hm];exact hus
 rw[b];simp only[Result.andThen_ok,Sem.run_pure];refine⟨_,Y,?_⟩;cases us with
 |nil=>cases xs with
  |nil=>exact⟨[],by simp,an⟩
  |cons _ _=>exact hall.elim
 |cons u us=>cases xs with
  |nil=>exact hall.elim
  |cons s ss=>cases us with
   |nil=>cases ss with
    |nil=>exact hall.1
    |cons _ _=>exact hall.2.elim
   |cons u' us=>cases ss with
    |nil=>exact hall.2.elim
    |cons s' ss=>exact⟨u::u'::us,by simp,hall⟩
theorem Fo{fn:Func}{tmps:Array Value}{R:Ending->World->Prop}:∀(a:List Nat) (w:World),a.Nodup->(∀r∈a,w.heap[r]? =some (.deferred (some [])))->
  (∀w':World,w'.os=w.os->w'.tape=w.tape->w'.output=w.output->w'.heap.size=w.heap.size->(∀k,k∉a->w'.heap[k]? =w.heap[k]?)->∃v,(results fn tmps).run P w'=.ok v w'/\R (.returned v) w')->
  LeavesInM (Fr none) 0 P fn tmps R (a.map rI) .returning w
 |[],w,_,_,h=>by
  obtain⟨v,b,f⟩:=h w rfl rfl rfl rfl (λ_ _=>rfl);exact⟨v,b,f⟩
 |r::a,w,e,hr,h=>by
  have c:=hr r η;obtain⟨d,g⟩:=List.nodup_cons.1 e;refine⟨by simp,.inl ⟨r,{w with heap:=w.heap.setIfInBounds r (.deferred none)},Y,?_,?_⟩⟩
  ·simp[Instr.takeDeferred,getObj,setObj,Sem.run,c,bind,Sem.bind,pure]
  refine Fo a _ g (λe a=>?_) (λw' b f g i j=>?_)
  ·have c:r≠e:=by rintro rfl;exact d a
   rw[Array.getElem?_setIfInBounds,if_neg c];exact hr e (List.mem_cons_of_mem _ a)
  refine h w' b f g (by rw[i];simp) (λk a=>?_);rw[List.mem_cons,not_or]at a;rw[j k a.2,Array.getElem?_setIfInBounds,if_neg (Ne.symm a.1)]
theorem bw.ZX(h:bw C S E a w){H:List Nat}(D:∀r∈H,C.w0.heap.size<=r/\¬E.O r/\w.heap[r]? =some (.deferred (some [])))
  (h1:w'.os=w.os) (h2:w'.tape=w.tape) (h3:w'.output=w.output) (h4:w'.heap.size=w.heap.size) (h5:∀k,k∉H->w'.heap[k]? =w.heap[k]?):bw C S E {a with defers:=[]} w':=by
 have f:∀(k:Nat) (vs:Array Value) (T:TypeId),w.heap[k]? =some (Obj.cells vs T (0,0))->w'.heap[k]? =w.heap[k]? :=λk vs T l=>h5 k (λd=>by rw[(D k d).2.2]at l;cases l);have j:E.M.kf w':=iG h.kf λb ⟨o,v,e⟩=>h5 b (λd=>by
  exact(h.kf b o v e).no (by simp[World.cell?,(D b d).2.2]) (λm n q=>by rw[(D b d).2.2]at q;cases q) (λc T q=>by rw[(D b d).2.2]at q;cases q))
 exact{h with
  marks:=⟨[],Y,List.nodup_nil,by simp⟩
  os:=h1.trans h.os
  tape:=h2.trans h.tape
  output:=h3.trans h.output
  grown:=by rw[h4];exact h.grown
  frame:=λk l m=>by rw[h5 k (λd=>by have:=(D k d).1;omega)];exact h.frame k l m
  kf:=j
  ob:=λi ob l=>Ob.rH (h.ob i ob l) (Mem.le_refl _) ⟨rfl,rfl,rfl⟩ (λ_ _ _ _=>⟨rfl,rfl⟩) (λt g m=>by obtain⟨c,T,e⟩:=Ob.cells (h.ob i ob l) m;exact f g c T e)
  GK:=λb f=>by rw[h4];exact h.GK b f
  jj:=C.jf _ _ _ _ _ _ _ h.jj (Mem.le_refl _) j (λ_ _ _ e=>.inl e) (λb f=>h5 b (λd=>by
   rcases f with f|f
   ·have:=(D b d).1;omega
   exact(D b d).2.1 f)) h1 h2 h3 (by rw[h4];exact Nat.le_refl _)}
theorem BD{f:FuncId}{fn:Func}{D:Code}{E0:Env}(H:C.ro=none)(I:P.funcs[f]? =some fn)(K:fn.body=some D){vs:List Value}
  (h0:bw C S E0 {tmps:=⟨vs⟩++Array.replicate (fn.ntmps-(⟨vs⟩:Array Value).size) undef,defers:=[]} w) {Q:AS->Prop} {R:Ending->World->Prop}
  (h:Ok P C D S (λe S'=>(e=.normal\/e=.ret)/\Q S'))
  (hR:∀S' E a w',Q S'->bw C S' E a w'->∃v,(results fn a.tmps).run P w'=.ok v w'/\R (.returned v) w'):Calls P f ⟨vs⟩ w R:=by
 refine(callsIn_wide (n:=0)).1 (callsIn_of_wp_marks (F:=Fence.wide) I K trivial ?_);have c:=h _ w ⟨_,h0⟩;rw[H]at c;refine wpIn_mono c ?_;rintro e d w' ⟨S',⟨k,l⟩,E,i⟩;have b:LeavesInM Fence.wide 0 P fn d.tmps R d.defers .returning w':=by
  obtain⟨j,c,m,g⟩:=i.marks;rw[c];refine Fo j w' m (λr hr=>(g r hr).2.2) (λc j o m q p=>?_);exact hR S' E {d with defers:=[]} c l (i.ZX g j o m q p)
 rcases k with rfl|rfl
 ·exact b
 exact b
end
def ZY:Nat->List AV->List (Nat×AV)
 |_,[]=>[]
 |k,x::l=>(k,x)::ZY (k+1) l
theorem N4{E:Env}:∀{args:List AV} {vs:List Value} (k s:Nat) (a:List Value),jc E args vs->k<=s->(TI (ZY k args) s).holds E ((vs++a)[s-k]?.getD undef)
 |[],[],_,_,_,_,_=>trivial
 |x::args,v::vs,k,s,a,h,b=>by
  by_cases e:s=k
  ·subst e;simp only[ZY,TI,Nat.beq_refl,cond_true,Nat.sub_self];exact h.1
  simp only[ZY,TI,sX e,cond_false];have:=N4 (k+1) s a h.2 ω;rw[show s-k=(s-(k+1))+1 by omega];simpa using this
 |[],_::_,_,_,_,h,_=>h.elim
 |_::_,[],_,_,_,h,_=>h.elim
def X6(E:Env)(w:World)(pre:List (Nat×Ob)):Ctx:={w0:=w,M0:=E.M,own:=bl E pre,MU:=bl E pre,qZ:=λi=>(ve pre i).isSome,ν0:=E.ν,ρ0:=E.ρ,ro:=none,J:=λ_ _ _ _ _=>True,hbo:=λ_ h=>h,jf:=λ_ _ _ _ _ _ _ _ _ _ _ _ _ _ _ _=>trivial}
theorem D2{n:Nat}{args:List AV}{pre:List (Nat×Ob)}{vs:List Value}{w:World}{E:Env}(K:E.M.kf w)(H:T8 E w pre)(D:jc E args vs)(hn:args.length<=n)(I:((args.all (Kj pre))&&(pre.all λp=>p.2.IB.all (Kj pre)))=true):
  bw (X6 E w pre) (AS.bM n (ZY 0 args) pre) {E with O:=λ_=>False} {tmps:=⟨vs⟩++Array.replicate (n-(⟨vs⟩:Array Value).size) undef,defers:=[]} w:=by
 have hl:=D.length;have r:∀(k:Nat) (l:List AV),l.all (Kj pre)=true->((ZY k l).all λp=>Kj pre p.2)=true:=λk l=>by
  induction l generalizing k with
  |nil=>intro _;rfl
  |cons x l a=>intro h;simp only[List.all_cons,Bool.and_eq_true]at h;simp only[ZY,List.all_cons,Bool.and_eq_true];exact⟨h.1,a (k+1) h.2⟩
 have a:=I;rw[Bool.and_eq_true]at a;have m:∀i ob,ve pre i=some ob->ob.ok {E with O:=λ_=>False} w i:=λi ob d=>Ob.rH (H.ob i ob d) (Mem.le_refl _) ⟨rfl,rfl,rfl⟩ (λ_ _ _ _=>⟨rfl,rfl⟩) (λ_ _ _=>rfl);have c:∀i (ob:Ob) t g,ob.kM {E with O:=λ_=>False} i t g↔ob.kM E i t g:=λi ob t g=>Ob.fF ⟨Y,Y,Y⟩;refine⟨Zq (by rw[Bool.and_eq_true];exact⟨r 0 args a.1,a.2⟩),⟨[],Y,List.nodup_nil,by simp⟩,by simp[AS.bM];omega,Y,Y,Y,Nat.le_refl _,λ_ _ _=>Y,Mem.le_refl _,λ_ _ _ e=>.inl e,K,λs=>?_,m,λi ob t g d f=>⟨.inr ⟨i,ob,t,d,(c i ob t g).1 f⟩,H.no i ob t g d ((c i ob t g).1 f),λh=>h⟩,λi ob t j o u g d hj f q=>H.inj i ob t j o u g d hj ((c i ob t g).1 f) ((c j o u g).1 q),λi _=>⟨Y,Y⟩,λb e=>e.elim,an⟩;have:=N4 (E:={E with O:=λ_=>False}) 0 s (List.replicate (n-vs.length) undef) (jc.congr (E:=E) (E':={E with O:=λ_=>False}) (Mem.le_refl _) args (λ_ _=>⟨Y,Y⟩) vs D) (Nat.zero_le _);rw[Array.getD_eq_getD_getElem?];simpa[AS.bM,List.getElem?_toArray,Array.getElem?_append,List.getElem?_append,List.getElem?_replicate,Array.getElem?_replicate]using this
def N5(S:AS):List (Nat×Ob)->Prop
 |[]=>True
 |(i,x)::l=>S.o i=some x/\N5 S l
theorem N5.at{S:AS}:∀{l:List (Nat×Ob)} {i:Nat} {x:Ob},N5 S l->ve l i=some x->S.o i=some x
 |(j,y)::l,i,x,h,e=>by
  by_cases q:i=j
  ·subst q;simp[ve]at e;subst e;exact h.1
  simp only[ve,sX q,cond_false]at e;exact N5.at h.2 e
def Fin(P:Program)(C:Ctx)(rs:List ResultVar)(res:AV)(post:List (Nat×Ob))(e:Exit)(S:AS):Prop:=
 (e=.normal\/e=.ret)/\∃S' xs,jx C S S'/\N5 S' post/\T9 P S' rs xs/\afc xs=res
def ZZ(P:Program)(rs:List ResultVar)(r:SV)(e:Exit)(S:AS):Prop:=
 (e=.normal\/e=.ret)/\∃ss,T9 P S rs (ss.map AV.sv)/\SV.imp (ajO ss) r
theorem Z0{E:Env}{b:Nat}(h:bl E [] b):False:=by obtain⟨i,ob,t,h,_⟩:=h;cases h
theorem cQ{P:Program}{f:FuncId}{fn:Func}{D:Code}{args:List AV}{pre post:List (Nat×Ob)}{res:AV}(H:P.funcs[f]? =some fn)(I:fn.body=some D)
  (h:∀(E:Env) (w:World) (vs:List Value),jc E args vs->T8 E w pre->Ok P (X6 E w pre) D (AS.bM fn.ntmps (ZY 0 args) pre) (Fin P (X6 E w pre) fn.results.toList res post)) (hn:Nat.ble args.length fn.ntmps=true:=by exact rfl) (hwf:((args.all (Kj pre))&&(pre.all λp=>p.2.IB.all (Kj pre)))=true:=by exact rfl):FC P f args pre res post:=by
 intro E w vs k d c;refine BD (C:=X6 E w pre) Y H I (D2 k d c (af hn) hwf) (h E w vs c d) (λS' d a w' c k=>?_);obtain⟨m,xs,l,hp,hr,q⟩:=c;obtain⟨m,c⟩:=l a w' ⟨d,k⟩;obtain⟨v,l,n⟩:=Wx c hr;refine⟨v,l,v,m,Y,c.m0,λb o x e=>c.Be b o x e,c.kf,λi d=>c.qZ i d,by rw[<-q];exact n,⟨λi ob d=>c.ob i ob (hp.at d),λi ob t g d k=>(c.mine i ob t g (hp.at d) k).2.1,λi ob t j r u g d hj=>c.inj i ob t j r u g (hp.at d) (hp.at hj)⟩,λb ⟨i,ob,t,d,k⟩=>?_,c.os,c.tape,c.output,c.grown,c.frame⟩;exact(c.mine i ob t b (hp.at d) k).1.symm
theorem aZ{P:Program}{f:FuncId}{fn:Func}{D:Code}{args:List SV}{r:SV}(H:P.funcs[f]? =some fn)(I:fn.body=some D)
  (h:∀(E:Env) (w:World) (vs:List Value),SV.jN E.M args vs->Ok P (X6 E w []) D (AS.bM fn.ntmps (ZY 0 (args.map AV.sv)) []) (ZZ P fn.results.toList r)) (hn:Nat.ble args.length fn.ntmps=true:=by exact rfl):Pure P f args r:=by
 intro M w vs g c;have d:∀l:List SV,(l.map AV.sv).all (Kj [])=true:=λl=>by
  induction l with
  |nil=>rfl
  |cons x l i=>simp only[List.map_cons,List.all_cons,i,Bool.and_true];rfl
 have i:T8 ⟨λ_=>undef,λ_ _=>undef,λ_ _=>undef,λ_=>False,M⟩ w []:=⟨λ_ _ e=>(by cases e),λ_ _ _ _ e=>(by cases e),λ_ _ _ _ _ _ _ e=>(by cases e)⟩;refine BD (C:=X6 ⟨λ_=>undef,λ_ _=>undef,λ_ _=>undef,λ_=>False,M⟩ w []) Y H I (D2 g i (jc.IA c) (by have:=af hn;simpa using this) (by rw[d];rfl)) (h _ w vs c) (λS' d a w' g c=>?_);obtain⟨ss,hr,j⟩:=g;obtain⟨v,g,m⟩:=Wx c hr;refine⟨v,g,v,d.M,Y,c.m0,λb o x e=>?_,c.kf,j _ _ (Ua m),c.os,c.tape,c.output,c.grown,λk i=>c.frame k i (λe=>Z0 e)⟩;rcases c.Be b o x e with h|h|h
 ·exact .inl h
 ·exact .inr h
 exact(Z0 h).elim
end
end Go.Fw
