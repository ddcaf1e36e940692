/- A part of the proof: the framework, the plain functions, the followed functions, the plain laws. -/
import Derived.Test.YtfoldppidpmchaaGreatPSW1
set_option linter.unusedVariables false
set_option linter.unusedSimpArgs false
set_option linter.unusedSectionVars false
namespace Go.Fw
section
open Go.RowKit
def cj{J R:Type}(k:J->Option R)(f:(J->Option R)->Option R):Option R:=f k
theorem bind_some{α β:Type}{x:Option α}{f:α->Option β}{r:β}(h:Option.bind x f=some r):∃a,x=some a/\f a=some r:=by
 cases x with
 |none=>cases h
 |some a=>exact⟨a,Y,h⟩
theorem sk{b w:Bool}(h:(b==w)=false):b≠w:=by cases b<;>cases w<;>simp_all
def cX{α:Type}(l:List α)(i:Int):Option α:=if 0<=i then l[i.toNat]? else none
def r7{α:Type}(l:List α)(i:Int):Option Nat:=if 0<=i/\i<l.length then some i.toNat else none
def xx{α:Type}(l:List α)(lo hi:Int):Option (List α):=if 0<=lo/\lo<=hi/\hi<=l.length then some (cut l lo.toNat hi.toNat)else none
def sW{α:Type}(by_:Nat)(l k:List α):Option (List α):=if(l.length+k.length)*by_<=140737488355328/\l.length+k.length<=140737488355328 then some (l++k)else none
def C0{α:Type}(by_:Nat)(c:Int)(z:α):Option (List α):=if 0<=c/\by_*c<=281474976710656/\c<=140737488355328 then some (List.replicate c.toNat z)else none
def Mv{α:Type}(by_:Nat)(c:Int):Option (List α):=if 0<=c/\by_*c<=281474976710656/\c<=140737488355328 then some []else none
def stM{α:Type}(l:List α)(n:Nat)(y:α):Option (List α):=if n<l.length then some (l.set n y)else none
def pK(a b:Int):Option Int:=if b=0 then none else some (IntKind.i64.wrap (a.tdiv b))
def Aj(a b:Int):Option Int:=if b=0 then none else some (a.tmod b)
def BF(M a b:Nat):Option Nat:=if b=0 then none else some (a/b%M)
def Ak(a b:Nat):Option Nat:=if b=0 then none else some (a%b)
def mE(M a b:Nat):Nat:=(((a:Int)-b)%M).toNat
theorem vR{α:Type}{l:List α}{i:Int}{a:α}(h:cX l i=some a):0<=i/\l[i.toNat]? =some a:=by
 unfold cX at h;split at h
 ·exact⟨by assumption,h⟩
 cases h
theorem Jn{α:Type}{l:List α}{i:Int}{k:Nat}(h:r7 l i=some k):0<=i/\i<l.length/\i.toNat=k:=by
 unfold r7 at h;split at h
 ·rename_i hh;exact⟨hh.1,hh.2,Option.some.inj h⟩
 cases h
theorem HT{α:Type}{l l':List α}{a b:Int}(h:xx l a b=some l'):0<=a/\a<=b/\b<=l.length/\cut l a.toNat b.toNat=l':=by
 unfold xx at h;split at h
 ·rename_i hh;exact⟨hh.1,hh.2.1,hh.2.2,Option.some.inj h⟩
 cases h
theorem uu{α:Type}{by_:Nat}{l k l':List α}(h:sW by_ l k=some l'):(l.length+k.length)*by_<=140737488355328/\l.length+k.length<=140737488355328/\l++k=l':=by
 unfold sW at h;split at h
 ·rename_i hh;exact⟨hh.1,hh.2,Option.some.inj h⟩
 cases h
theorem Jo{α:Type}{by_:Nat}{c:Int}{z:α}{l':List α}(h:C0 by_ c z=some l'):0<=c/\by_*c<=281474976710656/\c<=140737488355328/\List.replicate c.toNat z=l':=by
 unfold C0 at h;split at h
 ·rename_i hh;exact⟨hh.1,hh.2.1,hh.2.2,Option.some.inj h⟩
 cases h
theorem Jp{α:Type}{by_:Nat}{c:Int}{l':List α}(h:Mv by_ c=some l'):0<=c/\by_*c<=281474976710656/\c<=140737488355328/\[]=l':=by
 unfold Mv at h;split at h
 ·rename_i hh;exact⟨hh.1,hh.2.1,hh.2.2,Option.some.inj h⟩
 cases h
theorem Dk{α:Type}{l l':List α}{n:Nat}{y:α}(h:stM l n y=some l'):n<l.length/\l.set n y=l':=by
 unfold stM at h;split at h
 ·rename_i hh;exact⟨hh,Option.some.inj h⟩
 cases h
def lU{S E:Type}(body:S->Option (S⊕E)):Nat->S->Option E
 |0,_=>none
 |n+1,s=>match body s with
  |some (.inl s')=>lU body n s'
  |some (.inr e)=>some e
  |none=>none
theorem sX{S E:Type}{body:S->Option (S⊕E)}:∀{n m:Nat} {s:S} {e:E},n<=m->lU body n s=some e->lU body m s=some e
 |0,_,_,_,_,h=>by cases h
 |n+1,0,_,_,hm,_=>by omega
 |n+1,m+1,s,e,hm,h=>by
  unfold lU at h⊢;cases hb:body s with
  |none=>rw[hb]at h;cases h
  |some y=>
   rw[hb]at h;cases y with
   |inl s'=>exact sX (by omega) h
   |inr e'=>exact h
open Classical in
noncomputable def cf{S E:Type}(body:S->Option (S⊕E))(s:S):Option E:=if h:∃n e,lU body n s=some e then some (Classical.choose (Classical.choose_spec h))else none
theorem sY{S E:Type}{body:S->Option (S⊕E)}{s:S}{e:E}(h:cf body s=some e):∃n,lU body n s=some e:=by
 unfold cf at h;split at h
 ·rename_i hh;exact⟨_,by rw[<-Option.some.inj h];exact Classical.choose_spec (Classical.choose_spec hh)⟩
 cases h
theorem yD{S E:Type}{body:S->Option (S⊕E)}{s:S}{e:E}{n:Nat}(h:lU body n s=some e):cf body s=some e:=by
 have hh:∃n e,lU body n s=some e:=⟨n,e,h⟩;unfold cf;rw[dif_pos hh];have h2:=Classical.choose_spec (Classical.choose_spec hh);have h3:=sX (Nat.le_max_left n (Classical.choose hh)) h;have h4:=sX (Nat.le_max_right n (Classical.choose hh)) h2;rw[h3]at h4;exact h4.symm
theorem sZ{S E:Type}{body:S->Option (S⊕E)}{s:S}{e:E}(h:body s=some (.inr e)):cf body s=some e:=yD (n:=1) (by simp[lU,h])
theorem yE{S E:Type}{body:S->Option (S⊕E)}{s s':S}(h:body s=some (.inl s')):cf body s=cf body s':=by
 cases hl:cf body s' with
 |some e=>obtain⟨n,hn⟩:=sY hl;exact yD (n:=n+1) (by simp[lU,h,hn])
 |none=>
  cases hl2:cf body s with
  |none=>rfl
  |some e=>
   obtain⟨n,hn⟩:=sY hl2;cases n with
   |zero=>cases hn
   |succ n=>simp only[lU,h]at hn;rw[yD hn]at hl;cases hl
theorem vS{S E:Type}{body:S->Option (S⊕E)}(I:S->Prop)(Post:E->Prop)(μ:S->Nat)
  (step:∀s,I s->(∃s',body s=some (.inl s')/\I s'/\μ s'<μ s)\/(∃e,body s=some (.inr e)/\Post e)) {s:S} (h:I s):∃e,cf body s=some e/\Post e:=by
 have key:∀(n:Nat) (s:S),μ s<=n->I s->∃e,cf body s=some e/\Post e:=by
  intro n
  induction n with
  |zero=>
   intro s hn hs;rcases step s hs with⟨s',_,_,h3⟩|⟨e,h1,h2⟩
   ·omega
   exact⟨e,sZ h1,h2⟩
  |succ n ih=>
   intro s hn hs;rcases step s hs with⟨s',h1,h2,h3⟩|⟨e,h1,h2⟩
   ·obtain⟨e,q1,q2⟩:=ih s' (by omega) h2;exact⟨e,by rw[yE h1];exact q1,q2⟩
   exact⟨e,sZ h1,h2⟩
 exact key _ s (Nat.le_refl _) h
theorem Jq{S E:Type}{body:S->Option (S⊕E)}(st:Nat->S)(n:Nat){e:E}(hs:∀k,k<n->body (st k)=some (.inl (st (k+1))))(he:body (st n)=some (.inr e)):cf body (st 0)=some e:=by
 have key:∀k,k<=n->cf body (st (n-k))=some e:=by
  intro k
  induction k with
  |zero=>intro _;exact sZ he
  |succ k ih=>
   intro hk;rw[yE (hs (n-(k+1)) (by omega)),show n-(k+1)+1=n-k by omega];exact ih (by omega)
 have:=key n (Nat.le_refl _);rwa[Nat.sub_self]at this
theorem xy{p q:Int}{c:Bool}(h:decide (p=q)=c):(p==q)=c:=by rw[<-h];exact Bool.beq_eq_decide_eq p q
theorem HU{p q:Int}{c:Bool}(h:decide (p≠q)=c):(p != q)=c:=by rw[<-h,bne,Bool.beq_eq_decide_eq p q];simp
theorem Xk{p q:Nat}{c:Bool}(h:decide (p=q)=c):((p:Int)==(q:Int))=c:=xy (by rw[<-h];simp[Int.natCast_inj])
theorem VY{p q:Nat}{c:Bool}(h:decide (p≠q)=c):((p:Int) != (q:Int))=c:=HU (by rw[<-h];simp[Int.natCast_inj])
theorem VZ{p q:Nat}{c:Bool}(h:decide (p<q)=c):decide ((p:Int)<(q:Int))=c:=by rw[<-h];simp
theorem Xl{p q:Nat}{c:Bool}(h:decide (p<=q)=c):decide ((p:Int)<=(q:Int))=c:=by rw[<-h];simp
theorem Mw{p q c:Int}(h:max p q=c):(if q>p then q else p)=c:=by rw[<-h];split<;>omega
theorem Mx{p q c:Int}(h:min p q=c):(if q<p then q else p)=c:=by rw[<-h];split<;>omega
class UK (k:IntKind) (b:outParam Nat) (M:outParam Nat):Prop where
 w:∀x:Int,k.wrap x=x%M
 hb:k.bits=b
 hm:2^b=M
instance:UK .u8 8 256:=⟨λx=>by simp[IntKind.wrap,IntKind.signed,IntKind.bits],rfl,by decide⟩
instance:UK .u32 32 4294967296:=⟨λx=>by simp[IntKind.wrap,IntKind.signed,IntKind.bits],rfl,by decide⟩
instance:UK .u64 64 18446744073709551616:=⟨λx=>by simp[IntKind.wrap,IntKind.signed,IntKind.bits],rfl,by decide⟩
section uk
variable {k:IntKind}{bi M a b c:Nat}[u:UK k bi M]
include u
theorem UK.pos:0<M:=by rw[<-u.hm];exact Nat.two_pow_pos _
theorem UK.nat(h:a%M=c):k.wrap (a:Int)=(c:Int):=by rw[u.w,<-h,Int.natCast_emod]
theorem UK.add(h:(a+b)%M=c):k.wrap ((a:Int)+(b:Int))=(c:Int):=by rw[<-Int.natCast_add];exact UK.nat h
theorem UK.mul(h:(a*b)%M=c):k.wrap ((a:Int)*(b:Int))=(c:Int):=by rw[<-Int.natCast_mul];exact UK.nat h
theorem UK.sub(h:mE M a b=c):k.wrap ((a:Int)-(b:Int))=(c:Int):=by
 rw[u.w,<-h,mE,Int.toNat_of_nonneg];exact Int.emod_nonneg _ (by have:=UK.pos (k:=k) (bi:=bi) (M:=M);omega)
theorem UK.neg(h:mE M 0 a=c):k.wrap (0-(a:Int))=(c:Int):=UK.sub h
theorem UK.conv{p:Int}(h:(p%M).toNat=c):k.wrap p=(c:Int):=by
 rw[u.w,<-h,Int.toNat_of_nonneg];exact Int.emod_nonneg _ (by have:=UK.pos (k:=k) (bi:=bi) (M:=M);omega)
theorem UK.quo(h:BF M a b=some c):k.wrap ((a:Int).tdiv (b:Int))=(c:Int):=by
 unfold BF at h;split at h
 ·cases h
 rw[Int.tdiv_eq_ediv_of_nonneg (by omega),<-Int.natCast_ediv];exact UK.nat (Option.some.inj h)
theorem UK.TJ(h:a/b%M=c):k.wrap ((a:Int).tdiv (b:Int))=(c:Int):=by
 rw[Int.tdiv_eq_ediv_of_nonneg (by omega),<-Int.natCast_ediv];exact UK.nat h
theorem UK.shl{q:Int}{s:Nat}(hs:min q.toNat k.bits=s)(h:a*2^s%M=c):k.wrap ((a:Int)*2^(min q.toNat k.bits))=(c:Int):=by
 rw[hs,show(a:Int)*2^s=((a*2^s:Nat):Int) by rw[Int.natCast_mul,Int.natCast_pow];rfl];exact UK.nat h
theorem UK.ofInt(a:Nat):(BitVec.ofInt k.bits (a:Int)).toNat=a%M:=by
 rw[BitVec.ofInt_natCast,BitVec.toNat_ofNat,u.hb,u.hm]
theorem UK.or(h:(a ||| b)%M=c):k.wrap ((BitVec.ofInt k.bits (a:Int) ||| BitVec.ofInt k.bits (b:Int)).toNat)=(c:Int):=by
 rw[BitVec.toNat_or,UK.ofInt,UK.ofInt,<-u.hm,<-Nat.or_mod_two_pow,u.hm,h,UK.nat (a:=c) (c:=c)];rw[<-h,Nat.mod_mod]
end uk
theorem BG{k:IntKind}{a c s:Nat}{q:Int}(hs:min q.toNat k.bits=s)(h:a/2^s=c):(a:Int).fdiv (2^(min q.toNat k.bits))=(c:Int):=by
 rw[hs,Int.fdiv_eq_ediv_of_nonneg _ (Int.le_of_lt (Int.pow_pos (by decide))),<-h,Int.natCast_ediv,Int.natCast_pow];rfl
theorem My{a b c:Nat}(h:Ak a b=some c):(a:Int).tmod (b:Int)=(c:Int):=by
 unfold Ak at h;split at h
 ·cases h
 rw[Int.tmod_eq_emod_of_nonneg (by omega),<-Option.some.inj h];rfl
theorem Ol{a b c:Nat}(h:a%b=c):(a:Int).tmod (b:Int)=(c:Int):=by
 rw[Int.tmod_eq_emod_of_nonneg (by omega),<-h];rfl
theorem Xm{M a b c:Nat}(h:BF M a b=some c):(b:Int)≠0:=by
 unfold BF at h;split at h
 ·cases h
 omega
theorem V0{a b c:Nat}(h:Ak a b=some c):(b:Int)≠0:=by
 unfold Ak at h;split at h
 ·cases h
 omega
theorem TK{a b c:Int}(h:pK a b=some c):b≠0:=by unfold pK at h;split at h<;>simp_all
theorem QE{a b c:Int}(h:Aj a b=some c):b≠0:=by unfold Aj at h;split at h<;>simp_all
theorem Jr{a b c:Int}(h:pK a b=some c):IntKind.i64.wrap (a.tdiv b)=c:=by
 unfold pK at h;split at h
 ·cases h
 exact Option.some.inj h
theorem QF{a b c:Int}(h:Aj a b=some c):a.tmod b=c:=by
 unfold Aj at h;split at h
 ·cases h
 exact Option.some.inj h
abbrev aY(x:Nat):List SV:=[.v (.int .u32 (x:Nat))]
abbrev Xn(x:Int):List SV:=[.v (.int .i16 x)]
abbrev bG(x:Int):List SV:=[.v (.int .i64 x)]
abbrev eB(x:Bool):List SV:=[.v (.bool x)]
abbrev eS{α:Type}(n:Nat)(e:α->List SV)(l:List α):List SV:=[slc n (l.map e)]
structure Zr where
 neg:Bool
 w:List Nat
structure Qr where
 num:Zr
 den:Zr
abbrev eZ(z:Zr):List SV:=[.v (.bool z.neg),slc 1 (z.w.map aY)]
abbrev eQ(q:Qr):List SV:=[.v (.bool q.num.neg),slc 1 (q.num.w.map aY),.v (.bool q.den.neg),slc 1 (q.den.w.map aY)]
class EL {α:Type} (e:α->List SV) (n:outParam Nat):Prop where
 len:∀x,(e x).length=n
 one:∀x,sL (e x)
instance:EL aY 1:=⟨λ_=>rfl,λ_=>inferInstance⟩
instance:EL bG 1:=⟨λ_=>rfl,λ_=>inferInstance⟩
instance{α:Type}{n:Nat}{e:α->List SV}:EL (eS n e) 1:=⟨λ_=>rfl,λ_=>inferInstance⟩
instance:EL eQ 4:=⟨λ_=>rfl,λ_=>inferInstance⟩
structure Lr where
 vars:Int
 uw:List (List Qr)
 rows:List (List Qr)
 bounds:List Qr
abbrev Dl(x:Lr):List SV:=[.v (.int .i64 x.vars),slc 1 (x.uw.map (eS 4 eQ)),slc 1 (x.rows.map (eS 4 eQ)),slc 4 (x.bounds.map eQ)]
structure Sz where
 vars:Int
 uw:Int
 rows:Int
 bounds:Int
abbrev eSz(x:Sz):List SV:=[.v (.int .i64 x.vars),.v (.int .i64 x.uw),.v (.int .i64 x.rows),.v (.int .i64 x.bounds)]
abbrev TR(E:TypeId)(sz:Nat){α:Type}(e:α->List SV)(l:List α):Row:=⟨E,sz,l.length,l.flatMap e⟩
theorem aB{α:Type}{n:Nat}{e:α->List SV}:SV.imp (.v (.slice none 0 0)) (slc n (([]:List α).map e)):=λ_ _ h=>.inl ⟨none,h,Y⟩
theorem ux{α:Type}(e:α->List SV)(l:List α):(l.map e).flatten=l.flatMap e:=by rw[List.flatMap_def]
theorem Dm{α:Type}{e:α->List SV}{n:Nat}[h:EL e n](l:List α):Rows n (l.map e) (l.flatMap e):=⟨ux e l,λr hr=>by obtain⟨x,_,rfl⟩:=List.mem_map.1 hr;exact h.len x⟩
theorem AW{M:Mem}:∀{l k:List SV} {vs:List Value},SV.ew M (l++k) vs->∃us ws,vs=us++ws/\SV.ew M l us/\SV.ew M k ws
 |[],_,vs,h=>⟨[],vs,Y,aq,h⟩
 |_::_,_,[],h=>h.elim
 |_::l,_,v::vs,h=>by
  obtain⟨us,ws,rfl,h1,h2⟩:=AW (l:=l) h.2;exact⟨v::us,ws,Y,⟨h.1,h1⟩,h2⟩
theorem AX{α:Type}{e:α->List SV}{n:Nat}[h:EL e n](l:List α):∀M vs,SV.ew M (l.flatMap e) vs->∀v∈vs,v.oneCell'=true:=by
 intro M
 induction l with
 |nil=>intro vs hv;cases vs with|nil=>simp|cons _ _=>exact hv.elim
 |cons x l ih=>
  intro vs hv;rw[List.flatMap_cons]at hv;obtain⟨us,ws,rfl,h1,h2⟩:=AW hv;intro v hv;rcases List.mem_append.1 hv with hv|hv
  ·exact(h.one x).h M us h1 v hv
  exact ih ws h2 v hv
theorem yF{α:Type}{e:α->List SV}{n:Nat}[h:EL e n]:∀{l:List α} {k:Nat} {a:α},l[k]? =some a->((l.flatMap e).drop (k*n)).take n=e a
 |[],_,_,hh=>by simp at hh
 |x::l,0,a,hh=>by
  simp only[List.getElem?_cons_zero,Option.some.injEq]at hh;subst hh;rw[List.flatMap_cons,Nat.zero_mul,List.drop_zero,<-h.len x,List.take_left'];rfl
 |x::l,k+1,a,hh=>by
  rw[List.getElem?_cons_succ]at hh;rw[List.flatMap_cons,show(k+1)*n=(e x).length+k*n by rw[h.len,Nat.add_mul];omega,<-List.drop_drop,List.drop_left']
  ·exact yF hh
  rfl
theorem Dn{α:Type}{e:α->List SV}{n:Nat}[h:EL e n]{y:α}:∀{l:List α} {k:Nat},k<l.length->jZ (l.flatMap e) (k*n) (e y)=(l.set k y).flatMap e:=by
 have Xo:∀(u:List SV) (a b:List SV) (j:Nat),j+u.length<=a.length->jZ (a++b) j u=jZ a j u++b:=by
  intro u
  induction u with
  |nil=>intro a b j _;rfl
  |cons s u ih=>
   intro a b j hj;simp only[List.length_cons]at hj;simp only[jZ];rw[List.set_append_left _ _ (by omega),ih _ _ _ (by rw[List.length_set];omega)]
 have Xp:∀(u:List SV) (a b:List SV) (j:Nat),jZ (a++b) (a.length+j) u=a++jZ b j u:=by
  intro u
  induction u with
  |nil=>intro a b j;rfl
  |cons s u ih=>
   intro a b j;simp only[jZ];rw[List.set_append_right _ _ (by omega),show a.length+j-a.length=j by omega,show a.length+j+1=a.length+(j+1) by omega,ih]
 have Xq:∀(u a:List SV),u.length=a.length->jZ a 0 u=u:=by
  have gen:∀(u a p:List SV),u.length=a.length->jZ (p++a) p.length u=p++u:=by
   intro u
   induction u with
   |nil=>intro a p ha;have:a=[]:=List.eq_nil_of_length_eq_zero ha.symm;subst this;rfl
   |cons s u ih=>
    intro a p ha;cases a with
    |nil=>cases ha
    |cons t a=>
     simp only[jZ];rw[List.set_append_right _ _ (Nat.le_refl _),Nat.sub_self,List.set_cons_zero,show p++s::a=(p++[s])++a by simp,show p.length+1=(p++[s]).length by simp,ih a _ (by simpa using ha)];simp
  intro u a ha;exact gen u a [] ha
 intro l
 induction l with
 |nil=>intro k hk;simp at hk
 |cons x l ih=>
  intro k hk;cases k with
  |zero=>
   rw[List.set_cons_zero,List.flatMap_cons,List.flatMap_cons,Nat.zero_mul,Xo _ _ _ _ (by rw[h.len,h.len];omega),Xq _ _ (by rw[h.len,h.len])]
  |succ k=>
   simp only[List.length_cons]at hk;rw[List.set_cons_succ,List.flatMap_cons,List.flatMap_cons,show(k+1)*n=(e x).length+k*n by rw[h.len,Nat.add_mul];omega,Xp,ih (by omega)]
end
section
open Go.RowKit
section steps
variable {P:Program}{C:Ctx}{ops:Array Oper}{S:AS}{nd:Bool}{K:List Ac->AS->Prop}{rest:List Oper}{acc:List Ac}
variable {gd:Option (Nat×Bool)}{rg:List Nat}{d:Nat}{ty:TypeId}{pos:String}{aft:Array Edge}{x y z:Operand}{T U E0:TypeId}
variable {α:Type}{l l' k:List α}{e:α->List SV}{n by_:Nat}{zv:Value}
theorem RT.Xr(hg:Gd ops S gd rg){s X:SV}(hx:S.ev x=.sv s)(hi:SV.imp s X)(hd:d<S.n)
  (next:RunT P C ops nd K rest (⟨rg++bg x,[],[],⟨some (d,.sv X),[],[]⟩⟩::acc) (S.set d (.sv X))):RunT P C ops nd K (⟨some d,.assign x,ty,pos,aft,gd⟩::rest) acc S:=
 RT.value hg (bg x) [] [] (.sv X) hd (by intro c h;cases h) (λS' ht _ _ E a w h=>by
  have hx':S'.ev x=.sv s:=by rw[bA (λ_ h=>h) ht,hx]
  exact⟨a.eval x,Y,by have:=h.ev x;rw[hx']at this;exact hi _ _ this,fT⟩) next
theorem HV{E:Env}:∀{l l':List SV} {vs:List Value},eW l l'->SV.ew E.M l vs->dx E (l'.map AV.sv) vs:=λhi h=>dx.wK (hi.holds h)
theorem BH(M:Mem):∀l:List Value,SV.ew M (l.map SV.v) l
 |[]=>trivial
 |_::l=>⟨Y,BH M l⟩
theorem RT.oN(hg:Gd ops S gd rg)[tz:hG P T zv]{cs:List SV}(hi:eW (zv.cells.toList.map SV.v) cs){av:List AV}(Xs:cs.map AV.sv=av)(hd:d<S.n)(hb:S.b d=none)(hp:C.iS d=none)
  (next:RunT P C ops nd K rest (⟨rg++[],[d],[],⟨some (d,.ptr d 0),[(d,⟨T,av⟩)],[]⟩⟩::acc) ((S.ku d ⟨T,av⟩).set d (.ptr d 0))):RunT P C ops nd K (⟨some d,.alloc T,ty,pos,aft,gd⟩::rest) acc S:=by
 subst Xs;exact RT.Gz hg (by intro c h;cases h) [] hd hb hp (λS' _ E a w h=>⟨zv.cells.toList,by simp[execOp,Instr.alloc,newVar,newRow,tz.run],HV hi (BH _ _),λy hy=>by
  obtain⟨s,_,rfl⟩:=List.mem_map.1 hy;exact fT⟩) next
theorem RT.QG(hg:Gd ops S gd rg){pl:List (Nat×Nat)}{zc:List Value}[tP:iU P T pl zc]{parts:Array (Nat×Operand)}{qs:List (Nat×List SV)}(hp:mD S parts.toList qs){cs cs':List SV}(hf:rZ (λi=>pl[i]?) (zc.map SV.v) qs=some cs)(hi:eW cs cs')(hd:d<S.n)
  (next:RunT P C ops nd K rest (⟨rg++kp parts.toList,[],[],⟨some (d,.sv (.agg cs')),[],[]⟩⟩::acc) (S.set d (.sv (.agg cs')))):RunT P C ops nd K (⟨some d,.build T parts,ty,pos,aft,gd⟩::rest) acc S:=by
 refine RT.value hg (kp parts.toList) [] [] (.sv (.agg cs')) hd (by intro c h;cases h) (λS' ht _ _ E a w h=>?_) next
 have hu:=tP.h;cases hT:P.underlying T with
 |none=>rw[hT]at hu;cases hu
 |some u=>
  rw[hT]at hu;cases u with
  |struct fs=>
   simp only at hu;have hz:(zeroValue T).run P w=.ok (.agg ⟨zc⟩) w:=hG.run (t:=⟨tP.hz⟩) w;obtain⟨us,h1,h2,_⟩:=yp h (λi=>pl[i]?) hp ht (cells:=zc.map SV.v) (vs:=zc) (BH _ zc) (List.all_eq_true.1 tP.o) hf;refine⟨.agg ⟨us⟩,?_,⟨us,Y,hi.holds h2⟩,fT⟩;have hm:(fs.mapM (λf=>do pure (f.offset,<-sizeOf f.type):Field->Sem (Nat×Nat))).run P w=.ok pl.toArray w:=by
    have:=pU (P:=P) (w:=w) hu;rw[<-Array.toArray_toList (xs:=fs),List.mapM_toArray];rw[Sem.run_map,this];rfl
   have h1':Instr.fill (λi=>pl.toArray[i]?) ⟨zc⟩ (parts.toList.map λp=>(p.1,a.eval p.2))=some ⟨us⟩:=by simpa using h1
   simp only[execOp,Instr.build,underlying];simp only[Sem.run_bind,hz,Result.andThen_ok,run_program,hT,Sem.run_pure,Value.cells];have hm':(Array.mapM (λf=>do
     let __do_lift<-sizeOf f.type
     pure (f.offset,__do_lift)) fs:Sem _).run P w=.ok pl.toArray w:=hm
   simp only[hm',Result.andThen_ok];have e4:(Array.map (λx=>match x with|(i,x)=>(i,a.eval x)) parts).toList=parts.toList.map λp=>(p.1,a.eval p.2):=by simp
   simp only[e4,h1',Sem.run_pure,Result.andThen_ok]
  |_=>cases hu
theorem RT.TL(hg:Gd ops S gd rg){m:Nat}[tS:eI P T E0 m]{c:Int}(hx:S.ev x=.sv (slc n (l.map e)))(hd:d<S.n)(hc:(l.length:Int)=c)
  (next:RunT P C ops nd K rest (⟨rg++bg x,[],[],⟨some (d,.sv (.v (.int .i64 c))),[],[]⟩⟩::acc) (S.set d (.sv (.v (.int .i64 c))))):RunT P C ops nd K (⟨some d,.call ⟨.builtin .len,#[x],#[T]⟩,ty,pos,aft,gd⟩::rest) acc S:=
 RT.len hg hx hd (by rw[List.length_map,hc];exact next)
theorem RT.TM(hg:Gd ops S gd rg){m:Nat}[tS:eI P T E0 m]{i:Nat}{E1:TypeId}{c:Int}(hx:S.ev x=.row i)(hR:S.r i=.live (TR E1 n e l))(hd:d<S.n)(hc:(l.length:Int)=c)
  (next:RunT P C ops nd K rest (⟨rg++bg x,[],[i],⟨some (d,.sv (.v (.int .i64 c))),[],[]⟩⟩::acc) (S.set d (.sv (.v (.int .i64 c))))):RunT P C ops nd K (⟨some d,.call ⟨.builtin .len,#[x],#[T]⟩,ty,pos,aft,gd⟩::rest) acc S:=
 RT.WQ hg hx hR hd (by show RunT _ _ _ _ _ _ (⟨_,_,_,⟨some (d,.sv (.v (.int .i64 (l.length:Int)))),_,_⟩⟩::_) (S.set d (.sv (.v (.int .i64 (l.length:Int)))));rw[hc];exact next)
theorem RT.Om(hg:Gd ops S gd rg)[tS:eI P T E0 n]{kk:IntKind}{i:Int}{a:α}(hx:S.ev x=.sv (slc n (l.map e)))(hy:S.ev y=.sv (.v (.int kk i)))(hd:d<S.n)(ha:cX l i=some a)
  (next:RunT P C ops nd K rest (⟨rg++(bg x++bg y),[],[],⟨some (d,.sv (ref (e a))),[],[]⟩⟩::acc) (S.set d (.sv (ref (e a))))):RunT P C ops nd K (⟨some d,.indexAddr T x y,ty,pos,aft,gd⟩::rest) acc S:=
 RT.indexAddr hg (e a) hx hy hd (vR ha).1 (by rw[List.getElem?_map,(vR ha).2];rfl) next
theorem RT.vT(hg:Gd ops S gd rg)[tS:eI P T E0 n]{lo hi:Option Operand}(a b:Int)(hx:S.ev x=.sv (slc n (l.map e)))(hlo:By S 0 lo a)(hhi:By S l.length hi b)(hd:d<S.n)(h:xx l a b=some l')
  (next:RunT P C ops nd K rest (⟨rg++(bg x++(nw lo++nw hi)),[],[],⟨some (d,.sv (slc n (l'.map e))),[],[]⟩⟩::acc) (S.set d (.sv (slc n (l'.map e))))):RunT P C ops nd K (⟨some d,.slice T x lo hi none,ty,pos,aft,gd⟩::rest) acc S:=by
 obtain⟨h0,h1,h2,h3⟩:=HT h;exact RT.slice hg hx a b hlo (by rw[List.length_map];exact hhi) hd h0 h1 (by rw[List.length_map];exact h2) _ (by rw[Mk,h3]) next
theorem RT.gE(hg:Gd ops S gd rg)[tS:eI P T E0 n][tE:jg P E0 n by_ zv]{len:Nat}{parts:Array (Nat×Operand)}{qs:List (Nat×List SV)}(hp:mD S parts.toList qs)(hd:d<S.n)
  (hc:oL 0 qs=true) (hl:qs.length=len) (hsz:(qs.all λq=>Nat.beq q.2.length n)=true) (hlen:Nat.ble (len*n) 16777216=true) (Ja:(zv.cells.toList.all λv=>v.oneCell')=true) (nZ:qs.map (·.2)=l.map e)
  (next:RunT P C ops nd K rest (⟨rg++kp parts.toList,[],[],⟨some (d,.sv (slc n (l.map e))),[],[]⟩⟩::acc) (S.set d (.sv (slc n (l.map e))))):RunT P C ops nd K (⟨some d,.buildSlice T len parts,ty,pos,aft,gd⟩::rest) acc S:=
 RT.buildSlice hg hp hd hc hl hsz (af hlen) (List.all_eq_true.1 Ja) nZ next
theorem RT.BI(hg:Gd ops S gd rg)[tS:eI P T E0 n][tE:jg P E0 n by_ zv]{len:Nat}{parts:Array (Nat×Operand)}{qs:List (Nat×List SV)}(hp:mD S parts.toList qs)(hd:d<S.n)(xu:S.r d=.un)(vF:d<1000)
  (hc:oL 0 qs=true) (hl:qs.length=len) (hsz:(qs.all λq=>Nat.beq q.2.length n)=true) (hlen:Nat.ble (len*n) 16777216=true) (Ja:(zv.cells.toList.all λv=>v.oneCell')=true) (nZ:qs.map (·.2)=l.map e)
  (next:RunT P C ops nd K rest (⟨rg++kp parts.toList,[],[d],⟨some (d,.row d),[],[(d,.live (TR E0 n e l))]⟩⟩::acc) ((AS.cq [(d,.live (TR E0 n e l))] S).set d (.row d))):RunT P C ops nd K (⟨some d,.buildSlice T len parts,ty,pos,aft,gd⟩::rest) acc S:=by
 refine RT.Dh hg hp hd xu vF hc hl hsz (af hlen) (List.all_eq_true.1 Ja) (cells:=l.flatMap e) (by rw[nZ,ux]) ?_;have:len=l.length:=by have h0:=congrArg List.length nZ;simpa[hl]using h0
 rw[this];exact next
theorem RT.apR(hg:Gd ops S gd rg)[tS:eI P T E0 n][tE:jg P E0 n by_ zv]{i:Nat}(hx:S.ev x=.row i)(hR:S.r i=.live (TR E0 n e l))(hy:S.ev y=.sv (slc n (k.map e)))(hd:d<S.n)(xu:S.r d=.un)(vF:d<1000)(h:sW by_ l k=some l')
  (next:RunT P C ops nd K rest (⟨rg++(bg x++bg y),[],[i,d],⟨some (d,.row d),[],[(i,.dead),(d,.live (TR E0 n e l'))]⟩⟩::acc) ((AS.cq [(i,.dead),(d,.live (TR E0 n e l'))] S).set d (.row d))):RunT P C ops nd K (⟨some d,.call ⟨.builtin .append,#[x,y],#[T,T]⟩,ty,pos,aft,gd⟩::rest) acc S:=by
 obtain⟨h1,h2,rfl⟩:=uu h;exact RT.Mg hg hx hR hy hd xu vF (by simpa using h1) (by simpa using h2) _ (by simp[ux]) next
theorem RT.Mz(hg:Gd ops S gd rg)[tS:eI P T E0 n][tE:jg P E0 n by_ zv][el:EL e n]{i:Nat}(hx:S.ev x=.row i)(hR:S.r i=.live (TR E0 n e l))(hy:S.ev y=.sv (slc n (k.map e)))(hd:d<S.n)(xu:S.r d=.un)(vF:d<1000)(h:sW by_ l k=some l')
  (next:RunT P C ops nd K rest (⟨rg++(bg x++bg y),[],[d,i],⟨some (d,.sv (slc n (l'.map e))),[],[(i,.dead),(d,.dead)]⟩⟩::acc) ((AS.cq [(i,.dead),(d,.dead)] S).set d (.sv (slc n (l'.map e))))):RunT P C ops nd K (⟨some d,.call ⟨.builtin .append,#[x,y],#[T,T]⟩,ty,pos,aft,gd⟩::rest) acc S:=by
 obtain⟨h1,h2,rfl⟩:=uu h;have hf:l.flatMap e++(k.map e).flatten=(l++k).flatMap e:=by simp[ux]
 exact RT.Mu hg (.row hx hR) hy hd xu vF (by simpa using h1) (by simpa using h2) _ (rows':=(l++k).map e) (λ_ _ h _=>h) (by rw[hf];exact Dm _) (by simp) (by rw[hf];exact AX _) next
theorem AY(zc:Array Value)(n:Nat)(hz:zc.size=n)(hn:0<n):∀m:Nat,(madeCells zc (m*n)).toList=(List.replicate m zc.toList).flatten
 |0=>by simp[madeCells]
 |m+1=>by
  have ih:=AY zc n hz hn m;rw[List.replicate_succ',List.flatten_append,<-ih];simp only[madeCells,Array.toList_map,Array.toList_range,List.flatten_cons,List.flatten_nil,List.append_nil];rw[show(m+1)*n=m*n+n by rw[Nat.add_mul];omega,List.range_add,List.map_append,List.map_map];congr 1;apply List.ext_getElem?;intro i;rw[List.getElem?_map];rcases Nat.lt_or_ge i n with hi|hi
  ·rw[List.getElem?_range hi];simp only[Option.map_some,Function.comp];rw[hz,Nat.mul_comm m n,Nat.mul_add_mod,Nat.mod_eq_of_lt hi];rw[getElem!_pos zc i (by omega),Array.getElem?_toList,Array.getElem?_eq_getElem (by omega)]
  rw[List.getElem?_eq_none (by simpa using hi),List.getElem?_eq_none (by simp;omega)];rfl
theorem Dp:∀{a b c d:List SV},eW a c->eW b d->eW (a++b) (c++d)
 |[],_,[],_,_,h=>h
 |_::_,_,_::_,_,h,h'=>⟨h.1,Dp h.2 h'⟩
 |[],_,_::_,_,h,_=>h.elim
 |_::_,_,[],_,h,_=>h.elim
theorem Dq{zl:List Value}{zz:α}(hi:eW (zl.map SV.v) (e zz)):∀m:Nat,eW ((List.replicate m zl).flatten.map SV.v) ((List.replicate m zz).flatMap e)
 |0=>trivial
 |m+1=>by
  rw[List.replicate_succ,List.replicate_succ,List.flatten_cons,List.map_append,List.flatMap_cons];exact Dp hi (Dq hi m)
theorem RT.r8(hg:Gd ops S gd rg)[tS:eI P T E0 n][tE:jg P E0 n by_ zv]{kl kc:IntKind}{c:Int}{zz:α}(hx:S.ev x=.sv (.v (.int kl c)))(hy:S.ev y=.sv (.v (.int kc c)))(hd:d<S.n)(xu:S.r d=.un)(vF:d<1000)(hz:zv.cells.size=n)(hn:0<n)(hi:eW (zv.cells.toList.map SV.v) (e zz))(hm:C0 by_ c zz=some l')
  (next:RunT P C ops nd K rest (⟨rg++(bg x++bg y),[],[d],⟨some (d,.row d),[],[(d,.live (TR E0 n e l'))]⟩⟩::acc) ((AS.cq [(d,.live (TR E0 n e l'))] S).set d (.row d))):RunT P C ops nd K (⟨some d,.makeSlice T x y,ty,pos,aft,gd⟩::rest) acc S:=by
 obtain⟨h0,hroom,pS,rfl⟩:=Jo hm;refine .inl ⟨_,[],[d],_,?_,next⟩;rintro S' hn' ht _ hr i a w L Q ho ⟨E,h⟩ hL;refine cO (C:=C) ho (hg.wanted h (λs hs=>ht s (List.mem_append_left _ hs)) Y) ?_;have h1:a.eval x=.int kl c:=by have h1:=h.ev x;rw[bA (λ_ h=>List.mem_append_right _ (List.mem_append_left _ h)) ht,hx]at h1;exact h1
 have h2:a.eval y=.int kc c:=by have h2:=h.ev y;rw[bA (λ_ h=>List.mem_append_right _ (List.mem_append_right _ h)) ht,hy]at h2;exact h2
 obtain⟨info,hii,hsz,hby,WV⟩:=jg.info (P:=P) (E:=E0) (n:=n) (by_:=by_) (z:=zv);obtain⟨m,rfl⟩:=Int.eq_ofNat_of_zero_le h0;have hb':info.bytes*m<=281474976710656:=by
  rw[hby];have:((by_*m:Nat):Int)<=281474976710656:=by rw[Int.natCast_mul];exact hroom
  omega
 obtain⟨w',q1,q2,q3⟩:=run_make_full (P:=P) w 0 T E0 info zv n tS.u hii WV hsz kl kc m hb' (by unfold maxLen;omega) (Nat.zero_le _);have hr':(execOp a.eval ⟨some d,.makeSlice T x y,ty,pos,aft,gd⟩).run P w=.ok (.value (.slice (some ⟨w.heap.size,0,none⟩) m m)) w':=by
  simp only[execOp,h1,h2];simp[q1]
 have HN:S'.r d=.un:=by rw[hr d (by simp)];exact xu
 have e0:(m:Int).toNat=m:=by simp
 have hall:SV.ew E.M ((List.replicate m zz).flatMap e) (madeCells zv.cells (m*n)).toList:=by
  rw[AY zv.cells n hz hn];exact eW.holds (l:=((List.replicate m zv.cells.toList).flatten.map SV.v)) (Dq hi m) (BH _ _)
 have hlen:(List.replicate (m:Int).toNat zz).length=m:=by simp
 refine cP (C:=C) (by intro c h;cases h) hr' (hL _ _ ⟨_,(h.newRow HN vF [] none (.inl ⟨rfl,rfl⟩) (R':=TR E0 n e (List.replicate (m:Int).toNat zz)) (by show w'.ownsRow 0 E0 n _ (List.replicate (m:Int).toNat zz).length _;rw[hlen];exact q2) (by rw[e0];exact hall) (.inr (.inl rfl)) q3).put (d:=d) (x:=.row d) (v:=.slice (some ⟨w.heap.size,0,none⟩) m m) (by simp[AV.holds]) (by show d<S'.n;omega) ⟨λ_ e=>e.elim,λj e=>?_⟩⟩);cases e;show(AS.pO S' d _).r d≠_;rw[AS.gi];simp
theorem RT.GL(hg:Gd ops S gd rg)[tS:eI P T E0 n][tE:jg P E0 n by_ zv]{kl kc:IntKind}{c:Int}(hx:S.ev x=.sv (.v (.int kl 0)))(hy:S.ev y=.sv (.v (.int kc c)))(hd:d<S.n)(xu:S.r d=.un)(vF:d<1000)(h:Mv (α:=α) by_ c=some l')
  (next:RunT P C ops nd K rest (⟨rg++(bg x++bg y),[],[d],⟨some (d,.row d),[],[(d,.live (TR E0 n e l'))]⟩⟩::acc) ((AS.cq [(d,.live (TR E0 n e l'))] S).set d (.row d))):RunT P C ops nd K (⟨some d,.makeSlice T x y,ty,pos,aft,gd⟩::rest) acc S:=by
 obtain⟨h0,h1,h2,rfl⟩:=Jp h;exact RT.Tm hg hx hy hd xu vF h0 h1 h2 next
theorem RT.Xt(hg:Gd ops S gd rg)[tS:eI P T E0 n]{i j:Nat}{E1:TypeId}{kk:IntKind}{v:Int}(hx:S.ev x=.row i)(hR:S.r i=.live (TR E1 n e l))(hy:S.ev y=.sv (.v (.int kk v)))(hd:d<S.n)(h:r7 l v=some j)
  (next:RunT P C ops nd K rest (⟨rg++(bg x++bg y),[],[i],⟨some (d,.gx i (j*n)),[],[]⟩⟩::acc) (S.set d (.gx i (j*n)))):RunT P C ops nd K (⟨some d,.indexAddr T x y,ty,pos,aft,gd⟩::rest) acc S:=by
 obtain⟨h0,h1,h2⟩:=Jn h;exact RT.ixR hg (.row hx hR) hy hd h0 h1 (j*n) (by rw[h2];omega) next
theorem RT.TN(hg:Gd ops S gd rg)[tV:oF P T][el:EL e 1]{i j:Nat}{E1:TypeId}{a:α}{s:SV}(hx:S.ev x=.gx i (j*1))(hR:S.r i=.live (TR E1 1 e l))(ha:l[j]? =some a)(hs:e a=[s])(hd:d<S.n)
  (next:RunT P C ops nd K rest (⟨rg++bg x,[],[i],⟨some (d,.sv s),[],[]⟩⟩::acc) (S.set d (.sv s))):RunT P C ops nd K (⟨some d,.load T x,ty,pos,aft,gd⟩::rest) acc S:=by
 refine RT.ldR hg hx hR (s:=s) ?_ hd next
 have:=yF (e:=e) ha;rw[hs]at this;have h2:=congrArg (·[0]?) this;simpa[List.getElem?_take]using h2
theorem RT.TO(hg:Gd ops S gd rg)[tA:wL P T n][el:EL e n]{i j:Nat}{E1:TypeId}{a:α}(hx:S.ev x=.gx i (j*n))(hR:S.r i=.live (TR E1 n e l))(ha:l[j]? =some a)(hd:d<S.n)
  (next:RunT P C ops nd K rest (⟨rg++bg x,[],[i],⟨some (d,.sv (.agg (e a))),[],[]⟩⟩::acc) (S.set d (.sv (.agg (e a))))):RunT P C ops nd K (⟨some d,.load T x,ty,pos,aft,gd⟩::rest) acc S:=
 RT.WY hg hx hR (yF ha) (el.len a) hd next
theorem MA(a:List SV)(k:Nat)(s:SV):a.set k s=jZ a k [s]:=rfl
theorem RT.Xu(hg:Gd ops S gd rg)[tV:oF P T][el:EL e 1]{i j:Nat}{E1:TypeId}{s:SV}[o1:One s](a:α)(hs:e a=[s])(hx:S.ev x=.gx i (j*1))(hR:S.r i=.live (TR E1 1 e l))(hy:S.ev y=.sv s)(h:stM l j a=some l')
  (next:RunT P C ops nd K rest (⟨rg++(bg x++bg y),[],[i],⟨none,[],[(i,.live (TR E1 1 e l'))]⟩⟩::acc) (AS.cq [(i,.live (TR E1 1 e l'))] S)):RunT P C ops nd K (⟨none,.store T x y,ty,pos,aft,gd⟩::rest) acc S:=by
 obtain⟨h1,rfl⟩:=Dk h;refine RT.stR hg hx hR hy (by show j*1+1<=l.length*1;omega) ((l.set j a).flatMap e) (by rw[MA,<-hs];exact Dn h1) ?_;have:(TR E1 1 e (l.set j a))=⟨E1,1,l.length,(l.set j a).flatMap e⟩:=by show Row.mk _ _ _ _=_;rw[List.length_set]
 rw[<-this];exact next
theorem RT.TP(hg:Gd ops S gd rg)[tA:wL P T n][el:EL e n]{i j:Nat}{E1:TypeId}(a:α)(hx:S.ev x=.gx i (j*n))(hR:S.r i=.live (TR E1 n e l))(hy:S.ev y=.sv (.agg (e a)))(h:stM l j a=some l')
  (next:RunT P C ops nd K rest (⟨rg++(bg x++bg y),[],[i],⟨none,[],[(i,.live (TR E1 n e l'))]⟩⟩::acc) (AS.cq [(i,.live (TR E1 n e l'))] S)):RunT P C ops nd K (⟨none,.store T x y,ty,pos,aft,gd⟩::rest) acc S:=by
 obtain⟨h1,rfl⟩:=Dk h;have o1:=el.one a;refine RT.WZ hg hx hR hy (el.len a) (by show j*n+n<=l.length*n;have:=Nat.mul_le_mul_right n h1;rw[Nat.succ_mul]at this;exact this) ((l.set j a).flatMap e) (Dn h1) ?_;have:(TR E1 n e (l.set j a))=⟨E1,n,l.length,(l.set j a).flatMap e⟩:=by show Row.mk _ _ _ _=_;rw[List.length_set]
 rw[<-this];exact next
end steps
theorem cC{S:AS}{i n:Nat}{E1:TypeId}{α:Type}{e:α->List SV}{l:List α}[el:EL e n](hR:S.r i=.live (TR E1 n e l)):pP S (S.mm i (slc n (l.map e))):=by
 rintro C a w ⟨E,h⟩;have hlen:l.length<=9223372036854775807:=by
  obtain⟨⟨vs,ho,hv⟩,_⟩:=h.rx i _ hR;rcases ho.2 with⟨_,q2⟩|⟨g',cap,cur,q1,_,q2,q3,q4,q5,q6⟩
  ·have q2:l.length=0:=q2;omega
  have q3:l.length<=cap:=q3;have:maxLen=9223372036854775807:=by decide
  omega
 exact h.mm hR (Dm l) (by rw[List.length_map]) hlen (AX l) (λ_ _ h _=>h)
section control
variable {P:Program}{C:Ctx}{S:AS}{Q:Exit->AS->Prop}
theorem bB{A:Code}{J R:Type}{kB:J->Option R}{fA:(J->Option R)->Option R}{r:R}(h:cj kB fA=some r)(I:J->AS)
  (hA:fA kB=some r->Ok P C A S (aV (λS'=>∃j,kB j=some r/\pP S' (I j)) Q)) (hQ:∀j,kB j=some r->Q .normal (I j)):Ok P C A S Q:=λa w hs=>by
 refine wpIn_mono (hA h a w hs) ?_;rintro e a' w' ⟨S',q,hh⟩;cases e with
 |normal=>obtain⟨j,h1,h2⟩:=q;exact⟨_,hQ j h1,h2 C a' w' hh⟩
 |_=>exact⟨S',q,hh⟩
theorem bJ{A:Code}{X:Type}(I:X->AS)(p:X->Prop)(hA:Ok P C A S (aV (λS'=>∃j,p j/\pP S' (I j)) Q))(hQ:∀j,p j->Q .normal (I j)):Ok P C A S Q:=λa w hs=>by
 refine wpIn_mono (hA a w hs) ?_;rintro e a' w' ⟨S',q,hh⟩;cases e with
 |normal=>obtain⟨j,h1,h2⟩:=q;exact⟨_,hQ j h1,h2 C a' w' hh⟩
 |_=>exact⟨S',q,hh⟩
theorem bK{c:Code}{T E:Type}{body:T->Option (T⊕E)}{s0:T}{e:E}(h:cf body s0=some e)(I:T->AS)(h0:pP S (I s0))
  (round:∀(s:T) (y:T⊕E) (G:T->Prop),body s=some y->(∀s',y=.inl s'->G s')->(∀e',y=.inr e'->e'=e)->Ok P C c (I s) (aV (λS'=>∃s',G s'/\pP S' (I s')) Q)):Ok P C (.loop c) S Q:=by
 obtain⟨n,hn⟩:=sY h;refine uf (ι:={x:T×Nat//lU body x.2 x.1=some e}) (λx=>I x.1.1) (λx=>x.1.2) ⟨(s0,n),hn⟩ h0 ?_;rintro⟨⟨s,m⟩,hm⟩;cases m with
 |zero=>cases hm
 |succ m=>
  cases hb:body s with
  |none=>simp only[lU,hb]at hm;cases hm
  |some y=>
   refine Bt (round s y (λs'=>lU body m s'=some e) hb ?_ ?_) ?_
   ·rintro s' rfl;simpa only[lU,hb]using hm
   ·rintro e' rfl;simp only[lU,hb]at hm;exact Option.some.inj hm
   intro ex S' q;cases ex with
   |normal=>obtain⟨s',h1,h2⟩:=q;exact⟨⟨(s',m),h1⟩,Nat.lt_succ_self m,h2⟩
   |_=>exact q
end control
end
section
open Go.RowKit
abbrev QH:=List UInt8
def bs(l:QH):ByteArray:=⟨⟨l⟩⟩
def r9(l:QH)(i:Int):Option Nat:=(cX l i).map UInt8.toNat
theorem MB(l:QH):(bs l).size=l.length:=rfl
theorem QI(l:QH)(i:Nat):(bs l)[i]? =l[i]? :=by
 rcases Nat.lt_or_ge i l.length with h|h
 ·rw[getElem?_pos (bs l) i h,List.getElem?_eq_getElem h];rfl
 rw[getElem?_neg (bs l) i (by rw[MB];omega),List.getElem?_eq_none h]
section steps
variable {P:Program}{C:Ctx}{ops:Array Oper}{S:AS}{nd:Bool}{K:List Ac->AS->Prop}{rest:List Oper}{acc:List Ac}
variable {gd:Option (Nat×Bool)}{rg:List Nat}{d:Nat}{ty:TypeId}{pos:String}{aft:Array Edge}{x y z:Operand}{T U E0:TypeId}
variable {l l' k:QH}
theorem RT.skV{op:Op}{j g:Nat}{b want:Bool}(h1:(ops[j]?).bind (·.dst)=some g)(h2:S.t g=.sv (.v (.bool b)))(hb:b≠want)(hd:d<S.n)
  (next:RunT P C ops nd K rest (⟨[g],[],[],⟨some (d,.sv (.v undef)),[],[]⟩⟩::acc) (S.set d (.sv (.v undef)))):RunT P C ops nd K (⟨some d,op,ty,pos,aft,some (j,want)⟩::rest) acc S:=by
 refine .inl ⟨[g],[],[],⟨some (d,.sv (.v undef)),[],[]⟩,?_,next⟩;rintro S' hn ht _ _ i a w L Q ho ⟨E,h⟩ hL;have hv:=h.tm g;rw[ht g (by simp),h2]at hv;have hv:a.tmps.getD g undef=.bool b:=hv;have HI:a.tmps[g]? =some (.bool b):=by
  rw[Array.getD_eq_getD_getElem?]at hv;cases e:a.tmps[g]? with
  |none=>rw[e]at hv;simp[undef]at hv
  |some x=>rw[e]at hv;simp at hv;rw[hv]
 have hw:Region.wanted ⟨some d,op,ty,pos,aft,some (j,want)⟩ (yielded ops a.tmps)=false:=by
  simp[Region.wanted,yielded,h1,HI,hb]
 simp only[wpOpIn,ho,hw];exact⟨λ_ _=>trivial,hL _ _ ⟨E,h.put (x:=.sv (.v undef)) (v:=undef) Y (by omega) ⟨λ_ h=>h.elim,λ_ h=>h.elim⟩⟩⟩
theorem RT.TQ{op:Op}{j g:Nat}{want:Bool}(h1:(ops[j]?).bind (·.dst)=some g)(h2:S.t g=.sv (.v undef))(hd:d<S.n)
  (next:RunT P C ops nd K rest (⟨[g],[],[],⟨some (d,.sv (.v undef)),[],[]⟩⟩::acc) (S.set d (.sv (.v undef)))):RunT P C ops nd K (⟨some d,op,ty,pos,aft,some (j,want)⟩::rest) acc S:=by
 refine .inl ⟨[g],[],[],⟨some (d,.sv (.v undef)),[],[]⟩,?_,next⟩;rintro S' hn ht _ _ i a w L Q ho ⟨E,h⟩ hL;have hv:=h.tm g;rw[ht g (by simp),h2]at hv;have hv:a.tmps.getD g undef=undef:=hv;rw[Array.getD_eq_getD_getElem?]at hv;have hw:Region.wanted ⟨some d,op,ty,pos,aft,some (j,want)⟩ (yielded ops a.tmps)=false:=by
  cases e:a.tmps[g]? with
  |none=>simp[Region.wanted,yielded,h1,e]
  |some x=>
   rw[e]at hv;simp only[Option.getD_some]at hv;subst hv;simp[Region.wanted,yielded,h1,e,undef]
 simp only[wpOpIn,ho,hw];exact⟨λ_ _=>trivial,hL _ _ ⟨E,h.put (x:=.sv (.v undef)) (v:=undef) Y (by omega) ⟨λ_ h=>h.elim,λ_ h=>h.elim⟩⟩⟩
theorem RT.six(hg:Gd ops S gd rg)[tS:N8 P T]{kk:IntKind}{i:Int}{c:Nat}(hx:S.ev x=.sv (.v (.string (bs l))))(hy:S.ev y=.sv (.v (.int kk i)))(hd:d<S.n)(h:r9 l i=some c)
  (next:RunT P C ops nd K rest (⟨rg++(bg x++bg y),[],[],⟨some (d,.sv (.v (.int .u8 (c:Nat)))),[],[]⟩⟩::acc) (S.set d (.sv (.v (.int .u8 (c:Nat)))))):RunT P C ops nd K (⟨some d,.index T x y,ty,pos,aft,gd⟩::rest) acc S:=
 RT.EP hg (by intro c h;cases h) hx hy hd (λρ w h1 h2=>by
  unfold r9 at h;cases hh:cX l i with
  |none=>rw[hh]at h;cases h
  |some b=>
   rw[hh]at h;obtain⟨q1,q2⟩:=vR hh;have q3:b.toNat=c:=Option.some.inj h;have q4:(bs l)[i.toNat]? =some b:=by rw[QI];exact q2
   simp[execOp,h1,h2,Instr.index,asIntOf,underlying,tS.h,q1,q4,q3]) next
end steps
section rows
variable {P:Program}{C:Ctx}{ops:Array Oper}{S:AS}{nd:Bool}{K:List Ac->AS->Prop}{rest:List Oper}{acc:List Ac}
variable {gd:Option (Nat×Bool)}{rg:List Nat}{d:Nat}{ty:TypeId}{pos:String}{aft:Array Edge}{x y z:Operand}{T U E0:TypeId}
variable {α:Type}{l l' k:List α}{e:α->List SV}{n by_:Nat}{zv:Value}
end rows
end
section
open Go.RowKit
def sg{α:Type}(l l':List α):Option Unit:=if l'.length=l.length then some ()else none
theorem kA{α:Type}{l l':List α}{u:Unit}(h:sg l l'=some u):l'.length=l.length:=by
 unfold sg at h;split at h
 ·assumption
 cases h
def QJ{α:Type}(l:List α)(lo hi:Int):Option (Nat×Nat):=if 0<=lo/\lo<l.length/\lo<=hi/\hi<=l.length then some (lo.toNat,(hi-lo).toNat)else none
theorem Js{α:Type}{l:List α}{lo hi:Int}{o n:Nat}(h:QJ l lo hi=some (o,n)):0<=lo/\lo<l.length/\lo<=hi/\hi<=l.length/\lo.toNat=o/\(hi-lo).toNat=n:=by
 unfold QJ at h;split at h
 ·rename_i hh;obtain⟨q1,q2⟩:=Prod.mk.inj (Option.some.inj h);exact⟨hh.1,hh.2.1,hh.2.2.1,hh.2.2.2,q1,q2⟩
 cases h
def LZ(o n:Nat)(i:Int):Option Nat:=if 0<=i/\i<n then some (o+i.toNat)else none
theorem Jt{o n j:Nat}{i:Int}(h:LZ o n i=some j):0<=i/\i<n/\o+i.toNat=j:=by
 unfold LZ at h;split at h
 ·rename_i hh;exact⟨hh.1,hh.2,Option.some.inj h⟩
 cases h
theorem GM{α:Type}{e:α->List SV}{l:List α}{n:Nat}{M:Mem}{v:Value}(h:(slc n (l.map e)).h M v):l.length<=9223372036854775807:=by
 rcases h with⟨_,_,h⟩|⟨b,o,c,_,_,h,_⟩
 ·have:l=[]:=by simpa using h
  subst this;simp
 rwa[List.length_map]at h
theorem rj{α:Type}{e:α->List SV}{l:List α}{n:Nat}{M:Mem}{v:Value}(h:(ref [slc n (l.map e)]).h M v):l.length<=9223372036854775807:=by
 obtain⟨b,o,_,h⟩:=h;obtain⟨y,_,_,h⟩:=h 0 _ Y;exact GM h
theorem tc{l:List Nat}{i:Nat}(h:l.length<=i):l.getD i 0=0:=by simp[List.getD,List.getElem?_eq_none h]
theorem pW{l:List Nat}{i:Nat}(h:i<l.length):l[i]? =some (l.getD i 0):=by simp[List.getD,h]
theorem eN{α:Type}{l:List α}{d:α}{i:Nat}(h:l.length<=i):l.getD i d=d:=by simp[List.getD,List.getElem?_eq_none h]
theorem cY{α:Type}{l:List α}{d:α}{i:Nat}(h:i<l.length):l[i]? =some (l.getD i d):=by simp[List.getD,h]
theorem yG{α β:Type}(a:List α)(b:List β)(i:Nat)(h:i<=max a.length b.length):(i<max a.length b.length/\i<a.length/\i<b.length)\/(i<max a.length b.length/\i<a.length/\b.length<=i)\/(i<max a.length b.length/\a.length<=i/\i<b.length)\/i=max a.length b.length:=by omega
section steps
variable {P:Program}{C:Ctx}{ops:Array Oper}{S:AS}{nd:Bool}{K:List Ac->AS->Prop}{rest:List Oper}{acc:List Ac}
variable {gd:Option (Nat×Bool)}{rg:List Nat}{d:Nat}{ty:TypeId}{pos:String}{aft:Array Edge}{x y z:Operand}{T U E0:TypeId}
variable {α:Type}{l l' k:List α}{e:α->List SV}{n by_:Nat}{zv:Value}
theorem QK{E1:TypeId}(h:l'.length=l.length):(⟨E1,n,l.length,l'.flatMap e⟩:Row)=TR E1 n e l':=by show _=Row.mk _ _ _ _;rw[h]
theorem RT.QL(hg:Gd ops S gd rg){f:FuncId}[c7 P f]{g:Operand}{xs:Array Operand}{at_:Array TypeId}{args:List AV}{E1:TypeId}{res:AV}(hp:Fe P f args (TR E1 n e l) res (l'.flatMap e))(hlen:l'.length=l.length)(i:Nat)(hR:S.r i=.live (TR E1 n e l))(hrow:args.all AV.vO=true)(hres:res.vO=true)
  (hf:S.ev g=.sv (.v (.func (.func f) #[] #[]))) (hargs:BB S xs.toList (args.map (AV.wS i))) (hd:d<S.n)
  (next:RunT P C ops nd K rest (⟨rg++(bg g++xs.toList.flatMap bg),[],[i],⟨some (d,res.wS i),[],[(i,.live (TR E1 n e l'))]⟩⟩::acc) ((AS.cq [(i,.live (TR E1 n e l'))] S).set d (res.wS i))):RunT P C ops nd K (⟨some d,.call ⟨.value g,xs,at_⟩,ty,pos,aft,gd⟩::rest) acc S:=
 RT.Tv hg hp i hR hrow hres hf hargs hd (by rw[QK hlen];exact next)
theorem RT.TS(hg:Gd ops S gd rg)[tS:eI P T E0 n]{i o m:Nat}{E1:TypeId}{lo hi:Option Operand}(a b:Int)(hx:S.ev x=.row i)(hR:S.r i=.live (TR E1 n e l))(hlo:By S 0 lo a)(hhi:By S l.length hi b)(hd:d<S.n)(h:QJ l a b=some (o,m))
  (next:RunT P C ops nd K rest (⟨rg++(bg x++(nw lo++nw hi)),[],[i],⟨some (d,.lM i (o*n) m),[],[]⟩⟩::acc) (S.set d (.lM i (o*n) m))):RunT P C ops nd K (⟨some d,.slice T x lo hi none,ty,pos,aft,gd⟩::rest) acc S:=by
 obtain⟨h0,h1,h2,h3,h4,h5⟩:=Js h;exact RT.Qt hg (.row hx hR) a b hlo hhi hd h0 h1 h2 h3 (o*n) m (by rw[h4];omega) h5 next
theorem RT.QM(hg:Gd ops S gd rg){m:Nat}[tS:eI P T E0 m]{i o q:Nat}{c:Int}(hx:S.ev x=.lM i o q)(hd:d<S.n)(hc:(q:Int)=c)
  (next:RunT P C ops nd K rest (⟨rg++bg x,[],[],⟨some (d,.sv (.v (.int .i64 c))),[],[]⟩⟩::acc) (S.set d (.sv (.v (.int .i64 c))))):RunT P C ops nd K (⟨some d,.call ⟨.builtin .len,#[x],#[T]⟩,ty,pos,aft,gd⟩::rest) acc S:=
 RT.Tu hg hx hd (by rw[hc];exact next)
theorem RT.Dr(hg:Gd ops S gd rg)[tS:eI P T E0 n]{i o q j:Nat}{kk:IntKind}{v:Int}(hx:S.ev x=.lM i (o*n) q)(hy:S.ev y=.sv (.v (.int kk v)))(hd:d<S.n)(h:LZ o q v=some j)
  (next:RunT P C ops nd K rest (⟨rg++(bg x++bg y),[],[],⟨some (d,.gx i (j*n)),[],[]⟩⟩::acc) (S.set d (.gx i (j*n)))):RunT P C ops nd K (⟨some d,.indexAddr T x y,ty,pos,aft,gd⟩::rest) acc S:=by
 obtain⟨h0,h1,h2⟩:=Jt h;exact RT.ixR hg (.lM hx) hy hd h0 h1 (j*n) (by rw[<-h2,Nat.add_mul]) next
end steps
def nM{S:Type}(body:Nat->S->Option S):Nat->S->Option S
 |0,s=>some s
 |n+1,s=>(nM body n s).bind (body n)
theorem n5{S:Type}{body:Nat->S->Option S}:∀{n:Nat} {s e:S},nM body n s=some e->∃st:Nat->S,st 0=s/\(∀k,k<n->body k (st k)=some (st (k+1)))/\st n=e
 |0,s,e,h=>⟨λ_=>s,Y,λ_ h=>by omega,Option.some.inj h⟩
 |n+1,s,e,h=>by
  obtain⟨e1,h1,h2⟩:=bind_some (x:=nM body n s) h;obtain⟨st,q1,q2,q3⟩:=n5 h1;refine⟨λk=>if k=n+1 then e else st k,by simpa using q1,λk hk=>?_,by simp⟩;rcases Nat.lt_or_ge k n with hkn|hkn
  ·simpa[show k≠n+1 by omega,show k≠n by omega]using q2 k hkn
  obtain rfl:k=n:=by omega
  simpa[q3]using h2
theorem AZ{S:Type}{body:Nat->S->Option S}(st:Nat->S):∀(n:Nat),(∀k,k<n->body k (st k)=some (st (k+1)))->nM body n (st 0)=some (st n)
 |0,_=>rfl
 |n+1,h=>by
  rw[nM,AZ st n (λk hk=>h k (by omega))];exact h n (by omega)
def lN{S E:Type}(body:Nat->S->Option (S⊕E)):Nat->S->Option (S⊕E)
 |0,s=>some (.inl s)
 |n+1,s=>(lN body n s).bind λr=>match r with|.inl s'=>body n s'|.inr e=>some (.inr e)
theorem A0{S E:Type}{body:Nat->S->Option (S⊕E)}:∀{n:Nat} {s:S} {r:S⊕E},lN body n s=some r->∃(m:Nat) (st:Nat->S),st 0=s/\m<=n/\(∀k,k<m->body k (st k)=some (.inl (st (k+1))))/\((m=n/\r=.inl (st n))\/(m<n/\∃e,r=.inr e/\body m (st m)=some (.inr e)))
 |0,s,r,h=>⟨0,λ_=>s,Y,Nat.le_refl _,λ_ h=>by omega,.inl ⟨Y,(Option.some.inj h).symm⟩⟩
 |n+1,s,r,h=>by
  obtain⟨r1,h1,h2⟩:=bind_some (x:=lN body n s) h;obtain⟨m,st,q1,q2,q3,q4⟩:=A0 h1;rcases q4 with⟨rfl,rfl⟩|⟨q4,e,rfl,q5⟩
  ·simp only at h2;cases r with
   |inr e=>exact⟨m,st,q1,by omega,q3,.inr ⟨by omega,e,Y,h2⟩⟩
   |inl s'=>
    refine⟨m+1,λk=>if k=m+1 then s' else st k,by simpa using q1,Nat.le_refl _,λk hk=>?_,.inl ⟨Y,by simp⟩⟩;rcases Nat.lt_or_ge k m with hkn|hkn
    ·simpa[show k≠m+1 by omega,show k≠m by omega]using q3 k hkn
    obtain rfl:k=m:=by omega
    simpa using h2
  simp only at h2;cases h2;exact⟨m,st,q1,by omega,q3,.inr ⟨by omega,e,Y,q5⟩⟩
theorem BJ{S E:Type}{body:Nat->S->Option (S⊕E)}{n m:Nat}{st:Nat->S}{r:S⊕E}(h:∀k,k<m->body k (st k)=some (.inl (st (k+1))))(hr:(m=n/\r=.inl (st n))\/(m<n/\∃e,r=.inr e/\body m (st m)=some (.inr e))){k:Nat}(hk:k<n)(hkm:k<=m):
  ∃y,body k (st k)=some y/\(∀s',y=.inl s'->k+1<=m/\s'=st (k+1))/\∀e',y=.inr e'->r=.inr e':=by
 rcases Nat.lt_or_ge k m with q|q
 ·exact⟨_,h k q,(λs' e=>⟨q,by cases e;rfl⟩),(λe' e=>by cases e)⟩
 obtain rfl:k=m:=by omega
 rcases hr with⟨rfl,_⟩|⟨_,e,rfl,he⟩
 ·omega
 exact⟨_,he,(λs' e=>by cases e),(λe' q=>by cases q;rfl)⟩
theorem Ds{S E:Type}{body:Nat->S->Option (S⊕E)}{n m:Nat}{st:Nat->S}{r:S⊕E}(hr:(m=n/\r=.inl (st n))\/(m<n/\∃e,r=.inr e/\body m (st m)=some (.inr e)))(h:n<=m):r=.inl (st n):=by
 rcases hr with⟨_,q⟩|⟨q,_⟩
 ·exact q
 omega
theorem vU{S E:Type}{body:Nat->S->Option (S⊕E)}{n:Nat}{s:S}{r:S⊕E}(h:lN body n s=some r):∃(m:Nat) (st:Nat->S),st 0=s/\(∀k,k<n->k<=m->∃y,body k (st k)=some y/\(∀s',y=.inl s'->k+1<=m/\s'=st (k+1))/\∀e',y=.inr e'->r=.inr e')/\(n<=m->r=.inl (st n)):=by
 obtain⟨m,st,q1,q2,q3,q4⟩:=A0 h;exact⟨m,st,q1,λk hk hm=>BJ q3 q4 hk hm,λhn=>Ds q4 hn⟩
end
section
open Go.RowKit
def Ju(es:List (Value×Value)):SV where
 h M v:=∃b,v=.map (some b)/\M b 0=some (.tuple ⟨es.map λp=>.tuple #[p.1,p.2]⟩)
 mono hM h:=by obtain⟨b,e,h⟩:=h;exact⟨b,e,hM _ _ _ h⟩
class GN (P:Program) (T:TypeId) (k:outParam TypeId) (e:outParam TypeId):Prop where
 u:P.underlying T=some (.map k e)
def A3(k:IntKind)(n:Int):List (Value×Value)->Option Value
 |[]=>none
 |(.int k' m,v)::l=>if k=k' then(if n=m then some v else A3 k n l)else none
 |_::_=>none
theorem si{k:IntKind}{n:Int}{v:Value}:∀(es:List MapEntry) (i:Nat),A3 k n (es.map λe=>(e.key,e.val))=some v->∃j,Instr.findNow (.int k) (.int k n) es i=some (some (j,v))
 |[],_,h=>by simp[A3]at h
 |⟨key,val,born⟩::es,i,h=>by
  cases key with
  |int k' m=>
   simp only[List.map_cons,A3]at h;by_cases hk:k=k'
   ·subst hk;rw[if_pos rfl]at h;by_cases hn:n=m
    ·subst hn;rw[if_pos rfl]at h;cases h;exact⟨i,by simp[Instr.findNow,Instr.sameNow]⟩
    rw[if_neg hn]at h;obtain⟨j,hj⟩:=si es (i+1) h;have hb:(n==m)=false:=by simp[hn]
    exact⟨j,by simp[Instr.findNow,Instr.sameNow,hb,hj]⟩
   rw[if_neg hk]at h;cases h
  |_=>simp[A3]at h
theorem GO:∀(l:List (Value×Value)) (m:List MapEntry),l.map (λp=>Value.tuple #[p.1,p.2])=m.map (λe=>Value.tuple #[e.key,e.val])->m.map (λe=>(e.key,e.val))=l
 |[],[],_=>rfl
 |[],_::_,h=>by simp at h
 |_::_,[],h=>by simp at h
 |(p,q)::l,e::m,h=>by
  simp only[List.map_cons,List.cons.injEq,Value.tuple.injEq]at h⊢;refine⟨?_,GO l m h.2⟩;have:=h.1;simp at this;rw[this.1,this.2]
theorem Jv{es:Array MapEntry}{l:List (Value×Value)}(h:(⟨l.map λp=>.tuple #[p.1,p.2]⟩:Array Value)=L5 es):es.toList.map (λe=>(e.key,e.val))=l:=
 GO l es.toList (congrArg Array.toList h)
theorem getM{P:Program}{w:World}{r:Nat}{es:Array MapEntry}{ck:Nat}(hb:w.heap[r]? =some (.map es ck)):(getObj r).run P w=.ok (.map es ck) w:=by simp[getObj,Sem.run,hb]
theorem Xv{P:Program}{w:World}{r:Nat}{es:Array MapEntry}{ck:Nat}(o:Obj)(hb:w.heap[r]? =some (.map es ck)):(setObj r o).run P w=.ok () {w with heap:=w.heap.setIfInBounds r o}:=by simp[setObj,Sem.run,hb]
theorem ckM{P:Program}{w:World}{kt:TypeId}{k:IntKind}[tI:kn P kt k]{n:Int}(bb:Bool):(Instr.checkKey bb 10000 kt (.int k n)).run P w=.ok () w:=by
 rw[show(10000:Nat)=9999+1 from rfl,Instr.checkKey];simp[underlying,tI.h]
theorem Jw{M:Mem}:∀l:List Value,SV.ew M (l.map SV.v) l
 |[]=>trivial
 |_::l=>⟨Y,Jw l⟩
section steps
variable {P:Program}{C:Ctx}{ops:Array Oper}{S:AS}{nd:Bool}{K:List Ac->AS->Prop}{rest:List Oper}{acc:List Ac}
variable {gd:Option (Nat×Bool)}{rg:List Nat}{d:Nat}{ty:TypeId}{pos:String}{aft:Array Edge}{x y z:Operand}{T U E0:TypeId}
theorem RT.look(hg:Gd ops S gd rg){kt et:TypeId}[tM:GN P T kt et]{k:IntKind}[tI:kn P kt k]{es:List (Value×Value)}{n:Int}(cs:List Value)(hx:S.ev x=.sv (Ju es))(hy:S.ev y=.sv (.v (.int k n)))(hl:A3 k n es=some (.agg ⟨cs⟩))(hd:d<S.n)
  (next:RunT P C ops nd K rest (⟨rg++(bg x++bg y),[],[],⟨some (d,.sv (.agg (cs.map SV.v))),[],[]⟩⟩::acc) (S.set d (.sv (.agg (cs.map SV.v))))):RunT P C ops nd K (⟨some d,.lookup T x y false,ty,pos,aft,gd⟩::rest) acc S:=
 RT.value hg (bg x++bg y) [] [] (.sv (.agg (cs.map SV.v))) hd (by intro c h;cases h) (λS' ht _ _ E a w h=>by
  have h1:=h.ev x;rw[bA (λ_ h=>List.mem_append_left _ h) ht,hx]at h1;have h2:a.eval y=.int k n:=by have h2:=h.ev y;rw[bA (λ_ h=>List.mem_append_right _ h) ht,hy]at h2;exact h2
  obtain⟨b,e,hb⟩:=h1;obtain⟨ms,ck,hm,he⟩:=h.dM _ _ _ hb;have he:=Jv he;rw[<-he]at hl;obtain⟨j,hj⟩:=si ms.toList 0 hl;refine⟨.agg ⟨cs⟩,?_,⟨cs,Y,?_⟩,fT⟩
  ·have Xw:(Instr.findKey kt (.int k n) ms.toList).run P w=.ok (some (j,.agg ⟨cs⟩)) w:=by
    simp[Instr.findKey,underlying,tI.h,hj]
   simp[execOp,e,h2,Instr.lookup,underlying,tM.u,getM hm,ckM,Xw]
  exact Jw cs) next
def pX(w:World)(ms:Array MapEntry)(ck:Nat):World:=w.alloc (.map ms ck)
theorem vV(w:World)(ms:Array MapEntry)(ck:Nat):(pX w ms ck).heap[w.heap.size]? =some (.map ms ck):=by show(w.heap.push _)[w.heap.size]? =_;simp
theorem run_make{d:Option Nat}{ρ:Operand->Value}{w:World}:(execOp ρ ⟨d,.makeMap T none,ty,pos,aft,none⟩).run P w=.ok (.value (.map (some w.heap.size))) (pX w #[] 0):=by
 simp[execOp,Instr.makeMap,pX]
theorem xM{d:Option Nat}{kt et:TypeId}[tM:GN P T kt et]{k:IntKind}[tI:kn P kt k]{ρ:Operand->Value}{w:World}{ms:Array MapEntry}{ck:Nat}{n:Int}{v:Value}(hx:ρ x=.map (some w.heap.size))(hy:ρ y=.int k n)(hz:ρ z=v)
  (hf:Instr.findNow (.int k) (.int k n) ms.toList 0=some none):(execOp ρ ⟨d,.insert T x y z,ty,pos,aft,none⟩).run P (pX w ms ck)=.ok .skip (pX w (ms.push ⟨.int k n,v,ck⟩) (ck+1)):=by
 have Xw:(Instr.findKey kt (.int k n) ms.toList).run P (pX w ms ck)=.ok none (pX w ms ck):=by
  simp[Instr.findKey,underlying,tI.h,hf]
 have Xx:∀o:Obj,{pX w ms ck with heap:=(pX w ms ck).heap.setIfInBounds w.heap.size o}=w.alloc o:=by
  intro o;simp only[pX,World.alloc];congr 1;apply Array.ext';simp
 simp[execOp,hx,hy,hz,Instr.mapUpdate,underlying,tM.u,getM (vV w ms ck),ckM,Xw,Xv _ (vV w ms ck)];exact Xx _
theorem xN{d:Option Nat}{z0:Value}[tP:iU P U [(0,1)] [z0]]{ρ:Operand->Value}{w:World}{v:Value}(hx:ρ x=v)(hv:v.oneCell'=true):(execOp ρ ⟨d,.build U #[(0,x)],ty,pos,aft,none⟩).run P w=.ok (.value (.agg #[v])) w:=by
 have hu:=tP.h;cases hT:P.underlying U with
 |none=>rw[hT]at hu;cases hu
 |some u=>
  rw[hT]at hu;cases u with
  |struct fs=>
   simp only at hu;have hz:(zeroValue U).run P w=.ok (.agg ⟨[z0]⟩) w:=hG.run (t:=⟨tP.hz⟩) w;have hm:(fs.mapM (λf=>do pure (f.offset,<-sizeOf f.type):Field->Sem (Nat×Nat))).run P w=.ok #[(0,1)] w:=by
    have:=pU (P:=P) (w:=w) hu;rw[<-Array.toArray_toList (xs:=fs),List.mapM_toArray];rw[Sem.run_map,this];rfl
   simp only[execOp,Instr.build,underlying];simp only[Sem.run_bind,hz,Result.andThen_ok,run_program,hT,Sem.run_pure,Value.cells];have hm':(Array.mapM (λf=>do
     let __do_lift<-sizeOf f.type
     pure (f.offset,__do_lift)) fs:Sem _).run P w=.ok #[(0,1)] w:=hm
   simp only[hm',Result.andThen_ok];have h1':Instr.fill (λi=>(#[(0,1)]:Array (Nat×Nat))[i]?) ⟨[z0]⟩ [(0,v)]=some ⟨[v]⟩:=by
    simp[Instr.fill,gX hv]
    try rfl
   have e4:(Array.map (λx=>match x with|(i,x)=>(i,ρ x)) #[(0,x)]).toList=[(0,v)]:=by simp[hx]
   simp only[e4,h1',Sem.run_pure,Result.andThen_ok]
  |_=>cases hu
theorem MC{Q:Exit->AS->Prop}{id:Nat}{T U kt et t0:TypeId}[tM:GN P T kt et]{k:IntKind}[tI:kn P kt k]{z0:Value}[tP:iU P U [(0,1)] [z0]]{f1 f2 f3 f4:FuncId}{n1 n2 n3 n4:Int}
  {p0 p1 p2 p3 p4 p5 p6 p7 p8 p9 QN:String} {a0 a1 a2 a3 a4 a5 a6 a7 a8 a9 a10:Array Edge} {u1 u2 u3 u4 u5 u6 u7 u8 u9:TypeId} (hn:7<=S.n)
  (h2:Instr.findNow (.int k) (.int k n2) [⟨.int k n1,.agg #[.func (.func f1) #[] #[]],0⟩] 0=some none)
  (h3:Instr.findNow (.int k) (.int k n3) [⟨.int k n1,.agg #[.func (.func f1) #[] #[]],0⟩,⟨.int k n2,.agg #[.func (.func f2) #[] #[]],1⟩] 0=some none)
  (h4:Instr.findNow (.int k) (.int k n4) [⟨.int k n1,.agg #[.func (.func f1) #[] #[]],0⟩,⟨.int k n2,.agg #[.func (.func f2) #[] #[]],1⟩,⟨.int k n3,.agg #[.func (.func f3) #[] #[]],2⟩] 0=some none)
  (hQ:∀S',S'.t 0=.sv (Ju [(.int k n1,.agg #[.func (.func f1) #[] #[]]),(.int k n2,.agg #[.func (.func f2) #[] #[]]),(.int k n3,.agg #[.func (.func f3) #[] #[]]),(.int k n4,.agg #[.func (.func f4) #[] #[]])])->Q .normal S'):
  Ok P C (.region id #[⟨some 1,.makeMap T none,t0,p0,a0,none⟩,⟨some 2,.build U #[(0,.func f1)],u1,p1,a1,none⟩,⟨none,.insert T (.tmp 1) (.const (.int k n1)) (.tmp 2),u2,p2,a2,none⟩,
   ⟨some 3,.build U #[(0,.func f2)],u3,p3,a3,none⟩,⟨none,.insert T (.tmp 1) (.const (.int k n2)) (.tmp 3),u4,p4,a4,none⟩,⟨some 4,.build U #[(0,.func f3)],u5,p5,a5,none⟩,⟨none,.insert T (.tmp 1) (.const (.int k n3)) (.tmp 4),u6,p6,a6,none⟩,
   ⟨some 5,.build U #[(0,.func f4)],u7,p7,a7,none⟩,⟨none,.insert T (.tmp 1) (.const (.int k n4)) (.tmp 5),u8,p8,a8,none⟩,⟨some 6,.move (.tmp 1),u9,p9,a9,none⟩,⟨some 0,.assign (.tmp 6),u9,QN,a10,none⟩] false) S Q:=by
 rintro a w ⟨E,h⟩;refine wpIn_region ?_;show wpOpsIn _ _ _ _ _ [0,1,2,3,4,5,6,7,8,9,10] a w;have hS:∀(S:AS) (d:Nat) (x:AV),(S.set d x).n=S.n:=λ_ _ _=>rfl;rw[wpOpsIn_cons];refine cO (C:=C) rfl rfl (cP (C:=C) (by intro c h;cases h) run_make ?_);have g1:=h.put (d:=1) (x:=.sv (.v (.map (some w.heap.size)))) (v:=.map (some w.heap.size)) Y (by omega) fT;show wpOpsIn _ _ _ _ _ _ (a.put (some 1) _) _;generalize a.put (some 1) (.map (some w.heap.size))=b1 at g1⊢;rw[wpOpsIn_cons];refine cO (C:=C) rfl rfl (cP (C:=C) (by intro c h;cases h) (xN rfl rfl) ?_);have g2:=g1.put (d:=2) (x:=.sv (.v (.agg #[.func (.func f1) #[] #[]]))) (v:=.agg #[.func (.func f1) #[] #[]]) Y (by rw[hS];omega) fT;show wpOpsIn _ _ _ _ _ _ (b1.put (some 2) (.agg #[.func (.func f1) #[] #[]])) _;generalize b1.put (some 2) (.agg #[.func (.func f1) #[] #[]])=b2 at g2⊢;rw[wpOpsIn_cons];refine cO (C:=C) rfl rfl (cP (C:=C) (by intro c h;cases h) (xM (k:=k) (n:=n1) (v:=.agg #[.func (.func f1) #[] #[]]) (g2.ev (.tmp 1)) rfl (g2.ev (.tmp 2)) rfl) ?_);show wpOpsIn _ _ _ _ _ _ (b2.put none undef) _;rw[show b2.put none undef=b2 from rfl,wpOpsIn_cons];refine cO (C:=C) rfl rfl (cP (C:=C) (by intro c h;cases h) (xN rfl rfl) ?_)
 have g3:=g2.put (d:=3) (x:=.sv (.v (.agg #[.func (.func f2) #[] #[]]))) (v:=.agg #[.func (.func f2) #[] #[]]) Y (by rw[hS,hS];omega) fT;show wpOpsIn _ _ _ _ _ _ (b2.put (some 3) (.agg #[.func (.func f2) #[] #[]])) _;generalize b2.put (some 3) (.agg #[.func (.func f2) #[] #[]])=b3 at g3⊢;rw[wpOpsIn_cons];refine cO (C:=C) rfl rfl (cP (C:=C) (by intro c h;cases h) (xM (k:=k) (n:=n2) (v:=.agg #[.func (.func f2) #[] #[]]) (g3.ev (.tmp 1)) rfl (g3.ev (.tmp 3)) (by simpa using h2)) ?_);show wpOpsIn _ _ _ _ _ _ (b3.put none undef) _;rw[show b3.put none undef=b3 from rfl,wpOpsIn_cons];refine cO (C:=C) rfl rfl (cP (C:=C) (by intro c h;cases h) (xN rfl rfl) ?_);have g4:=g3.put (d:=4) (x:=.sv (.v (.agg #[.func (.func f3) #[] #[]]))) (v:=.agg #[.func (.func f3) #[] #[]]) Y (by rw[hS,hS,hS];omega) fT;show wpOpsIn _ _ _ _ _ _ (b3.put (some 4) (.agg #[.func (.func f3) #[] #[]])) _;generalize b3.put (some 4) (.agg #[.func (.func f3) #[] #[]])=b4 at g4⊢;rw[wpOpsIn_cons];refine cO (C:=C) rfl rfl (cP (C:=C) (by intro c h;cases h) (xM (k:=k) (n:=n3) (v:=.agg #[.func (.func f3) #[] #[]]) (g4.ev (.tmp 1)) rfl (g4.ev (.tmp 4)) (by simpa using h3)) ?_);show wpOpsIn _ _ _ _ _ _ (b4.put none undef) _
 rw[show b4.put none undef=b4 from rfl,wpOpsIn_cons];refine cO (C:=C) rfl rfl (cP (C:=C) (by intro c h;cases h) (xN rfl rfl) ?_);have g5:=g4.put (d:=5) (x:=.sv (.v (.agg #[.func (.func f4) #[] #[]]))) (v:=.agg #[.func (.func f4) #[] #[]]) Y (by rw[hS,hS,hS,hS];omega) fT;show wpOpsIn _ _ _ _ _ _ (b4.put (some 5) (.agg #[.func (.func f4) #[] #[]])) _;generalize b4.put (some 5) (.agg #[.func (.func f4) #[] #[]])=b5 at g5⊢;rw[wpOpsIn_cons];refine cO (C:=C) rfl rfl (cP (C:=C) (by intro c h;cases h) (xM (k:=k) (n:=n4) (v:=.agg #[.func (.func f4) #[] #[]]) (g5.ev (.tmp 1)) rfl (g5.ev (.tmp 5)) (by simpa using h4)) ?_);show wpOpsIn _ _ _ _ _ _ (b5.put none undef) _;have e1:b5.eval (.tmp 1)=.map (some w.heap.size):=g5.ev (.tmp 1);obtain⟨ms,hms⟩:∃ms:Array MapEntry,(((((#[]:Array MapEntry).push ⟨.int k n1,.agg #[.func (.func f1) #[] #[]],0⟩).push ⟨.int k n2,.agg #[.func (.func f2) #[] #[]],0+1⟩).push ⟨.int k n3,.agg #[.func (.func f3) #[] #[]],0+1+1⟩).push ⟨.int k n4,.agg #[.func (.func f4) #[] #[]],0+1+1+1⟩)=ms:=⟨_,Y⟩;rw[hms];have hno:∀o,E.M w.heap.size o=none:=λo=>by
  cases e:E.M w.heap.size o with
  |none=>rfl
  |some v=>have:=nJ h.dM e;omega
 have g6:=g5.grow (M':=λb o=>if b=w.heap.size/\o=0 then some (.tuple (L5 ms))else E.M b o) (w':=pX w ms (0+1+1+1+1)) (λb o v e=>by
   have:b≠w.heap.size:=by rintro rfl;rw[hno o]at e;cases e
   simp[this,e]) (λb o v e=>by
   by_cases hb:b=w.heap.size/\o=0
   ·exact .inr (by omega)
   ·simp only[if_neg hb]at e;exact .inl e) (λb o v e=>by
   by_cases hb:b=w.heap.size/\o=0
   ·simp only[if_pos hb]at e;obtain⟨rfl,rfl⟩:=hb;cases e;exact⟨ms,_,vV w ms _,Y⟩
   simp only[if_neg hb]at e;have hlt:=nJ h.dM e;refine(h.dM b o v e).same ?_;show(w.heap.push _)[b]? =_;rw[Array.getElem?_push,if_neg (by omega)]) ((Below.refl _ _).alloc (Nat.le_refl _) _)
 have hm:∀X:Env,X.M w.heap.size 0=some (.tuple (L5 ms))->(Ju [(.int k n1,.agg #[.func (.func f1) #[] #[]]),(.int k n2,.agg #[.func (.func f2) #[] #[]]),(.int k n3,.agg #[.func (.func f3) #[] #[]]),(.int k n4,.agg #[.func (.func f4) #[] #[]])]).h X.M (.map (some w.heap.size)):=λX hX=>by
  refine⟨_,Y,?_⟩;rw[hX,<-hms];rfl
 have g7:=g6.put (d:=6) (x:=.sv (.v (.map (some w.heap.size)))) (v:=.map (some w.heap.size)) Y (by rw[hS,hS,hS,hS,hS];omega) fT;rw[show b5.put none undef=b5 from rfl,wpOpsIn_cons];refine cO (C:=C) rfl rfl (cP (C:=C) (by intro c h;cases h) (r:=.ok (.value (.map (some w.heap.size))) _) (by show Result.ok (Next.value (b5.eval (.tmp 1))) _=_;rw[e1]) ?_);show wpOpsIn _ _ _ _ _ _ (b5.put (some 6) (.map (some w.heap.size))) _;generalize b5.put (some 6) (.map (some w.heap.size))=b6 at g7⊢;have e6:b6.eval (.tmp 6)=.map (some w.heap.size):=g7.ev (.tmp 6);have g8:=g7.put (d:=0) (x:=.sv (Ju [(.int k n1,.agg #[.func (.func f1) #[] #[]]),(.int k n2,.agg #[.func (.func f2) #[] #[]]),(.int k n3,.agg #[.func (.func f3) #[] #[]]),(.int k n4,.agg #[.func (.func f4) #[] #[]])])) (v:=.map (some w.heap.size)) (hm _ (by simp)) (by rw[hS,hS,hS,hS,hS,hS];omega) fT;rw[wpOpsIn_cons];refine cO (C:=C) rfl rfl (cP (C:=C) (by intro c h;cases h) (r:=.ok (.value (.map (some w.heap.size))) _) (by show Result.ok (Next.value (b6.eval (.tmp 6))) _=_;rw[e6]) ?_);show wpOpsIn _ _ _ _ _ _ (b6.put (some 0) (.map (some w.heap.size))) _;rw[wpOpsIn];exact⟨_,hQ _ Y,_,g8⟩
end steps
theorem jn{P:Program}{b:Frame}{a:Act}{k:List Item}{cs:List Frame}{w:World}{c:Code}:step P (lone (b.atR a (.code (.scope c)::k)) cs w)=.next (lone (b.atR a (.code c:: .inScope c::k)) cs w):=
 step_lone_go (by simp[stepG,stepG.exec,Frame.atR])
theorem Al{P:Program}{b:Frame}{a:Act}{k:List Item}{cs:List Frame}{w:World}{c:Code}:step P (lone (b.atR a (.inScope c::k)) cs w)=.next (lone (b.atR a k) cs w):=
 step_lone_go (by simp[stepG,stepG.exec,Frame.atR])
theorem Fi{F:Fence}{n:Nat}{P:Program}{Q:Exit->Act->World->Prop}{a:Act}{w:World}{c:Code}(h:c.wpIn F n P (Exit.noGoto Q) a w):(Code.scope c).wpIn F n P Q a w:=by
 intro b k cs hro hb hr;have h0:(lone (b.atR a (.code (.scope c)::k)) cs w).fenced P F:=fenced_calm hb hr Y;obtain⟨e,a₁,w₁,hq,HW⟩:=h b (.inScope c::k) cs hro hb hr;cases e with
 |normal=>exact⟨.normal,a₁,w₁,hq,.head h0 jn (StepsIn.trans HW (.one (fenced_calm hb hr Y) Al))⟩
 |exit id=>
  have hx:exitTo id (.inScope c::k)=exitTo id k:=by simp[exitTo]
  exact⟨.exit id,a₁,w₁,hq,λk' hk=>.head h0 jn (HW.1 k' (by rw[hx];exact hk)),
   λhr' hk=>let ⟨k₁,h1,h2⟩:=HW.2 hr' (by rw[hx];exact hk);⟨k₁,h1,.head h0 jn h2⟩⟩
 |goto l=>exact hq.elim
 |ret=>exact⟨_,a₁,w₁,hq,.of_steps (.one h0 jn) HW⟩
 |panic ch=>exact⟨_,a₁,w₁,hq,.of_steps (.one h0 jn) HW⟩
 |outgrown=>exact⟨_,a₁,w₁,hq,.of_steps (.one h0 jn) HW⟩
def MD(Q:Exit->AS->Prop):Exit->AS->Prop
 |.goto _,_=>False
 |e,S=>Q e S
section scope
variable {P:Program}{C:Ctx}{S:AS}{Q:Exit->AS->Prop}
theorem MD.r(h:Q .ret S):MD Q .ret S:=h
theorem MD.x{id:Nat}(h:Q (.exit id) S):MD Q (.exit id) S:=h
theorem Jx{c:Code}(h:Ok P C c S (MD Q)):Ok P C (.scope c) S Q:=λa w hs=>by
 refine Fi (wpIn_mono (h a w hs) ?_);rintro e a' w' ⟨S',q,hh⟩;cases e<;>first|exact⟨S',q,hh⟩|exact q.elim
theorem Jy{l:Nat}(h:Q .normal S):Ok P C (.label l) S Q:=λ_ _ hs=>wpIn_label ⟨S,h,hs⟩
end scope
end
end Go.Fw
namespace Go.Proofs.YtfoldppidpmchaaGreat
section
open Go.Fw
open Go.Proofs
noncomputable abbrev ah:=Tryz.prog
instance:kn ah 2 .i64:=⟨by kernel_rfl⟩
instance:oF ah 2:=⟨by kernel_rfl,by kernel_rfl⟩
instance:jg ah 2 1 8 (.int .i64 0):=⟨by kernel_rfl,by rfl,by decide,by decide⟩
instance:kn ah 3 .i64:=⟨by kernel_rfl⟩
instance:oF ah 3:=⟨by kernel_rfl,by kernel_rfl⟩
instance:hG ah 3 (.int .i64 0):=⟨by kernel_rfl⟩
instance:jg ah 3 1 8 (.int .i64 0):=⟨by kernel_rfl,by rfl,by decide,by decide⟩
instance:Bu ah 4:=⟨by kernel_rfl⟩
instance:oF ah 4:=⟨by kernel_rfl,by kernel_rfl⟩
instance:hG ah 4 (.bool false):=⟨by kernel_rfl⟩
instance:kn ah 5 .u8:=⟨by kernel_rfl⟩
instance:N8 ah 9:=⟨by kernel_rfl⟩
instance:oF ah 23:=⟨by kernel_rfl,by kernel_rfl⟩
instance:jg ah 23 1 24 (.slice none 0 0):=⟨by kernel_rfl,by rfl,by decide,by decide⟩
instance:eI ah 23 24 1:=⟨by kernel_rfl,by kernel_rfl⟩
instance:oF ah 24:=⟨by kernel_rfl,by kernel_rfl⟩
instance:hG ah 24 (.slice none 0 0):=⟨by kernel_rfl⟩
instance:jg ah 24 1 24 (.slice none 0 0):=⟨by kernel_rfl,by rfl,by decide,by decide⟩
instance:eI ah 24 36 4:=⟨by kernel_rfl,by kernel_rfl⟩
instance:wL ah 26 4:=⟨by kernel_rfl,by kernel_rfl⟩
instance:hG ah 26 (.agg #[.int .i64 0,.slice none 0 0,.slice none 0 0,.slice none 0 0]):=⟨by kernel_rfl⟩
instance:iU ah 26 [(0,1),(1,1),(2,1),(3,1)] [.int .i64 0,.slice none 0 0,.slice none 0 0,.slice none 0 0]:=⟨by kernel_rfl,by kernel_rfl,by rfl⟩
instance:AQ ah 26 0 0 3:=⟨by kernel_rfl⟩
instance:AQ ah 26 1 1 23:=⟨by kernel_rfl⟩
instance:AQ ah 26 2 2 23:=⟨by kernel_rfl⟩
instance:AQ ah 26 3 3 24:=⟨by kernel_rfl⟩
instance:oF ah 32:=⟨by kernel_rfl,by kernel_rfl⟩
instance:hG ah 32 (.slice none 0 0):=⟨by kernel_rfl⟩
instance:eI ah 32 106 1:=⟨by kernel_rfl,by kernel_rfl⟩
instance:wL ah 34 2:=⟨by kernel_rfl,by kernel_rfl⟩
instance:Da ah 34:=⟨λw=>⟨1,wL.size (T:=34) (n:=2) w⟩⟩
instance:hG ah 34 (.agg #[.bool false,.slice none 0 0]):=⟨by kernel_rfl⟩
instance:jg ah 34 2 32 (.agg #[.bool false,.slice none 0 0]):=⟨by kernel_rfl,by rfl,by decide,by decide⟩
instance:iU ah 34 [(0,1),(1,1)] [.bool false,.slice none 0 0]:=⟨by kernel_rfl,by kernel_rfl,by rfl⟩
instance:AQ ah 34 0 0 4:=⟨by kernel_rfl⟩
instance:AQ ah 34 1 1 32:=⟨by kernel_rfl⟩
instance:wL ah 36 4:=⟨by kernel_rfl,by kernel_rfl⟩
instance:hG ah 36 (.agg #[.bool false,.slice none 0 0,.bool false,.slice none 0 0]):=⟨by kernel_rfl⟩
instance:jg ah 36 4 64 (.agg #[.bool false,.slice none 0 0,.bool false,.slice none 0 0]):=⟨by kernel_rfl,by rfl,by decide,by decide⟩
instance:iU ah 36 [(0,2),(2,2)] [.bool false,.slice none 0 0,.bool false,.slice none 0 0]:=⟨by kernel_rfl,by kernel_rfl,by rfl⟩
instance:AQ ah 36 0 0 34:=⟨by kernel_rfl⟩
instance:AQ ah 36 1 2 34:=⟨by kernel_rfl⟩
instance:oF ah 62:=⟨by kernel_rfl,by kernel_rfl⟩
instance:jg ah 62 1 24 (.slice none 0 0):=⟨by kernel_rfl,by rfl,by decide,by decide⟩
instance:eI ah 62 2 1:=⟨by kernel_rfl,by kernel_rfl⟩
instance:wL ah 71 4:=⟨by kernel_rfl,by kernel_rfl⟩
instance:hG ah 71 (.agg #[.int .i64 0,.int .i64 0,.int .i64 0,.int .i64 0]):=⟨by kernel_rfl⟩
instance:iU ah 71 [(0,1),(1,1),(2,1),(3,1)] [.int .i64 0,.int .i64 0,.int .i64 0,.int .i64 0]:=⟨by kernel_rfl,by kernel_rfl,by rfl⟩
instance:AQ ah 71 0 0 3:=⟨by kernel_rfl⟩
instance:AQ ah 71 1 1 3:=⟨by kernel_rfl⟩
instance:AQ ah 71 2 2 3:=⟨by kernel_rfl⟩
instance:AQ ah 71 3 3 3:=⟨by kernel_rfl⟩
instance:oF ah 91:=⟨by kernel_rfl,by kernel_rfl⟩
instance:hG ah 91 (.nilFunc):=⟨by kernel_rfl⟩
instance:eI ah 100 62 1:=⟨by kernel_rfl,by kernel_rfl⟩
instance:eI ah 101 23 1:=⟨by kernel_rfl,by kernel_rfl⟩
instance:kn ah 104 .u64:=⟨by kernel_rfl⟩
instance:oF ah 104:=⟨by kernel_rfl,by kernel_rfl⟩
instance:kn ah 106 .u32:=⟨by kernel_rfl⟩
instance:oF ah 106:=⟨by kernel_rfl,by kernel_rfl⟩
instance:jg ah 106 1 4 (.int .u32 0):=⟨by kernel_rfl,by rfl,by decide,by decide⟩
instance:oF ah 116:=⟨by kernel_rfl,by kernel_rfl⟩
instance:iU ah 118 [(0,1)] [.nilFunc]:=⟨by kernel_rfl,by kernel_rfl,by rfl⟩
instance:AQ ah 118 0 0 116:=⟨by kernel_rfl⟩
instance:GN ah 119 5 118:=⟨by kernel_rfl⟩
instance:eI ah 121 34 2:=⟨by kernel_rfl,by kernel_rfl⟩
instance:eI ah 133 3 1:=⟨by kernel_rfl,by kernel_rfl⟩
instance:kn ah 140 .u64:=⟨by kernel_rfl⟩
instance:oF ah 141:=⟨by kernel_rfl,by kernel_rfl⟩
instance:hG ah 141 (.nilFunc):=⟨by kernel_rfl⟩
instance:c7 ah 9:=⟨by kernel_rfl⟩
instance:c7 ah 10:=⟨by kernel_rfl⟩
instance:c7 ah 13:=⟨by kernel_rfl⟩
instance:c7 ah 14:=⟨by kernel_rfl⟩
instance:c7 ah 16:=⟨by kernel_rfl⟩
instance:c7 ah 17:=⟨by kernel_rfl⟩
instance:c7 ah 18:=⟨by kernel_rfl⟩
instance:c7 ah 19:=⟨by kernel_rfl⟩
instance:c7 ah 20:=⟨by kernel_rfl⟩
instance:c7 ah 21:=⟨by kernel_rfl⟩
instance:c7 ah 22:=⟨by kernel_rfl⟩
instance:c7 ah 23:=⟨by kernel_rfl⟩
instance:c7 ah 24:=⟨by kernel_rfl⟩
instance:c7 ah 32:=⟨by kernel_rfl⟩
instance:c7 ah 33:=⟨by kernel_rfl⟩
instance:c7 ah 36:=⟨by kernel_rfl⟩
instance:c7 ah 37:=⟨by kernel_rfl⟩
instance:c7 ah 39:=⟨by kernel_rfl⟩
instance:c7 ah 40:=⟨by kernel_rfl⟩
instance:c7 ah 41:=⟨by kernel_rfl⟩
instance:c7 ah 42:=⟨by kernel_rfl⟩
instance:c7 ah 43:=⟨by kernel_rfl⟩
instance:c7 ah 44:=⟨by kernel_rfl⟩
instance:c7 ah 45:=⟨by kernel_rfl⟩
instance:c7 ah 46:=⟨by kernel_rfl⟩
instance:c7 ah 49:=⟨by kernel_rfl⟩
instance:c7 ah 50:=⟨by kernel_rfl⟩
instance:c7 ah 51:=⟨by kernel_rfl⟩
instance:c7 ah 54:=⟨by kernel_rfl⟩
instance:c7 ah 55:=⟨by kernel_rfl⟩
instance:c7 ah 56:=⟨by kernel_rfl⟩
instance:c7 ah 57:=⟨by kernel_rfl⟩
instance:c7 ah 58:=⟨by kernel_rfl⟩
instance:c7 ah 59:=⟨by kernel_rfl⟩
instance:c7 ah 60:=⟨by kernel_rfl⟩
instance:c7 ah 61:=⟨by kernel_rfl⟩
instance:c7 ah 62:=⟨by kernel_rfl⟩
instance:c7 ah 63:=⟨by kernel_rfl⟩
instance:c7 ah 64:=⟨by kernel_rfl⟩
instance:c7 ah 65:=⟨by kernel_rfl⟩
instance:c7 ah 66:=⟨by kernel_rfl⟩
instance:c7 ah 67:=⟨by kernel_rfl⟩
instance:c7 ah 68:=⟨by kernel_rfl⟩
instance:c7 ah 76:=⟨by kernel_rfl⟩
instance:c7 ah 78:=⟨by kernel_rfl⟩
instance:c7 ah 79:=⟨by kernel_rfl⟩
instance:c7 ah 80:=⟨by kernel_rfl⟩
instance:c7 ah 81:=⟨by kernel_rfl⟩
instance:c7 ah 82:=⟨by kernel_rfl⟩
instance:c7 ah 83:=⟨by kernel_rfl⟩
instance:c7 ah 84:=⟨by kernel_rfl⟩
instance:c7 ah 85:=⟨by kernel_rfl⟩
instance:c7 ah 86:=⟨by kernel_rfl⟩
instance:c7 ah 89:=⟨by kernel_rfl⟩
instance:c7 ah 90:=⟨by kernel_rfl⟩
instance:c7 ah 93:=⟨by kernel_rfl⟩
instance:c7 ah 94:=⟨by kernel_rfl⟩
instance:c7 ah 95:=⟨by kernel_rfl⟩
instance:c7 ah 96:=⟨by kernel_rfl⟩
instance:c7 ah 97:=⟨by kernel_rfl⟩
instance:c7 ah 98:=⟨by kernel_rfl⟩
instance:c7 ah 99:=⟨by kernel_rfl⟩
instance:c7 ah 100:=⟨by kernel_rfl⟩
instance:c7 ah 101:=⟨by kernel_rfl⟩
instance:c7 ah 102:=⟨by kernel_rfl⟩
instance:c7 ah 106:=⟨by kernel_rfl⟩
instance:c7 ah 107:=⟨by kernel_rfl⟩
instance:c7 ah 108:=⟨by kernel_rfl⟩
instance:c7 ah 109:=⟨by kernel_rfl⟩
instance:c7 ah 112:=⟨by kernel_rfl⟩
instance:c7 ah 113:=⟨by kernel_rfl⟩
instance:c7 ah 114:=⟨by kernel_rfl⟩
instance:c7 ah 115:=⟨by kernel_rfl⟩
instance:c7 ah 116:=⟨by kernel_rfl⟩
instance:c7 ah 117:=⟨by kernel_rfl⟩
instance:c7 ah 118:=⟨by kernel_rfl⟩
instance:c7 ah 119:=⟨by kernel_rfl⟩
instance:c7 ah 120:=⟨by kernel_rfl⟩
instance:c7 ah 123:=⟨by kernel_rfl⟩
instance:c7 ah 124:=⟨by kernel_rfl⟩
instance:c7 ah 125:=⟨by kernel_rfl⟩
instance:c7 ah 126:=⟨by kernel_rfl⟩
instance:c7 ah 127:=⟨by kernel_rfl⟩
instance:c7 ah 128:=⟨by kernel_rfl⟩
instance:c7 ah 129:=⟨by kernel_rfl⟩
instance:c7 ah 130:=⟨by kernel_rfl⟩
instance:c7 ah 134:=⟨by kernel_rfl⟩
instance:c7 ah 135:=⟨by kernel_rfl⟩
instance:c7 ah 136:=⟨by kernel_rfl⟩
instance:c7 ah 137:=⟨by kernel_rfl⟩
instance:c7 ah 138:=⟨by kernel_rfl⟩
instance:c7 ah 139:=⟨by kernel_rfl⟩
instance:c7 ah 143:=⟨by kernel_rfl⟩
instance:c7 ah 144:=⟨by kernel_rfl⟩
instance:c7 ah 145:=⟨by kernel_rfl⟩
instance:c7 ah 146:=⟨by kernel_rfl⟩
instance:c7 ah 147:=⟨by kernel_rfl⟩
instance:c7 ah 148:=⟨by kernel_rfl⟩
instance:c7 ah 149:=⟨by kernel_rfl⟩
instance:c7 ah 151:=⟨by kernel_rfl⟩
instance:c7 ah 152:=⟨by kernel_rfl⟩
instance:c7 ah 153:=⟨by kernel_rfl⟩
instance:c7 ah 154:=⟨by kernel_rfl⟩
instance:c7 ah 157:=⟨by kernel_rfl⟩
instance:c7 ah 158:=⟨by kernel_rfl⟩
instance:c7 ah 159:=⟨by kernel_rfl⟩
instance:c7 ah 160:=⟨by kernel_rfl⟩
instance:c7 ah 161:=⟨by kernel_rfl⟩
instance:c7 ah 162:=⟨by kernel_rfl⟩
instance:c7 ah 163:=⟨by kernel_rfl⟩
instance:c7 ah 165:=⟨by kernel_rfl⟩
instance:c7 ah 166:=⟨by kernel_rfl⟩
instance:c7 ah 167:=⟨by kernel_rfl⟩
instance:c7 ah 168:=⟨by kernel_rfl⟩
instance:c7 ah 169:=⟨by kernel_rfl⟩
instance:c7 ah 170:=⟨by kernel_rfl⟩
theorem mixed:Tryz.prog.follows .mixedOrders=true:=by kernel_rfl
end
section
open Go.Fw Go.RowKit
def snap(W:World):Mem:=λb o=>(W.cell? ⟨b,o,none⟩).filter Value.oneCell'
theorem ME(W:World):(snap W).dM W:=λ_ _ _ e=>by
 obtain⟨e1,e2⟩:=Option.filter_eq_some_iff.1 e;exact .of e1 e2
theorem MF{W:World}{b o:Nat}{v:Value}(h:W.cell? ⟨b,o,none⟩=some v)(h1:v.oneCell'=true):snap W b o=some v:=Option.filter_eq_some_iff.2 ⟨h,h1⟩
theorem nx{H:Type}{P:Program}{ts:List TypeId}{ds:List (DataW H)}(j:Nat){t:TypeId}{d:DataW H}(h:(DataW.weightsEach P ts ds).all (· <=reachBytes)=true)(ht:ts[j]? =some t)(hd:ds[j]? =some d):(d.weights P t).all (· <=reachBytes)=true:=
 List.all_eq_true.2 λn hn=>List.all_eq_true.1 h n (DataW.weights_mem_each ht hd n hn)
theorem pY{H:Type}{P:Program}{e:TypeId}:∀{ds:List (DataW H)} {d:DataW H},d∈ds->∀n∈d.weights P e,n∈DataW.weightsAll P e ds
 |x::ds,d,h,n,hn=>by
  simp only[DataW.weightsAll,List.mem_append];rcases List.mem_cons.1 h with rfl|h
  ·exact .inl hn
  exact .inr (pY h n hn)
class A4 (P:Program) (T:TypeId) {α:Type} (e:α->List SV) (ok:outParam (α->Prop)) (sz:outParam (α->Nat)):Prop where
 h:∀{H:Type} (enc:TypeId×Value->H) (W:World) (fuel:Nat) (cs:List Value) (d:DataW H) (p:List MemPlace),DataW.trod enc P W 0 (λ_=>true) true fuel T cs=some (d,p)->(d.weights P T).all (· <=reachBytes)=true->
  ∃x:α,ok x/\SV.ew (snap W) (e x) cs/\(∀v∈cs,v.oneCell'=true)/\sz x<=Rows.uptoBulk d
section opn
variable {P:Program}{T:TypeId}
theorem Fj{k:IntKind}{n:Int}(h:(Lit.int k n).wf=true):k.min<=n/\n<=k.max:=by simpa[Lit.wf]using h
instance[t:kn P T .i64]:A4 P T bG (λx=>-9223372036854775808<=x/\x<=9223372036854775807) (λ_=>1):=⟨λenc W fuel cs d p h BK=>by
 obtain⟨n,rfl,hx,hw⟩:=DataW.trod_int t.h h;cases hx;have:=Fj hw;exact⟨n,by simpa[IntKind.min,IntKind.max,IntKind.signed,IntKind.bits]using this,⟨rfl,aq⟩,by simp[Value.oneCell'],by simp[Rows.uptoBulk]⟩⟩
instance[t:kn P T .i16]:A4 P T Xn (λx=>-32768<=x/\x<=32767) (λ_=>1):=⟨λenc W fuel cs d p h BK=>by
 obtain⟨n,rfl,hx,hw⟩:=DataW.trod_int t.h h;cases hx;have:=Fj hw;exact⟨n,by simpa[IntKind.min,IntKind.max,IntKind.signed,IntKind.bits]using this,⟨rfl,aq⟩,by simp[Value.oneCell'],by simp[Rows.uptoBulk]⟩⟩
theorem TT{k:IntKind}{M:Nat}{e:Nat->List SV}(t:kn P T k)(hk:k.min=0/\k.max=(M:Int)-1)(he:∀n:Nat,e n=[.v (.int k (n:Int))]):A4 P T e (λx=>x<M) (λ_=>1):=⟨λenc W fuel cs d p h BK=>by
 obtain⟨n,rfl,hx,hw⟩:=DataW.trod_int t.h h;cases hx;have:=Fj hw;rw[hk.1,hk.2]at this;obtain⟨m,rfl⟩:=Int.eq_ofNat_of_zero_le this.1;exact⟨m,by omega,by rw[he];exact⟨Y,aq⟩,by simp[Value.oneCell'],by simp[Rows.uptoBulk]⟩⟩
instance[t:kn P T .u32]:A4 P T aY (λx=>x<4294967296) (λ_=>1):=TT t (by decide) (λ_=>rfl)
instance[t:Bu P T]:A4 P T eB (λ_=>True) (λ_=>1):=⟨λenc W fuel cs d p h BK=>by
 obtain⟨b,rfl,hx⟩:=DataW.trod_bool t.h h;cases hx;exact⟨b,aq,⟨rfl,aq⟩,by simp[Value.oneCell'],by simp[Rows.uptoBulk]⟩⟩
theorem Dt{H α:Type}(sz:α->Nat):∀(xs:List α) (ds:List (DataW H)),xs.length=ds.length->(∀(i:Nat) (x:α) (d:DataW H),xs[i]? =some x->ds[i]? =some d->sz x<=Rows.uptoBulk d)->(xs.map sz).sum<=Rows.uptoBulkAll ds
 |[],[],_,_=>by simp
 |x::xs,d::ds,hl,h=>by
  have h1:=h 0 x d Y Y;have h2:=Dt sz xs ds (by simpa using hl) (λi x d e1 e2=>h (i+1) x d (by simpa using e1) (by simpa using e2));simp only[List.map_cons,List.sum_cons,Rows.uptoBulkAll];omega
 |[],_::_,hl,_=>by simp at hl
 |_::_,[],hl,_=>by simp at hl
instance{E:TypeId}{n:Nat}{α:Type}{e:α->List SV}{ok:α->Prop}{sz:α->Nat}{by_:Nat}{zv:Value}[t:eI P T E n][tE:jg P E n by_ zv][el:EL e n][o:A4 P E e ok sz]:A4 P T (eS n e) (λl=>l.length*by_<=140737488351232/\∀x∈l,ok x) (λl=>(l.map sz).sum+1):=⟨λ{H} enc W fuel cs d p h BK=>by
 have hcell:P.cellsOf E=n:=by
  have h1:=t.size W;simp only[sizeOf,typeInfo]at h1;cases hi:P.info? E with
  |none=>simp[hi]at h1
  |some i=>simp[hi]at h1;simp[Program.cellsOf,hi,h1]
 have hml:maxLen=9223372036854775807:=by decide
 have hby:P.bytesOf E=by_:=by
  obtain⟨i,hi,_,hb,_⟩:=tE.info;rw[Program.bytesOf,hi];exact hb
 rcases Deep.open_slice t.u h with⟨rfl,hx⟩|⟨a,len,cap,m,n',D,Pl,rfl,_,hl,hm,hmm,hx,hel⟩
 ·cases hx;exact⟨[],⟨by simp,by simp⟩,⟨.inl ⟨none,rfl,rfl⟩,aq⟩,by simp[Value.oneCell'],by simp[Rows.uptoBulk]⟩
 cases hx;rw[if_pos rfl]at hmm;subst hmm;simp only[DataW.weights,t.u,List.all_cons,List.all_append,Bool.and_eq_true,List.length_map,List.length_range,decide_eq_true_eq,hby]at BK;obtain⟨hw0,hw1,Xy⟩:=BK;have hwi:∀i,i<m->((D i).weights P E).all (· <=reachBytes)=true:=λi hi=>List.all_eq_true.2 λn hn=>by
  rcases Nat.lt_or_ge i len with q|q
  ·exact List.all_eq_true.1 hw1 n (pY (List.mem_map.2 ⟨i,List.mem_range.2 q,rfl⟩) n hn)
  exact List.all_eq_true.1 Xy n (pY (List.mem_map.2 ⟨i-len,List.mem_range.2 (by omega),by rw[show len+(i-len)=i by omega]⟩) n hn)
 have hlb:len*by_<=140737488351232:=Nat.le_trans (Nat.mul_le_mul_right _ (Nat.le_add_right _ _)) hw0;have one:∀i,i<m->∃x,ok x/\sz x<=Rows.uptoBulk (D i)/\∃cs',W.cells? 0 (a.add (i*n)) n=some cs'/\SV.ew (snap W) (e x) cs'/\(∀v∈cs',v.oneCell'=true):=by
  intro i hi;obtain⟨cs',h1,h2⟩:=hel i hi;obtain⟨x,q1,q2,q3,q4⟩:=o.h enc W n' cs' (D i) (Pl i) h2 (hwi i hi);rw[hcell]at h1;exact⟨x,q1,q4,cs',h1,q2,q3⟩
 obtain⟨xs,SZ,hxs⟩:∃xs:List α,xs.length=len/\∀(i:Nat) (x:α),xs[i]? =some x->ok x/\sz x<=Rows.uptoBulk (D i)/\∃cs',W.cells? 0 (a.add (i*n)) n=some cs'/\SV.ew (snap W) (e x) cs'/\(∀v∈cs',v.oneCell'=true):=by
  clear h hm hel;have:∀k,k<=len->∃xs:List α,xs.length=k/\∀(i:Nat) (x:α),xs[i]? =some x->ok x/\sz x<=Rows.uptoBulk (D i)/\∃cs',W.cells? 0 (a.add (i*n)) n=some cs'/\SV.ew (snap W) (e x) cs'/\(∀v∈cs',v.oneCell'=true):=by
   intro k
   induction k with
   |zero=>intro _;exact⟨[],rfl,by simp⟩
   |succ k ih=>
    intro hk;obtain⟨xs,h1,h2⟩:=ih (by omega);obtain⟨x,hx⟩:=one k (by omega);refine⟨xs++[x],by simp[h1],λi y hy=>?_⟩;rcases Nat.lt_or_ge i k with hi|hi
    ·exact h2 i y (by rwa[List.getElem?_append_left (by omega)]at hy)
    rw[List.getElem?_append_right (by omega)]at hy;have WX:i=k:=by
     rcases Nat.lt_or_ge (i-xs.length) 1 with q|q
     ·omega
     rw[List.getElem?_eq_none (by simpa using q)]at hy;cases hy
    subst WX;rw[h1,Nat.sub_self]at hy;simp at hy;subst hy;exact hx
  exact this len (Nat.le_refl _)
 refine⟨xs,⟨by rw[SZ];exact hlb,λx hx=>?_⟩,⟨?_,aq⟩,by simp[Value.oneCell'],?_⟩
 ·obtain⟨i,hi,rfl⟩:=List.getElem_of_mem hx;exact(hxs i _ (List.getElem?_eq_getElem hi)).1
 ·by_cases h0:xs=[]
  ·subst h0;simp at SZ;subst SZ;by_cases hc0:m=0
   ·subst hc0;exact .inl ⟨_,rfl,rfl⟩
   obtain⟨x,_,_,cs',g1,g2,_⟩:=one 0 (by omega);obtain⟨_,g3,g4⟩:=World.cells?_some g1;have hn:0<n:=tE.p;have g5:=g4 0 hn;obtain⟨b,o',spot⟩:=a;have Jz:spot=none:=by
    have:∃v,W.cell? (((⟨b,o',spot⟩:Addr).add (0*n)).add 0)=some v:=by
     rw[g5];exact⟨_,List.getElem?_eq_getElem (by omega)⟩
    obtain⟨v,hv⟩:=this;simpa[Addr.add]using World.cell?_spot hv
   subst Jz;refine .inr ⟨b,o',m,rfl,by simp,by simp,λi row hr=>by simp at hr⟩
  have sj:0<len:=by
   rcases Nat.eq_zero_or_pos len with hz|hz
   ·exact absurd (List.eq_nil_of_length_eq_zero (by omega)) h0
   exact hz
  have hn:0<n:=tE.p;obtain⟨x,_,_,cs',g1,g2,_⟩:=one 0 (by omega);obtain⟨_,g3,g4⟩:=World.cells?_some g1;have g5:=g4 0 hn;obtain⟨b,o',spot⟩:=a;have Jz:spot=none:=by
   have:∃v,W.cell? (((⟨b,o',spot⟩:Addr).add (0*n)).add 0)=some v:=by
    rw[g5];exact⟨_,List.getElem?_eq_getElem (by omega)⟩
   obtain⟨v,hv⟩:=this;simpa[Addr.add]using World.cell?_spot hv
  subst Jz;refine .inr ⟨b,o',m,by rw[List.length_map,SZ],by rw[List.length_map];omega,by rw[List.length_map];omega,λi row hr=>?_⟩;rw[List.getElem?_map]at hr;cases hx:xs[i]? with
  |none=>rw[hx]at hr;cases hr
  |some y=>
   rw[hx]at hr;have hr:e y=row:=Option.some.inj hr;subst hr;obtain⟨_,_,cs2,k1,k2,k3⟩:=hxs i y hx;obtain⟨_,k4,k5⟩:=World.cells?_some k1;refine⟨el.len y,λk s hk=>?_⟩;obtain⟨u,hu,hs⟩:=k2.get hk;have hkn:k<n:=by have:=(List.getElem?_eq_some_iff.1 hu).1;omega
   have k6:=k5 k hkn;rw[fF,fF,hu]at k6;exact⟨u,MF k6 (k3 u (List.mem_of_getElem? hu)),k3 u (List.mem_of_getElem? hu),hs⟩
 have hb:Rows.uptoBulk (DataW.slice ((List.range len).map D) ((List.range (m-len)).map λj=>D (len+j)))=Rows.uptoBulkAll ((List.range len).map D)+Rows.uptoBulkAll ((List.range (m-len)).map λj=>D (len+j))+1:=rfl;rw[hb];have:=Dt sz xs ((List.range len).map D) (by simp[SZ]) (λi x d e1 e2=>by
  have hi:i<len:=by have:=(List.getElem?_eq_some_iff.1 e1).1;omega
  simp[hi]at e2;subst e2;exact(hxs i x e1).2.1)
 omega⟩
class TU (P:Program) (T:TypeId) (k:outParam Nat):Prop where
 h:(match P.underlying T with|some (.struct fs)=>some fs.size|_=>none)=some k
theorem BL{k:Nat}[s:TU P T k]{H:Type}{enc:TypeId×Value->H}{W:World}{fuel:Nat}{cs:List Value}{d:DataW H}{p:List MemPlace}(h:DataW.trod enc P W 0 (λ_=>true) true fuel T cs=some (d,p))(BK:(d.weights P T).all (· <=reachBytes)=true):
  ∃(xs:List (DataW H×List MemPlace)) (n:Nat),d=.agg (xs.map (·.1))/\cs.length=P.cellsOf T/\xs.length=k/\∀(i off:Nat) (U:TypeId),AQ P T i off U->DataW.trod enc P W 0 (λ_=>true) true n U ((cs.drop off).take (P.cellsOf U))=xs[i]? /\∀x,xs[i]? =some x->(x.1.weights P U).all (· <=reachBytes)=true:=by
 have hs:=s.h;cases hT:P.underlying T with
 |none=>rw[hT]at hs;cases hs
 |some u=>
  rw[hT]at hs;cases u with
  |struct fs=>
   have hk:fs.size=k:=Option.some.inj hs;obtain⟨xs,n,_,hx,hl,hn,hf⟩:=DataW.trod_struct hT h;have hd:=(Prod.mk.inj hx).1;subst hd;refine⟨xs,n,Y,hl,by omega,λi off U F=>?_⟩;have hF:=F.h;rw[hT]at hF;simp only at hF;cases hg:fs[i]? with
   |none=>rw[hg]at hF;cases hF
   |some f=>
    rw[hg]at hF;simp only[Option.map_some,Option.some.injEq,Prod.mk.injEq]at hF;have:=hf i f hg;rw[hF.1,hF.2]at this;refine⟨this,λx hxi=>?_⟩;simp only[DataW.weights,hT]at BK;exact nx i BK (by rw[List.getElem?_map,Array.getElem?_toList,hg,Option.map_some,hF.2]) (by rw[List.getElem?_map,hxi];rfl)
  |_=>cases hs
class TV (P:Program) (T:TypeId):Prop where
 h:∀(w:World) (r:Reach) (base:Nat) (v:Value),Value.okWide P w r base T v->v.cells.toList=[v]
instance{E:TypeId}{n:Nat}[t:eI P T E n]:TV P T:=⟨λw r base v h=>by
 obtain⟨a,l,c,rfl⟩:=WideShapes.okWide_slice t.u h;rfl⟩
theorem GP{α:Type}{e:α->List SV}{ok:α->Prop}{sz:α->Nat}[o1:TV P T][o:A4 P T e ok sz]{H:Type}{enc:TypeId×Value->H}{W:World}{r:Reach}{base:Nat}{v:Value}{d:DataW H}{p:List MemPlace}
  (hv:Value.okWide P W r base T v) (h:DataW.Trod enc P W 0 (λ_=>true) true T v d p) (BK:(d.weights P T).all (· <=reachBytes)=true):∃x,ok x/\sz x<=Rows.uptoBulk d/\SV.ew (snap W) (e x) [v]:=by
 obtain⟨fuel,h⟩:=h;rw[o1.h W r base v hv]at h;obtain⟨x,h1,h2,_,h4⟩:=o.h enc W fuel _ d p h BK;exact⟨x,h1,h4,h2⟩
theorem MG{α:Type}{e:α->List SV}{ok:α->Prop}{sz:α->Nat}{k:Nat}[s:TU P T k][o:A4 P T e ok sz]{H:Type}{enc:TypeId×Value->H}{W:World}{r:Reach}{base:Nat}{v:Value}{d:DataW H}{p:List MemPlace}
  (hv:Value.okWide P W r base T v) (h:DataW.Trod enc P W 0 (λ_=>true) true T v d p) (BK:(d.weights P T).all (· <=reachBytes)=true):∃x,ok x/\sz x<=Rows.uptoBulk d/\(SV.agg (e x)).h (snap W) v:=by
 have hs:=s.h;cases hT:P.underlying T with
 |none=>rw[hT]at hs;cases hs
 |some u=>
  rw[hT]at hs;cases u with
  |struct fs=>
   obtain⟨cs,rfl,_⟩:=WideShapes.okWide_struct hT hv;obtain⟨fuel,h⟩:=h;obtain⟨x,h1,h2,_,h4⟩:=o.h enc W fuel _ d p h BK;exact⟨x,h1,h4,cs.toList,Y,h2⟩
  |_=>cases hs
end opn
theorem MH{f:FuncId}{vs:List Value}{svs:List SV}{W:World}(hp:Pure ah f svs (.v (.bool true)))(h:SV.ew (snap W) svs vs):
  Calls ah f ⟨vs⟩ W λe w'=>e=.returned (.bool true)/\Below W.heap.size W w':=
 (hp (snap W) W vs (ME W) h).mono λ_ _ ⟨v,_,h1,_,_,_,h2,h3⟩=>by
  have h2:v=.bool true:=h2;exact⟨by rw[h1,h2],h3⟩
end
section
open Go.Fw Go.RowKit Go.ChangeShapes Go.WideShapes Go.ChangeAt
theorem Xz:ownKnob Tryz.prog.godebug=none:=by kernel_rfl
theorem yH:laidOutB ah=true:=by kernel_rfl
instance:TU ah 34 2:=⟨by kernel_rfl⟩
set_option maxRecDepth 100000 in
instance:A4 ah 34 eZ (λ(z:Zr)=>(True/\(z.w.length*4<=140737488351232/\∀x1∈z.w,x1<4294967296))) (λ(z:Zr)=>(1+((z.w.map λx1=>1).sum+1)+1)):=⟨λenc W fuel cs d p h BK=>by
 obtain⟨xs,n,rfl,hl,hn,hf⟩:=BL h BK;have hl:cs.length=2:=hl.trans (by kernel_rfl)
 match xs,hn with
 |[⟨d0,p0⟩,⟨d1,p1⟩],_=>
 match cs,hl with
 |[c0,c1],_=>
 have t0:DataW.trod enc ah W 0 (λ_=>true) true n 4 [c0]=some (d0,p0):=(by have q:=(hf 0 _ _ inferInstance).1;rw[show Tryz.prog.cellsOf 4=1 by kernel_rfl]at q;exact q);obtain⟨x0,a0,b0,e0,s0⟩:=A4.h (P:=ah) (T:=4) (e:=eB) enc W n _ d0 p0 t0 ((hf 0 _ _ inferInstance).2 _ Y);have t1:DataW.trod enc ah W 0 (λ_=>true) true n 32 [c1]=some (d1,p1):=(by have q:=(hf 1 _ _ inferInstance).1;rw[show Tryz.prog.cellsOf 32=1 by kernel_rfl]at q;exact q);obtain⟨x1,a1,b1,e1,s1⟩:=A4.h (P:=ah) (T:=32) (e:=(eS 1 aY)) enc W n _ d1 p1 t1 ((hf 1 _ _ inferInstance).2 _ Y);refine⟨⟨x0,x1⟩,⟨a0,a1⟩,⟨b0.1,b1.1,aq⟩,?_,?_⟩
 ·intro v hv;simp only[List.mem_cons,List.not_mem_nil,or_false]at hv;rcases hv with rfl|rfl
  ·exact e0 _ (by simp)
  exact e1 _ (by simp)
 simp only[List.map_cons,List.map_nil,Rows.uptoBulk,Rows.uptoBulkAll];omega⟩
instance:TU ah 36 2:=⟨by kernel_rfl⟩
set_option maxRecDepth 100000 in
instance:A4 ah 36 eQ (λ(z:Qr)=>((True/\(z.num.w.length*4<=140737488351232/\∀x1∈z.num.w,x1<4294967296))/\(True/\(z.den.w.length*4<=140737488351232/\∀x1∈z.den.w,x1<4294967296)))) (λ(z:Qr)=>((1+((z.num.w.map λx1=>1).sum+1)+1)+(1+((z.den.w.map λx1=>1).sum+1)+1)+1)):=⟨λenc W fuel cs d p h BK=>by
 obtain⟨xs,n,rfl,hl,hn,hf⟩:=BL h BK;have hl:cs.length=4:=hl.trans (by kernel_rfl)
 match xs,hn with
 |[⟨d0,p0⟩,⟨d1,p1⟩],_=>
 match cs,hl with
 |[c0,c1,c2,c3],_=>
 have t0:DataW.trod enc ah W 0 (λ_=>true) true n 34 [c0,c1]=some (d0,p0):=(by have q:=(hf 0 _ _ inferInstance).1;rw[show Tryz.prog.cellsOf 34=2 by kernel_rfl]at q;exact q);obtain⟨x0,a0,b0,e0,s0⟩:=A4.h (P:=ah) (T:=34) (e:=eZ) enc W n _ d0 p0 t0 ((hf 0 _ _ inferInstance).2 _ Y);have t1:DataW.trod enc ah W 0 (λ_=>true) true n 34 [c2,c3]=some (d1,p1):=(by have q:=(hf 1 _ _ inferInstance).1;rw[show Tryz.prog.cellsOf 34=2 by kernel_rfl]at q;exact q);obtain⟨x1,a1,b1,e1,s1⟩:=A4.h (P:=ah) (T:=34) (e:=eZ) enc W n _ d1 p1 t1 ((hf 1 _ _ inferInstance).2 _ Y);refine⟨⟨x0,x1⟩,⟨a0,a1⟩,⟨b0.1,b0.2.1,b1.1,b1.2.1,aq⟩,?_,?_⟩
 ·intro v hv;simp only[List.mem_cons,List.not_mem_nil,or_false]at hv;rcases hv with rfl|rfl|rfl|rfl
  ·exact e0 _ (by simp)
  ·exact e0 _ (by simp)
  ·exact e1 _ (by simp)
  exact e1 _ (by simp)
 simp only[List.map_cons,List.map_nil,Rows.uptoBulk,Rows.uptoBulkAll];omega⟩
instance:TU ah 26 4:=⟨by kernel_rfl⟩
set_option maxRecDepth 100000 in
instance:A4 ah 26 Dl (λ(z:Lr)=>((-9223372036854775808<=z.vars/\z.vars<=9223372036854775807)/\(z.uw.length*24<=140737488351232/\∀x1∈z.uw,(x1.length*64<=140737488351232/\∀x2∈x1,((True/\(x2.num.w.length*4<=140737488351232/\∀x3∈x2.num.w,x3<4294967296))/\(True/\(x2.den.w.length*4<=140737488351232/\∀x3∈x2.den.w,x3<4294967296)))))/\(z.rows.length*24<=140737488351232/\∀x1∈z.rows,(x1.length*64<=140737488351232/\∀x2∈x1,((True/\(x2.num.w.length*4<=140737488351232/\∀x3∈x2.num.w,x3<4294967296))/\(True/\(x2.den.w.length*4<=140737488351232/\∀x3∈x2.den.w,x3<4294967296)))))/\(z.bounds.length*64<=140737488351232/\∀x1∈z.bounds,((True/\(x1.num.w.length*4<=140737488351232/\∀x2∈x1.num.w,x2<4294967296))/\(True/\(x1.den.w.length*4<=140737488351232/\∀x2∈x1.den.w,x2<4294967296)))))) (λ(z:Lr)=>(1+((z.uw.map λx1=>((x1.map λx2=>((1+((x2.num.w.map λx3=>1).sum+1)+1)+(1+((x2.den.w.map λx3=>1).sum+1)+1)+1)).sum+1)).sum+1)+((z.rows.map λx1=>((x1.map λx2=>((1+((x2.num.w.map λx3=>1).sum+1)+1)+(1+((x2.den.w.map λx3=>1).sum+1)+1)+1)).sum+1)).sum+1)+((z.bounds.map λx1=>((1+((x1.num.w.map λx2=>1).sum+1)+1)+(1+((x1.den.w.map λx2=>1).sum+1)+1)+1)).sum+1)+1)):=⟨λenc W fuel cs d p h BK=>by
 obtain⟨xs,n,rfl,hl,hn,hf⟩:=BL h BK;have hl:cs.length=4:=hl.trans (by kernel_rfl)
 match xs,hn with
 |[⟨d0,p0⟩,⟨d1,p1⟩,⟨d2,p2⟩,⟨d3,p3⟩],_=>
 match cs,hl with
 |[c0,c1,c2,c3],_=>
 have t0:DataW.trod enc ah W 0 (λ_=>true) true n 3 [c0]=some (d0,p0):=(by have q:=(hf 0 _ _ inferInstance).1;rw[show Tryz.prog.cellsOf 3=1 by kernel_rfl]at q;exact q);obtain⟨x0,a0,b0,e0,s0⟩:=A4.h (P:=ah) (T:=3) (e:=bG) enc W n _ d0 p0 t0 ((hf 0 _ _ inferInstance).2 _ Y);have t1:DataW.trod enc ah W 0 (λ_=>true) true n 23 [c1]=some (d1,p1):=(by have q:=(hf 1 _ _ inferInstance).1;rw[show Tryz.prog.cellsOf 23=1 by kernel_rfl]at q;exact q);obtain⟨x1,a1,b1,e1,s1⟩:=A4.h (P:=ah) (T:=23) (e:=(eS 1 (eS 4 eQ))) enc W n _ d1 p1 t1 ((hf 1 _ _ inferInstance).2 _ Y);have t2:DataW.trod enc ah W 0 (λ_=>true) true n 23 [c2]=some (d2,p2):=(by have q:=(hf 2 _ _ inferInstance).1;rw[show Tryz.prog.cellsOf 23=1 by kernel_rfl]at q;exact q);obtain⟨x2,a2,b2,e2,s2⟩:=A4.h (P:=ah) (T:=23) (e:=(eS 1 (eS 4 eQ))) enc W n _ d2 p2 t2 ((hf 2 _ _ inferInstance).2 _ Y);have t3:DataW.trod enc ah W 0 (λ_=>true) true n 24 [c3]=some (d3,p3):=(by have q:=(hf 3 _ _ inferInstance).1;rw[show Tryz.prog.cellsOf 24=1 by kernel_rfl]at q;exact q);obtain⟨x3,a3,b3,e3,s3⟩:=A4.h (P:=ah) (T:=24) (e:=(eS 4 eQ)) enc W n _ d3 p3 t3 ((hf 3 _ _ inferInstance).2 _ Y);refine⟨⟨x0,x1,x2,x3⟩,⟨a0,a1,a2,a3⟩,⟨b0.1,b1.1,b2.1,b3.1,aq⟩,?_,?_⟩
 ·intro v hv;simp only[List.mem_cons,List.not_mem_nil,or_false]at hv;rcases hv with rfl|rfl|rfl|rfl
  ·exact e0 _ (by simp)
  ·exact e1 _ (by simp)
  ·exact e2 _ (by simp)
  exact e3 _ (by simp)
 simp only[List.map_cons,List.map_nil,Rows.uptoBulk,Rows.uptoBulkAll];omega⟩
end
end Go.Proofs.YtfoldppidpmchaaGreat
namespace Go.Fw
section
open Go.RowKit
theorem rm{S:AS}(i o k:Nat)(E0:TypeId)(sz:Nat){T:TypeId}{cells:List AV}(hb:S.b i=some ⟨T,cells⟩)(hc:cells[o]? =some (.sv (.v (.slice none 0 0))))(hk:S.r k=.un)(TD:k<1000):
  pP S ((AS.cq [(k,.live ⟨E0,sz,0,[]⟩)] S).ku i ⟨T,cells.set o (.row k)⟩):=by
 rintro C a w ⟨E,h⟩;have h1:=h.newRow hk TD [] none (.inl ⟨Y,Y⟩) (R':=⟨E0,sz,0,[]⟩) (World.ownsRow_nil w 0 E0 sz) (vs':=[]) trivial (.inl Y) (sQ w none);have vN:(AS.cq [(k,.live ⟨E0,sz,0,[]⟩)] S).b i=some ⟨T,cells⟩:=hb;have hrk:(AS.cq [(k,.live ⟨E0,sz,0,[]⟩)] S).r k≠ .un:=by
  show(AS.pO S k _).r k≠_;rw[AS.gi];simp
 refine⟨_,{h1 with wf:=?_,bx:=λj B hB=>?_,inj:=λj j' B B' hB iT e=>?_,rx:=λj R hR=>?_}⟩
 ·refine⟨λt j hj=>?_,h1.wf.tr,λj B hB x hx m hm=>?_,λj B hB x hx m hm=>?_⟩
  ·obtain⟨B,hB⟩:=h1.wf.tb t j hj;by_cases e:j=i
   ·subst e;exact⟨_,AS.dg _ _ _⟩
   exact⟨B,by rw[AS.bR _ _ _ _ e];exact hB⟩
  ·have key:∃B',(AS.cq [(k,.live ⟨E0,sz,0,[]⟩)] S).b m=some B':=by
    by_cases e:j=i
    ·subst e;rw[AS.dg]at hB;cases hB;rcases List.mem_or_eq_of_mem_set hx with hx|rfl
     ·exact h1.wf.bb j _ vN x hx m hm
     exact hm.elim
    rw[AS.bR _ _ _ _ e]at hB;exact h1.wf.bb j B hB x hx m hm
   obtain⟨B',iT⟩:=key;by_cases e:m=i
   ·subst e;exact⟨_,AS.dg _ _ _⟩
   exact⟨B',by rw[AS.bR _ _ _ _ e];exact iT⟩
  by_cases e:j=i
  ·subst e;rw[AS.dg]at hB;cases hB;rcases List.mem_or_eq_of_mem_set hx with hx|rfl
   ·exact h1.wf.br j _ vN x hx m hm
   cases hm;exact hrk
  rw[AS.bR _ _ _ _ e]at hB;exact h1.wf.br j B hB x hx m hm
 ·by_cases e:j=i
  ·subst e;rw[AS.dg]at hB;cases hB;obtain⟨q1,q2,q3,vs,q4,q5⟩:=h1.bx j _ vN;refine⟨q1,q2,q3,vs,q4,?_⟩;obtain⟨x,hx,hv⟩:=q5.get hc;have hv:x=.slice none 0 0:=hv;have:=dx.set (i:=o) (s:=.row k) (x:=x) q5 (by
    show x=if k=k then _ else _;rw[if_pos rfl];exact hv)
   have he:vs.set o x=vs:=by
    apply List.ext_getElem?;intro n;rw[List.getElem?_set];split
    ·rename_i hn;subst hn;rw[hx];split<;>rename_i hl
     ·rfl
     have:=(List.getElem?_eq_some_iff.1 hx).1;exact absurd this hl
    rfl
   rwa[he]at this
  rw[AS.bR _ _ _ _ e]at hB;exact h1.bx j B hB
 ·have old:∀n B,((AS.cq [(k,.live ⟨E0,sz,0,[]⟩)] S).ku i ⟨T,cells.set o (.row k)⟩).b n=some B->∃B',(AS.cq [(k,.live ⟨E0,sz,0,[]⟩)] S).b n=some B':=λn B hn=>by
   by_cases e:n=i
   ·subst e;exact⟨_,vN⟩
   rw[AS.bR _ _ _ _ e]at hn;exact⟨B,hn⟩
  obtain⟨B1,p1⟩:=old j B hB;obtain⟨B2,p2⟩:=old j' B' iT;exact h1.inj j j' B1 B2 p1 p2 e
 obtain⟨p1,p2⟩:=h1.rx j R hR;refine⟨p1,λg hg=>?_⟩;obtain⟨p3,p4,p5,p6⟩:=p2 g hg;refine⟨p3,p4,p5,λn B hn=>?_⟩;by_cases e:n=i
 ·subst e;exact p6 n _ vN
 rw[AS.bR _ _ _ _ e]at hn;exact p6 n B hn
end
section
open Go.RowKit
section part
variable {P:Program}{C:Ctx}{ops:Array Oper}{acts:List Ac}{S:AS}
def uy(ops:Array Oper)(m:Nat)(acts:List Ac):Bool:=
 let b:=Region.before ops
 (acts.length==m)&&(decide (m<=ops.size))&&
 (ops.toList.zipIdx.all λ(o,j)=>o.after.all λe=>!Region.binds .any e||decide (e.on<j))&&
 (acts.zipIdx.all λ(y,j)=>acts.zipIdx.all λ(x,i)=>!(decide (i<j))|| !(x.kj y)||(b.getD j 0).testBit i)&&
 ((List.range ops.size).all λj=>!(decide (m<=j))||(List.range j).all λi=>(b.getD j 0).testBit i)
theorem pZ{m:Nat}(h:uy ops m acts=true):acts.length=m/\m<=ops.size/\
  (∀(j:Nat) (o:Oper),ops[j]? =some o->∀e∈o.after,Region.binds .any e=true->e.on<j)/\
  (∀(i j:Nat) (x y:Ac),acts[i]? =some x->acts[j]? =some y->i<j->x.kj y=true->((Region.before ops).getD j 0).testBit i=true)/\
  (∀i j:Nat,m<=j->j<ops.size->i<j->((Region.before ops).getD j 0).testBit i=true):=by
 simp only[uy,Bool.and_eq_true,beq_iff_eq,List.all_eq_true,decide_eq_true_eq]at h;obtain⟨⟨⟨⟨h1,h0⟩,h2⟩,h3⟩,h4⟩:=h;refine⟨h1,h0,?_,?_,?_⟩
 ·intro j o ho e he hb;have:=h2 (o,j) (List.mem_zipIdx_iff_getElem?.2 (by simpa using ho));simp only[Array.all_eq_true_iff_forall_mem]at this;have:=this e he;simpa[hb]using this
 ·intro i j x y hx hy hij hc;have:=h3 (y,j) (List.mem_zipIdx_iff_getElem?.2 (by simpa using hy)) (x,i) (List.mem_zipIdx_iff_getElem?.2 (by simpa using hx));simpa[hij,hc]using this
 intro i j hm hj hij;have:=h4 j (List.mem_range.2 hj);simp only[hm,decide_true,Bool.not_true,Bool.false_or,List.all_eq_true]at this;exact this i (List.mem_range.2 hij)
theorem jD(listed:Array Bool)(i:Nat)(hs:listed.size=ops.size)(hi:i<ops.size):listed.getD i true=listed.getD i false:=by
 rw[Array.getD_eq_getD_getElem?,Array.getD_eq_getD_getElem?];rw[Array.getElem?_eq_getElem (by omega)];rfl
theorem yI(ue:∀(j:Nat) (o:Oper),ops[j]? =some o->∀e∈o.after,Region.binds .any e=true->e.on<j)(listed:Array Bool)(hs:listed.size=ops.size)(hr:Region.ready .any ops listed=[]):∀i,i<ops.size->listed.getD i false=true:=by
 intro i
 induction i using Nat.strongRecOn with
 |_ i ih=>
  intro hi;cases EY:listed.getD i false with
  |true=>rfl
  |false=>
   exfalso;have:i∈Region.ready .any ops listed:=by
    simp only[Region.ready,List.mem_filter,List.mem_range];refine⟨hi,?_⟩;rw[jD listed i hs hi,EY,Array.getElem?_eq_getElem hi];simp only[Bool.not_false,Bool.true_and,Option.map_some,Option.getD_some,Array.all_eq_true_iff_forall_mem];intro e he;cases hb:Region.binds .any e with
    |false=>rfl
    |true=>
     have hlt:=ue i ops[i] (Array.getElem?_eq_getElem hi) e he hb;rw[ih e.on hlt (by omega)];rfl
   rw[hr]at this;simp at this
theorem wV{listed:Array Bool}(hs:listed.size=ops.size)(hD:Down ops (λi=>listed.getD i false)){i:Nat}(hi:i∈Region.ready .any ops listed):
  ∃h:i<ops.size,listed.getD i false=false/\(∀m,(listed.setIfInBounds i true).getD m false=if m=i then true else listed.getD m false)/\Down ops (λm=>(listed.setIfInBounds i true).getD m false):=by
 simp only[Region.ready,List.mem_filter,List.mem_range,Bool.and_eq_true,Bool.not_eq_true']at hi;obtain⟨hi,EY,hpre⟩:=hi;have Af:listed.getD i false=false:=by rw[<-jD listed i hs hi];exact EY
 have ho:ops[i]? =some ops[i]:=Array.getElem?_eq_getElem hi;have IX:∀e∈ops[i].after,Region.binds .any e=true->listed.getD e.on false=true:=by
  rw[ho]at hpre;simp only[Option.map_some,Option.getD_some,Array.all_eq_true_iff_forall_mem]at hpre;intro e he hb;have:=hpre e he;simpa[hb]using this
 have dN:∀m,(listed.setIfInBounds i true).getD m false=if m=i then true else listed.getD m false:=by
  intro m;rw[Array.getD_eq_getD_getElem?,Array.getElem?_setIfInBounds];by_cases hm:m=i
  ·subst hm;simp[hs,hi]
  rw[if_neg (by omega),if_neg hm,Array.getD_eq_getD_getElem?]
 refine⟨hi,Af,dN,?_⟩;intro j o hj hl e he hb;simp only[dN]at hl⊢;by_cases hji:j=i
 ·subst hji;have:o=ops[j]:=by rw[ho]at hj;exact(Option.some.inj hj).symm
  subst this;have:=IX e he hb;split<;>simp_all
 rw[if_neg hji]at hl;have:=hD j o hj hl e he hb;split<;>simp_all
theorem BM{m:Nat}(ue:∀(j:Nat) (o:Oper),ops[j]? =some o->∀e∈o.after,Region.binds .any e=true->e.on<j)
  (Du:∀i j:Nat,m<=j->j<ops.size->i<j->((Region.before ops).getD j 0).testBit i=true) {Q:Exit->Act->World->Prop} {R:AS->Prop} (hQ:∀S a w,R S->S.holds C a w->Q .normal a w):
  ∀(fuel k:Nat) (listed:Array Bool) (a:Act) (w:World) (S:AS) (acc:List Ac),m<=k->k<=ops.size->listed.size=ops.size->(∀i,i<ops.size->listed.getD i false=decide (i<k))->ops.size-k<=fuel->Down ops (λi=>listed.getD i false)->
   RunT P C ops true (λ_ S=>R S) (ops.toList.drop k) acc S->S.holds C a w->wpAnyIn (Fr C.ro) 0 P .any ops Q fuel listed a w:=by
 intro fuel
 induction fuel with
 |zero=>
  intro k listed a w S acc hm hk hs hl hf hD hR hh;obtain rfl:k=ops.size:=by omega
  rw[show ops.toList.drop ops.size=[] by simp]at hR;refine⟨?_,hQ S a w hR hh⟩;simp only[Region.ready,List.filter_eq_nil_iff,List.mem_range];intro i hi;rw[jD listed i hs hi,hl i hi,decide_eq_true hi];simp
 |succ fuel ih=>
  intro k listed a w S acc hm hk hs hl hf hD hR hh;refine⟨λhr=>?_,λi hi=>?_⟩
  ·have hall:=yI ue listed hs hr;obtain rfl:k=ops.size:=by
    rcases Nat.lt_or_ge k ops.size with h|h
    ·have:=hall k h;rw[hl k h]at this;simp at this
    omega
   rw[show ops.toList.drop ops.size=[] by simp]at hR;exact hQ S a w hR hh
  obtain⟨hi,EY,dN,L8⟩:=wV hs hD hi;have L9:i=k:=by
   have h1:¬i<k:=by rw[hl i hi]at EY;simpa using EY
   rcases Nat.lt_or_ge k i with h|h
   ·have hb:=Du k i (by omega) hi h;have:=jm L8 i k hb (by simp[dN]);rw[dN,if_neg (by omega),hl k (by omega)]at this;simp at this
   omega
  subst L9;have ho:ops[i]? =some ops[i]:=Array.getElem?_eq_getElem hi;have TW:ops.toList.drop i=ops[i]::ops.toList.drop (i+1):=by
   rw[List.drop_eq_getElem_cons (by simpa using hi)];simp
  rw[TW]at hR;have next:∀(S':AS) (acc':List Ac) (a':Act) (w':World),RunT P C ops true (λ_ S=>R S) (ops.toList.drop (i+1)) acc' S'->S'.holds C a' w'->wpAnyIn (Fr C.ro) 0 P .any ops Q fuel (listed.setIfInBounds i true) a' w':=by
   intro S' acc' a' w' h1 h2;refine ih (i+1) _ a' w' S' acc' (by omega) hi (by simp[hs]) (λj hj=>?_) (by omega) L8 h1 h2;rw[dN];by_cases hji:j=i
   ·rw[if_pos hji];simp[hji]
   rw[if_neg hji,hl j hj,decide_eq_decide];omega
  rcases hR with⟨rs,rb,rr,e,hop,JA⟩|⟨_,Post,hop,JA⟩
  ·exact hop S rfl (λ_ _=>rfl) (λ_ _=>rfl) (λ_ _=>rfl) i a w _ Q ho hh (λa' w' Ql=>next _ _ a' w' JA Ql)
  exact hop i a w _ Q ho hh (λS' a' w' hp Ql=>next S' [] a' w' (JA S' hp) Ql)
theorem BN{m:Nat}(hT:IU P C ops acts S)(Ae:uy ops m acts=true){Q:Exit->Act->World->Prop}
  (hQ:∀(fuel:Nat) (listed:Array Bool) a w,listed.size=ops.size->(∀i,i<ops.size->listed.getD i false=decide (i<m))->ops.size-m<=fuel->Down ops (λi=>listed.getD i false)->(ov S (bV acts) (λ_=>true) m).holds C a w->wpAnyIn (Fr C.ro) 0 P .any ops Q fuel listed a w):
  ∀(fuel:Nat) (listed:Array Bool) (a:Act) (w:World),listed.size=ops.size->IV ops.size listed<=fuel->Down ops (λi=>listed.getD i false)->(∀i,listed.getD i false=true->i<m)->
   (ov S (bV acts) (λi=>listed.getD i false) m).holds C a w->wpAnyIn (Fr C.ro) 0 P .any ops Q fuel listed a w:=by
 obtain⟨hlen,hmn,ue,vK,Du⟩:=pZ Ae;have whole:∀(fuel:Nat) (listed:Array Bool) (a:Act) (w:World),listed.size=ops.size->IV ops.size listed<=fuel->Down ops (λi=>listed.getD i false)->(∀i,listed.getD i false=true->i<m)->
   (ov S (bV acts) (λi=>listed.getD i false) m).holds C a w->(∀i,i<m->listed.getD i false=true)->wpAnyIn (Fr C.ro) 0 P .any ops Q fuel listed a w:=by
  intro fuel listed a w hs hu hD hL hh hall;refine hQ fuel listed a w hs (λi hi=>?_) ?_ hD ?_
  ·by_cases h:i<m
   ·rw[hall i h,decide_eq_true h]
   rw[decide_eq_false h];cases e:listed.getD i false with
   |false=>rfl
   |true=>exact absurd (hL i e) h
  ·have hsub:(List.range ops.size).filter (λi=>!decide (i<m))=(List.range ops.size).filter λi=>!listed.getD i true:=by
    apply List.filter_congr;intro i hi;have hi:=List.mem_range.1 hi;rw[jD listed i hs hi];by_cases h:i<m
    ·rw[hall i h,decide_eq_true h]
    rw[decide_eq_false h];cases e:listed.getD i false with
    |false=>rfl
    |true=>exact absurd (hL i e) h
   have QO:∀n,m<=n->((List.range n).filter (λi=>!decide (i<m))).length=n-m:=by
    intro n
    induction n with
    |zero=>intro h;simp
    |succ n ih=>
     intro h;rw[List.range_succ,List.filter_append,List.length_append];rcases Nat.lt_or_ge n m with q|q
     ·obtain rfl:m=n+1:=by omega
      have h1:((List.range n).filter (λi=>!decide (i<n+1)))=[]:=by
       rw[List.filter_eq_nil_iff];intro i hi;have:=List.mem_range.1 hi;simp;omega
      rw[h1];simp
     rw[ih q,List.filter_cons,decide_eq_false (by omega:¬n<m)];simp;omega
   have h2:IV ops.size listed=ops.size-m:=by unfold IV;rw[<-hsub,QO _ hmn]
   omega
  rwa[kQ S (bV acts) (L:=λi=>listed.getD i false) (L':=λ_=>true) m hall]at hh
 intro fuel
 induction fuel with
 |zero=>
  intro listed a w hs hu hD hL hh;refine whole 0 listed a w hs hu hD hL hh (λi hi=>?_);cases EY:listed.getD i false with
  |true=>rfl
  |false=>
   exfalso;have hm:i∈(List.range ops.size).filter λi=>!listed.getD i true:=by
    rw[List.mem_filter];exact⟨List.mem_range.2 (by omega),by rw[jD listed i hs (by omega),EY];rfl⟩
   have:0<IV ops.size listed:=List.length_pos_of_mem hm;omega
 |succ fuel ih=>
  intro listed a w hs hu hD hL hh;by_cases hall:∀i,i<m->listed.getD i false=true
  ·exact whole _ listed a w hs hu hD hL hh hall
  have hex:∃i,i<m/\listed.getD i false=false:=Classical.byContradiction (λhc=>hall (λi hi=>by
   cases e:listed.getD i false with
   |true=>rfl
   |false=>exact absurd ⟨i,hi,e⟩ hc))
  obtain⟨i0,On,SX⟩:=hex;refine⟨λhr=>?_,λi hi=>?_⟩
  ·have:=yI ue listed hs hr i0 (by omega);rw[SX]at this;cases this
  have hi':=hi;obtain⟨hi,Af,dN,L8⟩:=wV hs hD hi;have ho:ops[i]? =some ops[i]:=Array.getElem?_eq_getElem hi;have him:i<m:=by
   rcases Nat.lt_or_ge i m with h|h
   ·exact h
   have hb:=Du i0 i h hi (by omega);have:=jm L8 i i0 hb (by simp[dN]);rw[dN,if_neg (by omega),SX]at this;cases this
  have L7:i<acts.length:=by omega
  have hx:acts[i]? =some acts[i]:=List.getElem?_eq_getElem L7;have Qk:bV acts i=acts[i].e:=by simp[bV,L7]
  have later:∀k,i<k->listed.getD k false=true->(acts[i]).kj ((acts[k]?).getD ⟨[],[],[],⟨none,[],[]⟩⟩)=false:=by
   intro k hk hlk;have hkn:k<m:=hL k hlk;have hka:acts[k]? =some acts[k]:=List.getElem?_eq_getElem (by omega);rw[hka,Option.getD_some];cases hc:(acts[i]).kj acts[k]with
   |false=>rfl
   |true=>
    have hb:=vK i k _ _ hx hka hk hc;have:=jm hD k i hb hlk;simp only[Af]at this;exact absurd this (by simp)
  have Br:∀k,k<i->listed.getD k false=false->((acts[k]?).getD ⟨[],[],[],⟨none,[],[]⟩⟩).kj acts[i]=false:=by
   intro k hk hlk;have hka:acts[k]? =some acts[k]:=List.getElem?_eq_getElem (by omega);rw[hka,Option.getD_some];cases hc:(acts[k]).kj acts[i]with
   |false=>rfl
   |true=>
    have hb:=vK k i _ _ hka hx hk hc;have:=jm L8 i k hb (by simp[dN]);rw[dN,if_neg (by omega),hlk]at this;exact absurd this (by simp)
  have EZ:∀k,((acts[k]?).getD ⟨[],[],[],⟨none,[],[]⟩⟩).e=bV acts k:=by
   intro k;unfold bV;cases acts[k]? <;>rfl
  have gB:∀{x y:Ac},x.kj y=false->(∀d∈x.e.ks,d∉y.rs/\d∉y.e.ks)/\(∀d∈y.e.ks,d∉x.rs)/\(∀d∈x.e.kb,d∉y.rb/\d∉y.e.kb)/\(∀d∈y.e.kb,d∉x.rb)/\(∀d∈x.e.kr,d∉y.rr/\d∉y.e.kr)/\(∀d∈y.e.kr,d∉x.rr):=by
   intro x y h;simp only[Ac.kj,Bool.or_eq_false_iff]at h;exact⟨eE h.1.1.1.1.1,λd hd=>(eE h.1.1.1.1.2 d hd).1,eE h.1.1.1.2,λd hd=>(eE h.1.1.2 d hd).1,eE h.1.2,λd hd=>(eE h.2 d hd).1⟩
  have look:∀{α:Type} (get:AS->Nat->α) (wr:nk->Nat->Option α) (dN:∀S e s,get (S.app e) s=(wr e s).getD (get S s)) (rk:Ac->List Nat) (wk:nk->List Nat)
    (hk:∀e s,wr e s≠none->s∈wk e) (c1:∀x y:Ac,x.kj y=false->(∀d∈wk x.e,d∉rk y)/\(∀d∈wk y.e,d∉rk x)),∀s∈rk acts[i],
    get (ov S (bV acts) (λq=>listed.getD q false) m) s=get (ov S (bV acts) (λ_=>true) i) s:=by
   intro α get wr dN rk wk hk c1 s Ag;rw[Gx get wr dN S (bV acts) _ s i m (by omega)]
   ·refine C5 get wr dN S (bV acts) _ _ s i λm hm hw=>?_;cases AP:listed.getD m false with
    |true=>rfl
    |false=>
     have:=(c1 _ _ (Br m hm AP)).1 s (by rw[EZ];exact hk _ _ hw);exact absurd Ag this
   intro m hm1 WI AP;cases hw:wr (bV acts m) s with
   |none=>rfl
   |some x=>
    exfalso;rcases Nat.lt_or_ge i m with h|h
    ·have:=(c1 _ _ (later m h AP)).2 s (by rw[EZ];exact hk _ _ (by rw[hw];simp));exact this Ag
    obtain rfl:m=i:=by omega
    simp only[Af]at AP;exact absurd AP (by simp)
  refine hT i ops[i] acts[i] ho hx (ov S (bV acts) (λq=>listed.getD q false) m) (by rw[IT,IT]) ?_ ?_ ?_ i a w _ Q ho hh ?_
  ·exact look AS.t wT AS.C1 Ac.rs nk.ks (λ_ _ h=>Bq h) (λx y h=>⟨λd hd=>((gB h).1 d hd).1,(gB h).2.1⟩)
  ·exact look AS.b (λe=>nV e.bx) AS.C2 Ac.rb nk.kb (λ_ _ h=>nW h) (λx y h=>⟨λd hd=>((gB h).2.2.1 d hd).1,(gB h).2.2.2.1⟩)
  ·exact look AS.r (λe=>fE e.rw) AS.C3 Ac.rr nk.kr (λ_ _ h=>nX h) (λx y h=>⟨λd hd=>((gB h).2.2.2.2.1 d hd).1,(gB h).2.2.2.2.2⟩)
  intro a' w' Ql;refine ih (listed.setIfInBounds i true) a' w' (by simp[hs]) ?_ L8 ?_ ?_
  ·have:=IW hi hs (by rw[jD listed i hs hi];exact Af);omega
  ·intro k hk;rw[dN]at hk;by_cases L9:k=i
   ·omega
   rw[if_neg L9]at hk;exact hL k hk
  have heq:ov S (bV acts) (λq=>(listed.setIfInBounds i true).getD q false) m=(ov S (bV acts) (λq=>listed.getD q false) m).app acts[i].e:=by
   have WJ:∀k,k<=i->ov S (bV acts) (λq=>(listed.setIfInBounds i true).getD q false) k=ov S (bV acts) (λq=>listed.getD q false) k:=λk hk=>
    kQ S (bV acts) k (λm hm=>by rw[dN,if_neg (by omega)])
   have step:∀k,i<k->k<=m->ov S (bV acts) (λq=>(listed.setIfInBounds i true).getD q false) k=(ov S (bV acts) (λq=>listed.getD q false) k).app acts[i].e:=by
    intro k hk hkn
    induction k with
    |zero=>omega
    |succ k WK=>
     by_cases L9:k=i
     ·subst L9;show(if(listed.setIfInBounds k true).getD k false then _ else _)=AS.app (if listed.getD k false then _ else _) _;rw[dN,if_pos Y,if_pos Y,Af,WJ k (Nat.le_refl _),Qk];rfl
     have ih2:=WK (by omega) (by omega);show(if(listed.setIfInBounds i true).getD k false then(ov S (bV acts) (λq=>(listed.setIfInBounds i true).getD q false) k).app (bV acts k)else ov S (bV acts) (λq=>(listed.setIfInBounds i true).getD q false) k)=AS.app (if listed.getD k false then(ov S (bV acts) (λq=>listed.getD q false) k).app (bV acts k)else ov S (bV acts) (λq=>listed.getD q false) k) _;rw[dN,if_neg L9,ih2];cases hlk:listed.getD k false with
     |false=>rfl
     |true=>
      rw[if_pos Y,if_pos rfl];have hc:=gB (later k (by omega) hlk);rw[EZ]at hc;have two:∀{α:Type} (get:AS->Nat->α) (wr:nk->Nat->Option α) (dN:∀S e s,get (S.app e) s=(wr e s).getD (get S s)) (wk:nk->List Nat) (hk:∀e s,wr e s≠none->s∈wk e)
        (c1:∀d∈wk acts[i].e,d∉wk (bV acts k)) (T:AS) (s:Nat),get ((T.app acts[i].e).app (bV acts k)) s=get ((T.app (bV acts k)).app acts[i].e) s:=by
       intro α get wr dN wk hk c1 T s;rw[dN,dN,dN,dN];cases h1:wr acts[i].e s with
       |none=>rfl
       |some x=>
        cases h2:wr (bV acts k) s with
        |none=>rfl
        |some y=>exact absurd (hk _ s (by rw[h2];simp)) (c1 s (hk _ s (by rw[h1];simp)))
      refine AS.ext' (by simp[AS.IS]) (λs=>?_) (λs=>?_) (λs=>?_) (by simp[AS.AO]) (by simp[AS.AO])
      ·exact two AS.t wT AS.C1 nk.ks (λ_ _ h=>Bq h) (λd hd=>(hc.1 d hd).2) _ s
      ·exact two AS.b (λe=>nV e.bx) AS.C2 nk.kb (λ_ _ h=>nW h) (λd hd=>(hc.2.2.1 d hd).2) _ s
      exact two AS.r (λe=>fE e.rw) AS.C3 nk.kr (λ_ _ h=>nX h) (λd hd=>(hc.2.2.2.2.1 d hd).2) _ s
   exact step m him (Nat.le_refl _)
  rw[heq];exact Ql
end part
theorem HX{P:Program}{C:Ctx}{ops:Array Oper}{K:List Ac->AS->Prop}(rest:List Oper)(S:AS)(h:RunT P C ops false K rest [] S):
  ∃xs:List Ac,xs.length=rest.length/\(∀(i:Nat) (o:Oper) (x:Ac),rest[i]? =some o->xs[i]? =some x->L6 P C ops o x.rs x.rb x.rr (ov S (bV xs) (λ_=>true) i) x.e)/\K xs.reverse (ov S (bV xs) (λ_=>true) rest.length):=by
 obtain⟨xs,h1,h2,h3⟩:=vL rest [] S h;exact⟨xs,h1,h2,by simpa using h3⟩
theorem yJ{P:Program}{C:Ctx}{id:Nat}{ops:Array Oper}{S:AS}{Q:Exit->AS->Prop}(m:Nat)(hm:P.follows .mixedOrders=true)
  (h:RunT P C ops false (λacc S=>uy ops m acc.reverse=true/\RunT P C ops true (λ_ S=>Q .normal S) (ops.toList.drop m) [] S) (ops.toList.take m) [] S):Ok P C (.region id ops true) S Q:=λa w hs=>by
 obtain⟨xs,hl,hxs,Ae,hq⟩:=HX _ _ h;rw[List.reverse_reverse]at Ae;obtain⟨hlen,hmn,ue,vK,Du⟩:=pZ Ae;have AP:(ops.toList.take m).length=m:=by simp;omega
 rw[AP]at hq;refine wpIn_region_any hm ?_;refine BN (acts:=xs) (S:=S) (m:=m) (λi o x ho hx=>hxs i o x ?_ hx) Ae (λfuel listed a w h1 h2 h3 h4 h5=>BM (m:=m) ue Du (R:=λS=>Q .normal S) (λS a w hR hh=>⟨S,hR,hh⟩) fuel m listed a w _ [] (Nat.le_refl _) hmn h1 h2 h3 h4 hq h5) ops.size _ a _ (by simp) ?_ ?_ ?_ ?_
 ·have hi:i<m:=by
   have:=(List.getElem?_eq_some_iff.1 hx).1;omega
  rw[List.getElem?_take_of_lt hi];simpa using ho
 ·have:=List.length_filter_le (λi=>!(Array.replicate ops.size false).getD i true) (List.range ops.size);simpa[IV]using this
 ·intro j o _ hj;exfalso;simp only[Array.getD_eq_getD_getElem?,Array.getElem?_replicate]at hj;split at hj<;>simp at hj
 ·intro i hi;exfalso;simp only[Array.getD_eq_getD_getElem?,Array.getElem?_replicate]at hi;split at hi<;>simp at hi
 rw[kQ S (bV xs) (L':=λ_=>false) m (λi hi=>by rw[Array.getD_eq_getD_getElem?,Array.getElem?_replicate];split<;>rfl)];have:∀k,ov S (bV xs) (λ_=>false) k=S:=by
  intro k;induction k with
  |zero=>rfl
  |succ k ih=>simpa[ov]using ih
 rw[this];exact hs.drew
end
end Go.Fw
namespace Go.Fw.Z
section
open Go.Fw
theorem T{d n:Nat}(h:Nat.ble (d+1) n=true:=by exact rfl):d<n:=tl h
theorem bE{α β:Type}{x:Option α}{f:α->Option β}{r:β}{G:Prop}(h:Option.bind x f=some r)(k:∀a,x=some a->f a=some r->G):G:=by obtain⟨a,h1,h2⟩:=bind_some h;exact k a h1 h2
theorem lE{α β:Type}{v:α}{f:α->Option β}{r:β}{G:Prop}(h:Option.bind (some v) f=some r)(k:∀a,v=a->f a=some r->G):G:=k v Y h
theorem bS{α β:Type}{x:Option α}{f:α->Option β}{r:β}(h:Option.bind x f=some r):∃a,x=some a/\f a=some r:=bind_some h
theorem F{α:Type}{x y:Option α}{r:α}(h:(bif false then x else y)=some r):y=some r:=h
theorem V{α:Type}{x y:Option α}{r:α}(h:(bif true then x else y)=some r):x=some r:=h
theorem O{α:Type}{a b:α}(h:some a=some b):a=b:=Option.some.inj h
def wS(l:List (Nat×Nat))(i:Nat):Nat:=((l.find? λp=>Nat.beq p.1 i).map (·.2)).getD i
def V1(l:List (Nat×Nat)):AV->AV
 |.row i=>.row (wS l i)
 |.lM i o n=>.lM (wS l i) o n
 |x=>x
def V3:AV->Bool
 |.gx _ _=>false
 |.cmp _ _=>false
 |_=>true
theorem avi(l:List (Nat×Nat)){x:AV}(h:V3 x=true):HK (wS l) (V1 l x) x:=by
 cases x with
 |sv s=>exact .sv au
 |ptr i o=>exact .ptr
 |CZ i o n c=>exact .CZ
 |row i=>exact .row Y
 |gx i k=>cases h
 |lM i o n=>exact .lM Y
 |fe g js=>exact .fe
 |cmp t js=>cases h
theorem TX(l:List (Nat×Nat)):∀{xs:List AV},(xs.all V3)=true->E8 (wS l) (xs.map (V1 l)) xs
 |[],_=>trivial
 |x::xs,h=>by simp only[List.all_cons,Bool.and_eq_true]at h;exact⟨avi l h.1,TX l h.2⟩
theorem wR(l:List (Nat×Nat)){S:AS}{n:Nat}{ts:List (Nat×AV)}{bs:List (Nat×nj)}{rs:List (Nat×Row)}{g:Nat}{go:Bool}
  (ht:ts.map (λp=>S.t p.1)=ts.map (λp=>V1 l p.2):=by exact rfl) (hb:bs.map (λp=>S.b p.1)=bs.map (λp=>some ⟨p.2.T,p.2.cells.map (V1 l)⟩):=by exact rfl) (hr:rs.map (λp=>S.r (wS l p.1))=rs.map (λp=>.live p.2):=by exact rfl)
  (hn:S.n=n:=by exact rfl) (hg:S.g=g:=by exact rfl) (ER:S.go=go:=by exact rfl)
  (hwf:((ts.all λp=>p.2.nL bs rs)&&(bs.all λp=>p.2.cells.all λx=>x.nL bs rs))=true:=by exact rfl) (hσ:((rs.all λp=>rs.all λq=>!(Nat.beq (wS l p.1) (wS l q.1))||Nat.beq p.1 q.1))=true:=by exact rfl)
  (hno:((ts.all λp=>V3 p.2)&&(bs.all λp=>p.2.cells.all V3))=true:=by exact rfl) (hl:(l.all λp=>Nat.ble (p.1+1) 1000)=true:=by exact rfl):pP S (AS.cu n ts bs rs g go):=by
 simp only[Bool.and_eq_true,List.all_eq_true]at hno;refine c8 (wS l) hn hg ER hwf hσ ?_ ?_ ?_ ?_
 ·clear hwf hb hr;obtain⟨h,-⟩:=hno
  induction ts with
  |nil=>trivial
  |cons p ts ih=>
   obtain⟨k,x⟩:=p;simp only[List.map_cons,List.cons.injEq]at ht;refine⟨?_,ih ht.2 (λq hq=>h q (by simp[hq]))⟩;show HK _ (S.t k) x;rw[ht.1];exact avi l (h (k,x) (by simp))
 ·clear hwf ht hr;obtain⟨-,h⟩:=hno
  induction bs with
  |nil=>trivial
  |cons p bs ih=>
   obtain⟨k,x⟩:=p;simp only[List.map_cons,List.cons.injEq]at hb;exact⟨⟨_,hb.1,TX l (List.all_eq_true.2 (h (k,x) (by simp)))⟩,ih hb.2 (λq hq=>h q (by simp[hq]))⟩
 ·clear hwf ht hb hσ
  induction rs with
  |nil=>trivial
  |cons p rs ih=>
   obtain⟨k,x⟩:=p;simp only[List.map_cons,List.cons.injEq]at hr;exact⟨⟨_,hr.1,eW.refl _⟩,ih hr.2⟩
 intro i hi;unfold wS;have:l.find? (λp=>Nat.beq p.1 i)=none:=by
  rw[List.find?_eq_none];intro p hp e;have h1:=af (List.all_eq_true.1 hl p hp);have h2:=Nat.eq_of_beq_eq_true e;omega
 rw[this];rfl
section
variable {P:Program}{C:Ctx}{S:AS}{Q:Exit->AS->Prop}
theorem qq{x y:Code}(h:Ok P C x S (aV (λS'=>Ok P C y S' Q) Q)):Ok P C (.seq x y) S Q:=bz h
theorem sr{id:Nat}{ops:Array Oper}{y:Code}(h:RunT P C ops true (λ_ S=>aV (λS'=>Ok P C y S' Q) Q .normal S) ops.toList [] S):Ok P C (.seq (.region id ops false) y) S Q:=bz (aW h)
theorem dn{ops:Array Oper}{acc:List Ac}{next:AS->Prop}(h:next S):RunT P C ops true (λ_ S=>aV next Q .normal S) [] acc S:=h
theorem cF{c:Operand}{x y:Code}(hf:Ok P C y S Q)(hc:S.ev c=.sv (.v (.bool false)):=by exact rfl):Ok P C (.cond c x y) S Q:=dm hc hf
theorem cT{c:Operand}{x y:Code}(ht:Ok P C x S Q)(hc:S.ev c=.sv (.v (.bool true)):=by exact rfl):Ok P C (.cond c x y) S Q:=cw hc ht
theorem fs{c:Operand}{x:Code}{next:AS->Prop}(h:next S)(hc:S.ev c=.sv (.v (.bool false)):=by exact rfl):Ok P C (.cond c x .skip) S (aV next Q):=dm hc (bp h)
theorem R1{A:Prop}{e:Exit}{t:Nat}{s:SV}(h:S.t t=.sv s):(A\/e=e)/\Oc P S [.tmp t] s:=⟨.inr Y,lY (.tmp h .nil) au⟩
theorem R2{A:Prop}{e:Exit}{t u:Nat}{s s':SV}(h:S.t t=.sv s)(h':S.t u=.sv s'):(A\/e=e)/\Oc P S [.tmp t,.tmp u] (.z9 [s,s']):=⟨.inr Y,lY (.tmp h (.tmp h' .nil)) au⟩
theorem RZ{A:Prop}{e:Exit}{rs:List ResultVar}{ss:List SV}{r:SV}(h:IM P S rs ss)(h':SV.imp (Jd ss) r:=by exact au):(A\/e=e)/\Oc P S rs r:=⟨.inr Y,lY h h'⟩
end
section
variable {P:Program}{C:Ctx}{ops:Array Oper}{S:AS}{nd:Bool}{K:List Ac->AS->Prop}{rest:List Oper}{acc:List Ac}
variable {gd:Option (Nat×Bool)}{rg:List Nat}{d:Nat}{ty:TypeId}{pos:String}{aft:Array Edge}{x y z:Operand}{T U:TypeId}{k:IntKind}{p q:Int}
theorem pF{s:SV}(hz:S.ev z=.sv s)(next:RunT P C ops nd K rest (⟨[]++(bg x++bg z),[],[],⟨some (d,.sv s),[],[]⟩⟩::acc) (S.set d (.sv s)))(hx:S.ev x=.sv (.v (.bool false)):=by exact rfl)(hd:d<S.n:=by exact tl Y):RunT P C ops nd K (⟨some d,.pick x y z,ty,pos,aft,none⟩::rest) acc S:=
 RT.Oa .none hx hz hd next
theorem pT{s:SV}(hy:S.ev y=.sv s)(next:RunT P C ops nd K rest (⟨[]++(bg x++bg y),[],[],⟨some (d,.sv s),[],[]⟩⟩::acc) (S.set d (.sv s)))(hx:S.ev x=.sv (.v (.bool true)):=by exact rfl)(hd:d<S.n:=by exact tl Y):RunT P C ops nd K (⟨some d,.pick x y z,ty,pos,aft,none⟩::rest) acc S:=
 RT.N9 .none hx hy hd next
theorem mo{s:AV}(hx:S.ev x=s)(next:RunT P C ops nd K rest (⟨[]++bg x,[],[],⟨some (d,s),[],[]⟩⟩::acc) (S.set d s))(hd:d<S.n:=by exact tl Y):RunT P C ops nd K (⟨some d,.move x,ty,pos,aft,none⟩::rest) acc S:=
 RT.move .none hx hd next
theorem ad(c:Int)(hx:S.ev x=.sv (.v (.int k p)))(hy:S.ev y=.sv (.v (.int k q)))(hc:k.wrap (p+q)=c)(next:RunT P C ops nd K rest (⟨[]++(bg x++bg y),[],[],⟨some (d,.sv (.v (.int k c))),[],[]⟩⟩::acc) (S.set d (.sv (.v (.int k c)))))(hd:d<S.n:=by exact tl Y):RunT P C ops nd K (⟨some d,.binOp .add T x y U,ty,pos,aft,none⟩::rest) acc S:=
 RT.add .none c hx hy hd hc next
theorem cv{j:IntKind}[tT:kn P T j][tU:kn P U k](c:Int){k':IntKind}(hx:S.ev x=.sv (.v (.int k' p)))(hc:k.wrap p=c)(next:RunT P C ops nd K rest (⟨[]++bg x,[],[],⟨some (d,.sv (.v (.int k c))),[],[]⟩⟩::acc) (S.set d (.sv (.v (.int k c)))))(hd:d<S.n:=by exact tl Y):RunT P C ops nd K (⟨some d,.convert T U x,ty,pos,aft,none⟩::rest) acc S:=
 RT.conv .none c hx hd hc next
theorem ls(c:Bool)(hx:S.ev x=.sv (.v (.int k p)))(hy:S.ev y=.sv (.v (.int k q)))(hc:decide (p<q)=c)(next:RunT P C ops nd K rest (⟨[]++(bg x++bg y),[],[],⟨some (d,.sv (.v (.bool c))),[],[]⟩⟩::acc) (S.set d (.sv (.v (.bool c)))))(hd:d<S.n:=by exact tl Y):RunT P C ops nd K (⟨some d,.binOp .lss T x y U,ty,pos,aft,none⟩::rest) acc S:=
 RT.lss .none c hx hy hd hc next
theorem sb(c:Int)(hx:S.ev x=.sv (.v (.int k p)))(hy:S.ev y=.sv (.v (.int k q)))(hc:k.wrap (p-q)=c)(next:RunT P C ops nd K rest (⟨[]++(bg x++bg y),[],[],⟨some (d,.sv (.v (.int k c))),[],[]⟩⟩::acc) (S.set d (.sv (.v (.int k c)))))(hd:d<S.n:=by exact tl Y):RunT P C ops nd K (⟨some d,.binOp .sub T x y U,ty,pos,aft,none⟩::rest) acc S:=
 RT.sub .none c hx hy hd hc next
theorem an{s:AV}(hx:S.ev x=s)(next:RunT P C ops nd K rest (⟨[]++bg x,[],[],⟨some (d,s),[],[]⟩⟩::acc) (S.set d s))(hd:d<S.n:=by exact tl Y):RunT P C ops nd K (⟨some d,.assign x,ty,pos,aft,none⟩::rest) acc S:=
 RT.assign .none hx hd next
theorem gt(c:Bool)(hx:S.ev x=.sv (.v (.int k p)))(hy:S.ev y=.sv (.v (.int k q)))(hc:decide (q<p)=c)(next:RunT P C ops nd K rest (⟨[]++(bg x++bg y),[],[],⟨some (d,.sv (.v (.bool c))),[],[]⟩⟩::acc) (S.set d (.sv (.v (.bool c)))))(hd:d<S.n:=by exact tl Y):RunT P C ops nd K (⟨some d,.binOp .gtr T x y U,ty,pos,aft,none⟩::rest) acc S:=
 RT.gtr .none c hx hy hd hc next
theorem eq(c:Bool)(hx:S.ev x=.sv (.v (.int k p)))(hy:S.ev y=.sv (.v (.int k q)))(hc:(p==q)=c)(next:RunT P C ops nd K rest (⟨[]++(bg x++bg y),[],[],⟨some (d,.sv (.v (.bool c))),[],[]⟩⟩::acc) (S.set d (.sv (.v (.bool c)))))(hd:d<S.n:=by exact tl Y):RunT P C ops nd K (⟨some d,.binOp .eql T x y U,ty,pos,aft,none⟩::rest) acc S:=
 RT.eql .none c hx hy hd hc next
theorem ne(c:Bool)(hx:S.ev x=.sv (.v (.int k p)))(hy:S.ev y=.sv (.v (.int k q)))(hc:(p != q)=c)(next:RunT P C ops nd K rest (⟨[]++(bg x++bg y),[],[],⟨some (d,.sv (.v (.bool c))),[],[]⟩⟩::acc) (S.set d (.sv (.v (.bool c)))))(hd:d<S.n:=by exact tl Y):RunT P C ops nd K (⟨some d,.binOp .neq T x y U,ty,pos,aft,none⟩::rest) acc S:=
 RT.neq .none c hx hy hd hc next
theorem ge(c:Bool)(hx:S.ev x=.sv (.v (.int k p)))(hy:S.ev y=.sv (.v (.int k q)))(hc:decide (q<=p)=c)(next:RunT P C ops nd K rest (⟨[]++(bg x++bg y),[],[],⟨some (d,.sv (.v (.bool c))),[],[]⟩⟩::acc) (S.set d (.sv (.v (.bool c)))))(hd:d<S.n:=by exact tl Y):RunT P C ops nd K (⟨some d,.binOp .geq T x y U,ty,pos,aft,none⟩::rest) acc S:=
 RT.geq .none c hx hy hd hc next
theorem nt{b:Bool}(hx:S.ev x=.sv (.v (.bool b)))(c:Bool)(hc:(!b)=c)(next:RunT P C ops nd K rest (⟨[]++bg x,[],[],⟨some (d,.sv (.v (.bool c))),[],[]⟩⟩::acc) (S.set d (.sv (.v (.bool c)))))(hd:d<S.n:=by exact tl Y):RunT P C ops nd K (⟨some d,.unOp .not T x,ty,pos,aft,none⟩::rest) acc S:=
 RT.not .none hx hd c hc next
theorem gF{j_ g_:Nat}{eO:Bool}{s:SV}(hz:S.ev z=.sv s)(next:RunT P C ops nd K rest (⟨[g_]++(bg x++bg z),[],[],⟨some (d,.sv s),[],[]⟩⟩::acc) (S.set d (.sv s)))(Am:(ops[j_]?).bind (·.dst)=some g_:=by exact rfl)(An:S.t g_=.sv (.v (.bool eO)):=by exact rfl)(hx:S.ev x=.sv (.v (.bool false)):=by exact rfl)(hd:d<S.n:=by exact tl Y):RunT P C ops nd K (⟨some d,.pick x y z,ty,pos,aft,some (j_,eO)⟩::rest) acc S:=
 RT.Oa (.some Am An) hx hz hd next
theorem gT{j_ g_:Nat}{eO:Bool}{s:SV}(hy:S.ev y=.sv s)(next:RunT P C ops nd K rest (⟨[g_]++(bg x++bg y),[],[],⟨some (d,.sv s),[],[]⟩⟩::acc) (S.set d (.sv s)))(Am:(ops[j_]?).bind (·.dst)=some g_:=by exact rfl)(An:S.t g_=.sv (.v (.bool eO)):=by exact rfl)(hx:S.ev x=.sv (.v (.bool true)):=by exact rfl)(hd:d<S.n:=by exact tl Y):RunT P C ops nd K (⟨some d,.pick x y z,ty,pos,aft,some (j_,eO)⟩::rest) acc S:=
 RT.N9 (.some Am An) hx hy hd next
theorem gq{j_ g_:Nat}{eO:Bool}(c:Bool)(hx:S.ev x=.sv (.v (.int k p)))(hy:S.ev y=.sv (.v (.int k q)))(hc:(p != q)=c)(next:RunT P C ops nd K rest (⟨[g_]++(bg x++bg y),[],[],⟨some (d,.sv (.v (.bool c))),[],[]⟩⟩::acc) (S.set d (.sv (.v (.bool c)))))(Am:(ops[j_]?).bind (·.dst)=some g_:=by exact rfl)(An:S.t g_=.sv (.v (.bool eO)):=by exact rfl)(hd:d<S.n:=by exact tl Y):RunT P C ops nd K (⟨some d,.binOp .neq T x y U,ty,pos,aft,some (j_,eO)⟩::rest) acc S:=
 RT.neq (.some Am An) c hx hy hd hc next
theorem gg{j_ g_:Nat}{eO:Bool}(c:Bool)(hx:S.ev x=.sv (.v (.int k p)))(hy:S.ev y=.sv (.v (.int k q)))(hc:decide (q<p)=c)(next:RunT P C ops nd K rest (⟨[g_]++(bg x++bg y),[],[],⟨some (d,.sv (.v (.bool c))),[],[]⟩⟩::acc) (S.set d (.sv (.v (.bool c)))))(Am:(ops[j_]?).bind (·.dst)=some g_:=by exact rfl)(An:S.t g_=.sv (.v (.bool eO)):=by exact rfl)(hd:d<S.n:=by exact tl Y):RunT P C ops nd K (⟨some d,.binOp .gtr T x y U,ty,pos,aft,some (j_,eO)⟩::rest) acc S:=
 RT.gtr (.some Am An) c hx hy hd hc next
theorem S0{j_ g_:Nat}{eO:Bool}(c:Bool)(hx:S.ev x=.sv (.v (.int k p)))(hy:S.ev y=.sv (.v (.int k q)))(hc:(p==q)=c)(next:RunT P C ops nd K rest (⟨[g_]++(bg x++bg y),[],[],⟨some (d,.sv (.v (.bool c))),[],[]⟩⟩::acc) (S.set d (.sv (.v (.bool c)))))(Am:(ops[j_]?).bind (·.dst)=some g_:=by exact rfl)(An:S.t g_=.sv (.v (.bool eO)):=by exact rfl)(hd:d<S.n:=by exact tl Y):RunT P C ops nd K (⟨some d,.binOp .eql T x y U,ty,pos,aft,some (j_,eO)⟩::rest) acc S:=
 RT.eql (.some Am An) c hx hy hd hc next
theorem TY{j_ g_:Nat}{eO:Bool}{b:Bool}(hx:S.ev x=.sv (.v (.bool b)))(c:Bool)(hc:(!b)=c)(next:RunT P C ops nd K rest (⟨[g_]++bg x,[],[],⟨some (d,.sv (.v (.bool c))),[],[]⟩⟩::acc) (S.set d (.sv (.v (.bool c)))))(Am:(ops[j_]?).bind (·.dst)=some g_:=by exact rfl)(An:S.t g_=.sv (.v (.bool eO)):=by exact rfl)(hd:d<S.n:=by exact tl Y):RunT P C ops nd K (⟨some d,.unOp .not T x,ty,pos,aft,some (j_,eO)⟩::rest) acc S:=
 RT.not (.some Am An) hx hd c hc next
end
section
variable {P:Program}{C:Ctx}{ops:Array Oper}{S:AS}{nd:Bool}{K:List Ac->AS->Prop}{rest:List Oper}{acc:List Ac}
variable {gd:Option (Nat×Bool)}{rg:List Nat}{d:Nat}{ty:TypeId}{pos:String}{aft:Array Edge}{x y z:Operand}{T U E0:TypeId}
theorem mv{s:SV}(hx:S.ev x=.sv s)(next:RunT P C ops nd K rest (⟨[]++bg x,[],[],⟨some (d,.sv s),[],[]⟩⟩::acc) (S.set d (.sv s)))(hd:d<S.n:=by exact tl Y):RunT P C ops nd K (⟨some d,.move x,ty,pos,aft,none⟩::rest) acc S:=
 RT.mv .none hx hd next
theorem ag{s:SV}(hx:S.ev x=.sv s)(next:RunT P C ops nd K rest (⟨[]++bg x,[],[],⟨some (d,.sv s),[],[]⟩⟩::acc) (S.set d (.sv s)))(hd:d<S.n:=by exact tl Y):RunT P C ops nd K (⟨some d,.assign x,ty,pos,aft,none⟩::rest) acc S:=
 RT.yq .none hx hd next
theorem cl{f:FuncId}[c7 P f]{g:Operand}{xs:Array Operand}{at_:Array TypeId}{args:List SV}{r:SV}(hp:Pure P f args r)(hargs:ko S xs.toList args)(next:RunT P C ops nd K rest (⟨[]++(bg g++xs.toList.flatMap bg),[],[],⟨some (d,.sv r),[],[]⟩⟩::acc) (S.set d (.sv r)))(hf:S.ev g=.sv (.v (.func (.func f) #[] #[])):=by exact rfl)(hd:d<S.n:=by exact tl Y):RunT P C ops nd K (⟨some d,.call ⟨.value g,xs,at_⟩,ty,pos,aft,none⟩::rest) acc S:=
 RT.call .none hp hf hargs hd next
theorem ld{n:Nat}[tA:wL P T n]{j off:Nat}{B:nj}{cs:List SV}(hx:S.ev x=.ptr j off)(hB:S.b j=some B)(hcs:IK B.cells off cs)(next:RunT P C ops nd K rest (⟨[]++bg x,[j],[],⟨some (d,.sv (.agg cs)),[],[]⟩⟩::acc) (S.set d (.sv (.agg cs))))(hn:cs.length=n:=by exact rfl)(hd:d<S.n:=by exact tl Y):RunT P C ops nd K (⟨some d,.load T x,ty,pos,aft,none⟩::rest) acc S:=
 RT.load .none hx hB hcs hn hd next
theorem lV[tV:oF P T]{j off:Nat}{B:nj}{s:SV}(hx:S.ev x=.ptr j off)(hB:S.b j=some B)(hn:B.cells[off]? =some (.sv s))(next:RunT P C ops nd K rest (⟨[]++bg x,[j],[],⟨some (d,.sv s),[],[]⟩⟩::acc) (S.set d (.sv s)))(hd:d<S.n:=by exact tl Y):RunT P C ops nd K (⟨some d,.load T x,ty,pos,aft,none⟩::rest) acc S:=
 RT.q9 .none hx hB hn hd next
theorem fa{f off:Nat}[hf:AQ P T f off U][sU:Da P U]{j o:Nat}(hx:S.ev x=.ptr j o){o':Nat}(ho':o+off=o')(next:RunT P C ops nd K rest (⟨[]++bg x,[],[],⟨some (d,.ptr j o'),[],[]⟩⟩::acc) (S.set d (.ptr j o')))(hd:d<S.n:=by exact tl Y):RunT P C ops nd K (⟨some d,.fieldAddr T x f,ty,pos,aft,none⟩::rest) acc S:=
 RT.fieldAddr .none hx hd ho' next
theorem so{n:Nat}[tA:wL P T n]{j:Nat}{B:nj}{cs:List SV}[o1:sL cs](hx:S.ev x=.ptr j 0)(hB:S.b j=some B)(hy:S.ev y=.sv (.agg cs))(next:RunT P C ops nd K rest (⟨[]++(bg x++bg y),[j],[],⟨none,[(j,⟨B.T,cs.map AV.sv⟩)],[]⟩⟩::acc) (S.ku j ⟨B.T,cs.map AV.sv⟩))(vE:cs.length=n:=by exact rfl)(hn:B.cells.length=n:=by exact rfl):RunT P C ops nd K (⟨none,.store T x y,ty,pos,aft,none⟩::rest) acc S:=
 RT.store .none hx hB hy vE hn next
theorem ex{i:Nat}{ss:List SV}{s:SV}(hx:S.ev x=.sv (.z9 ss))(hi:ss[i]? =some s)(next:RunT P C ops nd K rest (⟨[]++bg x,[],[],⟨some (d,.sv s),[],[]⟩⟩::acc) (S.set d (.sv s)))(hd:d<S.n:=by exact tl Y):RunT P C ops nd K (⟨some d,.extract x i,ty,pos,aft,none⟩::rest) acc S:=
 RT.extract .none hx hi hd next
theorem bx{cells:List SV}(hx:S.ev x=.sv (.agg cells))(next:RunT P C ops nd K rest (⟨[]++bg x,[d],[],⟨some (d,.ptr d 0),[(d,⟨T,cells.map AV.sv⟩)],[]⟩⟩::acc) ((S.ku d ⟨T,cells.map AV.sv⟩).set d (.ptr d 0)))(hd:d<S.n:=by exact tl Y)(hb:S.b d=none:=by exact rfl)(hp:C.iS d=none:=by exact rfl):RunT P C ops nd K (⟨some d,.box T x,ty,pos,aft,none⟩::rest) acc S:=
 RT.box .none hx hd hb hp next
theorem lr[tV:oF P T]{cells:List SV}{s:SV}(hx:S.ev x=.sv (ref cells))(hn:cells[0]? =some s)(next:RunT P C ops nd K rest (⟨[]++bg x,[],[],⟨some (d,.sv s),[],[]⟩⟩::acc) (S.set d (.sv s)))(hd:d<S.n:=by exact tl Y):RunT P C ops nd K (⟨some d,.load T x,ty,pos,aft,none⟩::rest) acc S:=
 RT.cD .none hx hn hd next
theorem cB{f:FuncId}[c7 P f]{g:Operand}{xs:Array Operand}{at_:Array TypeId}{args:List SV}{T:TypeId}{c0 c1:List SV}{res:SV}(hp:Jj P f args T c0 res c1)(j:Nat)(hB:S.b j=some ⟨T,c0.map AV.sv⟩)(hargs:ko S xs.toList args)(next:RunT P C ops nd K rest (⟨[]++(bg g++xs.toList.flatMap bg),[j],[],⟨some (d,.sv res),[(j,⟨T,c1.map AV.sv⟩)],[]⟩⟩::acc) ((AS.kg [(j,⟨T,c1.map AV.sv⟩)] S).set d (.sv res)))(hf:S.ev g=.fe f [.box j]:=by exact rfl)(hd:d<S.n:=by exact tl Y):RunT P C ops nd K (⟨some d,.call ⟨.value g,xs,at_⟩,ty,pos,aft,none⟩::rest) acc S:=
 RT.TA .none hp j hB hf hargs hd next
theorem cN{f:FuncId}[c7 P f]{g:Operand}{xs:Array Operand}{at_:Array TypeId}{args:List SV}{R:Row}(hp:HQ P f args R)(hargs:ko S xs.toList args)(next:RunT P C ops nd K rest (⟨[]++(bg g++xs.toList.flatMap bg),[],[d],⟨some (d,.row d),[],[(d,.live R)]⟩⟩::acc) ((AS.cq [(d,.live R)] S).set d (.row d)))(hf:S.ev g=.sv (.v (.func (.func f) #[] #[])):=by exact rfl)(hd:d<S.n:=by exact tl Y)(xu:S.r d=.un:=by exact rfl)(vF:d<1000:=by exact tl Y):RunT P C ops nd K (⟨some d,.call ⟨.value g,xs,at_⟩,ty,pos,aft,none⟩::rest) acc S:=
 RT.Tz .none hp hf hargs hd xu vF next
theorem gm{j_ g_:Nat}{eO:Bool}{s:SV}(hx:S.ev x=.sv s)(next:RunT P C ops nd K rest (⟨[g_]++bg x,[],[],⟨some (d,.sv s),[],[]⟩⟩::acc) (S.set d (.sv s)))(Am:(ops[j_]?).bind (·.dst)=some g_:=by exact rfl)(An:S.t g_=.sv (.v (.bool eO)):=by exact rfl)(hd:d<S.n:=by exact tl Y):RunT P C ops nd K (⟨some d,.move x,ty,pos,aft,some (j_,eO)⟩::rest) acc S:=
 RT.mv (.some Am An) hx hd next
theorem gl{j_ g_:Nat}{eO:Bool}{n:Nat}[tA:wL P T n]{j off:Nat}{B:nj}{cs:List SV}(hx:S.ev x=.ptr j off)(hB:S.b j=some B)(hcs:IK B.cells off cs)(next:RunT P C ops nd K rest (⟨[g_]++bg x,[j],[],⟨some (d,.sv (.agg cs)),[],[]⟩⟩::acc) (S.set d (.sv (.agg cs))))(Am:(ops[j_]?).bind (·.dst)=some g_:=by exact rfl)(An:S.t g_=.sv (.v (.bool eO)):=by exact rfl)(hn:cs.length=n:=by exact rfl)(hd:d<S.n:=by exact tl Y):RunT P C ops nd K (⟨some d,.load T x,ty,pos,aft,some (j_,eO)⟩::rest) acc S:=
 RT.load (.some Am An) hx hB hcs hn hd next
theorem gc{j_ g_:Nat}{eO:Bool}{f:FuncId}[c7 P f]{g:Operand}{xs:Array Operand}{at_:Array TypeId}{args:List SV}{r:SV}(hp:Pure P f args r)(hargs:ko S xs.toList args)(next:RunT P C ops nd K rest (⟨[g_]++(bg g++xs.toList.flatMap bg),[],[],⟨some (d,.sv r),[],[]⟩⟩::acc) (S.set d (.sv r)))(Am:(ops[j_]?).bind (·.dst)=some g_:=by exact rfl)(An:S.t g_=.sv (.v (.bool eO)):=by exact rfl)(hf:S.ev g=.sv (.v (.func (.func f) #[] #[])):=by exact rfl)(hd:d<S.n:=by exact tl Y):RunT P C ops nd K (⟨some d,.call ⟨.value g,xs,at_⟩,ty,pos,aft,some (j_,eO)⟩::rest) acc S:=
 RT.call (.some Am An) hp hf hargs hd next
theorem gr{j_ g_:Nat}{eO:Bool}[tV:oF P T]{cells:List SV}{s:SV}(hx:S.ev x=.sv (ref cells))(hn:cells[0]? =some s)(next:RunT P C ops nd K rest (⟨[g_]++bg x,[],[],⟨some (d,.sv s),[],[]⟩⟩::acc) (S.set d (.sv s)))(Am:(ops[j_]?).bind (·.dst)=some g_:=by exact rfl)(An:S.t g_=.sv (.v (.bool eO)):=by exact rfl)(hd:d<S.n:=by exact tl Y):RunT P C ops nd K (⟨some d,.load T x,ty,pos,aft,some (j_,eO)⟩::rest) acc S:=
 RT.cD (.some Am An) hx hn hd next
end
section
variable {P:Program}{C:Ctx}{ops:Array Oper}{S:AS}{nd:Bool}{K:List Ac->AS->Prop}{rest:List Oper}{acc:List Ac}
variable {gd:Option (Nat×Bool)}{rg:List Nat}{d:Nat}{ty:TypeId}{pos:String}{aft:Array Edge}{x y z:Operand}{T U E0:TypeId}
variable {l l' k:QH}
theorem ww{op:Op}{j g:Nat}{b want:Bool}(next:RunT P C ops nd K rest (⟨[g],[],[],⟨some (d,.sv (.v undef)),[],[]⟩⟩::acc) (S.set d (.sv (.v undef))))(h1:(ops[j]?).bind (·.dst)=some g:=by exact rfl)(h2:S.t g=.sv (.v (.bool b)):=by exact rfl)(hb:b≠want:=by exact sk Y)(hd:d<S.n:=by exact tl Y):RunT P C ops nd K (⟨some d,op,ty,pos,aft,some (j,want)⟩::rest) acc S:=
 RT.skV h1 h2 hb hd next
theorem wu{op:Op}{j g:Nat}{want:Bool}(next:RunT P C ops nd K rest (⟨[g],[],[],⟨some (d,.sv (.v undef)),[],[]⟩⟩::acc) (S.set d (.sv (.v undef))))(h1:(ops[j]?).bind (·.dst)=some g:=by exact rfl)(h2:S.t g=.sv (.v undef):=by exact rfl)(hd:d<S.n:=by exact tl Y):RunT P C ops nd K (⟨some d,op,ty,pos,aft,some (j,want)⟩::rest) acc S:=
 RT.TQ h1 h2 hd next
end
section
variable {P:Program}{C:Ctx}{ops:Array Oper}{S:AS}{nd:Bool}{K:List Ac->AS->Prop}{rest:List Oper}{acc:List Ac}
variable {gd:Option (Nat×Bool)}{rg:List Nat}{d:Nat}{ty:TypeId}{pos:String}{aft:Array Edge}{x y z:Operand}{T U E0:TypeId}
variable {α:Type}{l l' k:List α}{e:α->List SV}{n by_:Nat}{zv:Value}
theorem ln{m:Nat}[tS:eI P T E0 m]{c:Int}(hx:S.ev x=.sv (slc n (l.map e)))(hc:(l.length:Int)=c)(next:RunT P C ops nd K rest (⟨[]++bg x,[],[],⟨some (d,.sv (.v (.int .i64 c))),[],[]⟩⟩::acc) (S.set d (.sv (.v (.int .i64 c)))))(hd:d<S.n:=by exact tl Y):RunT P C ops nd K (⟨some d,.call ⟨.builtin .len,#[x],#[T]⟩,ty,pos,aft,none⟩::rest) acc S:=
 RT.TL .none hx hd hc next
theorem al[tz:hG P T zv]{cs:List SV}(hi:eW (zv.cells.toList.map SV.v) cs){av:List AV}(Xs:cs.map AV.sv=av)(next:RunT P C ops nd K rest (⟨[]++[],[d],[],⟨some (d,.ptr d 0),[(d,⟨T,av⟩)],[]⟩⟩::acc) ((S.ku d ⟨T,av⟩).set d (.ptr d 0)))(hd:d<S.n:=by exact tl Y)(hb:S.b d=none:=by exact rfl)(hp:C.iS d=none:=by exact rfl):RunT P C ops nd K (⟨some d,.alloc T,ty,pos,aft,none⟩::rest) acc S:=
 RT.oN .none hi Xs hd hb hp next
theorem ix[tS:eI P T E0 n]{kk:IntKind}{i:Int}{a:α}(hx:S.ev x=.sv (slc n (l.map e)))(hy:S.ev y=.sv (.v (.int kk i)))(ha:cX l i=some a)(next:RunT P C ops nd K rest (⟨[]++(bg x++bg y),[],[],⟨some (d,.sv (ref (e a))),[],[]⟩⟩::acc) (S.set d (.sv (ref (e a)))))(hd:d<S.n:=by exact tl Y):RunT P C ops nd K (⟨some d,.indexAddr T x y,ty,pos,aft,none⟩::rest) acc S:=
 RT.Om .none hx hy hd ha next
theorem bl[tS:eI P T E0 n][tE:jg P E0 n by_ zv]{len:Nat}{parts:Array (Nat×Operand)}{qs:List (Nat×List SV)}(hp:mD S parts.toList qs)(hc:oL 0 qs=true)(hl:qs.length=len)(hsz:(qs.all λq=>Nat.beq q.2.length n)=true)(hlen:Nat.ble (len*n) 16777216=true)(Ja:(zv.cells.toList.all λv=>v.oneCell')=true)(nZ:qs.map (·.2)=l.map e)(next:RunT P C ops nd K rest (⟨[]++kp parts.toList,[],[],⟨some (d,.sv (slc n (l.map e))),[],[]⟩⟩::acc) (S.set d (.sv (slc n (l.map e)))))(hd:d<S.n:=by exact tl Y):RunT P C ops nd K (⟨some d,.buildSlice T len parts,ty,pos,aft,none⟩::rest) acc S:=
 RT.gE .none hp hd hc hl hsz hlen Ja nZ next
theorem iR[tS:eI P T E0 n]{i j:Nat}{E1:TypeId}{kk:IntKind}{v:Int}(hx:S.ev x=.row i)(hR:S.r i=.live (TR E1 n e l))(hy:S.ev y=.sv (.v (.int kk v)))(h:r7 l v=some j)(next:RunT P C ops nd K rest (⟨[]++(bg x++bg y),[],[i],⟨some (d,.gx i (j*n)),[],[]⟩⟩::acc) (S.set d (.gx i (j*n))))(hd:d<S.n:=by exact tl Y):RunT P C ops nd K (⟨some d,.indexAddr T x y,ty,pos,aft,none⟩::rest) acc S:=
 RT.Xt .none hx hR hy hd h next
theorem aI{s X:SV}(hx:S.ev x=.sv s)(hi:SV.imp s X)(next:RunT P C ops nd K rest (⟨[]++bg x,[],[],⟨some (d,.sv X),[],[]⟩⟩::acc) (S.set d (.sv X)))(hd:d<S.n:=by exact tl Y):RunT P C ops nd K (⟨some d,.assign x,ty,pos,aft,none⟩::rest) acc S:=
 RT.Xr .none hx hi hd next
theorem bI{pl:List (Nat×Nat)}{zc:List Value}[tP:iU P T pl zc]{parts:Array (Nat×Operand)}{qs:List (Nat×List SV)}(hp:mD S parts.toList qs){cs cs':List SV}(hi:eW cs cs')(next:RunT P C ops nd K rest (⟨[]++kp parts.toList,[],[],⟨some (d,.sv (.agg cs')),[],[]⟩⟩::acc) (S.set d (.sv (.agg cs'))))(hf:rZ (λi=>pl[i]?) (zc.map SV.v) qs=some cs:=by exact rfl)(hd:d<S.n:=by exact tl Y):RunT P C ops nd K (⟨some d,.build T parts,ty,pos,aft,none⟩::rest) acc S:=
 RT.QG .none hp hf hi hd next
theorem lR[tV:oF P T][el:EL e 1]{i j:Nat}{E1:TypeId}{a:α}{s:SV}(hx:S.ev x=.gx i (j*1))(hR:S.r i=.live (TR E1 1 e l))(ha:l[j]? =some a)(hs:e a=[s])(next:RunT P C ops nd K rest (⟨[]++bg x,[],[i],⟨some (d,.sv s),[],[]⟩⟩::acc) (S.set d (.sv s)))(hd:d<S.n:=by exact tl Y):RunT P C ops nd K (⟨some d,.load T x,ty,pos,aft,none⟩::rest) acc S:=
 RT.TN .none hx hR ha hs hd next
theorem aR[tS:eI P T E0 n][tE:jg P E0 n by_ zv]{i:Nat}(hx:S.ev x=.row i)(hR:S.r i=.live (TR E0 n e l))(hy:S.ev y=.sv (slc n (k.map e)))(h:sW by_ l k=some l')(next:RunT P C ops nd K rest (⟨[]++(bg x++bg y),[],[i,d],⟨some (d,.row d),[],[(i,.dead),(d,.live (TR E0 n e l'))]⟩⟩::acc) ((AS.cq [(i,.dead),(d,.live (TR E0 n e l'))] S).set d (.row d)))(hd:d<S.n:=by exact tl Y)(xu:S.r d=.un:=by exact rfl)(vF:d<1000:=by exact tl Y):RunT P C ops nd K (⟨some d,.call ⟨.builtin .append,#[x,y],#[T,T]⟩,ty,pos,aft,none⟩::rest) acc S:=
 RT.apR .none hx hR hy hd xu vF h next
theorem lA[tA:wL P T n][el:EL e n]{i j:Nat}{E1:TypeId}{a:α}(hx:S.ev x=.gx i (j*n))(hR:S.r i=.live (TR E1 n e l))(ha:l[j]? =some a)(next:RunT P C ops nd K rest (⟨[]++bg x,[],[i],⟨some (d,.sv (.agg (e a))),[],[]⟩⟩::acc) (S.set d (.sv (.agg (e a)))))(hd:d<S.n:=by exact tl Y):RunT P C ops nd K (⟨some d,.load T x,ty,pos,aft,none⟩::rest) acc S:=
 RT.TO .none hx hR ha hd next
theorem sR[tV:oF P T][el:EL e 1]{i j:Nat}{E1:TypeId}{s:SV}[o1:One s](a:α)(hs:e a=[s])(hx:S.ev x=.gx i (j*1))(hR:S.r i=.live (TR E1 1 e l))(hy:S.ev y=.sv s)(h:stM l j a=some l')(next:RunT P C ops nd K rest (⟨[]++(bg x++bg y),[],[i],⟨none,[],[(i,.live (TR E1 1 e l'))]⟩⟩::acc) (AS.cq [(i,.live (TR E1 1 e l'))] S)):RunT P C ops nd K (⟨none,.store T x y,ty,pos,aft,none⟩::rest) acc S:=
 RT.Xu .none a hs hx hR hy h next
theorem sA[tA:wL P T n][el:EL e n]{i j:Nat}{E1:TypeId}(a:α)(hx:S.ev x=.gx i (j*n))(hR:S.r i=.live (TR E1 n e l))(hy:S.ev y=.sv (.agg (e a)))(h:stM l j a=some l')(next:RunT P C ops nd K rest (⟨[]++(bg x++bg y),[],[i],⟨none,[],[(i,.live (TR E1 n e l'))]⟩⟩::acc) (AS.cq [(i,.live (TR E1 n e l'))] S)):RunT P C ops nd K (⟨none,.store T x y,ty,pos,aft,none⟩::rest) acc S:=
 RT.TP .none a hx hR hy h next
theorem lL{m:Nat}[tS:eI P T E0 m]{i:Nat}{E1:TypeId}{c:Int}(hx:S.ev x=.row i)(hR:S.r i=.live (TR E1 n e l))(hc:(l.length:Int)=c)(next:RunT P C ops nd K rest (⟨[]++bg x,[],[i],⟨some (d,.sv (.v (.int .i64 c))),[],[]⟩⟩::acc) (S.set d (.sv (.v (.int .i64 c)))))(hd:d<S.n:=by exact tl Y):RunT P C ops nd K (⟨some d,.call ⟨.builtin .len,#[x],#[T]⟩,ty,pos,aft,none⟩::rest) acc S:=
 RT.TM .none hx hR hd hc next
theorem cR{f:FuncId}[c7 P f]{g:Operand}{xs:Array Operand}{at_:Array TypeId}{args:List AV}{E1:TypeId}{res:AV}(hp:Fe P f args (TR E1 n e l) res (l'.flatMap e))(hlen:l'.length=l.length)(i:Nat)(hR:S.r i=.live (TR E1 n e l))(hargs:BB S xs.toList (args.map (AV.wS i)))(next:RunT P C ops nd K rest (⟨[]++(bg g++xs.toList.flatMap bg),[],[i],⟨some (d,res.wS i),[],[(i,.live (TR E1 n e l'))]⟩⟩::acc) ((AS.cq [(i,.live (TR E1 n e l'))] S).set d (res.wS i)))(hrow:args.all AV.vO=true:=by exact rfl)(hres:res.vO=true:=by exact rfl)(hf:S.ev g=.sv (.v (.func (.func f) #[] #[])):=by exact rfl)(hd:d<S.n:=by exact tl Y):RunT P C ops nd K (⟨some d,.call ⟨.value g,xs,at_⟩,ty,pos,aft,none⟩::rest) acc S:=
 RT.QL .none hp hlen i hR hrow hres hf hargs hd next
theorem gn{j_ g_:Nat}{eO:Bool}{m:Nat}[tS:eI P T E0 m]{c:Int}(hx:S.ev x=.sv (slc n (l.map e)))(hc:(l.length:Int)=c)(next:RunT P C ops nd K rest (⟨[g_]++bg x,[],[],⟨some (d,.sv (.v (.int .i64 c))),[],[]⟩⟩::acc) (S.set d (.sv (.v (.int .i64 c)))))(Am:(ops[j_]?).bind (·.dst)=some g_:=by exact rfl)(An:S.t g_=.sv (.v (.bool eO)):=by exact rfl)(hd:d<S.n:=by exact tl Y):RunT P C ops nd K (⟨some d,.call ⟨.builtin .len,#[x],#[T]⟩,ty,pos,aft,some (j_,eO)⟩::rest) acc S:=
 RT.TL (.some Am An) hx hd hc next
end
section
variable {P:Program}{C:Ctx}{ops:Array Oper}{S:AS}{nd:Bool}{K:List Ac->AS->Prop}{rest:List Oper}{acc:List Ac}
variable {gd:Option (Nat×Bool)}{rg:List Nat}{d:Nat}{ty:TypeId}{pos:String}{aft:Array Edge}{x y z:Operand}{T U E0 E1:TypeId}
theorem fl{f off:Nat}[hf:AQ P T f off U][tV:oF P U]{cs:List SV}{s:SV}(hx:S.ev x=.sv (.agg cs))(hs:cs[off]? =some s)(next:RunT P C ops nd K rest (⟨[]++bg x,[],[],⟨some (d,.sv s),[],[]⟩⟩::acc) (S.set d (.sv s)))(hd:d<S.n:=by exact tl Y):RunT P C ops nd K (⟨some d,.field T x f,ty,pos,aft,none⟩::rest) acc S:=
 RT.field .none hx hs hd next
end
end
end Go.Fw.Z
namespace Go.Proofs.YtfoldppidpmchaaGreat
section
open Go.Fw
noncomputable def cQ(x0:List Nat):Option (List Nat):=sW 4 [] x0
noncomputable def bL(x0:Nat)(c0:Nat):Option (Nat×Nat):=(some ((x0+c0)%18446744073709551616)).bind λx6=>(some (x6/2^32)).bind λx8=>(some (x6%4294967296)).bind λec=>some (ec,x8)
noncomputable def bn(x0:List Nat):Option (List Nat):=(cf (λ(BO:(List Nat))=>(show Option (((List Nat))⊕((List Nat)))from cj (λ(Fk:Bool)=>(bif Fk then(some (BO.length:Int)).bind λfm=>(some (IntKind.i64.wrap (fm-1))).bind λfg=>(xx BO 0 fg).bind λkq=>some (.inl kq)else some (.inr BO))) λJB=>(some (BO.length:Int)).bind λx4=>(some (decide ((0:Int)<x4))).bind λx5=>(bif x5 then(some (BO.length:Int)).bind λx9=>(some (IntKind.i64.wrap (x9-1))).bind λec=>(cX BO ec).bind λfV=>(some (decide ((fV:Nat)=0))).bind λjB=>some jB else some false).bind λJC=>JB JC)) x0).bind λHY=>some HY
noncomputable def bY(x0:Bool)(x1:List Nat):Option (Zr):=(bn x1).bind λx6=>(some (x6.length:Int)).bind λx8=>(some (decide ((x8:Int)=0))).bind λx9=>(bif x9 then some ⟨false,[]⟩else some ⟨x0,x6⟩)
noncomputable def dU(x0:Bool)(x1:Nat):Option (Zr):=(some (decide ((x1:Nat)=0))).bind λx7=>(bif x7 then some ⟨false,[]⟩else(some (x1/2^32)).bind λfV=>(some (decide ((fV:Nat)=0))).bind λdw=>(bif dw then(some (x1%4294967296)).bind λdS=>some ⟨x0,[dS]⟩else(some (x1%4294967296)).bind λja=>(some (x1/2^32)).bind λiP=>(some (iP%4294967296)).bind λiI=>some ⟨x0,[ja,iI]⟩))
noncomputable def c9(x0:List Nat):Option (Nat):=(some (x0.length:Int)).bind λx4=>(some (decide ((x4:Int)=0))).bind λx6=>(bif x6 then some 0 else(some (decide ((x4:Int)=1))).bind λx8=>(bif x8 then(cX x0 0).bind λec=>(some (ec%18446744073709551616)).bind λdw=>some dw else(cX x0 0).bind λeK=>(some (eK%18446744073709551616)).bind λfo=>(cX x0 1).bind λfg=>(some (fg%18446744073709551616)).bind λja=>(some (ja*2^32%18446744073709551616)).bind λgG=>(some ((fo ||| gG)%18446744073709551616)).bind λiP=>some iP))
noncomputable def cE(x0:List Nat)(x1:List Nat):Option (Int):=(some (x0.length:Int)).bind λx7=>(some (x1.length:Int)).bind λx9=>(some (decide ((x7:Int)≠x9))).bind λec=>(bif ec then(some (x0.length:Int)).bind λdw=>(some (x1.length:Int)).bind λeK=>(some (decide ((dw:Int)<eK))).bind λdS=>(bif dS then some (-1)else some 1)else(some (x0.length:Int)).bind λfm=>(some (IntKind.i64.wrap (fm-1))).bind λfg=>(cf (λ(lO:Int)=>(show Option ((Int)⊕((Unit)⊕(Int)))from(some (decide ((0:Int)<=lO))).bind λja=>(bif ja then(cX x0 lO).bind λm6=>(cX x1 lO).bind λij=>(some (decide ((m6:Nat)≠ij))).bind λpA=>(bif pA then(cX x0 lO).bind λm7=>(cX x1 lO).bind λua=>(some (decide ((m7:Nat)<ua))).bind λkU=>(bif kU then some (.inr (.inr (-1)))else some (.inr (.inr 1)))else(some (IntKind.i64.wrap (lO-1))).bind λiP=>some (.inl iP))else some (.inr (.inl ()))))) fg).bind λe6=>match e6 with|.inr v6=>some v6|.inl _=>some 0)
noncomputable def dO(x0:List Nat)(x1:List Nat):Option (List Nat):=(some (x0.length:Int)).bind λec=>(some (x1.length:Int)).bind λdw=>(some (max (ec:Int) dw)).bind λjB=>(some (IntKind.i64.wrap (jB+1))).bind λeK=>(Mv (α:=Nat) 4 eK).bind λdS=>(nM (λ(k:Nat) (s7:Nat×(List Nat))=>match s7 with|⟨uz,iq⟩=>(show Option (Nat×(List Nat))from(some (x0.getD k 0%18446744073709551616)).bind λXA=>(some (x1.getD k 0%18446744073709551616)).bind λXB=>(some ((XA+XB)%18446744073709551616)).bind λkV=>(bL kV uz).bind λ⟨gy,k9⟩=>(sW 4 iq [gy]).bind λij=>some (k9,ij))) (max x0.length x1.length) (0,dS)).bind λe7=>match e7 with|⟨uz,iq⟩=>(bL 0 uz).bind λ⟨iQ,k11⟩=>(sW 4 iq [iQ]).bind λm7=>some m7
noncomputable def cH(x0:List Nat)(x1:List Nat):Option (List Nat):=(some (x0.length:Int)).bind λec=>(Mv (α:=Nat) 4 ec).bind λfV=>(nM (λ(k:Nat) (s7:Nat×(List Nat))=>match s7 with|⟨xO,iq⟩=>(show Option (Nat×(List Nat))from(some (x0.getD k 0%18446744073709551616)).bind λXC=>(some (x1.getD k 0%18446744073709551616)).bind λXD=>(some (mE 18446744073709551616 4294967295 XD)).bind λiP=>(some ((XC+iP)%18446744073709551616)).bind λiI=>(bL iI xO).bind λ⟨ic,k9⟩=>(sW 4 iq [ic]).bind λkV=>some (k9,kV))) (max x0.length x1.length) (1,fV)).bind λe7=>match e7 with|⟨xO,iq⟩=>some iq
noncomputable def eX(x0:List Nat)(x1:List Nat):Option (List Nat):=(some (x0.length:Int)).bind λdw=>(some (x1.length:Int)).bind λeK=>(some (IntKind.i64.wrap (dw+eK))).bind λdS=>(C0 4 dS (0:Nat)).bind λfo=>(some (x0.length:Int)).bind λfg=>(cf (λ(S3:Int×(List Nat))=>match S3 with|⟨mF,BP⟩=>(show Option ((Int×(List Nat))⊕((List Nat)))from(some (decide ((mF:Int)<fg))).bind λja=>(bif ja then(cX x0 mF).bind λiP=>(some (x1.length:Int)).bind λkV=>(cf (λ(QS:Int×Nat×(List Nat))=>match QS with|⟨vW,uA,tf⟩=>(show Option ((Int×Nat×(List Nat))⊕(Nat×(List Nat)))from(some (decide ((vW:Int)<kV))).bind λkW=>(bif kW then(cX x1 vW).bind λvX=>(some (IntKind.i64.wrap (mF+vW))).bind λvG=>(some (IntKind.i64.wrap (mF+vW))).bind λkU=>(r7 tf kU).bind λxP=>(tf[xP]?).bind λqa=>(some (qa%18446744073709551616)).bind λBQ=>(some (iP%18446744073709551616)).bind λES=>(some (vX%18446744073709551616)).bind λuc=>(some ((ES*uc)%18446744073709551616)).bind λxQ=>(some ((BQ+xQ)%18446744073709551616)).bind λMI=>(bL MI uA).bind λ⟨Aa,XE⟩=>(r7 tf vG).bind λOo=>(stM tf Oo Aa).bind λXF=>(some (IntKind.i64.wrap (vW+1))).bind λAo=>some (.inl (Ao,XE,XF))else some (.inr (uA,tf))))) (0,0,BP)).bind λXG=>match XG with|⟨Dv,Fl⟩=>(some (x1.length:Int)).bind λOq=>(some (IntKind.i64.wrap (mF+Oq))).bind λMJ=>(bL 0 Dv).bind λ⟨JD,k45⟩=>(r7 Fl MJ).bind λHZ=>(stM Fl HZ JD).bind λXH=>(some (IntKind.i64.wrap (mF+1))).bind λQT=>some (.inl (QT,XH))else some (.inr BP)))) (0,fo)).bind λtg=>some tg
noncomputable def gk(x0:List Nat)(x1:Nat):Option (Nat×List Nat):=(some (x0.length:Int)).bind λx9=>(some (IntKind.i64.wrap (x9-1))).bind λec=>(cf (λ(s8:Nat×Int×(List Nat))=>match s8 with|⟨JE,uB,oO⟩=>(show Option ((Nat×Int×(List Nat))⊕(Nat×(List Nat)))from(some (decide ((0:Int)<=uB))).bind λdw=>(bif dw then(some (JE*2^32%18446744073709551616)).bind λfo=>(r7 oO uB).bind λkq=>(oO[kq]?).bind λja=>(some (ja%18446744073709551616)).bind λgG=>(some ((fo ||| gG)%18446744073709551616)).bind λiP=>(BF 18446744073709551616 iP x1).bind λgy=>(some (gy%4294967296)).bind λkW=>(r7 oO uB).bind λij=>(stM oO ij kW).bind λth=>(Ak iP x1).bind λiQ=>(some (IntKind.i64.wrap (uB-1))).bind λeK=>some (.inl (iQ,eK,th))else some (.inr (JE,oO))))) (0,ec,x0)).bind λe8=>match e8 with|⟨TZ,xR⟩=>(sg x0 xR).bind λ_=>some (TZ,xR)
noncomputable def eA(x0:List Nat)(x1:Nat):Option (List Nat):=(some (x0.length:Int)).bind λfV=>(some (IntKind.i64.wrap (fV+1))).bind λdw=>(Mv (α:=Nat) 4 dw).bind λjB=>(some (x0.length:Int)).bind λdS=>(cf (λ(s8:Int×Nat×(List Nat))=>match s8 with|⟨uC,oP,iq⟩=>(show Option ((Int×Nat×(List Nat))⊕(Nat×(List Nat)))from(some (decide ((uC:Int)<dS))).bind λfm=>(bif fm then(cX x0 uC).bind λfg=>(some (fg%18446744073709551616)).bind λiI=>(some (iI*2^(min x1 64)%18446744073709551616)).bind λm6=>(bL m6 oP).bind λ⟨kV,QU⟩=>(sW 4 iq [kV]).bind λkW=>(some (IntKind.i64.wrap (uC+1))).bind λij=>some (.inl (ij,QU,kW))else some (.inr (oP,iq))))) (0,0,jB)).bind λe8=>match e8 with|⟨yK,JF⟩=>(bL 0 yK).bind λ⟨iQ,XI⟩=>(sW 4 JF [iQ]).bind λm7=>some m7
noncomputable def gH(x0:List Nat)(x1:Nat):Option (List Nat):=(some (x0.length:Int)).bind λfV=>(some (IntKind.i64.wrap (fV+1))).bind λdw=>(Mv (α:=Nat) 4 dw).bind λjB=>(some (x0.length:Int)).bind λdS=>(cf (λ(s8:Int×Nat×(List Nat))=>match s8 with|⟨uC,oP,nN⟩=>(show Option ((Int×Nat×(List Nat))⊕(Nat×(List Nat)))from(some (decide ((uC:Int)<dS))).bind λfm=>(bif fm then(cX x0 uC).bind λfg=>(some (fg%18446744073709551616)).bind λiI=>(some (iI*2^(min x1 64)%18446744073709551616)).bind λm6=>(bL m6 oP).bind λ⟨kV,QU⟩=>(sW 4 nN [kV]).bind λkW=>(some (IntKind.i64.wrap (uC+1))).bind λij=>some (.inl (ij,QU,kW))else some (.inr (oP,nN))))) (0,0,jB)).bind λe8=>match e8 with|⟨yK,nO⟩=>(bL 0 yK).bind λ⟨iQ,XI⟩=>(sW 4 nO [iQ]).bind λm7=>some m7
noncomputable def fG(x0:Nat):Option (Int):=(some (decide ((65536:Nat)<=x0))).bind λx4=>cj (λ(j2:Nat×Int)=>match j2 with|⟨Fm,MK⟩=>(some (decide ((256:Nat)<=Fm))).bind λx8=>cj (λ(j4:Nat×Int)=>match j4 with|⟨T0,T1⟩=>(some (T0%256)).bind λdS=>(r9 [0,1,2,2,3,3,3,3,4,4,4,4,4,4,4,4,5,5,5,5,5,5,5,5,5,5,5,5,5,5,5,5,6,6,6,6,6,6,6,6,6,6,6,6,6,6,6,6,6,6,6,6,6,6,6,6,6,6,6,6,6,6,6,6,7,7,7,7,7,7,7,7,7,7,7,7,7,7,7,7,7,7,7,7,7,7,7,7,7,7,7,7,7,7,7,7,7,7,7,7,7,7,7,7,7,7,7,7,7,7,7,7,7,7,7,7,7,7,7,7,7,7,7,7,7,7,7,7,8,8,8,8,8,8,8,8,8,8,8,8,8,8,8,8,8,8,8,8,8,8,8,8,8,8,8,8,8,8,8,8,8,8,8,8,8,8,8,8,8,8,8,8,8,8,8,8,8,8,8,8,8,8,8,8,8,8,8,8,8,8,8,8,8,8,8,8,8,8,8,8,8,8,8,8,8,8,8,8,8,8,8,8,8,8,8,8,8,8,8,8,8,8,8,8,8,8,8,8,8,8,8,8,8,8,8,8,8,8,8,8,8,8,8,8,8,8,8,8,8,8,8,8,8,8,8,8] ((dS:Nat):Int)).bind λfo=>(some (IntKind.i64.wrap (fo:Int))).bind λfm=>(some (IntKind.i64.wrap (T1+fm))).bind λfg=>some fg) λK4=>(bif x8 then(some (Fm/2^8)).bind λec=>(some (IntKind.i64.wrap (MK+8))).bind λdw=>K4 (ec,dw)else K4 (Fm,MK))) λK2=>(bif x4 then(some (x0/2^16)).bind λx6=>K2 (x6,16)else K2 (x0,0))
noncomputable def cS(x0:Nat):Option (Int):=(fG x0).bind λx4=>(some (IntKind.i64.wrap (32-x4))).bind λx5=>some x5
noncomputable def gp(x0:List Nat)(o0:Nat)(n0:Nat)(x1:List Nat):Option (Nat×List Nat):=(some (x1.length:Int)).bind λdw=>(LZ o0 n0 dw).bind λdS=>(x0[dS]?).bind λfo=>(some (fo%18446744073709551616)).bind λfm=>(some (fm*2^32%18446744073709551616)).bind λfg=>(some (IntKind.i64.wrap (dw-1))).bind λgG=>(LZ o0 n0 gG).bind λiP=>(x0[iP]?).bind λiI=>(some (iI%18446744073709551616)).bind λic=>(some ((fg ||| ic)%18446744073709551616)).bind λm6=>(some (IntKind.i64.wrap (dw-1))).bind λkW=>(cX x1 kW).bind λij=>(some (ij%18446744073709551616)).bind λpA=>(some (IntKind.i64.wrap (dw-2))).bind λm7=>(cX x1 m7).bind λvG=>(some (vG%18446744073709551616)).bind λxz=>(BF 18446744073709551616 m6 pA).bind λkU=>(Ak m6 pA).bind λBQ=>(cf (λ(A5:Nat×Nat)=>match A5 with|⟨Ap,A6⟩=>(show Option ((Nat×Nat)⊕(Nat))from cj (λ(Fo:Bool)=>(bif Fo then(some (mE 18446744073709551616 Ap 1)).bind λOt=>(some ((A6+pA)%18446744073709551616)).bind λOu=>(some (Ou/2^32)).bind λL0=>(some (decide ((L0:Nat)≠0))).bind λS4=>(bif S4 then some (.inr Ot)else some (.inl (Ot,Ou)))else some (.inr Ap))) λJB=>(some (Ap/2^32)).bind λES=>(some (decide ((ES:Nat)≠0))).bind λqc=>(bif qc then some true else(some ((Ap*xz)%18446744073709551616)).bind λAa=>(some (A6*2^32%18446744073709551616)).bind λAo=>(some (IntKind.i64.wrap (dw-2))).bind λML=>(LZ o0 n0 ML).bind λOq=>(x0[Oq]?).bind λMJ=>(some (MJ%18446744073709551616)).bind λMM=>(some ((Ao ||| MM)%18446744073709551616)).bind λJD=>(some (decide ((JD:Nat)<Aa))).bind λHZ=>some HZ).bind λJG=>JB JG)) (kU,BQ)).bind λH6=>(sg x0 x0).bind λ_=>some (H6,x0)
noncomputable def cI(x0:List Nat)(o0:Nat)(n0:Nat)(x1:List Nat)(x2:Nat):Option (Bool×List Nat):=(some (n0:Int)).bind λeK=>(cf (λ(ET:Nat×Int×Nat×(List Nat))=>match ET with|⟨H7,uD,BR,ru⟩=>(show Option ((Nat×Int×Nat×(List Nat))⊕(Nat×(List Nat)))from(some (decide ((uD:Int)<eK))).bind λfo=>(bif fo then(some (x1.length:Int)).bind λja=>(some (decide ((uD:Int)<ja))).bind λgG=>cj (λ(JH:Nat)=>(LZ o0 n0 uD).bind λpA=>(ru[pA]?).bind λiQ=>(some (iQ%18446744073709551616)).bind λmu=>(bL JH BR).bind λ⟨ud,XJ⟩=>(some (ud%18446744073709551616)).bind λxz=>(some (mE 18446744073709551616 mu xz)).bind λua=>(some (mE 18446744073709551616 ua H7)).bind λkU=>(some (kU%4294967296)).bind λuE=>(LZ o0 n0 uD).bind λES=>(stM ru ES uE).bind λXK=>(some (kU/2^63)).bind λuc=>(some (IntKind.i64.wrap (uD+1))).bind λxQ=>some (.inl (uc,xQ,XJ,XK))) λK14=>(bif gG then(cX x1 uD).bind λic=>(some (ic%18446744073709551616)).bind λkV=>(some ((kV*x2)%18446744073709551616)).bind λkW=>K14 kW else K14 0)else some (.inr (H7,ru))))) (0,0,0,x0)).bind λL1=>match L1 with|⟨JI,uF⟩=>(some (decide ((JI:Nat)≠0))).bind λAa=>(sg x0 uF).bind λ_=>some (Aa,uF)
noncomputable def gS(x0:List Nat)(x1:List Nat):Option ((List Nat)×(List Nat)):=(some (x1.length:Int)).bind λfm=>(some (IntKind.i64.wrap (fm-1))).bind λja=>(cX x1 ja).bind λgG=>(cS gG).bind λiI=>(some ((iI%18446744073709551616).toNat)).bind λic=>(gH x0 ic).bind λgy=>(eA x1 ic).bind λvX=>(xx vX 0 fm).bind λiQ=>(some (x0.length:Int)).bind λm7=>(some (IntKind.i64.wrap (m7-fm))).bind λud=>(some (IntKind.i64.wrap (ud+1))).bind λxz=>(C0 4 xz (0:Nat)).bind λua=>(some (x0.length:Int)).bind λkU=>(some (IntKind.i64.wrap (kU-fm))).bind λqa=>(cf (λ(QV:Int×(List Nat)×(List Nat))=>match QV with|⟨ir,qe,tj⟩=>(show Option ((Int×(List Nat)×(List Nat))⊕((List Nat)×(List Nat)))from(some (decide ((0:Int)<=ir))).bind λuE=>(bif uE then(some (IntKind.i64.wrap (ir+fm))).bind λOo=>(some (IntKind.i64.wrap (Oo+1))).bind λAo=>(QJ tj ir Ao).bind λ⟨o53,n53⟩=>(gp tj o53 n53 iQ).bind λ⟨ML,QW⟩=>(sg tj QW).bind λ_=>(some (IntKind.i64.wrap (ir+fm))).bind λHZ=>(some (IntKind.i64.wrap (HZ+1))).bind λQT=>(QJ QW ir QT).bind λ⟨o62,n62⟩=>(cI QW o62 n62 iQ ML).bind λ⟨QX,S5⟩=>(sg QW S5).bind λ_=>cj (λ(S6:Nat×(List Nat))=>match S6 with|⟨JJ,Fp⟩=>(some (JJ%4294967296)).bind λQY=>(r7 qe ir).bind λT2=>(stM qe T2 QY).bind λXL=>(some (IntKind.i64.wrap (ir-1))).bind λqc=>some (.inl (qc,XL,Fp))) λK53=>(bif QX then(some (mE 18446744073709551616 ML 1)).bind λT3=>(some (iQ.length:Int)).bind λXM=>(cf (λ(QZ:Int×Nat×(List Nat))=>match QZ with|⟨vY,uG,tq⟩=>(show Option ((Int×Nat×(List Nat))⊕(Nat×(List Nat)))from(some (decide ((vY:Int)<XM))).bind λGQ=>(bif GQ then(cX iQ vY).bind λMN=>(some (IntKind.i64.wrap (ir+vY))).bind λS7=>(some (IntKind.i64.wrap (ir+vY))).bind λx84=>(r7 tq x84).bind λT4=>(tq[T4]?).bind λEU=>(some (EU%18446744073709551616)).bind λXN=>(some (MN%18446744073709551616)).bind λQ0=>(some ((XN+Q0)%18446744073709551616)).bind λT5=>(bL T5 uG).bind λ⟨Q1,XO⟩=>(r7 tq S7).bind λS8=>(stM tq S8 Q1).bind λXP=>(some (IntKind.i64.wrap (vY+1))).bind λQ2=>some (.inl (Q2,XO,XP))else some (.inr (uG,tq))))) (0,0,S5)).bind λXQ=>match XQ with|⟨Dw,yL⟩=>(some (IntKind.i64.wrap (ir+fm))).bind λx97=>(some (IntKind.i64.wrap (ir+fm))).bind λAq=>(r7 yL Aq).bind λH8=>(yL[H8]?).bind λFq=>(some (Fq%18446744073709551616)).bind λAr=>(bL Ar Dw).bind λ⟨Q3,k72⟩=>(r7 yL x97).bind λT6=>(stM yL T6 Q3).bind λXR=>K53 (T3,XR)else K53 (ML,S5))else some (.inr (qe,tj))))) (qa,ua,gy)).bind λT7=>match T7 with|⟨yM,vZ⟩=>(C0 4 fm (0:Nat)).bind λFs=>(cf (λ(S9:Int×(List Nat))=>match S9 with|⟨rz,uH⟩=>(show Option ((Int×(List Nat))⊕((List Nat)))from(some (decide ((rz:Int)<fm))).bind λQ4=>(bif Q4 then(r7 vZ rz).bind λT8=>(vZ[T8]?).bind λT9=>(some (T9%18446744073709551616)).bind λQ5=>(some (IntKind.i64.wrap (rz+1))).bind λUa=>(r7 vZ Ua).bind λUb=>(vZ[Ub]?).bind λUc=>(some (Uc%18446744073709551616)).bind λQ6=>(some (Q6*2^32%18446744073709551616)).bind λQ7=>(some ((Q5 ||| Q7)%18446744073709551616)).bind λQ8=>(some (Q8/2^(min ic 64))).bind λUd=>(some (Ud%4294967296)).bind λQ9=>(r7 uH rz).bind λUe=>(stM uH Ue Q9).bind λXS=>(some (IntKind.i64.wrap (rz+1))).bind λRa=>some (.inl (Ra,XS))else some (.inr uH)))) (0,Fs)).bind λoQ=>some (yM,oQ)
noncomputable def eY(x0:List Nat)(x1:List Nat):Option ((List Nat)×(List Nat)):=(cE x0 x1).bind λdw=>(some (decide ((dw:Int)<0))).bind λjB=>(bif jB then(cQ x0).bind λdS=>some ([],dS)else(some (x0.length:Int)).bind λfg=>(some (decide ((fg:Int)<=2))).bind λkq=>(bif kq then(c9 x0).bind λgG=>(c9 x1).bind λiI=>(BF 18446744073709551616 gG iI).bind λkV=>(dU false kV).bind λ⟨uI,sn⟩=>(Ak gG iI).bind λpA=>(dU false pA).bind λ⟨sq,qf⟩=>some (sn,qf)else(some (x1.length:Int)).bind λud=>(some (decide ((ud:Int)=1))).bind λxz=>(bif xz then(cQ x0).bind λpL=>(cX x1 0).bind λqa=>(some (qa%18446744073709551616)).bind λuE=>(gk pL uE).bind λ⟨ES,l5⟩=>(sg pL l5).bind λ_=>(some (ES%4294967296)).bind λxQ=>some (l5,[xQ])else(gS x0 x1).bind λ⟨Uf,Ug⟩=>some (Uf,Ug))))
noncomputable def bW(x0:Int):Option (Zr):=(some ((x0%18446744073709551616).toNat)).bind λx5=>(some (decide ((x0:Int)<0))).bind λx7=>cj (λ(Dx:Nat)=>(some (decide ((x0:Int)<0))).bind λfV=>(dU fV Dx).bind λ⟨Ov,Ow⟩=>some ⟨Ov,Ow⟩) λK2=>(bif x7 then(some (mE 18446744073709551616 0 x5)).bind λx9=>K2 x9 else K2 x5)
noncomputable def cV(x0:Zr):Option (Int×Bool):=match x0 with|⟨bu,bt⟩=>(bn bt).bind λx8=>(some (x8.length:Int)).bind λec=>(some (decide ((2:Int)<ec))).bind λfV=>(bif fV then some (0,false)else(c9 x8).bind λjB=>(bif bu then(some (decide ((9223372036854775808:Nat)<jB))).bind λfm=>(bif fm then some (0,false)else(some (mE 18446744073709551616 0 jB)).bind λkq=>(some (IntKind.i64.wrap (kq:Int))).bind λja=>some (ja,true))else(some (decide ((9223372036854775808:Nat)<=jB))).bind λiP=>(bif iP then some (0,false)else(some (IntKind.i64.wrap (jB:Int))).bind λic=>some (ic,true))))
noncomputable def cK(x0:Bool)(x1:List Nat)(x2:Bool)(x3:List Nat):Option (Zr):=(some (x0==x2)).bind λfV=>(bif fV then(dO x1 x3).bind λdS=>(bY x0 dS).bind λ⟨jo,jq⟩=>some ⟨jo,jq⟩else(cE x1 x3).bind λkq=>(some (decide ((kq:Int)<0))).bind λja=>(bif ja then(cH x3 x1).bind λic=>(bY x2 ic).bind λ⟨pB,n6⟩=>some ⟨pB,n6⟩else(cH x1 x3).bind λij=>(bY x0 ij).bind λ⟨uJ,uK⟩=>some ⟨uJ,uK⟩))
noncomputable def kX(x0:Zr)(x1:Zr):Option (Zr):=match x0 with|⟨bu,bt⟩=>match x1 with|⟨cc,bX⟩=>(cV ⟨bu,bt⟩).bind λ⟨As,Ft⟩=>(cV ⟨cc,bX⟩).bind λ⟨BS,Fu⟩=>cj (λ(yN:Bool)=>cj (λ(j5:Unit)=>(bn bt).bind λxP=>(bn bX).bind λqc=>(cK bu xP cc qc).bind λ⟨Dy,Dz⟩=>some ⟨Dy,Dz⟩) λK5=>(bif yN then(some (IntKind.i64.wrap (As+BS))).bind λkV=>(some (IntKind.i64.wrap ((BitVec.ofInt 64 As ^^^ BitVec.ofInt 64 kV).toNat))).bind λij=>(some (IntKind.i64.wrap ((BitVec.ofInt 64 BS ^^^ BitVec.ofInt 64 kV).toNat))).bind λiQ=>(some (IntKind.i64.wrap ((BitVec.ofInt 64 ij &&& BitVec.ofInt 64 iQ).toNat))).bind λmu=>(some (decide ((0:Int)<=mu))).bind λm7=>(bif m7 then(bW kV).bind λ⟨qg,qh⟩=>some ⟨qg,qh⟩else K5 ())else K5 ())) λK3=>(bif Ft then some Fu else some false).bind λDA=>K3 DA
noncomputable def kY(x0:Zr)(x1:Zr):Option (Zr):=match x0 with|⟨bu,bt⟩=>match x1 with|⟨cc,bX⟩=>(cV ⟨bu,bt⟩).bind λ⟨As,Ft⟩=>(cV ⟨cc,bX⟩).bind λ⟨BS,Fu⟩=>cj (λ(yN:Bool)=>cj (λ(j5:Unit)=>(bn bt).bind λxP=>(some (!cc)).bind λuE=>(bn bX).bind λuc=>(cK bu xP uE uc).bind λ⟨Ox,Oy⟩=>some ⟨Ox,Oy⟩) λK5=>(bif yN then(some (IntKind.i64.wrap (As-BS))).bind λkV=>(some (IntKind.i64.wrap ((BitVec.ofInt 64 As ^^^ BitVec.ofInt 64 BS).toNat))).bind λij=>(some (IntKind.i64.wrap ((BitVec.ofInt 64 As ^^^ BitVec.ofInt 64 kV).toNat))).bind λiQ=>(some (IntKind.i64.wrap ((BitVec.ofInt 64 ij &&& BitVec.ofInt 64 iQ).toNat))).bind λmu=>(some (decide ((0:Int)<=mu))).bind λm7=>(bif m7 then(bW kV).bind λ⟨qg,qh⟩=>some ⟨qg,qh⟩else K5 ())else K5 ())) λK3=>(bif Ft then some Fu else some false).bind λDA=>K3 DA
noncomputable def da(x0:Zr)(x1:Zr):Option (Zr):=match x0 with|⟨bu,bt⟩=>match x1 with|⟨cc,bX⟩=>(bn bt).bind λx9=>(bn bX).bind λdw=>cj (λ(JK:Bool)=>(bif JK then(some (!(bu==cc))).bind λm6=>(c9 x9).bind λgy=>(c9 dw).bind λij=>(some ((gy*ij)%18446744073709551616)).bind λvX=>(dU m6 vX).bind λ⟨Oz,OA⟩=>some ⟨Oz,OA⟩else(some (!(bu==cc))).bind λud=>(eX x9 dw).bind λpL=>(bY ud pL).bind λ⟨wW,wX⟩=>some ⟨wW,wX⟩)) λK3=>(some (x9.length:Int)).bind λeK=>(some (decide ((eK:Int)<=1))).bind λdS=>(bif dS then(some (dw.length:Int)).bind λfg=>(some (decide ((fg:Int)<=1))).bind λkq=>some kq else some false).bind λOB=>K3 OB
noncomputable def fH(x0:Zr):Option (Zr):=match x0 with|⟨bu,bt⟩=>(some (!bu)).bind λx5=>(bn bt).bind λx8=>(cQ x8).bind λx9=>(bY x5 x9).bind λ⟨qi,qj⟩=>some ⟨qi,qj⟩
noncomputable def kZ(x0:Zr):Option (Zr):=match x0 with|⟨bu,bt⟩=>(bn bt).bind λx5=>(cQ x5).bind λx6=>(bY false x6).bind λ⟨tu,tw⟩=>some ⟨tu,tw⟩
noncomputable def cz(x0:Zr):Option (Int):=match x0 with|⟨bu,bt⟩=>(bn bt).bind λx6=>(some (x6.length:Int)).bind λx7=>(some (decide ((x7:Int)=0))).bind λx8=>(bif x8 then some 0 else(bif bu then some (-1)else some 1))
noncomputable def k7(x0:Zr)(x1:Zr):Option (Int):=match x0 with|⟨bu,bt⟩=>match x1 with|⟨cc,bX⟩=>(cz ⟨bu,bt⟩).bind λx8=>(cz ⟨cc,bX⟩).bind λec=>(some (decide ((x8:Int)<ec))).bind λeK=>(bif eK then some (-1)else(some (decide ((ec:Int)<x8))).bind λfg=>(bif fg then some 1 else(some (decide ((x8:Int)<0))).bind λgG=>(bif gG then(bn bX).bind λic=>(bn bt).bind λgy=>(cE ic gy).bind λkW=>some kW else(bn bt).bind λpA=>(bn bX).bind λm7=>(cE pA m7).bind λvG=>some vG)))
noncomputable def ei(x0:Zr)(x1:Zr):Option (Zr×Zr×Int):=match x0 with|⟨bu,bt⟩=>match x1 with|⟨cc,bX⟩=>(bn bt).bind λjB=>(bn bX).bind λfo=>(some (fo.length:Int)).bind λfg=>(some (decide ((fg:Int)=0))).bind λkq=>(bif kq then some (⟨false,[]⟩,⟨false,[]⟩,7)else(eY jB fo).bind λ⟨yO,BT⟩=>(bn BT).bind λij=>cj (λ(j3:Bool×Bool)=>match j3 with|⟨JM,tB⟩=>cj (λ(j5:(List Nat)×(List Nat))=>match j5 with|⟨JN,DB⟩=>(some (!(tB==cc))).bind λuc=>(bY uc JN).bind λ⟨DC,DD⟩=>(bY false DB).bind λ⟨OC,OD⟩=>some (⟨DC,DD⟩,⟨OC,OD⟩,0)) λK5=>(bif JM then(dO yO [1]).bind λpL=>(cH fo ij).bind λqa=>K5 (pL,qa)else K5 (yO,ij))) λK3=>(bif bu then(some (ij.length:Int)).bind λm7=>(some (decide ((0:Int)<m7))).bind λvG=>some vG else some false).bind λOE=>K3 (OE,bu))
noncomputable def jr(x0:Zr)(x1:Zr):Option (Zr):=match x0 with|⟨bu,bt⟩=>match x1 with|⟨cc,bX⟩=>(bn bt).bind λjB=>(bn bX).bind λfo=>(cf (λ(ET:(List Nat)×(List Nat))=>match ET with|⟨H9,BU⟩=>(show Option (((List Nat)×(List Nat))⊕((List Nat)×(List Nat)))from cj (λ(Fv:Bool)=>(bif Fv then(eY H9 BU).bind λ⟨XT,Uh⟩=>(bn Uh).bind λua=>some (.inl (BU,ua))else some (.inr (H9,BU)))) λXU=>(some (BU.length:Int)).bind λfg=>(some (decide ((0:Int)<fg))).bind λkq=>(bif kq then(some (H9.length:Int)).bind λiP=>(some (decide ((2:Int)<iP))).bind λiI=>(bif iI then some true else(some (BU.length:Int)).bind λkV=>(some (decide ((2:Int)<kV))).bind λgy=>some gy).bind λJO=>some JO else some false).bind λJP=>XU JP)) (jB,fo)).bind λL1=>match L1 with|⟨JQ,JR⟩=>(some (JR.length:Int)).bind λkU=>(some (decide ((kU:Int)=0))).bind λxP=>(bif xP then(cQ JQ).bind λBQ=>(bY false BQ).bind λ⟨OF,OG⟩=>some ⟨OF,OG⟩else(c9 JQ).bind λqc=>(c9 JR).bind λxQ=>(cf (λ(Ta:Nat×Nat)=>match Ta with|⟨GR,v5⟩=>(show Option ((Nat×Nat)⊕(Nat))from(some (decide ((0:Nat)<v5))).bind λAa=>(bif Aa then(Ak GR v5).bind λAt=>some (.inl (v5,At))else some (.inr GR)))) (qc,xQ)).bind λA7=>(dU false A7).bind λ⟨OH,OI⟩=>some ⟨OH,OI⟩)
end
section
open Go.Fw Go.Fw.Z Go.RowKit
theorem dP(c:Nat):Qw ah 143 [.v (.int .u64 (c:Nat))] 157 104 [.v (.int .u64 (c:Nat))]:=by
 refine Ff Tryz.func143 Y (af Y) (λdy M vs hvs=>?_);exact sr<|RT.Bv .none (s:=.sv _) Y T Y Y<|ag Y<|dn<|sr<|RT.makeFunc .none (.box Y (.nil)) T<|an (s:=.fe _ _) Y<|dn<|bf<|⟨.inr Y,_,.tmp Y,Y⟩
theorem qk(a b:List Nat):Pure ah 160 [(slc 1 (List.map aY a)),(slc 1 (List.map aY b))] (oK 169 [ref [(slc 1 (List.map aY a))],ref [(slc 1 (List.map aY b))]]):=by
 refine aZ Tryz.func160 Y (af Y) (λdy M vs hvs=>?_);refine sr<|RT.Bv .none (s:=.sv _) Y T Y Y<|RT.Bv .none (s:=.sv _) Y T Y Y<|ag Y<|dn<|sr<|RT.makeFunc .none (.box Y (.box Y (.nil))) T<|an (s:=.fe _ _) Y<|dn<|bO (kz (i:=2) Y [(slc 1 (List.map aY a))] (.cons Y .nil) .any 0 [(4,.fe 169 [.val (ref [(slc 1 (List.map aY a))]),.box 3])] (λ_ _ _=>trivial) (sL.h (l:=[(slc 1 (List.map aY a))])) ⟨@FT.fe _ _ _ _ _ 4 169 [.box 2,.box 3] Y,aq⟩) ?_;exact bO (kz (i:=3) Y [(slc 1 (List.map aY b))] (.cons Y .nil) .any 0 [(4,.fe 169 [.val (ref [(slc 1 (List.map aY a))]),.val (ref [(slc 1 (List.map aY b))])])] (λ_ _ _=>trivial) (sL.h (l:=[(slc 1 (List.map aY b))])) ⟨@FT.fe _ _ _ _ _ 4 169 [.val (ref [(slc 1 (List.map aY a))]),.box 3] Y,aq⟩)<|bO (BD 4 (oK 169 [ref [(slc 1 (List.map aY a))],ref [(slc 1 (List.map aY b))]]) (λ_ _ h=>BE h))<|bf<|⟨.inr Y,Bz (.tmp Y (.nil)) Y⟩
theorem ql(a b:List Nat):Iter ah 169 [ref [(slc 1 (List.map aY a))],ref [(slc 1 (List.map aY b))]] (max a.length b.length) (λk=>[.v (.int .u64 ((a.getD k 0%18446744073709551616:Nat):Int)),.v (.int .u64 ((b.getD k 0%18446744073709551616:Nat):Int))]):=by
 refine oM Tryz.func169 Y Y (af Y) (λdy M O l J hJ vH hr=>?_);obtain⟨pJ,vH⟩:=vH;have hla:a.length<=9223372036854775807:=by cases pJ with|nil=>exact vH.elim|cons _ pJ=>exact rj vH.1
 have hlb:b.length<=9223372036854775807:=by cases pJ with|nil=>exact vH.elim|cons _ pJ=>cases pJ with|nil=>exact vH.2.elim|cons _ _=>exact rj vH.2.1
 refine bz ?_;refine aW ?_;refine RT.cD .none Y Y (tl Y) ?_;refine RT.len .none Y (tl Y) ?_;refine RT.cD .none Y Y (tl Y) ?_;refine RT.len .none Y (tl Y) ?_;refine RT.max .none (((max a.length b.length:Nat):Int)) Y Y (tl Y) (by simp only[List.length_map];split<;>omega) ?_;refine RT.mv .none Y (tl Y) ?_;refine RT.done ?_;refine aV.n ?_;refine bj ?_
 refine uf (I:=λx:{i:Nat//i<=max a.length b.length}=>AS.cu 39 [(0,.sv (.v (.func (.yield l) #[] #[]))),(1,.sv (ref [(slc 1 (List.map aY a))])),(2,.sv (ref [(slc 1 (List.map aY b))])),(11,ai ((max a.length b.length:Nat):Int)),(12,ai ((x.1:Nat):Int))] [] [] (x.1)) (μ:=λx=>max a.length b.length-x.1) ⟨0,by omega⟩ (by(try dsimp only);exact c8 id Y Y Y Y Y ⟨.sv (by first|exact au|exact SV.aX (by omega)|exact SV.aX (by push_cast;omega)|exact SV.aX (by dsimp only;omega)|exact SV.imp_eq (by simp)),.sv (by first|exact au|exact SV.aX (by omega)|exact SV.aX (by push_cast;omega)|exact SV.aX (by dsimp only;omega)|exact SV.imp_eq (by simp)),.sv (by first|exact au|exact SV.aX (by omega)|exact SV.aX (by push_cast;omega)|exact SV.aX (by dsimp only;omega)|exact SV.imp_eq (by simp)),.sv (by first|exact au|exact SV.aX (by omega)|exact SV.aX (by push_cast;omega)|exact SV.aX (by dsimp only;omega)|exact SV.imp_eq (by simp)),.sv (by first|exact au|exact SV.aX (by omega)|exact SV.aX (by push_cast;omega)|exact SV.aX (by dsimp only;omega)|exact SV.imp_eq (by simp)),aq⟩ trivial trivial (λ_ _=>Y)) ?_;rintro⟨i,On⟩
 try dsimp only
 rcases yG a b i On with⟨hi,vN,AU⟩|⟨hi,vN,AU⟩|⟨hi,vN,AU⟩|hi
 ·
  refine bz ?_;refine aW ?_;refine RT.lss .none (true) Y Y (tl Y) (by simp;omega) ?_;refine RT.done ?_;refine aV.n ?_;refine bz ?_;refine cw Y ?_;refine bp ?_;refine aV.n ?_;refine bz ?_;refine bj ?_;refine bz ?_;refine aW ?_;refine RT.mv .none Y (tl Y) ?_;refine RT.yq .none Y (tl Y) ?_;refine RT.done ?_;refine aV.n ?_;refine bz ?_;refine aW ?_;refine RT.yq .none Y (tl Y) ?_;refine RT.yq .none Y (tl Y) ?_;refine RT.done ?_;refine aV.n ?_;refine bz ?_;refine bz ?_;refine aW ?_;refine RT.mv .none Y (tl Y) ?_;refine RT.cD .none Y Y (tl Y) ?_;refine RT.len .none Y (tl Y) ?_;refine RT.lss .none (true) Y Y (tl Y) (by simp only[List.length_map];simp;omega) ?_;refine RT.done ?_;refine aV.n ?_;refine cw Y ?_;refine aW ?_;refine RT.cD .none Y Y (tl Y) ?_;refine RT.mv .none Y (tl Y) ?_;refine RT.Jc .none [.v (.int .u32 ((a.getD i 0:Nat):Int))] (Int.natCast_nonneg i) (by rw[Int.toNat_natCast,List.getElem?_map,pW vN];rfl) Y Y (tl Y) ?_;refine RT.cD .none Y Y (tl Y) ?_;refine RT.conv .none (((a.getD i 0%18446744073709551616:Nat):Int)) Y (tl Y) Mt ?_;refine RT.yq .none Y (tl Y) ?_;refine RT.done ?_;refine aV.n ?_;refine bz ?_;refine bz ?_;refine aW ?_;refine RT.mv .none Y (tl Y) ?_
  refine RT.cD .none Y Y (tl Y) ?_;refine RT.len .none Y (tl Y) ?_;refine RT.lss .none (true) Y Y (tl Y) (by simp only[List.length_map];simp;omega) ?_;refine RT.done ?_;refine aV.n ?_;refine cw Y ?_;refine aW ?_;refine RT.cD .none Y Y (tl Y) ?_;refine RT.mv .none Y (tl Y) ?_;refine RT.Jc .none [.v (.int .u32 ((b.getD i 0:Nat):Int))] (Int.natCast_nonneg i) (by rw[Int.toNat_natCast,List.getElem?_map,pW AU];rfl) Y Y (tl Y) ?_;refine RT.cD .none Y Y (tl Y) ?_;refine RT.conv .none (((b.getD i 0%18446744073709551616:Nat):Int)) Y (tl Y) Mt ?_;refine RT.yq .none Y (tl Y) ?_;refine RT.done ?_;refine aV.n ?_;refine bz ?_;refine aW ?_;refine RT.mv .none Y (tl Y) ?_;refine RT.mv .none Y (tl Y) ?_;refine RT.mv .none Y (tl Y) ?_;refine RT.yield .none hr Y (λ_ h=>h) Y (i) Y Y hi (by exact⟨Y,Y,aq⟩) (tl Y) (λyb=>?_);cases yb
  ·
   refine RT.not .none Y (tl Y) true Y ?_;refine RT.done ?_;refine aV.n ?_;refine cw Y ?_;refine bf ?_;refine bw.r ?_;refine aV.r ?_;refine aV.r ?_;refine bw.r ?_;exact⟨.inr rfl,(λh=>by cases h)⟩
  refine RT.not .none Y (tl Y) false Y ?_;refine RT.done ?_;refine aV.n ?_;refine dm Y ?_;refine bp ?_;refine bw.n ?_;refine aV.n ?_;refine aW ?_;refine RT.add .none (((i:Nat):Int)+1) Y Y (tl Y) (jF (by omega)) ?_;refine RT.mv .none Y (tl Y) ?_;refine RT.done ?_;refine aV.n ?_;refine⟨⟨i+1,by omega⟩,(by dsimp only;omega),?_⟩
  try dsimp only
  exact c8 id Y Y Y Y Y ⟨.sv (by first|exact au|exact SV.aX (by omega)|exact SV.aX (by push_cast;omega)|exact SV.aX (by dsimp only;omega)|exact SV.imp_eq (by simp)),.sv (by first|exact au|exact SV.aX (by omega)|exact SV.aX (by push_cast;omega)|exact SV.aX (by dsimp only;omega)|exact SV.imp_eq (by simp)),.sv (by first|exact au|exact SV.aX (by omega)|exact SV.aX (by push_cast;omega)|exact SV.aX (by dsimp only;omega)|exact SV.imp_eq (by simp)),.sv (by first|exact au|exact SV.aX (by omega)|exact SV.aX (by push_cast;omega)|exact SV.aX (by dsimp only;omega)|exact SV.imp_eq (by simp)),.sv (by first|exact au|exact SV.aX (by omega)|exact SV.aX (by push_cast;omega)|exact SV.aX (by dsimp only;omega)|exact SV.imp_eq (by simp)),aq⟩ trivial trivial (λ_ _=>Y)
 ·
  refine bz ?_;refine aW ?_;refine RT.lss .none (true) Y Y (tl Y) (by simp;omega) ?_;refine RT.done ?_;refine aV.n ?_;refine bz ?_;refine cw Y ?_;refine bp ?_;refine aV.n ?_;refine bz ?_;refine bj ?_;refine bz ?_;refine aW ?_;refine RT.mv .none Y (tl Y) ?_;refine RT.yq .none Y (tl Y) ?_;refine RT.done ?_;refine aV.n ?_;refine bz ?_;refine aW ?_;refine RT.yq .none Y (tl Y) ?_;refine RT.yq .none Y (tl Y) ?_;refine RT.done ?_;refine aV.n ?_;refine bz ?_;refine bz ?_;refine aW ?_;refine RT.mv .none Y (tl Y) ?_;refine RT.cD .none Y Y (tl Y) ?_;refine RT.len .none Y (tl Y) ?_;refine RT.lss .none (true) Y Y (tl Y) (by simp only[List.length_map];simp;omega) ?_;refine RT.done ?_;refine aV.n ?_;refine cw Y ?_;refine aW ?_;refine RT.cD .none Y Y (tl Y) ?_;refine RT.mv .none Y (tl Y) ?_;refine RT.Jc .none [.v (.int .u32 ((a.getD i 0:Nat):Int))] (Int.natCast_nonneg i) (by rw[Int.toNat_natCast,List.getElem?_map,pW vN];rfl) Y Y (tl Y) ?_;refine RT.cD .none Y Y (tl Y) ?_;refine RT.conv .none (((a.getD i 0%18446744073709551616:Nat):Int)) Y (tl Y) Mt ?_;refine RT.yq .none Y (tl Y) ?_;refine RT.done ?_;refine aV.n ?_;refine bz ?_;refine bz ?_;refine aW ?_;refine RT.mv .none Y (tl Y) ?_
  refine RT.cD .none Y Y (tl Y) ?_;refine RT.len .none Y (tl Y) ?_;refine RT.lss .none (false) Y Y (tl Y) (by simp only[List.length_map];simp;omega) ?_;refine RT.done ?_;refine aV.n ?_;refine dm Y ?_;refine bp ?_;refine aV.n ?_;refine bz ?_;refine aW ?_;refine RT.mv .none Y (tl Y) ?_;refine RT.mv .none Y (tl Y) ?_;refine RT.mv .none Y (tl Y) ?_;refine RT.yield .none hr Y (λ_ h=>h) Y (i) Y Y hi (by exact⟨Y,(by show AV.sv _=AV.sv _;rw[tc AU];rfl),aq⟩) (tl Y) (λyb=>?_);cases yb
  ·
   refine RT.not .none Y (tl Y) true Y ?_;refine RT.done ?_;refine aV.n ?_;refine cw Y ?_;refine bf ?_;refine bw.r ?_;refine aV.r ?_;refine aV.r ?_;refine bw.r ?_;exact⟨.inr rfl,(λh=>by cases h)⟩
  refine RT.not .none Y (tl Y) false Y ?_;refine RT.done ?_;refine aV.n ?_;refine dm Y ?_;refine bp ?_;refine bw.n ?_;refine aV.n ?_;refine aW ?_;refine RT.add .none (((i:Nat):Int)+1) Y Y (tl Y) (jF (by omega)) ?_;refine RT.mv .none Y (tl Y) ?_;refine RT.done ?_;refine aV.n ?_;refine⟨⟨i+1,by omega⟩,(by dsimp only;omega),?_⟩
  try dsimp only
  exact c8 id Y Y Y Y Y ⟨.sv (by first|exact au|exact SV.aX (by omega)|exact SV.aX (by push_cast;omega)|exact SV.aX (by dsimp only;omega)|exact SV.imp_eq (by simp)),.sv (by first|exact au|exact SV.aX (by omega)|exact SV.aX (by push_cast;omega)|exact SV.aX (by dsimp only;omega)|exact SV.imp_eq (by simp)),.sv (by first|exact au|exact SV.aX (by omega)|exact SV.aX (by push_cast;omega)|exact SV.aX (by dsimp only;omega)|exact SV.imp_eq (by simp)),.sv (by first|exact au|exact SV.aX (by omega)|exact SV.aX (by push_cast;omega)|exact SV.aX (by dsimp only;omega)|exact SV.imp_eq (by simp)),.sv (by first|exact au|exact SV.aX (by omega)|exact SV.aX (by push_cast;omega)|exact SV.aX (by dsimp only;omega)|exact SV.imp_eq (by simp)),aq⟩ trivial trivial (λ_ _=>Y)
 ·
  refine bz ?_;refine aW ?_;refine RT.lss .none (true) Y Y (tl Y) (by simp;omega) ?_;refine RT.done ?_;refine aV.n ?_;refine bz ?_;refine cw Y ?_;refine bp ?_;refine aV.n ?_;refine bz ?_;refine bj ?_;refine bz ?_;refine aW ?_;refine RT.mv .none Y (tl Y) ?_;refine RT.yq .none Y (tl Y) ?_;refine RT.done ?_;refine aV.n ?_;refine bz ?_;refine aW ?_;refine RT.yq .none Y (tl Y) ?_;refine RT.yq .none Y (tl Y) ?_;refine RT.done ?_;refine aV.n ?_;refine bz ?_;refine bz ?_;refine aW ?_;refine RT.mv .none Y (tl Y) ?_;refine RT.cD .none Y Y (tl Y) ?_;refine RT.len .none Y (tl Y) ?_;refine RT.lss .none (false) Y Y (tl Y) (by simp only[List.length_map];simp;omega) ?_;refine RT.done ?_;refine aV.n ?_;refine dm Y ?_;refine bp ?_;refine aV.n ?_;refine bz ?_;refine bz ?_;refine aW ?_;refine RT.mv .none Y (tl Y) ?_;refine RT.cD .none Y Y (tl Y) ?_;refine RT.len .none Y (tl Y) ?_;refine RT.lss .none (true) Y Y (tl Y) (by simp only[List.length_map];simp;omega) ?_;refine RT.done ?_;refine aV.n ?_;refine cw Y ?_;refine aW ?_;refine RT.cD .none Y Y (tl Y) ?_;refine RT.mv .none Y (tl Y) ?_
  refine RT.Jc .none [.v (.int .u32 ((b.getD i 0:Nat):Int))] (Int.natCast_nonneg i) (by rw[Int.toNat_natCast,List.getElem?_map,pW AU];rfl) Y Y (tl Y) ?_;refine RT.cD .none Y Y (tl Y) ?_;refine RT.conv .none (((b.getD i 0%18446744073709551616:Nat):Int)) Y (tl Y) Mt ?_;refine RT.yq .none Y (tl Y) ?_;refine RT.done ?_;refine aV.n ?_;refine bz ?_;refine aW ?_;refine RT.mv .none Y (tl Y) ?_;refine RT.mv .none Y (tl Y) ?_;refine RT.mv .none Y (tl Y) ?_;refine RT.yield .none hr Y (λ_ h=>h) Y (i) Y Y hi (by exact⟨(by show AV.sv _=AV.sv _;rw[tc vN];rfl),Y,aq⟩) (tl Y) (λyb=>?_);cases yb
  ·
   refine RT.not .none Y (tl Y) true Y ?_;refine RT.done ?_;refine aV.n ?_;refine cw Y ?_;refine bf ?_;refine bw.r ?_;refine aV.r ?_;refine aV.r ?_;refine bw.r ?_;exact⟨.inr rfl,(λh=>by cases h)⟩
  refine RT.not .none Y (tl Y) false Y ?_;refine RT.done ?_;refine aV.n ?_;refine dm Y ?_;refine bp ?_;refine bw.n ?_;refine aV.n ?_;refine aW ?_;refine RT.add .none (((i:Nat):Int)+1) Y Y (tl Y) (jF (by omega)) ?_;refine RT.mv .none Y (tl Y) ?_;refine RT.done ?_;refine aV.n ?_;refine⟨⟨i+1,by omega⟩,(by dsimp only;omega),?_⟩
  try dsimp only
  exact c8 id Y Y Y Y Y ⟨.sv (by first|exact au|exact SV.aX (by omega)|exact SV.aX (by push_cast;omega)|exact SV.aX (by dsimp only;omega)|exact SV.imp_eq (by simp)),.sv (by first|exact au|exact SV.aX (by omega)|exact SV.aX (by push_cast;omega)|exact SV.aX (by dsimp only;omega)|exact SV.imp_eq (by simp)),.sv (by first|exact au|exact SV.aX (by omega)|exact SV.aX (by push_cast;omega)|exact SV.aX (by dsimp only;omega)|exact SV.imp_eq (by simp)),.sv (by first|exact au|exact SV.aX (by omega)|exact SV.aX (by push_cast;omega)|exact SV.aX (by dsimp only;omega)|exact SV.imp_eq (by simp)),.sv (by first|exact au|exact SV.aX (by omega)|exact SV.aX (by push_cast;omega)|exact SV.aX (by dsimp only;omega)|exact SV.imp_eq (by simp)),aq⟩ trivial trivial (λ_ _=>Y)
 subst hi;refine bz ?_;refine aW ?_;refine RT.lss .none (false) Y Y (tl Y) (by simp) ?_;refine RT.done ?_;refine aV.n ?_;refine bz ?_;refine dm Y ?_;refine bP ?_;refine aV.x ?_;refine aV.x ?_;refine bw.x ?_;exact⟨.inl Y,(λ_=>Y)⟩
theorem jb{x0 r:List Nat}(h:cQ x0=some r):Pure ah 123 [slc 1 (List.map aY x0)] (slc 1 (List.map aY r)):=by
 refine aZ Tryz.func123 Y (af Y) (λdy M vs hvs=>?_);unfold cQ at h;refine sr<|aI Y (aB (n:=1) (e:=aY))<|dn<|qq<|sr<|mv Y ?_;refine RT.Oj .none Y T (λnb hnb=>?_);cases nb;exact dn<|fs<|sr<|RT.BI (l:=([]:List Nat)) (e:=aY) .none .nil T Y T Y Y Y Y Y Y<|mv Y<|RT.Mz (k:=x0) (e:=aY) .none Y Y Y T Y T h<|ag Y<|dn<|bf<|RZ (.tmp Y .nil);have hx:x0=[]:=by simpa using hnb Y
 subst hx;obtain⟨_,_,rfl⟩:=uu h;exact dn<|cT<|sr<|aI Y (aB (n:=1) (e:=aY))<|dn<|bf<|aV.r<|RZ (.tmp Y .nil)
theorem v7{x0 r:List Nat}(h:cQ x0=some r):HQ ah 123 [slc 1 (List.map aY x0)] (TR 106 1 aY r):=by
 refine sP Tryz.func123 Y (af Y) (λdy M vs hvs=>?_);unfold cQ at h;refine sr<|ag Y<|dn<|qq<|sr<|mv Y ?_;refine RT.Oj .none Y T (λnb hnb=>?_);cases nb;exact dn<|fs<|sr<|RT.BI (l:=([]:List Nat)) (e:=aY) .none .nil T Y T Y Y Y Y Y Y<|mv Y<|aR (k:=x0) (e:=aY) Y Y Y h<|an (s:=.row _) Y<|dn<|bf<|⟨.inr Y,_,.tmp Y,Y⟩;have hx:x0=[]:=by simpa using hnb Y
 subst hx;obtain⟨_,_,rfl⟩:=uu h;exact dn<|cT<|sr<|ag Y<|dn<|bO (gj 2 300 106 1 Y Y T)<|bf<|aV.r<|⟨.inr Y,_,.tmp Y,Y⟩
theorem bZ{x0:Nat}{c0:Nat}{r:Nat×Nat}(h:bL x0 c0=some r):Jj ah 157 [.v (.int .u64 ((x0:Nat):Int))] 104 [.v (.int .u64 ((c0:Nat):Int))] (.v (.int .u32 ((r.1:Nat):Int))) [.v (.int .u64 ((r.2:Nat):Int))]:=by
 refine yy Tryz.func157 Y (af Y) (λdy M β=>?_);unfold bL at h;refine sr<|ag Y<|dn<|sr<|mv Y<|lV Y Y Y<|lE h λx6 h6 h=>ad _ Y Y (UK.add (a:=x0) (b:=c0) h6)<|ag Y<|dn<|sr<|mv Y<|lE h λx8 h8 h=>RT.shr .none _ Y Y T (by decide) (BG (k:=.u64) (a:=x6) (q:=32) (s:=32) Y h8)<|RT.nK (cells:=[_]) .none (s:=.sv _) Y Y Y T Y<|dn<|sr<|mv Y<|lE h λec gD h=>cv _ Y (UK.nat gD)<|ag Y ?_;refine dn<|bf ?_;obtain rfl:=O h;exact⟨.inr Y,lY (.tmp Y (.nil)) au,Y⟩
theorem bU{x0:List Nat}{r:List Nat}(h:bn x0=some r):Pure ah 99 [slc 1 (List.map aY x0)] (slc 1 (List.map aY r)):=by
 refine aZ Tryz.func99 Y (af Y) (λdy M vs hvs=>?_);unfold bn at h;refine sr<|aI Y (aB (n:=1) (e:=aY))<|dn<|qq<|bE h λJS BV rR=>?_;refine bJ (λ(HY:(List Nat))=>AS.cu 21 [(0,.sv (slc 1 (List.map aY HY)))] [] []) (λHY=>HY=JS) ?_ (λHY BW=>?_);refine bj ?_;refine bK BV (λA5=>AS.cu 21 [(0,.sv (slc 1 (List.map aY A5)))] [] []) (wR []) (λBO V4 V5 h BX yP=>?_)
 try dsimp only
 refine qq<|qq ?_;refine bB h (λJU=>AS.cu 21 [(0,.sv (slc 1 (List.map aY BO))),(14,aj JU)] [] []) (λh=>?_) (λFk h=>?_);refine aW<|mv Y<|lE h λx4 h4 h=>ln Y h4<|lE h λx5 h5 h=>gt _ Y Y h5<|mv Y<|bE h λJC eH h=>?_;cases x5;obtain rfl:=O (F eH);exact ww<|ww<|ww<|ww<|ww<|ww<|ww<|pF Y<|dn<|⟨false,h,wR []⟩;refine gm Y<|gm Y<|lE (V eH) λx9 h9 eH=>gn Y h9<|lE eH λec gD eH=>RT.sub (.some Y Y) _ Y Y T gD<|bE eH λfV l6 eH=>RT.Om (.some Y Y) Y Y T l6<|gr Y Y<|lE eH λjB mG eH=>S0 _ Y Y (Xk (p:=fV) (q:=0) mG) ?_;obtain rfl:=O eH;exact pT Y<|dn<|⟨jB,h,wR []⟩
 try dsimp only
 refine aV.n ?_;cases Fk;refine cF<|bP<|aV.x<|aV.x<|bw.x<|aV.n ?_;obtain rfl:=O (F h);exact⟨BO,yP _ Y,wR []⟩;refine cT<|bp<|aV.n<|bj<|aW<|mv Y<|mv Y<|lE (V h) λfm k8 h=>ln Y k8<|lE h λfg j0 h=>sb _ Y Y j0<|bE h λkq nc h=>RT.vT .none 0 fg Y Y ⟨_,Y⟩ T nc<|ag Y<|RT.done<|bw.n ?_;obtain rfl:=O h;exact aV.n ⟨kq,BX _ Y,wR []⟩;subst BW
 try dsimp only
 refine aV.n<|sr<|mv Y<|ag Y<|dn<|bf ?_;obtain rfl:=O rR;exact R1 Y
abbrev ax:SV:=slc 1 (List.map aY [])
theorem dD{x0:Bool}{x1:List Nat}{r:Zr}(h:bY x0 x1=some r):Pure ah 116 [az x0,slc 1 (List.map aY x1)] (.agg (eZ r)):=by
 refine aZ Tryz.func116 Y (af Y) (λdy M vs hvs=>?_);unfold bY at h;refine sr<|al (cs:=[az false,ax]) (by exact⟨au,aB,aq⟩) Y<|dn<|sr<|mv Y<|bE h λx6 h6 h=>cl (bU h6) ⟨Y,aq⟩<|ag Y<|dn<|qq<|sr<|mv Y<|lE h λx8 h8 h=>ln Y h8<|lE h λx9 h9 h=>eq _ Y Y (xy (p:=x8) (q:=0) h9)<|dn ?_;cases x9;refine fs<|sr<|mv Y<|mv Y<|bI (cs:=[_,_]) (cs':=[az x0,slc 1 (List.map aY x6)]) (.one Y (.one Y (.nil))) ⟨au,au,aq⟩<|so Y Y Y<|dn<|bf ?_;obtain rfl:=O (F h);exact RZ (.agg Y Y (.k2 Y Y) Y (.nil));refine cT<|sr<|bI (cs:=[_,_]) (cs':=[az false,ax]) (.nil) ⟨au,aB,aq⟩<|so Y Y Y<|dn<|bf<|aV.r ?_;obtain rfl:=O (V h);exact RZ (.agg Y Y (.k2 Y Y) Y (.nil))
theorem iu{x0:Bool}{x1:Nat}{r:Zr}(h:dU x0 x1=some r):Pure ah 114 [az x0,.v (.int .u64 ((x1:Nat):Int))] (.agg (eZ r)):=by
 refine aZ Tryz.func114 Y (af Y) (λdy M vs hvs=>?_);unfold dU at h;refine sr<|al (cs:=[az false,ax]) (by exact⟨au,aB,aq⟩) Y<|dn<|qq<|bj<|sr<|mv Y<|lE h λx7 h7 h=>eq _ Y Y (Xk (p:=x1) (q:=0) h7)<|ag Y<|dn ?_;cases x7;refine cF<|sr<|mv Y<|lE (F h) λfV l6 h=>RT.shr .none _ Y Y T (by decide) (BG (k:=.u64) (a:=x1) (q:=32) (s:=32) Y l6)<|lE h λdw fU h=>eq _ Y Y (Xk (p:=fV) (q:=0) fU)<|ag Y<|dn ?_;cases dw;refine cF<|bp<|bw.n<|aV.n<|sr<|mv Y<|mv Y<|lE (F h) λja oR h=>cv _ Y (UK.nat oR)<|mv Y<|lE h λiP n7 h=>RT.shr .none _ Y Y T (by decide) (BG (k:=.u64) (a:=x1) (q:=32) (s:=32) Y n7)<|lE h λiI pM h=>cv _ Y (UK.nat pM)<|bl (l:=[ja,iI]) (e:=aY) (.one Y (.one Y (.nil))) Y Y Y Y Y Y<|bI (cs:=[_,_]) (cs':=[az x0,slc 1 (List.map aY [ja,iI])]) (.one Y (.one Y (.nil))) ⟨au,au,aq⟩ ?_;refine so Y Y Y<|dn<|bf ?_;obtain rfl:=O h;exact RZ (.agg Y Y (.k2 Y Y) Y (.nil));refine cT<|sr<|mv Y<|mv Y<|lE (V h) λdS iV h=>cv _ Y (UK.nat iV)<|bl (l:=[dS]) (e:=aY) (.one Y (.nil)) Y Y Y Y Y Y<|bI (cs:=[_,_]) (cs':=[az x0,slc 1 (List.map aY [dS])]) (.one Y (.one Y (.nil))) ⟨au,au,aq⟩<|so Y Y Y<|dn<|bf<|bw.r<|aV.r ?_;obtain rfl:=O h;exact RZ (.agg Y Y (.k2 Y Y) Y (.nil))
 refine cT<|sr<|bI (cs:=[_,_]) (cs':=[az false,ax]) (.nil) ⟨au,aB,aq⟩<|so Y Y Y<|dn<|bf<|bw.r<|aV.r ?_;obtain rfl:=O (V h);exact RZ (.agg Y Y (.k2 Y Y) Y (.nil))
theorem gI{x0:List Nat}{r:Nat}(h:c9 x0=some r):Pure ah 115 [slc 1 (List.map aY x0)] (.v (.int .u64 ((r:Nat):Int))):=by
 refine aZ Tryz.func115 Y (af Y) (λdy M vs hvs=>?_);unfold c9 at h;refine sr<|ag Y<|dn<|qq<|sr<|mv Y<|lE h λx4 h4 h=>ln Y h4<|dn<|bj<|sr<|lE h λx6 h6 h=>eq _ Y Y (xy (p:=x4) (q:=0) h6)<|ag Y<|dn ?_;cases x6;refine cF<|sr<|lE (F h) λx8 h8 h=>eq _ Y Y (xy (p:=x4) (q:=1) h8)<|ag Y<|dn ?_;cases x8;refine cF<|bp<|bw.n<|aV.n<|qq<|bh mixed<|mv Y<|bE (F h) λeK jC h=>ix Y Y jC<|lr Y Y<|lE h λfo iW h=>cv _ Y (UK.nat iW)<|mv Y<|bE h λfg j0 h=>ix Y Y j0<|lr Y Y<|lE h λja oR h=>cv _ Y (UK.nat oR)<|lE h λgG nf h=>RT.shl .none _ Y Y T (by decide) (UK.shl (a:=ja) (q:=32) (s:=32) Y nf)<|lE h λiP n7 h=>RT.or .none _ Y Y T (UK.or (a:=fo) (b:=gG) n7) ?_;refine ag Y ?_;refine RT.done ⟨by kernel_rfl,?_⟩;refine aV.n<|bf ?_;obtain rfl:=O h;exact R1 Y;refine cT<|sr<|mv Y<|bE (V h) λec gD h=>ix Y Y gD<|lr Y Y<|lE h λdw fU h=>cv _ Y (UK.nat fU)<|ag Y<|dn<|bf<|bw.r<|aV.r ?_;obtain rfl:=O h;exact R1 Y;refine cT<|sr<|ag Y<|dn<|bf<|bw.r<|aV.r ?_;obtain rfl:=O (V h);exact R1 Y
theorem fu{x0:List Nat}{x1:List Nat}{r:Int}(h:cE x0 x1=some r):Pure ah 113 [slc 1 (List.map aY x0),slc 1 (List.map aY x1)] (ay r):=by
 refine aZ Tryz.func113 Y (af Y) (λdy M vs hvs=>?_);unfold cE at h;refine sr<|ag Y<|dn<|qq<|sr<|mv Y<|lE h λx7 h7 h=>ln Y h7<|mv Y<|lE h λx9 h9 h=>ln Y h9<|lE h λec gD h=>ne _ Y Y (HU (p:=x7) (q:=x9) gD)<|dn ?_;cases ec;refine fs<|qq<|sr<|mv Y<|lE (F h) λfm k8 h=>ln Y k8<|lE h λfg j0 h=>sb _ Y Y j0<|ag Y<|dn<|bE h λe6 Au jt=>?_;refine bJ (λ(Fx:Unit)=>AS.cu 41 [] [] []) (λFx=>.inl Fx=e6) ?_ (λFx Av=>?_);refine bj ?_;refine bK Au (λs6=>AS.cu 41 [(0,.sv (slc 1 (List.map aY x0))),(1,.sv (slc 1 (List.map aY x1))),(5,ai s6)] [] []) (wR []) (λlO y6 G6 h Aw v8=>?_)
 try dsimp only
 refine qq<|sr<|mv Y<|lE h λja oR h=>ge _ Y Y oR<|dn ?_;cases ja;refine cF<|bP<|aV.x<|aV.x<|bw.x<|aV.n ?_;obtain rfl:=O (F h);exact⟨(),v8 _ Y,wR []⟩;refine cT<|bp<|aV.n<|qq<|bj<|qq<|bh mixed<|mv Y<|mv Y<|bE (V h) λm6 oS h=>ix Y Y oS<|lr Y Y<|mv Y<|mv Y<|bE h λij m8 h=>ix Y Y m8<|lr Y Y<|lE h λpA xS h=>ne _ Y Y (VY (p:=m6) (q:=ij) xS) ?_;refine RT.done ⟨by kernel_rfl,?_⟩;refine aV.n ?_;cases pA;refine cF<|bp<|bw.n<|aV.n<|aW<|mv Y<|lE (F h) λiP n7 h=>sb _ Y Y n7<|ag Y<|RT.done ?_;obtain rfl:=O h;exact aV.n ⟨iP,Aw _ Y,wR []⟩;refine cT<|qq<|qq<|bh mixed<|mv Y<|mv Y<|bE (V h) λm7 rS h=>ix Y Y rS<|lr Y Y<|mv Y<|mv Y<|bE h λua DE h=>ix Y Y DE<|lr Y Y<|lE h λkU rA h=>ls _ Y Y (VZ (p:=m7) (q:=ua) rA) ?_;refine RT.done ⟨by kernel_rfl,?_⟩;refine aV.n ?_;cases kU;refine fs<|sr<|ag Y<|dn<|bf<|bw.r<|aV.r ?_;obtain rfl:=O (F h);have JV:=v8 _ Y;subst JV;refine aV.r<|bw.r<|aV.r<|aV.r ?_;obtain rfl:=O jt;exact R1 Y;refine cT<|sr<|ag Y<|dn<|bf<|aV.r<|bw.r<|aV.r ?_;obtain rfl:=O (V h);have JV:=v8 _ Y;subst JV;refine aV.r<|bw.r<|aV.r<|aV.r ?_;obtain rfl:=O jt;exact R1 Y;subst Av
 try dsimp only
 refine aV.n<|sr<|ag Y<|dn<|bf ?_;obtain rfl:=O jt;exact R1 Y;refine cT<|qq<|sr<|mv Y<|lE (V h) λdw fU h=>ln Y fU<|mv Y<|lE h λeK jC h=>ln Y jC<|lE h λdS iV h=>ls _ Y Y iV<|dn ?_;cases dS;refine fs<|sr<|ag Y<|dn<|bf<|aV.r ?_;obtain rfl:=O (F h);exact R1 Y;refine cT<|sr<|ag Y<|dn<|bf<|aV.r<|aV.r ?_;obtain rfl:=O (V h);exact R1 Y
theorem ny{x0:List Nat}{x1:List Nat}{r:List Nat}(h:dO x0 x1=some r):Pure ah 147 [slc 1 (List.map aY x0),slc 1 (List.map aY x1)] (slc 1 (List.map aY r)):=by
 refine aZ Tryz.func147 Y (af Y) (λdy M vs hvs=>?_);unfold dO at h;refine sr<|aI Y (aB (n:=1) (e:=aY))<|dn<|sr<|mv Y<|lE h λec gD h=>ln Y gD<|mv Y<|lE h λdw fU h=>ln Y fU<|lE h λjB mG h=>RT.max .none _ Y Y T (Mw (p:=ec) (q:=dw) mG)<|lE h λeK jC h=>ad _ Y Y jC<|bE h λdS iV h=>RT.GL (e:=aY) .none Y Y T Y T iV<|RT.alloc .none T Y Y<|RT.pR (cells:=[_]) .none Y Y Y Y T Y<|dn<|sr<|RT.yz .none (dP 0) Y ⟨Y,aq⟩ T Y Y ?_;refine RT.alloc .none T Y Y<|RT.nK (cells:=[_]) .none (s:=.fe _ _) Y Y Y T Y<|dn<|qq<|sr<|mv Y<|mv Y<|cl (qk x0 x1) ⟨Y,Y,aq⟩<|dn<|bj<|bE h λe7 Ui MO=>?_;obtain⟨Ia,Uj,Uk,Ul⟩:=n5 Ui
 refine lZ (ql x0 x1) (λ_ _ _ _ _=>trivial) Y (λk=>AS.cu 35 [(5,.ptr 5 0),(6,.ptr 6 0),(19,.sv (oK 169 [ref [slc 1 (List.map aY x0)],ref [slc 1 (List.map aY x1)]]))] [(6,⟨141,[.fe 157 [.box 16]]⟩),(16,⟨104,[.sv (.v (.int .u64 (((Ia k).1:Nat):Int)))]⟩),(5,⟨32,[.row 302]⟩)] [(302,TR 106 1 aY (Ia k).2)]) [6,16,5] Y (λ_=>⟨Y,Y⟩) (sS Y) (λ_=>Y) (sV Y) (by(try dsimp only);rw[Uj];(try dsimp only);exact c8 (λi=>bif Nat.beq i 302 then 15 else i) Y Y Y Y Y ⟨.ptr,.ptr,.sv au,aq⟩ ⟨⟨_,Y,⟨.fe,aq⟩⟩,⟨_,Y,⟨.sv au,aq⟩⟩,⟨_,Y,⟨.row Y,aq⟩⟩,aq⟩ ⟨⟨_,Y,eW.refl _⟩,aq⟩ (λi hi=>by rw[cA (show i≠302 by omega)];rfl)) (λk hk D hD=>?_) ?_;have h:=Uk k hk;obtain⟨sk,Rb⟩:∃q,Ia k=q:=⟨_,Y⟩;rw[Rb]at h⊢;obtain⟨uz,iq⟩:=sk;dsimp only[AS.Mr,r6]
 try dsimp only at h
 refine lE h λXA XV h=>?_;rw[XV];refine lE h λXB XW h=>?_;rw[XW];refine sr<|ag Y<|dn<|aW<|ag Y<|RT.done ?_;refine aV.n ⟨Y,?_⟩;dsimp only[AS.BC];refine bj<|bh mixed<|RT.nr .none (s:=.row _) Y Y Y T<|RT.nr .none (s:=.fe _ _) Y Y Y T<|mv Y<|mv Y<|lE h λkV rT h=>ad _ Y Y (UK.add (a:=XA) (b:=XB) rT) ?_;obtain⟨⟨gy,k9⟩,m9,h⟩:=bS h;refine cB (bZ m9) 16 Y ⟨Y,aq⟩<|bl (l:=[gy]) (e:=aY) (.one Y (.nil)) Y Y Y Y Y Y<|bE h λij m8 h=>aR (k:=[gy]) (e:=aY) Y Y Y m8<|RT.pR (cells:=[_]) .none Y Y Y Y T Y ?_;refine RT.done ⟨by kernel_rfl,?_⟩;refine bw.n ?_;replace h:=Option.some.inj h;refine⟨aq,Y,Y,?_⟩
 try dsimp only
 rw[<-h]
 try dsimp only
 exact c8 (λi=>bif Nat.beq i 302 then 29 else i) Y Y Y Y Y ⟨.ptr,.ptr,.sv au,aq⟩ ⟨⟨_,Y,⟨.fe,aq⟩⟩,⟨_,Y,⟨.sv au,aq⟩⟩,⟨_,Y,⟨.row Y,aq⟩⟩,aq⟩ ⟨⟨_,Y,eW.refl _⟩,aq⟩ (λi hi=>by rw[cA (show i≠302 by omega)];rfl);rw[Ul];obtain⟨uz,iq⟩:=e7
 try dsimp only
 refine bw.n<|aV.n<|qq<|bh mixed<|RT.nr .none (s:=.row _) Y Y Y T<|RT.nr .none (s:=.fe _ _) Y Y Y T ?_;obtain⟨⟨iQ,k11⟩,nP,MO⟩:=bS MO;refine cB (bZ nP) 16 Y ⟨Y,aq⟩<|bl (l:=[iQ]) (e:=aY) (.one Y (.nil)) Y Y Y Y Y Y<|bE MO λm7 rS MO=>RT.Mz (k:=[iQ]) (e:=aY) .none Y Y Y T Y T rS<|ag Y ?_;refine RT.done ⟨by kernel_rfl,?_⟩;refine aV.n<|bf ?_;obtain rfl:=O MO;exact R1 Y
theorem jG{x0:List Nat}{x1:List Nat}{r:List Nat}(h:cH x0 x1=some r):Pure ah 148 [slc 1 (List.map aY x0),slc 1 (List.map aY x1)] (slc 1 (List.map aY r)):=by
 refine aZ Tryz.func148 Y (af Y) (λdy M vs hvs=>?_);unfold cH at h;refine sr<|aI Y (aB (n:=1) (e:=aY))<|dn<|sr<|mv Y<|lE h λec gD h=>ln Y gD<|bE h λfV l6 h=>RT.GL (e:=aY) .none Y Y T Y T l6<|RT.alloc .none T Y Y<|RT.pR (cells:=[_]) .none Y Y Y Y T Y<|dn<|sr<|RT.yz .none (dP 1) Y ⟨Y,aq⟩ T Y Y<|RT.alloc .none T Y Y<|RT.nK (cells:=[_]) .none (s:=.fe _ _) Y Y Y T Y<|dn<|qq<|sr<|mv Y ?_;refine mv Y<|cl (qk x0 x1) ⟨Y,Y,aq⟩<|dn<|bj<|bE h λe7 Ui MO=>?_;obtain⟨Ia,Uj,Uk,Ul⟩:=n5 Ui;refine lZ (ql x0 x1) (λ_ _ _ _ _=>trivial) Y (λk=>AS.cu 28 [(5,.ptr 5 0),(6,.ptr 6 0),(15,.sv (oK 169 [ref [slc 1 (List.map aY x0)],ref [slc 1 (List.map aY x1)]]))] [(6,⟨141,[.fe 157 [.box 12]]⟩),(12,⟨104,[.sv (.v (.int .u64 (((Ia k).1:Nat):Int)))]⟩),(5,⟨32,[.row 302]⟩)] [(302,TR 106 1 aY (Ia k).2)]) [6,12,5] Y (λ_=>⟨Y,Y⟩) (sS Y) (λ_=>Y) (sV Y) (by(try dsimp only);rw[Uj];(try dsimp only);exact c8 (λi=>bif Nat.beq i 302 then 11 else i) Y Y Y Y Y ⟨.ptr,.ptr,.sv au,aq⟩ ⟨⟨_,Y,⟨.fe,aq⟩⟩,⟨_,Y,⟨.sv au,aq⟩⟩,⟨_,Y,⟨.row Y,aq⟩⟩,aq⟩ ⟨⟨_,Y,eW.refl _⟩,aq⟩ (λi hi=>by rw[cA (show i≠302 by omega)];rfl)) (λk hk D hD=>?_) ?_;have h:=Uk k hk;obtain⟨sk,Rb⟩:∃q,Ia k=q:=⟨_,Y⟩;rw[Rb]at h⊢;obtain⟨xO,iq⟩:=sk;dsimp only[AS.Mr,r6]
 try dsimp only at h
 refine lE h λXC XX h=>?_;rw[XX];refine lE h λXD XY h=>?_;rw[XY];refine sr<|ag Y<|dn<|aW<|ag Y<|RT.done ?_;refine aV.n ⟨Y,?_⟩;dsimp only[AS.BC];refine bj<|bh mixed<|RT.nr .none (s:=.row _) Y Y Y T<|RT.nr .none (s:=.fe _ _) Y Y Y T<|mv Y<|mv Y<|lE h λiP n7 h=>sb _ Y Y (UK.sub (a:=4294967295) (b:=XD) n7)<|lE h λiI pM h=>ad _ Y Y (UK.add (a:=XC) (b:=iP) pM) ?_;obtain⟨⟨ic,k9⟩,oD,h⟩:=bS h;refine cB (bZ oD) 12 Y ⟨Y,aq⟩<|bl (l:=[ic]) (e:=aY) (.one Y (.nil)) Y Y Y Y Y Y<|bE h λkV rT h=>aR (k:=[ic]) (e:=aY) Y Y Y rT<|RT.pR (cells:=[_]) .none Y Y Y Y T Y ?_;refine RT.done ⟨by kernel_rfl,?_⟩;refine bw.n ?_;replace h:=Option.some.inj h;refine⟨aq,Y,Y,?_⟩
 try dsimp only
 rw[<-h]
 try dsimp only
 exact c8 (λi=>bif Nat.beq i 302 then 26 else i) Y Y Y Y Y ⟨.ptr,.ptr,.sv au,aq⟩ ⟨⟨_,Y,⟨.fe,aq⟩⟩,⟨_,Y,⟨.sv au,aq⟩⟩,⟨_,Y,⟨.row Y,aq⟩⟩,aq⟩ ⟨⟨_,Y,eW.refl _⟩,aq⟩ (λi hi=>by rw[cA (show i≠302 by omega)];rfl);rw[Ul];obtain⟨xO,iq⟩:=e7
 try dsimp only
 refine bw.n<|aV.n<|sr<|RT.nr .none (s:=.row _) Y Y Y T<|an (s:=.row _) Y<|dn<|bO (cC (i:=302) (E1:=106) (n:=1) (e:=aY) (l:=iq) Y)<|bf ?_;obtain rfl:=O MO;exact R1 Y
theorem uL{x0:List Nat}{x1:List Nat}{r:List Nat}(h:eX x0 x1=some r):Pure ah 117 [slc 1 (List.map aY x0),slc 1 (List.map aY x1)] (slc 1 (List.map aY r)):=by
 refine aZ Tryz.func117 Y (af Y) (λdy M vs hvs=>?_);unfold eX at h;refine sr<|aI Y (aB (n:=1) (e:=aY))<|dn<|sr<|mv Y<|lE h λdw fU h=>ln Y fU<|mv Y<|lE h λeK jC h=>ln Y jC<|lE h λdS iV h=>ad _ Y Y iV<|bE h λfo iW h=>RT.r8 (n:=1) (e:=aY) .none Y Y T Y T (by rfl) (by decide) (by exact⟨au,aq⟩) iW<|an (s:=.row _) Y<|dn<|qq<|sr<|mv Y<|lE h λfg j0 h=>ln Y j0 ?_;refine mv Y<|dn<|bE h λe28 XZ X0=>?_;refine bJ (λ(tg:(List Nat))=>AS.cu 63 [(5,.row 16)] [] [(16,TR 106 1 aY tg)]) (λtg=>tg=e28) ?_ (λtg X1=>?_);refine bj ?_;refine bK XZ (λS3=>AS.cu 63 [(1,.sv (slc 1 (List.map aY x1))),(5,.row 16),(17,.sv (slc 1 (List.map aY x0))),(18,ai fg),(19,ai S3.1)] [] [(16,TR 106 1 aY S3.2)]) (wR []) (λS3 y28 G28 h X2 X3=>?_);obtain⟨mF,BP⟩:=S3
 try dsimp only
 refine sr<|lE h λja oR h=>ls _ Y Y oR<|dn<|qq ?_;cases ja;refine cF<|bP<|aV.x<|aV.x<|bw.x<|aV.n ?_;obtain rfl:=O (F h);exact⟨BP,X3 _ Y,wR []⟩;refine cT<|bp<|aV.n<|qq<|bj<|sr<|mv Y<|bE (V h) λiP n7 h=>ix Y Y n7<|lr Y Y<|ag Y<|ag Y<|dn<|sr<|RT.yz .none (dP 0) Y ⟨Y,aq⟩ T Y Y<|an (s:=.fe _ _) Y<|dn<|qq<|sr<|mv Y<|lE h λkV rT h=>ln Y rT<|mv Y<|dn<|bE h λXG X4 wc=>?_;refine bJ (λ(Ib:Nat×(List Nat))=>AS.cu 63 [(1,.sv (slc 1 (List.map aY x1))),(5,.row 16),(6,ai mF),(8,.fe 157 [.box 24]),(17,.sv (slc 1 (List.map aY x0))),(18,ai fg),(19,ai mF)] [(24,⟨104,[.sv (.v (.int .u64 ((Ib.1:Nat):Int)))]⟩)] [(16,TR 106 1 aY Ib.2)]) (λIb=>Ib=XG) ?_ (λIb X5=>?_);refine bj ?_;refine bK X4 (λQS=>AS.cu 63 [(1,.sv (slc 1 (List.map aY x1))),(5,.row 16),(6,ai mF),(7,.sv (.v (.int .u32 ((iP:Nat):Int)))),(8,.fe 157 [.box 24]),(17,.sv (slc 1 (List.map aY x0))),(18,ai fg),(19,ai mF),(25,.sv (slc 1 (List.map aY x1))),(26,ai kV),(27,ai QS.1)] [(24,⟨104,[.sv (.v (.int .u64 ((QS.2.1:Nat):Int)))]⟩)] [(16,TR 106 1 aY QS.2.2)]) (wR []) (λQS y38 G38 h X6 X7=>?_);obtain⟨vW,uA,tf⟩:=QS
 try dsimp only
 refine sr<|lE h λkW tC h=>ls _ Y Y tC<|dn<|qq ?_;cases kW;refine cF<|bP<|aV.x<|aV.x<|bw.x<|aV.n ?_;obtain rfl:=O (F h);exact⟨(uA,tf),X7 _ Y,wR []⟩;refine cT<|bp<|aV.n<|qq<|bj<|sr<|mv Y<|bE (V h) λvX Ax h=>ix Y Y Ax<|lr Y Y<|ag Y<|ag Y<|dn<|aW<|mo (s:=.row _) Y<|mv Y<|mv Y<|lE h λvG BY h=>ad _ Y Y BY<|mo (s:=.fe _ _) Y<|mo (s:=.row _) Y<|mv Y<|mv Y<|lE h λkU rA h=>ad _ Y Y rA<|bE h λxP Ic h=>iR Y Y Y Ic ?_;refine bE h λqa BZ h=>lR Y Y BZ Y<|lE h λBQ IP h=>cv _ Y (UK.nat IP)<|mv Y<|lE h λES MP h=>cv _ Y (UK.nat MP)<|mv Y<|lE h λuc yQ h=>cv _ Y (UK.nat yQ)<|lE h λxQ h48 h=>RT.mul .none _ Y Y T (UK.mul (a:=ES) (b:=uc) h48)<|lE h λMI MQ h=>ad _ Y Y (UK.add (a:=BQ) (b:=xQ) MQ) ?_;obtain⟨⟨Aa,XE⟩,JW,h⟩:=bS h;refine cB (bZ JW) 24 Y ⟨Y,aq⟩<|bE h λOo Rc h=>iR Y Y Y Rc<|bE h λXF Um h=>sR Aa Y Y Y Y Um<|RT.done<|bw.n<|aV.n<|aW<|lE h λAo Fy h=>ad _ Y Y Fy<|mv Y<|RT.done ?_;obtain rfl:=O h;exact aV.n ⟨(Ao,XE,XF),X6 _ Y,wR []⟩;subst X5;obtain⟨Dv,Fl⟩:=Ib
 try dsimp only
 refine aV.n<|aW<|mo (s:=.row _) Y<|mv Y<|mv Y<|lE wc λOq Rd wc=>ln Y Rd<|lE wc λMJ Un wc=>ad _ Y Y Un<|mo (s:=.fe _ _) Y ?_;obtain⟨⟨JD,k45⟩,Re,wc⟩:=bS wc;refine cB (bZ Re) 24 Y ⟨Y,aq⟩<|bE wc λHZ OJ wc=>iR Y Y Y OJ<|bE wc λXH Uo wc=>sR JD Y Y Y Y Uo<|RT.done<|bw.n<|aV.n<|aW<|lE wc λQT Up wc=>ad _ Y Y Up<|mv Y<|RT.done ?_;obtain rfl:=O wc;exact aV.n ⟨(QT,XH),X2 _ Y,wR []⟩;subst X1
 try dsimp only
 refine aV.n<|sr<|mo (s:=.row _) Y<|an (s:=.row _) Y<|dn<|bO (cC (i:=16) (E1:=106) (n:=1) (e:=aY) (l:=tg) Y)<|bf ?_;obtain rfl:=O X0;exact R1 Y
end
section
open Go.Fw Go.Fw.Z Go.RowKit
theorem uM{x0:List Nat}{x1:Nat}{r:Nat×List Nat}(h:gk x0 x1=some r):Fe ah 158 [.row 1000,.sv (.v (.int .u64 ((x1:Nat):Int)))] (TR 106 1 aY x0) (.sv (.v (.int .u64 ((r.1:Nat):Int)))) (List.flatMap aY r.2):=by
 refine sO Tryz.func158 Y (af Y) Y Y (λdy M v0=>?_);unfold gk at h;refine sr<|ag Y<|dn<|sr<|ag Y<|dn<|qq<|sr<|mo (s:=.row _) Y<|lE h λx9 h9 h=>lL Y Y h9<|lE h λec gD h=>sb _ Y Y gD<|ag Y<|dn<|bE h λe8 B0 tD=>?_;refine bJ (λ(A8:Nat×(List Nat))=>AS.cu 34 [(5,.sv (.v (.int .u64 ((A8.1:Nat):Int))))] [] [(1000,TR 106 1 aY A8.2)]) (λA8=>A8=e8) ?_ (λA8 B3=>?_);refine bj ?_;refine bK B0 (λs8=>AS.cu 34 [(0,.row 1000),(1,.sv (.v (.int .u64 ((x1:Nat):Int)))),(5,.sv (.v (.int .u64 ((s8.1:Nat):Int)))),(6,ai s8.2.1)] [] [(1000,TR 106 1 aY s8.2.2)]) (wR []) (λs8 y8 G8 h B4 B5=>?_);obtain⟨JE,uB,oO⟩:=s8
 try dsimp only
 refine qq<|sr<|mv Y<|lE h λdw fU h=>ge _ Y Y fU<|dn ?_;cases dw;refine cF<|bP<|aV.x<|aV.x<|bw.x<|aV.n ?_;obtain rfl:=O (F h);exact⟨(JE,oO),B5 _ Y,wR []⟩;refine cT<|bp<|aV.n<|qq<|bj<|sr<|mv Y<|lE (V h) λfo iW h=>RT.shl .none _ Y Y T (by decide) (UK.shl (a:=JE) (q:=32) (s:=32) Y iW)<|mo (s:=.row _) Y<|mv Y<|bE h λkq nc h=>iR Y Y Y nc<|bE h λja oR h=>lR Y Y oR Y<|lE h λgG nf h=>cv _ Y (UK.nat nf)<|lE h λiP n7 h=>RT.or .none _ Y Y T (UK.or (a:=fo) (b:=gG) n7)<|ag Y<|dn<|sr<|mo (s:=.row _) Y ?_;refine mv Y<|mv Y<|mv Y<|bE h λgy m9 h=>RT.quo .none _ Y Y T (Xm m9) (UK.quo m9)<|lE h λkW tC h=>cv _ Y (UK.nat tC)<|bE h λij m8 h=>iR Y Y Y m8<|bE h λth n8 h=>sR kW Y Y Y Y n8<|dn<|aW<|mv Y<|mv Y<|bE h λiQ nP h=>RT.rem .none _ Y Y T (V0 nP) (My nP)<|ag Y<|RT.done<|bw.n<|aV.n<|aW<|mv Y<|lE h λeK jC h=>sb _ Y Y jC ?_;refine ag Y<|RT.done ?_;obtain rfl:=O h;exact aV.n ⟨(iQ,eK,th),B4 _ Y,wR []⟩;subst B3;obtain⟨TZ,xR⟩:=A8
 try dsimp only
 refine aV.n<|sr<|mv Y<|ag Y<|dn<|bf<|bE tD λ_ hle tD=>?_;obtain rfl:=O tD;exact⟨.inr Y,.sv (lY (.tmp Y (.nil)) au),(by show _=oC.live ⟨106,1,x0.length,List.flatMap aY xR⟩;rw[<-kA hle];rfl)⟩
theorem tF{x0:List Nat}{x1:Nat}{r:List Nat}(h:eA x0 x1=some r):Pure ah 166 [slc 1 (List.map aY x0),.v (.int .u64 ((x1:Nat):Int))] (slc 1 (List.map aY r)):=by
 refine aZ Tryz.func166 Y (af Y) (λdy M vs hvs=>?_);unfold eA at h;refine sr<|aI Y (aB (n:=1) (e:=aY))<|dn<|sr<|RT.yz .none (dP 0) Y ⟨Y,aq⟩ T Y Y<|an (s:=.fe _ _) Y<|dn<|sr<|mv Y<|lE h λfV l6 h=>ln Y l6<|lE h λdw fU h=>ad _ Y Y fU<|bE h λjB mG h=>RT.GL (e:=aY) .none Y Y T Y T mG<|an (s:=.row _) Y<|dn<|qq<|sr<|mv Y<|lE h λdS iV h=>ln Y iV ?_;refine mv Y<|dn<|bE h λe8 B0 tD=>?_;refine bJ (λ(A8:Nat×(List Nat))=>AS.cu 35 [(5,.fe 157 [.box 9]),(6,.row 302)] [(9,⟨104,[.sv (.v (.int .u64 ((A8.1:Nat):Int)))]⟩)] [(302,TR 106 1 aY A8.2)]) (λA8=>A8=e8) ?_ (λA8 B3=>?_);refine bj ?_;refine bK B0 (λs8=>AS.cu 35 [(1,.sv (.v (.int .u64 ((x1:Nat):Int)))),(5,.fe 157 [.box 9]),(6,.row 302),(14,.sv (slc 1 (List.map aY x0))),(15,ai dS),(16,ai s8.1)] [(9,⟨104,[.sv (.v (.int .u64 ((s8.2.1:Nat):Int)))]⟩)] [(302,TR 106 1 aY s8.2.2)]) (c8 (λi=>bif Nat.beq i 302 then 13 else i) Y Y Y Y Y ⟨.sv au,.fe,.row Y,.sv au,.sv au,.sv au,aq⟩ ⟨⟨_,Y,⟨.sv au,aq⟩⟩,aq⟩ ⟨⟨_,Y,eW.refl _⟩,aq⟩ (λi hi=>by rw[cA (show i≠302 by omega)];rfl)) (λs8 y8 G8 h B4 B5=>?_);obtain⟨uC,oP,iq⟩:=s8
 try dsimp only
 refine sr<|lE h λfm k8 h=>ls _ Y Y k8<|dn<|qq ?_;cases fm;refine cF<|bP<|aV.x<|aV.x<|bw.x<|aV.n ?_;obtain rfl:=O (F h);exact⟨(oP,iq),B5 _ Y,wR []⟩;refine cT<|bp<|aV.n<|qq<|bj<|sr<|bE (V h) λfg j0 h=>ix Y Y j0<|lr Y Y<|ag Y<|dn<|aW<|mo (s:=.row _) Y<|mo (s:=.fe _ _) Y<|mv Y<|lE h λiI pM h=>cv _ Y (UK.nat pM)<|mv Y<|lE h λm6 oS h=>RT.shl .none _ Y Y T (Int.natCast_nonneg _) (UK.shl (a:=iI) (q:=((x1:Nat):Int)) (s:=min x1 64) Y oS) ?_;obtain⟨⟨kV,QU⟩,rT,h⟩:=bS h;refine cB (bZ rT) 9 Y ⟨Y,aq⟩<|bl (l:=[kV]) (e:=aY) (.one Y (.nil)) Y Y Y Y Y Y<|bE h λkW tC h=>aR (k:=[kV]) (e:=aY) Y Y Y tC<|an (s:=.row _) Y<|RT.done<|bw.n<|aV.n<|aW<|lE h λij m8 h=>ad _ Y Y m8<|mv Y<|RT.done ?_;obtain rfl:=O h;exact aV.n ⟨(ij,QU,kW),B4 _ Y,c8 (λi=>bif Nat.beq i 302 then 28 else i) Y Y Y Y Y ⟨.sv au,.fe,.row Y,.sv au,.sv au,.sv au,aq⟩ ⟨⟨_,Y,⟨.sv au,aq⟩⟩,aq⟩ ⟨⟨_,Y,eW.refl _⟩,aq⟩ (λi hi=>by rw[cA (show i≠302 by omega)];rfl)⟩;subst B3;obtain⟨yK,JF⟩:=A8
 try dsimp only
 refine aV.n<|sr<|mo (s:=.row _) Y<|mo (s:=.fe _ _) Y ?_;obtain⟨⟨iQ,XI⟩,nP,tD⟩:=bS tD;refine cB (bZ nP) 9 Y ⟨Y,aq⟩<|bl (l:=[iQ]) (e:=aY) (.one Y (.nil)) Y Y Y Y Y Y<|bE tD λm7 rS tD=>RT.Mz (k:=[iQ]) (e:=aY) .none Y Y Y T Y T rS<|ag Y<|dn<|bf ?_;obtain rfl:=O tD;exact R1 Y
theorem rU{x0:List Nat}{x1:Nat}{r:List Nat}(h:gH x0 x1=some r):HQ ah 166 [slc 1 (List.map aY x0),.v (.int .u64 ((x1:Nat):Int))] (TR 106 1 aY r):=by
 refine sP Tryz.func166 Y (af Y) (λdy M vs hvs=>?_);unfold gH at h;refine sr<|ag Y<|dn<|bO (gj 4 304 106 1 Y Y T)<|sr<|RT.yz .none (dP 0) Y ⟨Y,aq⟩ T Y Y<|an (s:=.fe _ _) Y<|dn<|sr<|mv Y<|lE h λfV l6 h=>ln Y l6<|lE h λdw fU h=>ad _ Y Y fU<|bE h λjB mG h=>RT.GL (e:=aY) .none Y Y T Y T mG<|an (s:=.row _) Y<|dn<|qq<|sr<|mv Y<|lE h λdS iV h=>ln Y iV ?_;refine mv Y<|dn<|bE h λe8 B0 tD=>?_;refine bJ (λ(A8:Nat×(List Nat))=>AS.cu 35 [(5,.fe 157 [.box 9]),(6,.row 306)] [(9,⟨104,[.sv (.v (.int .u64 ((A8.1:Nat):Int)))]⟩)] [(306,TR 106 1 aY A8.2)]) (λA8=>A8=e8) ?_ (λA8 B3=>?_);refine bj ?_;refine bK B0 (λs8=>AS.cu 35 [(1,.sv (.v (.int .u64 ((x1:Nat):Int)))),(5,.fe 157 [.box 9]),(6,.row 306),(14,.sv (slc 1 (List.map aY x0))),(15,ai dS),(16,ai s8.1)] [(9,⟨104,[.sv (.v (.int .u64 ((s8.2.1:Nat):Int)))]⟩)] [(306,TR 106 1 aY s8.2.2)]) (c8 (λi=>bif Nat.beq i 306 then 13 else i) Y Y Y Y Y ⟨.sv au,.fe,.row Y,.sv au,.sv au,.sv au,aq⟩ ⟨⟨_,Y,⟨.sv au,aq⟩⟩,aq⟩ ⟨⟨_,Y,eW.refl _⟩,aq⟩ (λi hi=>by rw[cA (show i≠306 by omega)];rfl)) (λs8 y8 G8 h B4 B5=>?_);obtain⟨uC,oP,nN⟩:=s8
 try dsimp only
 refine sr<|lE h λfm k8 h=>ls _ Y Y k8<|dn<|qq ?_;cases fm;refine cF<|bP<|aV.x<|aV.x<|bw.x<|aV.n ?_;obtain rfl:=O (F h);exact⟨(oP,nN),B5 _ Y,wR []⟩;refine cT<|bp<|aV.n<|qq<|bj<|sr<|bE (V h) λfg j0 h=>ix Y Y j0<|lr Y Y<|ag Y<|dn<|aW<|mo (s:=.row _) Y<|mo (s:=.fe _ _) Y<|mv Y<|lE h λiI pM h=>cv _ Y (UK.nat pM)<|mv Y<|lE h λm6 oS h=>RT.shl .none _ Y Y T (Int.natCast_nonneg _) (UK.shl (a:=iI) (q:=((x1:Nat):Int)) (s:=min x1 64) Y oS) ?_;obtain⟨⟨kV,QU⟩,rT,h⟩:=bS h;refine cB (bZ rT) 9 Y ⟨Y,aq⟩<|bl (l:=[kV]) (e:=aY) (.one Y (.nil)) Y Y Y Y Y Y<|bE h λkW tC h=>aR (k:=[kV]) (e:=aY) Y Y Y tC<|an (s:=.row _) Y<|RT.done<|bw.n<|aV.n<|aW<|lE h λij m8 h=>ad _ Y Y m8<|mv Y<|RT.done ?_;obtain rfl:=O h;exact aV.n ⟨(ij,QU,kW),B4 _ Y,c8 (λi=>bif Nat.beq i 306 then 28 else i) Y Y Y Y Y ⟨.sv au,.fe,.row Y,.sv au,.sv au,.sv au,aq⟩ ⟨⟨_,Y,⟨.sv au,aq⟩⟩,aq⟩ ⟨⟨_,Y,eW.refl _⟩,aq⟩ (λi hi=>by rw[cA (show i≠306 by omega)];rfl)⟩;subst B3;obtain⟨yK,nO⟩:=A8
 try dsimp only
 refine aV.n<|sr<|mo (s:=.row _) Y<|mo (s:=.fe _ _) Y ?_;obtain⟨⟨iQ,XI⟩,nP,tD⟩:=bS tD;refine cB (bZ nP) 9 Y ⟨Y,aq⟩<|bl (l:=[iQ]) (e:=aY) (.one Y (.nil)) Y Y Y Y Y Y<|bE tD λm7 rS tD=>aR (k:=[iQ]) (e:=aY) Y Y Y rS<|an (s:=.row _) Y<|dn<|bf ?_;obtain rfl:=O tD;exact⟨.inr Y,_,.tmp Y,Y⟩
theorem tG{x0:Nat}{r:Int}(h:fG x0=some r):Pure ah 170 [.v (.int .u32 ((x0:Nat):Int))] (ay r):=by
 refine aZ Tryz.func170 Y (af Y) (λdy M vs hvs=>?_);unfold fG at h;refine sr<|ag Y<|dn<|qq<|sr<|mv Y<|lE h λx4 h4 h=>ge _ Y Y (Xl (p:=65536) (q:=x0) h4)<|dn ?_;refine bB h (λj2=>AS.cu 19 [(0,.sv (.v (.int .u32 ((j2.1:Nat):Int)))),(2,ai j2.2)] [] []) (λh=>?_) (λj2 h=>?_);cases x4;exact fs<|⟨(x0,0),(F h),wR []⟩;exact cT<|sr<|mv Y<|lE (V h) λx6 h6 h=>RT.shr .none _ Y Y T (by decide) (BG (k:=.u32) (a:=x0) (q:=16) (s:=16) Y h6)<|ag Y<|dn<|aW<|ag Y<|dn<|⟨(x6,16),h,wR []⟩;obtain⟨Fm,MK⟩:=j2
 try dsimp only
 refine aV.n<|qq<|sr<|mv Y<|lE h λx8 h8 h=>ge _ Y Y (Xl (p:=256) (q:=Fm) h8)<|dn ?_;refine bB h (λj4=>AS.cu 19 [(0,.sv (.v (.int .u32 ((j4.1:Nat):Int)))),(2,ai j4.2)] [] []) (λh=>?_) (λj4 h=>?_);cases x8;exact fs<|⟨(Fm,MK),(F h),wR []⟩;exact cT<|sr<|mv Y<|lE (V h) λec gD h=>RT.shr .none _ Y Y T (by decide) (BG (k:=.u32) (a:=Fm) (q:=8) (s:=8) Y gD)<|ag Y<|dn<|aW<|mv Y<|lE h λdw fU h=>ad _ Y Y fU<|ag Y<|dn<|⟨(ec,dw),h,wR []⟩;obtain⟨T0,T1⟩:=j4
 try dsimp only
 refine aV.n<|sr<|mv Y<|mv Y<|lE h λdS iV h=>cv _ Y (UK.nat iV)<|bE h λfo iW h=>?_;refine RT.six (l:=[0,1,2,2,3,3,3,3,4,4,4,4,4,4,4,4,5,5,5,5,5,5,5,5,5,5,5,5,5,5,5,5,6,6,6,6,6,6,6,6,6,6,6,6,6,6,6,6,6,6,6,6,6,6,6,6,6,6,6,6,6,6,6,6,7,7,7,7,7,7,7,7,7,7,7,7,7,7,7,7,7,7,7,7,7,7,7,7,7,7,7,7,7,7,7,7,7,7,7,7,7,7,7,7,7,7,7,7,7,7,7,7,7,7,7,7,7,7,7,7,7,7,7,7,7,7,7,7,8,8,8,8,8,8,8,8,8,8,8,8,8,8,8,8,8,8,8,8,8,8,8,8,8,8,8,8,8,8,8,8,8,8,8,8,8,8,8,8,8,8,8,8,8,8,8,8,8,8,8,8,8,8,8,8,8,8,8,8,8,8,8,8,8,8,8,8,8,8,8,8,8,8,8,8,8,8,8,8,8,8,8,8,8,8,8,8,8,8,8,8,8,8,8,8,8,8,8,8,8,8,8,8,8,8,8,8,8,8,8,8,8,8,8,8,8,8,8,8,8,8,8,8,8,8,8,8]) .none Y Y T iW ?_;refine lE h λfm k8 h=>cv _ Y k8<|lE h λfg j0 h=>ad _ Y Y j0<|ag Y<|dn<|bf ?_;obtain rfl:=O h;exact R1 Y
theorem l7{x0:Nat}{r:Int}(h:cS x0=some r):Pure ah 165 [.v (.int .u32 ((x0:Nat):Int))] (ay r):=by
 refine aZ Tryz.func165 Y (af Y) (λdy M vs hvs=>?_);unfold cS at h;refine sr<|ag Y<|dn<|sr<|mv Y<|bE h λx4 h4 h=>cl (tG h4) ⟨Y,aq⟩<|lE h λx5 h5 h=>sb _ Y Y h5<|ag Y<|dn<|bf ?_;obtain rfl:=O h;exact R1 Y
theorem uN{x0:List Nat}{o0:Nat}{n0:Nat}{x1:List Nat}{r:Nat×List Nat}(h:gp x0 o0 n0 x1=some r):Fe ah 167 [.lM 1000 (o0*1) n0,.sv (slc 1 (List.map aY x1))] (TR 106 1 aY x0) (.sv (.v (.int .u64 ((r.1:Nat):Int)))) (List.flatMap aY r.2):=by
 refine sO Tryz.func167 Y (af Y) Y Y (λdy M v0=>?_);unfold gp at h;refine sr<|ag Y<|dn<|sr<|mv Y<|lE h λdw fU h=>ln Y fU<|ag Y<|dn<|qq<|bh mixed<|mo (s:=.lM _ _ _) Y<|mv Y<|bE h λdS iV h=>RT.Dr .none Y Y T iV<|bE h λfo iW h=>lR Y Y iW Y<|lE h λfm k8 h=>cv _ Y (UK.nat k8)<|lE h λfg j0 h=>RT.shl .none _ Y Y T (by decide) (UK.shl (a:=fm) (q:=32) (s:=32) Y j0)<|mo (s:=.lM _ _ _) Y ?_;refine mv Y<|lE h λgG nf h=>sb _ Y Y nf<|bE h λiP n7 h=>RT.Dr .none Y Y T n7<|bE h λiI pM h=>lR Y Y pM Y<|lE h λic oD h=>cv _ Y (UK.nat oD)<|lE h λm6 oS h=>RT.or .none _ Y Y T (UK.or (a:=fg) (b:=ic) oS)<|ag Y ?_;refine RT.done ⟨by kernel_rfl,?_⟩;refine aV.n<|qq<|bh mixed<|mv Y<|mv Y<|lE h λkW tC h=>sb _ Y Y tC<|bE h λij m8 h=>ix Y Y m8<|lr Y Y<|lE h λpA xS h=>cv _ Y (UK.nat xS)<|mv Y<|mv Y<|lE h λm7 rS h=>sb _ Y Y rS<|bE h λvG BY h=>ix Y Y BY<|lr Y Y<|lE h λxz Fz h=>cv _ Y (UK.nat Fz)<|ag Y<|ag Y ?_;refine RT.done ⟨by kernel_rfl,?_⟩;refine aV.n<|qq<|bh mixed<|mv Y<|mv Y<|bE h λkU rA h=>RT.quo .none _ Y Y T (Xm rA) (UK.quo rA)<|mv Y<|mv Y<|bE h λBQ IP h=>RT.rem .none _ Y Y T (V0 IP) (My IP)<|ag Y<|ag Y ?_;refine RT.done ⟨by kernel_rfl,?_⟩;refine aV.n<|qq<|bE h λJS BV rR=>?_
 refine bJ (λ(H6:Nat)=>AS.cu 71 [(9,.sv (.v (.int .u64 ((H6:Nat):Int))))] [] [(1000,TR 106 1 aY x0)]) (λH6=>H6=JS) ?_ (λH6 BW=>?_);refine bj ?_;refine bK BV (λA5=>AS.cu 71 [(0,.lM 1000 (o0*1) n0),(5,ai dw),(7,.sv (.v (.int .u64 ((pA:Nat):Int)))),(8,.sv (.v (.int .u64 ((xz:Nat):Int)))),(9,.sv (.v (.int .u64 ((A5.1:Nat):Int)))),(10,.sv (.v (.int .u64 ((A5.2:Nat):Int))))] [] [(1000,TR 106 1 aY x0)]) (wR []) (λA5 V4 V5 h BX yP=>?_);obtain⟨Ap,A6⟩:=A5
 try dsimp only
 refine qq<|qq ?_;refine bB h (λJU=>AS.cu 71 [(0,.lM 1000 (o0*1) n0),(5,ai dw),(7,.sv (.v (.int .u64 ((pA:Nat):Int)))),(8,.sv (.v (.int .u64 ((xz:Nat):Int)))),(9,.sv (.v (.int .u64 ((Ap:Nat):Int)))),(10,.sv (.v (.int .u64 ((A6:Nat):Int)))),(61,aj JU)] [] [(1000,TR 106 1 aY x0)]) (λh=>?_) (λFo h=>?_);refine aW<|mv Y<|lE h λES MP h=>RT.shr .none _ Y Y T (by decide) (BG (k:=.u64) (a:=Ap) (q:=32) (s:=32) Y MP)<|lE h λqc h46 h=>ne _ Y Y (VY (p:=ES) (q:=0) h46)<|mv Y<|bE h λJG eH h=>?_;cases qc;refine gm Y<|gm Y<|lE (F eH) λAa JW eH=>RT.mul (.some Y Y) _ Y Y T (UK.mul (a:=Ap) (b:=xz) JW)<|gm Y<|lE eH λAo Fy eH=>RT.shl (.some Y Y) _ Y Y T (by decide) (UK.shl (a:=A6) (q:=32) (s:=32) Y Fy)<|RT.move (.some Y Y) (s:=.lM _ _ _) Y T<|gm Y<|lE eH λML Uq eH=>RT.sub (.some Y Y) _ Y Y T Uq<|bE eH λOq Rd eH=>RT.Dr (.some Y Y) Y Y T Rd<|bE eH λMJ Un eH=>RT.TN (.some Y Y) Y Y Un Y T ?_;refine lE eH λMM Ur eH=>RT.conv (.some Y Y) _ Y T (UK.nat Ur)<|lE eH λJD Re eH=>RT.or (.some Y Y) _ Y Y T (UK.or (a:=Ao) (b:=MM) Re)<|lE eH λHZ OJ eH=>gg _ Y Y (VZ (p:=JD) (q:=Aa) OJ) ?_;obtain rfl:=O eH;exact pF Y<|dn<|⟨HZ,h,wR []⟩;obtain rfl:=O (V eH)
 exact ww<|ww<|ww<|ww<|ww<|ww<|ww<|ww<|ww<|ww<|ww<|ww<|ww<|pT Y<|dn<|⟨true,h,wR []⟩
 try dsimp only
 refine aV.n ?_;cases Fo;refine cF<|bP<|aV.x<|aV.x<|bw.x<|aV.n ?_;obtain rfl:=O (F h);exact⟨Ap,yP _ Y,wR []⟩;refine cT<|bp<|aV.n<|bj<|sr<|mv Y<|lE (V h) λOt h63 h=>sb _ Y Y (UK.sub (a:=Ap) (b:=1) h63)<|ag Y<|dn<|sr<|mv Y<|mv Y<|lE h λOu X8 h=>ad _ Y Y (UK.add (a:=A6) (b:=pA) X8)<|ag Y<|dn<|sr<|mv Y<|lE h λL0 Us h=>RT.shr .none _ Y Y T (by decide) (BG (k:=.u64) (a:=Ou) (q:=32) (s:=32) Y Us)<|lE h λS4 Ut h=>ne _ Y Y (VY (p:=L0) (q:=0) Ut) ?_;refine dn ?_;cases S4;refine cF<|bp<|bw.n ?_;obtain rfl:=O (F h);exact aV.n ⟨(Ot,Ou),BX _ Y,wR []⟩;refine cT<|bP<|bw.y (by decide)<|aV.x<|bw.x<|aV.n ?_;obtain rfl:=O (V h);exact⟨Ot,yP _ Y,wR []⟩;subst BW
 try dsimp only
 refine aV.n<|sr<|mv Y<|ag Y<|dn<|bf<|bE rR λ_ hle rR=>?_;obtain rfl:=O rR;exact⟨.inr Y,.sv (lY (.tmp Y (.nil)) au),(by show _=oC.live ⟨106,1,x0.length,List.flatMap aY x0⟩;rw[<-kA hle];rfl)⟩
theorem ng{x0:List Nat}{o0:Nat}{n0:Nat}{x1:List Nat}{x2:Nat}{r:Bool×List Nat}(h:cI x0 o0 n0 x1 x2=some r):Fe ah 168 [.lM 1000 (o0*1) n0,.sv (slc 1 (List.map aY x1)),.sv (.v (.int .u64 ((x2:Nat):Int)))] (TR 106 1 aY x0) (aj r.1) (List.flatMap aY r.2):=by
 refine sO Tryz.func168 Y (af Y) Y Y (λdy M v0=>?_);unfold cI at h;refine sr<|ag Y<|dn<|sr<|ag Y<|dn<|sr<|RT.yz .none (dP 0) Y ⟨Y,aq⟩ T Y Y<|an (s:=.fe _ _) Y<|dn<|qq<|sr<|mo (s:=.lM _ _ _) Y<|lE h λeK jC h=>RT.QM .none Y T jC<|mv Y<|dn<|bE h λL1 JX l8=>?_;refine bJ (λ(we:Nat×(List Nat))=>AS.cu 51 [(7,.sv (.v (.int .u64 ((we.1:Nat):Int))))] [] [(1000,TR 106 1 aY we.2)]) (λwe=>we=L1) ?_ (λwe Rf=>?_);refine bj ?_;refine bK JX (λET=>AS.cu 51 [(0,.lM 1000 (o0*1) n0),(1,.sv (slc 1 (List.map aY x1))),(2,.sv (.v (.int .u64 ((x2:Nat):Int)))),(7,.sv (.v (.int .u64 ((ET.1:Nat):Int)))),(8,.fe 157 [.box 12]),(14,ai eK),(15,ai ET.2.1)] [(12,⟨104,[.sv (.v (.int .u64 ((ET.2.2.1:Nat):Int)))]⟩)] [(1000,TR 106 1 aY ET.2.2.2)]) (wR []) (λET y12 G12 h JY JZ=>?_);obtain⟨H7,uD,BR,ru⟩:=ET
 try dsimp only
 refine sr<|lE h λfo iW h=>ls _ Y Y iW<|dn<|qq ?_;cases fo;refine cF<|bP<|aV.x<|aV.x<|bw.x<|aV.n ?_;obtain rfl:=O (F h);exact⟨(H7,ru),JZ _ Y,wR []⟩;refine cT<|bp<|aV.n<|qq<|bj<|sr<|mv Y<|ag Y<|dn<|sr<|ag Y<|dn<|qq<|sr<|mv Y<|mv Y<|lE (V h) λja oR h=>ln Y oR<|lE h λgG nf h=>ls _ Y Y nf<|dn ?_;refine bB h (λj14=>AS.cu 51 [(0,.lM 1000 (o0*1) n0),(1,.sv (slc 1 (List.map aY x1))),(2,.sv (.v (.int .u64 ((x2:Nat):Int)))),(7,.sv (.v (.int .u64 ((H7:Nat):Int)))),(8,.fe 157 [.box 12]),(9,ai uD),(10,.sv (.v (.int .u64 ((j14:Nat):Int)))),(14,ai eK),(15,ai uD)] [(12,⟨104,[.sv (.v (.int .u64 ((BR:Nat):Int)))]⟩)] [(1000,TR 106 1 aY ru)]) (λh=>?_) (λJH h=>?_);cases gG;exact fs<|⟨0,(F h),wR []⟩;exact cT<|aW<|mv Y<|mv Y<|bE (V h) λic oD h=>ix Y Y oD<|lr Y Y<|lE h λkV rT h=>cv _ Y (UK.nat rT)<|mv Y<|lE h λkW tC h=>RT.mul .none _ Y Y T (UK.mul (a:=kV) (b:=x2) tC)<|ag Y<|dn<|⟨kW,h,wR []⟩
 try dsimp only
 refine aV.n<|qq<|bh mixed<|mo (s:=.lM _ _ _) Y<|mv Y<|bE h λpA xS h=>RT.Dr .none Y Y T xS<|bE h λiQ nP h=>lR Y Y nP Y<|lE h λmu vI h=>cv _ Y (UK.nat vI)<|mo (s:=.fe _ _) Y<|mv Y ?_;obtain⟨⟨ud,XJ⟩,wh,h⟩:=bS h;refine cB (bZ wh) 12 Y ⟨Y,aq⟩<|lE h λxz Fz h=>cv _ Y (UK.nat Fz)<|lE h λua DE h=>sb _ Y Y (UK.sub (a:=mu) (b:=xz) DE)<|mv Y<|lE h λkU rA h=>sb _ Y Y (UK.sub (a:=ua) (b:=H7) rA)<|ag Y ?_;refine RT.done ⟨by kernel_rfl,?_⟩;refine aV.n<|sr<|mo (s:=.lM _ _ _) Y<|mv Y<|mv Y<|lE h λuE DF h=>cv _ Y (UK.nat DF)<|bE h λES MP h=>RT.Dr .none Y Y T MP<|bE h λXK Uu h=>sR uE Y Y Y Y Uu<|dn<|aW<|mv Y<|lE h λuc yQ h=>RT.shr .none _ Y Y T (by decide) (BG (k:=.u64) (a:=kU) (q:=63) (s:=63) Y yQ)<|ag Y<|RT.done<|bw.n<|aV.n<|aW<|lE h λxQ h48 h=>ad _ Y Y h48<|mv Y<|RT.done ?_;obtain rfl:=O h;exact aV.n ⟨(uc,xQ,XJ,XK),JY _ Y,wR []⟩;subst Rf;obtain⟨JI,uF⟩:=we
 try dsimp only
 refine aV.n<|sr<|mv Y<|lE l8 λAa JW l8=>ne _ Y Y (VY (p:=JI) (q:=0) JW)<|ag Y<|dn<|bf<|bE l8 λ_ hle l8=>?_;obtain rfl:=O l8;exact⟨.inr Y,.sv (lY (.tmp Y (.nil)) au),(by show _=oC.live ⟨106,1,x0.length,List.flatMap aY uF⟩;rw[<-kA hle];rfl)⟩
set_option maxHeartbeats 4000000 in
theorem wj{x0:List Nat}{x1:List Nat}{r:(List Nat)×(List Nat)}(h:gS x0 x1=some r):Pure ah 159 [slc 1 (List.map aY x0),slc 1 (List.map aY x1)] (.z9 [slc 1 (List.map aY r.1),slc 1 (List.map aY r.2)]):=by
 refine aZ Tryz.func159 Y (af Y) (λdy M vs hvs=>?_);unfold gS at h;refine sr<|ag Y<|ag Y<|dn<|bO (gj 4 306 106 1 Y Y T)<|bO (gj 5 308 106 1 Y Y T)<|sr<|mv Y<|lE h λfm k8 h=>ln Y k8<|ag Y<|dn<|sr<|mv Y<|mv Y<|lE h λja oR h=>sb _ Y Y oR<|bE h λgG nf h=>ix Y Y nf<|lr Y Y<|bE h λiI pM h=>cl (l7 pM) ⟨Y,aq⟩ ?_;refine lE h λic oD h=>cv _ Y (UK.conv oD)<|ag Y<|dn<|qq<|bh mixed<|mv Y<|mv Y<|bE h λgy m9 h=>cN (rU m9) ⟨Y,Y,aq⟩<|mv Y<|mv Y<|bE h λvX Ax h=>cl (tF Ax) ⟨Y,Y,aq⟩<|mv Y<|bE h λiQ nP h=>RT.vT .none 0 fm Y Y ⟨_,Y⟩ T nP<|an (s:=.row _) Y<|ag Y ?_;refine RT.done ⟨by kernel_rfl,?_⟩;refine aV.n<|sr<|mv Y<|lE h λm7 rS h=>ln Y rS<|mv Y<|lE h λud wh h=>sb _ Y Y wh<|lE h λxz Fz h=>ad _ Y Y Fz<|bE h λua DE h=>RT.r8 (n:=1) (e:=aY) .none Y Y T Y T (by rfl) (by decide) (by exact⟨au,aq⟩) DE<|an (s:=.row _) Y<|dn<|qq<|sr<|mv Y<|lE h λkU rA h=>ln Y rA<|mv Y<|lE h λqa BZ h=>sb _ Y Y BZ ?_;refine ag Y<|dn<|bE h λT7 X9 Rg=>?_;refine bJ (λ(Ie:(List Nat)×(List Nat))=>AS.cu 141 [(4,.row 38),(6,ai fm),(7,.sv (.v (.int .u64 ((ic:Nat):Int)))),(8,.row 27)] [] [(38,TR 106 1 aY Ie.1),(27,TR 106 1 aY Ie.2)]) (λIe=>Ie=T7) ?_ (λIe Ya=>?_);refine bj ?_
 refine bK X9 (λQV=>AS.cu 141 [(4,.row 38),(6,ai fm),(7,.sv (.v (.int .u64 ((ic:Nat):Int)))),(8,.row 27),(9,.sv (slc 1 (List.map aY iQ))),(10,ai QV.1)] [] [(38,TR 106 1 aY QV.2.1),(27,TR 106 1 aY QV.2.2)]) (wR []) (λQV y36 G36 h Yb Yc=>?_);obtain⟨ir,qe,tj⟩:=QV
 try dsimp only
 refine qq<|sr<|mv Y<|lE h λuE DF h=>ge _ Y Y DF<|dn ?_;cases uE;refine cF<|bP<|aV.x<|aV.x<|bw.x<|aV.n ?_;obtain rfl:=O (F h);exact⟨(qe,tj),Yc _ Y,wR []⟩;refine cT<|bp<|aV.n<|qq<|bj<|sr<|mo (s:=.row _) Y<|mv Y<|mv Y<|mv Y<|lE (V h) λOo Rc h=>ad _ Y Y Rc<|lE h λAo Fy h=>ad _ Y Y Fy ?_;obtain⟨⟨o53,n53⟩,Rh,h⟩:=bS h;refine RT.TS .none ir Ao Y Y ⟨_,Y⟩ ⟨_,Y⟩ T Rh<|mv Y ?_;obtain⟨⟨ML,QW⟩,Uq,h⟩:=bS h;refine bE h λ_ Yd h=>cR (l:=tj) (l':=QW) (e:=aY) (uN Uq) (kA Yd) 27 Y (.k2 Y Y)<|ag Y<|dn<|qq<|sr<|mo (s:=.row _) Y<|mv Y<|mv Y<|mv Y<|lE h λHZ OJ h=>ad _ Y Y OJ<|lE h λQT Up h=>ad _ Y Y Up ?_;obtain⟨⟨o62,n62⟩,Uv,h⟩:=bS h;refine RT.TS .none ir QT Y Y ⟨_,Y⟩ ⟨_,Y⟩ T Uv<|mv Y<|mv Y ?_;obtain⟨⟨QX,S5⟩,V6,h⟩:=bS h;refine bE h λ_ Ye h=>cR (l:=QW) (l':=S5) (e:=aY) (ng V6) (kA Ye) 27 Y (.k3 Y Y Y)<|dn ?_;refine bB h (λS6=>AS.cu 141 [(4,.row 38),(6,ai fm),(7,.sv (.v (.int .u64 ((ic:Nat):Int)))),(8,.row 27),(9,.sv (slc 1 (List.map aY iQ))),(10,ai ir),(11,.sv (.v (.int .u64 ((S6.1:Nat):Int))))] [] [(38,TR 106 1 aY qe),(27,TR 106 1 aY S6.2)]) (λh=>?_) (λS6 h=>?_);cases QX;exact fs<|⟨(ML,S5),(F h),wR []⟩
 refine cT<|sr<|mv Y<|lE (V h) λT3 h67 h=>sb _ Y Y (UK.sub (a:=ML) (b:=1) h67)<|ag Y<|dn<|sr<|RT.yz .none (dP 0) Y ⟨Y,aq⟩ T Y Y<|an (s:=.fe _ _) Y<|dn<|qq<|sr<|mv Y<|lE h λXM Yf h=>ln Y Yf<|mv Y<|dn<|bE h λXQ Yg qm=>?_;refine bJ (λ(Ig:Nat×(List Nat))=>AS.cu 141 [(4,.row 38),(6,ai fm),(7,.sv (.v (.int .u64 ((ic:Nat):Int)))),(8,.row 27),(9,.sv (slc 1 (List.map aY iQ))),(10,ai ir),(11,.sv (.v (.int .u64 ((T3:Nat):Int)))),(12,.fe 157 [.box 68])] [(68,⟨104,[.sv (.v (.int .u64 ((Ig.1:Nat):Int)))]⟩)] [(38,TR 106 1 aY qe),(27,TR 106 1 aY Ig.2)]) (λIg=>Ig=XQ) ?_ (λIg Yh=>?_);refine bj ?_;refine bK Yg (λQZ=>AS.cu 141 [(4,.row 38),(6,ai fm),(7,.sv (.v (.int .u64 ((ic:Nat):Int)))),(8,.row 27),(9,.sv (slc 1 (List.map aY iQ))),(10,ai ir),(11,.sv (.v (.int .u64 ((T3:Nat):Int)))),(12,.fe 157 [.box 68]),(69,.sv (slc 1 (List.map aY iQ))),(70,ai XM),(71,ai QZ.1)] [(68,⟨104,[.sv (.v (.int .u64 ((QZ.2.1:Nat):Int)))]⟩)] [(38,TR 106 1 aY qe),(27,TR 106 1 aY QZ.2.2)]) (wR []) (λQZ y65 G65 h Yi Yj=>?_);obtain⟨vY,uG,tq⟩:=QZ
 try dsimp only
 refine sr<|lE h λGQ Ri h=>ls _ Y Y Ri<|dn<|qq ?_;cases GQ;refine cF<|bP<|aV.x<|aV.x<|bw.x<|aV.n ?_;obtain rfl:=O (F h);exact⟨(uG,tq),Yj _ Y,wR []⟩;refine cT<|bp<|aV.n<|qq<|bj<|sr<|mv Y<|bE (V h) λMN Uw h=>ix Y Y Uw<|lr Y Y<|ag Y<|ag Y<|dn<|aW<|mo (s:=.row _) Y<|mv Y<|mv Y<|lE h λS7 Yk h=>ad _ Y Y Yk<|mo (s:=.fe _ _) Y<|mo (s:=.row _) Y<|mv Y<|mv Y<|lE h λx84 h84 h=>ad _ Y Y h84<|bE h λT4 Yl h=>iR Y Y Y Yl ?_;refine bE h λEU Ux h=>lR Y Y Ux Y<|lE h λXN h87 h=>cv _ Y (UK.nat h87)<|mv Y<|lE h λQ0 Ym h=>cv _ Y (UK.nat Ym)<|lE h λT5 Yn h=>ad _ Y Y (UK.add (a:=XN) (b:=Q0) Yn) ?_;obtain⟨⟨Q1,XO⟩,Yo,h⟩:=bS h;refine cB (bZ Yo) 68 Y ⟨Y,aq⟩<|bE h λS8 Yp h=>iR Y Y Y Yp<|bE h λXP Uy h=>sR Q1 Y Y Y Y Uy<|RT.done<|bw.n<|aV.n<|aW<|lE h λQ2 Yq h=>ad _ Y Y Yq<|mv Y<|RT.done ?_;obtain rfl:=O h;exact aV.n ⟨(Q2,XO,XP),Yi _ Y,wR []⟩;subst Yh;obtain⟨Dw,yL⟩:=Ig
 try dsimp only
 refine aV.n<|aW<|mo (s:=.row _) Y<|mv Y<|mv Y<|lE qm λx97 h97 qm=>ad _ Y Y h97<|mo (s:=.fe _ _) Y<|mo (s:=.row _) Y<|mv Y<|mv Y<|lE qm λAq J0 qm=>ad _ Y Y J0<|bE qm λH8 Rj qm=>iR Y Y Y Rj<|bE qm λFq Rk qm=>lR Y Y Rk Y<|lE qm λAr J1 qm=>cv _ Y (UK.nat J1) ?_;obtain⟨⟨Q3,k72⟩,Yr,qm⟩:=bS qm;exact cB (bZ Yr) 68 Y ⟨Y,aq⟩<|bE qm λT6 Ys qm=>iR Y Y Y Ys<|bE qm λXR Uz qm=>sR Q3 Y Y Y Y Uz<|dn<|⟨(T3,XR),qm,wR []⟩;obtain⟨JJ,Fp⟩:=S6
 try dsimp only
 refine aV.n<|aW<|mo (s:=.row _) Y<|mv Y<|mv Y<|lE h λQY Yt h=>cv _ Y (UK.nat Yt)<|bE h λT2 Yu h=>iR Y Y Y Yu<|bE h λXL UA h=>sR QY Y Y Y Y UA<|RT.done<|bw.n<|aV.n<|aW<|mv Y<|lE h λqc h46 h=>sb _ Y Y h46<|ag Y<|RT.done ?_;obtain rfl:=O h;exact aV.n ⟨(qc,XL,Fp),Yb _ Y,wR []⟩;subst Ya;obtain⟨yM,vZ⟩:=Ie
 try dsimp only
 refine aV.n<|sr<|mv Y<|bE Rg λFs Rl Rg=>RT.r8 (n:=1) (e:=aY) .none Y Y T Y T (by rfl) (by decide) (by exact⟨au,aq⟩) Rl<|an (s:=.row _) Y<|dn<|qq<|sr<|mv Y<|mv Y<|dn<|bE Rg λe81 Yv Yw=>?_;refine bJ (λ(oQ:(List Nat))=>AS.cu 141 [(4,.row 38),(5,.row 114)] [] [(38,TR 106 1 aY yM),(114,TR 106 1 aY oQ)]) (λoQ=>oQ=e81) ?_ (λoQ Yx=>?_);refine bj ?_;refine bK Yv (λS9=>AS.cu 141 [(4,.row 38),(5,.row 114),(7,.sv (.v (.int .u64 ((ic:Nat):Int)))),(8,.row 27),(115,ai fm),(116,ai S9.1)] [] [(38,TR 106 1 aY yM),(114,TR 106 1 aY S9.2),(27,TR 106 1 aY vZ)]) (wR []) (λS9 y81 G81 h Yy Yz=>?_);obtain⟨rz,uH⟩:=S9
 try dsimp only
 refine sr<|lE h λQ4 YA h=>ls _ Y Y YA<|dn<|qq ?_;cases Q4;refine cF<|bP<|aV.x<|aV.x<|bw.x<|aV.n ?_;obtain rfl:=O (F h);exact⟨uH,Yz _ Y,wR []⟩;refine cT<|bp<|aV.n<|qq<|bj<|sr<|mv Y<|ag Y<|dn<|bh mixed<|mo (s:=.row _) Y<|mv Y<|mo (s:=.row _) Y<|mv Y<|bE (V h) λT8 YB h=>iR Y Y Y YB<|bE h λT9 YC h=>lR Y Y YC Y<|lE h λQ5 YD h=>cv _ Y (UK.nat YD)<|mo (s:=.row _) Y<|mv Y<|lE h λUa h128 h=>ad _ Y Y h128<|bE h λUb YE h=>?_;refine iR Y Y Y YE<|bE h λUc YF h=>lR Y Y YF Y<|lE h λQ6 YG h=>cv _ Y (UK.nat YG)<|lE h λQ7 YH h=>RT.shl .none _ Y Y T (by decide) (UK.shl (a:=Q6) (q:=32) (s:=32) Y YH)<|lE h λQ8 YI h=>RT.or .none _ Y Y T (UK.or (a:=Q5) (b:=Q7) YI)<|mv Y<|lE h λUd YJ h=>RT.shr .none _ Y Y T (Int.natCast_nonneg _) (BG (k:=.u64) (a:=Q8) (q:=((ic:Nat):Int)) (s:=min ic 64) Y YJ)<|lE h λQ9 YK h=>cv _ Y (UK.nat YK) ?_;refine bE h λUe YL h=>iR Y Y Y YL<|bE h λXS UB h=>sR Q9 Y Y Y Y UB ?_;refine RT.done ⟨by kernel_rfl,?_⟩;refine bw.n<|aV.n<|aW<|lE h λRa YM h=>ad _ Y Y YM<|mv Y<|RT.done ?_;obtain rfl:=O h;exact aV.n ⟨(Ra,XS),Yy _ Y,wR []⟩;subst Yx
 try dsimp only
 refine aV.n<|sr<|mo (s:=.row _) Y<|mo (s:=.row _) Y<|an (s:=.row _) Y<|an (s:=.row _) Y<|dn<|bO (cC (i:=38) (E1:=106) (n:=1) (e:=aY) (l:=yM) Y)<|bO (cC (i:=114) (E1:=106) (n:=1) (e:=aY) (l:=oQ) Y)<|bf ?_;obtain rfl:=O Yw;exact R2 Y Y
theorem nA{x0:List Nat}{x1:List Nat}{r:(List Nat)×(List Nat)}(h:eY x0 x1=some r):Pure ah 146 [slc 1 (List.map aY x0),slc 1 (List.map aY x1)] (.z9 [slc 1 (List.map aY r.1),slc 1 (List.map aY r.2)]):=by
 refine aZ Tryz.func146 Y (af Y) (λdy M vs hvs=>?_);unfold eY at h;refine sr<|ag Y<|aI Y (aB (n:=1) (e:=aY))<|dn<|bO (gj 4 304 106 1 Y Y T)<|qq<|bj<|sr<|mv Y<|mv Y<|bE h λdw fU h=>cl (fu fU) ⟨Y,Y,aq⟩<|lE h λjB mG h=>ls _ Y Y mG<|ag Y<|dn ?_;cases jB;refine cF<|sr<|mv Y<|lE (F h) λfg j0 h=>ln Y j0<|lE h λkq nc h=>RT.leq .none _ Y Y T nc<|ag Y<|dn ?_;cases kq;refine cF<|sr<|mv Y<|lE (F h) λud wh h=>ln Y wh<|lE h λxz Fz h=>eq _ Y Y (xy (p:=ud) (q:=1) Fz)<|ag Y<|dn ?_;cases xz;refine cF<|bp<|bw.n<|aV.n<|sr<|mv Y<|mv Y ?_;obtain⟨⟨Uf,Ug⟩,Fy,h⟩:=bS (F h);refine cl (wj Fy) ⟨Y,Y,aq⟩<|ex Y Y<|ex Y Y<|ag Y<|ag Y<|dn<|bf ?_;obtain rfl:=O h;exact R2 Y Y;refine cT<|sr<|mv Y<|bE (V h) λpL DG h=>cN (v7 DG) ⟨Y,aq⟩<|an (s:=.row _) Y<|dn<|sr<|mo (s:=.row _) Y<|mv Y<|bE h λqa BZ h=>ix Y Y BZ<|lr Y Y<|lE h λuE DF h=>cv _ Y (UK.nat DF) ?_;obtain⟨⟨ES,l5⟩,MP,h⟩:=bS h;refine bE h λ_ he5 h=>cR (l:=pL) (l':=l5) (e:=aY) (uM MP) (kA he5) 39 Y (.k2 Y Y)<|ag Y<|dn<|sr<|mo (s:=.row _) Y<|mv Y<|lE h λxQ h48 h=>cv _ Y (UK.nat h48)<|bl (l:=[xQ]) (e:=aY) (.one Y (.nil)) Y Y Y Y Y Y<|an (s:=.row _) Y<|ag Y<|dn<|bO (cC (i:=39) (E1:=106) (n:=1) (e:=aY) (l:=l5) Y)<|bf ?_;refine bw.r<|aV.r ?_;obtain rfl:=O h;exact R2 Y Y
 refine cT<|sr<|mv Y<|bE (V h) λgG nf h=>cl (gI nf) ⟨Y,aq⟩<|mv Y<|bE h λiI pM h=>cl (gI pM) ⟨Y,aq⟩<|ag Y<|ag Y<|dn<|qq<|bh mixed<|mv Y<|mv Y<|bE h λkV rT h=>RT.quo .none _ Y Y T (Xm rT) (UK.quo rT) ?_;obtain⟨⟨uI,sn⟩,m9,h⟩:=bS h;refine cl (iu m9) ⟨Y,Y,aq⟩<|fl Y Y<|mv Y<|mv Y<|bE h λpA xS h=>RT.rem .none _ Y Y T (V0 xS) (My xS) ?_;obtain⟨⟨sq,qf⟩,nP,h⟩:=bS h;refine cl (iu nP) ⟨Y,Y,aq⟩<|fl Y Y<|ag Y<|ag Y ?_;refine RT.done ⟨by kernel_rfl,?_⟩;refine aV.n<|bf<|bw.r<|aV.r ?_;obtain rfl:=O h;exact R2 Y Y;refine cT<|sr<|mv Y<|bE (V h) λdS iV h=>cl (jb iV) ⟨Y,aq⟩<|ag Y<|ag Y<|dn<|bO (gj 4 310 106 1 Y Y T)<|bO (cC (i:=310) (E1:=106) (n:=1) (e:=aY) (l:=[]) Y)<|bf<|bw.r<|aV.r ?_;obtain rfl:=O h;exact R2 Y Y
end
section
open Go.Fw Go.Fw.Z Go.RowKit
theorem dh{x0:Int}{r:Zr}(h:bW x0=some r):Pure ah 93 [ay x0] (.agg (eZ r)):=by
 refine aZ Tryz.func93 Y (af Y) (λdy M vs hvs=>?_);unfold bW at h;refine sr<|al (cs:=[az false,ax]) (by exact⟨au,aB,aq⟩) Y<|dn<|sr<|mv Y<|lE h λx5 h5 h=>cv _ Y (UK.conv h5)<|ag Y<|dn<|qq<|sr<|mv Y<|lE h λx7 h7 h=>ls _ Y Y h7<|dn ?_;refine bB h (λj2=>AS.cu 14 [(0,ai x0),(2,.ptr 2 0),(3,.sv (.v (.int .u64 ((j2:Nat):Int))))] [(2,⟨34,[aj false,.sv ax]⟩)] []) (λh=>?_) (λDx h=>?_);cases x7;exact fs<|⟨x5,(F h),wR []⟩;exact cT<|aW<|mv Y<|lE (V h) λx9 h9 h=>RT.neg .none _ Y T (UK.neg h9)<|ag Y<|dn<|⟨x9,h,wR []⟩
 try dsimp only
 refine aV.n<|sr<|mv Y<|lE h λfV l6 h=>ls _ Y Y l6<|mv Y ?_;obtain⟨⟨Ov,Ow⟩,mG,h⟩:=bS h;refine cl (iu mG) ⟨Y,Y,aq⟩<|so Y Y Y<|dn<|bf ?_;obtain rfl:=O h;exact RZ (.agg Y Y (.k2 Y Y) Y (.nil))
theorem fj{x0:Zr}{r:Int×Bool}(h:cV x0=some r):Pure ah 100 [.agg (eZ x0)] (.z9 [ay r.1,az r.2]):=by
 obtain⟨bu,bt⟩:=x0;refine aZ Tryz.func100 Y (af Y) (λdy M vs hvs=>?_);unfold cV at h;refine sr<|bx Y<|ag Y<|ag Y<|dn<|sr<|fa Y Y<|lV Y Y Y<|bE h λx8 h8 h=>cl (bU h8) ⟨Y,aq⟩<|ag Y<|dn<|qq<|sr<|mv Y<|lE h λec gD h=>ln Y gD<|lE h λfV l6 h=>gt _ Y Y l6<|dn ?_;cases fV;refine fs<|sr<|mv Y<|bE (F h) λjB mG h=>cl (gI mG) ⟨Y,aq⟩<|ag Y<|dn<|qq<|sr<|fa Y Y<|lV Y Y Y<|dn ?_;cases bu;refine fs<|qq<|sr<|mv Y<|lE (F h) λiP n7 h=>ge _ Y Y (Xl (p:=9223372036854775808) (q:=jB) n7)<|dn ?_;cases iP;refine fs<|sr<|mv Y<|lE (F h) λic oD h=>cv _ Y oD<|ag Y<|ag Y<|dn<|bf ?_;obtain rfl:=O h;exact R2 Y Y;refine cT<|sr<|ag Y<|ag Y<|dn<|bf<|aV.r ?_;obtain rfl:=O (V h);exact R2 Y Y;refine cT<|qq<|sr<|mv Y<|lE (V h) λfm k8 h=>gt _ Y Y (VZ (p:=9223372036854775808) (q:=jB) k8)<|dn ?_;cases fm;refine fs<|sr<|mv Y<|lE (F h) λkq nc h=>RT.neg .none _ Y T (UK.neg nc)<|lE h λja oR h=>cv _ Y oR<|ag Y<|ag Y<|dn<|bf<|aV.r ?_;obtain rfl:=O h;exact R2 Y Y;refine cT<|sr<|ag Y<|ag Y<|dn<|bf<|aV.r<|aV.r ?_;obtain rfl:=O (V h);exact R2 Y Y;refine cT<|sr<|ag Y<|ag Y<|dn<|bf<|aV.r ?_;obtain rfl:=O (V h);exact R2 Y Y
theorem mH{x0:Bool}{x1:List Nat}{x2:Bool}{x3:List Nat}{r:Zr}(h:cK x0 x1 x2 x3=some r):Pure ah 149 [az x0,slc 1 (List.map aY x1),az x2,slc 1 (List.map aY x3)] (.agg (eZ r)):=by
 refine aZ Tryz.func149 Y (af Y) (λdy M vs hvs=>?_);unfold cK at h;refine sr<|al (cs:=[az false,ax]) (by exact⟨au,aB,aq⟩) Y<|dn<|qq<|sr<|mv Y<|mv Y<|lE h λfV l6 h=>RT.WN .none _ Y Y T l6<|dn ?_;cases fV;refine fs<|qq<|sr<|mv Y<|mv Y<|bE (F h) λkq nc h=>cl (fu nc) ⟨Y,Y,aq⟩<|lE h λja oR h=>ls _ Y Y oR<|dn ?_;cases ja;refine fs<|sr<|mv Y<|mv Y<|mv Y<|bE (F h) λij m8 h=>cl (jG m8) ⟨Y,Y,aq⟩ ?_;obtain⟨⟨uJ,uK⟩,Ax,h⟩:=bS h;refine cl (dD Ax) ⟨Y,Y,aq⟩<|so Y Y Y<|dn<|bf ?_;obtain rfl:=O h;exact RZ (.agg Y Y (.k2 Y Y) Y (.nil));refine cT<|sr<|mv Y<|mv Y<|mv Y<|bE (V h) λic oD h=>cl (jG oD) ⟨Y,Y,aq⟩ ?_;obtain⟨⟨pB,n6⟩,oS,h⟩:=bS h;refine cl (dD oS) ⟨Y,Y,aq⟩<|so Y Y Y<|dn<|bf<|aV.r ?_;obtain rfl:=O h;exact RZ (.agg Y Y (.k2 Y Y) Y (.nil));refine cT<|sr<|mv Y<|mv Y<|mv Y<|bE (V h) λdS iV h=>cl (ny iV) ⟨Y,Y,aq⟩ ?_;obtain⟨⟨jo,jq⟩,iW,h⟩:=bS h;refine cl (dD iW) ⟨Y,Y,aq⟩<|so Y Y Y<|dn<|bf<|aV.r ?_;obtain rfl:=O h;exact RZ (.agg Y Y (.k2 Y Y) Y (.nil))
theorem B6{x0:Zr}{x1:Zr}{r:Zr}(h:kX x0 x1=some r):Pure ah 127 [.agg (eZ x0),.agg (eZ x1)] (.agg (eZ r)):=by
 obtain⟨bu,bt⟩:=x0;obtain⟨cc,bX⟩:=x1;refine aZ Tryz.func127 Y (af Y) (λdy M vs hvs=>?_);unfold kX at h;refine sr<|bx Y<|bx Y<|al (cs:=[az false,ax]) (by exact⟨au,aB,aq⟩) Y<|dn<|sr<|ld Y Y (.k2 Y Y) ?_;obtain⟨⟨As,Ft⟩,fU,h⟩:=bS h;refine cl (fj fU) ⟨Y,aq⟩<|mv Y<|ex Y Y<|ex Y Y<|ag Y<|ag Y<|dn<|sr<|ld Y Y (.k2 Y Y) ?_;obtain⟨⟨BS,Fu⟩,k8,h⟩:=bS h;refine cl (fj k8) ⟨Y,aq⟩<|mv Y<|ex Y Y<|ex Y Y<|ag Y<|ag Y<|dn<|qq<|qq ?_;refine bB h (λj3=>AS.cu 48 [(2,.ptr 2 0),(3,.ptr 3 0),(4,.ptr 4 0),(5,ai As),(7,ai BS),(23,aj j3)] [(4,⟨34,[aj false,.sv ax]⟩),(3,⟨34,[aj cc,.sv (slc 1 (List.map aY bX))]⟩),(2,⟨34,[aj bu,.sv (slc 1 (List.map aY bt))]⟩)] []) (λh=>?_) (λyN h=>?_);refine aW<|mv Y<|mv Y<|bE h λDA wY h=>?_;cases Ft;obtain rfl:=O (F wY);exact ww<|pF Y<|dn<|⟨false,h,wR []⟩;refine gm Y ?_;obtain rfl:=O (V wY);exact pT Y<|dn<|⟨Fu,h,wR []⟩
 try dsimp only
 refine aV.n ?_;refine bB h (λj5=>AS.cu 48 [(2,.ptr 2 0),(3,.ptr 3 0),(4,.ptr 4 0)] [(4,⟨34,[aj false,.sv ax]⟩),(3,⟨34,[aj cc,.sv (slc 1 (List.map aY bX))]⟩),(2,⟨34,[aj bu,.sv (slc 1 (List.map aY bt))]⟩)] []) (λh=>?_) (λj5 h=>?_);cases yN;exact fs<|⟨(),(F h),wR []⟩;refine cT<|sr<|mv Y<|mv Y<|lE (V h) λkV rT h=>ad _ Y Y rT<|ag Y<|dn<|sr<|mv Y<|mv Y<|lE h λij m8 h=>RT.xor .none _ Y Y T m8<|mv Y<|mv Y<|lE h λiQ nP h=>RT.xor .none _ Y Y T nP<|lE h λmu vI h=>RT.and .none _ Y Y T vI<|lE h λm7 rS h=>ge _ Y Y rS<|dn ?_;cases m7;exact fs<|⟨(),(F h),wR []⟩;refine cT<|sr<|mv Y ?_;obtain⟨⟨qg,qh⟩,wh,h⟩:=bS (V h);refine cl (dh wh) ⟨Y,aq⟩<|so Y Y Y<|dn<|bf<|aV.r<|aV.r ?_;obtain rfl:=O h;exact RZ (.agg Y Y (.k2 Y Y) Y (.nil))
 try dsimp only
 refine aV.n<|qq<|bh mixed<|fa Y Y<|lV Y Y Y<|fa Y Y<|lV Y Y Y<|bE h λxP Ic h=>cl (bU Ic) ⟨Y,aq⟩<|fa Y Y<|lV Y Y Y<|fa Y Y<|lV Y Y Y<|bE h λqc h46 h=>cl (bU h46) ⟨Y,aq⟩ ?_;obtain⟨⟨Dy,Dz⟩,yQ,h⟩:=bS h;refine cl (mH yQ) ⟨Y,Y,Y,Y,aq⟩<|so Y Y Y ?_;refine RT.done ⟨by kernel_rfl,?_⟩;refine aV.n<|bf ?_;obtain rfl:=O h;exact RZ (.agg Y Y (.k2 Y Y) Y (.nil))
theorem B7{x0:Zr}{x1:Zr}{r:Zr}(h:kY x0 x1=some r):Pure ah 129 [.agg (eZ x0),.agg (eZ x1)] (.agg (eZ r)):=by
 obtain⟨bu,bt⟩:=x0;obtain⟨cc,bX⟩:=x1;refine aZ Tryz.func129 Y (af Y) (λdy M vs hvs=>?_);unfold kY at h;refine sr<|bx Y<|bx Y<|al (cs:=[az false,ax]) (by exact⟨au,aB,aq⟩) Y<|dn<|sr<|ld Y Y (.k2 Y Y) ?_;obtain⟨⟨As,Ft⟩,fU,h⟩:=bS h;refine cl (fj fU) ⟨Y,aq⟩<|mv Y<|ex Y Y<|ex Y Y<|ag Y<|ag Y<|dn<|sr<|ld Y Y (.k2 Y Y) ?_;obtain⟨⟨BS,Fu⟩,k8,h⟩:=bS h;refine cl (fj k8) ⟨Y,aq⟩<|mv Y<|ex Y Y<|ex Y Y<|ag Y<|ag Y<|dn<|qq<|qq ?_;refine bB h (λj3=>AS.cu 49 [(2,.ptr 2 0),(3,.ptr 3 0),(4,.ptr 4 0),(5,ai As),(7,ai BS),(23,aj j3)] [(4,⟨34,[aj false,.sv ax]⟩),(3,⟨34,[aj cc,.sv (slc 1 (List.map aY bX))]⟩),(2,⟨34,[aj bu,.sv (slc 1 (List.map aY bt))]⟩)] []) (λh=>?_) (λyN h=>?_);refine aW<|mv Y<|mv Y<|bE h λDA wY h=>?_;cases Ft;obtain rfl:=O (F wY);exact ww<|pF Y<|dn<|⟨false,h,wR []⟩;refine gm Y ?_;obtain rfl:=O (V wY);exact pT Y<|dn<|⟨Fu,h,wR []⟩
 try dsimp only
 refine aV.n ?_;refine bB h (λj5=>AS.cu 49 [(2,.ptr 2 0),(3,.ptr 3 0),(4,.ptr 4 0)] [(4,⟨34,[aj false,.sv ax]⟩),(3,⟨34,[aj cc,.sv (slc 1 (List.map aY bX))]⟩),(2,⟨34,[aj bu,.sv (slc 1 (List.map aY bt))]⟩)] []) (λh=>?_) (λj5 h=>?_);cases yN;exact fs<|⟨(),(F h),wR []⟩;refine cT<|sr<|mv Y<|mv Y<|lE (V h) λkV rT h=>sb _ Y Y rT<|ag Y<|dn<|sr<|mv Y<|mv Y<|lE h λij m8 h=>RT.xor .none _ Y Y T m8<|mv Y<|mv Y<|lE h λiQ nP h=>RT.xor .none _ Y Y T nP<|lE h λmu vI h=>RT.and .none _ Y Y T vI<|lE h λm7 rS h=>ge _ Y Y rS<|dn ?_;cases m7;exact fs<|⟨(),(F h),wR []⟩;refine cT<|sr<|mv Y ?_;obtain⟨⟨qg,qh⟩,wh,h⟩:=bS (V h);refine cl (dh wh) ⟨Y,aq⟩<|so Y Y Y<|dn<|bf<|aV.r<|aV.r ?_;obtain rfl:=O h;exact RZ (.agg Y Y (.k2 Y Y) Y (.nil))
 try dsimp only
 refine aV.n<|qq<|bh mixed<|fa Y Y<|lV Y Y Y<|fa Y Y<|lV Y Y Y<|bE h λxP Ic h=>cl (bU Ic) ⟨Y,aq⟩<|fa Y Y<|lV Y Y Y<|lE h λuE DF h=>nt Y _ DF<|fa Y Y<|lV Y Y Y<|bE h λuc yQ h=>cl (bU yQ) ⟨Y,aq⟩ ?_;obtain⟨⟨Ox,Oy⟩,h48,h⟩:=bS h;refine cl (mH h48) ⟨Y,Y,Y,Y,aq⟩<|so Y Y Y ?_;refine RT.done ⟨by kernel_rfl,?_⟩;refine aV.n<|bf ?_;obtain rfl:=O h;exact RZ (.agg Y Y (.k2 Y Y) Y (.nil))
theorem dV{x0:Zr}{x1:Zr}{r:Zr}(h:da x0 x1=some r):Pure ah 84 [.agg (eZ x0),.agg (eZ x1)] (.agg (eZ r)):=by
 obtain⟨bu,bt⟩:=x0;obtain⟨cc,bX⟩:=x1;refine aZ Tryz.func84 Y (af Y) (λdy M vs hvs=>?_);unfold da at h;refine sr<|bx Y<|bx Y<|al (cs:=[az false,ax]) (by exact⟨au,aB,aq⟩) Y<|dn<|qq<|bh mixed<|fa Y Y<|lV Y Y Y<|bE h λx9 h9 h=>cl (bU h9) ⟨Y,aq⟩<|fa Y Y<|lV Y Y Y<|bE h λdw fU h=>cl (bU fU) ⟨Y,aq⟩<|ag Y<|ag Y ?_;refine RT.done ⟨by kernel_rfl,?_⟩;refine aV.n<|qq<|qq ?_;refine bB h (λj3=>AS.cu 41 [(2,.ptr 2 0),(3,.ptr 3 0),(4,.ptr 4 0),(5,.sv (slc 1 (List.map aY x9))),(6,.sv (slc 1 (List.map aY dw))),(20,aj j3)] [(4,⟨34,[aj false,.sv ax]⟩),(3,⟨34,[aj cc,.sv (slc 1 (List.map aY bX))]⟩),(2,⟨34,[aj bu,.sv (slc 1 (List.map aY bt))]⟩)] []) (λh=>?_) (λJK h=>?_);refine aW<|mv Y<|lE h λeK jC h=>ln Y jC<|lE h λdS iV h=>RT.leq .none _ Y Y T iV<|mv Y<|bE h λOB rB h=>?_;cases dS;obtain rfl:=O (F rB);exact ww<|ww<|ww<|pF Y<|dn<|⟨false,h,wR []⟩;refine gm Y<|lE (V rB) λfg j0 rB=>gn Y j0<|lE rB λkq nc rB=>RT.leq (.some Y Y) _ Y Y T nc ?_;obtain rfl:=O rB;exact pT Y<|dn<|⟨kq,h,wR []⟩
 try dsimp only
 refine aV.n ?_;cases JK;refine fs<|qq<|bh mixed<|fa Y Y<|lV Y Y Y<|fa Y Y<|lV Y Y Y<|lE (F h) λud wh h=>RT.Ma .none _ Y Y T wh<|mv Y<|mv Y<|bE h λpL DG h=>cl (uL DG) ⟨Y,Y,aq⟩ ?_;obtain⟨⟨wW,wX⟩,rA,h⟩:=bS h;refine cl (dD rA) ⟨Y,Y,aq⟩<|so Y Y Y ?_;refine RT.done ⟨by kernel_rfl,?_⟩;refine aV.n<|bf ?_;obtain rfl:=O h;exact RZ (.agg Y Y (.k2 Y Y) Y (.nil));refine cT<|qq<|bh mixed<|fa Y Y<|lV Y Y Y<|fa Y Y<|lV Y Y Y<|lE (V h) λm6 oS h=>RT.Ma .none _ Y Y T oS<|mv Y<|bE h λgy m9 h=>cl (gI m9) ⟨Y,aq⟩<|mv Y<|bE h λij m8 h=>cl (gI m8) ⟨Y,aq⟩<|lE h λvX Ax h=>RT.mul .none _ Y Y T (UK.mul (a:=gy) (b:=ij) Ax) ?_;obtain⟨⟨Oz,OA⟩,xS,h⟩:=bS h;refine cl (iu xS) ⟨Y,Y,aq⟩<|so Y Y Y ?_;refine RT.done ⟨by kernel_rfl,?_⟩;refine aV.n<|bf<|aV.r ?_;obtain rfl:=O h;exact RZ (.agg Y Y (.k2 Y Y) Y (.nil))
theorem jH{x0:Zr}{r:Zr}(h:fH x0=some r):Pure ah 95 [.agg (eZ x0)] (.agg (eZ r)):=by
 obtain⟨bu,bt⟩:=x0;refine aZ Tryz.func95 Y (af Y) (λdy M vs hvs=>?_);unfold fH at h;refine sr<|bx Y<|al (cs:=[az false,ax]) (by exact⟨au,aB,aq⟩) Y<|dn<|qq<|bh mixed<|fa Y Y<|lV Y Y Y<|lE h λx5 h5 h=>nt Y _ h5<|fa Y Y<|lV Y Y Y<|bE h λx8 h8 h=>cl (bU h8) ⟨Y,aq⟩<|bE h λx9 h9 h=>cl (jb h9) ⟨Y,aq⟩ ?_;obtain⟨⟨qi,qj⟩,gD,h⟩:=bS h;refine cl (dD gD) ⟨Y,Y,aq⟩<|so Y Y Y ?_;refine RT.done ⟨by kernel_rfl,?_⟩;refine aV.n<|bf ?_;obtain rfl:=O h;exact RZ (.agg Y Y (.k2 Y Y) Y (.nil))
theorem B8{x0:Zr}{r:Zr}(h:kZ x0=some r):Pure ah 97 [.agg (eZ x0)] (.agg (eZ r)):=by
 obtain⟨bu,bt⟩:=x0;refine aZ Tryz.func97 Y (af Y) (λdy M vs hvs=>?_);unfold kZ at h;refine sr<|bx Y<|al (cs:=[az false,ax]) (by exact⟨au,aB,aq⟩) Y<|dn<|sr<|fa Y Y<|lV Y Y Y<|bE h λx5 h5 h=>cl (bU h5) ⟨Y,aq⟩<|bE h λx6 h6 h=>cl (jb h6) ⟨Y,aq⟩ ?_;obtain⟨⟨tu,tw⟩,h7,h⟩:=bS h;refine cl (dD h7) ⟨Y,Y,aq⟩<|so Y Y Y<|dn<|bf ?_;obtain rfl:=O h;exact RZ (.agg Y Y (.k2 Y Y) Y (.nil))
theorem dW{x0:Zr}{r:Int}(h:cz x0=some r):Pure ah 64 [.agg (eZ x0)] (ay r):=by
 obtain⟨bu,bt⟩:=x0;refine aZ Tryz.func64 Y (af Y) (λdy M vs hvs=>?_);unfold cz at h;refine sr<|bx Y<|ag Y<|dn<|qq<|bj<|sr<|fa Y Y<|lV Y Y Y<|bE h λx6 h6 h=>cl (bU h6) ⟨Y,aq⟩<|lE h λx7 h7 h=>ln Y h7<|lE h λx8 h8 h=>eq _ Y Y (xy (p:=x7) (q:=0) h8)<|ag Y<|dn ?_;cases x8;refine cF<|sr<|fa Y Y<|lV Y Y Y<|ag Y<|dn ?_;replace h:=F h;cases bu;refine cF<|bp<|bw.n<|aV.n<|sr<|ag Y<|dn<|bf ?_;obtain rfl:=O (F h);exact R1 Y;refine cT<|sr<|ag Y<|dn<|bf<|bw.r<|aV.r ?_;obtain rfl:=O (V h);exact R1 Y;refine cT<|sr<|ag Y<|dn<|bf<|bw.r<|aV.r ?_;obtain rfl:=O (V h);exact R1 Y
theorem B9{x0:Zr}{x1:Zr}{r:Int}(h:k7 x0 x1=some r):Pure ah 83 [.agg (eZ x0),.agg (eZ x1)] (ay r):=by
 obtain⟨bu,bt⟩:=x0;obtain⟨cc,bX⟩:=x1;refine aZ Tryz.func83 Y (af Y) (λdy M vs hvs=>?_);unfold k7 at h;refine sr<|bx Y<|bx Y<|ag Y<|dn<|qq<|bh mixed<|ld Y Y (.k2 Y Y)<|bE h λx8 h8 h=>cl (dW h8) ⟨Y,aq⟩<|ld Y Y (.k2 Y Y)<|bE h λec gD h=>cl (dW gD) ⟨Y,aq⟩<|ag Y<|ag Y ?_;refine RT.done ⟨by kernel_rfl,?_⟩;refine aV.n<|qq<|bj<|sr<|mv Y<|mv Y<|lE h λeK jC h=>ls _ Y Y jC<|ag Y<|dn ?_;cases eK;refine cF<|sr<|mv Y<|mv Y<|lE (F h) λfg j0 h=>gt _ Y Y j0<|ag Y<|dn ?_;cases fg;refine cF<|sr<|mv Y<|lE (F h) λgG nf h=>ls _ Y Y nf<|ag Y<|dn ?_;cases gG;refine cF<|bp<|bw.n<|aV.n<|qq<|bh mixed<|fa Y Y<|lV Y Y Y<|bE (F h) λpA xS h=>cl (bU xS) ⟨Y,aq⟩<|fa Y Y<|lV Y Y Y<|bE h λm7 rS h=>cl (bU rS) ⟨Y,aq⟩<|bE h λvG BY h=>cl (fu BY) ⟨Y,Y,aq⟩<|ag Y ?_;refine RT.done ⟨by kernel_rfl,?_⟩;refine aV.n<|bf ?_;obtain rfl:=O h;exact R1 Y;refine cT<|qq<|bh mixed<|fa Y Y<|lV Y Y Y<|bE (V h) λic oD h=>cl (bU oD) ⟨Y,aq⟩<|fa Y Y<|lV Y Y Y<|bE h λgy m9 h=>cl (bU m9) ⟨Y,aq⟩<|bE h λkW tC h=>cl (fu tC) ⟨Y,Y,aq⟩<|ag Y ?_;refine RT.done ⟨by kernel_rfl,?_⟩;refine aV.n<|bf<|bw.r<|aV.r ?_;obtain rfl:=O h;exact R1 Y;refine cT<|sr<|ag Y<|dn<|bf<|bw.r<|aV.r ?_;obtain rfl:=O (V h);exact R1 Y;refine cT<|sr<|ag Y<|dn<|bf<|bw.r<|aV.r ?_
 obtain rfl:=O (V h);exact R1 Y
theorem pC{x0:Zr}{x1:Zr}{r:Zr×Zr×Int}(h:ei x0 x1=some r):Pure ah 125 [.agg (eZ x0),.agg (eZ x1)] (.z9 [.agg (eZ r.1),.agg (eZ r.2.1),ay r.2.2]):=by
 obtain⟨bu,bt⟩:=x0;obtain⟨cc,bX⟩:=x1;refine aZ Tryz.func125 Y (af Y) (λdy M vs hvs=>?_);unfold ei at h;refine sr<|bx Y<|bx Y<|al (cs:=[az false,ax]) (by exact⟨au,aB,aq⟩) Y<|al (cs:=[az false,ax]) (by exact⟨au,aB,aq⟩) Y<|ag Y<|dn<|qq<|bh mixed<|fa Y Y<|lV Y Y Y<|bE h λjB mG h=>cl (bU mG) ⟨Y,aq⟩<|fa Y Y<|lV Y Y Y ?_;refine bE h λfo iW h=>cl (bU iW) ⟨Y,aq⟩<|ag Y<|ag Y ?_;refine RT.done ⟨by kernel_rfl,?_⟩;refine aV.n<|qq<|sr<|mv Y<|lE h λfg j0 h=>ln Y j0<|lE h λkq nc h=>eq _ Y Y (xy (p:=fg) (q:=0) nc)<|dn ?_;cases kq;refine fs<|sr<|mv Y<|mv Y ?_;obtain⟨⟨yO,BT⟩,oS,h⟩:=bS (F h);refine cl (nA oS) ⟨Y,Y,aq⟩<|mv Y<|ex Y Y<|ex Y Y<|ag Y<|ag Y<|dn<|sr<|mv Y<|bE h λij m8 h=>cl (bU m8) ⟨Y,aq⟩<|ag Y<|dn<|qq<|qq ?_;refine bB h (λj3=>AS.cu 52 [(2,.ptr 2 0),(3,.ptr 3 0),(4,.ptr 4 0),(5,.ptr 5 0),(8,.sv (slc 1 (List.map aY fo))),(9,.sv (slc 1 (List.map aY yO))),(10,.sv (slc 1 (List.map aY ij))),(36,aj j3.1)] [(5,⟨34,[aj false,.sv ax]⟩),(4,⟨34,[aj false,.sv ax]⟩),(3,⟨34,[aj cc,.sv (slc 1 (List.map aY bX))]⟩),(2,⟨34,[aj j3.2,.sv (slc 1 (List.map aY bt))]⟩)] []) (λh=>?_) (λj3 h=>?_);refine aW<|fa Y Y<|lV Y Y Y<|mv Y<|bE h λOE wY h=>?_;cases bu;obtain rfl:=O (F wY)
 exact ww<|ww<|ww<|pF Y<|dn<|⟨(false,false),h,wR []⟩;refine gm Y<|lE (V wY) λm7 rS wY=>gn Y rS<|lE wY λvG BY wY=>gg _ Y Y BY ?_;obtain rfl:=O wY;exact pT Y<|dn<|⟨(vG,true),h,wR []⟩;obtain⟨JM,tB⟩:=j3
 try dsimp only
 refine aV.n ?_;refine bB h (λj5=>AS.cu 52 [(2,.ptr 2 0),(3,.ptr 3 0),(4,.ptr 4 0),(5,.ptr 5 0),(9,.sv (slc 1 (List.map aY j5.1))),(10,.sv (slc 1 (List.map aY j5.2)))] [(5,⟨34,[aj false,.sv ax]⟩),(4,⟨34,[aj false,.sv ax]⟩),(3,⟨34,[aj cc,.sv (slc 1 (List.map aY bX))]⟩),(2,⟨34,[aj tB,.sv (slc 1 (List.map aY bt))]⟩)] []) (λh=>?_) (λj5 h=>?_);cases JM;exact fs<|⟨(yO,ij),(F h),wR []⟩;exact cT<|sr<|mv Y<|bl (l:=[1]) (e:=aY) (.one Y (.nil)) Y Y Y Y Y Y<|bE (V h) λpL DG h=>cl (ny DG) ⟨Y,Y,aq⟩<|ag Y<|dn<|aW<|mv Y<|mv Y<|bE h λqa BZ h=>cl (jG BZ) ⟨Y,Y,aq⟩<|ag Y<|dn<|⟨(pL,qa),h,wR []⟩;obtain⟨JN,DB⟩:=j5
 try dsimp only
 refine aV.n<|sr<|fa Y Y<|lV Y Y Y<|fa Y Y<|lV Y Y Y<|lE h λuc yQ h=>RT.Ma .none _ Y Y T yQ<|mv Y ?_;obtain⟨⟨DC,DD⟩,MQ,h⟩:=bS h;refine cl (dD MQ) ⟨Y,Y,aq⟩<|mv Y ?_;obtain⟨⟨OC,OD⟩,Rc,h⟩:=bS h;refine cl (dD Rc) ⟨Y,Y,aq⟩<|so Y Y Y<|so Y Y Y<|ag Y<|dn<|bf ?_;obtain rfl:=O h;exact RZ (.agg Y Y (.k2 Y Y) Y (.agg Y Y (.k2 Y Y) Y (.tmp Y (.nil))));refine cT<|sr<|bI (cs:=[_,_]) (cs':=[az false,ax]) (.nil) ⟨au,aB,aq⟩<|bI (cs:=[_,_]) (cs':=[az false,ax]) (.nil) ⟨au,aB,aq⟩<|so Y Y Y<|so Y Y Y<|ag Y<|dn<|bf<|aV.r ?_;obtain rfl:=O (V h);exact RZ (.agg Y Y (.k2 Y Y) Y (.agg Y Y (.k2 Y Y) Y (.tmp Y (.nil))))
theorem Ca{x0:Zr}{x1:Zr}{r:Zr}(h:jr x0 x1=some r):Pure ah 124 [.agg (eZ x0),.agg (eZ x1)] (.agg (eZ r)):=by
 obtain⟨bu,bt⟩:=x0;obtain⟨cc,bX⟩:=x1;refine aZ Tryz.func124 Y (af Y) (λdy M vs hvs=>?_);unfold jr at h;refine sr<|bx Y<|bx Y<|al (cs:=[az false,ax]) (by exact⟨au,aB,aq⟩) Y<|dn<|qq<|bh mixed<|fa Y Y<|lV Y Y Y<|bE h λjB mG h=>cl (bU mG) ⟨Y,aq⟩<|fa Y Y<|lV Y Y Y<|bE h λfo iW h=>cl (bU iW) ⟨Y,aq⟩<|ag Y<|ag Y ?_;refine RT.done ⟨by kernel_rfl,?_⟩;refine aV.n<|qq<|bE h λL1 JX l8=>?_;refine bJ (λ(we:(List Nat)×(List Nat))=>AS.cu 57 [(4,.ptr 4 0),(5,.sv (slc 1 (List.map aY we.1))),(6,.sv (slc 1 (List.map aY we.2)))] [(4,⟨34,[aj false,.sv ax]⟩)] []) (λwe=>we=L1) ?_ (λwe Rf=>?_);refine bj ?_;refine bK JX (λET=>AS.cu 57 [(4,.ptr 4 0),(5,.sv (slc 1 (List.map aY ET.1))),(6,.sv (slc 1 (List.map aY ET.2)))] [(4,⟨34,[aj false,.sv ax]⟩)] []) (wR []) (λET y12 G12 h JY JZ=>?_);obtain⟨H9,BU⟩:=ET
 try dsimp only
 refine qq<|qq ?_;refine bB h (λYN=>AS.cu 57 [(4,.ptr 4 0),(5,.sv (slc 1 (List.map aY H9))),(6,.sv (slc 1 (List.map aY BU))),(29,aj YN)] [(4,⟨34,[aj false,.sv ax]⟩)] []) (λh=>?_) (λFv h=>?_);refine aW<|mv Y<|lE h λfg j0 h=>ln Y j0<|lE h λkq nc h=>gt _ Y Y nc<|mv Y<|bE h λJP rV h=>?_;cases kq;obtain rfl:=O (F rV);exact ww<|ww<|ww<|ww<|wu<|wu<|wu<|ww<|pF Y<|dn<|⟨false,h,wR []⟩;refine gm Y<|lE (V rV) λiP n7 rV=>gn Y n7<|lE rV λiI pM rV=>gg _ Y Y pM<|gm Y<|bE rV λJO yR rV=>?_;cases iI;refine gm Y<|lE (F yR) λkV rT yR=>gn Y rT<|lE yR λgy m9 yR=>gg _ Y Y m9 ?_;obtain rfl:=O yR;refine gF Y ?_;obtain rfl:=O rV;exact pT Y<|dn<|⟨gy,h,wR []⟩;obtain rfl:=O (V yR);refine ww<|ww<|ww<|gT Y ?_;obtain rfl:=O rV;exact pT Y<|dn<|⟨true,h,wR []⟩
 try dsimp only
 refine aV.n ?_;cases Fv;refine cF<|bP<|aV.x<|aV.x<|bw.x<|aV.n ?_;obtain rfl:=O (F h);exact⟨(H9,BU),JZ _ Y,wR []⟩;refine cT<|bp<|aV.n<|bj<|sr<|mv Y<|mv Y ?_;obtain⟨⟨XT,Uh⟩,vI,h⟩:=bS (V h);refine cl (nA vI) ⟨Y,Y,aq⟩<|mv Y<|ex Y Y<|ex Y Y<|ag Y<|ag Y<|dn<|aW<|mv Y<|mv Y<|bE h λua DE h=>cl (bU DE) ⟨Y,aq⟩<|ag Y<|ag Y<|RT.done<|bw.n ?_;obtain rfl:=O h;exact aV.n ⟨(BU,ua),JY _ Y,wR []⟩;subst Rf;obtain⟨JQ,JR⟩:=we
 try dsimp only
 refine aV.n<|qq<|sr<|mv Y<|lE l8 λkU rA l8=>ln Y rA<|lE l8 λxP Ic l8=>eq _ Y Y (xy (p:=kU) (q:=0) Ic)<|dn ?_;cases xP;refine fs<|sr<|mv Y<|bE (F l8) λqc h46 l8=>cl (gI h46) ⟨Y,aq⟩<|mv Y<|bE l8 λxQ h48 l8=>cl (gI h48) ⟨Y,aq⟩<|ag Y<|ag Y<|dn<|qq<|bE l8 λe24 YO Rm=>?_;refine bJ (λ(A7:Nat)=>AS.cu 57 [(4,.ptr 4 0),(9,.sv (.v (.int .u64 ((A7:Nat):Int))))] [(4,⟨34,[aj false,.sv ax]⟩)] []) (λA7=>A7=e24) ?_ (λA7 YP=>?_);refine bj ?_;refine bK YO (λTa=>AS.cu 57 [(4,.ptr 4 0),(9,.sv (.v (.int .u64 ((Ta.1:Nat):Int)))),(10,.sv (.v (.int .u64 ((Ta.2:Nat):Int))))] [(4,⟨34,[aj false,.sv ax]⟩)] []) (wR []) (λTa y24 G24 h YQ YR=>?_);obtain⟨GR,v5⟩:=Ta
 try dsimp only
 refine qq<|sr<|mv Y<|lE h λAa JW h=>gt _ Y Y (VZ (p:=0) (q:=v5) JW)<|dn ?_;cases Aa;refine cF<|bP<|aV.x<|aV.x<|bw.x<|aV.n ?_;obtain rfl:=O (F h);exact⟨GR,YR _ Y,wR []⟩;refine cT<|bp<|aV.n<|bj<|bh mixed<|mv Y<|mv Y<|mv Y<|bE (V h) λAt EV h=>RT.rem .none _ Y Y T (V0 EV) (My EV)<|ag Y<|ag Y ?_;refine RT.done ⟨by kernel_rfl,?_⟩;refine bw.n ?_;obtain rfl:=O h;exact aV.n ⟨(v5,At),YQ _ Y,wR []⟩;subst YP
 try dsimp only
 refine aV.n<|sr<|mv Y ?_;obtain⟨⟨OH,OI⟩,Rd,Rm⟩:=bS Rm;refine cl (iu Rd) ⟨Y,Y,aq⟩<|so Y Y Y<|dn<|bf ?_;obtain rfl:=O Rm;exact RZ (.agg Y Y (.k2 Y Y) Y (.nil));refine cT<|sr<|mv Y<|bE (V l8) λBQ IP l8=>cl (jb IP) ⟨Y,aq⟩ ?_;obtain⟨⟨OF,OG⟩,DF,l8⟩:=bS l8;refine cl (dD DF) ⟨Y,Y,aq⟩<|so Y Y Y<|dn<|bf<|aV.r ?_;obtain rfl:=O l8;exact RZ (.agg Y Y (.k2 Y Y) Y (.nil))
end
section
open Go.Fw
noncomputable def fW(x0:Zr)(x1:Zr)(x2:Zr)(x3:Zr):Option (Zr×Zr):=match x0 with|⟨bu,bt⟩=>match x1 with|⟨cc,bX⟩=>match x2 with|⟨qo,qp⟩=>match x3 with|⟨Ay,Az⟩=>(da ⟨bu,bt⟩ ⟨Ay,Az⟩).bind λ⟨ia,gU⟩=>(da ⟨qo,qp⟩ ⟨cc,bX⟩).bind λ⟨qt,qu⟩=>(kX ⟨ia,gU⟩ ⟨qt,qu⟩).bind λ⟨jo,jq⟩=>(da ⟨cc,bX⟩ ⟨Ay,Az⟩).bind λ⟨pD,pE⟩=>some (⟨jo,jq⟩,⟨pD,pE⟩)
noncomputable def fX(x0:Zr)(x1:Zr)(x2:Zr)(x3:Zr):Option (Zr×Zr):=match x0 with|⟨bu,bt⟩=>match x1 with|⟨cc,bX⟩=>match x2 with|⟨qo,qp⟩=>match x3 with|⟨Ay,Az⟩=>(da ⟨bu,bt⟩ ⟨Ay,Az⟩).bind λ⟨ia,gU⟩=>(da ⟨qo,qp⟩ ⟨cc,bX⟩).bind λ⟨qt,qu⟩=>(kY ⟨ia,gU⟩ ⟨qt,qu⟩).bind λ⟨jo,jq⟩=>(da ⟨cc,bX⟩ ⟨Ay,Az⟩).bind λ⟨pD,pE⟩=>some (⟨jo,jq⟩,⟨pD,pE⟩)
noncomputable def fY(x0:Zr)(x1:Zr)(x2:Zr)(x3:Zr):Option (Zr×Zr):=match x0 with|⟨bu,bt⟩=>match x1 with|⟨cc,bX⟩=>match x2 with|⟨qo,qp⟩=>match x3 with|⟨Ay,Az⟩=>(da ⟨bu,bt⟩ ⟨qo,qp⟩).bind λ⟨ia,gU⟩=>(da ⟨cc,bX⟩ ⟨Ay,Az⟩).bind λ⟨qt,qu⟩=>some (⟨ia,gU⟩,⟨qt,qu⟩)
noncomputable def cZ(x0:Qr):Option (Zr×Zr):=match x0 with|⟨⟨bu,bt⟩,⟨bH,bT⟩⟩=>(cz ⟨bH,bT⟩).bind λx6=>(some (decide ((x6:Int)=0))).bind λx8=>(bif x8 then(bW 1).bind λ⟨OK,OL⟩=>some (⟨bu,bt⟩,⟨OK,OL⟩)else(some (decide ((x6:Int)=(-1)))).bind λjB=>(bif jB then(fH ⟨bu,bt⟩).bind λ⟨jo,jq⟩=>(fH ⟨bH,bT⟩).bind λ⟨pD,pE⟩=>some (⟨jo,jq⟩,⟨pD,pE⟩)else some (⟨bu,bt⟩,⟨bH,bT⟩)))
noncomputable def eP(x0:Zr)(x1:Zr):Option (Qr):=match x0 with|⟨bu,bt⟩=>match x1 with|⟨cc,bX⟩=>(cz ⟨cc,bX⟩).bind λx9=>(some (decide ((x9:Int)<0))).bind λec=>cj (λ(j2:Bool×(List Nat)×Bool×(List Nat))=>match j2 with|⟨FA,FB,FC,FD⟩=>(jr ⟨FC,FD⟩ ⟨FA,FB⟩).bind λ⟨nB,nC⟩=>(ei ⟨FC,FD⟩ ⟨nB,nC⟩).bind λ⟨⟨yS,yT⟩,⟨Rn,Ro⟩,YS⟩=>(ei ⟨FA,FB⟩ ⟨nB,nC⟩).bind λ⟨⟨yU,yV⟩,⟨Rp,Rq⟩,YT⟩=>(cV ⟨yU,yV⟩).bind λ⟨Rr,Rs⟩=>cj (λ(J2:Bool)=>cj (λ(j7:Bool×(List Nat))=>match j7 with|⟨FE,FF⟩=>some ⟨⟨yS,yT⟩,⟨FE,FF⟩⟩) λK7=>(bif J2 then K7 (false,[])else K7 (yU,yV))) λK5=>(bif Rs then(some (decide ((Rr:Int)=1))).bind λkU=>some kU else some false).bind λOM=>K5 OM) λK2=>(bif ec then(fH ⟨bu,bt⟩).bind λ⟨ia,gU⟩=>(fH ⟨cc,bX⟩).bind λ⟨yW,yX⟩=>K2 (yW,yX,ia,gU)else K2 (cc,bX,bu,bt))
noncomputable def dG(x0:Qr):Option (Int×Int×Bool):=match x0 with|⟨⟨bu,bt⟩,⟨bH,bT⟩⟩=>(cV ⟨bu,bt⟩).bind λ⟨Cb,Ih⟩=>(cV ⟨bH,bT⟩).bind λ⟨AA,UC⟩=>cj (λ(FG:Bool)=>(bif FG then some (0,0,false)else(some (decide ((AA:Int)=0))).bind λBQ=>cj (λ(ON:Int×Int)=>match ON with|⟨OO,OP⟩=>some (OO,OP,true)) λV7=>(bif BQ then V7 (Cb,1)else(some (decide ((AA:Int)<0))).bind λqc=>cj (λ(OQ:Int×Int)=>match OQ with|⟨J3,J4⟩=>V7 (J3,J4)) λV8=>(bif qc then(some (IntKind.i64.wrap (0-Cb))).bind λxQ=>(some (IntKind.i64.wrap (0-AA))).bind λAa=>V8 (xQ,Aa)else V8 (Cb,AA))))) λYU=>(some (!Ih)).bind λja=>(bif ja then some true else(some (!UC)).bind λiI=>some iI).bind λJ5=>(bif J5 then some true else(some (decide ((Cb:Int)<=(-2147483648)))).bind λgy=>some gy).bind λRt=>(bif Rt then some true else(some (decide ((2147483648:Int)<=Cb))).bind λpA=>some pA).bind λRu=>(bif Ru then some true else(some (decide ((AA:Int)<=(-2147483648)))).bind λvG=>some vG).bind λRv=>(bif Rv then some true else(some (decide ((2147483648:Int)<=AA))).bind λpL=>some pL).bind λRw=>YU Rw
noncomputable def fI(x0:Int)(x1:Int):Option (Qr):=(cf (λ(s6:Int×Int)=>match s6 with|⟨lO,pN⟩=>(show Option ((Int×Int)⊕(Int))from(some (decide ((pN:Int)≠0))).bind λec=>(bif ec then(Aj lO pN).bind λeK=>some (.inl (pN,eK))else some (.inr lO)))) (x0,x1)).bind λrW=>(some (decide ((rW:Int)<0))).bind λfo=>cj (λ(Ii:Int)=>(some (decide ((Ii:Int)=x1))).bind λgG=>(bif gG then(pK x0 Ii).bind λic=>(bW ic).bind λ⟨pB,n6⟩=>some ⟨⟨pB,n6⟩,⟨false,[]⟩⟩else(pK x0 Ii).bind λij=>(bW ij).bind λ⟨uJ,uK⟩=>(pK x1 Ii).bind λmu=>(bW mu).bind λ⟨J6,J7⟩=>some ⟨⟨uJ,uK⟩,⟨J6,J7⟩⟩)) λK8=>(bif fo then(some (IntKind.i64.wrap (0-rW))).bind λfg=>K8 fg else K8 rW)
noncomputable def nD(x0:Int):Option (Int):=(some (decide ((x0:Int)<0))).bind λx5=>(bif x5 then some (-1)else(some (decide ((0:Int)<x0))).bind λx8=>(bif x8 then some 1 else some 0))
noncomputable def iv(x1:Qr)(x2:Qr):Option (Qr):=match x1 with|⟨⟨cc,bX⟩,⟨gJ,gK⟩⟩=>match x2 with|⟨⟨qo,qp⟩,⟨DH,DI⟩⟩=>(cZ ⟨⟨cc,bX⟩,⟨gJ,gK⟩⟩).bind λ⟨⟨kC,kD⟩,⟨lP,lQ⟩⟩=>(cZ ⟨⟨qo,qp⟩,⟨DH,DI⟩⟩).bind λ⟨⟨gL,gM⟩,⟨jI,jJ⟩⟩=>(fW ⟨kC,kD⟩ ⟨lP,lQ⟩ ⟨gL,gM⟩ ⟨jI,jJ⟩).bind λ⟨⟨qw,qx⟩,⟨qy,qA⟩⟩=>(eP ⟨qw,qx⟩ ⟨qy,qA⟩).bind λ⟨⟨sq,qf⟩,⟨wZ,w5⟩⟩=>some ⟨⟨sq,qf⟩,⟨wZ,w5⟩⟩
noncomputable def iw(x1:Qr)(x2:Qr):Option (Qr):=match x1 with|⟨⟨cc,bX⟩,⟨gJ,gK⟩⟩=>match x2 with|⟨⟨qo,qp⟩,⟨DH,DI⟩⟩=>(cZ ⟨⟨cc,bX⟩,⟨gJ,gK⟩⟩).bind λ⟨⟨kC,kD⟩,⟨lP,lQ⟩⟩=>(cZ ⟨⟨qo,qp⟩,⟨DH,DI⟩⟩).bind λ⟨⟨gL,gM⟩,⟨jI,jJ⟩⟩=>(fX ⟨kC,kD⟩ ⟨lP,lQ⟩ ⟨gL,gM⟩ ⟨jI,jJ⟩).bind λ⟨⟨qw,qx⟩,⟨qy,qA⟩⟩=>(eP ⟨qw,qx⟩ ⟨qy,qA⟩).bind λ⟨⟨sq,qf⟩,⟨wZ,w5⟩⟩=>some ⟨⟨sq,qf⟩,⟨wZ,w5⟩⟩
noncomputable def iy(x1:Qr)(x2:Qr):Option (Qr):=match x1 with|⟨⟨cc,bX⟩,⟨gJ,gK⟩⟩=>match x2 with|⟨⟨qo,qp⟩,⟨DH,DI⟩⟩=>(cZ ⟨⟨cc,bX⟩,⟨gJ,gK⟩⟩).bind λ⟨⟨kC,kD⟩,⟨lP,lQ⟩⟩=>(cZ ⟨⟨qo,qp⟩,⟨DH,DI⟩⟩).bind λ⟨⟨gL,gM⟩,⟨jI,jJ⟩⟩=>(fY ⟨kC,kD⟩ ⟨lP,lQ⟩ ⟨gL,gM⟩ ⟨jI,jJ⟩).bind λ⟨⟨qw,qx⟩,⟨qy,qA⟩⟩=>(eP ⟨qw,qx⟩ ⟨qy,qA⟩).bind λ⟨⟨sq,qf⟩,⟨wZ,w5⟩⟩=>some ⟨⟨sq,qf⟩,⟨wZ,w5⟩⟩
noncomputable def dQ(x0:Int):Option (Qr):=(bW x0).bind λ⟨AB,AD⟩=>some ⟨⟨AB,AD⟩,⟨false,[]⟩⟩
noncomputable def cn(x0:Qr):Option (Qr):=match x0 with|⟨⟨bu,bt⟩,⟨bH,bT⟩⟩=>(dG ⟨⟨bu,bt⟩,⟨bH,bT⟩⟩).bind λ⟨x8a,x8b,YV⟩=>(bif YV then(fI x8a x8b).bind λ⟨⟨qt,qu⟩,⟨OR,OS⟩⟩=>some ⟨⟨qt,qu⟩,⟨OR,OS⟩⟩else(cZ ⟨⟨bu,bt⟩,⟨bH,bT⟩⟩).bind λ⟨⟨J8,J9⟩,⟨Ka,Kb⟩⟩=>(eP ⟨J8,J9⟩ ⟨Ka,Kb⟩).bind λ⟨⟨DJ,DK⟩,⟨OT,OU⟩⟩=>some ⟨⟨DJ,DK⟩,⟨OT,OU⟩⟩)
noncomputable def gz(x0:Qr):Option (Int):=match x0 with|⟨⟨bu,bt⟩,⟨bH,bT⟩⟩=>(cz ⟨bH,bT⟩).bind λx5=>(some (decide ((x5:Int)<0))).bind λx6=>(bif x6 then(cz ⟨bu,bt⟩).bind λx9=>(some (IntKind.i64.wrap (0-x9))).bind λec=>some ec else(cz ⟨bu,bt⟩).bind λjB=>some jB)
noncomputable def jh(x0:Qr)(x1:Qr):Option (Qr):=match x0 with|⟨⟨bu,bt⟩,⟨bH,bT⟩⟩=>match x1 with|⟨⟨cc,bX⟩,⟨gJ,gK⟩⟩=>(dG ⟨⟨bu,bt⟩,⟨bH,bT⟩⟩).bind λ⟨yY,wm,yZ⟩=>(dG ⟨⟨cc,bX⟩,⟨gJ,gK⟩⟩).bind λ⟨y4,wv,y5⟩=>cj (λ(qB:Bool)=>(bif qB then(some (IntKind.i64.wrap (yY*wv))).bind λij=>(some (IntKind.i64.wrap (y4*wm))).bind λiQ=>(some (IntKind.i64.wrap (ij+iQ))).bind λmu=>(some (IntKind.i64.wrap (wm*wv))).bind λud=>(fI mu ud).bind λ⟨⟨DL,DM⟩,⟨DN,DO⟩⟩=>some ⟨⟨DL,DM⟩,⟨DN,DO⟩⟩else(iv ⟨⟨bu,bt⟩,⟨bH,bT⟩⟩ ⟨⟨cc,bX⟩,⟨gJ,gK⟩⟩).bind λ⟨⟨wW,wX⟩,⟨DP,DQ⟩⟩=>some ⟨⟨wW,wX⟩,⟨DP,DQ⟩⟩)) λK3=>(bif yZ then some y5 else some false).bind λw6=>K3 w6
noncomputable def mI(x0:Qr)(x1:Qr):Option (Qr):=match x0 with|⟨⟨bu,bt⟩,⟨bH,bT⟩⟩=>match x1 with|⟨⟨cc,bX⟩,⟨gJ,gK⟩⟩=>(dG ⟨⟨bu,bt⟩,⟨bH,bT⟩⟩).bind λ⟨yY,wm,yZ⟩=>(dG ⟨⟨cc,bX⟩,⟨gJ,gK⟩⟩).bind λ⟨y4,wv,y5⟩=>cj (λ(qB:Bool)=>(bif qB then(some (IntKind.i64.wrap (yY*wv))).bind λij=>(some (IntKind.i64.wrap (y4*wm))).bind λiQ=>(some (IntKind.i64.wrap (ij-iQ))).bind λmu=>(some (IntKind.i64.wrap (wm*wv))).bind λud=>(fI mu ud).bind λ⟨⟨DL,DM⟩,⟨DN,DO⟩⟩=>some ⟨⟨DL,DM⟩,⟨DN,DO⟩⟩else(iw ⟨⟨bu,bt⟩,⟨bH,bT⟩⟩ ⟨⟨cc,bX⟩,⟨gJ,gK⟩⟩).bind λ⟨⟨wW,wX⟩,⟨DP,DQ⟩⟩=>some ⟨⟨wW,wX⟩,⟨DP,DQ⟩⟩)) λK3=>(bif yZ then some y5 else some false).bind λw6=>K3 w6
noncomputable def kE(x0:Qr)(x1:Qr):Option (Qr):=match x0 with|⟨⟨bu,bt⟩,⟨bH,bT⟩⟩=>match x1 with|⟨⟨cc,bX⟩,⟨gJ,gK⟩⟩=>(dG ⟨⟨bu,bt⟩,⟨bH,bT⟩⟩).bind λ⟨yY,wm,yZ⟩=>(dG ⟨⟨cc,bX⟩,⟨gJ,gK⟩⟩).bind λ⟨y4,wv,y5⟩=>cj (λ(qB:Bool)=>(bif qB then(some (IntKind.i64.wrap (yY*y4))).bind λij=>(some (IntKind.i64.wrap (wm*wv))).bind λiQ=>(fI ij iQ).bind λ⟨⟨OV,OW⟩,⟨OX,OY⟩⟩=>some ⟨⟨OV,OW⟩,⟨OX,OY⟩⟩else(iy ⟨⟨bu,bt⟩,⟨bH,bT⟩⟩ ⟨⟨cc,bX⟩,⟨gJ,gK⟩⟩).bind λ⟨⟨qg,qh⟩,⟨DR,DS⟩⟩=>some ⟨⟨qg,qh⟩,⟨DR,DS⟩⟩)) λK3=>(bif yZ then some y5 else some false).bind λw6=>K3 w6
noncomputable def ji(x0:Qr):Option (Qr):=match x0 with|⟨⟨bu,bt⟩,⟨bH,bT⟩⟩=>(cn ⟨⟨bu,bt⟩,⟨bH,bT⟩⟩).bind λ⟨⟨wz,y7⟩,⟨uO,wA⟩⟩=>(fH ⟨wz,y7⟩).bind λ⟨qC,qD⟩=>some ⟨⟨qC,qD⟩,⟨uO,wA⟩⟩
noncomputable def mJ(x0:Qr):Option (Qr):=match x0 with|⟨⟨bu,bt⟩,⟨bH,bT⟩⟩=>(cn ⟨⟨bu,bt⟩,⟨bH,bT⟩⟩).bind λ⟨⟨wz,y7⟩,⟨uO,wA⟩⟩=>(kZ ⟨wz,y7⟩).bind λ⟨qC,qD⟩=>some ⟨⟨qC,qD⟩,⟨uO,wA⟩⟩
noncomputable def iz(x0:Qr)(x1:Qr):Option (Int):=match x0 with|⟨⟨bu,bt⟩,⟨bH,bT⟩⟩=>match x1 with|⟨⟨cc,bX⟩,⟨gJ,gK⟩⟩=>(cZ ⟨⟨bu,bt⟩,⟨bH,bT⟩⟩).bind λ⟨⟨kC,kD⟩,⟨lP,lQ⟩⟩=>(cZ ⟨⟨cc,bX⟩,⟨gJ,gK⟩⟩).bind λ⟨⟨gL,gM⟩,⟨jI,jJ⟩⟩=>(cz ⟨kC,kD⟩).bind λiP=>(cz ⟨gL,gM⟩).bind λic=>cj (λ(Kc:Bool)=>(bif Kc then(some (IntKind.i64.wrap (iP-ic))).bind λm7=>(nD m7).bind λvG=>some vG else(da ⟨kC,kD⟩ ⟨jI,jJ⟩).bind λ⟨OZ,O0⟩=>(da ⟨gL,gM⟩ ⟨lP,lQ⟩).bind λ⟨O1,O2⟩=>(k7 ⟨OZ,O0⟩ ⟨O1,O2⟩).bind λqa=>some qa)) λK3=>(some (decide ((iP:Int)≠ic))).bind λgy=>(bif gy then some true else(some (decide ((iP:Int)=0))).bind λvX=>some vX).bind λO3=>K3 O3
noncomputable def kF(x0:Qr)(x1:Qr):Option (Qr):=match x0 with|⟨⟨bu,bt⟩,⟨bH,bT⟩⟩=>match x1 with|⟨⟨cc,bX⟩,⟨gJ,gK⟩⟩=>(iz ⟨⟨cc,bX⟩,⟨gJ,gK⟩⟩ ⟨⟨bu,bt⟩,⟨bH,bT⟩⟩).bind λx7=>(some (decide ((0:Int)<x7))).bind λx8=>(bif x8 then(cn ⟨⟨cc,bX⟩,⟨gJ,gK⟩⟩).bind λ⟨⟨qi,qj⟩,⟨DT,DU⟩⟩=>some ⟨⟨qi,qj⟩,⟨DT,DU⟩⟩else(cn ⟨⟨bu,bt⟩,⟨bH,bT⟩⟩).bind λ⟨⟨ia,gU⟩,⟨GS,GU⟩⟩=>some ⟨⟨ia,gU⟩,⟨GS,GU⟩⟩)
end
section
open Go.Fw Go.Fw.Z Go.RowKit
abbrev Ke:List (Value×Value):=[(.int .u8 43,.agg #[.func (.func 126) #[] #[]]),(.int .u8 45,.agg #[.func (.func 128) #[] #[]]),(.int .u8 42,.agg #[.func (.func 130) #[] #[]]),(.int .u8 47,.agg #[.func (.func 131) #[] #[]])]
theorem jk:Pure ah 102 [] (Ju Ke):=by
 refine aZ Tryz.func102 Y (af Y) (λdy M vs hvs=>?_);refine bz<|aW<|RT.yq .none Y T<|RT.done<|aV.n<|bz<|MC (af Y) Y Y Y (λS' h0=>?_);exact bf (R1 h0)
theorem qE{x0:Zr}{x1:Zr}{x2:Zr}{x3:Zr}{r:Zr×Zr}(h:fW x0 x1 x2 x3=some r):Pure ah 126 [.agg (eZ x0),.agg (eZ x1),.agg (eZ x2),.agg (eZ x3)] (.z9 [.agg (eZ r.1),.agg (eZ r.2)]):=by
 obtain⟨bu,bt⟩:=x0;obtain⟨cc,bX⟩:=x1;obtain⟨qo,qp⟩:=x2;obtain⟨Ay,Az⟩:=x3;refine aZ Tryz.func126 Y (af Y) (λdy M vs hvs=>?_);unfold fW at h;refine sr<|bx Y<|bx Y<|bx Y<|bx Y<|al (cs:=[az false,ax]) (by exact⟨au,aB,aq⟩) Y<|al (cs:=[az false,ax]) (by exact⟨au,aB,aq⟩) Y<|dn<|qq<|bh mixed<|ld Y Y (.k2 Y Y)<|ld Y Y (.k2 Y Y) ?_;obtain⟨⟨ia,gU⟩,fU,h⟩:=bS h;refine cl (dV fU) ⟨Y,Y,aq⟩<|ld Y Y (.k2 Y Y)<|ld Y Y (.k2 Y Y) ?_;obtain⟨⟨qt,qu⟩,iV,h⟩:=bS h;refine cl (dV iV) ⟨Y,Y,aq⟩ ?_;obtain⟨⟨jo,jq⟩,iW,h⟩:=bS h;refine cl (B6 iW) ⟨Y,Y,aq⟩<|ld Y Y (.k2 Y Y)<|ld Y Y (.k2 Y Y) ?_;obtain⟨⟨pD,pE⟩,nc,h⟩:=bS h;refine cl (dV nc) ⟨Y,Y,aq⟩<|so Y Y Y<|so Y Y Y ?_;refine RT.done ⟨by kernel_rfl,?_⟩;refine aV.n<|bf ?_;obtain rfl:=O h;exact RZ (.agg Y Y (.k2 Y Y) Y (.agg Y Y (.k2 Y Y) Y (.nil)))
theorem qF{x0:Zr}{x1:Zr}{x2:Zr}{x3:Zr}{r:Zr×Zr}(h:fX x0 x1 x2 x3=some r):Pure ah 128 [.agg (eZ x0),.agg (eZ x1),.agg (eZ x2),.agg (eZ x3)] (.z9 [.agg (eZ r.1),.agg (eZ r.2)]):=by
 obtain⟨bu,bt⟩:=x0;obtain⟨cc,bX⟩:=x1;obtain⟨qo,qp⟩:=x2;obtain⟨Ay,Az⟩:=x3;refine aZ Tryz.func128 Y (af Y) (λdy M vs hvs=>?_);unfold fX at h;refine sr<|bx Y<|bx Y<|bx Y<|bx Y<|al (cs:=[az false,ax]) (by exact⟨au,aB,aq⟩) Y<|al (cs:=[az false,ax]) (by exact⟨au,aB,aq⟩) Y<|dn<|qq<|bh mixed<|ld Y Y (.k2 Y Y)<|ld Y Y (.k2 Y Y) ?_;obtain⟨⟨ia,gU⟩,fU,h⟩:=bS h;refine cl (dV fU) ⟨Y,Y,aq⟩<|ld Y Y (.k2 Y Y)<|ld Y Y (.k2 Y Y) ?_;obtain⟨⟨qt,qu⟩,iV,h⟩:=bS h;refine cl (dV iV) ⟨Y,Y,aq⟩ ?_;obtain⟨⟨jo,jq⟩,iW,h⟩:=bS h;refine cl (B7 iW) ⟨Y,Y,aq⟩<|ld Y Y (.k2 Y Y)<|ld Y Y (.k2 Y Y) ?_;obtain⟨⟨pD,pE⟩,nc,h⟩:=bS h;refine cl (dV nc) ⟨Y,Y,aq⟩<|so Y Y Y<|so Y Y Y ?_;refine RT.done ⟨by kernel_rfl,?_⟩;refine aV.n<|bf ?_;obtain rfl:=O h;exact RZ (.agg Y Y (.k2 Y Y) Y (.agg Y Y (.k2 Y Y) Y (.nil)))
theorem qG{x0:Zr}{x1:Zr}{x2:Zr}{x3:Zr}{r:Zr×Zr}(h:fY x0 x1 x2 x3=some r):Pure ah 130 [.agg (eZ x0),.agg (eZ x1),.agg (eZ x2),.agg (eZ x3)] (.z9 [.agg (eZ r.1),.agg (eZ r.2)]):=by
 obtain⟨bu,bt⟩:=x0;obtain⟨cc,bX⟩:=x1;obtain⟨qo,qp⟩:=x2;obtain⟨Ay,Az⟩:=x3;refine aZ Tryz.func130 Y (af Y) (λdy M vs hvs=>?_);unfold fY at h;refine sr<|bx Y<|bx Y<|bx Y<|bx Y<|al (cs:=[az false,ax]) (by exact⟨au,aB,aq⟩) Y<|al (cs:=[az false,ax]) (by exact⟨au,aB,aq⟩) Y<|dn<|qq<|bh mixed<|ld Y Y (.k2 Y Y)<|ld Y Y (.k2 Y Y) ?_;obtain⟨⟨ia,gU⟩,fU,h⟩:=bS h;refine cl (dV fU) ⟨Y,Y,aq⟩<|ld Y Y (.k2 Y Y)<|ld Y Y (.k2 Y Y) ?_;obtain⟨⟨qt,qu⟩,iV,h⟩:=bS h;refine cl (dV iV) ⟨Y,Y,aq⟩<|so Y Y Y<|so Y Y Y ?_;refine RT.done ⟨by kernel_rfl,?_⟩;refine aV.n<|bf ?_;obtain rfl:=O h;exact RZ (.agg Y Y (.k2 Y Y) Y (.agg Y Y (.k2 Y Y) Y (.nil)))
theorem dX{x0:Qr}{r:Zr×Zr}(h:cZ x0=some r):Pure ah 81 [.agg (eQ x0)] (.z9 [.agg (eZ r.1),.agg (eZ r.2)]):=by
 obtain⟨⟨bu,bt⟩,⟨bH,bT⟩⟩:=x0;refine aZ Tryz.func81 Y (af Y) (λdy M vs hvs=>?_);unfold cZ at h;refine sr<|bx Y<|al (cs:=[az false,ax]) (by exact⟨au,aB,aq⟩) Y<|al (cs:=[az false,ax]) (by exact⟨au,aB,aq⟩) Y<|dn<|qq<|sr<|fa Y Y<|ld Y Y (.k2 Y Y)<|bE h λx6 h6 h=>cl (dW h6) ⟨Y,aq⟩<|dn<|bj<|sr<|lE h λx8 h8 h=>eq _ Y Y (xy (p:=x6) (q:=0) h8) ?_;refine ag Y<|dn ?_;cases x8;refine cF<|sr<|lE (F h) λjB mG h=>eq _ Y Y (xy (p:=x6) (q:=(-1)) mG)<|ag Y<|dn ?_;cases jB;refine cF<|bp<|bw.n<|aV.n<|qq<|bh mixed<|fa Y Y<|ld Y Y (.k2 Y Y)<|fa Y Y<|ld Y Y (.k2 Y Y)<|so Y Y Y<|so Y Y Y ?_;refine RT.done ⟨by kernel_rfl,?_⟩;refine aV.n<|bf ?_;obtain rfl:=O (F h);exact RZ (.agg Y Y (.k2 Y Y) Y (.agg Y Y (.k2 Y Y) Y (.nil)));refine cT<|qq<|bh mixed<|fa Y Y<|ld Y Y (.k2 Y Y) ?_;obtain⟨⟨jo,jq⟩,iW,h⟩:=bS (V h);refine cl (jH iW) ⟨Y,aq⟩<|fa Y Y<|ld Y Y (.k2 Y Y) ?_;obtain⟨⟨pD,pE⟩,nc,h⟩:=bS h;refine cl (jH nc) ⟨Y,aq⟩<|so Y Y Y<|so Y Y Y ?_;refine RT.done ⟨by kernel_rfl,?_⟩;refine aV.n<|bf<|bw.r<|aV.r ?_;obtain rfl:=O h;exact RZ (.agg Y Y (.k2 Y Y) Y (.agg Y Y (.k2 Y Y) Y (.nil)));refine cT<|qq<|bh mixed<|fa Y Y<|ld Y Y (.k2 Y Y) ?_;obtain⟨⟨OK,OL⟩,l6,h⟩:=bS (V h);refine cl (dh l6) ⟨Y,aq⟩<|so Y Y Y<|so Y Y Y ?_
 refine RT.done ⟨by kernel_rfl,?_⟩;refine aV.n<|bf<|bw.r<|aV.r ?_;obtain rfl:=O h;exact RZ (.agg Y Y (.k2 Y Y) Y (.agg Y Y (.k2 Y Y) Y (.nil)))
theorem jK{x0:Zr}{x1:Zr}{r:Qr}(h:eP x0 x1=some r):Pure ah 101 [.agg (eZ x0),.agg (eZ x1)] (.agg (eQ r)):=by
 obtain⟨bu,bt⟩:=x0;obtain⟨cc,bX⟩:=x1;refine aZ Tryz.func101 Y (af Y) (λdy M vs hvs=>?_);unfold eP at h;refine sr<|bx Y<|bx Y<|al (cs:=[az false,ax,az false,ax]) (by exact⟨au,aB,au,aB,aq⟩) Y<|dn<|qq<|sr<|ld Y Y (.k2 Y Y)<|bE h λx9 h9 h=>cl (dW h9) ⟨Y,aq⟩<|lE h λec gD h=>ls _ Y Y gD<|dn ?_;refine bB h (λj2=>AS.cu 46 [(2,.ptr 2 0),(3,.ptr 3 0),(4,.ptr 4 0)] [(4,⟨36,[aj false,.sv ax,aj false,.sv ax]⟩),(3,⟨34,[aj j2.1,.sv (slc 1 (List.map aY j2.2.1))]⟩),(2,⟨34,[aj j2.2.2.1,.sv (slc 1 (List.map aY j2.2.2.2))]⟩)] []) (λh=>?_) (λj2 h=>?_);cases ec;exact fs<|⟨(cc,bX,bu,bt),(F h),wR []⟩;refine cT<|bh mixed<|ld Y Y (.k2 Y Y) ?_;obtain⟨⟨ia,gU⟩,fU,h⟩:=bS (V h);refine cl (jH fU) ⟨Y,aq⟩<|ld Y Y (.k2 Y Y) ?_;obtain⟨⟨yW,yX⟩,jC,h⟩:=bS h;refine cl (jH jC) ⟨Y,aq⟩<|so Y Y Y<|so Y Y Y ?_;refine RT.done ⟨by kernel_rfl,?_⟩;exact aV.n<|⟨(yW,yX,ia,gU),h,wR []⟩;obtain⟨FA,FB,FC,FD⟩:=j2
 try dsimp only
 refine aV.n<|sr<|ld Y Y (.k2 Y Y)<|ld Y Y (.k2 Y Y) ?_;obtain⟨⟨nB,nC⟩,k8,h⟩:=bS h;refine cl (Ca k8) ⟨Y,Y,aq⟩<|al (cs:=[az false,ax]) (by exact⟨au,aB,aq⟩) Y<|so Y Y Y<|dn<|sr<|ld Y Y (.k2 Y Y)<|ld Y Y (.k2 Y Y) ?_;obtain⟨⟨⟨yS,yT⟩,⟨Rn,Ro⟩,YS⟩,nf,h⟩:=bS h;refine cl (pC nf) ⟨Y,Y,aq⟩<|mv Y<|ex Y Y<|ex Y Y<|ex Y Y<|so Y Y Y<|dn<|sr<|ld Y Y (.k2 Y Y)<|ld Y Y (.k2 Y Y) ?_;obtain⟨⟨⟨yU,yV⟩,⟨Rp,Rq⟩,YT⟩,tC,h⟩:=bS h;refine cl (pC tC) ⟨Y,Y,aq⟩<|mv Y<|ex Y Y<|ex Y Y<|ex Y Y<|so Y Y Y<|dn<|qq<|sr<|ld Y Y (.k2 Y Y) ?_;obtain⟨⟨Rr,Rs⟩,rS,h⟩:=bS h;refine cl (fj rS) ⟨Y,aq⟩<|mv Y<|ex Y Y<|ex Y Y<|ag Y<|ag Y<|dn<|qq ?_;refine bB h (λj5=>AS.cu 46 [(2,.ptr 2 0),(3,.ptr 3 0),(4,.ptr 4 0),(41,aj j5)] [(4,⟨36,[aj false,.sv ax,aj false,.sv ax]⟩),(3,⟨34,[aj yU,.sv (slc 1 (List.map aY yV))]⟩),(2,⟨34,[aj yS,.sv (slc 1 (List.map aY yT))]⟩)] []) (λh=>?_) (λJ2 h=>?_);refine aW<|mv Y<|mv Y<|bE h λOM MR h=>?_;cases Rs;obtain rfl:=O (F MR);exact ww<|ww<|pF Y<|dn<|⟨false,h,wR []⟩;refine gm Y<|lE (V MR) λkU rA MR=>S0 _ Y Y (xy (p:=Rr) (q:=1) rA) ?_;obtain rfl:=O MR;exact pT Y<|dn<|⟨kU,h,wR []⟩
 try dsimp only
 refine aV.n ?_;refine bB h (λj7=>AS.cu 46 [(2,.ptr 2 0),(3,.ptr 3 0),(4,.ptr 4 0)] [(4,⟨36,[aj false,.sv ax,aj false,.sv ax]⟩),(3,⟨34,[aj j7.1,.sv (slc 1 (List.map aY j7.2))]⟩),(2,⟨34,[aj yS,.sv (slc 1 (List.map aY yT))]⟩)] []) (λh=>?_) (λj7 h=>?_);cases J2;exact fs<|⟨(yU,yV),(F h),wR []⟩;exact cT<|aW<|bI (cs:=[_,_]) (cs':=[az false,ax]) (.nil) ⟨au,aB,aq⟩<|so Y Y Y<|dn<|⟨(false,[]),(V h),wR []⟩;obtain⟨FE,FF⟩:=j7
 try dsimp only
 refine aV.n<|sr<|ld Y Y (.k2 Y Y)<|ld Y Y (.k2 Y Y)<|bI (cs:=[_,_,_,_]) (cs':=[az yS,slc 1 (List.map aY yT),az FE,slc 1 (List.map aY FF)]) (.agg Y (.agg Y (.nil))) ⟨au,au,au,au,aq⟩<|so Y Y Y<|dn<|bf ?_;obtain rfl:=O h;exact RZ (.agg Y Y (.k4 Y Y Y Y) Y (.nil))
theorem fM{x0:Qr}{r:Int×Int×Bool}(h:dG x0=some r):Pure ah 65 [.agg (eQ x0)] (.z9 [ay r.1,ay r.2.1,az r.2.2]):=by
 obtain⟨⟨bu,bt⟩,⟨bH,bT⟩⟩:=x0;refine aZ Tryz.func65 Y (af Y) (λdy M vs hvs=>?_);unfold dG at h;refine sr<|bx Y<|ag Y<|ag Y<|ag Y<|dn<|sr<|fa Y Y<|ld Y Y (.k2 Y Y) ?_;obtain⟨⟨Cb,Ih⟩,gD,h⟩:=bS h;refine cl (fj gD) ⟨Y,aq⟩<|mv Y<|ex Y Y<|ex Y Y<|ag Y<|ag Y<|dn<|sr<|fa Y Y<|ld Y Y (.k2 Y Y) ?_;obtain⟨⟨AA,UC⟩,iW,h⟩:=bS h;refine cl (fj iW) ⟨Y,aq⟩<|mv Y<|ex Y Y<|ex Y Y<|ag Y<|ag Y<|dn<|qq<|qq ?_;refine bB h (λYW=>AS.cu 53 [(2,ai Cb),(3,ai AA),(40,aj YW)] [] []) (λh=>?_) (λFG h=>?_);refine aW<|mv Y<|lE h λja oR h=>nt Y _ oR<|mv Y<|bE h λJ5 za h=>?_;cases ja;refine gm Y<|lE (F za) λiI pM za=>TY Y _ pM ?_;obtain rfl:=O za;refine pF Y<|mv Y<|bE h λYX Cc h=>?_;cases iI;refine gm Y<|lE (F Cc) λgy m9 Cc=>RT.leq (.some Y Y) _ Y Y T m9 ?_;obtain rfl:=O Cc;refine pF Y<|mv Y<|bE h λYY zb h=>?_;cases gy;refine gm Y<|lE (F zb) λpA xS zb=>RT.geq (.some Y Y) _ Y Y T xS ?_;obtain rfl:=O zb;refine pF Y<|mv Y<|bE h λYZ ze h=>?_;cases pA;refine gm Y<|lE (F ze) λvG BY ze=>RT.leq (.some Y Y) _ Y Y T BY ?_;obtain rfl:=O ze;refine pF Y<|mv Y<|bE h λY0 zf h=>?_;cases vG;refine gm Y<|lE (F zf) λpL DG zf=>RT.geq (.some Y Y) _ Y Y T DG ?_;obtain rfl:=O zf;exact pF Y<|dn<|⟨pL,h,wR []⟩;obtain rfl:=O (V zf)
 exact ww<|ww<|pT Y<|dn<|⟨true,h,wR []⟩;obtain rfl:=O (V ze);refine ww<|ww<|pT Y<|mv Y<|bE h λY1 Rx h=>?_;obtain rfl:=O (V Rx);exact ww<|ww<|pT Y<|dn<|⟨true,h,wR []⟩;obtain rfl:=O (V zb);refine ww<|ww<|pT Y<|mv Y<|bE h λY2 Y3 h=>?_;obtain rfl:=O (V Y3);refine ww<|ww<|pT Y<|mv Y<|bE h λY4 DV h=>?_;obtain rfl:=O (V DV);exact ww<|ww<|pT Y<|dn<|⟨true,h,wR []⟩;obtain rfl:=O (V Cc);refine ww<|ww<|pT Y<|mv Y<|bE h λY5 Ij h=>?_;obtain rfl:=O (V Ij);refine ww<|ww<|pT Y<|mv Y<|bE h λY6 DW h=>?_;obtain rfl:=O (V DW);refine ww<|ww<|pT Y<|mv Y<|bE h λY7 tH h=>?_;obtain rfl:=O (V tH);exact ww<|ww<|pT Y<|dn<|⟨true,h,wR []⟩;obtain rfl:=O (V za);refine ww<|ww<|pT Y<|mv Y<|bE h λY8 tJ h=>?_;obtain rfl:=O (V tJ);refine ww<|ww<|pT Y<|mv Y<|bE h λY9 xA h=>?_;obtain rfl:=O (V xA);refine ww<|ww<|pT Y<|mv Y<|bE h λZa Ik h=>?_;obtain rfl:=O (V Ik);refine ww<|ww<|pT Y<|mv Y<|bE h λZb Il h=>?_;obtain rfl:=O (V Il);exact ww<|ww<|pT Y<|dn<|⟨true,h,wR []⟩
 try dsimp only
 refine aV.n ?_;cases FG;refine fs<|qq<|bj<|sr<|mv Y<|lE (F h) λBQ IP h=>eq _ Y Y (xy (p:=AA) (q:=0) IP)<|ag Y<|dn ?_;refine bB h (λON=>AS.cu 53 [(2,ai ON.1),(3,ai ON.2)] [] []) (λh=>?_) (λON h=>?_);cases BQ;refine cF<|sr<|mv Y<|lE (F h) λqc h46 h=>ls _ Y Y h46<|ag Y<|dn ?_;refine bB h (λOQ=>AS.cu 53 [(2,ai OQ.1),(3,ai OQ.2)] [] []) (λh=>?_) (λOQ h=>?_);cases qc;exact fs<|⟨(Cb,AA),(F h),wR []⟩;exact cT<|aW<|mv Y<|lE (V h) λxQ h48 h=>RT.neg .none _ Y T h48<|mv Y<|lE h λAa JW h=>RT.neg .none _ Y T JW<|ag Y<|ag Y<|dn<|⟨(xQ,Aa),h,wR []⟩;obtain⟨J3,J4⟩:=OQ
 try dsimp only
 exact aV.n<|⟨(J3,J4),h,wR []⟩;exact cT<|aW<|ag Y<|dn<|⟨(Cb,1),(V h),wR []⟩;obtain⟨OO,OP⟩:=ON
 try dsimp only
 refine bw.n<|aV.n<|sr<|mv Y<|mv Y<|ag Y<|ag Y<|ag Y<|dn<|bf ?_;obtain rfl:=O h;exact RZ (.tmp Y (.tmp Y (.tmp Y (.nil))));refine cT<|sr<|ag Y<|ag Y<|ag Y<|dn<|bf<|aV.r ?_;obtain rfl:=O (V h);exact RZ (.tmp Y (.tmp Y (.tmp Y (.nil))))
theorem kL{x0:Int}{x1:Int}{r:Qr}(h:fI x0 x1=some r):Pure ah 66 [ay x0,ay x1] (.agg (eQ r)):=by
 refine aZ Tryz.func66 Y (af Y) (λdy M vs hvs=>?_);unfold fI at h;refine sr<|al (cs:=[az false,ax,az false,ax]) (by exact⟨au,aB,au,aB,aq⟩) Y<|dn<|sr<|mv Y<|mv Y<|ag Y<|ag Y<|dn<|qq<|bE h λe6 Au jt=>?_;refine bJ (λ(rW:Int)=>AS.cu 36 [(0,ai x0),(1,ai x1),(4,.ptr 4 0),(5,ai rW)] [(4,⟨36,[aj false,.sv ax,aj false,.sv ax]⟩)] []) (λrW=>rW=e6) ?_ (λrW Av=>?_);refine bj ?_;refine bK Au (λs6=>AS.cu 36 [(0,ai x0),(1,ai x1),(4,.ptr 4 0),(5,ai s6.1),(6,ai s6.2)] [(4,⟨36,[aj false,.sv ax,aj false,.sv ax]⟩)] []) (wR []) (λs6 y6 G6 h Aw v8=>?_);obtain⟨lO,pN⟩:=s6
 try dsimp only
 refine qq<|sr<|mv Y<|lE h λec gD h=>ne _ Y Y (HU (p:=pN) (q:=0) gD)<|dn ?_;cases ec;refine cF<|bP<|aV.x<|aV.x<|bw.x<|aV.n ?_;obtain rfl:=O (F h);exact⟨lO,v8 _ Y,wR []⟩;refine cT<|bp<|aV.n<|bj<|bh mixed<|mv Y<|mv Y<|mv Y<|bE (V h) λeK jC h=>RT.rem .none _ Y Y T (QE jC) (QF jC)<|ag Y<|ag Y ?_;refine RT.done ⟨by kernel_rfl,?_⟩;refine bw.n ?_;obtain rfl:=O h;exact aV.n ⟨(pN,eK),Aw _ Y,wR []⟩;subst Av
 try dsimp only
 refine aV.n<|qq<|sr<|mv Y<|lE jt λfo iW jt=>ls _ Y Y iW<|dn ?_;refine bB jt (λj8=>AS.cu 36 [(0,ai x0),(1,ai x1),(4,.ptr 4 0),(5,ai j8)] [(4,⟨36,[aj false,.sv ax,aj false,.sv ax]⟩)] []) (λjt=>?_) (λIi jt=>?_);cases fo;exact fs<|⟨rW,(F jt),wR []⟩;exact cT<|aW<|mv Y<|lE (V jt) λfg j0 jt=>RT.neg .none _ Y T j0<|ag Y<|dn<|⟨fg,jt,wR []⟩
 try dsimp only
 refine aV.n<|qq<|sr<|mv Y<|mv Y<|lE jt λgG nf jt=>eq _ Y Y (xy (p:=Ii) (q:=x1) nf)<|dn ?_;cases gG;refine fs<|qq<|bh mixed<|mv Y<|mv Y<|bE (F jt) λij m8 jt=>RT.quo .none _ Y Y T (TK m8) (Jr m8) ?_;obtain⟨⟨uJ,uK⟩,Ax,jt⟩:=bS jt;refine cl (dh Ax) ⟨Y,aq⟩<|mv Y<|mv Y<|bE jt λmu vI jt=>RT.quo .none _ Y Y T (TK vI) (Jr vI) ?_;obtain⟨⟨J6,J7⟩,rS,jt⟩:=bS jt;refine cl (dh rS) ⟨Y,aq⟩<|bI (cs:=[_,_,_,_]) (cs':=[az uJ,slc 1 (List.map aY uK),az J6,slc 1 (List.map aY J7)]) (.agg Y (.agg Y (.nil))) ⟨au,au,au,au,aq⟩<|so Y Y Y ?_;refine RT.done ⟨by kernel_rfl,?_⟩;refine aV.n<|bf ?_;obtain rfl:=O jt;exact RZ (.agg Y Y (.k4 Y Y Y Y) Y (.nil));refine cT<|sr<|mv Y<|mv Y<|bE (V jt) λic oD jt=>RT.quo .none _ Y Y T (TK oD) (Jr oD) ?_;obtain⟨⟨pB,n6⟩,oS,jt⟩:=bS jt;refine cl (dh oS) ⟨Y,aq⟩<|bI (cs:=[_,_,_,_]) (cs':=[az pB,slc 1 (List.map aY n6),az false,ax]) (.agg Y (.nil)) ⟨au,au,au,aB,aq⟩<|so Y Y Y<|dn<|bf<|aV.r ?_;obtain rfl:=O jt;exact RZ (.agg Y Y (.k4 Y Y Y Y) Y (.nil))
theorem Cd{x0:Int}{r:Int}(h:nD x0=some r):Pure ah 82 [ay x0] (ay r):=by
 refine aZ Tryz.func82 Y (af Y) (λdy M vs hvs=>?_);unfold nD at h;refine sr<|ag Y<|dn<|qq<|bj<|sr<|mv Y<|lE h λx5 h5 h=>ls _ Y Y h5<|ag Y<|dn ?_;cases x5;refine cF<|sr<|mv Y<|lE (F h) λx8 h8 h=>gt _ Y Y h8<|ag Y<|dn ?_;cases x8;refine cF<|bp<|bw.n<|aV.n<|sr<|ag Y<|dn<|bf ?_;obtain rfl:=O (F h);exact R1 Y;refine cT<|sr<|ag Y<|dn<|bf<|bw.r<|aV.r ?_;obtain rfl:=O (V h);exact R1 Y;refine cT<|sr<|ag Y<|dn<|bf<|bw.r<|aV.r ?_;obtain rfl:=O (V h);exact R1 Y
theorem xB{x1:Qr}{x2:Qr}{r:Qr}(h:iv x1 x2=some r):Pure ah 67 [.v (.int .u8 ((43:Nat):Int)),.agg (eQ x1),.agg (eQ x2)] (.agg (eQ r)):=by
 obtain⟨⟨cc,bX⟩,⟨gJ,gK⟩⟩:=x1;obtain⟨⟨qo,qp⟩,⟨DH,DI⟩⟩:=x2;refine aZ Tryz.func67 Y (af Y) (λdy M vs hvs=>?_);unfold iv at h;refine sr<|bx Y<|bx Y<|al (cs:=[az false,ax,az false,ax]) (by exact⟨au,aB,au,aB,aq⟩) Y<|dn<|sr<|ld Y Y (.k4 Y Y Y Y) ?_;obtain⟨⟨⟨kC,kD⟩,⟨lP,lQ⟩⟩,mG,h⟩:=bS h;refine cl (dX mG) ⟨Y,aq⟩<|mv Y<|ex Y Y<|ex Y Y<|al (cs:=[az false,ax]) (by exact⟨au,aB,aq⟩) Y<|al (cs:=[az false,ax]) (by exact⟨au,aB,aq⟩) Y<|so Y Y Y<|so Y Y Y<|dn<|sr<|ld Y Y (.k4 Y Y Y Y) ?_;obtain⟨⟨⟨gL,gM⟩,⟨jI,jJ⟩⟩,j0,h⟩:=bS h;refine cl (dX j0) ⟨Y,aq⟩<|mv Y<|ex Y Y<|ex Y Y<|al (cs:=[az false,ax]) (by exact⟨au,aB,aq⟩) Y<|al (cs:=[az false,ax]) (by exact⟨au,aB,aq⟩) Y<|so Y Y Y<|so Y Y Y<|dn<|qq<|bh mixed<|cl jk trivial<|mv Y ?_;refine RT.look .none [.func (.func 126) #[] #[]] Y Y Y T<|fl Y Y<|ld Y Y (.k2 Y Y)<|ld Y Y (.k2 Y Y)<|ld Y Y (.k2 Y Y)<|ld Y Y (.k2 Y Y) ?_;obtain⟨⟨⟨qw,qx⟩,⟨qy,qA⟩⟩,m8,h⟩:=bS h;refine cl (qE m8) ⟨Y,Y,Y,Y,aq⟩<|ex Y Y<|ex Y Y ?_;obtain⟨⟨⟨sq,qf⟩,⟨wZ,w5⟩⟩,nP,h⟩:=bS h;refine cl (jK nP) ⟨Y,Y,aq⟩<|so Y Y Y ?_;refine RT.done ⟨by kernel_rfl,?_⟩;refine aV.n<|bf ?_;obtain rfl:=O h;exact RZ (.agg Y Y (.k4 Y Y Y Y) Y (.nil))
theorem xC{x1:Qr}{x2:Qr}{r:Qr}(h:iw x1 x2=some r):Pure ah 67 [.v (.int .u8 ((45:Nat):Int)),.agg (eQ x1),.agg (eQ x2)] (.agg (eQ r)):=by
 obtain⟨⟨cc,bX⟩,⟨gJ,gK⟩⟩:=x1;obtain⟨⟨qo,qp⟩,⟨DH,DI⟩⟩:=x2;refine aZ Tryz.func67 Y (af Y) (λdy M vs hvs=>?_);unfold iw at h;refine sr<|bx Y<|bx Y<|al (cs:=[az false,ax,az false,ax]) (by exact⟨au,aB,au,aB,aq⟩) Y<|dn<|sr<|ld Y Y (.k4 Y Y Y Y) ?_;obtain⟨⟨⟨kC,kD⟩,⟨lP,lQ⟩⟩,mG,h⟩:=bS h;refine cl (dX mG) ⟨Y,aq⟩<|mv Y<|ex Y Y<|ex Y Y<|al (cs:=[az false,ax]) (by exact⟨au,aB,aq⟩) Y<|al (cs:=[az false,ax]) (by exact⟨au,aB,aq⟩) Y<|so Y Y Y<|so Y Y Y<|dn<|sr<|ld Y Y (.k4 Y Y Y Y) ?_;obtain⟨⟨⟨gL,gM⟩,⟨jI,jJ⟩⟩,j0,h⟩:=bS h;refine cl (dX j0) ⟨Y,aq⟩<|mv Y<|ex Y Y<|ex Y Y<|al (cs:=[az false,ax]) (by exact⟨au,aB,aq⟩) Y<|al (cs:=[az false,ax]) (by exact⟨au,aB,aq⟩) Y<|so Y Y Y<|so Y Y Y<|dn<|qq<|bh mixed<|cl jk trivial<|mv Y ?_;refine RT.look .none [.func (.func 128) #[] #[]] Y Y Y T<|fl Y Y<|ld Y Y (.k2 Y Y)<|ld Y Y (.k2 Y Y)<|ld Y Y (.k2 Y Y)<|ld Y Y (.k2 Y Y) ?_;obtain⟨⟨⟨qw,qx⟩,⟨qy,qA⟩⟩,m8,h⟩:=bS h;refine cl (qF m8) ⟨Y,Y,Y,Y,aq⟩<|ex Y Y<|ex Y Y ?_;obtain⟨⟨⟨sq,qf⟩,⟨wZ,w5⟩⟩,nP,h⟩:=bS h;refine cl (jK nP) ⟨Y,Y,aq⟩<|so Y Y Y ?_;refine RT.done ⟨by kernel_rfl,?_⟩;refine aV.n<|bf ?_;obtain rfl:=O h;exact RZ (.agg Y Y (.k4 Y Y Y Y) Y (.nil))
theorem xD{x1:Qr}{x2:Qr}{r:Qr}(h:iy x1 x2=some r):Pure ah 67 [.v (.int .u8 ((42:Nat):Int)),.agg (eQ x1),.agg (eQ x2)] (.agg (eQ r)):=by
 obtain⟨⟨cc,bX⟩,⟨gJ,gK⟩⟩:=x1;obtain⟨⟨qo,qp⟩,⟨DH,DI⟩⟩:=x2;refine aZ Tryz.func67 Y (af Y) (λdy M vs hvs=>?_);unfold iy at h;refine sr<|bx Y<|bx Y<|al (cs:=[az false,ax,az false,ax]) (by exact⟨au,aB,au,aB,aq⟩) Y<|dn<|sr<|ld Y Y (.k4 Y Y Y Y) ?_;obtain⟨⟨⟨kC,kD⟩,⟨lP,lQ⟩⟩,mG,h⟩:=bS h;refine cl (dX mG) ⟨Y,aq⟩<|mv Y<|ex Y Y<|ex Y Y<|al (cs:=[az false,ax]) (by exact⟨au,aB,aq⟩) Y<|al (cs:=[az false,ax]) (by exact⟨au,aB,aq⟩) Y<|so Y Y Y<|so Y Y Y<|dn<|sr<|ld Y Y (.k4 Y Y Y Y) ?_;obtain⟨⟨⟨gL,gM⟩,⟨jI,jJ⟩⟩,j0,h⟩:=bS h;refine cl (dX j0) ⟨Y,aq⟩<|mv Y<|ex Y Y<|ex Y Y<|al (cs:=[az false,ax]) (by exact⟨au,aB,aq⟩) Y<|al (cs:=[az false,ax]) (by exact⟨au,aB,aq⟩) Y<|so Y Y Y<|so Y Y Y<|dn<|qq<|bh mixed<|cl jk trivial<|mv Y ?_;refine RT.look .none [.func (.func 130) #[] #[]] Y Y Y T<|fl Y Y<|ld Y Y (.k2 Y Y)<|ld Y Y (.k2 Y Y)<|ld Y Y (.k2 Y Y)<|ld Y Y (.k2 Y Y) ?_;obtain⟨⟨⟨qw,qx⟩,⟨qy,qA⟩⟩,m8,h⟩:=bS h;refine cl (qG m8) ⟨Y,Y,Y,Y,aq⟩<|ex Y Y<|ex Y Y ?_;obtain⟨⟨⟨sq,qf⟩,⟨wZ,w5⟩⟩,nP,h⟩:=bS h;refine cl (jK nP) ⟨Y,Y,aq⟩<|so Y Y Y ?_;refine RT.done ⟨by kernel_rfl,?_⟩;refine aV.n<|bf ?_;obtain rfl:=O h;exact RZ (.agg Y Y (.k4 Y Y Y Y) Y (.nil))
end
section
open Go.Fw Go.Fw.Z Go.RowKit
theorem nE{x0:Int}{r:Qr}(h:dQ x0=some r):Pure ah 54 [ay x0] (.agg (eQ r)):=by
 refine aZ Tryz.func54 Y (af Y) (λdy M vs hvs=>?_);unfold dQ at h;refine sr<|al (cs:=[az false,ax,az false,ax]) (by exact⟨au,aB,au,aB,aq⟩) Y<|dn<|sr<|mv Y ?_;obtain⟨⟨AB,AD⟩,h4,h⟩:=bS h;refine cl (dh h4) ⟨Y,aq⟩<|bI (cs:=[_,_,_,_]) (cs':=[az AB,slc 1 (List.map aY AD),az false,ax]) (.agg Y (.nil)) ⟨au,au,au,aB,aq⟩<|so Y Y Y<|dn<|bf ?_;obtain rfl:=O h;exact RZ (.agg Y Y (.k4 Y Y Y Y) Y (.nil))
theorem eC{x0:Qr}{r:Qr}(h:cn x0=some r):Pure ah 94 [.agg (eQ x0)] (.agg (eQ r)):=by
 obtain⟨⟨bu,bt⟩,⟨bH,bT⟩⟩:=x0;refine aZ Tryz.func94 Y (af Y) (λdy M vs hvs=>?_);unfold cn at h;refine sr<|bx Y<|al (cs:=[az false,ax,az false,ax]) (by exact⟨au,aB,au,aB,aq⟩) Y<|dn<|qq<|sr<|ld Y Y (.k4 Y Y Y Y) ?_;obtain⟨⟨x8a,x8b,YV⟩,h8,h⟩:=bS h;refine cl (fM h8) ⟨Y,aq⟩<|mv Y<|ex Y Y<|ex Y Y<|ex Y Y<|ag Y<|ag Y<|ag Y<|dn<|sr<|mv Y<|dn ?_;cases YV;refine fs<|sr<|ld Y Y (.k4 Y Y Y Y) ?_;obtain⟨⟨⟨J8,J9⟩,⟨Ka,Kb⟩⟩,k8,h⟩:=bS (F h);refine cl (dX k8) ⟨Y,aq⟩<|ex Y Y<|ex Y Y ?_;obtain⟨⟨⟨DJ,DK⟩,⟨OT,OU⟩⟩,oR,h⟩:=bS h;refine cl (jK oR) ⟨Y,Y,aq⟩<|so Y Y Y<|dn<|bf ?_;obtain rfl:=O h;exact RZ (.agg Y Y (.k4 Y Y Y Y) Y (.nil));refine cT<|sr<|mv Y<|mv Y ?_;obtain⟨⟨⟨qt,qu⟩,⟨OR,OS⟩⟩,iV,h⟩:=bS (V h);refine cl (kL iV) ⟨Y,Y,aq⟩<|so Y Y Y<|dn<|bf<|aV.r ?_;obtain rfl:=O h;exact RZ (.agg Y Y (.k4 Y Y Y Y) Y (.nil))
theorem l9{x0:Qr}{r:Int}(h:gz x0=some r):Pure ah 22 [.agg (eQ x0)] (ay r):=by
 obtain⟨⟨bu,bt⟩,⟨bH,bT⟩⟩:=x0;refine aZ Tryz.func22 Y (af Y) (λdy M vs hvs=>?_);unfold gz at h;refine sr<|bx Y<|ag Y<|dn<|qq<|sr<|fa Y Y<|ld Y Y (.k2 Y Y)<|bE h λx5 h5 h=>cl (dW h5) ⟨Y,aq⟩<|lE h λx6 h6 h=>ls _ Y Y h6<|dn ?_;cases x6;refine fs<|sr<|fa Y Y<|ld Y Y (.k2 Y Y)<|bE (F h) λjB mG h=>cl (dW mG) ⟨Y,aq⟩<|ag Y<|dn<|bf ?_;obtain rfl:=O h;exact R1 Y;refine cT<|sr<|fa Y Y<|ld Y Y (.k2 Y Y)<|bE (V h) λx9 h9 h=>cl (dW h9) ⟨Y,aq⟩<|lE h λec gD h=>RT.neg .none _ Y T gD<|ag Y<|dn<|bf<|aV.r ?_;obtain rfl:=O h;exact R1 Y
theorem w7{x0:Qr}{x1:Qr}{r:Qr}(h:jh x0 x1=some r):Pure ah 23 [.agg (eQ x0),.agg (eQ x1)] (.agg (eQ r)):=by
 obtain⟨⟨bu,bt⟩,⟨bH,bT⟩⟩:=x0;obtain⟨⟨cc,bX⟩,⟨gJ,gK⟩⟩:=x1;refine aZ Tryz.func23 Y (af Y) (λdy M vs hvs=>?_);unfold jh at h;refine sr<|bx Y<|bx Y<|al (cs:=[az false,ax,az false,ax]) (by exact⟨au,aB,au,aB,aq⟩) Y<|dn<|sr<|ld Y Y (.k4 Y Y Y Y) ?_;obtain⟨⟨yY,wm,yZ⟩,mG,h⟩:=bS h;refine cl (fM mG) ⟨Y,aq⟩<|mv Y<|ex Y Y<|ex Y Y<|ex Y Y<|ag Y<|ag Y<|ag Y<|dn<|sr<|ld Y Y (.k4 Y Y Y Y) ?_;obtain⟨⟨y4,wv,y5⟩,nc,h⟩:=bS h;refine cl (fM nc) ⟨Y,aq⟩<|mv Y<|ex Y Y<|ex Y Y<|ex Y Y<|ag Y<|ag Y<|ag Y<|dn<|qq<|qq ?_;refine bB h (λj3=>AS.cu 41 [(2,.ptr 2 0),(3,.ptr 3 0),(4,.ptr 4 0),(5,ai yY),(6,ai wm),(8,ai y4),(9,ai wv),(26,aj j3)] [(4,⟨36,[aj false,.sv ax,aj false,.sv ax]⟩),(3,⟨36,[aj cc,.sv (slc 1 (List.map aY bX)),aj gJ,.sv (slc 1 (List.map aY gK))]⟩),(2,⟨36,[aj bu,.sv (slc 1 (List.map aY bt)),aj bH,.sv (slc 1 (List.map aY bT))]⟩)] []) (λh=>?_) (λqB h=>?_);refine aW<|mv Y<|mv Y<|bE h λw6 rB h=>?_;cases yZ;obtain rfl:=O (F rB);exact ww<|pF Y<|dn<|⟨false,h,wR []⟩;refine gm Y ?_;obtain rfl:=O (V rB);exact pT Y<|dn<|⟨y5,h,wR []⟩
 try dsimp only
 refine aV.n ?_;cases qB;refine fs<|sr<|ld Y Y (.k4 Y Y Y Y)<|ld Y Y (.k4 Y Y Y Y) ?_;obtain⟨⟨⟨wW,wX⟩,⟨DP,DQ⟩⟩,rA,h⟩:=bS (F h);refine cl (xB rA) ⟨Y,Y,Y,aq⟩<|so Y Y Y<|dn<|bf ?_;obtain rfl:=O h;exact RZ (.agg Y Y (.k4 Y Y Y Y) Y (.nil));refine cT<|sr<|mv Y<|mv Y<|lE (V h) λij m8 h=>RT.mul .none _ Y Y T m8<|mv Y<|mv Y<|lE h λiQ nP h=>RT.mul .none _ Y Y T nP<|lE h λmu vI h=>ad _ Y Y vI<|mv Y<|mv Y<|lE h λud wh h=>RT.mul .none _ Y Y T wh ?_;obtain⟨⟨⟨DL,DM⟩,⟨DN,DO⟩⟩,Fz,h⟩:=bS h;refine cl (kL Fz) ⟨Y,Y,aq⟩<|so Y Y Y<|dn<|bf<|aV.r ?_;obtain rfl:=O h;exact RZ (.agg Y Y (.k4 Y Y Y Y) Y (.nil))
theorem DX{x0:Qr}{x1:Qr}{r:Qr}(h:mI x0 x1=some r):Pure ah 85 [.agg (eQ x0),.agg (eQ x1)] (.agg (eQ r)):=by
 obtain⟨⟨bu,bt⟩,⟨bH,bT⟩⟩:=x0;obtain⟨⟨cc,bX⟩,⟨gJ,gK⟩⟩:=x1;refine aZ Tryz.func85 Y (af Y) (λdy M vs hvs=>?_);unfold mI at h;refine sr<|bx Y<|bx Y<|al (cs:=[az false,ax,az false,ax]) (by exact⟨au,aB,au,aB,aq⟩) Y<|dn<|sr<|ld Y Y (.k4 Y Y Y Y) ?_;obtain⟨⟨yY,wm,yZ⟩,mG,h⟩:=bS h;refine cl (fM mG) ⟨Y,aq⟩<|mv Y<|ex Y Y<|ex Y Y<|ex Y Y<|ag Y<|ag Y<|ag Y<|dn<|sr<|ld Y Y (.k4 Y Y Y Y) ?_;obtain⟨⟨y4,wv,y5⟩,nc,h⟩:=bS h;refine cl (fM nc) ⟨Y,aq⟩<|mv Y<|ex Y Y<|ex Y Y<|ex Y Y<|ag Y<|ag Y<|ag Y<|dn<|qq<|qq ?_;refine bB h (λj3=>AS.cu 41 [(2,.ptr 2 0),(3,.ptr 3 0),(4,.ptr 4 0),(5,ai yY),(6,ai wm),(8,ai y4),(9,ai wv),(26,aj j3)] [(4,⟨36,[aj false,.sv ax,aj false,.sv ax]⟩),(3,⟨36,[aj cc,.sv (slc 1 (List.map aY bX)),aj gJ,.sv (slc 1 (List.map aY gK))]⟩),(2,⟨36,[aj bu,.sv (slc 1 (List.map aY bt)),aj bH,.sv (slc 1 (List.map aY bT))]⟩)] []) (λh=>?_) (λqB h=>?_);refine aW<|mv Y<|mv Y<|bE h λw6 rB h=>?_;cases yZ;obtain rfl:=O (F rB);exact ww<|pF Y<|dn<|⟨false,h,wR []⟩;refine gm Y ?_;obtain rfl:=O (V rB);exact pT Y<|dn<|⟨y5,h,wR []⟩
 try dsimp only
 refine aV.n ?_;cases qB;refine fs<|sr<|ld Y Y (.k4 Y Y Y Y)<|ld Y Y (.k4 Y Y Y Y) ?_;obtain⟨⟨⟨wW,wX⟩,⟨DP,DQ⟩⟩,rA,h⟩:=bS (F h);refine cl (xC rA) ⟨Y,Y,Y,aq⟩<|so Y Y Y<|dn<|bf ?_;obtain rfl:=O h;exact RZ (.agg Y Y (.k4 Y Y Y Y) Y (.nil));refine cT<|sr<|mv Y<|mv Y<|lE (V h) λij m8 h=>RT.mul .none _ Y Y T m8<|mv Y<|mv Y<|lE h λiQ nP h=>RT.mul .none _ Y Y T nP<|lE h λmu vI h=>sb _ Y Y vI<|mv Y<|mv Y<|lE h λud wh h=>RT.mul .none _ Y Y T wh ?_;obtain⟨⟨⟨DL,DM⟩,⟨DN,DO⟩⟩,Fz,h⟩:=bS h;refine cl (kL Fz) ⟨Y,Y,aq⟩<|so Y Y Y<|dn<|bf<|aV.r ?_;obtain rfl:=O h;exact RZ (.agg Y Y (.k4 Y Y Y Y) Y (.nil))
theorem w8{x0:Qr}{x1:Qr}{r:Qr}(h:kE x0 x1=some r):Pure ah 79 [.agg (eQ x0),.agg (eQ x1)] (.agg (eQ r)):=by
 obtain⟨⟨bu,bt⟩,⟨bH,bT⟩⟩:=x0;obtain⟨⟨cc,bX⟩,⟨gJ,gK⟩⟩:=x1;refine aZ Tryz.func79 Y (af Y) (λdy M vs hvs=>?_);unfold kE at h;refine sr<|bx Y<|bx Y<|al (cs:=[az false,ax,az false,ax]) (by exact⟨au,aB,au,aB,aq⟩) Y<|dn<|sr<|ld Y Y (.k4 Y Y Y Y) ?_;obtain⟨⟨yY,wm,yZ⟩,mG,h⟩:=bS h;refine cl (fM mG) ⟨Y,aq⟩<|mv Y<|ex Y Y<|ex Y Y<|ex Y Y<|ag Y<|ag Y<|ag Y<|dn<|sr<|ld Y Y (.k4 Y Y Y Y) ?_;obtain⟨⟨y4,wv,y5⟩,nc,h⟩:=bS h;refine cl (fM nc) ⟨Y,aq⟩<|mv Y<|ex Y Y<|ex Y Y<|ex Y Y<|ag Y<|ag Y<|ag Y<|dn<|qq<|qq ?_;refine bB h (λj3=>AS.cu 37 [(2,.ptr 2 0),(3,.ptr 3 0),(4,.ptr 4 0),(5,ai yY),(6,ai wm),(8,ai y4),(9,ai wv),(26,aj j3)] [(4,⟨36,[aj false,.sv ax,aj false,.sv ax]⟩),(3,⟨36,[aj cc,.sv (slc 1 (List.map aY bX)),aj gJ,.sv (slc 1 (List.map aY gK))]⟩),(2,⟨36,[aj bu,.sv (slc 1 (List.map aY bt)),aj bH,.sv (slc 1 (List.map aY bT))]⟩)] []) (λh=>?_) (λqB h=>?_);refine aW<|mv Y<|mv Y<|bE h λw6 rB h=>?_;cases yZ;obtain rfl:=O (F rB);exact ww<|pF Y<|dn<|⟨false,h,wR []⟩;refine gm Y ?_;obtain rfl:=O (V rB);exact pT Y<|dn<|⟨y5,h,wR []⟩
 try dsimp only
 refine aV.n ?_;cases qB;refine fs<|sr<|ld Y Y (.k4 Y Y Y Y)<|ld Y Y (.k4 Y Y Y Y) ?_;obtain⟨⟨⟨qg,qh⟩,⟨DR,DS⟩⟩,wh,h⟩:=bS (F h);refine cl (xD wh) ⟨Y,Y,Y,aq⟩<|so Y Y Y<|dn<|bf ?_;obtain rfl:=O h;exact RZ (.agg Y Y (.k4 Y Y Y Y) Y (.nil));refine cT<|sr<|mv Y<|mv Y<|lE (V h) λij m8 h=>RT.mul .none _ Y Y T m8<|mv Y<|mv Y<|lE h λiQ nP h=>RT.mul .none _ Y Y T nP ?_;obtain⟨⟨⟨OV,OW⟩,⟨OX,OY⟩⟩,vI,h⟩:=bS h;refine cl (kL vI) ⟨Y,Y,aq⟩<|so Y Y Y<|dn<|bf<|aV.r ?_;obtain rfl:=O h;exact RZ (.agg Y Y (.k4 Y Y Y Y) Y (.nil))
theorem w9{x0:Qr}{r:Qr}(h:ji x0=some r):Pure ah 56 [.agg (eQ x0)] (.agg (eQ r)):=by
 obtain⟨⟨bu,bt⟩,⟨bH,bT⟩⟩:=x0;refine aZ Tryz.func56 Y (af Y) (λdy M vs hvs=>?_);unfold ji at h;refine sr<|bx Y<|al (cs:=[az false,ax,az false,ax]) (by exact⟨au,aB,au,aB,aq⟩) Y<|dn<|sr<|ld Y Y (.k4 Y Y Y Y) ?_;obtain⟨⟨⟨wz,y7⟩,⟨uO,wA⟩⟩,h5,h⟩:=bS h;refine cl (eC h5) ⟨Y,aq⟩<|al (cs:=[az false,ax,az false,ax]) (by exact⟨au,aB,au,aB,aq⟩) Y<|so Y Y Y<|dn<|qq<|bh mixed<|fa Y Y<|ld Y Y (.k2 Y Y) ?_;obtain⟨⟨qC,qD⟩,h8,h⟩:=bS h;refine cl (jH h8) ⟨Y,aq⟩<|fa Y Y<|ld Y Y (.k2 Y Y)<|bI (cs:=[_,_,_,_]) (cs':=[az qC,slc 1 (List.map aY qD),az uO,slc 1 (List.map aY wA)]) (.agg Y (.agg Y (.nil))) ⟨au,au,au,au,aq⟩<|so Y Y Y ?_;refine RT.done ⟨by kernel_rfl,?_⟩;refine aV.n<|bf ?_;obtain rfl:=O h;exact RZ (.agg Y Y (.k4 Y Y Y Y) Y (.nil))
theorem DY{x0:Qr}{r:Qr}(h:mJ x0=some r):Pure ah 60 [.agg (eQ x0)] (.agg (eQ r)):=by
 obtain⟨⟨bu,bt⟩,⟨bH,bT⟩⟩:=x0;refine aZ Tryz.func60 Y (af Y) (λdy M vs hvs=>?_);unfold mJ at h;refine sr<|bx Y<|al (cs:=[az false,ax,az false,ax]) (by exact⟨au,aB,au,aB,aq⟩) Y<|dn<|sr<|ld Y Y (.k4 Y Y Y Y) ?_;obtain⟨⟨⟨wz,y7⟩,⟨uO,wA⟩⟩,h5,h⟩:=bS h;refine cl (eC h5) ⟨Y,aq⟩<|al (cs:=[az false,ax,az false,ax]) (by exact⟨au,aB,au,aB,aq⟩) Y<|so Y Y Y<|dn<|qq<|bh mixed<|fa Y Y<|ld Y Y (.k2 Y Y) ?_;obtain⟨⟨qC,qD⟩,h8,h⟩:=bS h;refine cl (B8 h8) ⟨Y,aq⟩<|fa Y Y<|ld Y Y (.k2 Y Y)<|bI (cs:=[_,_,_,_]) (cs':=[az qC,slc 1 (List.map aY qD),az uO,slc 1 (List.map aY wA)]) (.agg Y (.agg Y (.nil))) ⟨au,au,au,au,aq⟩<|so Y Y Y ?_;refine RT.done ⟨by kernel_rfl,?_⟩;refine aV.n<|bf ?_;obtain rfl:=O h;exact RZ (.agg Y Y (.k4 Y Y Y Y) Y (.nil))
theorem qH{x0:Qr}{x1:Qr}{r:Int}(h:iz x0 x1=some r):Pure ah 33 [.agg (eQ x0),.agg (eQ x1)] (ay r):=by
 obtain⟨⟨bu,bt⟩,⟨bH,bT⟩⟩:=x0;obtain⟨⟨cc,bX⟩,⟨gJ,gK⟩⟩:=x1;refine aZ Tryz.func33 Y (af Y) (λdy M vs hvs=>?_);unfold iz at h;refine sr<|bx Y<|bx Y<|ag Y<|dn<|sr<|ld Y Y (.k4 Y Y Y Y) ?_;obtain⟨⟨⟨kC,kD⟩,⟨lP,lQ⟩⟩,mG,h⟩:=bS h;refine cl (dX mG) ⟨Y,aq⟩<|mv Y<|ex Y Y<|ex Y Y<|al (cs:=[az false,ax]) (by exact⟨au,aB,aq⟩) Y<|al (cs:=[az false,ax]) (by exact⟨au,aB,aq⟩) Y<|so Y Y Y<|so Y Y Y<|dn<|sr<|ld Y Y (.k4 Y Y Y Y) ?_;obtain⟨⟨⟨gL,gM⟩,⟨jI,jJ⟩⟩,j0,h⟩:=bS h;refine cl (dX j0) ⟨Y,aq⟩<|mv Y<|ex Y Y<|ex Y Y<|al (cs:=[az false,ax]) (by exact⟨au,aB,aq⟩) Y<|al (cs:=[az false,ax]) (by exact⟨au,aB,aq⟩) Y<|so Y Y Y<|so Y Y Y<|dn<|qq<|qq<|bh mixed<|ld Y Y (.k2 Y Y)<|bE h λiP n7 h=>?_;refine cl (dW n7) ⟨Y,aq⟩<|ld Y Y (.k2 Y Y)<|bE h λic oD h=>cl (dW oD) ⟨Y,aq⟩<|ag Y<|ag Y ?_;refine RT.done ⟨by kernel_rfl,?_⟩;refine aV.n<|qq ?_;refine bB h (λj3=>AS.cu 43 [(5,.ptr 5 0),(6,.ptr 6 0),(7,.ptr 7 0),(8,.ptr 8 0),(9,ai iP),(10,ai ic),(31,aj j3)] [(8,⟨34,[aj jI,.sv (slc 1 (List.map aY jJ))]⟩),(7,⟨34,[aj gL,.sv (slc 1 (List.map aY gM))]⟩),(6,⟨34,[aj lP,.sv (slc 1 (List.map aY lQ))]⟩),(5,⟨34,[aj kC,.sv (slc 1 (List.map aY kD))]⟩)] []) (λh=>?_) (λKc h=>?_)
 refine aW<|mv Y<|mv Y<|lE h λgy m9 h=>ne _ Y Y (HU (p:=iP) (q:=ic) m9)<|mv Y<|bE h λO3 rB h=>?_;cases gy;refine gm Y<|lE (F rB) λvX Ax rB=>S0 _ Y Y (xy (p:=iP) (q:=0) Ax) ?_;obtain rfl:=O rB;exact pF Y<|dn<|⟨vX,h,wR []⟩;obtain rfl:=O (V rB);exact ww<|ww<|pT Y<|dn<|⟨true,h,wR []⟩
 try dsimp only
 refine aV.n ?_;cases Kc;refine fs<|qq<|bh mixed<|ld Y Y (.k2 Y Y)<|ld Y Y (.k2 Y Y) ?_;obtain⟨⟨OZ,O0⟩,DE,h⟩:=bS (F h);refine cl (dV DE) ⟨Y,Y,aq⟩<|ld Y Y (.k2 Y Y)<|ld Y Y (.k2 Y Y) ?_;obtain⟨⟨O1,O2⟩,Ic,h⟩:=bS h;refine cl (dV Ic) ⟨Y,Y,aq⟩<|bE h λqa BZ h=>cl (B9 BZ) ⟨Y,Y,aq⟩<|ag Y ?_;refine RT.done ⟨by kernel_rfl,?_⟩;refine aV.n<|bf ?_;obtain rfl:=O h;exact R1 Y;refine cT<|sr<|mv Y<|mv Y<|lE (V h) λm7 rS h=>sb _ Y Y rS<|bE h λvG BY h=>cl (Cd BY) ⟨Y,aq⟩<|ag Y<|dn<|bf<|aV.r ?_;obtain rfl:=O h;exact R1 Y
theorem DZ{x0:Qr}{x1:Qr}{r:Qr}(h:kF x0 x1=some r):Pure ah 61 [.agg (eQ x0),.agg (eQ x1)] (.agg (eQ r)):=by
 obtain⟨⟨bu,bt⟩,⟨bH,bT⟩⟩:=x0;obtain⟨⟨cc,bX⟩,⟨gJ,gK⟩⟩:=x1;refine aZ Tryz.func61 Y (af Y) (λdy M vs hvs=>?_);unfold kF at h;refine sr<|bx Y<|bx Y<|al (cs:=[az false,ax,az false,ax]) (by exact⟨au,aB,au,aB,aq⟩) Y<|dn<|qq<|sr<|ld Y Y (.k4 Y Y Y Y)<|ld Y Y (.k4 Y Y Y Y)<|bE h λx7 h7 h=>cl (qH h7) ⟨Y,Y,aq⟩<|lE h λx8 h8 h=>gt _ Y Y h8 ?_;refine dn ?_;cases x8;refine fs<|sr<|ld Y Y (.k4 Y Y Y Y) ?_;obtain⟨⟨⟨ia,gU⟩,⟨GS,GU⟩⟩,fU,h⟩:=bS (F h);refine cl (eC fU) ⟨Y,aq⟩<|so Y Y Y<|dn<|bf ?_;obtain rfl:=O h;exact RZ (.agg Y Y (.k4 Y Y Y Y) Y (.nil));refine cT<|sr<|ld Y Y (.k4 Y Y Y Y) ?_;obtain⟨⟨⟨qi,qj⟩,⟨DT,DU⟩⟩,gD,h⟩:=bS (V h);refine cl (eC gD) ⟨Y,aq⟩<|so Y Y Y<|dn<|bf<|aV.r ?_;obtain rfl:=O h;exact RZ (.agg Y Y (.k4 Y Y Y Y) Y (.nil))
end
end Go.Proofs.YtfoldppidpmchaaGreat
