/- A part of the proof: the framework, the plain functions, the followed functions, the plain laws. -/
import Derived.Test.YtfoldppidpmchaaGreatPSD1
set_option linter.unusedVariables false
set_option linter.unusedSimpArgs false
set_option linter.unusedSectionVars false
namespace Go.Fw
section
open Go.RowKit
def cg{J R:Type}(k:J->Option R)(f:(J->Option R)->Option R):Option R:=f k
theorem bind_some{α β:Type}{x:Option α}{f:α->Option β}{r:β}(h:Option.bind x f=some r):∃a,x=some a/\f a=some r:=by
 cases x with
 |none=>cases h
 |some a=>exact⟨a,Y,h⟩
theorem sk{b w:Bool}(h:(b==w)=false):b≠w:=by cases b<;>cases w<;>simp_all
def c9{α:Type}(l:List α)(i:Int):Option α:=if 0<=i then l[i.toNat]? else none
def uy{α:Type}(l:List α)(i:Int):Option Nat:=if 0<=i/\i<l.length then some i.toNat else none
def sM{α:Type}(l:List α)(lo hi:Int):Option (List α):=if 0<=lo/\lo<=hi/\hi<=l.length then some (cut l lo.toNat hi.toNat)else none
def sN{α:Type}(by_:Nat)(l k:List α):Option (List α):=if(l.length+k.length)*by_<=140737488355328/\l.length+k.length<=140737488355328 then some (l++k)else none
def Ca{α:Type}(by_:Nat)(c:Int)(z:α):Option (List α):=if 0<=c/\by_*c<=281474976710656/\c<=140737488355328 then some (List.replicate c.toNat z)else none
def Lb{α:Type}(by_:Nat)(c:Int):Option (List α):=if 0<=c/\by_*c<=281474976710656/\c<=140737488355328 then some []else none
def stM{α:Type}(l:List α)(n:Nat)(y:α):Option (List α):=if n<l.length then some (l.set n y)else none
def oO(a b:Int):Option Int:=if b=0 then none else some (IntKind.i64.wrap (a.tdiv b))
def yV(a b:Int):Option Int:=if b=0 then none else some (a.tmod b)
def AA(M a b:Nat):Option Nat:=if b=0 then none else some (a/b%M)
def yW(a b:Nat):Option Nat:=if b=0 then none else some (a%b)
def mw(M a b:Nat):Nat:=(((a:Int)-b)%M).toNat
theorem uI{α:Type}{l:List α}{i:Int}{a:α}(h:c9 l i=some a):0<=i/\l[i.toNat]? =some a:=by
 unfold c9 at h;split at h
 ·exact⟨by assumption,h⟩
 cases h
theorem HS{α:Type}{l:List α}{i:Int}{k:Nat}(h:uy l i=some k):0<=i/\i<l.length/\i.toNat=k:=by
 unfold uy at h;split at h
 ·rename_i hh;exact⟨hh.1,hh.2,Option.some.inj h⟩
 cases h
theorem Gj{α:Type}{l l':List α}{a b:Int}(h:sM l a b=some l'):0<=a/\a<=b/\b<=l.length/\cut l a.toNat b.toNat=l':=by
 unfold sM at h;split at h
 ·rename_i hh;exact⟨hh.1,hh.2.1,hh.2.2,Option.some.inj h⟩
 cases h
theorem sO{α:Type}{by_:Nat}{l k l':List α}(h:sN by_ l k=some l'):(l.length+k.length)*by_<=140737488355328/\l.length+k.length<=140737488355328/\l++k=l':=by
 unfold sN at h;split at h
 ·rename_i hh;exact⟨hh.1,hh.2,Option.some.inj h⟩
 cases h
theorem HT{α:Type}{by_:Nat}{c:Int}{z:α}{l':List α}(h:Ca by_ c z=some l'):0<=c/\by_*c<=281474976710656/\c<=140737488355328/\List.replicate c.toNat z=l':=by
 unfold Ca at h;split at h
 ·rename_i hh;exact⟨hh.1,hh.2.1,hh.2.2,Option.some.inj h⟩
 cases h
theorem HU{α:Type}{by_:Nat}{c:Int}{l':List α}(h:Lb by_ c=some l'):0<=c/\by_*c<=281474976710656/\c<=140737488355328/\[]=l':=by
 unfold Lb at h;split at h
 ·rename_i hh;exact⟨hh.1,hh.2.1,hh.2.2,Option.some.inj h⟩
 cases h
theorem Cb{α:Type}{l l':List α}{n:Nat}{y:α}(h:stM l n y=some l'):n<l.length/\l.set n y=l':=by
 unfold stM at h;split at h
 ·rename_i hh;exact⟨hh,Option.some.inj h⟩
 cases h
def lN{S E:Type}(body:S->Option (S⊕E)):Nat->S->Option E
 |0,_=>none
 |n+1,s=>match body s with
  |some (.inl s')=>lN body n s'
  |some (.inr e)=>some e
  |none=>none
theorem rM{S E:Type}{body:S->Option (S⊕E)}:∀{n m:Nat} {s:S} {e:E},n<=m->lN body n s=some e->lN body m s=some e
 |0,_,_,_,_,h=>by cases h
 |n+1,0,_,_,hm,_=>by omega
 |n+1,m+1,s,e,hm,h=>by
  unfold lN at h⊢;cases hb:body s with
  |none=>rw[hb]at h;cases h
  |some y=>
   rw[hb]at h;cases y with
   |inl s'=>exact rM (by omega) h
   |inr e'=>exact h
open Classical in
noncomputable def b9{S E:Type}(body:S->Option (S⊕E))(s:S):Option E:=if h:∃n e,lN body n s=some e then some (Classical.choose (Classical.choose_spec h))else none
theorem rN{S E:Type}{body:S->Option (S⊕E)}{s:S}{e:E}(h:b9 body s=some e):∃n,lN body n s=some e:=by
 unfold b9 at h;split at h
 ·rename_i hh;exact⟨_,by rw[<-Option.some.inj h];exact Classical.choose_spec (Classical.choose_spec hh)⟩
 cases h
theorem xx{S E:Type}{body:S->Option (S⊕E)}{s:S}{e:E}{n:Nat}(h:lN body n s=some e):b9 body s=some e:=by
 have hh:∃n e,lN body n s=some e:=⟨n,e,h⟩;unfold b9;rw[dif_pos hh];have h2:=Classical.choose_spec (Classical.choose_spec hh);have h3:=rM (Nat.le_max_left n (Classical.choose hh)) h;have h4:=rM (Nat.le_max_right n (Classical.choose hh)) h2;rw[h3]at h4;exact h4.symm
theorem rO{S E:Type}{body:S->Option (S⊕E)}{s:S}{e:E}(h:body s=some (.inr e)):b9 body s=some e:=xx (n:=1) (by simp[lN,h])
theorem xy{S E:Type}{body:S->Option (S⊕E)}{s s':S}(h:body s=some (.inl s')):b9 body s=b9 body s':=by
 cases hl:b9 body s' with
 |some e=>obtain⟨n,hn⟩:=rN hl;exact xx (n:=n+1) (by simp[lN,h,hn])
 |none=>
  cases hl2:b9 body s with
  |none=>rfl
  |some e=>
   obtain⟨n,hn⟩:=rN hl2;cases n with
   |zero=>cases hn
   |succ n=>simp only[lN,h]at hn;rw[xx hn]at hl;cases hl
theorem uJ{S E:Type}{body:S->Option (S⊕E)}(I:S->Prop)(Post:E->Prop)(μ:S->Nat)
  (step:∀s,I s->(∃s',body s=some (.inl s')/\I s'/\μ s'<μ s)\/(∃e,body s=some (.inr e)/\Post e)) {s:S} (h:I s):∃e,b9 body s=some e/\Post e:=by
 have key:∀(n:Nat) (s:S),μ s<=n->I s->∃e,b9 body s=some e/\Post e:=by
  intro n
  induction n with
  |zero=>
   intro s hn hs;rcases step s hs with⟨s',_,_,h3⟩|⟨e,h1,h2⟩
   ·omega
   exact⟨e,rO h1,h2⟩
  |succ n ih=>
   intro s hn hs;rcases step s hs with⟨s',h1,h2,h3⟩|⟨e,h1,h2⟩
   ·obtain⟨e,q1,q2⟩:=ih s' (by omega) h2;exact⟨e,by rw[xy h1];exact q1,q2⟩
   exact⟨e,rO h1,h2⟩
 exact key _ s (Nat.le_refl _) h
theorem HV{S E:Type}{body:S->Option (S⊕E)}(st:Nat->S)(n:Nat){e:E}(hs:∀k,k<n->body (st k)=some (.inl (st (k+1))))(he:body (st n)=some (.inr e)):b9 body (st 0)=some e:=by
 have key:∀k,k<=n->b9 body (st (n-k))=some e:=by
  intro k
  induction k with
  |zero=>intro _;exact rO he
  |succ k ih=>
   intro hk;rw[xy (hs (n-(k+1)) (by omega)),show n-(k+1)+1=n-k by omega];exact ih (by omega)
 have:=key n (Nat.le_refl _);rwa[Nat.sub_self]at this
theorem vD{p q:Int}{c:Bool}(h:decide (p=q)=c):(p==q)=c:=by rw[<-h];exact Bool.beq_eq_decide_eq p q
theorem Kx{p q:Int}{c:Bool}(h:decide (p≠q)=c):(p != q)=c:=by rw[<-h,bne,Bool.beq_eq_decide_eq p q];simp
theorem Vn{p q:Nat}{c:Bool}(h:decide (p=q)=c):((p:Int)==(q:Int))=c:=vD (by rw[<-h];simp[Int.natCast_inj])
theorem T8{p q:Nat}{c:Bool}(h:decide (p≠q)=c):((p:Int) != (q:Int))=c:=Kx (by rw[<-h];simp[Int.natCast_inj])
theorem T9{p q:Nat}{c:Bool}(h:decide (p<q)=c):decide ((p:Int)<(q:Int))=c:=by rw[<-h];simp
theorem Vo{p q:Nat}{c:Bool}(h:decide (p<=q)=c):decide ((p:Int)<=(q:Int))=c:=by rw[<-h];simp
theorem Lc{p q c:Int}(h:max p q=c):(if q>p then q else p)=c:=by rw[<-h];split<;>omega
theorem RO{p q c:Int}(h:min p q=c):(if q<p then q else p)=c:=by rw[<-h];split<;>omega
class UK (k:IntKind) (b:outParam Nat) (M:outParam Nat):Prop where
 w:∀x:Int,k.wrap x=x%M
 hb:k.bits=b
 hm:2^b=M
instance:UK .u8 8 256:=⟨λx=>by simp[IntKind.wrap,IntKind.signed,IntKind.bits],rfl,by decide⟩
instance:UK .u32 32 4294967296:=⟨λx=>by simp[IntKind.wrap,IntKind.signed,IntKind.bits],rfl,by decide⟩
instance:UK .u64 64 18446744073709551616:=⟨λx=>by simp[IntKind.wrap,IntKind.signed,IntKind.bits],rfl,by decide⟩
section uk
variable {k:IntKind}{bi M a b c:Nat}[u:UK k bi M]
include u
theorem UK.pos:0<M:=by rw[<-u.hm];exact Nat.two_pow_pos _
theorem UK.nat(h:a%M=c):k.wrap (a:Int)=(c:Int):=by rw[u.w,<-h,Int.natCast_emod]
theorem UK.add(h:(a+b)%M=c):k.wrap ((a:Int)+(b:Int))=(c:Int):=by rw[<-Int.natCast_add];exact UK.nat h
theorem UK.mul(h:(a*b)%M=c):k.wrap ((a:Int)*(b:Int))=(c:Int):=by rw[<-Int.natCast_mul];exact UK.nat h
theorem UK.sub(h:mw M a b=c):k.wrap ((a:Int)-(b:Int))=(c:Int):=by
 rw[u.w,<-h,mw,Int.toNat_of_nonneg];exact Int.emod_nonneg _ (by have:=UK.pos (k:=k) (bi:=bi) (M:=M);omega)
theorem UK.neg(h:mw M 0 a=c):k.wrap (0-(a:Int))=(c:Int):=UK.sub h
theorem UK.conv{p:Int}(h:(p%M).toNat=c):k.wrap p=(c:Int):=by
 rw[u.w,<-h,Int.toNat_of_nonneg];exact Int.emod_nonneg _ (by have:=UK.pos (k:=k) (bi:=bi) (M:=M);omega)
theorem UK.quo(h:AA M a b=some c):k.wrap ((a:Int).tdiv (b:Int))=(c:Int):=by
 unfold AA at h;split at h
 ·cases h
 rw[Int.tdiv_eq_ediv_of_nonneg (by omega),<-Int.natCast_ediv];exact UK.nat (Option.some.inj h)
theorem UK.RQ(h:a/b%M=c):k.wrap ((a:Int).tdiv (b:Int))=(c:Int):=by
 rw[Int.tdiv_eq_ediv_of_nonneg (by omega),<-Int.natCast_ediv];exact UK.nat h
theorem UK.shl{q:Int}{s:Nat}(hs:min q.toNat k.bits=s)(h:a*2^s%M=c):k.wrap ((a:Int)*2^(min q.toNat k.bits))=(c:Int):=by
 rw[hs,show(a:Int)*2^s=((a*2^s:Nat):Int) by rw[Int.natCast_mul,Int.natCast_pow];rfl];exact UK.nat h
theorem UK.ofInt(a:Nat):(BitVec.ofInt k.bits (a:Int)).toNat=a%M:=by
 rw[BitVec.ofInt_natCast,BitVec.toNat_ofNat,u.hb,u.hm]
theorem UK.or(h:(a ||| b)%M=c):k.wrap ((BitVec.ofInt k.bits (a:Int) ||| BitVec.ofInt k.bits (b:Int)).toNat)=(c:Int):=by
 rw[BitVec.toNat_or,UK.ofInt,UK.ofInt,<-u.hm,<-Nat.or_mod_two_pow,u.hm,h,UK.nat (a:=c) (c:=c)];rw[<-h,Nat.mod_mod]
end uk
theorem AB{k:IntKind}{a c s:Nat}{q:Int}(hs:min q.toNat k.bits=s)(h:a/2^s=c):(a:Int).fdiv (2^(min q.toNat k.bits))=(c:Int):=by
 rw[hs,Int.fdiv_eq_ediv_of_nonneg _ (Int.le_of_lt (Int.pow_pos (by decide))),<-h,Int.natCast_ediv,Int.natCast_pow];rfl
theorem Ld{a b c:Nat}(h:yW a b=some c):(a:Int).tmod (b:Int)=(c:Int):=by
 unfold yW at h;split at h
 ·cases h
 rw[Int.tmod_eq_emod_of_nonneg (by omega),<-Option.some.inj h];rfl
theorem MV{a b c:Nat}(h:a%b=c):(a:Int).tmod (b:Int)=(c:Int):=by
 rw[Int.tmod_eq_emod_of_nonneg (by omega),<-h];rfl
theorem Vp{M a b c:Nat}(h:AA M a b=some c):(b:Int)≠0:=by
 unfold AA at h;split at h
 ·cases h
 omega
theorem Ua{a b c:Nat}(h:yW a b=some c):(b:Int)≠0:=by
 unfold yW at h;split at h
 ·cases h
 omega
theorem RR{a b c:Int}(h:oO a b=some c):b≠0:=by unfold oO at h;split at h<;>simp_all
theorem O0{a b c:Int}(h:yV a b=some c):b≠0:=by unfold yV at h;split at h<;>simp_all
theorem HW{a b c:Int}(h:oO a b=some c):IntKind.i64.wrap (a.tdiv b)=c:=by
 unfold oO at h;split at h
 ·cases h
 exact Option.some.inj h
theorem O1{a b c:Int}(h:yV a b=some c):a.tmod b=c:=by
 unfold yV at h;split at h
 ·cases h
 exact Option.some.inj h
abbrev aY(x:Nat):List SV:=[.v (.int .u32 (x:Nat))]
abbrev Vq(x:Int):List SV:=[.v (.int .i16 x)]
abbrev bG(x:Int):List SV:=[.v (.int .i64 x)]
abbrev eB(x:Bool):List SV:=[.v (.bool x)]
abbrev eS{α:Type}(n:Nat)(e:α->List SV)(l:List α):List SV:=[slc n (l.map e)]
structure Zr where
 neg:Bool
 w:List Nat
structure Qr where
 num:Zr
 den:Zr
abbrev eZ(z:Zr):List SV:=[.v (.bool z.neg),slc 1 (z.w.map aY)]
abbrev eQ(q:Qr):List SV:=[.v (.bool q.num.neg),slc 1 (q.num.w.map aY),.v (.bool q.den.neg),slc 1 (q.den.w.map aY)]
class EL {α:Type} (e:α->List SV) (n:outParam Nat):Prop where
 len:∀x,(e x).length=n
 one:∀x,rF (e x)
instance:EL aY 1:=⟨λ_=>rfl,λ_=>inferInstance⟩
instance:EL bG 1:=⟨λ_=>rfl,λ_=>inferInstance⟩
instance{α:Type}{n:Nat}{e:α->List SV}:EL (eS n e) 1:=⟨λ_=>rfl,λ_=>inferInstance⟩
instance:EL eQ 4:=⟨λ_=>rfl,λ_=>inferInstance⟩
structure Lr where
 vars:Int
 sP:List (List Qr)
 rows:List (List Qr)
 bounds:List Qr
abbrev AD(x:Lr):List SV:=[.v (.int .i64 x.vars),slc 1 (x.sP.map (eS 4 eQ)),slc 1 (x.rows.map (eS 4 eQ)),slc 4 (x.bounds.map eQ)]
structure Sz where
 vars:Int
 sP:Int
 rows:Int
 bounds:Int
abbrev eSz(x:Sz):List SV:=[.v (.int .i64 x.vars),.v (.int .i64 x.sP),.v (.int .i64 x.rows),.v (.int .i64 x.bounds)]
abbrev TR(E:TypeId)(sz:Nat){α:Type}(e:α->List SV)(l:List α):Row:=⟨E,sz,l.length,l.flatMap e⟩
theorem aB{α:Type}{n:Nat}{e:α->List SV}:SV.imp (.v (.slice none 0 0)) (slc n (([]:List α).map e)):=λ_ _ h=>.inl ⟨none,h,Y⟩
theorem sQ{α:Type}(e:α->List SV)(l:List α):(l.map e).flatten=l.flatMap e:=by rw[List.flatMap_def]
theorem Cc{α:Type}{e:α->List SV}{n:Nat}[h:EL e n](l:List α):Rows n (l.map e) (l.flatMap e):=⟨sQ e l,λr hr=>by obtain⟨x,_,rfl⟩:=List.mem_map.1 hr;exact h.len x⟩
theorem zM{M:Mem}:∀{l k:List SV} {vs:List Value},SV.eE M (l++k) vs->∃us ws,vs=us++ws/\SV.eE M l us/\SV.eE M k ws
 |[],_,vs,h=>⟨[],vs,Y,aq,h⟩
 |_::_,_,[],h=>h.elim
 |_::l,_,v::vs,h=>by
  obtain⟨us,ws,rfl,h1,h2⟩:=zM (l:=l) h.2;exact⟨v::us,ws,Y,⟨h.1,h1⟩,h2⟩
theorem zN{α:Type}{e:α->List SV}{n:Nat}[h:EL e n](l:List α):∀M vs,SV.eE M (l.flatMap e) vs->∀v∈vs,v.oneCell'=true:=by
 intro M
 induction l with
 |nil=>intro vs hv;cases vs with|nil=>simp|cons _ _=>exact hv.elim
 |cons x l ih=>
  intro vs hv;rw[List.flatMap_cons]at hv;obtain⟨us,ws,rfl,h1,h2⟩:=zM hv;intro v hv;rcases List.mem_append.1 hv with hv|hv
  ·exact(h.one x).h M us h1 v hv
  exact ih ws h2 v hv
theorem Cd{α:Type}{e:α->List SV}{n:Nat}[h:EL e n]:∀{l:List α} {k:Nat} {a:α},l[k]? =some a->((l.flatMap e).drop (k*n)).take n=e a
 |[],_,_,hh=>by simp at hh
 |x::l,0,a,hh=>by
  simp only[List.getElem?_cons_zero,Option.some.injEq]at hh;subst hh;rw[List.flatMap_cons,Nat.zero_mul,List.drop_zero,<-h.len x,List.take_left'];rfl
 |x::l,k+1,a,hh=>by
  rw[List.getElem?_cons_succ]at hh;rw[List.flatMap_cons,show(k+1)*n=(e x).length+k*n by rw[h.len,Nat.add_mul];omega,<-List.drop_drop,List.drop_left']
  ·exact Cd hh
  rfl
theorem Ce{α:Type}{e:α->List SV}{n:Nat}[h:EL e n]{y:α}:∀{l:List α} {k:Nat},k<l.length->jS (l.flatMap e) (k*n) (e y)=(l.set k y).flatMap e:=by
 have Vr:∀(u:List SV) (a b:List SV) (j:Nat),j+u.length<=a.length->jS (a++b) j u=jS a j u++b:=by
  intro u
  induction u with
  |nil=>intro a b j _;rfl
  |cons s u ih=>
   intro a b j hj;simp only[List.length_cons]at hj;simp only[jS];rw[List.set_append_left _ _ (by omega),ih _ _ _ (by rw[List.length_set];omega)]
 have Vs:∀(u:List SV) (a b:List SV) (j:Nat),jS (a++b) (a.length+j) u=a++jS b j u:=by
  intro u
  induction u with
  |nil=>intro a b j;rfl
  |cons s u ih=>
   intro a b j;simp only[jS];rw[List.set_append_right _ _ (by omega),show a.length+j-a.length=j by omega,show a.length+j+1=a.length+(j+1) by omega,ih]
 have Vt:∀(u a:List SV),u.length=a.length->jS a 0 u=u:=by
  have gen:∀(u a p:List SV),u.length=a.length->jS (p++a) p.length u=p++u:=by
   intro u
   induction u with
   |nil=>intro a p ha;have:a=[]:=List.eq_nil_of_length_eq_zero ha.symm;subst this;rfl
   |cons s u ih=>
    intro a p ha;cases a with
    |nil=>cases ha
    |cons t a=>
     simp only[jS];rw[List.set_append_right _ _ (Nat.le_refl _),Nat.sub_self,List.set_cons_zero,show p++s::a=(p++[s])++a by simp,show p.length+1=(p++[s]).length by simp,ih a _ (by simpa using ha)];simp
  intro u a ha;exact gen u a [] ha
 intro l
 induction l with
 |nil=>intro k hk;simp at hk
 |cons x l ih=>
  intro k hk;cases k with
  |zero=>
   rw[List.set_cons_zero,List.flatMap_cons,List.flatMap_cons,Nat.zero_mul,Vr _ _ _ _ (by rw[h.len,h.len];omega),Vt _ _ (by rw[h.len,h.len])]
  |succ k=>
   simp only[List.length_cons]at hk;rw[List.set_cons_succ,List.flatMap_cons,List.flatMap_cons,show(k+1)*n=(e x).length+k*n by rw[h.len,Nat.add_mul];omega,Vs,ih (by omega)]
end
section
open Go.RowKit
section steps
variable {P:Program}{C:Ctx}{ops:Array Oper}{S:AS}{nd:Bool}{K:List Ac->AS->Prop}{rest:List Oper}{acc:List Ac}
variable {gd:Option (Nat×Bool)}{rg:List Nat}{d:Nat}{ty:TypeId}{pos:String}{aft:Array Edge}{x y z:Operand}{T U E0:TypeId}
variable {α:Type}{l l' k:List α}{e:α->List SV}{n by_:Nat}{zv:Value}
theorem RT.Vu(hg:Gd ops S gd rg){s X:SV}(hx:S.ev x=.sv s)(hi:SV.imp s X)(hd:d<S.n)
  (next:RunT P C ops nd K rest (⟨rg++bg x,[],[],⟨some (d,.sv X),[],[]⟩⟩::acc) (S.set d (.sv X))):RunT P C ops nd K (⟨some d,.assign x,ty,pos,aft,gd⟩::rest) acc S:=
 RT.value hg (bg x) [] [] (.sv X) hd (by intro c h;cases h) (λS' ht _ _ E a w h=>by
  have hx':S'.ev x=.sv s:=by rw[bA (λ_ h=>h) ht,hx]
  exact⟨a.eval x,Y,by have:=h.ev x;rw[hx']at this;exact hi _ _ this,fT⟩) next
theorem Gk{E:Env}:∀{l l':List SV} {vs:List Value},ff l l'->SV.eE E.M l vs->dm E (l'.map AV.sv) vs:=λhi h=>dm.vr (hi.holds h)
theorem AE(M:Mem):∀l:List Value,SV.eE M (l.map SV.v) l
 |[]=>trivial
 |_::l=>⟨Y,AE M l⟩
theorem RT.n7(hg:Gd ops S gd rg)[tz:gJ P T zv]{cs:List SV}(hi:ff (zv.cells.toList.map SV.v) cs){av:List AV}(Vv:cs.map AV.sv=av)(hd:d<S.n)(hb:S.b d=none)(hp:C.iH d=none)
  (next:RunT P C ops nd K rest (⟨rg++[],[d],[],⟨some (d,.ptr d 0),[(d,⟨T,av⟩)],[]⟩⟩::acc) ((S.j0 d ⟨T,av⟩).set d (.ptr d 0))):RunT P C ops nd K (⟨some d,.alloc T,ty,pos,aft,gd⟩::rest) acc S:=by
 subst Vv;exact RT.E5 hg (by intro c h;cases h) [] hd hb hp (λS' _ E a w h=>⟨zv.cells.toList,by simp[execOp,Instr.alloc,newVar,newRow,tz.run],Gk hi (AE _ _),λy hy=>by
  obtain⟨s,_,rfl⟩:=List.mem_map.1 hy;exact fT⟩) next
theorem RT.O2(hg:Gd ops S gd rg){pl:List (Nat×Nat)}{zc:List Value}[tP:iK P T pl zc]{parts:Array (Nat×Operand)}{qs:List (Nat×List SV)}(hp:mu S parts.toList qs){cs cs':List SV}(hf:qV (λi=>pl[i]?) (zc.map SV.v) qs=some cs)(hi:ff cs cs')(hd:d<S.n)
  (next:RunT P C ops nd K rest (⟨rg++jY parts.toList,[],[],⟨some (d,.sv (.agg cs')),[],[]⟩⟩::acc) (S.set d (.sv (.agg cs')))):RunT P C ops nd K (⟨some d,.build T parts,ty,pos,aft,gd⟩::rest) acc S:=by
 refine RT.value hg (jY parts.toList) [] [] (.sv (.agg cs')) hd (by intro c h;cases h) (λS' ht _ _ E a w h=>?_) next
 have hu:=tP.h;cases hT:P.underlying T with
 |none=>rw[hT]at hu;cases hu
 |some u=>
  rw[hT]at hu;cases u with
  |struct fs=>
   simp only at hu;have hz:(zeroValue T).run P w=.ok (.agg ⟨zc⟩) w:=gJ.run (t:=⟨tP.hz⟩) w;obtain⟨us,h1,h2,_⟩:=xh h (λi=>pl[i]?) hp ht (cells:=zc.map SV.v) (vs:=zc) (AE _ zc) (List.all_eq_true.1 tP.o) hf;refine⟨.agg ⟨us⟩,?_,⟨us,Y,hi.holds h2⟩,fT⟩;have hm:(fs.mapM (λf=>do pure (f.offset,<-sizeOf f.type):Field->Sem (Nat×Nat))).run P w=.ok pl.toArray w:=by
    have:=oZ (P:=P) (w:=w) hu;rw[<-Array.toArray_toList (xs:=fs),List.mapM_toArray];rw[Sem.run_map,this];rfl
   have h1':Instr.fill (λi=>pl.toArray[i]?) ⟨zc⟩ (parts.toList.map λp=>(p.1,a.eval p.2))=some ⟨us⟩:=by simpa using h1
   simp only[execOp,Instr.build,underlying];simp only[Sem.run_bind,hz,Result.andThen_ok,run_program,hT,Sem.run_pure,Value.cells];have hm':(Array.mapM (λf=>do
     let __do_lift<-sizeOf f.type
     pure (f.offset,__do_lift)) fs:Sem _).run P w=.ok pl.toArray w:=hm
   simp only[hm',Result.andThen_ok];have e4:(Array.map (λx=>match x with|(i,x)=>(i,a.eval x)) parts).toList=parts.toList.map λp=>(p.1,a.eval p.2):=by simp
   simp only[e4,h1',Sem.run_pure,Result.andThen_ok]
  |_=>cases hu
theorem RT.RU(hg:Gd ops S gd rg){m:Nat}[tS:eL P T E0 m]{c:Int}(hx:S.ev x=.sv (slc n (l.map e)))(hd:d<S.n)(hc:(l.length:Int)=c)
  (next:RunT P C ops nd K rest (⟨rg++bg x,[],[],⟨some (d,.sv (.v (.int .i64 c))),[],[]⟩⟩::acc) (S.set d (.sv (.v (.int .i64 c))))):RunT P C ops nd K (⟨some d,.call ⟨.builtin .len,#[x],#[T]⟩,ty,pos,aft,gd⟩::rest) acc S:=
 RT.len hg hx hd (by rw[List.length_map,hc];exact next)
theorem RT.RV(hg:Gd ops S gd rg){m:Nat}[tS:eL P T E0 m]{i:Nat}{E1:TypeId}{c:Int}(hx:S.ev x=.row i)(hR:S.r i=.live (TR E1 n e l))(hd:d<S.n)(hc:(l.length:Int)=c)
  (next:RunT P C ops nd K rest (⟨rg++bg x,[],[i],⟨some (d,.sv (.v (.int .i64 c))),[],[]⟩⟩::acc) (S.set d (.sv (.v (.int .i64 c))))):RunT P C ops nd K (⟨some d,.call ⟨.builtin .len,#[x],#[T]⟩,ty,pos,aft,gd⟩::rest) acc S:=
 RT.US hg hx hR hd (by show RunT _ _ _ _ _ _ (⟨_,_,_,⟨some (d,.sv (.v (.int .i64 (l.length:Int)))),_,_⟩⟩::_) (S.set d (.sv (.v (.int .i64 (l.length:Int)))));rw[hc];exact next)
theorem RT.MW(hg:Gd ops S gd rg)[tS:eL P T E0 n]{kk:IntKind}{i:Int}{a:α}(hx:S.ev x=.sv (slc n (l.map e)))(hy:S.ev y=.sv (.v (.int kk i)))(hd:d<S.n)(ha:c9 l i=some a)
  (next:RunT P C ops nd K rest (⟨rg++(bg x++bg y),[],[],⟨some (d,.sv (ref (e a))),[],[]⟩⟩::acc) (S.set d (.sv (ref (e a))))):RunT P C ops nd K (⟨some d,.indexAddr T x y,ty,pos,aft,gd⟩::rest) acc S:=
 RT.indexAddr hg (e a) hx hy hd (uI ha).1 (by rw[List.getElem?_map,(uI ha).2];rfl) next
theorem RT.rP(hg:Gd ops S gd rg)[tS:eL P T E0 n]{lo hi:Option Operand}(a b:Int)(hx:S.ev x=.sv (slc n (l.map e)))(hlo:At S 0 lo a)(hhi:At S l.length hi b)(hd:d<S.n)(h:sM l a b=some l')
  (next:RunT P C ops nd K rest (⟨rg++(bg x++(m8 lo++m8 hi)),[],[],⟨some (d,.sv (slc n (l'.map e))),[],[]⟩⟩::acc) (S.set d (.sv (slc n (l'.map e))))):RunT P C ops nd K (⟨some d,.slice T x lo hi none,ty,pos,aft,gd⟩::rest) acc S:=by
 obtain⟨h0,h1,h2,h3⟩:=Gj h;exact RT.slice hg hx a b hlo (by rw[List.length_map];exact hhi) hd h0 h1 (by rw[List.length_map];exact h2) _ (by rw[KS,h3]) next
theorem RT.gL(hg:Gd ops S gd rg)[tS:eL P T E0 n][tE:iX P E0 n by_ zv]{len:Nat}{parts:Array (Nat×Operand)}{qs:List (Nat×List SV)}(hp:mu S parts.toList qs)(hd:d<S.n)
  (hc:n5 0 qs=true) (hl:qs.length=len) (hsz:(qs.all λq=>Nat.beq q.2.length n)=true) (hlen:Nat.ble (len*n) 16777216=true) (HE:(zv.cells.toList.all λv=>v.oneCell')=true) (nI:qs.map (·.2)=l.map e)
  (next:RunT P C ops nd K rest (⟨rg++jY parts.toList,[],[],⟨some (d,.sv (slc n (l.map e))),[],[]⟩⟩::acc) (S.set d (.sv (slc n (l.map e))))):RunT P C ops nd K (⟨some d,.buildSlice T len parts,ty,pos,aft,gd⟩::rest) acc S:=
 RT.buildSlice hg hp hd hc hl hsz (af hlen) (List.all_eq_true.1 HE) nI next
theorem RT.AF(hg:Gd ops S gd rg)[tS:eL P T E0 n][tE:iX P E0 n by_ zv]{len:Nat}{parts:Array (Nat×Operand)}{qs:List (Nat×List SV)}(hp:mu S parts.toList qs)(hd:d<S.n)(wc:S.r d=.un)(ux:d<1000)
  (hc:n5 0 qs=true) (hl:qs.length=len) (hsz:(qs.all λq=>Nat.beq q.2.length n)=true) (hlen:Nat.ble (len*n) 16777216=true) (HE:(zv.cells.toList.all λv=>v.oneCell')=true) (nI:qs.map (·.2)=l.map e)
  (next:RunT P C ops nd K rest (⟨rg++jY parts.toList,[],[d],⟨some (d,.row d),[],[(d,.live (TR E0 n e l))]⟩⟩::acc) ((AS.cf [(d,.live (TR E0 n e l))] S).set d (.row d))):RunT P C ops nd K (⟨some d,.buildSlice T len parts,ty,pos,aft,gd⟩::rest) acc S:=by
 refine RT.B6 hg hp hd wc ux hc hl hsz (af hlen) (List.all_eq_true.1 HE) (cells:=l.flatMap e) (by rw[nI,sQ]) ?_;have:len=l.length:=by have h0:=congrArg List.length nI;simpa[hl]using h0
 rw[this];exact next
theorem RT.apR(hg:Gd ops S gd rg)[tS:eL P T E0 n][tE:iX P E0 n by_ zv]{i:Nat}(hx:S.ev x=.row i)(hR:S.r i=.live (TR E0 n e l))(hy:S.ev y=.sv (slc n (k.map e)))(hd:d<S.n)(wc:S.r d=.un)(ux:d<1000)(h:sN by_ l k=some l')
  (next:RunT P C ops nd K rest (⟨rg++(bg x++bg y),[],[i,d],⟨some (d,.row d),[],[(i,.dead),(d,.live (TR E0 n e l'))]⟩⟩::acc) ((AS.cf [(i,.dead),(d,.live (TR E0 n e l'))] S).set d (.row d))):RunT P C ops nd K (⟨some d,.call ⟨.builtin .append,#[x,y],#[T,T]⟩,ty,pos,aft,gd⟩::rest) acc S:=by
 obtain⟨h1,h2,rfl⟩:=sO h;exact RT.KO hg hx hR hy hd wc ux (by simpa using h1) (by simpa using h2) _ (by simp[sQ]) next
theorem RT.Le(hg:Gd ops S gd rg)[tS:eL P T E0 n][tE:iX P E0 n by_ zv][el:EL e n]{i:Nat}(hx:S.ev x=.row i)(hR:S.r i=.live (TR E0 n e l))(hy:S.ev y=.sv (slc n (k.map e)))(hd:d<S.n)(wc:S.r d=.un)(ux:d<1000)(h:sN by_ l k=some l')
  (next:RunT P C ops nd K rest (⟨rg++(bg x++bg y),[],[d,i],⟨some (d,.sv (slc n (l'.map e))),[],[(i,.dead),(d,.dead)]⟩⟩::acc) ((AS.cf [(i,.dead),(d,.dead)] S).set d (.sv (slc n (l'.map e))))):RunT P C ops nd K (⟨some d,.call ⟨.builtin .append,#[x,y],#[T,T]⟩,ty,pos,aft,gd⟩::rest) acc S:=by
 obtain⟨h1,h2,rfl⟩:=sO h;have hf:l.flatMap e++(k.map e).flatten=(l++k).flatMap e:=by simp[sQ]
 exact RT.La hg (.row hx hR) hy hd wc ux (by simpa using h1) (by simpa using h2) _ (rows':=(l++k).map e) (λ_ _ h _=>h) (by rw[hf];exact Cc _) (by simp) (by rw[hf];exact zN _) next
theorem zO(zc:Array Value)(n:Nat)(hz:zc.size=n)(hn:0<n):∀m:Nat,(madeCells zc (m*n)).toList=(List.replicate m zc.toList).flatten
 |0=>by simp[madeCells]
 |m+1=>by
  have ih:=zO zc n hz hn m;rw[List.replicate_succ',List.flatten_append,<-ih];simp only[madeCells,Array.toList_map,Array.toList_range,List.flatten_cons,List.flatten_nil,List.append_nil];rw[show(m+1)*n=m*n+n by rw[Nat.add_mul];omega,List.range_add,List.map_append,List.map_map];congr 1;apply List.ext_getElem?;intro i;rw[List.getElem?_map];rcases Nat.lt_or_ge i n with hi|hi
  ·rw[List.getElem?_range hi];simp only[Option.map_some,Function.comp];rw[hz,Nat.mul_comm m n,Nat.mul_add_mod,Nat.mod_eq_of_lt hi];rw[getElem!_pos zc i (by omega),Array.getElem?_toList,Array.getElem?_eq_getElem (by omega)]
  rw[List.getElem?_eq_none (by simpa using hi),List.getElem?_eq_none (by simp;omega)];rfl
theorem Cf:∀{a b c d:List SV},ff a c->ff b d->ff (a++b) (c++d)
 |[],_,[],_,_,h=>h
 |_::_,_,_::_,_,h,h'=>⟨h.1,Cf h.2 h'⟩
 |[],_,_::_,_,h,_=>h.elim
 |_::_,_,[],_,h,_=>h.elim
theorem Cg{zl:List Value}{zz:α}(hi:ff (zl.map SV.v) (e zz)):∀m:Nat,ff ((List.replicate m zl).flatten.map SV.v) ((List.replicate m zz).flatMap e)
 |0=>trivial
 |m+1=>by
  rw[List.replicate_succ,List.replicate_succ,List.flatten_cons,List.map_append,List.flatMap_cons];exact Cf hi (Cg hi m)
theorem RT.qY(hg:Gd ops S gd rg)[tS:eL P T E0 n][tE:iX P E0 n by_ zv]{kl kc:IntKind}{c:Int}{zz:α}(hx:S.ev x=.sv (.v (.int kl c)))(hy:S.ev y=.sv (.v (.int kc c)))(hd:d<S.n)(wc:S.r d=.un)(ux:d<1000)(hz:zv.cells.size=n)(hn:0<n)(hi:ff (zv.cells.toList.map SV.v) (e zz))(hm:Ca by_ c zz=some l')
  (next:RunT P C ops nd K rest (⟨rg++(bg x++bg y),[],[d],⟨some (d,.row d),[],[(d,.live (TR E0 n e l'))]⟩⟩::acc) ((AS.cf [(d,.live (TR E0 n e l'))] S).set d (.row d))):RunT P C ops nd K (⟨some d,.makeSlice T x y,ty,pos,aft,gd⟩::rest) acc S:=by
 obtain⟨h0,hroom,oY,rfl⟩:=HT hm;refine .inl ⟨_,[],[d],_,?_,next⟩;rintro S' hn' ht _ hr i a w L Q ho ⟨E,h⟩ hL;refine cL (C:=C) ho (hg.wanted h (λs hs=>ht s (List.mem_append_left _ hs)) Y) ?_;have h1:a.eval x=.int kl c:=by have h1:=h.ev x;rw[bA (λ_ h=>List.mem_append_right _ (List.mem_append_left _ h)) ht,hx]at h1;exact h1
 have h2:a.eval y=.int kc c:=by have h2:=h.ev y;rw[bA (λ_ h=>List.mem_append_right _ (List.mem_append_right _ h)) ht,hy]at h2;exact h2
 obtain⟨info,hii,hsz,hby,UY⟩:=iX.info (P:=P) (E:=E0) (n:=n) (by_:=by_) (z:=zv);obtain⟨m,rfl⟩:=Int.eq_ofNat_of_zero_le h0;have hb':info.bytes*m<=281474976710656:=by
  rw[hby];have:((by_*m:Nat):Int)<=281474976710656:=by rw[Int.natCast_mul];exact hroom
  omega
 obtain⟨w',q1,q2,q3⟩:=run_make_full (P:=P) w 0 T E0 info zv n tS.u hii UY hsz kl kc m hb' (by unfold maxLen;omega) (Nat.zero_le _);have hr':(execOp a.eval ⟨some d,.makeSlice T x y,ty,pos,aft,gd⟩).run P w=.ok (.value (.slice (some ⟨w.heap.size,0,none⟩) m m)) w':=by
  simp only[execOp,h1,h2];simp[q1]
 have Ge:S'.r d=.un:=by rw[hr d (by simp)];exact wc
 have e0:(m:Int).toNat=m:=by simp
 have hall:SV.eE E.M ((List.replicate m zz).flatMap e) (madeCells zv.cells (m*n)).toList:=by
  rw[zO zv.cells n hz hn];exact ff.holds (l:=((List.replicate m zv.cells.toList).flatten.map SV.v)) (Cg hi m) (AE _ _)
 have hlen:(List.replicate (m:Int).toNat zz).length=m:=by simp
 refine cM (C:=C) (by intro c h;cases h) hr' (hL _ _ ⟨_,(h.newRow Ge ux [] none (.inl ⟨rfl,rfl⟩) (R':=TR E0 n e (List.replicate (m:Int).toNat zz)) (by show w'.ownsRow 0 E0 n _ (List.replicate (m:Int).toNat zz).length _;rw[hlen];exact q2) (by rw[e0];exact hall) (.inr (.inl rfl)) q3).put (d:=d) (x:=.row d) (v:=.slice (some ⟨w.heap.size,0,none⟩) m m) (by simp[AV.holds]) (by show d<S'.n;omega) ⟨λ_ e=>e.elim,λj e=>?_⟩⟩);cases e;show(AS.oU S' d _).r d≠_;rw[AS.fS];simp
theorem RT.Fi(hg:Gd ops S gd rg)[tS:eL P T E0 n][tE:iX P E0 n by_ zv]{kl kc:IntKind}{c:Int}(hx:S.ev x=.sv (.v (.int kl 0)))(hy:S.ev y=.sv (.v (.int kc c)))(hd:d<S.n)(wc:S.r d=.un)(ux:d<1000)(h:Lb (α:=α) by_ c=some l')
  (next:RunT P C ops nd K rest (⟨rg++(bg x++bg y),[],[d],⟨some (d,.row d),[],[(d,.live (TR E0 n e l'))]⟩⟩::acc) ((AS.cf [(d,.live (TR E0 n e l'))] S).set d (.row d))):RunT P C ops nd K (⟨some d,.makeSlice T x y,ty,pos,aft,gd⟩::rest) acc S:=by
 obtain⟨h0,h1,h2,rfl⟩:=HU h;exact RT.Rq hg hx hy hd wc ux h0 h1 h2 next
theorem RT.Vw(hg:Gd ops S gd rg)[tS:eL P T E0 n]{i j:Nat}{E1:TypeId}{kk:IntKind}{v:Int}(hx:S.ev x=.row i)(hR:S.r i=.live (TR E1 n e l))(hy:S.ev y=.sv (.v (.int kk v)))(hd:d<S.n)(h:uy l v=some j)
  (next:RunT P C ops nd K rest (⟨rg++(bg x++bg y),[],[i],⟨some (d,.gI i (j*n)),[],[]⟩⟩::acc) (S.set d (.gI i (j*n)))):RunT P C ops nd K (⟨some d,.indexAddr T x y,ty,pos,aft,gd⟩::rest) acc S:=by
 obtain⟨h0,h1,h2⟩:=HS h;exact RT.ixR hg (.row hx hR) hy hd h0 h1 (j*n) (by rw[h2];omega) next
theorem RT.RW(hg:Gd ops S gd rg)[tV:nU P T][el:EL e 1]{i j:Nat}{E1:TypeId}{a:α}{s:SV}(hx:S.ev x=.gI i (j*1))(hR:S.r i=.live (TR E1 1 e l))(ha:l[j]? =some a)(hs:e a=[s])(hd:d<S.n)
  (next:RunT P C ops nd K rest (⟨rg++bg x,[],[i],⟨some (d,.sv s),[],[]⟩⟩::acc) (S.set d (.sv s))):RunT P C ops nd K (⟨some d,.load T x,ty,pos,aft,gd⟩::rest) acc S:=by
 refine RT.ldR hg hx hR (s:=s) ?_ hd next
 have:=Cd (e:=e) ha;rw[hs]at this;have h2:=congrArg (·[0]?) this;simpa[List.getElem?_take]using h2
theorem Lf(a:List SV)(k:Nat)(s:SV):a.set k s=jS a k [s]:=rfl
theorem RT.Vx(hg:Gd ops S gd rg)[tV:nU P T][el:EL e 1]{i j:Nat}{E1:TypeId}{s:SV}[o1:One s](a:α)(hs:e a=[s])(hx:S.ev x=.gI i (j*1))(hR:S.r i=.live (TR E1 1 e l))(hy:S.ev y=.sv s)(h:stM l j a=some l')
  (next:RunT P C ops nd K rest (⟨rg++(bg x++bg y),[],[i],⟨none,[],[(i,.live (TR E1 1 e l'))]⟩⟩::acc) (AS.cf [(i,.live (TR E1 1 e l'))] S)):RunT P C ops nd K (⟨none,.store T x y,ty,pos,aft,gd⟩::rest) acc S:=by
 obtain⟨h1,rfl⟩:=Cb h;refine RT.stR hg hx hR hy (by show j*1+1<=l.length*1;omega) ((l.set j a).flatMap e) (by rw[Lf,<-hs];exact Ce h1) ?_;have:(TR E1 1 e (l.set j a))=⟨E1,1,l.length,(l.set j a).flatMap e⟩:=by show Row.mk _ _ _ _=_;rw[List.length_set]
 rw[<-this];exact next
theorem RT.RX(hg:Gd ops S gd rg)[tA:w5 P T n][el:EL e n]{i j:Nat}{E1:TypeId}(a:α)(hx:S.ev x=.gI i (j*n))(hR:S.r i=.live (TR E1 n e l))(hy:S.ev y=.sv (.agg (e a)))(h:stM l j a=some l')
  (next:RunT P C ops nd K rest (⟨rg++(bg x++bg y),[],[i],⟨none,[],[(i,.live (TR E1 n e l'))]⟩⟩::acc) (AS.cf [(i,.live (TR E1 n e l'))] S)):RunT P C ops nd K (⟨none,.store T x y,ty,pos,aft,gd⟩::rest) acc S:=by
 obtain⟨h1,rfl⟩:=Cb h;have o1:=el.one a;refine RT.U1 hg hx hR hy (el.len a) (by show j*n+n<=l.length*n;have:=Nat.mul_le_mul_right n h1;rw[Nat.succ_mul]at this;exact this) ((l.set j a).flatMap e) (Ce h1) ?_;have:(TR E1 n e (l.set j a))=⟨E1,n,l.length,(l.set j a).flatMap e⟩:=by show Row.mk _ _ _ _=_;rw[List.length_set]
 rw[<-this];exact next
end steps
theorem cC{S:AS}{i n:Nat}{E1:TypeId}{α:Type}{e:α->List SV}{l:List α}[el:EL e n](hR:S.r i=.live (TR E1 n e l)):oV S (S.l6 i (slc n (l.map e))):=by
 rintro C a w ⟨E,h⟩;have hlen:l.length<=9223372036854775807:=by
  obtain⟨⟨vs,ho,hv⟩,_⟩:=h.rx i _ hR;rcases ho.2 with⟨_,q2⟩|⟨g',cap,cur,q1,_,q2,q3,q4,q5,q6⟩
  ·have q2:l.length=0:=q2;omega
  have q3:l.length<=cap:=q3;have:maxLen=9223372036854775807:=by decide
  omega
 exact h.l6 hR (Cc l) (by rw[List.length_map]) hlen (zN l) (λ_ _ h _=>h)
section control
variable {P:Program}{C:Ctx}{S:AS}{Q:Exit->AS->Prop}
theorem bC{A:Code}{J R:Type}{kB:J->Option R}{fA:(J->Option R)->Option R}{r:R}(h:cg kB fA=some r)(I:J->AS)
  (hA:fA kB=some r->Ok P C A S (aV (λS'=>∃j,kB j=some r/\oV S' (I j)) Q)) (hQ:∀j,kB j=some r->Q .normal (I j)):Ok P C A S Q:=λa w hs=>by
 refine wpIn_mono (hA h a w hs) ?_;rintro e a' w' ⟨S',q,hh⟩;cases e with
 |normal=>obtain⟨j,h1,h2⟩:=q;exact⟨_,hQ j h1,h2 C a' w' hh⟩
 |_=>exact⟨S',q,hh⟩
theorem bK{A:Code}{X:Type}(I:X->AS)(p:X->Prop)(hA:Ok P C A S (aV (λS'=>∃j,p j/\oV S' (I j)) Q))(hQ:∀j,p j->Q .normal (I j)):Ok P C A S Q:=λa w hs=>by
 refine wpIn_mono (hA a w hs) ?_;rintro e a' w' ⟨S',q,hh⟩;cases e with
 |normal=>obtain⟨j,h1,h2⟩:=q;exact⟨_,hQ j h1,h2 C a' w' hh⟩
 |_=>exact⟨S',q,hh⟩
theorem bL{c:Code}{T E:Type}{body:T->Option (T⊕E)}{s0:T}{e:E}(h:b9 body s0=some e)(I:T->AS)(h0:oV S (I s0))
  (round:∀(s:T) (y:T⊕E) (G:T->Prop),body s=some y->(∀s',y=.inl s'->G s')->(∀e',y=.inr e'->e'=e)->Ok P C c (I s) (aV (λS'=>∃s',G s'/\oV S' (I s')) Q)):Ok P C (.loop c) S Q:=by
 obtain⟨n,hn⟩:=rN h;refine sF (ι:={x:T×Nat//lN body x.2 x.1=some e}) (λx=>I x.1.1) (λx=>x.1.2) ⟨(s0,n),hn⟩ h0 ?_;rintro⟨⟨s,m⟩,hm⟩;cases m with
 |zero=>cases hm
 |succ m=>
  cases hb:body s with
  |none=>simp only[lN,hb]at hm;cases hm
  |some y=>
   refine An (round s y (λs'=>lN body m s'=some e) hb ?_ ?_) ?_
   ·rintro s' rfl;simpa only[lN,hb]using hm
   ·rintro e' rfl;simp only[lN,hb]at hm;exact Option.some.inj hm
   intro ex S' q;cases ex with
   |normal=>obtain⟨s',h1,h2⟩:=q;exact⟨⟨(s',m),h1⟩,Nat.lt_succ_self m,h2⟩
   |_=>exact q
end control
end
section
open Go.RowKit
abbrev O3:=List UInt8
def bs(l:O3):ByteArray:=⟨⟨l⟩⟩
def qZ(l:O3)(i:Int):Option Nat:=(c9 l i).map UInt8.toNat
theorem Lg(l:O3):(bs l).size=l.length:=rfl
theorem O4(l:O3)(i:Nat):(bs l)[i]? =l[i]? :=by
 rcases Nat.lt_or_ge i l.length with h|h
 ·rw[getElem?_pos (bs l) i h,List.getElem?_eq_getElem h];rfl
 rw[getElem?_neg (bs l) i (by rw[Lg];omega),List.getElem?_eq_none h]
section steps
variable {P:Program}{C:Ctx}{ops:Array Oper}{S:AS}{nd:Bool}{K:List Ac->AS->Prop}{rest:List Oper}{acc:List Ac}
variable {gd:Option (Nat×Bool)}{rg:List Nat}{d:Nat}{ty:TypeId}{pos:String}{aft:Array Edge}{x y z:Operand}{T U E0:TypeId}
variable {l l' k:O3}
theorem RT.skV{op:Op}{j g:Nat}{b want:Bool}(h1:(ops[j]?).bind (·.dst)=some g)(h2:S.t g=.sv (.v (.bool b)))(hb:b≠want)(hd:d<S.n)
  (next:RunT P C ops nd K rest (⟨[g],[],[],⟨some (d,.sv (.v undef)),[],[]⟩⟩::acc) (S.set d (.sv (.v undef)))):RunT P C ops nd K (⟨some d,op,ty,pos,aft,some (j,want)⟩::rest) acc S:=by
 refine .inl ⟨[g],[],[],⟨some (d,.sv (.v undef)),[],[]⟩,?_,next⟩;rintro S' hn ht _ _ i a w L Q ho ⟨E,h⟩ hL;have hv:=h.tm g;rw[ht g (by simp),h2]at hv;have hv:a.tmps.getD g undef=.bool b:=hv;have F9:a.tmps[g]? =some (.bool b):=by
  rw[Array.getD_eq_getD_getElem?]at hv;cases e:a.tmps[g]? with
  |none=>rw[e]at hv;simp[undef]at hv
  |some x=>rw[e]at hv;simp at hv;rw[hv]
 have hw:Region.wanted ⟨some d,op,ty,pos,aft,some (j,want)⟩ (yielded ops a.tmps)=false:=by
  simp[Region.wanted,yielded,h1,F9,hb]
 simp only[wpOpIn,ho,hw];exact⟨λ_ _=>trivial,hL _ _ ⟨E,h.put (x:=.sv (.v undef)) (v:=undef) Y (by omega) ⟨λ_ h=>h.elim,λ_ h=>h.elim⟩⟩⟩
theorem RT.RY{op:Op}{j g:Nat}{want:Bool}(h1:(ops[j]?).bind (·.dst)=some g)(h2:S.t g=.sv (.v undef))(hd:d<S.n)
  (next:RunT P C ops nd K rest (⟨[g],[],[],⟨some (d,.sv (.v undef)),[],[]⟩⟩::acc) (S.set d (.sv (.v undef)))):RunT P C ops nd K (⟨some d,op,ty,pos,aft,some (j,want)⟩::rest) acc S:=by
 refine .inl ⟨[g],[],[],⟨some (d,.sv (.v undef)),[],[]⟩,?_,next⟩;rintro S' hn ht _ _ i a w L Q ho ⟨E,h⟩ hL;have hv:=h.tm g;rw[ht g (by simp),h2]at hv;have hv:a.tmps.getD g undef=undef:=hv;rw[Array.getD_eq_getD_getElem?]at hv;have hw:Region.wanted ⟨some d,op,ty,pos,aft,some (j,want)⟩ (yielded ops a.tmps)=false:=by
  cases e:a.tmps[g]? with
  |none=>simp[Region.wanted,yielded,h1,e]
  |some x=>
   rw[e]at hv;simp only[Option.getD_some]at hv;subst hv;simp[Region.wanted,yielded,h1,e,undef]
 simp only[wpOpIn,ho,hw];exact⟨λ_ _=>trivial,hL _ _ ⟨E,h.put (x:=.sv (.v undef)) (v:=undef) Y (by omega) ⟨λ_ h=>h.elim,λ_ h=>h.elim⟩⟩⟩
theorem RT.six(hg:Gd ops S gd rg)[tS:MJ P T]{kk:IntKind}{i:Int}{c:Nat}(hx:S.ev x=.sv (.v (.string (bs l))))(hy:S.ev y=.sv (.v (.int kk i)))(hd:d<S.n)(h:qZ l i=some c)
  (next:RunT P C ops nd K rest (⟨rg++(bg x++bg y),[],[],⟨some (d,.sv (.v (.int .u8 (c:Nat)))),[],[]⟩⟩::acc) (S.set d (.sv (.v (.int .u8 (c:Nat)))))):RunT P C ops nd K (⟨some d,.index T x y,ty,pos,aft,gd⟩::rest) acc S:=
 RT.DD hg (by intro c h;cases h) hx hy hd (λρ w h1 h2=>by
  unfold qZ at h;cases hh:c9 l i with
  |none=>rw[hh]at h;cases h
  |some b=>
   rw[hh]at h;obtain⟨q1,q2⟩:=uI hh;have q3:b.toNat=c:=Option.some.inj h;have q4:(bs l)[i.toNat]? =some b:=by rw[O4];exact q2
   simp[execOp,h1,h2,Instr.index,asIntOf,underlying,tS.h,q1,q4,q3]) next
end steps
section rows
variable {P:Program}{C:Ctx}{ops:Array Oper}{S:AS}{nd:Bool}{K:List Ac->AS->Prop}{rest:List Oper}{acc:List Ac}
variable {gd:Option (Nat×Bool)}{rg:List Nat}{d:Nat}{ty:TypeId}{pos:String}{aft:Array Edge}{x y z:Operand}{T U E0:TypeId}
variable {α:Type}{l l' k:List α}{e:α->List SV}{n by_:Nat}{zv:Value}
end rows
end
section
open Go.RowKit
def q9{α:Type}(l l':List α):Option Unit:=if l'.length=l.length then some ()else none
theorem kf{α:Type}{l l':List α}{u:Unit}(h:q9 l l'=some u):l'.length=l.length:=by
 unfold q9 at h;split at h
 ·assumption
 cases h
def O5{α:Type}(l:List α)(lo hi:Int):Option (Nat×Nat):=if 0<=lo/\lo<l.length/\lo<=hi/\hi<=l.length then some (lo.toNat,(hi-lo).toNat)else none
theorem HX{α:Type}{l:List α}{lo hi:Int}{o n:Nat}(h:O5 l lo hi=some (o,n)):0<=lo/\lo<l.length/\lo<=hi/\hi<=l.length/\lo.toNat=o/\(hi-lo).toNat=n:=by
 unfold O5 at h;split at h
 ·rename_i hh;obtain⟨q1,q2⟩:=Prod.mk.inj (Option.some.inj h);exact⟨hh.1,hh.2.1,hh.2.2.1,hh.2.2.2,q1,q2⟩
 cases h
def Ky(o n:Nat)(i:Int):Option Nat:=if 0<=i/\i<n then some (o+i.toNat)else none
theorem HY{o n j:Nat}{i:Int}(h:Ky o n i=some j):0<=i/\i<n/\o+i.toNat=j:=by
 unfold Ky at h;split at h
 ·rename_i hh;exact⟨hh.1,hh.2,Option.some.inj h⟩
 cases h
theorem Fj{α:Type}{e:α->List SV}{l:List α}{n:Nat}{M:Mem}{v:Value}(h:(slc n (l.map e)).h M v):l.length<=9223372036854775807:=by
 rcases h with⟨_,_,h⟩|⟨b,o,c,_,_,h,_⟩
 ·have:l=[]:=by simpa using h
  subst this;simp
 rwa[List.length_map]at h
theorem qm{α:Type}{e:α->List SV}{l:List α}{n:Nat}{M:Mem}{v:Value}(h:(ref [slc n (l.map e)]).h M v):l.length<=9223372036854775807:=by
 obtain⟨b,o,_,h⟩:=h;obtain⟨y,_,_,h⟩:=h 0 _ Y;exact Fj h
theorem rQ{l:List Nat}{i:Nat}(h:l.length<=i):l.getD i 0=0:=by simp[List.getD,List.getElem?_eq_none h]
theorem o4{l:List Nat}{i:Nat}(h:i<l.length):l[i]? =some (l.getD i 0):=by simp[List.getD,h]
theorem dU{α:Type}{l:List α}{d:α}{i:Nat}(h:l.length<=i):l.getD i d=d:=by simp[List.getD,List.getElem?_eq_none h]
theorem cK{α:Type}{l:List α}{d:α}{i:Nat}(h:i<l.length):l[i]? =some (l.getD i d):=by simp[List.getD,h]
theorem xz{α β:Type}(a:List α)(b:List β)(i:Nat)(h:i<=max a.length b.length):(i<max a.length b.length/\i<a.length/\i<b.length)\/(i<max a.length b.length/\i<a.length/\b.length<=i)\/(i<max a.length b.length/\a.length<=i/\i<b.length)\/i=max a.length b.length:=by omega
section steps
variable {P:Program}{C:Ctx}{ops:Array Oper}{S:AS}{nd:Bool}{K:List Ac->AS->Prop}{rest:List Oper}{acc:List Ac}
variable {gd:Option (Nat×Bool)}{rg:List Nat}{d:Nat}{ty:TypeId}{pos:String}{aft:Array Edge}{x y z:Operand}{T U E0:TypeId}
variable {α:Type}{l l' k:List α}{e:α->List SV}{n by_:Nat}{zv:Value}
theorem O6{E1:TypeId}(h:l'.length=l.length):(⟨E1,n,l.length,l'.flatMap e⟩:Row)=TR E1 n e l':=by show _=Row.mk _ _ _ _;rw[h]
theorem RT.O7(hg:Gd ops S gd rg){f:FuncId}[cZ P f]{g:Operand}{xs:Array Operand}{at_:Array TypeId}{args:List AV}{E1:TypeId}{res:AV}(hp:DU P f args (TR E1 n e l) res (l'.flatMap e))(hlen:l'.length=l.length)(i:Nat)(hR:S.r i=.live (TR E1 n e l))(hrow:args.all AV.uF=true)(hres:res.uF=true)
  (hf:S.ev g=.sv (.v (.func (.func f) #[] #[]))) (hargs:Aw S xs.toList (args.map (AV.vB i))) (hd:d<S.n)
  (next:RunT P C ops nd K rest (⟨rg++(bg g++xs.toList.flatMap bg),[],[i],⟨some (d,res.vB i),[],[(i,.live (TR E1 n e l'))]⟩⟩::acc) ((AS.cf [(i,.live (TR E1 n e l'))] S).set d (res.vB i))):RunT P C ops nd K (⟨some d,.call ⟨.value g,xs,at_⟩,ty,pos,aft,gd⟩::rest) acc S:=
 RT.Rz hg hp i hR hrow hres hf hargs hd (by rw[O6 hlen];exact next)
theorem RT.R3(hg:Gd ops S gd rg)[tS:eL P T E0 n]{i o m:Nat}{E1:TypeId}{lo hi:Option Operand}(a b:Int)(hx:S.ev x=.row i)(hR:S.r i=.live (TR E1 n e l))(hlo:At S 0 lo a)(hhi:At S l.length hi b)(hd:d<S.n)(h:O5 l a b=some (o,m))
  (next:RunT P C ops nd K rest (⟨rg++(bg x++(m8 lo++m8 hi)),[],[i],⟨some (d,.lC i (o*n) m),[],[]⟩⟩::acc) (S.set d (.lC i (o*n) m))):RunT P C ops nd K (⟨some d,.slice T x lo hi none,ty,pos,aft,gd⟩::rest) acc S:=by
 obtain⟨h0,h1,h2,h3,h4,h5⟩:=HX h;exact RT.OP hg (.row hx hR) a b hlo hhi hd h0 h1 h2 h3 (o*n) m (by rw[h4];omega) h5 next
theorem RT.O8(hg:Gd ops S gd rg){m:Nat}[tS:eL P T E0 m]{i o q:Nat}{c:Int}(hx:S.ev x=.lC i o q)(hd:d<S.n)(hc:(q:Int)=c)
  (next:RunT P C ops nd K rest (⟨rg++bg x,[],[],⟨some (d,.sv (.v (.int .i64 c))),[],[]⟩⟩::acc) (S.set d (.sv (.v (.int .i64 c))))):RunT P C ops nd K (⟨some d,.call ⟨.builtin .len,#[x],#[T]⟩,ty,pos,aft,gd⟩::rest) acc S:=
 RT.Ry hg hx hd (by rw[hc];exact next)
theorem RT.Ch(hg:Gd ops S gd rg)[tS:eL P T E0 n]{i o q j:Nat}{kk:IntKind}{v:Int}(hx:S.ev x=.lC i (o*n) q)(hy:S.ev y=.sv (.v (.int kk v)))(hd:d<S.n)(h:Ky o q v=some j)
  (next:RunT P C ops nd K rest (⟨rg++(bg x++bg y),[],[],⟨some (d,.gI i (j*n)),[],[]⟩⟩::acc) (S.set d (.gI i (j*n)))):RunT P C ops nd K (⟨some d,.indexAddr T x y,ty,pos,aft,gd⟩::rest) acc S:=by
 obtain⟨h0,h1,h2⟩:=HY h;exact RT.ixR hg (.lC hx) hy hd h0 h1 (j*n) (by rw[<-h2,Nat.add_mul]) next
end steps
def nr{S:Type}(body:Nat->S->Option S):Nat->S->Option S
 |0,s=>some s
 |n+1,s=>(nr body n s).bind (body n)
theorem nJ{S:Type}{body:Nat->S->Option S}:∀{n:Nat} {s e:S},nr body n s=some e->∃st:Nat->S,st 0=s/\(∀k,k<n->body k (st k)=some (st (k+1)))/\st n=e
 |0,s,e,h=>⟨λ_=>s,Y,λ_ h=>by omega,Option.some.inj h⟩
 |n+1,s,e,h=>by
  obtain⟨e1,h1,h2⟩:=bind_some (x:=nr body n s) h;obtain⟨st,q1,q2,q3⟩:=nJ h1;refine⟨λk=>if k=n+1 then e else st k,by simpa using q1,λk hk=>?_,by simp⟩;rcases Nat.lt_or_ge k n with hkn|hkn
  ·simpa[show k≠n+1 by omega,show k≠n by omega]using q2 k hkn
  obtain rfl:k=n:=by omega
  simpa[q3]using h2
theorem zP{S:Type}{body:Nat->S->Option S}(st:Nat->S):∀(n:Nat),(∀k,k<n->body k (st k)=some (st (k+1)))->nr body n (st 0)=some (st n)
 |0,_=>rfl
 |n+1,h=>by
  rw[nr,zP st n (λk hk=>h k (by omega))];exact h n (by omega)
def lD{S E:Type}(body:Nat->S->Option (S⊕E)):Nat->S->Option (S⊕E)
 |0,s=>some (.inl s)
 |n+1,s=>(lD body n s).bind λr=>match r with|.inl s'=>body n s'|.inr e=>some (.inr e)
theorem zQ{S E:Type}{body:Nat->S->Option (S⊕E)}:∀{n:Nat} {s:S} {r:S⊕E},lD body n s=some r->∃(m:Nat) (st:Nat->S),st 0=s/\m<=n/\(∀k,k<m->body k (st k)=some (.inl (st (k+1))))/\((m=n/\r=.inl (st n))\/(m<n/\∃e,r=.inr e/\body m (st m)=some (.inr e)))
 |0,s,r,h=>⟨0,λ_=>s,Y,Nat.le_refl _,λ_ h=>by omega,.inl ⟨Y,(Option.some.inj h).symm⟩⟩
 |n+1,s,r,h=>by
  obtain⟨r1,h1,h2⟩:=bind_some (x:=lD body n s) h;obtain⟨m,st,q1,q2,q3,q4⟩:=zQ h1;rcases q4 with⟨rfl,rfl⟩|⟨q4,e,rfl,q5⟩
  ·simp only at h2;cases r with
   |inr e=>exact⟨m,st,q1,by omega,q3,.inr ⟨by omega,e,Y,h2⟩⟩
   |inl s'=>
    refine⟨m+1,λk=>if k=m+1 then s' else st k,by simpa using q1,Nat.le_refl _,λk hk=>?_,.inl ⟨Y,by simp⟩⟩;rcases Nat.lt_or_ge k m with hkn|hkn
    ·simpa[show k≠m+1 by omega,show k≠m by omega]using q3 k hkn
    obtain rfl:k=m:=by omega
    simpa using h2
  simp only at h2;cases h2;exact⟨m,st,q1,by omega,q3,.inr ⟨by omega,e,Y,q5⟩⟩
theorem AG{S E:Type}{body:Nat->S->Option (S⊕E)}{n m:Nat}{st:Nat->S}{r:S⊕E}(h:∀k,k<m->body k (st k)=some (.inl (st (k+1))))(hr:(m=n/\r=.inl (st n))\/(m<n/\∃e,r=.inr e/\body m (st m)=some (.inr e))){k:Nat}(hk:k<n)(hkm:k<=m):
  ∃y,body k (st k)=some y/\(∀s',y=.inl s'->k+1<=m/\s'=st (k+1))/\∀e',y=.inr e'->r=.inr e':=by
 rcases Nat.lt_or_ge k m with q|q
 ·exact⟨_,h k q,(λs' e=>⟨q,by cases e;rfl⟩),(λe' e=>by cases e)⟩
 obtain rfl:k=m:=by omega
 rcases hr with⟨rfl,_⟩|⟨_,e,rfl,he⟩
 ·omega
 exact⟨_,he,(λs' e=>by cases e),(λe' q=>by cases q;rfl)⟩
theorem Ci{S E:Type}{body:Nat->S->Option (S⊕E)}{n m:Nat}{st:Nat->S}{r:S⊕E}(hr:(m=n/\r=.inl (st n))\/(m<n/\∃e,r=.inr e/\body m (st m)=some (.inr e)))(h:n<=m):r=.inl (st n):=by
 rcases hr with⟨_,q⟩|⟨q,_⟩
 ·exact q
 omega
theorem uK{S E:Type}{body:Nat->S->Option (S⊕E)}{n:Nat}{s:S}{r:S⊕E}(h:lD body n s=some r):∃(m:Nat) (st:Nat->S),st 0=s/\(∀k,k<n->k<=m->∃y,body k (st k)=some y/\(∀s',y=.inl s'->k+1<=m/\s'=st (k+1))/\∀e',y=.inr e'->r=.inr e')/\(n<=m->r=.inl (st n)):=by
 obtain⟨m,st,q1,q2,q3,q4⟩:=zQ h;exact⟨m,st,q1,λk hk hm=>AG q3 q4 hk hm,λhn=>Ci q4 hn⟩
end
section
open Go.RowKit
def HZ(es:List (Value×Value)):SV where
 h M v:=∃b,v=.map (some b)/\M b 0=some (.tuple ⟨es.map λp=>.tuple #[p.1,p.2]⟩)
 mono hM h:=by obtain⟨b,e,h⟩:=h;exact⟨b,e,hM _ _ _ h⟩
class Fk (P:Program) (T:TypeId) (k:outParam TypeId) (e:outParam TypeId):Prop where
 u:P.underlying T=some (.map k e)
def zR(k:IntKind)(n:Int):List (Value×Value)->Option Value
 |[]=>none
 |(.int k' m,v)::l=>if k=k' then(if n=m then some v else zR k n l)else none
 |_::_=>none
theorem rf{k:IntKind}{n:Int}{v:Value}:∀(es:List MapEntry) (i:Nat),zR k n (es.map λe=>(e.key,e.val))=some v->∃j,Instr.findNow (.int k) (.int k n) es i=some (some (j,v))
 |[],_,h=>by simp[zR]at h
 |⟨key,val,born⟩::es,i,h=>by
  cases key with
  |int k' m=>
   simp only[List.map_cons,zR]at h;by_cases hk:k=k'
   ·subst hk;rw[if_pos rfl]at h;by_cases hn:n=m
    ·subst hn;rw[if_pos rfl]at h;cases h;exact⟨i,by simp[Instr.findNow,Instr.sameNow]⟩
    rw[if_neg hn]at h;obtain⟨j,hj⟩:=rf es (i+1) h;have hb:(n==m)=false:=by simp[hn]
    exact⟨j,by simp[Instr.findNow,Instr.sameNow,hb,hj]⟩
   rw[if_neg hk]at h;cases h
  |_=>simp[zR]at h
theorem Fl:∀(l:List (Value×Value)) (m:List MapEntry),l.map (λp=>Value.tuple #[p.1,p.2])=m.map (λe=>Value.tuple #[e.key,e.val])->m.map (λe=>(e.key,e.val))=l
 |[],[],_=>rfl
 |[],_::_,h=>by simp at h
 |_::_,[],h=>by simp at h
 |(p,q)::l,e::m,h=>by
  simp only[List.map_cons,List.cons.injEq,Value.tuple.injEq]at h⊢;refine⟨?_,Fl l m h.2⟩;have:=h.1;simp at this;rw[this.1,this.2]
theorem H6{es:Array MapEntry}{l:List (Value×Value)}(h:(⟨l.map λp=>.tuple #[p.1,p.2]⟩:Array Value)=KD es):es.toList.map (λe=>(e.key,e.val))=l:=
 Fl l es.toList (congrArg Array.toList h)
theorem getM{P:Program}{w:World}{r:Nat}{es:Array MapEntry}{ck:Nat}(hb:w.heap[r]? =some (.map es ck)):(getObj r).run P w=.ok (.map es ck) w:=by simp[getObj,Sem.run,hb]
theorem Vy{P:Program}{w:World}{r:Nat}{es:Array MapEntry}{ck:Nat}(o:Obj)(hb:w.heap[r]? =some (.map es ck)):(setObj r o).run P w=.ok () {w with heap:=w.heap.setIfInBounds r o}:=by simp[setObj,Sem.run,hb]
theorem ckM{P:Program}{w:World}{kt:TypeId}{k:IntKind}[tI:jW P kt k]{n:Int}(bb:Bool):(Instr.checkKey bb 10000 kt (.int k n)).run P w=.ok () w:=by
 rw[show(10000:Nat)=9999+1 from rfl,Instr.checkKey];simp[underlying,tI.h]
theorem H7{M:Mem}:∀l:List Value,SV.eE M (l.map SV.v) l
 |[]=>trivial
 |_::l=>⟨Y,H7 l⟩
section steps
variable {P:Program}{C:Ctx}{ops:Array Oper}{S:AS}{nd:Bool}{K:List Ac->AS->Prop}{rest:List Oper}{acc:List Ac}
variable {gd:Option (Nat×Bool)}{rg:List Nat}{d:Nat}{ty:TypeId}{pos:String}{aft:Array Edge}{x y z:Operand}{T U E0:TypeId}
theorem RT.look(hg:Gd ops S gd rg){kt et:TypeId}[tM:Fk P T kt et]{k:IntKind}[tI:jW P kt k]{es:List (Value×Value)}{n:Int}(cs:List Value)(hx:S.ev x=.sv (HZ es))(hy:S.ev y=.sv (.v (.int k n)))(hl:zR k n es=some (.agg ⟨cs⟩))(hd:d<S.n)
  (next:RunT P C ops nd K rest (⟨rg++(bg x++bg y),[],[],⟨some (d,.sv (.agg (cs.map SV.v))),[],[]⟩⟩::acc) (S.set d (.sv (.agg (cs.map SV.v))))):RunT P C ops nd K (⟨some d,.lookup T x y false,ty,pos,aft,gd⟩::rest) acc S:=
 RT.value hg (bg x++bg y) [] [] (.sv (.agg (cs.map SV.v))) hd (by intro c h;cases h) (λS' ht _ _ E a w h=>by
  have h1:=h.ev x;rw[bA (λ_ h=>List.mem_append_left _ h) ht,hx]at h1;have h2:a.eval y=.int k n:=by have h2:=h.ev y;rw[bA (λ_ h=>List.mem_append_right _ h) ht,hy]at h2;exact h2
  obtain⟨b,e,hb⟩:=h1;obtain⟨ms,ck,hm,he⟩:=h.dI _ _ _ hb;have he:=H6 he;rw[<-he]at hl;obtain⟨j,hj⟩:=rf ms.toList 0 hl;refine⟨.agg ⟨cs⟩,?_,⟨cs,Y,?_⟩,fT⟩
  ·have Vz:(Instr.findKey kt (.int k n) ms.toList).run P w=.ok (some (j,.agg ⟨cs⟩)) w:=by
    simp[Instr.findKey,underlying,tI.h,hj]
   simp[execOp,e,h2,Instr.lookup,underlying,tM.u,getM hm,ckM,Vz]
  exact H7 cs) next
def o5(w:World)(ms:Array MapEntry)(ck:Nat):World:=w.alloc (.map ms ck)
theorem uL(w:World)(ms:Array MapEntry)(ck:Nat):(o5 w ms ck).heap[w.heap.size]? =some (.map ms ck):=by show(w.heap.push _)[w.heap.size]? =_;simp
theorem run_make{d:Option Nat}{ρ:Operand->Value}{w:World}:(execOp ρ ⟨d,.makeMap T none,ty,pos,aft,none⟩).run P w=.ok (.value (.map (some w.heap.size))) (o5 w #[] 0):=by
 simp[execOp,Instr.makeMap,o5]
theorem wL{d:Option Nat}{kt et:TypeId}[tM:Fk P T kt et]{k:IntKind}[tI:jW P kt k]{ρ:Operand->Value}{w:World}{ms:Array MapEntry}{ck:Nat}{n:Int}{v:Value}(hx:ρ x=.map (some w.heap.size))(hy:ρ y=.int k n)(hz:ρ z=v)
  (hf:Instr.findNow (.int k) (.int k n) ms.toList 0=some none):(execOp ρ ⟨d,.insert T x y z,ty,pos,aft,none⟩).run P (o5 w ms ck)=.ok .skip (o5 w (ms.push ⟨.int k n,v,ck⟩) (ck+1)):=by
 have Vz:(Instr.findKey kt (.int k n) ms.toList).run P (o5 w ms ck)=.ok none (o5 w ms ck):=by
  simp[Instr.findKey,underlying,tI.h,hf]
 have VA:∀o:Obj,{o5 w ms ck with heap:=(o5 w ms ck).heap.setIfInBounds w.heap.size o}=w.alloc o:=by
  intro o;simp only[o5,World.alloc];congr 1;apply Array.ext';simp
 simp[execOp,hx,hy,hz,Instr.mapUpdate,underlying,tM.u,getM (uL w ms ck),ckM,Vz,Vy _ (uL w ms ck)];exact VA _
theorem wM{d:Option Nat}{z0:Value}[tP:iK P U [(0,1)] [z0]]{ρ:Operand->Value}{w:World}{v:Value}(hx:ρ x=v)(hv:v.oneCell'=true):(execOp ρ ⟨d,.build U #[(0,x)],ty,pos,aft,none⟩).run P w=.ok (.value (.agg #[v])) w:=by
 have hu:=tP.h;cases hT:P.underlying U with
 |none=>rw[hT]at hu;cases hu
 |some u=>
  rw[hT]at hu;cases u with
  |struct fs=>
   simp only at hu;have hz:(zeroValue U).run P w=.ok (.agg ⟨[z0]⟩) w:=gJ.run (t:=⟨tP.hz⟩) w;have hm:(fs.mapM (λf=>do pure (f.offset,<-sizeOf f.type):Field->Sem (Nat×Nat))).run P w=.ok #[(0,1)] w:=by
    have:=oZ (P:=P) (w:=w) hu;rw[<-Array.toArray_toList (xs:=fs),List.mapM_toArray];rw[Sem.run_map,this];rfl
   simp only[execOp,Instr.build,underlying];simp only[Sem.run_bind,hz,Result.andThen_ok,run_program,hT,Sem.run_pure,Value.cells];have hm':(Array.mapM (λf=>do
     let __do_lift<-sizeOf f.type
     pure (f.offset,__do_lift)) fs:Sem _).run P w=.ok #[(0,1)] w:=hm
   simp only[hm',Result.andThen_ok];have h1':Instr.fill (λi=>(#[(0,1)]:Array (Nat×Nat))[i]?) ⟨[z0]⟩ [(0,v)]=some ⟨[v]⟩:=by
    simp[Instr.fill,gC hv]
    try rfl
   have e4:(Array.map (λx=>match x with|(i,x)=>(i,ρ x)) #[(0,x)]).toList=[(0,v)]:=by simp[hx]
   simp only[e4,h1',Sem.run_pure,Result.andThen_ok]
  |_=>cases hu
theorem Lh{Q:Exit->AS->Prop}{id:Nat}{T U kt et t0:TypeId}[tM:Fk P T kt et]{k:IntKind}[tI:jW P kt k]{z0:Value}[tP:iK P U [(0,1)] [z0]]{f1 f2 f3 f4:FuncId}{n1 n2 n3 n4:Int}
  {p0 p1 p2 p3 p4 p5 p6 p7 p8 p9 O9:String} {a0 a1 a2 a3 a4 a5 a6 a7 a8 a9 a10:Array Edge} {u1 u2 u3 u4 u5 u6 u7 u8 u9:TypeId} (hn:7<=S.n)
  (h2:Instr.findNow (.int k) (.int k n2) [⟨.int k n1,.agg #[.func (.func f1) #[] #[]],0⟩] 0=some none)
  (h3:Instr.findNow (.int k) (.int k n3) [⟨.int k n1,.agg #[.func (.func f1) #[] #[]],0⟩,⟨.int k n2,.agg #[.func (.func f2) #[] #[]],1⟩] 0=some none)
  (h4:Instr.findNow (.int k) (.int k n4) [⟨.int k n1,.agg #[.func (.func f1) #[] #[]],0⟩,⟨.int k n2,.agg #[.func (.func f2) #[] #[]],1⟩,⟨.int k n3,.agg #[.func (.func f3) #[] #[]],2⟩] 0=some none)
  (hQ:∀S',S'.t 0=.sv (HZ [(.int k n1,.agg #[.func (.func f1) #[] #[]]),(.int k n2,.agg #[.func (.func f2) #[] #[]]),(.int k n3,.agg #[.func (.func f3) #[] #[]]),(.int k n4,.agg #[.func (.func f4) #[] #[]])])->Q .normal S'):
  Ok P C (.region id #[⟨some 1,.makeMap T none,t0,p0,a0,none⟩,⟨some 2,.build U #[(0,.func f1)],u1,p1,a1,none⟩,⟨none,.insert T (.tmp 1) (.const (.int k n1)) (.tmp 2),u2,p2,a2,none⟩,
   ⟨some 3,.build U #[(0,.func f2)],u3,p3,a3,none⟩,⟨none,.insert T (.tmp 1) (.const (.int k n2)) (.tmp 3),u4,p4,a4,none⟩,⟨some 4,.build U #[(0,.func f3)],u5,p5,a5,none⟩,⟨none,.insert T (.tmp 1) (.const (.int k n3)) (.tmp 4),u6,p6,a6,none⟩,
   ⟨some 5,.build U #[(0,.func f4)],u7,p7,a7,none⟩,⟨none,.insert T (.tmp 1) (.const (.int k n4)) (.tmp 5),u8,p8,a8,none⟩,⟨some 6,.move (.tmp 1),u9,p9,a9,none⟩,⟨some 0,.assign (.tmp 6),u9,O9,a10,none⟩] false) S Q:=by
 rintro a w ⟨E,h⟩;refine wpIn_region ?_;show wpOpsIn _ _ _ _ _ [0,1,2,3,4,5,6,7,8,9,10] a w;have hS:∀(S:AS) (d:Nat) (x:AV),(S.set d x).n=S.n:=λ_ _ _=>rfl;rw[wpOpsIn_cons];refine cL (C:=C) rfl rfl (cM (C:=C) (by intro c h;cases h) run_make ?_);have g1:=h.put (d:=1) (x:=.sv (.v (.map (some w.heap.size)))) (v:=.map (some w.heap.size)) Y (by omega) fT;show wpOpsIn _ _ _ _ _ _ (a.put (some 1) _) _;generalize a.put (some 1) (.map (some w.heap.size))=b1 at g1⊢;rw[wpOpsIn_cons];refine cL (C:=C) rfl rfl (cM (C:=C) (by intro c h;cases h) (wM rfl rfl) ?_);have g2:=g1.put (d:=2) (x:=.sv (.v (.agg #[.func (.func f1) #[] #[]]))) (v:=.agg #[.func (.func f1) #[] #[]]) Y (by rw[hS];omega) fT;show wpOpsIn _ _ _ _ _ _ (b1.put (some 2) (.agg #[.func (.func f1) #[] #[]])) _;generalize b1.put (some 2) (.agg #[.func (.func f1) #[] #[]])=b2 at g2⊢;rw[wpOpsIn_cons];refine cL (C:=C) rfl rfl (cM (C:=C) (by intro c h;cases h) (wL (k:=k) (n:=n1) (v:=.agg #[.func (.func f1) #[] #[]]) (g2.ev (.tmp 1)) rfl (g2.ev (.tmp 2)) rfl) ?_);show wpOpsIn _ _ _ _ _ _ (b2.put none undef) _;rw[show b2.put none undef=b2 from rfl,wpOpsIn_cons];refine cL (C:=C) rfl rfl (cM (C:=C) (by intro c h;cases h) (wM rfl rfl) ?_)
 have g3:=g2.put (d:=3) (x:=.sv (.v (.agg #[.func (.func f2) #[] #[]]))) (v:=.agg #[.func (.func f2) #[] #[]]) Y (by rw[hS,hS];omega) fT;show wpOpsIn _ _ _ _ _ _ (b2.put (some 3) (.agg #[.func (.func f2) #[] #[]])) _;generalize b2.put (some 3) (.agg #[.func (.func f2) #[] #[]])=b3 at g3⊢;rw[wpOpsIn_cons];refine cL (C:=C) rfl rfl (cM (C:=C) (by intro c h;cases h) (wL (k:=k) (n:=n2) (v:=.agg #[.func (.func f2) #[] #[]]) (g3.ev (.tmp 1)) rfl (g3.ev (.tmp 3)) (by simpa using h2)) ?_);show wpOpsIn _ _ _ _ _ _ (b3.put none undef) _;rw[show b3.put none undef=b3 from rfl,wpOpsIn_cons];refine cL (C:=C) rfl rfl (cM (C:=C) (by intro c h;cases h) (wM rfl rfl) ?_);have g4:=g3.put (d:=4) (x:=.sv (.v (.agg #[.func (.func f3) #[] #[]]))) (v:=.agg #[.func (.func f3) #[] #[]]) Y (by rw[hS,hS,hS];omega) fT;show wpOpsIn _ _ _ _ _ _ (b3.put (some 4) (.agg #[.func (.func f3) #[] #[]])) _;generalize b3.put (some 4) (.agg #[.func (.func f3) #[] #[]])=b4 at g4⊢;rw[wpOpsIn_cons];refine cL (C:=C) rfl rfl (cM (C:=C) (by intro c h;cases h) (wL (k:=k) (n:=n3) (v:=.agg #[.func (.func f3) #[] #[]]) (g4.ev (.tmp 1)) rfl (g4.ev (.tmp 4)) (by simpa using h3)) ?_);show wpOpsIn _ _ _ _ _ _ (b4.put none undef) _
 rw[show b4.put none undef=b4 from rfl,wpOpsIn_cons];refine cL (C:=C) rfl rfl (cM (C:=C) (by intro c h;cases h) (wM rfl rfl) ?_);have g5:=g4.put (d:=5) (x:=.sv (.v (.agg #[.func (.func f4) #[] #[]]))) (v:=.agg #[.func (.func f4) #[] #[]]) Y (by rw[hS,hS,hS,hS];omega) fT;show wpOpsIn _ _ _ _ _ _ (b4.put (some 5) (.agg #[.func (.func f4) #[] #[]])) _;generalize b4.put (some 5) (.agg #[.func (.func f4) #[] #[]])=b5 at g5⊢;rw[wpOpsIn_cons];refine cL (C:=C) rfl rfl (cM (C:=C) (by intro c h;cases h) (wL (k:=k) (n:=n4) (v:=.agg #[.func (.func f4) #[] #[]]) (g5.ev (.tmp 1)) rfl (g5.ev (.tmp 5)) (by simpa using h4)) ?_);show wpOpsIn _ _ _ _ _ _ (b5.put none undef) _;have e1:b5.eval (.tmp 1)=.map (some w.heap.size):=g5.ev (.tmp 1);obtain⟨ms,hms⟩:∃ms:Array MapEntry,(((((#[]:Array MapEntry).push ⟨.int k n1,.agg #[.func (.func f1) #[] #[]],0⟩).push ⟨.int k n2,.agg #[.func (.func f2) #[] #[]],0+1⟩).push ⟨.int k n3,.agg #[.func (.func f3) #[] #[]],0+1+1⟩).push ⟨.int k n4,.agg #[.func (.func f4) #[] #[]],0+1+1+1⟩)=ms:=⟨_,Y⟩;rw[hms];have hno:∀o,E.M w.heap.size o=none:=λo=>by
  cases e:E.M w.heap.size o with
  |none=>rfl
  |some v=>have:=nn h.dI e;omega
 have g6:=g5.grow (M':=λb o=>if b=w.heap.size/\o=0 then some (.tuple (KD ms))else E.M b o) (w':=o5 w ms (0+1+1+1+1)) (λb o v e=>by
   have:b≠w.heap.size:=by rintro rfl;rw[hno o]at e;cases e
   simp[this,e]) (λb o v e=>by
   by_cases hb:b=w.heap.size/\o=0
   ·exact .inr (by omega)
   ·simp only[if_neg hb]at e;exact .inl e) (λb o v e=>by
   by_cases hb:b=w.heap.size/\o=0
   ·simp only[if_pos hb]at e;obtain⟨rfl,rfl⟩:=hb;cases e;exact⟨ms,_,uL w ms _,Y⟩
   simp only[if_neg hb]at e;have hlt:=nn h.dI e;refine(h.dI b o v e).same ?_;show(w.heap.push _)[b]? =_;rw[Array.getElem?_push,if_neg (by omega)]) ((Below.refl _ _).alloc (Nat.le_refl _) _)
 have hm:∀X:Env,X.M w.heap.size 0=some (.tuple (KD ms))->(HZ [(.int k n1,.agg #[.func (.func f1) #[] #[]]),(.int k n2,.agg #[.func (.func f2) #[] #[]]),(.int k n3,.agg #[.func (.func f3) #[] #[]]),(.int k n4,.agg #[.func (.func f4) #[] #[]])]).h X.M (.map (some w.heap.size)):=λX hX=>by
  refine⟨_,Y,?_⟩;rw[hX,<-hms];rfl
 have g7:=g6.put (d:=6) (x:=.sv (.v (.map (some w.heap.size)))) (v:=.map (some w.heap.size)) Y (by rw[hS,hS,hS,hS,hS];omega) fT;rw[show b5.put none undef=b5 from rfl,wpOpsIn_cons];refine cL (C:=C) rfl rfl (cM (C:=C) (by intro c h;cases h) (r:=.ok (.value (.map (some w.heap.size))) _) (by show Result.ok (Next.value (b5.eval (.tmp 1))) _=_;rw[e1]) ?_);show wpOpsIn _ _ _ _ _ _ (b5.put (some 6) (.map (some w.heap.size))) _;generalize b5.put (some 6) (.map (some w.heap.size))=b6 at g7⊢;have e6:b6.eval (.tmp 6)=.map (some w.heap.size):=g7.ev (.tmp 6);have g8:=g7.put (d:=0) (x:=.sv (HZ [(.int k n1,.agg #[.func (.func f1) #[] #[]]),(.int k n2,.agg #[.func (.func f2) #[] #[]]),(.int k n3,.agg #[.func (.func f3) #[] #[]]),(.int k n4,.agg #[.func (.func f4) #[] #[]])])) (v:=.map (some w.heap.size)) (hm _ (by simp)) (by rw[hS,hS,hS,hS,hS,hS];omega) fT;rw[wpOpsIn_cons];refine cL (C:=C) rfl rfl (cM (C:=C) (by intro c h;cases h) (r:=.ok (.value (.map (some w.heap.size))) _) (by show Result.ok (Next.value (b6.eval (.tmp 6))) _=_;rw[e6]) ?_);show wpOpsIn _ _ _ _ _ _ (b6.put (some 0) (.map (some w.heap.size))) _;rw[wpOpsIn];exact⟨_,hQ _ Y,_,g8⟩
end steps
theorem je{P:Program}{b:Frame}{a:Act}{k:List Item}{cs:List Frame}{w:World}{c:Code}:step P (lone (b.atR a (.code (.scope c)::k)) cs w)=.next (lone (b.atR a (.code c:: .inScope c::k)) cs w):=
 step_lone_go (by simp[stepG,stepG.exec,Frame.atR])
theorem yX{P:Program}{b:Frame}{a:Act}{k:List Item}{cs:List Frame}{w:World}{c:Code}:step P (lone (b.atR a (.inScope c::k)) cs w)=.next (lone (b.atR a k) cs w):=
 step_lone_go (by simp[stepG,stepG.exec,Frame.atR])
theorem DY{F:Fence}{n:Nat}{P:Program}{Q:Exit->Act->World->Prop}{a:Act}{w:World}{c:Code}(h:c.wpIn F n P (Exit.noGoto Q) a w):(Code.scope c).wpIn F n P Q a w:=by
 intro b k cs hro hb hr;have h0:(lone (b.atR a (.code (.scope c)::k)) cs w).fenced P F:=fenced_calm hb hr Y;obtain⟨e,a₁,w₁,hq,Gl⟩:=h b (.inScope c::k) cs hro hb hr;cases e with
 |normal=>exact⟨.normal,a₁,w₁,hq,.head h0 je (StepsIn.trans Gl (.one (fenced_calm hb hr Y) yX))⟩
 |exit id=>
  have hx:exitTo id (.inScope c::k)=exitTo id k:=by simp[exitTo]
  exact⟨.exit id,a₁,w₁,hq,λk' hk=>.head h0 je (Gl.1 k' (by rw[hx];exact hk)),
   λhr' hk=>let ⟨k₁,h1,h2⟩:=Gl.2 hr' (by rw[hx];exact hk);⟨k₁,h1,.head h0 je h2⟩⟩
 |goto l=>exact hq.elim
 |ret=>exact⟨_,a₁,w₁,hq,.of_steps (.one h0 je) Gl⟩
 |panic ch=>exact⟨_,a₁,w₁,hq,.of_steps (.one h0 je) Gl⟩
 |outgrown=>exact⟨_,a₁,w₁,hq,.of_steps (.one h0 je) Gl⟩
def Li(Q:Exit->AS->Prop):Exit->AS->Prop
 |.goto _,_=>False
 |e,S=>Q e S
section scope
variable {P:Program}{C:Ctx}{S:AS}{Q:Exit->AS->Prop}
theorem Li.r(h:Q .ret S):Li Q .ret S:=h
theorem Li.x{id:Nat}(h:Q (.exit id) S):Li Q (.exit id) S:=h
theorem H8{c:Code}(h:Ok P C c S (Li Q)):Ok P C (.scope c) S Q:=λa w hs=>by
 refine DY (wpIn_mono (h a w hs) ?_);rintro e a' w' ⟨S',q,hh⟩;cases e<;>first|exact⟨S',q,hh⟩|exact q.elim
theorem H9{l:Nat}(h:Q .normal S):Ok P C (.label l) S Q:=λ_ _ hs=>wpIn_label ⟨S,h,hs⟩
end scope
end
end Go.Fw
namespace Go.Proofs.YtfoldppidpmchaaGreat
section
open Go.Fw
open Go.Proofs
noncomputable abbrev ah:=Tryz.prog
instance:jW ah 2 .i64:=⟨by kernel_rfl⟩
instance:nU ah 2:=⟨by kernel_rfl,by kernel_rfl⟩
instance:iX ah 2 1 8 (.int .i64 0):=⟨by kernel_rfl,by rfl,by decide,by decide⟩
instance:jW ah 3 .i64:=⟨by kernel_rfl⟩
instance:nU ah 3:=⟨by kernel_rfl,by kernel_rfl⟩
instance:gJ ah 3 (.int .i64 0):=⟨by kernel_rfl⟩
instance:iX ah 3 1 8 (.int .i64 0):=⟨by kernel_rfl,by rfl,by decide,by decide⟩
instance:Ao ah 4:=⟨by kernel_rfl⟩
instance:nU ah 4:=⟨by kernel_rfl,by kernel_rfl⟩
instance:gJ ah 4 (.bool false):=⟨by kernel_rfl⟩
instance:jW ah 5 .u8:=⟨by kernel_rfl⟩
instance:MJ ah 9:=⟨by kernel_rfl⟩
instance:nU ah 23:=⟨by kernel_rfl,by kernel_rfl⟩
instance:iX ah 23 1 24 (.slice none 0 0):=⟨by kernel_rfl,by rfl,by decide,by decide⟩
instance:eL ah 23 24 1:=⟨by kernel_rfl,by kernel_rfl⟩
instance:nU ah 24:=⟨by kernel_rfl,by kernel_rfl⟩
instance:gJ ah 24 (.slice none 0 0):=⟨by kernel_rfl⟩
instance:iX ah 24 1 24 (.slice none 0 0):=⟨by kernel_rfl,by rfl,by decide,by decide⟩
instance:eL ah 24 36 4:=⟨by kernel_rfl,by kernel_rfl⟩
instance:w5 ah 26 4:=⟨by kernel_rfl,by kernel_rfl⟩
instance:gJ ah 26 (.agg #[.int .i64 0,.slice none 0 0,.slice none 0 0,.slice none 0 0]):=⟨by kernel_rfl⟩
instance:iK ah 26 [(0,1),(1,1),(2,1),(3,1)] [.int .i64 0,.slice none 0 0,.slice none 0 0,.slice none 0 0]:=⟨by kernel_rfl,by kernel_rfl,by rfl⟩
instance:zJ ah 26 0 0 3:=⟨by kernel_rfl⟩
instance:zJ ah 26 1 1 23:=⟨by kernel_rfl⟩
instance:zJ ah 26 2 2 23:=⟨by kernel_rfl⟩
instance:zJ ah 26 3 3 24:=⟨by kernel_rfl⟩
instance:nU ah 32:=⟨by kernel_rfl,by kernel_rfl⟩
instance:gJ ah 32 (.slice none 0 0):=⟨by kernel_rfl⟩
instance:eL ah 32 106 1:=⟨by kernel_rfl,by kernel_rfl⟩
instance:w5 ah 34 2:=⟨by kernel_rfl,by kernel_rfl⟩
instance:BW ah 34:=⟨λw=>⟨1,w5.size (T:=34) (n:=2) w⟩⟩
instance:gJ ah 34 (.agg #[.bool false,.slice none 0 0]):=⟨by kernel_rfl⟩
instance:iX ah 34 2 32 (.agg #[.bool false,.slice none 0 0]):=⟨by kernel_rfl,by rfl,by decide,by decide⟩
instance:iK ah 34 [(0,1),(1,1)] [.bool false,.slice none 0 0]:=⟨by kernel_rfl,by kernel_rfl,by rfl⟩
instance:zJ ah 34 0 0 4:=⟨by kernel_rfl⟩
instance:zJ ah 34 1 1 32:=⟨by kernel_rfl⟩
instance:w5 ah 36 4:=⟨by kernel_rfl,by kernel_rfl⟩
instance:gJ ah 36 (.agg #[.bool false,.slice none 0 0,.bool false,.slice none 0 0]):=⟨by kernel_rfl⟩
instance:iX ah 36 4 64 (.agg #[.bool false,.slice none 0 0,.bool false,.slice none 0 0]):=⟨by kernel_rfl,by rfl,by decide,by decide⟩
instance:iK ah 36 [(0,2),(2,2)] [.bool false,.slice none 0 0,.bool false,.slice none 0 0]:=⟨by kernel_rfl,by kernel_rfl,by rfl⟩
instance:zJ ah 36 0 0 34:=⟨by kernel_rfl⟩
instance:zJ ah 36 1 2 34:=⟨by kernel_rfl⟩
instance:nU ah 62:=⟨by kernel_rfl,by kernel_rfl⟩
instance:iX ah 62 1 24 (.slice none 0 0):=⟨by kernel_rfl,by rfl,by decide,by decide⟩
instance:eL ah 62 2 1:=⟨by kernel_rfl,by kernel_rfl⟩
instance:w5 ah 71 4:=⟨by kernel_rfl,by kernel_rfl⟩
instance:gJ ah 71 (.agg #[.int .i64 0,.int .i64 0,.int .i64 0,.int .i64 0]):=⟨by kernel_rfl⟩
instance:iK ah 71 [(0,1),(1,1),(2,1),(3,1)] [.int .i64 0,.int .i64 0,.int .i64 0,.int .i64 0]:=⟨by kernel_rfl,by kernel_rfl,by rfl⟩
instance:zJ ah 71 0 0 3:=⟨by kernel_rfl⟩
instance:zJ ah 71 1 1 3:=⟨by kernel_rfl⟩
instance:zJ ah 71 2 2 3:=⟨by kernel_rfl⟩
instance:zJ ah 71 3 3 3:=⟨by kernel_rfl⟩
instance:nU ah 91:=⟨by kernel_rfl,by kernel_rfl⟩
instance:gJ ah 91 (.nilFunc):=⟨by kernel_rfl⟩
instance:eL ah 100 62 1:=⟨by kernel_rfl,by kernel_rfl⟩
instance:eL ah 101 23 1:=⟨by kernel_rfl,by kernel_rfl⟩
instance:jW ah 104 .u64:=⟨by kernel_rfl⟩
instance:nU ah 104:=⟨by kernel_rfl,by kernel_rfl⟩
instance:jW ah 106 .u32:=⟨by kernel_rfl⟩
instance:nU ah 106:=⟨by kernel_rfl,by kernel_rfl⟩
instance:iX ah 106 1 4 (.int .u32 0):=⟨by kernel_rfl,by rfl,by decide,by decide⟩
instance:nU ah 116:=⟨by kernel_rfl,by kernel_rfl⟩
instance:iK ah 118 [(0,1)] [.nilFunc]:=⟨by kernel_rfl,by kernel_rfl,by rfl⟩
instance:zJ ah 118 0 0 116:=⟨by kernel_rfl⟩
instance:Fk ah 119 5 118:=⟨by kernel_rfl⟩
instance:eL ah 121 34 2:=⟨by kernel_rfl,by kernel_rfl⟩
instance:eL ah 133 3 1:=⟨by kernel_rfl,by kernel_rfl⟩
instance:jW ah 140 .u64:=⟨by kernel_rfl⟩
instance:nU ah 141:=⟨by kernel_rfl,by kernel_rfl⟩
instance:gJ ah 141 (.nilFunc):=⟨by kernel_rfl⟩
instance:cZ ah 9:=⟨by kernel_rfl⟩
instance:cZ ah 10:=⟨by kernel_rfl⟩
instance:cZ ah 12:=⟨by kernel_rfl⟩
instance:cZ ah 13:=⟨by kernel_rfl⟩
instance:cZ ah 14:=⟨by kernel_rfl⟩
instance:cZ ah 16:=⟨by kernel_rfl⟩
instance:cZ ah 17:=⟨by kernel_rfl⟩
instance:cZ ah 18:=⟨by kernel_rfl⟩
instance:cZ ah 20:=⟨by kernel_rfl⟩
instance:cZ ah 21:=⟨by kernel_rfl⟩
instance:cZ ah 22:=⟨by kernel_rfl⟩
instance:cZ ah 23:=⟨by kernel_rfl⟩
instance:cZ ah 24:=⟨by kernel_rfl⟩
instance:cZ ah 32:=⟨by kernel_rfl⟩
instance:cZ ah 33:=⟨by kernel_rfl⟩
instance:cZ ah 36:=⟨by kernel_rfl⟩
instance:cZ ah 37:=⟨by kernel_rfl⟩
instance:cZ ah 39:=⟨by kernel_rfl⟩
instance:cZ ah 40:=⟨by kernel_rfl⟩
instance:cZ ah 41:=⟨by kernel_rfl⟩
instance:cZ ah 42:=⟨by kernel_rfl⟩
instance:cZ ah 43:=⟨by kernel_rfl⟩
instance:cZ ah 44:=⟨by kernel_rfl⟩
instance:cZ ah 45:=⟨by kernel_rfl⟩
instance:cZ ah 46:=⟨by kernel_rfl⟩
instance:cZ ah 48:=⟨by kernel_rfl⟩
instance:cZ ah 49:=⟨by kernel_rfl⟩
instance:cZ ah 50:=⟨by kernel_rfl⟩
instance:cZ ah 51:=⟨by kernel_rfl⟩
instance:cZ ah 54:=⟨by kernel_rfl⟩
instance:cZ ah 55:=⟨by kernel_rfl⟩
instance:cZ ah 56:=⟨by kernel_rfl⟩
instance:cZ ah 57:=⟨by kernel_rfl⟩
instance:cZ ah 58:=⟨by kernel_rfl⟩
instance:cZ ah 62:=⟨by kernel_rfl⟩
instance:cZ ah 63:=⟨by kernel_rfl⟩
instance:cZ ah 64:=⟨by kernel_rfl⟩
instance:cZ ah 65:=⟨by kernel_rfl⟩
instance:cZ ah 66:=⟨by kernel_rfl⟩
instance:cZ ah 67:=⟨by kernel_rfl⟩
instance:cZ ah 68:=⟨by kernel_rfl⟩
instance:cZ ah 76:=⟨by kernel_rfl⟩
instance:cZ ah 78:=⟨by kernel_rfl⟩
instance:cZ ah 79:=⟨by kernel_rfl⟩
instance:cZ ah 80:=⟨by kernel_rfl⟩
instance:cZ ah 81:=⟨by kernel_rfl⟩
instance:cZ ah 82:=⟨by kernel_rfl⟩
instance:cZ ah 83:=⟨by kernel_rfl⟩
instance:cZ ah 84:=⟨by kernel_rfl⟩
instance:cZ ah 85:=⟨by kernel_rfl⟩
instance:cZ ah 86:=⟨by kernel_rfl⟩
instance:cZ ah 88:=⟨by kernel_rfl⟩
instance:cZ ah 89:=⟨by kernel_rfl⟩
instance:cZ ah 90:=⟨by kernel_rfl⟩
instance:cZ ah 93:=⟨by kernel_rfl⟩
instance:cZ ah 94:=⟨by kernel_rfl⟩
instance:cZ ah 95:=⟨by kernel_rfl⟩
instance:cZ ah 96:=⟨by kernel_rfl⟩
instance:cZ ah 98:=⟨by kernel_rfl⟩
instance:cZ ah 99:=⟨by kernel_rfl⟩
instance:cZ ah 100:=⟨by kernel_rfl⟩
instance:cZ ah 101:=⟨by kernel_rfl⟩
instance:cZ ah 102:=⟨by kernel_rfl⟩
instance:cZ ah 106:=⟨by kernel_rfl⟩
instance:cZ ah 107:=⟨by kernel_rfl⟩
instance:cZ ah 108:=⟨by kernel_rfl⟩
instance:cZ ah 109:=⟨by kernel_rfl⟩
instance:cZ ah 112:=⟨by kernel_rfl⟩
instance:cZ ah 113:=⟨by kernel_rfl⟩
instance:cZ ah 114:=⟨by kernel_rfl⟩
instance:cZ ah 115:=⟨by kernel_rfl⟩
instance:cZ ah 116:=⟨by kernel_rfl⟩
instance:cZ ah 117:=⟨by kernel_rfl⟩
instance:cZ ah 118:=⟨by kernel_rfl⟩
instance:cZ ah 119:=⟨by kernel_rfl⟩
instance:cZ ah 120:=⟨by kernel_rfl⟩
instance:cZ ah 123:=⟨by kernel_rfl⟩
instance:cZ ah 124:=⟨by kernel_rfl⟩
instance:cZ ah 125:=⟨by kernel_rfl⟩
instance:cZ ah 126:=⟨by kernel_rfl⟩
instance:cZ ah 127:=⟨by kernel_rfl⟩
instance:cZ ah 128:=⟨by kernel_rfl⟩
instance:cZ ah 129:=⟨by kernel_rfl⟩
instance:cZ ah 130:=⟨by kernel_rfl⟩
instance:cZ ah 134:=⟨by kernel_rfl⟩
instance:cZ ah 135:=⟨by kernel_rfl⟩
instance:cZ ah 136:=⟨by kernel_rfl⟩
instance:cZ ah 137:=⟨by kernel_rfl⟩
instance:cZ ah 138:=⟨by kernel_rfl⟩
instance:cZ ah 139:=⟨by kernel_rfl⟩
instance:cZ ah 143:=⟨by kernel_rfl⟩
instance:cZ ah 144:=⟨by kernel_rfl⟩
instance:cZ ah 145:=⟨by kernel_rfl⟩
instance:cZ ah 146:=⟨by kernel_rfl⟩
instance:cZ ah 147:=⟨by kernel_rfl⟩
instance:cZ ah 148:=⟨by kernel_rfl⟩
instance:cZ ah 149:=⟨by kernel_rfl⟩
instance:cZ ah 151:=⟨by kernel_rfl⟩
instance:cZ ah 152:=⟨by kernel_rfl⟩
instance:cZ ah 153:=⟨by kernel_rfl⟩
instance:cZ ah 154:=⟨by kernel_rfl⟩
instance:cZ ah 157:=⟨by kernel_rfl⟩
instance:cZ ah 158:=⟨by kernel_rfl⟩
instance:cZ ah 159:=⟨by kernel_rfl⟩
instance:cZ ah 160:=⟨by kernel_rfl⟩
instance:cZ ah 161:=⟨by kernel_rfl⟩
instance:cZ ah 162:=⟨by kernel_rfl⟩
instance:cZ ah 163:=⟨by kernel_rfl⟩
instance:cZ ah 165:=⟨by kernel_rfl⟩
instance:cZ ah 166:=⟨by kernel_rfl⟩
instance:cZ ah 167:=⟨by kernel_rfl⟩
instance:cZ ah 168:=⟨by kernel_rfl⟩
instance:cZ ah 169:=⟨by kernel_rfl⟩
instance:cZ ah 170:=⟨by kernel_rfl⟩
theorem mixed:Tryz.prog.follows .mixedOrders=true:=by kernel_rfl
end
section
open Go.Fw Go.RowKit
def snap(W:World):Mem:=λb o=>(W.cell? ⟨b,o,none⟩).filter Value.oneCell'
theorem Lj(W:World):(snap W).dI W:=λ_ _ _ e=>by
 obtain⟨e1,e2⟩:=Option.filter_eq_some_iff.1 e;exact .of e1 e2
theorem Lk{W:World}{b o:Nat}{v:Value}(h:W.cell? ⟨b,o,none⟩=some v)(h1:v.oneCell'=true):snap W b o=some v:=Option.filter_eq_some_iff.2 ⟨h,h1⟩
theorem vE{H:Type}{P:Program}{ts:List TypeId}{ds:List (DataW H)}(j:Nat){t:TypeId}{d:DataW H}(h:(DataW.weightsEach P ts ds).all (· <=reachBytes)=true)(ht:ts[j]? =some t)(hd:ds[j]? =some d):(d.weights P t).all (· <=reachBytes)=true:=
 List.all_eq_true.2 λn hn=>List.all_eq_true.1 h n (DataW.weights_mem_each ht hd n hn)
theorem o6{H:Type}{P:Program}{e:TypeId}:∀{ds:List (DataW H)} {d:DataW H},d∈ds->∀n∈d.weights P e,n∈DataW.weightsAll P e ds
 |x::ds,d,h,n,hn=>by
  simp only[DataW.weightsAll,List.mem_append];rcases List.mem_cons.1 h with rfl|h
  ·exact .inl hn
  exact .inr (o6 h n hn)
class AH (P:Program) (T:TypeId) {α:Type} (e:α->List SV) (ok:outParam (α->Prop)) (sz:outParam (α->Nat)):Prop where
 h:∀{H:Type} (enc:TypeId×Value->H) (W:World) (fuel:Nat) (cs:List Value) (d:DataW H) (p:List MemPlace),DataW.trod enc P W 0 (λ_=>true) true fuel T cs=some (d,p)->(d.weights P T).all (· <=reachBytes)=true->
  ∃x:α,ok x/\SV.eE (snap W) (e x) cs/\(∀v∈cs,v.oneCell'=true)/\sz x<=Rows.uptoBulk d
section opn
variable {P:Program}{T:TypeId}
theorem DZ{k:IntKind}{n:Int}(h:(Lit.int k n).wf=true):k.min<=n/\n<=k.max:=by simpa[Lit.wf]using h
instance[t:jW P T .i64]:AH P T bG (λx=>-9223372036854775808<=x/\x<=9223372036854775807) (λ_=>1):=⟨λenc W fuel cs d p h Cj=>by
 obtain⟨n,rfl,hx,hw⟩:=DataW.trod_int t.h h;cases hx;have:=DZ hw;exact⟨n,by simpa[IntKind.min,IntKind.max,IntKind.signed,IntKind.bits]using this,⟨rfl,aq⟩,by simp[Value.oneCell'],by simp[Rows.uptoBulk]⟩⟩
instance[t:jW P T .i16]:AH P T Vq (λx=>-32768<=x/\x<=32767) (λ_=>1):=⟨λenc W fuel cs d p h Cj=>by
 obtain⟨n,rfl,hx,hw⟩:=DataW.trod_int t.h h;cases hx;have:=DZ hw;exact⟨n,by simpa[IntKind.min,IntKind.max,IntKind.signed,IntKind.bits]using this,⟨rfl,aq⟩,by simp[Value.oneCell'],by simp[Rows.uptoBulk]⟩⟩
theorem R4{k:IntKind}{M:Nat}{e:Nat->List SV}(t:jW P T k)(hk:k.min=0/\k.max=(M:Int)-1)(he:∀n:Nat,e n=[.v (.int k (n:Int))]):AH P T e (λx=>x<M) (λ_=>1):=⟨λenc W fuel cs d p h Cj=>by
 obtain⟨n,rfl,hx,hw⟩:=DataW.trod_int t.h h;cases hx;have:=DZ hw;rw[hk.1,hk.2]at this;obtain⟨m,rfl⟩:=Int.eq_ofNat_of_zero_le this.1;exact⟨m,by omega,by rw[he];exact⟨Y,aq⟩,by simp[Value.oneCell'],by simp[Rows.uptoBulk]⟩⟩
instance[t:jW P T .u32]:AH P T aY (λx=>x<4294967296) (λ_=>1):=R4 t (by decide) (λ_=>rfl)
instance[t:Ao P T]:AH P T eB (λ_=>True) (λ_=>1):=⟨λenc W fuel cs d p h Cj=>by
 obtain⟨b,rfl,hx⟩:=DataW.trod_bool t.h h;cases hx;exact⟨b,aq,⟨rfl,aq⟩,by simp[Value.oneCell'],by simp[Rows.uptoBulk]⟩⟩
theorem Ck{H α:Type}(sz:α->Nat):∀(xs:List α) (ds:List (DataW H)),xs.length=ds.length->(∀(i:Nat) (x:α) (d:DataW H),xs[i]? =some x->ds[i]? =some d->sz x<=Rows.uptoBulk d)->(xs.map sz).sum<=Rows.uptoBulkAll ds
 |[],[],_,_=>by simp
 |x::xs,d::ds,hl,h=>by
  have h1:=h 0 x d Y Y;have h2:=Ck sz xs ds (by simpa using hl) (λi x d e1 e2=>h (i+1) x d (by simpa using e1) (by simpa using e2));simp only[List.map_cons,List.sum_cons,Rows.uptoBulkAll];omega
 |[],_::_,hl,_=>by simp at hl
 |_::_,[],hl,_=>by simp at hl
instance{E:TypeId}{n:Nat}{α:Type}{e:α->List SV}{ok:α->Prop}{sz:α->Nat}{by_:Nat}{zv:Value}[t:eL P T E n][tE:iX P E n by_ zv][el:EL e n][o:AH P E e ok sz]:AH P T (eS n e) (λl=>l.length*by_<=140737488351232/\∀x∈l,ok x) (λl=>(l.map sz).sum+1):=⟨λ{H} enc W fuel cs d p h Cj=>by
 have hcell:P.cellsOf E=n:=by
  have h1:=t.size W;simp only[sizeOf,typeInfo]at h1;cases hi:P.info? E with
  |none=>simp[hi]at h1
  |some i=>simp[hi]at h1;simp[Program.cellsOf,hi,h1]
 have hml:maxLen=9223372036854775807:=by decide
 have hby:P.bytesOf E=by_:=by
  obtain⟨i,hi,_,hb,_⟩:=tE.info;rw[Program.bytesOf,hi];exact hb
 rcases Deep.open_slice t.u h with⟨rfl,hx⟩|⟨a,len,cap,m,n',D,Pl,rfl,_,hl,hm,hmm,hx,hel⟩
 ·cases hx;exact⟨[],⟨by simp,by simp⟩,⟨.inl ⟨none,rfl,rfl⟩,aq⟩,by simp[Value.oneCell'],by simp[Rows.uptoBulk]⟩
 cases hx;rw[if_pos rfl]at hmm;subst hmm;simp only[DataW.weights,t.u,List.all_cons,List.all_append,Bool.and_eq_true,List.length_map,List.length_range,decide_eq_true_eq,hby]at Cj;obtain⟨hw0,Ub,R5⟩:=Cj;have hwi:∀i,i<m->((D i).weights P E).all (· <=reachBytes)=true:=λi hi=>List.all_eq_true.2 λn hn=>by
  rcases Nat.lt_or_ge i len with q|q
  ·exact List.all_eq_true.1 Ub n (o6 (List.mem_map.2 ⟨i,List.mem_range.2 q,rfl⟩) n hn)
  exact List.all_eq_true.1 R5 n (o6 (List.mem_map.2 ⟨i-len,List.mem_range.2 (by omega),by rw[show len+(i-len)=i by omega]⟩) n hn)
 have hlb:len*by_<=140737488351232:=Nat.le_trans (Nat.mul_le_mul_right _ (Nat.le_add_right _ _)) hw0;have one:∀i,i<m->∃x,ok x/\sz x<=Rows.uptoBulk (D i)/\∃cs',W.cells? 0 (a.add (i*n)) n=some cs'/\SV.eE (snap W) (e x) cs'/\(∀v∈cs',v.oneCell'=true):=by
  intro i hi;obtain⟨cs',h1,h2⟩:=hel i hi;obtain⟨x,q1,q2,q3,q4⟩:=o.h enc W n' cs' (D i) (Pl i) h2 (hwi i hi);rw[hcell]at h1;exact⟨x,q1,q4,cs',h1,q2,q3⟩
 obtain⟨xs,Q5,hxs⟩:∃xs:List α,xs.length=len/\∀(i:Nat) (x:α),xs[i]? =some x->ok x/\sz x<=Rows.uptoBulk (D i)/\∃cs',W.cells? 0 (a.add (i*n)) n=some cs'/\SV.eE (snap W) (e x) cs'/\(∀v∈cs',v.oneCell'=true):=by
  clear h hm hel;have:∀k,k<=len->∃xs:List α,xs.length=k/\∀(i:Nat) (x:α),xs[i]? =some x->ok x/\sz x<=Rows.uptoBulk (D i)/\∃cs',W.cells? 0 (a.add (i*n)) n=some cs'/\SV.eE (snap W) (e x) cs'/\(∀v∈cs',v.oneCell'=true):=by
   intro k
   induction k with
   |zero=>intro _;exact⟨[],rfl,by simp⟩
   |succ k ih=>
    intro hk;obtain⟨xs,h1,h2⟩:=ih (by omega);obtain⟨x,hx⟩:=one k (by omega);refine⟨xs++[x],by simp[h1],λi y hy=>?_⟩;rcases Nat.lt_or_ge i k with hi|hi
    ·exact h2 i y (by rwa[List.getElem?_append_left (by omega)]at hy)
    rw[List.getElem?_append_right (by omega)]at hy;have U0:i=k:=by
     rcases Nat.lt_or_ge (i-xs.length) 1 with q|q
     ·omega
     rw[List.getElem?_eq_none (by simpa using q)]at hy;cases hy
    subst U0;rw[h1,Nat.sub_self]at hy;simp at hy;subst hy;exact hx
  exact this len (Nat.le_refl _)
 refine⟨xs,⟨by rw[Q5];exact hlb,λx hx=>?_⟩,⟨?_,aq⟩,by simp[Value.oneCell'],?_⟩
 ·obtain⟨i,hi,rfl⟩:=List.getElem_of_mem hx;exact(hxs i _ (List.getElem?_eq_getElem hi)).1
 ·by_cases h0:xs=[]
  ·subst h0;simp at Q5;subst Q5;by_cases hc0:m=0
   ·subst hc0;exact .inl ⟨_,rfl,rfl⟩
   obtain⟨x,_,_,cs',g1,g2,_⟩:=one 0 (by omega);obtain⟨_,g3,g4⟩:=World.cells?_some g1;have hn:0<n:=tE.p;have g5:=g4 0 hn;obtain⟨b,o',spot⟩:=a;have Ia:spot=none:=by
    have:∃v,W.cell? (((⟨b,o',spot⟩:Addr).add (0*n)).add 0)=some v:=by
     rw[g5];exact⟨_,List.getElem?_eq_getElem (by omega)⟩
    obtain⟨v,hv⟩:=this;simpa[Addr.add]using World.cell?_spot hv
   subst Ia;refine .inr ⟨b,o',m,rfl,by simp,by simp,λi row hr=>by simp at hr⟩
  have ri:0<len:=by
   rcases Nat.eq_zero_or_pos len with hz|hz
   ·exact absurd (List.eq_nil_of_length_eq_zero (by omega)) h0
   exact hz
  have hn:0<n:=tE.p;obtain⟨x,_,_,cs',g1,g2,_⟩:=one 0 (by omega);obtain⟨_,g3,g4⟩:=World.cells?_some g1;have g5:=g4 0 hn;obtain⟨b,o',spot⟩:=a;have Ia:spot=none:=by
   have:∃v,W.cell? (((⟨b,o',spot⟩:Addr).add (0*n)).add 0)=some v:=by
    rw[g5];exact⟨_,List.getElem?_eq_getElem (by omega)⟩
   obtain⟨v,hv⟩:=this;simpa[Addr.add]using World.cell?_spot hv
  subst Ia;refine .inr ⟨b,o',m,by rw[List.length_map,Q5],by rw[List.length_map];omega,by rw[List.length_map];omega,λi row hr=>?_⟩;rw[List.getElem?_map]at hr;cases hx:xs[i]? with
  |none=>rw[hx]at hr;cases hr
  |some y=>
   rw[hx]at hr;have hr:e y=row:=Option.some.inj hr;subst hr;obtain⟨_,_,cs2,k1,k2,k3⟩:=hxs i y hx;obtain⟨_,k4,k5⟩:=World.cells?_some k1;refine⟨el.len y,λk s hk=>?_⟩;obtain⟨u,hu,hs⟩:=k2.get hk;have hkn:k<n:=by have:=(List.getElem?_eq_some_iff.1 hu).1;omega
   have k6:=k5 k hkn;rw[fo,fo,hu]at k6;exact⟨u,Lk k6 (k3 u (List.mem_of_getElem? hu)),k3 u (List.mem_of_getElem? hu),hs⟩
 have hb:Rows.uptoBulk (DataW.slice ((List.range len).map D) ((List.range (m-len)).map λj=>D (len+j)))=Rows.uptoBulkAll ((List.range len).map D)+Rows.uptoBulkAll ((List.range (m-len)).map λj=>D (len+j))+1:=rfl;rw[hb];have:=Ck sz xs ((List.range len).map D) (by simp[Q5]) (λi x d e1 e2=>by
  have hi:i<len:=by have:=(List.getElem?_eq_some_iff.1 e1).1;omega
  simp[hi]at e2;subst e2;exact(hxs i x e1).2.1)
 omega⟩
class R6 (P:Program) (T:TypeId) (k:outParam Nat):Prop where
 h:(match P.underlying T with|some (.struct fs)=>some fs.size|_=>none)=some k
theorem AI{k:Nat}[s:R6 P T k]{H:Type}{enc:TypeId×Value->H}{W:World}{fuel:Nat}{cs:List Value}{d:DataW H}{p:List MemPlace}(h:DataW.trod enc P W 0 (λ_=>true) true fuel T cs=some (d,p))(Cj:(d.weights P T).all (· <=reachBytes)=true):
  ∃(xs:List (DataW H×List MemPlace)) (n:Nat),d=.agg (xs.map (·.1))/\cs.length=P.cellsOf T/\xs.length=k/\∀(i off:Nat) (U:TypeId),zJ P T i off U->DataW.trod enc P W 0 (λ_=>true) true n U ((cs.drop off).take (P.cellsOf U))=xs[i]? /\∀x,xs[i]? =some x->(x.1.weights P U).all (· <=reachBytes)=true:=by
 have hs:=s.h;cases hT:P.underlying T with
 |none=>rw[hT]at hs;cases hs
 |some u=>
  rw[hT]at hs;cases u with
  |struct fs=>
   have hk:fs.size=k:=Option.some.inj hs;obtain⟨xs,n,_,hx,hl,hn,hf⟩:=DataW.trod_struct hT h;have hd:=(Prod.mk.inj hx).1;subst hd;refine⟨xs,n,Y,hl,by omega,λi off U F=>?_⟩;have hF:=F.h;rw[hT]at hF;simp only at hF;cases hg:fs[i]? with
   |none=>rw[hg]at hF;cases hF
   |some f=>
    rw[hg]at hF;simp only[Option.map_some,Option.some.injEq,Prod.mk.injEq]at hF;have:=hf i f hg;rw[hF.1,hF.2]at this;refine⟨this,λx hxi=>?_⟩;simp only[DataW.weights,hT]at Cj;exact vE i Cj (by rw[List.getElem?_map,Array.getElem?_toList,hg,Option.map_some,hF.2]) (by rw[List.getElem?_map,hxi];rfl)
  |_=>cases hs
theorem Ll{α:Type}{e:α->List SV}{ok:α->Prop}{sz:α->Nat}{k:Nat}[s:R6 P T k][o:AH P T e ok sz]{H:Type}{enc:TypeId×Value->H}{W:World}{r:Reach}{base:Nat}{v:Value}{d:DataW H}{p:List MemPlace}
  (hv:Value.okWide P W r base T v) (h:DataW.Trod enc P W 0 (λ_=>true) true T v d p) (Cj:(d.weights P T).all (· <=reachBytes)=true):∃x,ok x/\sz x<=Rows.uptoBulk d/\(SV.agg (e x)).h (snap W) v:=by
 have hs:=s.h;cases hT:P.underlying T with
 |none=>rw[hT]at hs;cases hs
 |some u=>
  rw[hT]at hs;cases u with
  |struct fs=>
   obtain⟨cs,rfl,_⟩:=WideShapes.okWide_struct hT hv;obtain⟨fuel,h⟩:=h;obtain⟨x,h1,h2,_,h4⟩:=o.h enc W fuel _ d p h Cj;exact⟨x,h1,h4,cs.toList,Y,h2⟩
  |_=>cases hs
end opn
theorem Lm{f:FuncId}{vs:List Value}{svs:List SV}{W:World}(hp:Pure ah f svs (.v (.bool true)))(h:SV.eE (snap W) svs vs):
  Calls ah f ⟨vs⟩ W λe w'=>e=.returned (.bool true)/\Below W.heap.size W w':=
 (hp (snap W) W vs (Lj W) h).mono λ_ _ ⟨v,_,h1,_,_,_,h2,h3⟩=>by
  have h2:v=.bool true:=h2;exact⟨by rw[h1,h2],h3⟩
end
section
open Go.Fw Go.RowKit Go.ChangeShapes Go.WideShapes Go.ChangeAt
theorem VB:ownKnob Tryz.prog.godebug=none:=by kernel_rfl
theorem Ib:laidOutB ah=true:=by kernel_rfl
instance:R6 ah 34 2:=⟨by kernel_rfl⟩
set_option maxRecDepth 100000 in
instance:AH ah 34 eZ (λ(z:Zr)=>(True/\(z.w.length*4<=140737488351232/\∀x1∈z.w,x1<4294967296))) (λ(z:Zr)=>(1+((z.w.map λx1=>1).sum+1)+1)):=⟨λenc W fuel cs d p h Cj=>by
 obtain⟨xs,n,rfl,hl,hn,hf⟩:=AI h Cj;have hl:cs.length=2:=hl.trans (by kernel_rfl)
 match xs,hn with
 |[⟨d0,p0⟩,⟨d1,p1⟩],_=>
 match cs,hl with
 |[c0,c1],_=>
 have t0:DataW.trod enc ah W 0 (λ_=>true) true n 4 [c0]=some (d0,p0):=(by have q:=(hf 0 _ _ inferInstance).1;rw[show Tryz.prog.cellsOf 4=1 by kernel_rfl]at q;exact q);obtain⟨x0,a0,b0,e0,s0⟩:=AH.h (P:=ah) (T:=4) (e:=eB) enc W n _ d0 p0 t0 ((hf 0 _ _ inferInstance).2 _ Y);have t1:DataW.trod enc ah W 0 (λ_=>true) true n 32 [c1]=some (d1,p1):=(by have q:=(hf 1 _ _ inferInstance).1;rw[show Tryz.prog.cellsOf 32=1 by kernel_rfl]at q;exact q);obtain⟨x1,a1,b1,e1,s1⟩:=AH.h (P:=ah) (T:=32) (e:=(eS 1 aY)) enc W n _ d1 p1 t1 ((hf 1 _ _ inferInstance).2 _ Y);refine⟨⟨x0,x1⟩,⟨a0,a1⟩,⟨b0.1,b1.1,aq⟩,?_,?_⟩
 ·intro v hv;simp only[List.mem_cons,List.not_mem_nil,or_false]at hv;rcases hv with rfl|rfl
  ·exact e0 _ (by simp)
  exact e1 _ (by simp)
 simp only[List.map_cons,List.map_nil,Rows.uptoBulk,Rows.uptoBulkAll];omega⟩
instance:R6 ah 36 2:=⟨by kernel_rfl⟩
set_option maxRecDepth 100000 in
instance:AH ah 36 eQ (λ(z:Qr)=>((True/\(z.num.w.length*4<=140737488351232/\∀x1∈z.num.w,x1<4294967296))/\(True/\(z.den.w.length*4<=140737488351232/\∀x1∈z.den.w,x1<4294967296)))) (λ(z:Qr)=>((1+((z.num.w.map λx1=>1).sum+1)+1)+(1+((z.den.w.map λx1=>1).sum+1)+1)+1)):=⟨λenc W fuel cs d p h Cj=>by
 obtain⟨xs,n,rfl,hl,hn,hf⟩:=AI h Cj;have hl:cs.length=4:=hl.trans (by kernel_rfl)
 match xs,hn with
 |[⟨d0,p0⟩,⟨d1,p1⟩],_=>
 match cs,hl with
 |[c0,c1,c2,c3],_=>
 have t0:DataW.trod enc ah W 0 (λ_=>true) true n 34 [c0,c1]=some (d0,p0):=(by have q:=(hf 0 _ _ inferInstance).1;rw[show Tryz.prog.cellsOf 34=2 by kernel_rfl]at q;exact q);obtain⟨x0,a0,b0,e0,s0⟩:=AH.h (P:=ah) (T:=34) (e:=eZ) enc W n _ d0 p0 t0 ((hf 0 _ _ inferInstance).2 _ Y);have t1:DataW.trod enc ah W 0 (λ_=>true) true n 34 [c2,c3]=some (d1,p1):=(by have q:=(hf 1 _ _ inferInstance).1;rw[show Tryz.prog.cellsOf 34=2 by kernel_rfl]at q;exact q);obtain⟨x1,a1,b1,e1,s1⟩:=AH.h (P:=ah) (T:=34) (e:=eZ) enc W n _ d1 p1 t1 ((hf 1 _ _ inferInstance).2 _ Y);refine⟨⟨x0,x1⟩,⟨a0,a1⟩,⟨b0.1,b0.2.1,b1.1,b1.2.1,aq⟩,?_,?_⟩
 ·intro v hv;simp only[List.mem_cons,List.not_mem_nil,or_false]at hv;rcases hv with rfl|rfl|rfl|rfl
  ·exact e0 _ (by simp)
  ·exact e0 _ (by simp)
  ·exact e1 _ (by simp)
  exact e1 _ (by simp)
 simp only[List.map_cons,List.map_nil,Rows.uptoBulk,Rows.uptoBulkAll];omega⟩
instance:R6 ah 26 4:=⟨by kernel_rfl⟩
set_option maxRecDepth 100000 in
instance:AH ah 26 AD (λ(z:Lr)=>((-9223372036854775808<=z.vars/\z.vars<=9223372036854775807)/\(z.sP.length*24<=140737488351232/\∀x1∈z.sP,(x1.length*64<=140737488351232/\∀x2∈x1,((True/\(x2.num.w.length*4<=140737488351232/\∀x3∈x2.num.w,x3<4294967296))/\(True/\(x2.den.w.length*4<=140737488351232/\∀x3∈x2.den.w,x3<4294967296)))))/\(z.rows.length*24<=140737488351232/\∀x1∈z.rows,(x1.length*64<=140737488351232/\∀x2∈x1,((True/\(x2.num.w.length*4<=140737488351232/\∀x3∈x2.num.w,x3<4294967296))/\(True/\(x2.den.w.length*4<=140737488351232/\∀x3∈x2.den.w,x3<4294967296)))))/\(z.bounds.length*64<=140737488351232/\∀x1∈z.bounds,((True/\(x1.num.w.length*4<=140737488351232/\∀x2∈x1.num.w,x2<4294967296))/\(True/\(x1.den.w.length*4<=140737488351232/\∀x2∈x1.den.w,x2<4294967296)))))) (λ(z:Lr)=>(1+((z.sP.map λx1=>((x1.map λx2=>((1+((x2.num.w.map λx3=>1).sum+1)+1)+(1+((x2.den.w.map λx3=>1).sum+1)+1)+1)).sum+1)).sum+1)+((z.rows.map λx1=>((x1.map λx2=>((1+((x2.num.w.map λx3=>1).sum+1)+1)+(1+((x2.den.w.map λx3=>1).sum+1)+1)+1)).sum+1)).sum+1)+((z.bounds.map λx1=>((1+((x1.num.w.map λx2=>1).sum+1)+1)+(1+((x1.den.w.map λx2=>1).sum+1)+1)+1)).sum+1)+1)):=⟨λenc W fuel cs d p h Cj=>by
 obtain⟨xs,n,rfl,hl,hn,hf⟩:=AI h Cj;have hl:cs.length=4:=hl.trans (by kernel_rfl)
 match xs,hn with
 |[⟨d0,p0⟩,⟨d1,p1⟩,⟨d2,p2⟩,⟨d3,p3⟩],_=>
 match cs,hl with
 |[c0,c1,c2,c3],_=>
 have t0:DataW.trod enc ah W 0 (λ_=>true) true n 3 [c0]=some (d0,p0):=(by have q:=(hf 0 _ _ inferInstance).1;rw[show Tryz.prog.cellsOf 3=1 by kernel_rfl]at q;exact q);obtain⟨x0,a0,b0,e0,s0⟩:=AH.h (P:=ah) (T:=3) (e:=bG) enc W n _ d0 p0 t0 ((hf 0 _ _ inferInstance).2 _ Y);have t1:DataW.trod enc ah W 0 (λ_=>true) true n 23 [c1]=some (d1,p1):=(by have q:=(hf 1 _ _ inferInstance).1;rw[show Tryz.prog.cellsOf 23=1 by kernel_rfl]at q;exact q);obtain⟨x1,a1,b1,e1,s1⟩:=AH.h (P:=ah) (T:=23) (e:=(eS 1 (eS 4 eQ))) enc W n _ d1 p1 t1 ((hf 1 _ _ inferInstance).2 _ Y);have t2:DataW.trod enc ah W 0 (λ_=>true) true n 23 [c2]=some (d2,p2):=(by have q:=(hf 2 _ _ inferInstance).1;rw[show Tryz.prog.cellsOf 23=1 by kernel_rfl]at q;exact q);obtain⟨x2,a2,b2,e2,s2⟩:=AH.h (P:=ah) (T:=23) (e:=(eS 1 (eS 4 eQ))) enc W n _ d2 p2 t2 ((hf 2 _ _ inferInstance).2 _ Y);have t3:DataW.trod enc ah W 0 (λ_=>true) true n 24 [c3]=some (d3,p3):=(by have q:=(hf 3 _ _ inferInstance).1;rw[show Tryz.prog.cellsOf 24=1 by kernel_rfl]at q;exact q);obtain⟨x3,a3,b3,e3,s3⟩:=AH.h (P:=ah) (T:=24) (e:=(eS 4 eQ)) enc W n _ d3 p3 t3 ((hf 3 _ _ inferInstance).2 _ Y);refine⟨⟨x0,x1,x2,x3⟩,⟨a0,a1,a2,a3⟩,⟨b0.1,b1.1,b2.1,b3.1,aq⟩,?_,?_⟩
 ·intro v hv;simp only[List.mem_cons,List.not_mem_nil,or_false]at hv;rcases hv with rfl|rfl|rfl|rfl
  ·exact e0 _ (by simp)
  ·exact e1 _ (by simp)
  ·exact e2 _ (by simp)
  exact e3 _ (by simp)
 simp only[List.map_cons,List.map_nil,Rows.uptoBulk,Rows.uptoBulkAll];omega⟩
end
end Go.Proofs.YtfoldppidpmchaaGreat
namespace Go.Fw
section
open Go.RowKit
theorem uM{S:AS}(i o k:Nat)(E0:TypeId)(sz:Nat){T:TypeId}{cells:List AV}(hb:S.b i=some ⟨T,cells⟩)(hc:cells[o]? =some (.sv (.v (.slice none 0 0))))(hk:S.r k=.un)(RI:k<1000):
  oV S ((AS.cf [(k,.live ⟨E0,sz,0,[]⟩)] S).j0 i ⟨T,cells.set o (.row k)⟩):=by
 rintro C a w ⟨E,h⟩;have h1:=h.newRow hk RI [] none (.inl ⟨Y,Y⟩) (R':=⟨E0,sz,0,[]⟩) (World.ownsRow_nil w 0 E0 sz) (vs':=[]) trivial (.inl Y) (rJ w none);have we:(AS.cf [(k,.live ⟨E0,sz,0,[]⟩)] S).b i=some ⟨T,cells⟩:=hb;have hrk:(AS.cf [(k,.live ⟨E0,sz,0,[]⟩)] S).r k≠ .un:=by
  show(AS.oU S k _).r k≠_;rw[AS.fS];simp
 refine⟨_,{h1 with wf:=?_,bx:=λj B hB=>?_,inj:=λj j' B B' hB iI e=>?_,rx:=λj R hR=>?_}⟩
 ·refine⟨λt j hj=>?_,h1.wf.tr,λj B hB x hx m hm=>?_,λj B hB x hx m hm=>?_⟩
  ·obtain⟨B,hB⟩:=h1.wf.tb t j hj;by_cases e:j=i
   ·subst e;exact⟨_,AS.c6 _ _ _⟩
   exact⟨B,by rw[AS.bN _ _ _ _ e];exact hB⟩
  ·have key:∃B',(AS.cf [(k,.live ⟨E0,sz,0,[]⟩)] S).b m=some B':=by
    by_cases e:j=i
    ·subst e;rw[AS.c6]at hB;cases hB;rcases List.mem_or_eq_of_mem_set hx with hx|rfl
     ·exact h1.wf.bb j _ we x hx m hm
     exact hm.elim
    rw[AS.bN _ _ _ _ e]at hB;exact h1.wf.bb j B hB x hx m hm
   obtain⟨B',iI⟩:=key;by_cases e:m=i
   ·subst e;exact⟨_,AS.c6 _ _ _⟩
   exact⟨B',by rw[AS.bN _ _ _ _ e];exact iI⟩
  by_cases e:j=i
  ·subst e;rw[AS.c6]at hB;cases hB;rcases List.mem_or_eq_of_mem_set hx with hx|rfl
   ·exact h1.wf.br j _ we x hx m hm
   cases hm;exact hrk
  rw[AS.bN _ _ _ _ e]at hB;exact h1.wf.br j B hB x hx m hm
 ·by_cases e:j=i
  ·subst e;rw[AS.c6]at hB;cases hB;obtain⟨q1,q2,q3,vs,q4,q5⟩:=h1.bx j _ we;refine⟨q1,q2,q3,vs,q4,?_⟩;obtain⟨x,hx,hv⟩:=q5.get hc;have hv:x=.slice none 0 0:=hv;have:=dm.set (i:=o) (s:=.row k) (x:=x) q5 (by
    show x=if k=k then _ else _;rw[if_pos rfl];exact hv)
   have he:vs.set o x=vs:=by
    apply List.ext_getElem?;intro n;rw[List.getElem?_set];split
    ·rename_i hn;subst hn;rw[hx];split<;>rename_i hl
     ·rfl
     have:=(List.getElem?_eq_some_iff.1 hx).1;exact absurd this hl
    rfl
   rwa[he]at this
  rw[AS.bN _ _ _ _ e]at hB;exact h1.bx j B hB
 ·have old:∀n B,((AS.cf [(k,.live ⟨E0,sz,0,[]⟩)] S).j0 i ⟨T,cells.set o (.row k)⟩).b n=some B->∃B',(AS.cf [(k,.live ⟨E0,sz,0,[]⟩)] S).b n=some B':=λn B hn=>by
   by_cases e:n=i
   ·subst e;exact⟨_,we⟩
   rw[AS.bN _ _ _ _ e]at hn;exact⟨B,hn⟩
  obtain⟨B1,p1⟩:=old j B hB;obtain⟨B2,p2⟩:=old j' B' iI;exact h1.inj j j' B1 B2 p1 p2 e
 obtain⟨p1,p2⟩:=h1.rx j R hR;refine⟨p1,λg hg=>?_⟩;obtain⟨p3,p4,p5,p6⟩:=p2 g hg;refine⟨p3,p4,p5,λn B hn=>?_⟩;by_cases e:n=i
 ·subst e;exact p6 n _ we
 rw[AS.bN _ _ _ _ e]at hn;exact p6 n B hn
end
section
open Go.RowKit
section part
variable {P:Program}{C:Ctx}{ops:Array Oper}{acts:List Ac}{S:AS}
def sS(ops:Array Oper)(m:Nat)(acts:List Ac):Bool:=
 let b:=Region.before ops
 (acts.length==m)&&(decide (m<=ops.size))&&
 (ops.toList.zipIdx.all λ(o,j)=>o.after.all λe=>!Region.binds .any e||decide (e.on<j))&&
 (acts.zipIdx.all λ(y,j)=>acts.zipIdx.all λ(x,i)=>!(decide (i<j))|| !(x.jV y)||(b.getD j 0).testBit i)&&
 ((List.range ops.size).all λj=>!(decide (m<=j))||(List.range j).all λi=>(b.getD j 0).testBit i)
theorem o7{m:Nat}(h:sS ops m acts=true):acts.length=m/\m<=ops.size/\
  (∀(j:Nat) (o:Oper),ops[j]? =some o->∀e∈o.after,Region.binds .any e=true->e.on<j)/\
  (∀(i j:Nat) (x y:Ac),acts[i]? =some x->acts[j]? =some y->i<j->x.jV y=true->((Region.before ops).getD j 0).testBit i=true)/\
  (∀i j:Nat,m<=j->j<ops.size->i<j->((Region.before ops).getD j 0).testBit i=true):=by
 simp only[sS,Bool.and_eq_true,beq_iff_eq,List.all_eq_true,decide_eq_true_eq]at h;obtain⟨⟨⟨⟨h1,h0⟩,h2⟩,h3⟩,h4⟩:=h;refine⟨h1,h0,?_,?_,?_⟩
 ·intro j o ho e he hb;have:=h2 (o,j) (List.mem_zipIdx_iff_getElem?.2 (by simpa using ho));simp only[Array.all_eq_true_iff_forall_mem]at this;have:=this e he;simpa[hb]using this
 ·intro i j x y hx hy hij hc;have:=h3 (y,j) (List.mem_zipIdx_iff_getElem?.2 (by simpa using hy)) (x,i) (List.mem_zipIdx_iff_getElem?.2 (by simpa using hx));simpa[hij,hc]using this
 intro i j hm hj hij;have:=h4 j (List.mem_range.2 hj);simp only[hm,decide_true,Bool.not_true,Bool.false_or,List.all_eq_true]at this;exact this i (List.mem_range.2 hij)
theorem jv(listed:Array Bool)(i:Nat)(hs:listed.size=ops.size)(hi:i<ops.size):listed.getD i true=listed.getD i false:=by
 rw[Array.getD_eq_getD_getElem?,Array.getD_eq_getD_getElem?];rw[Array.getElem?_eq_getElem (by omega)];rfl
theorem xA(sE:∀(j:Nat) (o:Oper),ops[j]? =some o->∀e∈o.after,Region.binds .any e=true->e.on<j)(listed:Array Bool)(hs:listed.size=ops.size)(hr:Region.ready .any ops listed=[]):∀i,i<ops.size->listed.getD i false=true:=by
 intro i
 induction i using Nat.strongRecOn with
 |_ i ih=>
  intro hi;cases DK:listed.getD i false with
  |true=>rfl
  |false=>
   exfalso;have:i∈Region.ready .any ops listed:=by
    simp only[Region.ready,List.mem_filter,List.mem_range];refine⟨hi,?_⟩;rw[jv listed i hs hi,DK,Array.getElem?_eq_getElem hi];simp only[Bool.not_false,Bool.true_and,Option.map_some,Option.getD_some,Array.all_eq_true_iff_forall_mem];intro e he;cases hb:Region.binds .any e with
    |false=>rfl
    |true=>
     have hlt:=sE i ops[i] (Array.getElem?_eq_getElem hi) e he hb;rw[ih e.on hlt (by omega)];rfl
   rw[hr]at this;simp at this
theorem vF{listed:Array Bool}(hs:listed.size=ops.size)(hD:Down ops (λi=>listed.getD i false)){i:Nat}(hi:i∈Region.ready .any ops listed):
  ∃h:i<ops.size,listed.getD i false=false/\(∀m,(listed.setIfInBounds i true).getD m false=if m=i then true else listed.getD m false)/\Down ops (λm=>(listed.setIfInBounds i true).getD m false):=by
 simp only[Region.ready,List.mem_filter,List.mem_range,Bool.and_eq_true,Bool.not_eq_true']at hi;obtain⟨hi,DK,hpre⟩:=hi;have yS:listed.getD i false=false:=by rw[<-jv listed i hs hi];exact DK
 have ho:ops[i]? =some ops[i]:=Array.getElem?_eq_getElem hi;have Hq:∀e∈ops[i].after,Region.binds .any e=true->listed.getD e.on false=true:=by
  rw[ho]at hpre;simp only[Option.map_some,Option.getD_some,Array.all_eq_true_iff_forall_mem]at hpre;intro e he hb;have:=hpre e he;simpa[hb]using this
 have dK:∀m,(listed.setIfInBounds i true).getD m false=if m=i then true else listed.getD m false:=by
  intro m;rw[Array.getD_eq_getD_getElem?,Array.getElem?_setIfInBounds];by_cases hm:m=i
  ·subst hm;simp[hs,hi]
  rw[if_neg (by omega),if_neg hm,Array.getD_eq_getD_getElem?]
 refine⟨hi,yS,dK,?_⟩;intro j o hj hl e he hb;simp only[dK]at hl⊢;by_cases hji:j=i
 ·subst hji;have:o=ops[j]:=by rw[ho]at hj;exact(Option.some.inj hj).symm
  subst this;have:=Hq e he hb;split<;>simp_all
 rw[if_neg hji]at hl;have:=hD j o hj hl e he hb;split<;>simp_all
theorem AJ{m:Nat}(sE:∀(j:Nat) (o:Oper),ops[j]? =some o->∀e∈o.after,Region.binds .any e=true->e.on<j)
  (Cm:∀i j:Nat,m<=j->j<ops.size->i<j->((Region.before ops).getD j 0).testBit i=true) {Q:Exit->Act->World->Prop} {R:AS->Prop} (hQ:∀S a w,R S->S.holds C a w->Q .normal a w):
  ∀(fuel k:Nat) (listed:Array Bool) (a:Act) (w:World) (S:AS) (acc:List Ac),m<=k->k<=ops.size->listed.size=ops.size->(∀i,i<ops.size->listed.getD i false=decide (i<k))->ops.size-k<=fuel->Down ops (λi=>listed.getD i false)->
   RunT P C ops true (λ_ S=>R S) (ops.toList.drop k) acc S->S.holds C a w->wpAnyIn (Fr C.ro) 0 P .any ops Q fuel listed a w:=by
 intro fuel
 induction fuel with
 |zero=>
  intro k listed a w S acc hm hk hs hl hf hD hR hh;obtain rfl:k=ops.size:=by omega
  rw[show ops.toList.drop ops.size=[] by simp]at hR;refine⟨?_,hQ S a w hR hh⟩;simp only[Region.ready,List.filter_eq_nil_iff,List.mem_range];intro i hi;rw[jv listed i hs hi,hl i hi,decide_eq_true hi];simp
 |succ fuel ih=>
  intro k listed a w S acc hm hk hs hl hf hD hR hh;refine⟨λhr=>?_,λi hi=>?_⟩
  ·have hall:=xA sE listed hs hr;obtain rfl:k=ops.size:=by
    rcases Nat.lt_or_ge k ops.size with h|h
    ·have:=hall k h;rw[hl k h]at this;simp at this
    omega
   rw[show ops.toList.drop ops.size=[] by simp]at hR;exact hQ S a w hR hh
  obtain⟨hi,DK,dK,KG⟩:=vF hs hD hi;have KH:i=k:=by
   have h1:¬i<k:=by rw[hl i hi]at DK;simpa using DK
   rcases Nat.lt_or_ge k i with h|h
   ·have hb:=Cm k i (by omega) hi h;have:=jd KG i k hb (by simp[dK]);rw[dK,if_neg (by omega),hl k (by omega)]at this;simp at this
   omega
  subst KH;have ho:ops[i]? =some ops[i]:=Array.getElem?_eq_getElem hi;have R7:ops.toList.drop i=ops[i]::ops.toList.drop (i+1):=by
   rw[List.drop_eq_getElem_cons (by simpa using hi)];simp
  rw[R7]at hR;have next:∀(S':AS) (acc':List Ac) (a':Act) (w':World),RunT P C ops true (λ_ S=>R S) (ops.toList.drop (i+1)) acc' S'->S'.holds C a' w'->wpAnyIn (Fr C.ro) 0 P .any ops Q fuel (listed.setIfInBounds i true) a' w':=by
   intro S' acc' a' w' h1 h2;refine ih (i+1) _ a' w' S' acc' (by omega) hi (by simp[hs]) (λj hj=>?_) (by omega) KG h1 h2;rw[dK];by_cases hji:j=i
   ·rw[if_pos hji];simp[hji]
   rw[if_neg hji,hl j hj,decide_eq_decide];omega
  rcases hR with⟨rs,rb,rr,e,hop,Ic⟩|⟨_,Post,hop,Ic⟩
  ·exact hop S rfl (λ_ _=>rfl) (λ_ _=>rfl) (λ_ _=>rfl) i a w _ Q ho hh (λa' w' OI=>next _ _ a' w' Ic OI)
  exact hop i a w _ Q ho hh (λS' a' w' hp OI=>next S' [] a' w' (Ic S' hp) OI)
theorem AK{m:Nat}(hT:Hl P C ops acts S)(yR:sS ops m acts=true){Q:Exit->Act->World->Prop}
  (hQ:∀(fuel:Nat) (listed:Array Bool) a w,listed.size=ops.size->(∀i,i<ops.size->listed.getD i false=decide (i<m))->ops.size-m<=fuel->Down ops (λi=>listed.getD i false)->(ov S (bT acts) (λ_=>true) m).holds C a w->wpAnyIn (Fr C.ro) 0 P .any ops Q fuel listed a w):
  ∀(fuel:Nat) (listed:Array Bool) (a:Act) (w:World),listed.size=ops.size->Ho ops.size listed<=fuel->Down ops (λi=>listed.getD i false)->(∀i,listed.getD i false=true->i<m)->
   (ov S (bT acts) (λi=>listed.getD i false) m).holds C a w->wpAnyIn (Fr C.ro) 0 P .any ops Q fuel listed a w:=by
 obtain⟨hlen,hmn,sE,uC,Cm⟩:=o7 yR;have whole:∀(fuel:Nat) (listed:Array Bool) (a:Act) (w:World),listed.size=ops.size->Ho ops.size listed<=fuel->Down ops (λi=>listed.getD i false)->(∀i,listed.getD i false=true->i<m)->
   (ov S (bT acts) (λi=>listed.getD i false) m).holds C a w->(∀i,i<m->listed.getD i false=true)->wpAnyIn (Fr C.ro) 0 P .any ops Q fuel listed a w:=by
  intro fuel listed a w hs hu hD hL hh hall;refine hQ fuel listed a w hs (λi hi=>?_) ?_ hD ?_
  ·by_cases h:i<m
   ·rw[hall i h,decide_eq_true h]
   rw[decide_eq_false h];cases e:listed.getD i false with
   |false=>rfl
   |true=>exact absurd (hL i e) h
  ·have hsub:(List.range ops.size).filter (λi=>!decide (i<m))=(List.range ops.size).filter λi=>!listed.getD i true:=by
    apply List.filter_congr;intro i hi;have hi:=List.mem_range.1 hi;rw[jv listed i hs hi];by_cases h:i<m
    ·rw[hall i h,decide_eq_true h]
    rw[decide_eq_false h];cases e:listed.getD i false with
    |false=>rfl
    |true=>exact absurd (hL i e) h
   have Pa:∀n,m<=n->((List.range n).filter (λi=>!decide (i<m))).length=n-m:=by
    intro n
    induction n with
    |zero=>intro h;simp
    |succ n ih=>
     intro h;rw[List.range_succ,List.filter_append,List.length_append];rcases Nat.lt_or_ge n m with q|q
     ·obtain rfl:m=n+1:=by omega
      have h1:((List.range n).filter (λi=>!decide (i<n+1)))=[]:=by
       rw[List.filter_eq_nil_iff];intro i hi;have:=List.mem_range.1 hi;simp;omega
      rw[h1];simp
     rw[ih q,List.filter_cons,decide_eq_false (by omega:¬n<m)];simp;omega
   have h2:Ho ops.size listed=ops.size-m:=by unfold Ho;rw[<-hsub,Pa _ hmn]
   omega
  rwa[kJ S (bT acts) (L:=λi=>listed.getD i false) (L':=λ_=>true) m hall]at hh
 intro fuel
 induction fuel with
 |zero=>
  intro listed a w hs hu hD hL hh;refine whole 0 listed a w hs hu hD hL hh (λi hi=>?_);cases DK:listed.getD i false with
  |true=>rfl
  |false=>
   exfalso;have hm:i∈(List.range ops.size).filter λi=>!listed.getD i true:=by
    rw[List.mem_filter];exact⟨List.mem_range.2 (by omega),by rw[jv listed i hs (by omega),DK];rfl⟩
   have:0<Ho ops.size listed:=List.length_pos_of_mem hm;omega
 |succ fuel ih=>
  intro listed a w hs hu hD hL hh;by_cases hall:∀i,i<m->listed.getD i false=true
  ·exact whole _ listed a w hs hu hD hL hh hall
  have hex:∃i,i<m/\listed.getD i false=false:=Classical.byContradiction (λhc=>hall (λi hi=>by
   cases e:listed.getD i false with
   |true=>rfl
   |false=>exact absurd ⟨i,hi,e⟩ hc))
  obtain⟨i0,MX,Q3⟩:=hex;refine⟨λhr=>?_,λi hi=>?_⟩
  ·have:=xA sE listed hs hr i0 (by omega);rw[Q3]at this;cases this
  have hi':=hi;obtain⟨hi,yS,dK,KG⟩:=vF hs hD hi;have ho:ops[i]? =some ops[i]:=Array.getElem?_eq_getElem hi;have him:i<m:=by
   rcases Nat.lt_or_ge i m with h|h
   ·exact h
   have hb:=Cm i0 i h hi (by omega);have:=jd KG i i0 hb (by simp[dK]);rw[dK,if_neg (by omega),Q3]at this;cases this
  have KF:i<acts.length:=by omega
  have hx:acts[i]? =some acts[i]:=List.getElem?_eq_getElem KF;have OH:bT acts i=acts[i].e:=by simp[bT,KF]
  have later:∀k,i<k->listed.getD k false=true->(acts[i]).jV ((acts[k]?).getD ⟨[],[],[],⟨none,[],[]⟩⟩)=false:=by
   intro k hk hlk;have hkn:k<m:=hL k hlk;have hka:acts[k]? =some acts[k]:=List.getElem?_eq_getElem (by omega);rw[hka,Option.getD_some];cases hc:(acts[i]).jV acts[k]with
   |false=>rfl
   |true=>
    have hb:=uC i k _ _ hx hka hk hc;have:=jd hD k i hb hlk;simp only[yS]at this;exact absurd this (by simp)
  have Al:∀k,k<i->listed.getD k false=false->((acts[k]?).getD ⟨[],[],[],⟨none,[],[]⟩⟩).jV acts[i]=false:=by
   intro k hk hlk;have hka:acts[k]? =some acts[k]:=List.getElem?_eq_getElem (by omega);rw[hka,Option.getD_some];cases hc:(acts[k]).jV acts[i]with
   |false=>rfl
   |true=>
    have hb:=uC k i _ _ hka hx hk hc;have:=jd KG i k hb (by simp[dK]);rw[dK,if_neg (by omega),hlk]at this;exact absurd this (by simp)
  have DL:∀k,((acts[k]?).getD ⟨[],[],[],⟨none,[],[]⟩⟩).e=bT acts k:=by
   intro k;unfold bT;cases acts[k]? <;>rfl
  have gb:∀{x y:Ac},x.jV y=false->(∀d∈x.e.ks,d∉y.rs/\d∉y.e.ks)/\(∀d∈y.e.ks,d∉x.rs)/\(∀d∈x.e.kb,d∉y.rb/\d∉y.e.kb)/\(∀d∈y.e.kb,d∉x.rb)/\(∀d∈x.e.kr,d∉y.rr/\d∉y.e.kr)/\(∀d∈y.e.kr,d∉x.rr):=by
   intro x y h;simp only[Ac.jV,Bool.or_eq_false_iff]at h;exact⟨ep h.1.1.1.1.1,λd hd=>(ep h.1.1.1.1.2 d hd).1,ep h.1.1.1.2,λd hd=>(ep h.1.1.2 d hd).1,ep h.1.2,λd hd=>(ep h.2 d hd).1⟩
  have look:∀{α:Type} (get:AS->Nat->α) (wr:mZ->Nat->Option α) (dK:∀S e s,get (S.app e) s=(wr e s).getD (get S s)) (rk:Ac->List Nat) (wk:mZ->List Nat)
    (hk:∀e s,wr e s≠none->s∈wk e) (c1:∀x y:Ac,x.jV y=false->(∀d∈wk x.e,d∉rk y)/\(∀d∈wk y.e,d∉rk x)),∀s∈rk acts[i],
    get (ov S (bT acts) (λq=>listed.getD q false) m) s=get (ov S (bT acts) (λ_=>true) i) s:=by
   intro α get wr dK rk wk hk c1 s yT;rw[EZ get wr dK S (bT acts) _ s i m (by omega)]
   ·refine BR get wr dK S (bT acts) _ _ s i λm hm hw=>?_;cases zI:listed.getD m false with
    |true=>rfl
    |false=>
     have:=(c1 _ _ (Al m hm zI)).1 s (by rw[DL];exact hk _ _ hw);exact absurd yT this
   intro m hm1 UL zI;cases hw:wr (bT acts m) s with
   |none=>rfl
   |some x=>
    exfalso;rcases Nat.lt_or_ge i m with h|h
    ·have:=(c1 _ _ (later m h zI)).2 s (by rw[DL];exact hk _ _ (by rw[hw];simp));exact this yT
    obtain rfl:m=i:=by omega
    simp only[yS]at zI;exact absurd zI (by simp)
  refine hT i ops[i] acts[i] ho hx (ov S (bT acts) (λq=>listed.getD q false) m) (by rw[Hj,Hj]) ?_ ?_ ?_ i a w _ Q ho hh ?_
  ·exact look AS.t wT AS.BN Ac.rs mZ.ks (λ_ _ h=>Ak h) (λx y h=>⟨λd hd=>((gb h).1 d hd).1,(gb h).2.1⟩)
  ·exact look AS.b (λe=>nD e.bx) AS.BO Ac.rb mZ.kb (λ_ _ h=>nE h) (λx y h=>⟨λd hd=>((gb h).2.2.1 d hd).1,(gb h).2.2.2.1⟩)
  ·exact look AS.r (λe=>fm e.rw) AS.BP Ac.rr mZ.kr (λ_ _ h=>nF h) (λx y h=>⟨λd hd=>((gb h).2.2.2.2.1 d hd).1,(gb h).2.2.2.2.2⟩)
  intro a' w' OI;refine ih (listed.setIfInBounds i true) a' w' (by simp[hs]) ?_ KG ?_ ?_
  ·have:=Hp hi hs (by rw[jv listed i hs hi];exact yS);omega
  ·intro k hk;rw[dK]at hk;by_cases KH:k=i
   ·omega
   rw[if_neg KH]at hk;exact hL k hk
  have heq:ov S (bT acts) (λq=>(listed.setIfInBounds i true).getD q false) m=(ov S (bT acts) (λq=>listed.getD q false) m).app acts[i].e:=by
   have UM:∀k,k<=i->ov S (bT acts) (λq=>(listed.setIfInBounds i true).getD q false) k=ov S (bT acts) (λq=>listed.getD q false) k:=λk hk=>
    kJ S (bT acts) k (λm hm=>by rw[dK,if_neg (by omega)])
   have step:∀k,i<k->k<=m->ov S (bT acts) (λq=>(listed.setIfInBounds i true).getD q false) k=(ov S (bT acts) (λq=>listed.getD q false) k).app acts[i].e:=by
    intro k hk hkn
    induction k with
    |zero=>omega
    |succ k UN=>
     by_cases KH:k=i
     ·subst KH;show(if(listed.setIfInBounds k true).getD k false then _ else _)=AS.app (if listed.getD k false then _ else _) _;rw[dK,if_pos Y,if_pos Y,yS,UM k (Nat.le_refl _),OH];rfl
     have ih2:=UN (by omega) (by omega);show(if(listed.setIfInBounds i true).getD k false then(ov S (bT acts) (λq=>(listed.setIfInBounds i true).getD q false) k).app (bT acts k)else ov S (bT acts) (λq=>(listed.setIfInBounds i true).getD q false) k)=AS.app (if listed.getD k false then(ov S (bT acts) (λq=>listed.getD q false) k).app (bT acts k)else ov S (bT acts) (λq=>listed.getD q false) k) _;rw[dK,if_neg KH,ih2];cases hlk:listed.getD k false with
     |false=>rfl
     |true=>
      rw[if_pos Y,if_pos rfl];have hc:=gb (later k (by omega) hlk);rw[DL]at hc;have two:∀{α:Type} (get:AS->Nat->α) (wr:mZ->Nat->Option α) (dK:∀S e s,get (S.app e) s=(wr e s).getD (get S s)) (wk:mZ->List Nat) (hk:∀e s,wr e s≠none->s∈wk e)
        (c1:∀d∈wk acts[i].e,d∉wk (bT acts k)) (T:AS) (s:Nat),get ((T.app acts[i].e).app (bT acts k)) s=get ((T.app (bT acts k)).app acts[i].e) s:=by
       intro α get wr dK wk hk c1 T s;rw[dK,dK,dK,dK];cases h1:wr acts[i].e s with
       |none=>rfl
       |some x=>
        cases h2:wr (bT acts k) s with
        |none=>rfl
        |some y=>exact absurd (hk _ s (by rw[h2];simp)) (c1 s (hk _ s (by rw[h1];simp)))
      refine AS.ext' (by simp[AS.Hi]) (λs=>?_) (λs=>?_) (λs=>?_) (by simp[AS.zH]) (by simp[AS.zH])
      ·exact two AS.t wT AS.BN mZ.ks (λ_ _ h=>Ak h) (λd hd=>(hc.1 d hd).2) _ s
      ·exact two AS.b (λe=>nD e.bx) AS.BO mZ.kb (λ_ _ h=>nE h) (λd hd=>(hc.2.2.1 d hd).2) _ s
      exact two AS.r (λe=>fm e.rw) AS.BP mZ.kr (λ_ _ h=>nF h) (λd hd=>(hc.2.2.2.2.1 d hd).2) _ s
   exact step m him (Nat.le_refl _)
  rw[heq];exact OI
end part
theorem Gm{P:Program}{C:Ctx}{ops:Array Oper}{K:List Ac->AS->Prop}(rest:List Oper)(S:AS)(h:RunT P C ops false K rest [] S):
  ∃xs:List Ac,xs.length=rest.length/\(∀(i:Nat) (o:Oper) (x:Ac),rest[i]? =some o->xs[i]? =some x->KE P C ops o x.rs x.rb x.rr (ov S (bT xs) (λ_=>true) i) x.e)/\K xs.reverse (ov S (bT xs) (λ_=>true) rest.length):=by
 obtain⟨xs,h1,h2,h3⟩:=uD rest [] S h;exact⟨xs,h1,h2,by simpa using h3⟩
theorem xB{P:Program}{C:Ctx}{id:Nat}{ops:Array Oper}{S:AS}{Q:Exit->AS->Prop}(m:Nat)(hm:P.follows .mixedOrders=true)
  (h:RunT P C ops false (λacc S=>sS ops m acc.reverse=true/\RunT P C ops true (λ_ S=>Q .normal S) (ops.toList.drop m) [] S) (ops.toList.take m) [] S):Ok P C (.region id ops true) S Q:=λa w hs=>by
 obtain⟨xs,hl,hxs,yR,hq⟩:=Gm _ _ h;rw[List.reverse_reverse]at yR;obtain⟨hlen,hmn,sE,uC,Cm⟩:=o7 yR;have zI:(ops.toList.take m).length=m:=by simp;omega
 rw[zI]at hq;refine wpIn_region_any hm ?_;refine AK (acts:=xs) (S:=S) (m:=m) (λi o x ho hx=>hxs i o x ?_ hx) yR (λfuel listed a w h1 h2 h3 h4 h5=>AJ (m:=m) sE Cm (R:=λS=>Q .normal S) (λS a w hR hh=>⟨S,hR,hh⟩) fuel m listed a w _ [] (Nat.le_refl _) hmn h1 h2 h3 h4 hq h5) ops.size _ a _ (by simp) ?_ ?_ ?_ ?_
 ·have hi:i<m:=by
   have:=(List.getElem?_eq_some_iff.1 hx).1;omega
  rw[List.getElem?_take_of_lt hi];simpa using ho
 ·have:=List.length_filter_le (λi=>!(Array.replicate ops.size false).getD i true) (List.range ops.size);simpa[Ho]using this
 ·intro j o _ hj;exfalso;simp only[Array.getD_eq_getD_getElem?,Array.getElem?_replicate]at hj;split at hj<;>simp at hj
 ·intro i hi;exfalso;simp only[Array.getD_eq_getD_getElem?,Array.getElem?_replicate]at hi;split at hi<;>simp at hi
 rw[kJ S (bT xs) (L':=λ_=>false) m (λi hi=>by rw[Array.getD_eq_getD_getElem?,Array.getElem?_replicate];split<;>rfl)];have:∀k,ov S (bT xs) (λ_=>false) k=S:=by
  intro k;induction k with
  |zero=>rfl
  |succ k ih=>simpa[ov]using ih
 rw[this];exact hs.drew
end
end Go.Fw
namespace Go.Fw.Z
section
open Go.Fw
theorem T{d n:Nat}(h:Nat.ble (d+1) n=true:=by exact rfl):d<n:=tl h
theorem bE{α β:Type}{x:Option α}{f:α->Option β}{r:β}{G:Prop}(h:Option.bind x f=some r)(k:∀a,x=some a->f a=some r->G):G:=by obtain⟨a,h1,h2⟩:=bind_some h;exact k a h1 h2
theorem lE{α β:Type}{v:α}{f:α->Option β}{r:β}{G:Prop}(h:Option.bind (some v) f=some r)(k:∀a,v=a->f a=some r->G):G:=k v Y h
theorem bS{α β:Type}{x:Option α}{f:α->Option β}{r:β}(h:Option.bind x f=some r):∃a,x=some a/\f a=some r:=bind_some h
theorem F{α:Type}{x y:Option α}{r:α}(h:(bif false then x else y)=some r):y=some r:=h
theorem V{α:Type}{x y:Option α}{r:α}(h:(bif true then x else y)=some r):x=some r:=h
theorem O{α:Type}{a b:α}(h:some a=some b):a=b:=Option.some.inj h
def vB(l:List (Nat×Nat))(i:Nat):Nat:=((l.find? λp=>Nat.beq p.1 i).map (·.2)).getD i
def Uc(l:List (Nat×Nat)):AV->AV
 |.row i=>.row (vB l i)
 |.lC i o n=>.lC (vB l i) o n
 |x=>x
def Ud:AV->Bool
 |.gI _ _=>false
 |.cmp _ _=>false
 |_=>true
theorem avi(l:List (Nat×Nat)){x:AV}(h:Ud x=true):Gb (vB l) (Uc l x) x:=by
 cases x with
 |sv s=>exact .sv au
 |ptr i o=>exact .ptr
 |BL i o n c=>exact .BL
 |row i=>exact .row Y
 |gI i k=>cases h
 |lC i o n=>exact .lC Y
 |eT g js=>exact .eT
 |cmp t js=>cases h
theorem R8(l:List (Nat×Nat)):∀{xs:List AV},(xs.all Ud)=true->DQ (vB l) (xs.map (Uc l)) xs
 |[],_=>trivial
 |x::xs,h=>by simp only[List.all_cons,Bool.and_eq_true]at h;exact⟨avi l h.1,R8 l h.2⟩
theorem wR(l:List (Nat×Nat)){S:AS}{n:Nat}{ts:List (Nat×AV)}{bs:List (Nat×mY)}{rs:List (Nat×Row)}{g:Nat}{go:Bool}
  (ht:ts.map (λp=>S.t p.1)=ts.map (λp=>Uc l p.2):=by exact rfl) (hb:bs.map (λp=>S.b p.1)=bs.map (λp=>some ⟨p.2.T,p.2.cells.map (Uc l)⟩):=by exact rfl) (hr:rs.map (λp=>S.r (vB l p.1))=rs.map (λp=>.live p.2):=by exact rfl)
  (hn:S.n=n:=by exact rfl) (hg:S.g=g:=by exact rfl) (DE:S.go=go:=by exact rfl)
  (hwf:((ts.all λp=>p.2.nq bs rs)&&(bs.all λp=>p.2.cells.all λx=>x.nq bs rs))=true:=by exact rfl) (hσ:((rs.all λp=>rs.all λq=>!(Nat.beq (vB l p.1) (vB l q.1))||Nat.beq p.1 q.1))=true:=by exact rfl)
  (hno:((ts.all λp=>Ud p.2)&&(bs.all λp=>p.2.cells.all Ud))=true:=by exact rfl) (hl:(l.all λp=>Nat.ble (p.1+1) 1000)=true:=by exact rfl):oV S (AS.ct n ts bs rs g go):=by
 simp only[Bool.and_eq_true,List.all_eq_true]at hno;refine c8 (vB l) hn hg DE hwf hσ ?_ ?_ ?_ ?_
 ·clear hwf hb hr;obtain⟨h,-⟩:=hno
  induction ts with
  |nil=>trivial
  |cons p ts ih=>
   obtain⟨k,x⟩:=p;simp only[List.map_cons,List.cons.injEq]at ht;refine⟨?_,ih ht.2 (λq hq=>h q (by simp[hq]))⟩;show Gb _ (S.t k) x;rw[ht.1];exact avi l (h (k,x) (by simp))
 ·clear hwf ht hr;obtain⟨-,h⟩:=hno
  induction bs with
  |nil=>trivial
  |cons p bs ih=>
   obtain⟨k,x⟩:=p;simp only[List.map_cons,List.cons.injEq]at hb;exact⟨⟨_,hb.1,R8 l (List.all_eq_true.2 (h (k,x) (by simp)))⟩,ih hb.2 (λq hq=>h q (by simp[hq]))⟩
 ·clear hwf ht hb hσ
  induction rs with
  |nil=>trivial
  |cons p rs ih=>
   obtain⟨k,x⟩:=p;simp only[List.map_cons,List.cons.injEq]at hr;exact⟨⟨_,hr.1,ff.refl _⟩,ih hr.2⟩
 intro i hi;unfold vB;have:l.find? (λp=>Nat.beq p.1 i)=none:=by
  rw[List.find?_eq_none];intro p hp e;have h1:=af (List.all_eq_true.1 hl p hp);have h2:=Nat.eq_of_beq_eq_true e;omega
 rw[this];rfl
section
variable {P:Program}{C:Ctx}{S:AS}{Q:Exit->AS->Prop}
theorem qq{x y:Code}(h:Ok P C x S (aV (λS'=>Ok P C y S' Q) Q)):Ok P C (.seq x y) S Q:=bz h
theorem sr{id:Nat}{ops:Array Oper}{y:Code}(h:RunT P C ops true (λ_ S=>aV (λS'=>Ok P C y S' Q) Q .normal S) ops.toList [] S):Ok P C (.seq (.region id ops false) y) S Q:=bz (aW h)
theorem dn{ops:Array Oper}{acc:List Ac}{next:AS->Prop}(h:next S):RunT P C ops true (λ_ S=>aV next Q .normal S) [] acc S:=h
theorem cF{c:Operand}{x y:Code}(hf:Ok P C y S Q)(hc:S.ev c=.sv (.v (.bool false)):=by exact rfl):Ok P C (.cond c x y) S Q:=dh hc hf
theorem cT{c:Operand}{x y:Code}(ht:Ok P C x S Q)(hc:S.ev c=.sv (.v (.bool true)):=by exact rfl):Ok P C (.cond c x y) S Q:=cm hc ht
theorem fs{c:Operand}{x:Code}{next:AS->Prop}(h:next S)(hc:S.ev c=.sv (.v (.bool false)):=by exact rfl):Ok P C (.cond c x .skip) S (aV next Q):=dh hc (bp h)
theorem R1{A:Prop}{e:Exit}{t:Nat}{s:SV}(h:S.t t=.sv s):(A\/e=e)/\MN P S [.tmp t] s:=⟨.inr Y,lQ (.tmp h .nil) au⟩
theorem R2{A:Prop}{e:Exit}{t u:Nat}{s s':SV}(h:S.t t=.sv s)(h':S.t u=.sv s'):(A\/e=e)/\MN P S [.tmp t,.tmp u] (.yN [s,s']):=⟨.inr Y,lQ (.tmp h (.tmp h' .nil)) au⟩
theorem RZ{A:Prop}{e:Exit}{rs:List ResultVar}{ss:List SV}{r:SV}(h:Hg P S rs ss)(h':SV.imp (HH ss) r:=by exact au):(A\/e=e)/\MN P S rs r:=⟨.inr Y,lQ h h'⟩
end
section
variable {P:Program}{C:Ctx}{ops:Array Oper}{S:AS}{nd:Bool}{K:List Ac->AS->Prop}{rest:List Oper}{acc:List Ac}
variable {gd:Option (Nat×Bool)}{rg:List Nat}{d:Nat}{ty:TypeId}{pos:String}{aft:Array Edge}{x y z:Operand}{T U:TypeId}{k:IntKind}{p q:Int}
theorem pF{s:SV}(hz:S.ev z=.sv s)(next:RunT P C ops nd K rest (⟨[]++(bg x++bg z),[],[],⟨some (d,.sv s),[],[]⟩⟩::acc) (S.set d (.sv s)))(hx:S.ev x=.sv (.v (.bool false)):=by exact rfl)(hd:d<S.n:=by exact tl Y):RunT P C ops nd K (⟨some d,.pick x y z,ty,pos,aft,none⟩::rest) acc S:=
 RT.ML .none hx hz hd next
theorem pT{s:SV}(hy:S.ev y=.sv s)(next:RunT P C ops nd K rest (⟨[]++(bg x++bg y),[],[],⟨some (d,.sv s),[],[]⟩⟩::acc) (S.set d (.sv s)))(hx:S.ev x=.sv (.v (.bool true)):=by exact rfl)(hd:d<S.n:=by exact tl Y):RunT P C ops nd K (⟨some d,.pick x y z,ty,pos,aft,none⟩::rest) acc S:=
 RT.MK .none hx hy hd next
theorem mo{s:AV}(hx:S.ev x=s)(next:RunT P C ops nd K rest (⟨[]++bg x,[],[],⟨some (d,s),[],[]⟩⟩::acc) (S.set d s))(hd:d<S.n:=by exact tl Y):RunT P C ops nd K (⟨some d,.move x,ty,pos,aft,none⟩::rest) acc S:=
 RT.move .none hx hd next
theorem ad(c:Int)(hx:S.ev x=.sv (.v (.int k p)))(hy:S.ev y=.sv (.v (.int k q)))(hc:k.wrap (p+q)=c)(next:RunT P C ops nd K rest (⟨[]++(bg x++bg y),[],[],⟨some (d,.sv (.v (.int k c))),[],[]⟩⟩::acc) (S.set d (.sv (.v (.int k c)))))(hd:d<S.n:=by exact tl Y):RunT P C ops nd K (⟨some d,.binOp .add T x y U,ty,pos,aft,none⟩::rest) acc S:=
 RT.add .none c hx hy hd hc next
theorem cv{j:IntKind}[tT:jW P T j][tU:jW P U k](c:Int){k':IntKind}(hx:S.ev x=.sv (.v (.int k' p)))(hc:k.wrap p=c)(next:RunT P C ops nd K rest (⟨[]++bg x,[],[],⟨some (d,.sv (.v (.int k c))),[],[]⟩⟩::acc) (S.set d (.sv (.v (.int k c)))))(hd:d<S.n:=by exact tl Y):RunT P C ops nd K (⟨some d,.convert T U x,ty,pos,aft,none⟩::rest) acc S:=
 RT.conv .none c hx hd hc next
theorem ls(c:Bool)(hx:S.ev x=.sv (.v (.int k p)))(hy:S.ev y=.sv (.v (.int k q)))(hc:decide (p<q)=c)(next:RunT P C ops nd K rest (⟨[]++(bg x++bg y),[],[],⟨some (d,.sv (.v (.bool c))),[],[]⟩⟩::acc) (S.set d (.sv (.v (.bool c)))))(hd:d<S.n:=by exact tl Y):RunT P C ops nd K (⟨some d,.binOp .lss T x y U,ty,pos,aft,none⟩::rest) acc S:=
 RT.lss .none c hx hy hd hc next
theorem sb(c:Int)(hx:S.ev x=.sv (.v (.int k p)))(hy:S.ev y=.sv (.v (.int k q)))(hc:k.wrap (p-q)=c)(next:RunT P C ops nd K rest (⟨[]++(bg x++bg y),[],[],⟨some (d,.sv (.v (.int k c))),[],[]⟩⟩::acc) (S.set d (.sv (.v (.int k c)))))(hd:d<S.n:=by exact tl Y):RunT P C ops nd K (⟨some d,.binOp .sub T x y U,ty,pos,aft,none⟩::rest) acc S:=
 RT.sub .none c hx hy hd hc next
theorem an{s:AV}(hx:S.ev x=s)(next:RunT P C ops nd K rest (⟨[]++bg x,[],[],⟨some (d,s),[],[]⟩⟩::acc) (S.set d s))(hd:d<S.n:=by exact tl Y):RunT P C ops nd K (⟨some d,.assign x,ty,pos,aft,none⟩::rest) acc S:=
 RT.assign .none hx hd next
theorem gt(c:Bool)(hx:S.ev x=.sv (.v (.int k p)))(hy:S.ev y=.sv (.v (.int k q)))(hc:decide (q<p)=c)(next:RunT P C ops nd K rest (⟨[]++(bg x++bg y),[],[],⟨some (d,.sv (.v (.bool c))),[],[]⟩⟩::acc) (S.set d (.sv (.v (.bool c)))))(hd:d<S.n:=by exact tl Y):RunT P C ops nd K (⟨some d,.binOp .gtr T x y U,ty,pos,aft,none⟩::rest) acc S:=
 RT.gtr .none c hx hy hd hc next
theorem eq(c:Bool)(hx:S.ev x=.sv (.v (.int k p)))(hy:S.ev y=.sv (.v (.int k q)))(hc:(p==q)=c)(next:RunT P C ops nd K rest (⟨[]++(bg x++bg y),[],[],⟨some (d,.sv (.v (.bool c))),[],[]⟩⟩::acc) (S.set d (.sv (.v (.bool c)))))(hd:d<S.n:=by exact tl Y):RunT P C ops nd K (⟨some d,.binOp .eql T x y U,ty,pos,aft,none⟩::rest) acc S:=
 RT.eql .none c hx hy hd hc next
theorem ne(c:Bool)(hx:S.ev x=.sv (.v (.int k p)))(hy:S.ev y=.sv (.v (.int k q)))(hc:(p != q)=c)(next:RunT P C ops nd K rest (⟨[]++(bg x++bg y),[],[],⟨some (d,.sv (.v (.bool c))),[],[]⟩⟩::acc) (S.set d (.sv (.v (.bool c)))))(hd:d<S.n:=by exact tl Y):RunT P C ops nd K (⟨some d,.binOp .neq T x y U,ty,pos,aft,none⟩::rest) acc S:=
 RT.neq .none c hx hy hd hc next
theorem ge(c:Bool)(hx:S.ev x=.sv (.v (.int k p)))(hy:S.ev y=.sv (.v (.int k q)))(hc:decide (q<=p)=c)(next:RunT P C ops nd K rest (⟨[]++(bg x++bg y),[],[],⟨some (d,.sv (.v (.bool c))),[],[]⟩⟩::acc) (S.set d (.sv (.v (.bool c)))))(hd:d<S.n:=by exact tl Y):RunT P C ops nd K (⟨some d,.binOp .geq T x y U,ty,pos,aft,none⟩::rest) acc S:=
 RT.geq .none c hx hy hd hc next
theorem nt{b:Bool}(hx:S.ev x=.sv (.v (.bool b)))(c:Bool)(hc:(!b)=c)(next:RunT P C ops nd K rest (⟨[]++bg x,[],[],⟨some (d,.sv (.v (.bool c))),[],[]⟩⟩::acc) (S.set d (.sv (.v (.bool c)))))(hd:d<S.n:=by exact tl Y):RunT P C ops nd K (⟨some d,.unOp .not T x,ty,pos,aft,none⟩::rest) acc S:=
 RT.not .none hx hd c hc next
theorem gF{j_ g_:Nat}{eF:Bool}{s:SV}(hz:S.ev z=.sv s)(next:RunT P C ops nd K rest (⟨[g_]++(bg x++bg z),[],[],⟨some (d,.sv s),[],[]⟩⟩::acc) (S.set d (.sv s)))(yY:(ops[j_]?).bind (·.dst)=some g_:=by exact rfl)(yZ:S.t g_=.sv (.v (.bool eF)):=by exact rfl)(hx:S.ev x=.sv (.v (.bool false)):=by exact rfl)(hd:d<S.n:=by exact tl Y):RunT P C ops nd K (⟨some d,.pick x y z,ty,pos,aft,some (j_,eF)⟩::rest) acc S:=
 RT.ML (.some yY yZ) hx hz hd next
theorem gT{j_ g_:Nat}{eF:Bool}{s:SV}(hy:S.ev y=.sv s)(next:RunT P C ops nd K rest (⟨[g_]++(bg x++bg y),[],[],⟨some (d,.sv s),[],[]⟩⟩::acc) (S.set d (.sv s)))(yY:(ops[j_]?).bind (·.dst)=some g_:=by exact rfl)(yZ:S.t g_=.sv (.v (.bool eF)):=by exact rfl)(hx:S.ev x=.sv (.v (.bool true)):=by exact rfl)(hd:d<S.n:=by exact tl Y):RunT P C ops nd K (⟨some d,.pick x y z,ty,pos,aft,some (j_,eF)⟩::rest) acc S:=
 RT.MK (.some yY yZ) hx hy hd next
theorem gq{j_ g_:Nat}{eF:Bool}(c:Bool)(hx:S.ev x=.sv (.v (.int k p)))(hy:S.ev y=.sv (.v (.int k q)))(hc:(p != q)=c)(next:RunT P C ops nd K rest (⟨[g_]++(bg x++bg y),[],[],⟨some (d,.sv (.v (.bool c))),[],[]⟩⟩::acc) (S.set d (.sv (.v (.bool c)))))(yY:(ops[j_]?).bind (·.dst)=some g_:=by exact rfl)(yZ:S.t g_=.sv (.v (.bool eF)):=by exact rfl)(hd:d<S.n:=by exact tl Y):RunT P C ops nd K (⟨some d,.binOp .neq T x y U,ty,pos,aft,some (j_,eF)⟩::rest) acc S:=
 RT.neq (.some yY yZ) c hx hy hd hc next
theorem gg{j_ g_:Nat}{eF:Bool}(c:Bool)(hx:S.ev x=.sv (.v (.int k p)))(hy:S.ev y=.sv (.v (.int k q)))(hc:decide (q<p)=c)(next:RunT P C ops nd K rest (⟨[g_]++(bg x++bg y),[],[],⟨some (d,.sv (.v (.bool c))),[],[]⟩⟩::acc) (S.set d (.sv (.v (.bool c)))))(yY:(ops[j_]?).bind (·.dst)=some g_:=by exact rfl)(yZ:S.t g_=.sv (.v (.bool eF)):=by exact rfl)(hd:d<S.n:=by exact tl Y):RunT P C ops nd K (⟨some d,.binOp .gtr T x y U,ty,pos,aft,some (j_,eF)⟩::rest) acc S:=
 RT.gtr (.some yY yZ) c hx hy hd hc next
theorem Q6{j_ g_:Nat}{eF:Bool}(c:Bool)(hx:S.ev x=.sv (.v (.int k p)))(hy:S.ev y=.sv (.v (.int k q)))(hc:(p==q)=c)(next:RunT P C ops nd K rest (⟨[g_]++(bg x++bg y),[],[],⟨some (d,.sv (.v (.bool c))),[],[]⟩⟩::acc) (S.set d (.sv (.v (.bool c)))))(yY:(ops[j_]?).bind (·.dst)=some g_:=by exact rfl)(yZ:S.t g_=.sv (.v (.bool eF)):=by exact rfl)(hd:d<S.n:=by exact tl Y):RunT P C ops nd K (⟨some d,.binOp .eql T x y U,ty,pos,aft,some (j_,eF)⟩::rest) acc S:=
 RT.eql (.some yY yZ) c hx hy hd hc next
theorem gt_{j_ g_:Nat}{eF:Bool}{b:Bool}(hx:S.ev x=.sv (.v (.bool b)))(c:Bool)(hc:(!b)=c)(next:RunT P C ops nd K rest (⟨[g_]++bg x,[],[],⟨some (d,.sv (.v (.bool c))),[],[]⟩⟩::acc) (S.set d (.sv (.v (.bool c)))))(yY:(ops[j_]?).bind (·.dst)=some g_:=by exact rfl)(yZ:S.t g_=.sv (.v (.bool eF)):=by exact rfl)(hd:d<S.n:=by exact tl Y):RunT P C ops nd K (⟨some d,.unOp .not T x,ty,pos,aft,some (j_,eF)⟩::rest) acc S:=
 RT.not (.some yY yZ) hx hd c hc next
end
section
variable {P:Program}{C:Ctx}{ops:Array Oper}{S:AS}{nd:Bool}{K:List Ac->AS->Prop}{rest:List Oper}{acc:List Ac}
variable {gd:Option (Nat×Bool)}{rg:List Nat}{d:Nat}{ty:TypeId}{pos:String}{aft:Array Edge}{x y z:Operand}{T U E0:TypeId}
theorem mv{s:SV}(hx:S.ev x=.sv s)(next:RunT P C ops nd K rest (⟨[]++bg x,[],[],⟨some (d,.sv s),[],[]⟩⟩::acc) (S.set d (.sv s)))(hd:d<S.n:=by exact tl Y):RunT P C ops nd K (⟨some d,.move x,ty,pos,aft,none⟩::rest) acc S:=
 RT.mv .none hx hd next
theorem ag{s:SV}(hx:S.ev x=.sv s)(next:RunT P C ops nd K rest (⟨[]++bg x,[],[],⟨some (d,.sv s),[],[]⟩⟩::acc) (S.set d (.sv s)))(hd:d<S.n:=by exact tl Y):RunT P C ops nd K (⟨some d,.assign x,ty,pos,aft,none⟩::rest) acc S:=
 RT.xj .none hx hd next
theorem cl{f:FuncId}[cZ P f]{g:Operand}{xs:Array Operand}{at_:Array TypeId}{args:List SV}{r:SV}(hp:Pure P f args r)(hargs:jX S xs.toList args)(next:RunT P C ops nd K rest (⟨[]++(bg g++xs.toList.flatMap bg),[],[],⟨some (d,.sv r),[],[]⟩⟩::acc) (S.set d (.sv r)))(hf:S.ev g=.sv (.v (.func (.func f) #[] #[])):=by exact rfl)(hd:d<S.n:=by exact tl Y):RunT P C ops nd K (⟨some d,.call ⟨.value g,xs,at_⟩,ty,pos,aft,none⟩::rest) acc S:=
 RT.call .none hp hf hargs hd next
theorem ld{n:Nat}[tA:w5 P T n]{j off:Nat}{B:mY}{cs:List SV}(hx:S.ev x=.ptr j off)(hB:S.b j=some B)(hcs:He B.cells off cs)(next:RunT P C ops nd K rest (⟨[]++bg x,[j],[],⟨some (d,.sv (.agg cs)),[],[]⟩⟩::acc) (S.set d (.sv (.agg cs))))(hn:cs.length=n:=by exact rfl)(hd:d<S.n:=by exact tl Y):RunT P C ops nd K (⟨some d,.load T x,ty,pos,aft,none⟩::rest) acc S:=
 RT.load .none hx hB hcs hn hd next
theorem lV[tV:nU P T]{j off:Nat}{B:mY}{s:SV}(hx:S.ev x=.ptr j off)(hB:S.b j=some B)(hn:B.cells[off]? =some (.sv s))(next:RunT P C ops nd K rest (⟨[]++bg x,[j],[],⟨some (d,.sv s),[],[]⟩⟩::acc) (S.set d (.sv s)))(hd:d<S.n:=by exact tl Y):RunT P C ops nd K (⟨some d,.load T x,ty,pos,aft,none⟩::rest) acc S:=
 RT.qJ .none hx hB hn hd next
theorem fa{f off:Nat}[hf:zJ P T f off U][sU:BW P U]{j o:Nat}(hx:S.ev x=.ptr j o){o':Nat}(ho':o+off=o')(next:RunT P C ops nd K rest (⟨[]++bg x,[],[],⟨some (d,.ptr j o'),[],[]⟩⟩::acc) (S.set d (.ptr j o')))(hd:d<S.n:=by exact tl Y):RunT P C ops nd K (⟨some d,.fieldAddr T x f,ty,pos,aft,none⟩::rest) acc S:=
 RT.fieldAddr .none hx hd ho' next
theorem so{n:Nat}[tA:w5 P T n]{j:Nat}{B:mY}{cs:List SV}[o1:rF cs](hx:S.ev x=.ptr j 0)(hB:S.b j=some B)(hy:S.ev y=.sv (.agg cs))(next:RunT P C ops nd K rest (⟨[]++(bg x++bg y),[j],[],⟨none,[(j,⟨B.T,cs.map AV.sv⟩)],[]⟩⟩::acc) (S.j0 j ⟨B.T,cs.map AV.sv⟩))(uw:cs.length=n:=by exact rfl)(hn:B.cells.length=n:=by exact rfl):RunT P C ops nd K (⟨none,.store T x y,ty,pos,aft,none⟩::rest) acc S:=
 RT.store .none hx hB hy uw hn next
theorem ex{i:Nat}{ss:List SV}{s:SV}(hx:S.ev x=.sv (.yN ss))(hi:ss[i]? =some s)(next:RunT P C ops nd K rest (⟨[]++bg x,[],[],⟨some (d,.sv s),[],[]⟩⟩::acc) (S.set d (.sv s)))(hd:d<S.n:=by exact tl Y):RunT P C ops nd K (⟨some d,.extract x i,ty,pos,aft,none⟩::rest) acc S:=
 RT.extract .none hx hi hd next
theorem bx{cells:List SV}(hx:S.ev x=.sv (.agg cells))(next:RunT P C ops nd K rest (⟨[]++bg x,[d],[],⟨some (d,.ptr d 0),[(d,⟨T,cells.map AV.sv⟩)],[]⟩⟩::acc) ((S.j0 d ⟨T,cells.map AV.sv⟩).set d (.ptr d 0)))(hd:d<S.n:=by exact tl Y)(hb:S.b d=none:=by exact rfl)(hp:C.iH d=none:=by exact rfl):RunT P C ops nd K (⟨some d,.box T x,ty,pos,aft,none⟩::rest) acc S:=
 RT.box .none hx hd hb hp next
theorem lr[tV:nU P T]{cells:List SV}{s:SV}(hx:S.ev x=.sv (ref cells))(hn:cells[0]? =some s)(next:RunT P C ops nd K rest (⟨[]++bg x,[],[],⟨some (d,.sv s),[],[]⟩⟩::acc) (S.set d (.sv s)))(hd:d<S.n:=by exact tl Y):RunT P C ops nd K (⟨some d,.load T x,ty,pos,aft,none⟩::rest) acc S:=
 RT.cw .none hx hn hd next
theorem cB{f:FuncId}[cZ P f]{g:Operand}{xs:Array Operand}{at_:Array TypeId}{args:List SV}{T:TypeId}{c0 c1:List SV}{res:SV}(hp:HO P f args T c0 res c1)(j:Nat)(hB:S.b j=some ⟨T,c0.map AV.sv⟩)(hargs:jX S xs.toList args)(next:RunT P C ops nd K rest (⟨[]++(bg g++xs.toList.flatMap bg),[j],[],⟨some (d,.sv res),[(j,⟨T,c1.map AV.sv⟩)],[]⟩⟩::acc) ((AS.jU [(j,⟨T,c1.map AV.sv⟩)] S).set d (.sv res)))(hf:S.ev g=.eT f [.box j]:=by exact rfl)(hd:d<S.n:=by exact tl Y):RunT P C ops nd K (⟨some d,.call ⟨.value g,xs,at_⟩,ty,pos,aft,none⟩::rest) acc S:=
 RT.RF .none hp j hB hf hargs hd next
theorem cN{f:FuncId}[cZ P f]{g:Operand}{xs:Array Operand}{at_:Array TypeId}{args:List SV}{R:Row}(hp:HN P f args R)(hargs:jX S xs.toList args)(next:RunT P C ops nd K rest (⟨[]++(bg g++xs.toList.flatMap bg),[],[d],⟨some (d,.row d),[],[(d,.live R)]⟩⟩::acc) ((AS.cf [(d,.live R)] S).set d (.row d)))(hf:S.ev g=.sv (.v (.func (.func f) #[] #[])):=by exact rfl)(hd:d<S.n:=by exact tl Y)(wc:S.r d=.un:=by exact rfl)(ux:d<1000:=by exact tl Y):RunT P C ops nd K (⟨some d,.call ⟨.value g,xs,at_⟩,ty,pos,aft,none⟩::rest) acc S:=
 RT.RE .none hp hf hargs hd wc ux next
theorem gm{j_ g_:Nat}{eF:Bool}{s:SV}(hx:S.ev x=.sv s)(next:RunT P C ops nd K rest (⟨[g_]++bg x,[],[],⟨some (d,.sv s),[],[]⟩⟩::acc) (S.set d (.sv s)))(yY:(ops[j_]?).bind (·.dst)=some g_:=by exact rfl)(yZ:S.t g_=.sv (.v (.bool eF)):=by exact rfl)(hd:d<S.n:=by exact tl Y):RunT P C ops nd K (⟨some d,.move x,ty,pos,aft,some (j_,eF)⟩::rest) acc S:=
 RT.mv (.some yY yZ) hx hd next
theorem gl{j_ g_:Nat}{eF:Bool}{n:Nat}[tA:w5 P T n]{j off:Nat}{B:mY}{cs:List SV}(hx:S.ev x=.ptr j off)(hB:S.b j=some B)(hcs:He B.cells off cs)(next:RunT P C ops nd K rest (⟨[g_]++bg x,[j],[],⟨some (d,.sv (.agg cs)),[],[]⟩⟩::acc) (S.set d (.sv (.agg cs))))(yY:(ops[j_]?).bind (·.dst)=some g_:=by exact rfl)(yZ:S.t g_=.sv (.v (.bool eF)):=by exact rfl)(hn:cs.length=n:=by exact rfl)(hd:d<S.n:=by exact tl Y):RunT P C ops nd K (⟨some d,.load T x,ty,pos,aft,some (j_,eF)⟩::rest) acc S:=
 RT.load (.some yY yZ) hx hB hcs hn hd next
theorem gc{j_ g_:Nat}{eF:Bool}{f:FuncId}[cZ P f]{g:Operand}{xs:Array Operand}{at_:Array TypeId}{args:List SV}{r:SV}(hp:Pure P f args r)(hargs:jX S xs.toList args)(next:RunT P C ops nd K rest (⟨[g_]++(bg g++xs.toList.flatMap bg),[],[],⟨some (d,.sv r),[],[]⟩⟩::acc) (S.set d (.sv r)))(yY:(ops[j_]?).bind (·.dst)=some g_:=by exact rfl)(yZ:S.t g_=.sv (.v (.bool eF)):=by exact rfl)(hf:S.ev g=.sv (.v (.func (.func f) #[] #[])):=by exact rfl)(hd:d<S.n:=by exact tl Y):RunT P C ops nd K (⟨some d,.call ⟨.value g,xs,at_⟩,ty,pos,aft,some (j_,eF)⟩::rest) acc S:=
 RT.call (.some yY yZ) hp hf hargs hd next
theorem gr{j_ g_:Nat}{eF:Bool}[tV:nU P T]{cells:List SV}{s:SV}(hx:S.ev x=.sv (ref cells))(hn:cells[0]? =some s)(next:RunT P C ops nd K rest (⟨[g_]++bg x,[],[],⟨some (d,.sv s),[],[]⟩⟩::acc) (S.set d (.sv s)))(yY:(ops[j_]?).bind (·.dst)=some g_:=by exact rfl)(yZ:S.t g_=.sv (.v (.bool eF)):=by exact rfl)(hd:d<S.n:=by exact tl Y):RunT P C ops nd K (⟨some d,.load T x,ty,pos,aft,some (j_,eF)⟩::rest) acc S:=
 RT.cw (.some yY yZ) hx hn hd next
end
section
variable {P:Program}{C:Ctx}{ops:Array Oper}{S:AS}{nd:Bool}{K:List Ac->AS->Prop}{rest:List Oper}{acc:List Ac}
variable {gd:Option (Nat×Bool)}{rg:List Nat}{d:Nat}{ty:TypeId}{pos:String}{aft:Array Edge}{x y z:Operand}{T U E0:TypeId}
variable {l l' k:O3}
theorem ww{op:Op}{j g:Nat}{b want:Bool}(next:RunT P C ops nd K rest (⟨[g],[],[],⟨some (d,.sv (.v undef)),[],[]⟩⟩::acc) (S.set d (.sv (.v undef))))(h1:(ops[j]?).bind (·.dst)=some g:=by exact rfl)(h2:S.t g=.sv (.v (.bool b)):=by exact rfl)(hb:b≠want:=by exact sk Y)(hd:d<S.n:=by exact tl Y):RunT P C ops nd K (⟨some d,op,ty,pos,aft,some (j,want)⟩::rest) acc S:=
 RT.skV h1 h2 hb hd next
theorem wu{op:Op}{j g:Nat}{want:Bool}(next:RunT P C ops nd K rest (⟨[g],[],[],⟨some (d,.sv (.v undef)),[],[]⟩⟩::acc) (S.set d (.sv (.v undef))))(h1:(ops[j]?).bind (·.dst)=some g:=by exact rfl)(h2:S.t g=.sv (.v undef):=by exact rfl)(hd:d<S.n:=by exact tl Y):RunT P C ops nd K (⟨some d,op,ty,pos,aft,some (j,want)⟩::rest) acc S:=
 RT.RY h1 h2 hd next
end
section
variable {P:Program}{C:Ctx}{ops:Array Oper}{S:AS}{nd:Bool}{K:List Ac->AS->Prop}{rest:List Oper}{acc:List Ac}
variable {gd:Option (Nat×Bool)}{rg:List Nat}{d:Nat}{ty:TypeId}{pos:String}{aft:Array Edge}{x y z:Operand}{T U E0:TypeId}
variable {α:Type}{l l' k:List α}{e:α->List SV}{n by_:Nat}{zv:Value}
theorem ln{m:Nat}[tS:eL P T E0 m]{c:Int}(hx:S.ev x=.sv (slc n (l.map e)))(hc:(l.length:Int)=c)(next:RunT P C ops nd K rest (⟨[]++bg x,[],[],⟨some (d,.sv (.v (.int .i64 c))),[],[]⟩⟩::acc) (S.set d (.sv (.v (.int .i64 c)))))(hd:d<S.n:=by exact tl Y):RunT P C ops nd K (⟨some d,.call ⟨.builtin .len,#[x],#[T]⟩,ty,pos,aft,none⟩::rest) acc S:=
 RT.RU .none hx hd hc next
theorem al[tz:gJ P T zv]{cs:List SV}(hi:ff (zv.cells.toList.map SV.v) cs){av:List AV}(Vv:cs.map AV.sv=av)(next:RunT P C ops nd K rest (⟨[]++[],[d],[],⟨some (d,.ptr d 0),[(d,⟨T,av⟩)],[]⟩⟩::acc) ((S.j0 d ⟨T,av⟩).set d (.ptr d 0)))(hd:d<S.n:=by exact tl Y)(hb:S.b d=none:=by exact rfl)(hp:C.iH d=none:=by exact rfl):RunT P C ops nd K (⟨some d,.alloc T,ty,pos,aft,none⟩::rest) acc S:=
 RT.n7 .none hi Vv hd hb hp next
theorem ix[tS:eL P T E0 n]{kk:IntKind}{i:Int}{a:α}(hx:S.ev x=.sv (slc n (l.map e)))(hy:S.ev y=.sv (.v (.int kk i)))(ha:c9 l i=some a)(next:RunT P C ops nd K rest (⟨[]++(bg x++bg y),[],[],⟨some (d,.sv (ref (e a))),[],[]⟩⟩::acc) (S.set d (.sv (ref (e a)))))(hd:d<S.n:=by exact tl Y):RunT P C ops nd K (⟨some d,.indexAddr T x y,ty,pos,aft,none⟩::rest) acc S:=
 RT.MW .none hx hy hd ha next
theorem bl[tS:eL P T E0 n][tE:iX P E0 n by_ zv]{len:Nat}{parts:Array (Nat×Operand)}{qs:List (Nat×List SV)}(hp:mu S parts.toList qs)(hc:n5 0 qs=true)(hl:qs.length=len)(hsz:(qs.all λq=>Nat.beq q.2.length n)=true)(hlen:Nat.ble (len*n) 16777216=true)(HE:(zv.cells.toList.all λv=>v.oneCell')=true)(nI:qs.map (·.2)=l.map e)(next:RunT P C ops nd K rest (⟨[]++jY parts.toList,[],[],⟨some (d,.sv (slc n (l.map e))),[],[]⟩⟩::acc) (S.set d (.sv (slc n (l.map e)))))(hd:d<S.n:=by exact tl Y):RunT P C ops nd K (⟨some d,.buildSlice T len parts,ty,pos,aft,none⟩::rest) acc S:=
 RT.gL .none hp hd hc hl hsz hlen HE nI next
theorem iR[tS:eL P T E0 n]{i j:Nat}{E1:TypeId}{kk:IntKind}{v:Int}(hx:S.ev x=.row i)(hR:S.r i=.live (TR E1 n e l))(hy:S.ev y=.sv (.v (.int kk v)))(h:uy l v=some j)(next:RunT P C ops nd K rest (⟨[]++(bg x++bg y),[],[i],⟨some (d,.gI i (j*n)),[],[]⟩⟩::acc) (S.set d (.gI i (j*n))))(hd:d<S.n:=by exact tl Y):RunT P C ops nd K (⟨some d,.indexAddr T x y,ty,pos,aft,none⟩::rest) acc S:=
 RT.Vw .none hx hR hy hd h next
theorem aI{s X:SV}(hx:S.ev x=.sv s)(hi:SV.imp s X)(next:RunT P C ops nd K rest (⟨[]++bg x,[],[],⟨some (d,.sv X),[],[]⟩⟩::acc) (S.set d (.sv X)))(hd:d<S.n:=by exact tl Y):RunT P C ops nd K (⟨some d,.assign x,ty,pos,aft,none⟩::rest) acc S:=
 RT.Vu .none hx hi hd next
theorem bI{pl:List (Nat×Nat)}{zc:List Value}[tP:iK P T pl zc]{parts:Array (Nat×Operand)}{qs:List (Nat×List SV)}(hp:mu S parts.toList qs){cs cs':List SV}(hi:ff cs cs')(next:RunT P C ops nd K rest (⟨[]++jY parts.toList,[],[],⟨some (d,.sv (.agg cs')),[],[]⟩⟩::acc) (S.set d (.sv (.agg cs'))))(hf:qV (λi=>pl[i]?) (zc.map SV.v) qs=some cs:=by exact rfl)(hd:d<S.n:=by exact tl Y):RunT P C ops nd K (⟨some d,.build T parts,ty,pos,aft,none⟩::rest) acc S:=
 RT.O2 .none hp hf hi hd next
theorem lR[tV:nU P T][el:EL e 1]{i j:Nat}{E1:TypeId}{a:α}{s:SV}(hx:S.ev x=.gI i (j*1))(hR:S.r i=.live (TR E1 1 e l))(ha:l[j]? =some a)(hs:e a=[s])(next:RunT P C ops nd K rest (⟨[]++bg x,[],[i],⟨some (d,.sv s),[],[]⟩⟩::acc) (S.set d (.sv s)))(hd:d<S.n:=by exact tl Y):RunT P C ops nd K (⟨some d,.load T x,ty,pos,aft,none⟩::rest) acc S:=
 RT.RW .none hx hR ha hs hd next
theorem aR[tS:eL P T E0 n][tE:iX P E0 n by_ zv]{i:Nat}(hx:S.ev x=.row i)(hR:S.r i=.live (TR E0 n e l))(hy:S.ev y=.sv (slc n (k.map e)))(h:sN by_ l k=some l')(next:RunT P C ops nd K rest (⟨[]++(bg x++bg y),[],[i,d],⟨some (d,.row d),[],[(i,.dead),(d,.live (TR E0 n e l'))]⟩⟩::acc) ((AS.cf [(i,.dead),(d,.live (TR E0 n e l'))] S).set d (.row d)))(hd:d<S.n:=by exact tl Y)(wc:S.r d=.un:=by exact rfl)(ux:d<1000:=by exact tl Y):RunT P C ops nd K (⟨some d,.call ⟨.builtin .append,#[x,y],#[T,T]⟩,ty,pos,aft,none⟩::rest) acc S:=
 RT.apR .none hx hR hy hd wc ux h next
theorem sR[tV:nU P T][el:EL e 1]{i j:Nat}{E1:TypeId}{s:SV}[o1:One s](a:α)(hs:e a=[s])(hx:S.ev x=.gI i (j*1))(hR:S.r i=.live (TR E1 1 e l))(hy:S.ev y=.sv s)(h:stM l j a=some l')(next:RunT P C ops nd K rest (⟨[]++(bg x++bg y),[],[i],⟨none,[],[(i,.live (TR E1 1 e l'))]⟩⟩::acc) (AS.cf [(i,.live (TR E1 1 e l'))] S)):RunT P C ops nd K (⟨none,.store T x y,ty,pos,aft,none⟩::rest) acc S:=
 RT.Vx .none a hs hx hR hy h next
theorem sA[tA:w5 P T n][el:EL e n]{i j:Nat}{E1:TypeId}(a:α)(hx:S.ev x=.gI i (j*n))(hR:S.r i=.live (TR E1 n e l))(hy:S.ev y=.sv (.agg (e a)))(h:stM l j a=some l')(next:RunT P C ops nd K rest (⟨[]++(bg x++bg y),[],[i],⟨none,[],[(i,.live (TR E1 n e l'))]⟩⟩::acc) (AS.cf [(i,.live (TR E1 n e l'))] S)):RunT P C ops nd K (⟨none,.store T x y,ty,pos,aft,none⟩::rest) acc S:=
 RT.RX .none a hx hR hy h next
theorem lL{m:Nat}[tS:eL P T E0 m]{i:Nat}{E1:TypeId}{c:Int}(hx:S.ev x=.row i)(hR:S.r i=.live (TR E1 n e l))(hc:(l.length:Int)=c)(next:RunT P C ops nd K rest (⟨[]++bg x,[],[i],⟨some (d,.sv (.v (.int .i64 c))),[],[]⟩⟩::acc) (S.set d (.sv (.v (.int .i64 c)))))(hd:d<S.n:=by exact tl Y):RunT P C ops nd K (⟨some d,.call ⟨.builtin .len,#[x],#[T]⟩,ty,pos,aft,none⟩::rest) acc S:=
 RT.RV .none hx hR hd hc next
theorem cR{f:FuncId}[cZ P f]{g:Operand}{xs:Array Operand}{at_:Array TypeId}{args:List AV}{E1:TypeId}{res:AV}(hp:DU P f args (TR E1 n e l) res (l'.flatMap e))(hlen:l'.length=l.length)(i:Nat)(hR:S.r i=.live (TR E1 n e l))(hargs:Aw S xs.toList (args.map (AV.vB i)))(next:RunT P C ops nd K rest (⟨[]++(bg g++xs.toList.flatMap bg),[],[i],⟨some (d,res.vB i),[],[(i,.live (TR E1 n e l'))]⟩⟩::acc) ((AS.cf [(i,.live (TR E1 n e l'))] S).set d (res.vB i)))(hrow:args.all AV.uF=true:=by exact rfl)(hres:res.uF=true:=by exact rfl)(hf:S.ev g=.sv (.v (.func (.func f) #[] #[])):=by exact rfl)(hd:d<S.n:=by exact tl Y):RunT P C ops nd K (⟨some d,.call ⟨.value g,xs,at_⟩,ty,pos,aft,none⟩::rest) acc S:=
 RT.O7 .none hp hlen i hR hrow hres hf hargs hd next
theorem gn{j_ g_:Nat}{eF:Bool}{m:Nat}[tS:eL P T E0 m]{c:Int}(hx:S.ev x=.sv (slc n (l.map e)))(hc:(l.length:Int)=c)(next:RunT P C ops nd K rest (⟨[g_]++bg x,[],[],⟨some (d,.sv (.v (.int .i64 c))),[],[]⟩⟩::acc) (S.set d (.sv (.v (.int .i64 c)))))(yY:(ops[j_]?).bind (·.dst)=some g_:=by exact rfl)(yZ:S.t g_=.sv (.v (.bool eF)):=by exact rfl)(hd:d<S.n:=by exact tl Y):RunT P C ops nd K (⟨some d,.call ⟨.builtin .len,#[x],#[T]⟩,ty,pos,aft,some (j_,eF)⟩::rest) acc S:=
 RT.RU (.some yY yZ) hx hd hc next
end
section
variable {P:Program}{C:Ctx}{ops:Array Oper}{S:AS}{nd:Bool}{K:List Ac->AS->Prop}{rest:List Oper}{acc:List Ac}
variable {gd:Option (Nat×Bool)}{rg:List Nat}{d:Nat}{ty:TypeId}{pos:String}{aft:Array Edge}{x y z:Operand}{T U E0 E1:TypeId}
theorem fl{f off:Nat}[hf:zJ P T f off U][tV:nU P U]{cs:List SV}{s:SV}(hx:S.ev x=.sv (.agg cs))(hs:cs[off]? =some s)(next:RunT P C ops nd K rest (⟨[]++bg x,[],[],⟨some (d,.sv s),[],[]⟩⟩::acc) (S.set d (.sv s)))(hd:d<S.n:=by exact tl Y):RunT P C ops nd K (⟨some d,.field T x f,ty,pos,aft,none⟩::rest) acc S:=
 RT.field .none hx hs hd next
end
end
end Go.Fw.Z
namespace Go.Proofs.YtfoldppidpmchaaGreat
section
open Go.Fw
noncomputable def c7(x0:List Nat):Option (List Nat):=sN 4 [] x0
noncomputable def bH(x0:Nat)(c0:Nat):Option (Nat×Nat):=(some ((x0+c0)%18446744073709551616)).bind λx6=>(some (x6/2^32)).bind λx8=>(some (x6%4294967296)).bind λdJ=>some (dJ,x8)
noncomputable def bn(x0:List Nat):Option (List Nat):=(b9 (λ(AL:(List Nat))=>(show Option (((List Nat))⊕((List Nat)))from cg (λ(D0:Bool)=>(bif D0 then(some (AL.length:Int)).bind λeM=>(some (IntKind.i64.wrap (eM-1))).bind λfj=>(sM AL 0 fj).bind λjZ=>some (.inl jZ)else some (.inr AL))) λIe=>(some (AL.length:Int)).bind λx4=>(some (decide ((0:Int)<x4))).bind λx5=>(bif x5 then(some (AL.length:Int)).bind λx9=>(some (IntKind.i64.wrap (x9-1))).bind λdJ=>(c9 AL dJ).bind λfK=>(some (decide ((fK:Nat)=0))).bind λkE=>some kE else some false).bind λIg=>Ie Ig)) x0).bind λGn=>some Gn
noncomputable def bZ(x0:Bool)(x1:List Nat):Option (Zr):=(bn x1).bind λx6=>(some (x6.length:Int)).bind λx8=>(some (decide ((x8:Int)=0))).bind λx9=>(bif x9 then some ⟨false,[]⟩else some ⟨x0,x6⟩)
noncomputable def dO(x0:Bool)(x1:Nat):Option (Zr):=(some (decide ((x1:Nat)=0))).bind λx7=>(bif x7 then some ⟨false,[]⟩else(some (x1/2^32)).bind λfK=>(some (decide ((fK:Nat)=0))).bind λdj=>(bif dj then(some (x1%4294967296)).bind λeN=>some ⟨x0,[eN]⟩else(some (x1%4294967296)).bind λju=>(some (x1/2^32)).bind λgQ=>(some (gQ%4294967296)).bind λgM=>some ⟨x0,[ju,gM]⟩))
noncomputable def cW(x0:List Nat):Option (Nat):=(some (x0.length:Int)).bind λx4=>(some (decide ((x4:Int)=0))).bind λx6=>(bif x6 then some 0 else(some (decide ((x4:Int)=1))).bind λx8=>(bif x8 then(c9 x0 0).bind λdJ=>(some (dJ%18446744073709551616)).bind λdj=>some dj else(c9 x0 0).bind λdV=>(some (dV%18446744073709551616)).bind λfE=>(c9 x0 1).bind λfj=>(some (fj%18446744073709551616)).bind λju=>(some (ju*2^32%18446744073709551616)).bind λgi=>(some ((fE ||| gi)%18446744073709551616)).bind λgQ=>some gQ))
noncomputable def cz(x0:List Nat)(x1:List Nat):Option (Int):=(some (x0.length:Int)).bind λx7=>(some (x1.length:Int)).bind λx9=>(some (decide ((x7:Int)≠x9))).bind λdJ=>(bif dJ then(some (x0.length:Int)).bind λdj=>(some (x1.length:Int)).bind λdV=>(some (decide ((dj:Int)<dV))).bind λeN=>(bif eN then some (-1)else some 1)else(some (x0.length:Int)).bind λeM=>(some (IntKind.i64.wrap (eM-1))).bind λfj=>(b9 (λ(lF:Int)=>(show Option ((Int)⊕((Unit)⊕(Int)))from(some (decide ((0:Int)<=lF))).bind λju=>(bif ju then(c9 x0 lF).bind λlO=>(c9 x1 lF).bind λgR=>(some (decide ((lO:Nat)≠gR))).bind λoG=>(bif oG then(c9 x0 lF).bind λmQ=>(c9 x1 lF).bind λsy=>(some (decide ((mQ:Nat)<sy))).bind λlT=>(bif lT then some (.inr (.inr (-1)))else some (.inr (.inr 1)))else(some (IntKind.i64.wrap (lF-1))).bind λgQ=>some (.inl gQ))else some (.inr (.inl ()))))) fj).bind λe6=>match e6 with|.inr v6=>some v6|.inl _=>some 0)
noncomputable def dL(x0:List Nat)(x1:List Nat):Option (List Nat):=(some (x0.length:Int)).bind λdJ=>(some (x1.length:Int)).bind λdj=>(some (max (dJ:Int) dj)).bind λkE=>(some (IntKind.i64.wrap (kE+1))).bind λdV=>(Lb (α:=Nat) 4 dV).bind λeN=>(nr (λ(k:Nat) (s7:Nat×(List Nat))=>match s7 with|⟨sV,gV⟩=>(show Option (Nat×(List Nat))from(some (x0.getD k 0%18446744073709551616)).bind λVC=>(some (x1.getD k 0%18446744073709551616)).bind λVD=>(some ((VC+VD)%18446744073709551616)).bind λkN=>(bH kN sV).bind λ⟨gN,k9⟩=>(sN 4 gV [gN]).bind λgR=>some (k9,gR))) (max x0.length x1.length) (0,eN)).bind λe7=>match e7 with|⟨sV,gV⟩=>(bH 0 sV).bind λ⟨iF,k11⟩=>(sN 4 gV [iF]).bind λmQ=>some mQ
noncomputable def cE(x0:List Nat)(x1:List Nat):Option (List Nat):=(some (x0.length:Int)).bind λdJ=>(Lb (α:=Nat) 4 dJ).bind λfK=>(nr (λ(k:Nat) (s7:Nat×(List Nat))=>match s7 with|⟨wN,gV⟩=>(show Option (Nat×(List Nat))from(some (x0.getD k 0%18446744073709551616)).bind λVE=>(some (x1.getD k 0%18446744073709551616)).bind λVF=>(some (mw 18446744073709551616 4294967295 VF)).bind λgQ=>(some ((VE+gQ)%18446744073709551616)).bind λgM=>(bH gM wN).bind λ⟨gO,k9⟩=>(sN 4 gV [gO]).bind λkN=>some (k9,kN))) (max x0.length x1.length) (1,fK)).bind λe7=>match e7 with|⟨wN,gV⟩=>some gV
noncomputable def eO(x0:List Nat)(x1:List Nat):Option (List Nat):=(some (x0.length:Int)).bind λdj=>(some (x1.length:Int)).bind λdV=>(some (IntKind.i64.wrap (dj+dV))).bind λeN=>(Ca 4 eN (0:Nat)).bind λfE=>(some (x0.length:Int)).bind λfj=>(b9 (λ(Q7:Int×(List Nat))=>match Q7 with|⟨my,AM⟩=>(show Option ((Int×(List Nat))⊕((List Nat)))from(some (decide ((my:Int)<fj))).bind λju=>(bif ju then(c9 x0 my).bind λgQ=>(some (x1.length:Int)).bind λkN=>(b9 (λ(Pb:Int×Nat×(List Nat))=>match Pb with|⟨uN,sW,rR⟩=>(show Option ((Int×Nat×(List Nat))⊕(Nat×(List Nat)))from(some (decide ((uN:Int)<kN))).bind λmR=>(bif mR then(c9 x1 uN).bind λuO=>(some (IntKind.i64.wrap (my+uN))).bind λrj=>(some (IntKind.i64.wrap (my+uN))).bind λlT=>(uy rR lT).bind λwO=>(rR[wO]?).bind λo8=>(some (o8%18446744073709551616)).bind λDF=>(some (gQ%18446744073709551616)).bind λDG=>(some (uO%18446744073709551616)).bind λsB=>(some ((DG*sB)%18446744073709551616)).bind λy4=>(some ((DF+y4)%18446744073709551616)).bind λR9=>(bH R9 sW).bind λ⟨vG,VG⟩=>(uy rR rj).bind λMY=>(stM rR MY vG).bind λVH=>(some (IntKind.i64.wrap (uN+1))).bind λy5=>some (.inl (y5,VG,VH))else some (.inr (sW,rR))))) (0,0,AM)).bind λVI=>match VI with|⟨Cn,D1⟩=>(some (x1.length:Int)).bind λMZ=>(some (IntKind.i64.wrap (my+MZ))).bind λLn=>(bH 0 Cn).bind λ⟨Ih,k45⟩=>(uy D1 Ln).bind λGp=>(stM D1 Gp Ih).bind λVJ=>(some (IntKind.i64.wrap (my+1))).bind λPc=>some (.inl (Pc,VJ))else some (.inr AM)))) (0,fE)).bind λrS=>some rS
noncomputable def fU(x0:List Nat)(x1:Nat):Option (Nat×List Nat):=(some (x0.length:Int)).bind λx9=>(some (IntKind.i64.wrap (x9-1))).bind λdJ=>(b9 (λ(s8:Nat×Int×(List Nat))=>match s8 with|⟨Ii,Co,n8⟩=>(show Option ((Nat×Int×(List Nat))⊕(Nat×(List Nat)))from(some (decide ((0:Int)<=Co))).bind λdj=>(bif dj then(some (Ii*2^32%18446744073709551616)).bind λfE=>(uy n8 Co).bind λjZ=>(n8[jZ]?).bind λju=>(some (ju%18446744073709551616)).bind λgi=>(some ((fE ||| gi)%18446744073709551616)).bind λgQ=>(AA 18446744073709551616 gQ x1).bind λgN=>(some (gN%4294967296)).bind λmR=>(uy n8 Co).bind λgR=>(stM n8 gR mR).bind λxC=>(yW gQ x1).bind λiF=>(some (IntKind.i64.wrap (Co-1))).bind λdV=>some (.inl (iF,dV,xC))else some (.inr (Ii,n8))))) (0,dJ,x0)).bind λe8=>match e8 with|⟨Sa,wP⟩=>(q9 x0 wP).bind λ_=>some (Sa,wP)
noncomputable def ek(x0:List Nat)(x1:Nat):Option (List Nat):=(some (x0.length:Int)).bind λfK=>(some (IntKind.i64.wrap (fK+1))).bind λdj=>(Lb (α:=Nat) 4 dj).bind λkE=>(some (x0.length:Int)).bind λeN=>(b9 (λ(s8:Int×Nat×(List Nat))=>match s8 with|⟨sX,n9,gV⟩=>(show Option ((Int×Nat×(List Nat))⊕(Nat×(List Nat)))from(some (decide ((sX:Int)<eN))).bind λeM=>(bif eM then(c9 x0 sX).bind λfj=>(some (fj%18446744073709551616)).bind λgM=>(some (gM*2^(min x1 64)%18446744073709551616)).bind λlO=>(bH lO n9).bind λ⟨kN,Pd⟩=>(sN 4 gV [kN]).bind λmR=>(some (IntKind.i64.wrap (sX+1))).bind λgR=>some (.inl (gR,Pd,mR))else some (.inr (n9,gV))))) (0,0,kE)).bind λe8=>match e8 with|⟨xD,Ij⟩=>(bH 0 xD).bind λ⟨iF,VK⟩=>(sN 4 Ij [iF]).bind λmQ=>some mQ
noncomputable def gj(x0:List Nat)(x1:Nat):Option (List Nat):=(some (x0.length:Int)).bind λfK=>(some (IntKind.i64.wrap (fK+1))).bind λdj=>(Lb (α:=Nat) 4 dj).bind λkE=>(some (x0.length:Int)).bind λeN=>(b9 (λ(s8:Int×Nat×(List Nat))=>match s8 with|⟨sX,n9,nu⟩=>(show Option ((Int×Nat×(List Nat))⊕(Nat×(List Nat)))from(some (decide ((sX:Int)<eN))).bind λeM=>(bif eM then(c9 x0 sX).bind λfj=>(some (fj%18446744073709551616)).bind λgM=>(some (gM*2^(min x1 64)%18446744073709551616)).bind λlO=>(bH lO n9).bind λ⟨kN,Pd⟩=>(sN 4 nu [kN]).bind λmR=>(some (IntKind.i64.wrap (sX+1))).bind λgR=>some (.inl (gR,Pd,mR))else some (.inr (n9,nu))))) (0,0,kE)).bind λe8=>match e8 with|⟨xD,nv⟩=>(bH 0 xD).bind λ⟨iF,VK⟩=>(sN 4 nv [iF]).bind λmQ=>some mQ
noncomputable def fu(x0:Nat):Option (Int):=(some (decide ((65536:Nat)<=x0))).bind λx4=>cg (λ(j2:Nat×Int)=>match j2 with|⟨D2,Lo⟩=>(some (decide ((256:Nat)<=D2))).bind λx8=>cg (λ(j4:Nat×Int)=>match j4 with|⟨Sb,Sc⟩=>(some (Sb%256)).bind λeN=>(qZ [0,1,2,2,3,3,3,3,4,4,4,4,4,4,4,4,5,5,5,5,5,5,5,5,5,5,5,5,5,5,5,5,6,6,6,6,6,6,6,6,6,6,6,6,6,6,6,6,6,6,6,6,6,6,6,6,6,6,6,6,6,6,6,6,7,7,7,7,7,7,7,7,7,7,7,7,7,7,7,7,7,7,7,7,7,7,7,7,7,7,7,7,7,7,7,7,7,7,7,7,7,7,7,7,7,7,7,7,7,7,7,7,7,7,7,7,7,7,7,7,7,7,7,7,7,7,7,7,8,8,8,8,8,8,8,8,8,8,8,8,8,8,8,8,8,8,8,8,8,8,8,8,8,8,8,8,8,8,8,8,8,8,8,8,8,8,8,8,8,8,8,8,8,8,8,8,8,8,8,8,8,8,8,8,8,8,8,8,8,8,8,8,8,8,8,8,8,8,8,8,8,8,8,8,8,8,8,8,8,8,8,8,8,8,8,8,8,8,8,8,8,8,8,8,8,8,8,8,8,8,8,8,8,8,8,8,8,8,8,8,8,8,8,8,8,8,8,8,8,8,8,8,8,8,8,8] ((eN:Nat):Int)).bind λfE=>(some (IntKind.i64.wrap (fE:Int))).bind λeM=>(some (IntKind.i64.wrap (Sc+eM))).bind λfj=>some fj) λK4=>(bif x8 then(some (D2/2^8)).bind λdJ=>(some (IntKind.i64.wrap (Lo+8))).bind λdj=>K4 (dJ,dj)else K4 (D2,Lo))) λK2=>(bif x4 then(some (x0/2^16)).bind λx6=>K2 (x6,16)else K2 (x0,0))
noncomputable def cO(x0:Nat):Option (Int):=(fu x0).bind λx4=>(some (IntKind.i64.wrap (32-x4))).bind λx5=>some x5
noncomputable def fV(x0:List Nat)(o0:Nat)(n0:Nat)(x1:List Nat):Option (Nat×List Nat):=(some (x1.length:Int)).bind λdj=>(Ky o0 n0 dj).bind λeN=>(x0[eN]?).bind λfE=>(some (fE%18446744073709551616)).bind λeM=>(some (eM*2^32%18446744073709551616)).bind λfj=>(some (IntKind.i64.wrap (dj-1))).bind λgi=>(Ky o0 n0 gi).bind λgQ=>(x0[gQ]?).bind λgM=>(some (gM%18446744073709551616)).bind λgO=>(some ((fj ||| gO)%18446744073709551616)).bind λlO=>(some (IntKind.i64.wrap (dj-1))).bind λmR=>(c9 x1 mR).bind λgR=>(some (gR%18446744073709551616)).bind λoG=>(some (IntKind.i64.wrap (dj-2))).bind λmQ=>(c9 x1 mQ).bind λrj=>(some (rj%18446744073709551616)).bind λyO=>(AA 18446744073709551616 lO oG).bind λlT=>(yW lO oG).bind λDF=>(b9 (λ(zS:Nat×Nat)=>match zS with|⟨y7,zT⟩=>(show Option ((Nat×Nat)⊕(Nat))from cg (λ(D3:Bool)=>(bif D3 then(some (mw 18446744073709551616 y7 1)).bind λM1=>(some ((zT+oG)%18446744073709551616)).bind λM3=>(some (M3/2^32)).bind λQ8=>(some (decide ((Q8:Nat)≠0))).bind λQ9=>(bif Q9 then some (.inr M1)else some (.inl (M1,M3)))else some (.inr y7))) λIe=>(some (y7/2^32)).bind λDG=>(some (decide ((DG:Nat)≠0))).bind λo9=>(bif o9 then some true else(some ((y7*yO)%18446744073709551616)).bind λvG=>(some (zT*2^32%18446744073709551616)).bind λy5=>(some (IntKind.i64.wrap (dj-2))).bind λLp=>(Ky o0 n0 Lp).bind λMZ=>(x0[MZ]?).bind λLn=>(some (Ln%18446744073709551616)).bind λRa=>(some ((y5 ||| Ra)%18446744073709551616)).bind λIh=>(some (decide ((Ih:Nat)<vG))).bind λGp=>some Gp).bind λIk=>Ie Ik)) (lT,DF)).bind λGq=>(q9 x0 x0).bind λ_=>some (Gq,x0)
noncomputable def cG(x0:List Nat)(o0:Nat)(n0:Nat)(x1:List Nat)(x2:Nat):Option (Bool×List Nat):=(some (n0:Int)).bind λdV=>(b9 (λ(DH:Nat×Int×Nat×(List Nat))=>match DH with|⟨Gr,sY,AN,qo⟩=>(show Option ((Nat×Int×Nat×(List Nat))⊕(Nat×(List Nat)))from(some (decide ((sY:Int)<dV))).bind λfE=>(bif fE then(some (x1.length:Int)).bind λju=>(some (decide ((sY:Int)<ju))).bind λgi=>cg (λ(Il:Nat)=>(Ky o0 n0 sY).bind λoG=>(qo[oG]?).bind λiF=>(some (iF%18446744073709551616)).bind λl7=>(bH Il AN).bind λ⟨sD,VL⟩=>(some (sD%18446744073709551616)).bind λyO=>(some (mw 18446744073709551616 l7 yO)).bind λsy=>(some (mw 18446744073709551616 sy Gr)).bind λlT=>(some (lT%4294967296)).bind λza=>(Ky o0 n0 sY).bind λDG=>(stM qo DG za).bind λVM=>(some (lT/2^63)).bind λsB=>(some (IntKind.i64.wrap (sY+1))).bind λy4=>some (.inl (sB,y4,VL,VM))) λK14=>(bif gi then(c9 x1 sY).bind λgO=>(some (gO%18446744073709551616)).bind λkN=>(some ((kN*x2)%18446744073709551616)).bind λmR=>K14 mR else K14 0)else some (.inr (Gr,qo))))) (0,0,0,x0)).bind λKz=>match Kz with|⟨Im,sZ⟩=>(some (decide ((Im:Nat)≠0))).bind λvG=>(q9 x0 sZ).bind λ_=>some (vG,sZ)
noncomputable def gA(x0:List Nat)(x1:List Nat):Option ((List Nat)×(List Nat)):=(some (x1.length:Int)).bind λeM=>(some (IntKind.i64.wrap (eM-1))).bind λju=>(c9 x1 ju).bind λgi=>(cO gi).bind λgM=>(some ((gM%18446744073709551616).toNat)).bind λgO=>(gj x0 gO).bind λgN=>(ek x1 gO).bind λuO=>(sM uO 0 eM).bind λiF=>(some (x0.length:Int)).bind λmQ=>(some (IntKind.i64.wrap (mQ-eM))).bind λsD=>(some (IntKind.i64.wrap (sD+1))).bind λyO=>(Ca 4 yO (0:Nat)).bind λsy=>(some (x0.length:Int)).bind λlT=>(some (IntKind.i64.wrap (lT-eM))).bind λo8=>(b9 (λ(Pe:Int×(List Nat)×(List Nat))=>match Pe with|⟨gW,pg,rT⟩=>(show Option ((Int×(List Nat)×(List Nat))⊕((List Nat)×(List Nat)))from(some (decide ((0:Int)<=gW))).bind λza=>(bif za then(some (IntKind.i64.wrap (gW+eM))).bind λMY=>(some (IntKind.i64.wrap (MY+1))).bind λy5=>(O5 rT gW y5).bind λ⟨o53,n53⟩=>(fV rT o53 n53 iF).bind λ⟨Lp,Pf⟩=>(q9 rT Pf).bind λ_=>(some (IntKind.i64.wrap (gW+eM))).bind λGp=>(some (IntKind.i64.wrap (Gp+1))).bind λPc=>(O5 Pf gW Pc).bind λ⟨o62,n62⟩=>(cG Pf o62 n62 iF Lp).bind λ⟨Pg,Rb⟩=>(q9 Pf Rb).bind λ_=>cg (λ(Rc:Nat×(List Nat))=>match Rc with|⟨Io,D4⟩=>(some (Io%4294967296)).bind λPh=>(uy pg gW).bind λSd=>(stM pg Sd Ph).bind λVN=>(some (IntKind.i64.wrap (gW-1))).bind λo9=>some (.inl (o9,VN,D4))) λK53=>(bif Pg then(some (mw 18446744073709551616 Lp 1)).bind λSe=>(some (iF.length:Int)).bind λVO=>(b9 (λ(Pj:Int×Nat×(List Nat))=>match Pj with|⟨uP,tc,rU⟩=>(show Option ((Int×Nat×(List Nat))⊕(Nat×(List Nat)))from(some (decide ((uP:Int)<VO))).bind λIp=>(bif Ip then(c9 iF uP).bind λLq=>(some (IntKind.i64.wrap (gW+uP))).bind λx79=>(some (IntKind.i64.wrap (gW+uP))).bind λx84=>(uy rU x84).bind λSf=>(rU[Sf]?).bind λIq=>(some (Iq%18446744073709551616)).bind λVP=>(some (Lq%18446744073709551616)).bind λVQ=>(some ((VP+VQ)%18446744073709551616)).bind λSg=>(bH Sg tc).bind λ⟨Pk,VR⟩=>(uy rU x79).bind λx92=>(stM rU x92 Pk).bind λVS=>(some (IntKind.i64.wrap (uP+1))).bind λVT=>some (.inl (VT,VR,VS))else some (.inr (tc,rU))))) (0,0,Rb)).bind λVU=>match VU with|⟨Cp,xE⟩=>(some (IntKind.i64.wrap (gW+eM))).bind λx97=>(some (IntKind.i64.wrap (gW+eM))).bind λD5=>(uy xE D5).bind λSh=>(xE[Sh]?).bind λD6=>(some (D6%18446744073709551616)).bind λGs=>(bH Gs Cp).bind λ⟨Pm,k72⟩=>(uy xE x97).bind λSi=>(stM xE Si Pm).bind λVV=>K53 (Se,VV)else K53 (Lp,Rb))else some (.inr (pg,rT))))) (o8,sy,gN)).bind λSj=>match Sj with|⟨xF,uQ⟩=>(Ca 4 eM (0:Nat)).bind λD7=>(b9 (λ(Rd:Int×(List Nat))=>match Rd with|⟨qp,tf⟩=>(show Option ((Int×(List Nat))⊕((List Nat)))from(some (decide ((qp:Int)<eM))).bind λPn=>(bif Pn then(uy uQ qp).bind λSk=>(uQ[Sk]?).bind λSl=>(some (Sl%18446744073709551616)).bind λPo=>(some (IntKind.i64.wrap (qp+1))).bind λSn=>(uy uQ Sn).bind λSo=>(uQ[So]?).bind λSq=>(some (Sq%18446744073709551616)).bind λPp=>(some (Pp*2^32%18446744073709551616)).bind λPq=>(some ((Po ||| Pq)%18446744073709551616)).bind λPr=>(some (Pr/2^(min gO 64))).bind λSr=>(some (Sr%4294967296)).bind λPs=>(uy tf qp).bind λSs=>(stM tf Ss Ps).bind λVW=>(some (IntKind.i64.wrap (qp+1))).bind λPt=>some (.inl (Pt,VW))else some (.inr tf)))) (0,D7)).bind λoa=>some (xF,oa)
noncomputable def eP(x0:List Nat)(x1:List Nat):Option ((List Nat)×(List Nat)):=(cz x0 x1).bind λdj=>(some (decide ((dj:Int)<0))).bind λkE=>(bif kE then(c7 x0).bind λeN=>some ([],eN)else(some (x0.length:Int)).bind λfj=>(some (decide ((fj:Int)<=2))).bind λjZ=>(bif jZ then(cW x0).bind λgi=>(cW x1).bind λgM=>(AA 18446744073709551616 gi gM).bind λkN=>(dO false kN).bind λ⟨tg,rm⟩=>(yW gi gM).bind λoG=>(dO false oG).bind λ⟨ru,pq⟩=>some (rm,pq)else(some (x1.length:Int)).bind λsD=>(some (decide ((sD:Int)=1))).bind λyO=>(bif yO then(c7 x0).bind λoP=>(c9 x1 0).bind λo8=>(some (o8%18446744073709551616)).bind λza=>(fU oP za).bind λ⟨DG,l5⟩=>(q9 oP l5).bind λ_=>(some (DG%4294967296)).bind λy4=>some (l5,[y4])else(gA x0 x1).bind λ⟨St,Su⟩=>some (St,Su))))
noncomputable def bV(x0:Int):Option (Zr):=(some ((x0%18446744073709551616).toNat)).bind λx5=>(some (decide ((x0:Int)<0))).bind λx7=>cg (λ(Cq:Nat)=>(some (decide ((x0:Int)<0))).bind λfK=>(dO fK Cq).bind λ⟨M4,M5⟩=>some ⟨M4,M5⟩) λK2=>(bif x7 then(some (mw 18446744073709551616 0 x5)).bind λx9=>K2 x9 else K2 x5)
noncomputable def cQ(x0:Zr):Option (Int×Bool):=match x0 with|⟨bu,bt⟩=>(bn bt).bind λx8=>(some (x8.length:Int)).bind λdJ=>(some (decide ((2:Int)<dJ))).bind λfK=>(bif fK then some (0,false)else(cW x8).bind λkE=>(bif bu then(some (decide ((9223372036854775808:Nat)<kE))).bind λeM=>(bif eM then some (0,false)else(some (mw 18446744073709551616 0 kE)).bind λjZ=>(some (IntKind.i64.wrap (jZ:Int))).bind λju=>some (ju,true))else(some (decide ((9223372036854775808:Nat)<=kE))).bind λgQ=>(bif gQ then some (0,false)else(some (IntKind.i64.wrap (kE:Int))).bind λgO=>some (gO,true))))
noncomputable def cI(x0:Bool)(x1:List Nat)(x2:Bool)(x3:List Nat):Option (Zr):=(some (x0==x2)).bind λfK=>(bif fK then(dL x1 x3).bind λeN=>(bZ x0 eN).bind λ⟨jg,jh⟩=>some ⟨jg,jh⟩else(cz x1 x3).bind λjZ=>(some (decide ((jZ:Int)<0))).bind λju=>(bif ju then(cE x3 x1).bind λgO=>(bZ x2 gO).bind λ⟨vH,th⟩=>some ⟨vH,th⟩else(cE x1 x3).bind λgR=>(bZ x0 gR).bind λ⟨tj,tq⟩=>some ⟨tj,tq⟩))
noncomputable def kO(x0:Zr)(x1:Zr):Option (Zr):=match x0 with|⟨bu,bt⟩=>match x1 with|⟨b7,bX⟩=>(cQ ⟨bu,bt⟩).bind λ⟨zb,D8⟩=>(cQ ⟨b7,bX⟩).bind λ⟨AO,D9⟩=>cg (λ(xG:Bool)=>cg (λ(j5:Unit)=>(bn bt).bind λwO=>(bn bX).bind λo9=>(cI bu wO b7 o9).bind λ⟨Cr,Cs⟩=>some ⟨Cr,Cs⟩) λK5=>(bif xG then(some (IntKind.i64.wrap (zb+AO))).bind λkN=>(some (IntKind.i64.wrap ((BitVec.ofInt 64 zb ^^^ BitVec.ofInt 64 kN).toNat))).bind λgR=>(some (IntKind.i64.wrap ((BitVec.ofInt 64 AO ^^^ BitVec.ofInt 64 kN).toNat))).bind λiF=>(some (IntKind.i64.wrap ((BitVec.ofInt 64 gR &&& BitVec.ofInt 64 iF).toNat))).bind λl7=>(some (decide ((0:Int)<=l7))).bind λmQ=>(bif mQ then(bV kN).bind λ⟨pz,pA⟩=>some ⟨pz,pA⟩else K5 ())else K5 ())) λK3=>(bif D8 then some D9 else some false).bind λCt=>K3 Ct
noncomputable def kP(x0:Zr)(x1:Zr):Option (Zr):=match x0 with|⟨bu,bt⟩=>match x1 with|⟨b7,bX⟩=>(cQ ⟨bu,bt⟩).bind λ⟨zb,D8⟩=>(cQ ⟨b7,bX⟩).bind λ⟨AO,D9⟩=>cg (λ(xG:Bool)=>cg (λ(j5:Unit)=>(bn bt).bind λwO=>(some (!b7)).bind λza=>(bn bX).bind λsB=>(cI bu wO za sB).bind λ⟨M6,M7⟩=>some ⟨M6,M7⟩) λK5=>(bif xG then(some (IntKind.i64.wrap (zb-AO))).bind λkN=>(some (IntKind.i64.wrap ((BitVec.ofInt 64 zb ^^^ BitVec.ofInt 64 AO).toNat))).bind λgR=>(some (IntKind.i64.wrap ((BitVec.ofInt 64 zb ^^^ BitVec.ofInt 64 kN).toNat))).bind λiF=>(some (IntKind.i64.wrap ((BitVec.ofInt 64 gR &&& BitVec.ofInt 64 iF).toNat))).bind λl7=>(some (decide ((0:Int)<=l7))).bind λmQ=>(bif mQ then(bV kN).bind λ⟨pz,pA⟩=>some ⟨pz,pA⟩else K5 ())else K5 ())) λK3=>(bif D8 then some D9 else some false).bind λCt=>K3 Ct
noncomputable def cX(x0:Zr)(x1:Zr):Option (Zr):=match x0 with|⟨bu,bt⟩=>match x1 with|⟨b7,bX⟩=>(bn bt).bind λx9=>(bn bX).bind λdj=>cg (λ(Ir:Bool)=>(bif Ir then(some (!(bu==b7))).bind λlO=>(cW x9).bind λgN=>(cW dj).bind λgR=>(some ((gN*gR)%18446744073709551616)).bind λuO=>(dO lO uO).bind λ⟨M8,M9⟩=>some ⟨M8,M9⟩else(some (!(bu==b7))).bind λsD=>(eO x9 dj).bind λoP=>(bZ sD oP).bind λ⟨vI,vJ⟩=>some ⟨vI,vJ⟩)) λK3=>(some (x9.length:Int)).bind λdV=>(some (decide ((dV:Int)<=1))).bind λeN=>(bif eN then(some (dj.length:Int)).bind λfj=>(some (decide ((fj:Int)<=1))).bind λjZ=>some jZ else some false).bind λNa=>K3 Na
noncomputable def fy(x0:Zr):Option (Zr):=match x0 with|⟨bu,bt⟩=>(some (!bu)).bind λx5=>(bn bt).bind λx8=>(c7 x8).bind λx9=>(bZ x5 x9).bind λ⟨vK,vL⟩=>some ⟨vK,vL⟩
noncomputable def cq(x0:Zr):Option (Int):=match x0 with|⟨bu,bt⟩=>(bn bt).bind λx6=>(some (x6.length:Int)).bind λx7=>(some (decide ((x7:Int)=0))).bind λx8=>(bif x8 then some 0 else(bif bu then some (-1)else some 1))
noncomputable def kQ(x0:Zr)(x1:Zr):Option (Int):=match x0 with|⟨bu,bt⟩=>match x1 with|⟨b7,bX⟩=>(cq ⟨bu,bt⟩).bind λx8=>(cq ⟨b7,bX⟩).bind λdJ=>(some (decide ((x8:Int)<dJ))).bind λdV=>(bif dV then some (-1)else(some (decide ((dJ:Int)<x8))).bind λfj=>(bif fj then some 1 else(some (decide ((x8:Int)<0))).bind λgi=>(bif gi then(bn bX).bind λgO=>(bn bt).bind λgN=>(cz gO gN).bind λmR=>some mR else(bn bt).bind λoG=>(bn bX).bind λmQ=>(cz oG mQ).bind λrj=>some rj)))
noncomputable def dW(x0:Zr)(x1:Zr):Option (Zr×Zr×Int):=match x0 with|⟨bu,bt⟩=>match x1 with|⟨b7,bX⟩=>(bn bt).bind λkE=>(bn bX).bind λfE=>(some (fE.length:Int)).bind λfj=>(some (decide ((fj:Int)=0))).bind λjZ=>(bif jZ then some (⟨false,[]⟩,⟨false,[]⟩,7)else(eP kE fE).bind λ⟨xH,AP⟩=>(bn AP).bind λgR=>cg (λ(j3:Bool×Bool)=>match j3 with|⟨Is,rV⟩=>cg (λ(j5:(List Nat)×(List Nat))=>match j5 with|⟨It,Cu⟩=>(some (!(rV==b7))).bind λsB=>(bZ sB It).bind λ⟨Cv,Cw⟩=>(bZ false Cu).bind λ⟨Nb,Nc⟩=>some (⟨Cv,Cw⟩,⟨Nb,Nc⟩,0)) λK5=>(bif Is then(dL xH [1]).bind λoP=>(cE fE gR).bind λo8=>K5 (oP,o8)else K5 (xH,gR))) λK3=>(bif bu then(some (gR.length:Int)).bind λmQ=>(some (decide ((0:Int)<mQ))).bind λrj=>some rj else some false).bind λNd=>K3 (Nd,bu))
noncomputable def ji(x0:Zr)(x1:Zr):Option (Zr):=match x0 with|⟨bu,bt⟩=>match x1 with|⟨b7,bX⟩=>(bn bt).bind λkE=>(bn bX).bind λfE=>(b9 (λ(DH:(List Nat)×(List Nat))=>match DH with|⟨Gt,AQ⟩=>(show Option (((List Nat)×(List Nat))⊕((List Nat)×(List Nat)))from cg (λ(Ea:Bool)=>(bif Ea then(eP Gt AQ).bind λ⟨VX,Sv⟩=>(bn Sv).bind λsy=>some (.inl (AQ,sy))else some (.inr (Gt,AQ)))) λVY=>(some (AQ.length:Int)).bind λfj=>(some (decide ((0:Int)<fj))).bind λjZ=>(bif jZ then(some (Gt.length:Int)).bind λgQ=>(some (decide ((2:Int)<gQ))).bind λgM=>(bif gM then some true else(some (AQ.length:Int)).bind λkN=>(some (decide ((2:Int)<kN))).bind λgN=>some gN).bind λIu=>some Iu else some false).bind λIv=>VY Iv)) (kE,fE)).bind λKz=>match Kz with|⟨Iw,Iy⟩=>(some (Iy.length:Int)).bind λlT=>(some (decide ((lT:Int)=0))).bind λwO=>(bif wO then(c7 Iw).bind λDF=>(bZ false DF).bind λ⟨Nf,Ng⟩=>some ⟨Nf,Ng⟩else(cW Iw).bind λo9=>(cW Iy).bind λy4=>(b9 (λ(Re:Nat×Nat)=>match Re with|⟨Fm,uR⟩=>(show Option ((Nat×Nat)⊕(Nat))from(some (decide ((0:Nat)<uR))).bind λvG=>(bif vG then(yW Fm uR).bind λCx=>some (.inl (uR,Cx))else some (.inr Fm)))) (o9,y4)).bind λzU=>(dO false zU).bind λ⟨Nh,Ni⟩=>some ⟨Nh,Ni⟩)
end
section
open Go.Fw Go.Fw.Z Go.RowKit
theorem dM(c:Nat):OS ah 143 [.v (.int .u64 (c:Nat))] 157 104 [.v (.int .u64 (c:Nat))]:=by
 refine DV Tryz.func143 Y (af Y) (λdD M vs hvs=>?_);exact sr<|RT.Ap .none (s:=.sv _) Y T Y Y<|ag Y<|dn<|sr<|RT.makeFunc .none (.box Y (.nil)) T<|an (s:=.eT _ _) Y<|dn<|bf<|⟨.inr Y,_,.tmp Y,Y⟩
theorem pB(a b:List Nat):Pure ah 160 [(slc 1 (List.map aY a)),(slc 1 (List.map aY b))] (nZ 169 [ref [(slc 1 (List.map aY a))],ref [(slc 1 (List.map aY b))]]):=by
 refine aZ Tryz.func160 Y (af Y) (λdD M vs hvs=>?_);refine sr<|RT.Ap .none (s:=.sv _) Y T Y Y<|RT.Ap .none (s:=.sv _) Y T Y Y<|ag Y<|dn<|sr<|RT.makeFunc .none (.box Y (.box Y (.nil))) T<|an (s:=.eT _ _) Y<|dn<|bQ (ke (i:=2) Y [(slc 1 (List.map aY a))] (.cons Y .nil) .any 0 [(4,.eT 169 [.val (ref [(slc 1 (List.map aY a))]),.box 3])] (λ_ _ _=>trivial) (rF.h (l:=[(slc 1 (List.map aY a))])) ⟨@FT.eT _ _ _ _ _ 4 169 [.box 2,.box 3] Y,aq⟩) ?_;exact bQ (ke (i:=3) Y [(slc 1 (List.map aY b))] (.cons Y .nil) .any 0 [(4,.eT 169 [.val (ref [(slc 1 (List.map aY a))]),.val (ref [(slc 1 (List.map aY b))])])] (λ_ _ _=>trivial) (rF.h (l:=[(slc 1 (List.map aY b))])) ⟨@FT.eT _ _ _ _ _ 4 169 [.val (ref [(slc 1 (List.map aY a))]),.box 3] Y,aq⟩)<|bQ (Ay 4 (nZ 169 [ref [(slc 1 (List.map aY a))],ref [(slc 1 (List.map aY b))]]) (λ_ _ h=>Az h))<|bf<|⟨.inr Y,Au (.tmp Y (.nil)) Y⟩
theorem pC(a b:List Nat):Iter ah 169 [ref [(slc 1 (List.map aY a))],ref [(slc 1 (List.map aY b))]] (max a.length b.length) (λk=>[.v (.int .u64 ((a.getD k 0%18446744073709551616:Nat):Int)),.v (.int .u64 ((b.getD k 0%18446744073709551616:Nat):Int))]):=by
 refine n6 Tryz.func169 Y Y (af Y) (λdD M O l J hJ uz hr=>?_);obtain⟨oN,uz⟩:=uz;have hla:a.length<=9223372036854775807:=by cases oN with|nil=>exact uz.elim|cons _ oN=>exact qm uz.1
 have hlb:b.length<=9223372036854775807:=by cases oN with|nil=>exact uz.elim|cons _ oN=>cases oN with|nil=>exact uz.2.elim|cons _ _=>exact qm uz.2.1
 refine bz ?_;refine aW ?_;refine RT.cw .none Y Y (tl Y) ?_;refine RT.len .none Y (tl Y) ?_;refine RT.cw .none Y Y (tl Y) ?_;refine RT.len .none Y (tl Y) ?_;refine RT.max .none (((max a.length b.length:Nat):Int)) Y Y (tl Y) (by simp only[List.length_map];split<;>omega) ?_;refine RT.mv .none Y (tl Y) ?_;refine RT.done ?_;refine aV.n ?_;refine bj ?_
 refine sF (I:=λx:{i:Nat//i<=max a.length b.length}=>AS.ct 39 [(0,.sv (.v (.func (.yield l) #[] #[]))),(1,.sv (ref [(slc 1 (List.map aY a))])),(2,.sv (ref [(slc 1 (List.map aY b))])),(11,ai ((max a.length b.length:Nat):Int)),(12,ai ((x.1:Nat):Int))] [] [] (x.1)) (μ:=λx=>max a.length b.length-x.1) ⟨0,by omega⟩ (by(try dsimp only);exact c8 id Y Y Y Y Y ⟨.sv (by first|exact au|exact SV.aX (by omega)|exact SV.aX (by push_cast;omega)|exact SV.aX (by dsimp only;omega)|exact SV.imp_eq (by simp)),.sv (by first|exact au|exact SV.aX (by omega)|exact SV.aX (by push_cast;omega)|exact SV.aX (by dsimp only;omega)|exact SV.imp_eq (by simp)),.sv (by first|exact au|exact SV.aX (by omega)|exact SV.aX (by push_cast;omega)|exact SV.aX (by dsimp only;omega)|exact SV.imp_eq (by simp)),.sv (by first|exact au|exact SV.aX (by omega)|exact SV.aX (by push_cast;omega)|exact SV.aX (by dsimp only;omega)|exact SV.imp_eq (by simp)),.sv (by first|exact au|exact SV.aX (by omega)|exact SV.aX (by push_cast;omega)|exact SV.aX (by dsimp only;omega)|exact SV.imp_eq (by simp)),aq⟩ trivial trivial (λ_ _=>Y)) ?_;rintro⟨i,MX⟩
 try dsimp only
 rcases xz a b i MX with⟨hi,we,B4⟩|⟨hi,we,B4⟩|⟨hi,we,B4⟩|hi
 ·
  refine bz ?_;refine aW ?_;refine RT.lss .none (true) Y Y (tl Y) (by simp;omega) ?_;refine RT.done ?_;refine aV.n ?_;refine bz ?_;refine cm Y ?_;refine bp ?_;refine aV.n ?_;refine bz ?_;refine bj ?_;refine bz ?_;refine aW ?_;refine RT.mv .none Y (tl Y) ?_;refine RT.xj .none Y (tl Y) ?_;refine RT.done ?_;refine aV.n ?_;refine bz ?_;refine aW ?_;refine RT.xj .none Y (tl Y) ?_;refine RT.xj .none Y (tl Y) ?_;refine RT.done ?_;refine aV.n ?_;refine bz ?_;refine bz ?_;refine aW ?_;refine RT.mv .none Y (tl Y) ?_;refine RT.cw .none Y Y (tl Y) ?_;refine RT.len .none Y (tl Y) ?_;refine RT.lss .none (true) Y Y (tl Y) (by simp only[List.length_map];simp;omega) ?_;refine RT.done ?_;refine aV.n ?_;refine cm Y ?_;refine aW ?_;refine RT.cw .none Y Y (tl Y) ?_;refine RT.mv .none Y (tl Y) ?_;refine RT.HG .none [.v (.int .u32 ((a.getD i 0:Nat):Int))] (Int.natCast_nonneg i) (by rw[Int.toNat_natCast,List.getElem?_map,o4 we];rfl) Y Y (tl Y) ?_;refine RT.cw .none Y Y (tl Y) ?_;refine RT.conv .none (((a.getD i 0%18446744073709551616:Nat):Int)) Y (tl Y) K1 ?_;refine RT.xj .none Y (tl Y) ?_;refine RT.done ?_;refine aV.n ?_;refine bz ?_;refine bz ?_;refine aW ?_;refine RT.mv .none Y (tl Y) ?_
  refine RT.cw .none Y Y (tl Y) ?_;refine RT.len .none Y (tl Y) ?_;refine RT.lss .none (true) Y Y (tl Y) (by simp only[List.length_map];simp;omega) ?_;refine RT.done ?_;refine aV.n ?_;refine cm Y ?_;refine aW ?_;refine RT.cw .none Y Y (tl Y) ?_;refine RT.mv .none Y (tl Y) ?_;refine RT.HG .none [.v (.int .u32 ((b.getD i 0:Nat):Int))] (Int.natCast_nonneg i) (by rw[Int.toNat_natCast,List.getElem?_map,o4 B4];rfl) Y Y (tl Y) ?_;refine RT.cw .none Y Y (tl Y) ?_;refine RT.conv .none (((b.getD i 0%18446744073709551616:Nat):Int)) Y (tl Y) K1 ?_;refine RT.xj .none Y (tl Y) ?_;refine RT.done ?_;refine aV.n ?_;refine bz ?_;refine aW ?_;refine RT.mv .none Y (tl Y) ?_;refine RT.mv .none Y (tl Y) ?_;refine RT.mv .none Y (tl Y) ?_;refine RT.yield .none hr Y (λ_ h=>h) Y (i) Y Y hi (by exact⟨Y,Y,aq⟩) (tl Y) (λyb=>?_);cases yb
  ·
   refine RT.not .none Y (tl Y) true Y ?_;refine RT.done ?_;refine aV.n ?_;refine cm Y ?_;refine bf ?_;refine bw.r ?_;refine aV.r ?_;refine aV.r ?_;refine bw.r ?_;exact⟨.inr rfl,(λh=>by cases h)⟩
  refine RT.not .none Y (tl Y) false Y ?_;refine RT.done ?_;refine aV.n ?_;refine dh Y ?_;refine bp ?_;refine bw.n ?_;refine aV.n ?_;refine aW ?_;refine RT.add .none (((i:Nat):Int)+1) Y Y (tl Y) (jx (by omega)) ?_;refine RT.mv .none Y (tl Y) ?_;refine RT.done ?_;refine aV.n ?_;refine⟨⟨i+1,by omega⟩,(by dsimp only;omega),?_⟩
  try dsimp only
  exact c8 id Y Y Y Y Y ⟨.sv (by first|exact au|exact SV.aX (by omega)|exact SV.aX (by push_cast;omega)|exact SV.aX (by dsimp only;omega)|exact SV.imp_eq (by simp)),.sv (by first|exact au|exact SV.aX (by omega)|exact SV.aX (by push_cast;omega)|exact SV.aX (by dsimp only;omega)|exact SV.imp_eq (by simp)),.sv (by first|exact au|exact SV.aX (by omega)|exact SV.aX (by push_cast;omega)|exact SV.aX (by dsimp only;omega)|exact SV.imp_eq (by simp)),.sv (by first|exact au|exact SV.aX (by omega)|exact SV.aX (by push_cast;omega)|exact SV.aX (by dsimp only;omega)|exact SV.imp_eq (by simp)),.sv (by first|exact au|exact SV.aX (by omega)|exact SV.aX (by push_cast;omega)|exact SV.aX (by dsimp only;omega)|exact SV.imp_eq (by simp)),aq⟩ trivial trivial (λ_ _=>Y)
 ·
  refine bz ?_;refine aW ?_;refine RT.lss .none (true) Y Y (tl Y) (by simp;omega) ?_;refine RT.done ?_;refine aV.n ?_;refine bz ?_;refine cm Y ?_;refine bp ?_;refine aV.n ?_;refine bz ?_;refine bj ?_;refine bz ?_;refine aW ?_;refine RT.mv .none Y (tl Y) ?_;refine RT.xj .none Y (tl Y) ?_;refine RT.done ?_;refine aV.n ?_;refine bz ?_;refine aW ?_;refine RT.xj .none Y (tl Y) ?_;refine RT.xj .none Y (tl Y) ?_;refine RT.done ?_;refine aV.n ?_;refine bz ?_;refine bz ?_;refine aW ?_;refine RT.mv .none Y (tl Y) ?_;refine RT.cw .none Y Y (tl Y) ?_;refine RT.len .none Y (tl Y) ?_;refine RT.lss .none (true) Y Y (tl Y) (by simp only[List.length_map];simp;omega) ?_;refine RT.done ?_;refine aV.n ?_;refine cm Y ?_;refine aW ?_;refine RT.cw .none Y Y (tl Y) ?_;refine RT.mv .none Y (tl Y) ?_;refine RT.HG .none [.v (.int .u32 ((a.getD i 0:Nat):Int))] (Int.natCast_nonneg i) (by rw[Int.toNat_natCast,List.getElem?_map,o4 we];rfl) Y Y (tl Y) ?_;refine RT.cw .none Y Y (tl Y) ?_;refine RT.conv .none (((a.getD i 0%18446744073709551616:Nat):Int)) Y (tl Y) K1 ?_;refine RT.xj .none Y (tl Y) ?_;refine RT.done ?_;refine aV.n ?_;refine bz ?_;refine bz ?_;refine aW ?_;refine RT.mv .none Y (tl Y) ?_
  refine RT.cw .none Y Y (tl Y) ?_;refine RT.len .none Y (tl Y) ?_;refine RT.lss .none (false) Y Y (tl Y) (by simp only[List.length_map];simp;omega) ?_;refine RT.done ?_;refine aV.n ?_;refine dh Y ?_;refine bp ?_;refine aV.n ?_;refine bz ?_;refine aW ?_;refine RT.mv .none Y (tl Y) ?_;refine RT.mv .none Y (tl Y) ?_;refine RT.mv .none Y (tl Y) ?_;refine RT.yield .none hr Y (λ_ h=>h) Y (i) Y Y hi (by exact⟨Y,(by show AV.sv _=AV.sv _;rw[rQ B4];rfl),aq⟩) (tl Y) (λyb=>?_);cases yb
  ·
   refine RT.not .none Y (tl Y) true Y ?_;refine RT.done ?_;refine aV.n ?_;refine cm Y ?_;refine bf ?_;refine bw.r ?_;refine aV.r ?_;refine aV.r ?_;refine bw.r ?_;exact⟨.inr rfl,(λh=>by cases h)⟩
  refine RT.not .none Y (tl Y) false Y ?_;refine RT.done ?_;refine aV.n ?_;refine dh Y ?_;refine bp ?_;refine bw.n ?_;refine aV.n ?_;refine aW ?_;refine RT.add .none (((i:Nat):Int)+1) Y Y (tl Y) (jx (by omega)) ?_;refine RT.mv .none Y (tl Y) ?_;refine RT.done ?_;refine aV.n ?_;refine⟨⟨i+1,by omega⟩,(by dsimp only;omega),?_⟩
  try dsimp only
  exact c8 id Y Y Y Y Y ⟨.sv (by first|exact au|exact SV.aX (by omega)|exact SV.aX (by push_cast;omega)|exact SV.aX (by dsimp only;omega)|exact SV.imp_eq (by simp)),.sv (by first|exact au|exact SV.aX (by omega)|exact SV.aX (by push_cast;omega)|exact SV.aX (by dsimp only;omega)|exact SV.imp_eq (by simp)),.sv (by first|exact au|exact SV.aX (by omega)|exact SV.aX (by push_cast;omega)|exact SV.aX (by dsimp only;omega)|exact SV.imp_eq (by simp)),.sv (by first|exact au|exact SV.aX (by omega)|exact SV.aX (by push_cast;omega)|exact SV.aX (by dsimp only;omega)|exact SV.imp_eq (by simp)),.sv (by first|exact au|exact SV.aX (by omega)|exact SV.aX (by push_cast;omega)|exact SV.aX (by dsimp only;omega)|exact SV.imp_eq (by simp)),aq⟩ trivial trivial (λ_ _=>Y)
 ·
  refine bz ?_;refine aW ?_;refine RT.lss .none (true) Y Y (tl Y) (by simp;omega) ?_;refine RT.done ?_;refine aV.n ?_;refine bz ?_;refine cm Y ?_;refine bp ?_;refine aV.n ?_;refine bz ?_;refine bj ?_;refine bz ?_;refine aW ?_;refine RT.mv .none Y (tl Y) ?_;refine RT.xj .none Y (tl Y) ?_;refine RT.done ?_;refine aV.n ?_;refine bz ?_;refine aW ?_;refine RT.xj .none Y (tl Y) ?_;refine RT.xj .none Y (tl Y) ?_;refine RT.done ?_;refine aV.n ?_;refine bz ?_;refine bz ?_;refine aW ?_;refine RT.mv .none Y (tl Y) ?_;refine RT.cw .none Y Y (tl Y) ?_;refine RT.len .none Y (tl Y) ?_;refine RT.lss .none (false) Y Y (tl Y) (by simp only[List.length_map];simp;omega) ?_;refine RT.done ?_;refine aV.n ?_;refine dh Y ?_;refine bp ?_;refine aV.n ?_;refine bz ?_;refine bz ?_;refine aW ?_;refine RT.mv .none Y (tl Y) ?_;refine RT.cw .none Y Y (tl Y) ?_;refine RT.len .none Y (tl Y) ?_;refine RT.lss .none (true) Y Y (tl Y) (by simp only[List.length_map];simp;omega) ?_;refine RT.done ?_;refine aV.n ?_;refine cm Y ?_;refine aW ?_;refine RT.cw .none Y Y (tl Y) ?_;refine RT.mv .none Y (tl Y) ?_
  refine RT.HG .none [.v (.int .u32 ((b.getD i 0:Nat):Int))] (Int.natCast_nonneg i) (by rw[Int.toNat_natCast,List.getElem?_map,o4 B4];rfl) Y Y (tl Y) ?_;refine RT.cw .none Y Y (tl Y) ?_;refine RT.conv .none (((b.getD i 0%18446744073709551616:Nat):Int)) Y (tl Y) K1 ?_;refine RT.xj .none Y (tl Y) ?_;refine RT.done ?_;refine aV.n ?_;refine bz ?_;refine aW ?_;refine RT.mv .none Y (tl Y) ?_;refine RT.mv .none Y (tl Y) ?_;refine RT.mv .none Y (tl Y) ?_;refine RT.yield .none hr Y (λ_ h=>h) Y (i) Y Y hi (by exact⟨(by show AV.sv _=AV.sv _;rw[rQ we];rfl),Y,aq⟩) (tl Y) (λyb=>?_);cases yb
  ·
   refine RT.not .none Y (tl Y) true Y ?_;refine RT.done ?_;refine aV.n ?_;refine cm Y ?_;refine bf ?_;refine bw.r ?_;refine aV.r ?_;refine aV.r ?_;refine bw.r ?_;exact⟨.inr rfl,(λh=>by cases h)⟩
  refine RT.not .none Y (tl Y) false Y ?_;refine RT.done ?_;refine aV.n ?_;refine dh Y ?_;refine bp ?_;refine bw.n ?_;refine aV.n ?_;refine aW ?_;refine RT.add .none (((i:Nat):Int)+1) Y Y (tl Y) (jx (by omega)) ?_;refine RT.mv .none Y (tl Y) ?_;refine RT.done ?_;refine aV.n ?_;refine⟨⟨i+1,by omega⟩,(by dsimp only;omega),?_⟩
  try dsimp only
  exact c8 id Y Y Y Y Y ⟨.sv (by first|exact au|exact SV.aX (by omega)|exact SV.aX (by push_cast;omega)|exact SV.aX (by dsimp only;omega)|exact SV.imp_eq (by simp)),.sv (by first|exact au|exact SV.aX (by omega)|exact SV.aX (by push_cast;omega)|exact SV.aX (by dsimp only;omega)|exact SV.imp_eq (by simp)),.sv (by first|exact au|exact SV.aX (by omega)|exact SV.aX (by push_cast;omega)|exact SV.aX (by dsimp only;omega)|exact SV.imp_eq (by simp)),.sv (by first|exact au|exact SV.aX (by omega)|exact SV.aX (by push_cast;omega)|exact SV.aX (by dsimp only;omega)|exact SV.imp_eq (by simp)),.sv (by first|exact au|exact SV.aX (by omega)|exact SV.aX (by push_cast;omega)|exact SV.aX (by dsimp only;omega)|exact SV.imp_eq (by simp)),aq⟩ trivial trivial (λ_ _=>Y)
 subst hi;refine bz ?_;refine aW ?_;refine RT.lss .none (false) Y Y (tl Y) (by simp) ?_;refine RT.done ?_;refine aV.n ?_;refine bz ?_;refine dh Y ?_;refine bP ?_;refine aV.x ?_;refine aV.x ?_;refine bw.x ?_;exact⟨.inl Y,(λ_=>Y)⟩
theorem lG{x0 r:List Nat}(h:c7 x0=some r):Pure ah 123 [slc 1 (List.map aY x0)] (slc 1 (List.map aY r)):=by
 refine aZ Tryz.func123 Y (af Y) (λdD M vs hvs=>?_);unfold c7 at h;refine sr<|aI Y (aB (n:=1) (e:=aY))<|dn<|qq<|sr<|mv Y ?_;refine RT.MU .none Y T (λnb hnb=>?_);cases nb;exact dn<|fs<|sr<|RT.AF (l:=([]:List Nat)) (e:=aY) .none .nil T Y T Y Y Y Y Y Y<|mv Y<|RT.Le (k:=x0) (e:=aY) .none Y Y Y T Y T h<|ag Y<|dn<|bf<|RZ (.tmp Y .nil);have hx:x0=[]:=by simpa using hnb Y
 subst hx;obtain⟨_,_,rfl⟩:=sO h;exact dn<|cT<|sr<|aI Y (aB (n:=1) (e:=aY))<|dn<|bf<|aV.r<|RZ (.tmp Y .nil)
theorem uS{x0 r:List Nat}(h:c7 x0=some r):HN ah 123 [slc 1 (List.map aY x0)] (TR 106 1 aY r):=by
 refine xn Tryz.func123 Y (af Y) (λdD M vs hvs=>?_);unfold c7 at h;refine sr<|ag Y<|dn<|qq<|sr<|mv Y ?_;refine RT.MU .none Y T (λnb hnb=>?_);cases nb;exact dn<|fs<|sr<|RT.AF (l:=([]:List Nat)) (e:=aY) .none .nil T Y T Y Y Y Y Y Y<|mv Y<|aR (k:=x0) (e:=aY) Y Y Y h<|an (s:=.row _) Y<|dn<|bf<|⟨.inr Y,_,.tmp Y,Y⟩;have hx:x0=[]:=by simpa using hnb Y
 subst hx;obtain⟨_,_,rfl⟩:=sO h;exact dn<|cT<|sr<|ag Y<|dn<|bQ (gU 2 300 106 1 Y Y T)<|bf<|aV.r<|⟨.inr Y,_,.tmp Y,Y⟩
theorem bW{x0:Nat}{c0:Nat}{r:Nat×Nat}(h:bH x0 c0=some r):HO ah 157 [.v (.int .u64 ((x0:Nat):Int))] 104 [.v (.int .u64 ((c0:Nat):Int))] (.v (.int .u32 ((r.1:Nat):Int))) [.v (.int .u64 ((r.2:Nat):Int))]:=by
 refine xo Tryz.func157 Y (af Y) (λdD M β=>?_);unfold bH at h;refine sr<|ag Y<|dn<|sr<|mv Y<|lV Y Y Y<|lE h λx6 h6 h=>ad _ Y Y (UK.add (a:=x0) (b:=c0) h6)<|ag Y<|dn<|sr<|mv Y<|lE h λx8 h8 h=>RT.shr .none _ Y Y T (by decide) (AB (k:=.u64) (a:=x6) (q:=32) (s:=32) Y h8)<|RT.mm (cells:=[_]) .none (s:=.sv _) Y Y Y T Y<|dn<|sr<|mv Y<|lE h λdJ fZ h=>cv _ Y (UK.nat fZ)<|ag Y ?_;refine dn<|bf ?_;obtain rfl:=O h;exact⟨.inr Y,lQ (.tmp Y (.nil)) au,Y⟩
theorem bU{x0:List Nat}{r:List Nat}(h:bn x0=some r):Pure ah 99 [slc 1 (List.map aY x0)] (slc 1 (List.map aY r)):=by
 refine aZ Tryz.func99 Y (af Y) (λdD M vs hvs=>?_);unfold bn at h;refine sr<|aI Y (aB (n:=1) (e:=aY))<|dn<|qq<|bE h λIz AR qK=>?_;refine bK (λ(Gn:(List Nat))=>AS.ct 21 [(0,.sv (slc 1 (List.map aY Gn)))] [] []) (λGn=>Gn=Iz) ?_ (λGn AT=>?_);refine bj ?_;refine bL AR (λzS=>AS.ct 21 [(0,.sv (slc 1 (List.map aY zS)))] [] []) (wR []) (λAL Ue Uf h AU xI=>?_)
 try dsimp only
 refine qq<|qq ?_;refine bC h (λIA=>AS.ct 21 [(0,.sv (slc 1 (List.map aY AL))),(14,aj IA)] [] []) (λh=>?_) (λD0 h=>?_);refine aW<|mv Y<|lE h λx4 h4 h=>ln Y h4<|lE h λx5 h5 h=>gt _ Y Y h5<|mv Y<|bE h λIg ez h=>?_;cases x5;obtain rfl:=O (F ez);exact ww<|ww<|ww<|ww<|ww<|ww<|ww<|pF Y<|dn<|⟨false,h,wR []⟩;refine gm Y<|gm Y<|lE (V ez) λx9 h9 ez=>gn Y h9<|lE ez λdJ fZ ez=>RT.sub (.some Y Y) _ Y Y T fZ<|bE ez λfK lH ez=>RT.MW (.some Y Y) Y Y T lH<|gr Y Y<|lE ez λkE mS ez=>Q6 _ Y Y (Vn (p:=fK) (q:=0) mS) ?_;obtain rfl:=O ez;exact pT Y<|dn<|⟨kE,h,wR []⟩
 try dsimp only
 refine aV.n ?_;cases D0;refine cF<|bP<|aV.x<|aV.x<|bw.x<|aV.n ?_;obtain rfl:=O (F h);exact⟨AL,xI _ Y,wR []⟩;refine cT<|bp<|aV.n<|bj<|aW<|mv Y<|mv Y<|lE (V h) λeM kg h=>ln Y kg<|lE h λfj jT h=>sb _ Y Y jT<|bE h λjZ mz h=>RT.rP .none 0 fj Y Y ⟨_,Y⟩ T mz<|ag Y<|RT.done<|bw.n ?_;obtain rfl:=O h;exact aV.n ⟨jZ,AU _ Y,wR []⟩;subst AT
 try dsimp only
 refine aV.n<|sr<|mv Y<|ag Y<|dn<|bf ?_;obtain rfl:=O qK;exact R1 Y
abbrev ax:SV:=slc 1 (List.map aY [])
theorem dX{x0:Bool}{x1:List Nat}{r:Zr}(h:bZ x0 x1=some r):Pure ah 116 [az x0,slc 1 (List.map aY x1)] (.agg (eZ r)):=by
 refine aZ Tryz.func116 Y (af Y) (λdD M vs hvs=>?_);unfold bZ at h;refine sr<|al (cs:=[az false,ax]) (by exact⟨au,aB,aq⟩) Y<|dn<|sr<|mv Y<|bE h λx6 h6 h=>cl (bU h6) ⟨Y,aq⟩<|ag Y<|dn<|qq<|sr<|mv Y<|lE h λx8 h8 h=>ln Y h8<|lE h λx9 h9 h=>eq _ Y Y (vD (p:=x8) (q:=0) h9)<|dn ?_;cases x9;refine fs<|sr<|mv Y<|mv Y<|bI (cs:=[_,_]) (cs':=[az x0,slc 1 (List.map aY x6)]) (.one Y (.one Y (.nil))) ⟨au,au,aq⟩<|so Y Y Y<|dn<|bf ?_;obtain rfl:=O (F h);exact RZ (.agg Y Y (.k2 Y Y) Y (.nil));refine cT<|sr<|bI (cs:=[_,_]) (cs':=[az false,ax]) (.nil) ⟨au,aB,aq⟩<|so Y Y Y<|dn<|bf<|aV.r ?_;obtain rfl:=O (V h);exact RZ (.agg Y Y (.k2 Y Y) Y (.nil))
theorem gX{x0:Bool}{x1:Nat}{r:Zr}(h:dO x0 x1=some r):Pure ah 114 [az x0,.v (.int .u64 ((x1:Nat):Int))] (.agg (eZ r)):=by
 refine aZ Tryz.func114 Y (af Y) (λdD M vs hvs=>?_);unfold dO at h;refine sr<|al (cs:=[az false,ax]) (by exact⟨au,aB,aq⟩) Y<|dn<|qq<|bj<|sr<|mv Y<|lE h λx7 h7 h=>eq _ Y Y (Vn (p:=x1) (q:=0) h7)<|ag Y<|dn ?_;cases x7;refine cF<|sr<|mv Y<|lE (F h) λfK lH h=>RT.shr .none _ Y Y T (by decide) (AB (k:=.u64) (a:=x1) (q:=32) (s:=32) Y lH)<|lE h λdj fW h=>eq _ Y Y (Vn (p:=fK) (q:=0) fW)<|ag Y<|dn ?_;cases dj;refine cF<|bp<|bw.n<|aV.n<|sr<|mv Y<|mv Y<|lE (F h) λju oQ h=>cv _ Y (UK.nat oQ)<|mv Y<|lE h λgQ nw h=>RT.shr .none _ Y Y T (by decide) (AB (k:=.u64) (a:=x1) (q:=32) (s:=32) Y nw)<|lE h λgM oc h=>cv _ Y (UK.nat oc)<|bl (l:=[ju,gM]) (e:=aY) (.one Y (.one Y (.nil))) Y Y Y Y Y Y<|bI (cs:=[_,_]) (cs':=[az x0,slc 1 (List.map aY [ju,gM])]) (.one Y (.one Y (.nil))) ⟨au,au,aq⟩ ?_;refine so Y Y Y<|dn<|bf ?_;obtain rfl:=O h;exact RZ (.agg Y Y (.k2 Y Y) Y (.nil));refine cT<|sr<|mv Y<|mv Y<|lE (V h) λeN jy h=>cv _ Y (UK.nat jy)<|bl (l:=[eN]) (e:=aY) (.one Y (.nil)) Y Y Y Y Y Y<|bI (cs:=[_,_]) (cs':=[az x0,slc 1 (List.map aY [eN])]) (.one Y (.one Y (.nil))) ⟨au,au,aq⟩<|so Y Y Y<|dn<|bf<|bw.r<|aV.r ?_;obtain rfl:=O h;exact RZ (.agg Y Y (.k2 Y Y) Y (.nil))
 refine cT<|sr<|bI (cs:=[_,_]) (cs':=[az false,ax]) (.nil) ⟨au,aB,aq⟩<|so Y Y Y<|dn<|bf<|bw.r<|aV.r ?_;obtain rfl:=O (V h);exact RZ (.agg Y Y (.k2 Y Y) Y (.nil))
theorem gk{x0:List Nat}{r:Nat}(h:cW x0=some r):Pure ah 115 [slc 1 (List.map aY x0)] (.v (.int .u64 ((r:Nat):Int))):=by
 refine aZ Tryz.func115 Y (af Y) (λdD M vs hvs=>?_);unfold cW at h;refine sr<|ag Y<|dn<|qq<|sr<|mv Y<|lE h λx4 h4 h=>ln Y h4<|dn<|bj<|sr<|lE h λx6 h6 h=>eq _ Y Y (vD (p:=x4) (q:=0) h6)<|ag Y<|dn ?_;cases x6;refine cF<|sr<|lE (F h) λx8 h8 h=>eq _ Y Y (vD (p:=x4) (q:=1) h8)<|ag Y<|dn ?_;cases x8;refine cF<|bp<|bw.n<|aV.n<|qq<|bh mixed<|mv Y<|bE (F h) λdV iJ h=>ix Y Y iJ<|lr Y Y<|lE h λfE iY h=>cv _ Y (UK.nat iY)<|mv Y<|bE h λfj jT h=>ix Y Y jT<|lr Y Y<|lE h λju oQ h=>cv _ Y (UK.nat oQ)<|lE h λgi mU h=>RT.shl .none _ Y Y T (by decide) (UK.shl (a:=ju) (q:=32) (s:=32) Y mU)<|lE h λgQ nw h=>RT.or .none _ Y Y T (UK.or (a:=fE) (b:=gi) nw) ?_;refine ag Y ?_;refine RT.done ⟨by kernel_rfl,?_⟩;refine aV.n<|bf ?_;obtain rfl:=O h;exact R1 Y;refine cT<|sr<|mv Y<|bE (V h) λdJ fZ h=>ix Y Y fZ<|lr Y Y<|lE h λdj fW h=>cv _ Y (UK.nat fW)<|ag Y<|dn<|bf<|bw.r<|aV.r ?_;obtain rfl:=O h;exact R1 Y;refine cT<|sr<|ag Y<|dn<|bf<|bw.r<|aV.r ?_;obtain rfl:=O (V h);exact R1 Y
theorem eX{x0:List Nat}{x1:List Nat}{r:Int}(h:cz x0 x1=some r):Pure ah 113 [slc 1 (List.map aY x0),slc 1 (List.map aY x1)] (ay r):=by
 refine aZ Tryz.func113 Y (af Y) (λdD M vs hvs=>?_);unfold cz at h;refine sr<|ag Y<|dn<|qq<|sr<|mv Y<|lE h λx7 h7 h=>ln Y h7<|mv Y<|lE h λx9 h9 h=>ln Y h9<|lE h λdJ fZ h=>ne _ Y Y (Kx (p:=x7) (q:=x9) fZ)<|dn ?_;cases dJ;refine fs<|qq<|sr<|mv Y<|lE (F h) λeM kg h=>ln Y kg<|lE h λfj jT h=>sb _ Y Y jT<|ag Y<|dn<|bE h λe6 ze jk=>?_;refine bK (λ(Eb:Unit)=>AS.ct 41 [] [] []) (λEb=>.inl Eb=e6) ?_ (λEb zf=>?_);refine bj ?_;refine bL ze (λs6=>AS.ct 41 [(0,.sv (slc 1 (List.map aY x0))),(1,.sv (slc 1 (List.map aY x1))),(5,ai s6)] [] []) (wR []) (λlF y6 G6 h zg uT=>?_)
 try dsimp only
 refine qq<|sr<|mv Y<|lE h λju oQ h=>ge _ Y Y oQ<|dn ?_;cases ju;refine cF<|bP<|aV.x<|aV.x<|bw.x<|aV.n ?_;obtain rfl:=O (F h);exact⟨(),uT _ Y,wR []⟩;refine cT<|bp<|aV.n<|qq<|bj<|qq<|bh mixed<|mv Y<|mv Y<|bE (V h) λlO oe h=>ix Y Y oe<|lr Y Y<|mv Y<|mv Y<|bE h λgR l8 h=>ix Y Y l8<|lr Y Y<|lE h λoG wQ h=>ne _ Y Y (T8 (p:=lO) (q:=gR) wQ) ?_;refine RT.done ⟨by kernel_rfl,?_⟩;refine aV.n ?_;cases oG;refine cF<|bp<|bw.n<|aV.n<|aW<|mv Y<|lE (F h) λgQ nw h=>sb _ Y Y nw<|ag Y<|RT.done ?_;obtain rfl:=O h;exact aV.n ⟨gQ,zg _ Y,wR []⟩;refine cT<|qq<|qq<|bh mixed<|mv Y<|mv Y<|bE (V h) λmQ qL h=>ix Y Y qL<|lr Y Y<|mv Y<|mv Y<|bE h λsy Cy h=>ix Y Y Cy<|lr Y Y<|lE h λlT rz h=>ls _ Y Y (T9 (p:=mQ) (q:=sy) rz) ?_;refine RT.done ⟨by kernel_rfl,?_⟩;refine aV.n ?_;cases lT;refine fs<|sr<|ag Y<|dn<|bf<|bw.r<|aV.r ?_;obtain rfl:=O (F h);have IB:=uT _ Y;subst IB;refine aV.r<|bw.r<|aV.r<|aV.r ?_;obtain rfl:=O jk;exact R1 Y;refine cT<|sr<|ag Y<|dn<|bf<|aV.r<|bw.r<|aV.r ?_;obtain rfl:=O (V h);have IB:=uT _ Y;subst IB;refine aV.r<|bw.r<|aV.r<|aV.r ?_;obtain rfl:=O jk;exact R1 Y;subst zf
 try dsimp only
 refine aV.n<|sr<|ag Y<|dn<|bf ?_;obtain rfl:=O jk;exact R1 Y;refine cT<|qq<|sr<|mv Y<|lE (V h) λdj fW h=>ln Y fW<|mv Y<|lE h λdV iJ h=>ln Y iJ<|lE h λeN jy h=>ls _ Y Y jy<|dn ?_;cases eN;refine fs<|sr<|ag Y<|dn<|bf<|aV.r ?_;obtain rfl:=O (F h);exact R1 Y;refine cT<|sr<|ag Y<|dn<|bf<|aV.r<|aV.r ?_;obtain rfl:=O (V h);exact R1 Y
theorem m9{x0:List Nat}{x1:List Nat}{r:List Nat}(h:dL x0 x1=some r):Pure ah 147 [slc 1 (List.map aY x0),slc 1 (List.map aY x1)] (slc 1 (List.map aY r)):=by
 refine aZ Tryz.func147 Y (af Y) (λdD M vs hvs=>?_);unfold dL at h;refine sr<|aI Y (aB (n:=1) (e:=aY))<|dn<|sr<|mv Y<|lE h λdJ fZ h=>ln Y fZ<|mv Y<|lE h λdj fW h=>ln Y fW<|lE h λkE mS h=>RT.max .none _ Y Y T (Lc (p:=dJ) (q:=dj) mS)<|lE h λdV iJ h=>ad _ Y Y iJ<|bE h λeN jy h=>RT.Fi (e:=aY) .none Y Y T Y T jy<|RT.alloc .none T Y Y<|RT.rH (cells:=[_]) .none Y Y Y Y T Y<|dn<|sr<|RT.xp .none (dM 0) Y ⟨Y,aq⟩ T Y Y ?_;refine RT.alloc .none T Y Y<|RT.mm (cells:=[_]) .none (s:=.eT _ _) Y Y Y T Y<|dn<|qq<|sr<|mv Y<|mv Y<|cl (pB x0 x1) ⟨Y,Y,aq⟩<|dn<|bj<|bE h λe7 Sw Ls=>?_;obtain⟨Gu,Sx,Sy,SA⟩:=nJ Sw
 refine lS (pC x0 x1) (λ_ _ _ _ _=>trivial) Y (λk=>AS.ct 35 [(5,.ptr 5 0),(6,.ptr 6 0),(19,.sv (nZ 169 [ref [slc 1 (List.map aY x0)],ref [slc 1 (List.map aY x1)]]))] [(6,⟨141,[.eT 157 [.box 16]]⟩),(16,⟨104,[.sv (.v (.int .u64 (((Gu k).1:Nat):Int)))]⟩),(5,⟨32,[.row 302]⟩)] [(302,TR 106 1 aY (Gu k).2)]) [6,16,5] Y (λ_=>⟨Y,Y⟩) (rK Y) (λ_=>Y) (rL Y) (by(try dsimp only);rw[Sx];(try dsimp only);exact c8 (λi=>bif Nat.beq i 302 then 15 else i) Y Y Y Y Y ⟨.ptr,.ptr,.sv au,aq⟩ ⟨⟨_,Y,⟨.eT,aq⟩⟩,⟨_,Y,⟨.sv au,aq⟩⟩,⟨_,Y,⟨.row Y,aq⟩⟩,aq⟩ ⟨⟨_,Y,ff.refl _⟩,aq⟩ (λi hi=>by rw[cD (show i≠302 by omega)];rfl)) (λk hk D hD=>?_) ?_;have h:=Sy k hk;obtain⟨sk,Pu⟩:∃q,Gu k=q:=⟨_,Y⟩;rw[Pu]at h⊢;obtain⟨sV,gV⟩:=sk;dsimp only[AS.KZ,qX]
 try dsimp only at h
 refine lE h λVC VZ h=>?_;rw[VZ];refine lE h λVD V0 h=>?_;rw[V0];refine sr<|ag Y<|dn<|aW<|ag Y<|RT.done ?_;refine aV.n ⟨Y,?_⟩;dsimp only[AS.Ax];refine bj<|bh mixed<|RT.nH .none (s:=.row _) Y Y Y T<|RT.nH .none (s:=.eT _ _) Y Y Y T<|mv Y<|mv Y<|lE h λkN rW h=>ad _ Y Y (UK.add (a:=VC) (b:=VD) rW) ?_;obtain⟨⟨gN,k9⟩,nc,h⟩:=bS h;refine cB (bW nc) 16 Y ⟨Y,aq⟩<|bl (l:=[gN]) (e:=aY) (.one Y (.nil)) Y Y Y Y Y Y<|bE h λgR l8 h=>aR (k:=[gN]) (e:=aY) Y Y Y l8<|RT.rH (cells:=[_]) .none Y Y Y Y T Y ?_;refine RT.done ⟨by kernel_rfl,?_⟩;refine bw.n ?_;replace h:=Option.some.inj h;refine⟨aq,Y,Y,?_⟩
 try dsimp only
 rw[<-h]
 try dsimp only
 exact c8 (λi=>bif Nat.beq i 302 then 29 else i) Y Y Y Y Y ⟨.ptr,.ptr,.sv au,aq⟩ ⟨⟨_,Y,⟨.eT,aq⟩⟩,⟨_,Y,⟨.sv au,aq⟩⟩,⟨_,Y,⟨.row Y,aq⟩⟩,aq⟩ ⟨⟨_,Y,ff.refl _⟩,aq⟩ (λi hi=>by rw[cD (show i≠302 by omega)];rfl);rw[SA];obtain⟨sV,gV⟩:=e7
 try dsimp only
 refine bw.n<|aV.n<|qq<|bh mixed<|RT.nH .none (s:=.row _) Y Y Y T<|RT.nH .none (s:=.eT _ _) Y Y Y T ?_;obtain⟨⟨iF,k11⟩,nx,Ls⟩:=bS Ls;refine cB (bW nx) 16 Y ⟨Y,aq⟩<|bl (l:=[iF]) (e:=aY) (.one Y (.nil)) Y Y Y Y Y Y<|bE Ls λmQ qL Ls=>RT.Le (k:=[iF]) (e:=aY) .none Y Y Y T Y T qL<|ag Y ?_;refine RT.done ⟨by kernel_rfl,?_⟩;refine aV.n<|bf ?_;obtain rfl:=O Ls;exact R1 Y
theorem jz{x0:List Nat}{x1:List Nat}{r:List Nat}(h:cE x0 x1=some r):Pure ah 148 [slc 1 (List.map aY x0),slc 1 (List.map aY x1)] (slc 1 (List.map aY r)):=by
 refine aZ Tryz.func148 Y (af Y) (λdD M vs hvs=>?_);unfold cE at h;refine sr<|aI Y (aB (n:=1) (e:=aY))<|dn<|sr<|mv Y<|lE h λdJ fZ h=>ln Y fZ<|bE h λfK lH h=>RT.Fi (e:=aY) .none Y Y T Y T lH<|RT.alloc .none T Y Y<|RT.rH (cells:=[_]) .none Y Y Y Y T Y<|dn<|sr<|RT.xp .none (dM 1) Y ⟨Y,aq⟩ T Y Y<|RT.alloc .none T Y Y<|RT.mm (cells:=[_]) .none (s:=.eT _ _) Y Y Y T Y<|dn<|qq<|sr<|mv Y ?_;refine mv Y<|cl (pB x0 x1) ⟨Y,Y,aq⟩<|dn<|bj<|bE h λe7 Sw Ls=>?_;obtain⟨Gu,Sx,Sy,SA⟩:=nJ Sw;refine lS (pC x0 x1) (λ_ _ _ _ _=>trivial) Y (λk=>AS.ct 28 [(5,.ptr 5 0),(6,.ptr 6 0),(15,.sv (nZ 169 [ref [slc 1 (List.map aY x0)],ref [slc 1 (List.map aY x1)]]))] [(6,⟨141,[.eT 157 [.box 12]]⟩),(12,⟨104,[.sv (.v (.int .u64 (((Gu k).1:Nat):Int)))]⟩),(5,⟨32,[.row 302]⟩)] [(302,TR 106 1 aY (Gu k).2)]) [6,12,5] Y (λ_=>⟨Y,Y⟩) (rK Y) (λ_=>Y) (rL Y) (by(try dsimp only);rw[Sx];(try dsimp only);exact c8 (λi=>bif Nat.beq i 302 then 11 else i) Y Y Y Y Y ⟨.ptr,.ptr,.sv au,aq⟩ ⟨⟨_,Y,⟨.eT,aq⟩⟩,⟨_,Y,⟨.sv au,aq⟩⟩,⟨_,Y,⟨.row Y,aq⟩⟩,aq⟩ ⟨⟨_,Y,ff.refl _⟩,aq⟩ (λi hi=>by rw[cD (show i≠302 by omega)];rfl)) (λk hk D hD=>?_) ?_;have h:=Sy k hk;obtain⟨sk,Pu⟩:∃q,Gu k=q:=⟨_,Y⟩;rw[Pu]at h⊢;obtain⟨wN,gV⟩:=sk;dsimp only[AS.KZ,qX]
 try dsimp only at h
 refine lE h λVE V1 h=>?_;rw[V1];refine lE h λVF V3 h=>?_;rw[V3];refine sr<|ag Y<|dn<|aW<|ag Y<|RT.done ?_;refine aV.n ⟨Y,?_⟩;dsimp only[AS.Ax];refine bj<|bh mixed<|RT.nH .none (s:=.row _) Y Y Y T<|RT.nH .none (s:=.eT _ _) Y Y Y T<|mv Y<|mv Y<|lE h λgQ nw h=>sb _ Y Y (UK.sub (a:=4294967295) (b:=VF) nw)<|lE h λgM oc h=>ad _ Y Y (UK.add (a:=VE) (b:=gQ) oc) ?_;obtain⟨⟨gO,k9⟩,oT,h⟩:=bS h;refine cB (bW oT) 12 Y ⟨Y,aq⟩<|bl (l:=[gO]) (e:=aY) (.one Y (.nil)) Y Y Y Y Y Y<|bE h λkN rW h=>aR (k:=[gO]) (e:=aY) Y Y Y rW<|RT.rH (cells:=[_]) .none Y Y Y Y T Y ?_;refine RT.done ⟨by kernel_rfl,?_⟩;refine bw.n ?_;replace h:=Option.some.inj h;refine⟨aq,Y,Y,?_⟩
 try dsimp only
 rw[<-h]
 try dsimp only
 exact c8 (λi=>bif Nat.beq i 302 then 26 else i) Y Y Y Y Y ⟨.ptr,.ptr,.sv au,aq⟩ ⟨⟨_,Y,⟨.eT,aq⟩⟩,⟨_,Y,⟨.sv au,aq⟩⟩,⟨_,Y,⟨.row Y,aq⟩⟩,aq⟩ ⟨⟨_,Y,ff.refl _⟩,aq⟩ (λi hi=>by rw[cD (show i≠302 by omega)];rfl);rw[SA];obtain⟨wN,gV⟩:=e7
 try dsimp only
 refine bw.n<|aV.n<|sr<|RT.nH .none (s:=.row _) Y Y Y T<|an (s:=.row _) Y<|dn<|bQ (cC (i:=302) (E1:=106) (n:=1) (e:=aY) (l:=gV) Y)<|bf ?_;obtain rfl:=O Ls;exact R1 Y
theorem tu{x0:List Nat}{x1:List Nat}{r:List Nat}(h:eO x0 x1=some r):Pure ah 117 [slc 1 (List.map aY x0),slc 1 (List.map aY x1)] (slc 1 (List.map aY r)):=by
 refine aZ Tryz.func117 Y (af Y) (λdD M vs hvs=>?_);unfold eO at h;refine sr<|aI Y (aB (n:=1) (e:=aY))<|dn<|sr<|mv Y<|lE h λdj fW h=>ln Y fW<|mv Y<|lE h λdV iJ h=>ln Y iJ<|lE h λeN jy h=>ad _ Y Y jy<|bE h λfE iY h=>RT.qY (n:=1) (e:=aY) .none Y Y T Y T (by rfl) (by decide) (by exact⟨au,aq⟩) iY<|an (s:=.row _) Y<|dn<|qq<|sr<|mv Y<|lE h λfj jT h=>ln Y jT ?_;refine mv Y<|dn<|bE h λe28 V4 V5=>?_;refine bK (λ(rS:(List Nat))=>AS.ct 63 [(5,.row 16)] [] [(16,TR 106 1 aY rS)]) (λrS=>rS=e28) ?_ (λrS V6=>?_);refine bj ?_;refine bL V4 (λQ7=>AS.ct 63 [(1,.sv (slc 1 (List.map aY x1))),(5,.row 16),(17,.sv (slc 1 (List.map aY x0))),(18,ai fj),(19,ai Q7.1)] [] [(16,TR 106 1 aY Q7.2)]) (wR []) (λQ7 y28 G28 h V7 V8=>?_);obtain⟨my,AM⟩:=Q7
 try dsimp only
 refine sr<|lE h λju oQ h=>ls _ Y Y oQ<|dn<|qq ?_;cases ju;refine cF<|bP<|aV.x<|aV.x<|bw.x<|aV.n ?_;obtain rfl:=O (F h);exact⟨AM,V8 _ Y,wR []⟩;refine cT<|bp<|aV.n<|qq<|bj<|sr<|mv Y<|bE (V h) λgQ nw h=>ix Y Y nw<|lr Y Y<|ag Y<|ag Y<|dn<|sr<|RT.xp .none (dM 0) Y ⟨Y,aq⟩ T Y Y<|an (s:=.eT _ _) Y<|dn<|qq<|sr<|mv Y<|lE h λkN rW h=>ln Y rW<|mv Y<|dn<|bE h λVI V9 uU=>?_;refine bK (λ(Gv:Nat×(List Nat))=>AS.ct 63 [(1,.sv (slc 1 (List.map aY x1))),(5,.row 16),(6,ai my),(8,.eT 157 [.box 24]),(17,.sv (slc 1 (List.map aY x0))),(18,ai fj),(19,ai my)] [(24,⟨104,[.sv (.v (.int .u64 ((Gv.1:Nat):Int)))]⟩)] [(16,TR 106 1 aY Gv.2)]) (λGv=>Gv=VI) ?_ (λGv Wa=>?_);refine bj ?_;refine bL V9 (λPb=>AS.ct 63 [(1,.sv (slc 1 (List.map aY x1))),(5,.row 16),(6,ai my),(7,.sv (.v (.int .u32 ((gQ:Nat):Int)))),(8,.eT 157 [.box 24]),(17,.sv (slc 1 (List.map aY x0))),(18,ai fj),(19,ai my),(25,.sv (slc 1 (List.map aY x1))),(26,ai kN),(27,ai Pb.1)] [(24,⟨104,[.sv (.v (.int .u64 ((Pb.2.1:Nat):Int)))]⟩)] [(16,TR 106 1 aY Pb.2.2)]) (wR []) (λPb y38 G38 h Wb Wc=>?_);obtain⟨uN,sW,rR⟩:=Pb
 try dsimp only
 refine sr<|lE h λmR tv h=>ls _ Y Y tv<|dn<|qq ?_;cases mR;refine cF<|bP<|aV.x<|aV.x<|bw.x<|aV.n ?_;obtain rfl:=O (F h);exact⟨(sW,rR),Wc _ Y,wR []⟩;refine cT<|bp<|aV.n<|qq<|bj<|sr<|mv Y<|bE (V h) λuO zh h=>ix Y Y zh<|lr Y Y<|ag Y<|ag Y<|dn<|aW<|mo (s:=.row _) Y<|mv Y<|mv Y<|lE h λrj zj h=>ad _ Y Y zj<|mo (s:=.eT _ _) Y<|mo (s:=.row _) Y<|mv Y<|mv Y<|lE h λlT rz h=>ad _ Y Y rz<|bE h λwO Gw h=>iR Y Y Y Gw ?_;refine bE h λo8 AW h=>lR Y Y AW Y<|lE h λDF KA h=>cv _ Y (UK.nat KA)<|mv Y<|lE h λDG Lt h=>cv _ Y (UK.nat Lt)<|mv Y<|lE h λsB xJ h=>cv _ Y (UK.nat xJ)<|lE h λy4 h48 h=>RT.mul .none _ Y Y T (UK.mul (a:=DG) (b:=sB) h48)<|lE h λR9 Pv h=>ad _ Y Y (UK.add (a:=DF) (b:=y4) Pv) ?_;obtain⟨⟨vG,VG⟩,Gx,h⟩:=bS h;refine cB (bW Gx) 24 Y ⟨Y,aq⟩<|bE h λMY Pw h=>iR Y Y Y Pw<|bE h λVH SB h=>sR vG Y Y Y Y SB<|RT.done<|bw.n<|aV.n<|aW<|lE h λy5 Ec h=>ad _ Y Y Ec<|mv Y<|RT.done ?_;obtain rfl:=O h;exact aV.n ⟨(y5,VG,VH),Wb _ Y,wR []⟩;subst Wa;obtain⟨Cn,D1⟩:=Gv
 try dsimp only
 refine aV.n<|aW<|mo (s:=.row _) Y<|mv Y<|mv Y<|lE uU λMZ Px uU=>ln Y Px<|lE uU λLn SC uU=>ad _ Y Y SC<|mo (s:=.eT _ _) Y ?_;obtain⟨⟨Ih,k45⟩,SD,uU⟩:=bS uU;refine cB (bW SD) 24 Y ⟨Y,aq⟩<|bE uU λGp Nj uU=>iR Y Y Y Nj<|bE uU λVJ SE uU=>sR Ih Y Y Y Y SE<|RT.done<|bw.n<|aV.n<|aW<|lE uU λPc Wd uU=>ad _ Y Y Wd<|mv Y<|RT.done ?_;obtain rfl:=O uU;exact aV.n ⟨(Pc,VJ),V7 _ Y,wR []⟩;subst V6
 try dsimp only
 refine aV.n<|sr<|mo (s:=.row _) Y<|an (s:=.row _) Y<|dn<|bQ (cC (i:=16) (E1:=106) (n:=1) (e:=aY) (l:=rS) Y)<|bf ?_;obtain rfl:=O V5;exact R1 Y
end
section
open Go.Fw Go.Fw.Z Go.RowKit
theorem tw{x0:List Nat}{x1:Nat}{r:Nat×List Nat}(h:fU x0 x1=some r):DU ah 158 [.row 1000,.sv (.v (.int .u64 ((x1:Nat):Int)))] (TR 106 1 aY x0) (.sv (.v (.int .u64 ((r.1:Nat):Int)))) (List.flatMap aY r.2):=by
 refine rI Tryz.func158 Y (af Y) Y Y (λdD M v0=>?_);unfold fU at h;refine sr<|ag Y<|dn<|sr<|ag Y<|dn<|qq<|sr<|mo (s:=.row _) Y<|lE h λx9 h9 h=>lL Y Y h9<|lE h λdJ fZ h=>sb _ Y Y fZ<|ag Y<|dn<|bE h λe8 Cz tB=>?_;refine bK (λ(zV:Nat×(List Nat))=>AS.ct 34 [(5,.sv (.v (.int .u64 ((zV.1:Nat):Int))))] [] [(1000,TR 106 1 aY zV.2)]) (λzV=>zV=e8) ?_ (λzV CA=>?_);refine bj ?_;refine bL Cz (λs8=>AS.ct 34 [(0,.row 1000),(1,.sv (.v (.int .u64 ((x1:Nat):Int)))),(5,.sv (.v (.int .u64 ((s8.1:Nat):Int)))),(6,ai s8.2.1)] [] [(1000,TR 106 1 aY s8.2.2)]) (wR []) (λs8 y8 G8 h CB CC=>?_);obtain⟨Ii,Co,n8⟩:=s8
 try dsimp only
 refine qq<|sr<|mv Y<|lE h λdj fW h=>ge _ Y Y fW<|dn ?_;cases dj;refine cF<|bP<|aV.x<|aV.x<|bw.x<|aV.n ?_;obtain rfl:=O (F h);exact⟨(Ii,n8),CC _ Y,wR []⟩;refine cT<|bp<|aV.n<|qq<|bj<|sr<|mv Y<|lE (V h) λfE iY h=>RT.shl .none _ Y Y T (by decide) (UK.shl (a:=Ii) (q:=32) (s:=32) Y iY)<|mo (s:=.row _) Y<|mv Y<|bE h λjZ mz h=>iR Y Y Y mz<|bE h λju oQ h=>lR Y Y oQ Y<|lE h λgi mU h=>cv _ Y (UK.nat mU)<|lE h λgQ nw h=>RT.or .none _ Y Y T (UK.or (a:=fE) (b:=gi) nw)<|ag Y<|dn<|sr<|mo (s:=.row _) Y ?_;refine mv Y<|mv Y<|mv Y<|bE h λgN nc h=>RT.quo .none _ Y Y T (Vp nc) (UK.quo nc)<|lE h λmR tv h=>cv _ Y (UK.nat tv)<|bE h λgR l8 h=>iR Y Y Y l8<|bE h λxC pD h=>sR mR Y Y Y Y pD<|dn<|aW<|mv Y<|mv Y<|bE h λiF nx h=>RT.rem .none _ Y Y T (Ua nx) (Ld nx)<|ag Y<|RT.done<|bw.n<|aV.n<|aW<|mv Y<|lE h λdV iJ h=>sb _ Y Y iJ ?_;refine ag Y<|RT.done ?_;obtain rfl:=O h;exact aV.n ⟨(iF,dV,xC),CB _ Y,wR []⟩;subst CA;obtain⟨Sa,wP⟩:=zV
 try dsimp only
 refine aV.n<|sr<|mv Y<|ag Y<|dn<|bf<|bE tB λ_ hle tB=>?_;obtain rfl:=O tB;exact⟨.inr Y,.sv (lQ (.tmp Y (.nil)) au),(by show _=nS.live ⟨106,1,x0.length,List.flatMap aY wP⟩;rw[<-kf hle];rfl)⟩
theorem rX{x0:List Nat}{x1:Nat}{r:List Nat}(h:ek x0 x1=some r):Pure ah 166 [slc 1 (List.map aY x0),.v (.int .u64 ((x1:Nat):Int))] (slc 1 (List.map aY r)):=by
 refine aZ Tryz.func166 Y (af Y) (λdD M vs hvs=>?_);unfold ek at h;refine sr<|aI Y (aB (n:=1) (e:=aY))<|dn<|sr<|RT.xp .none (dM 0) Y ⟨Y,aq⟩ T Y Y<|an (s:=.eT _ _) Y<|dn<|sr<|mv Y<|lE h λfK lH h=>ln Y lH<|lE h λdj fW h=>ad _ Y Y fW<|bE h λkE mS h=>RT.Fi (e:=aY) .none Y Y T Y T mS<|an (s:=.row _) Y<|dn<|qq<|sr<|mv Y<|lE h λeN jy h=>ln Y jy ?_;refine mv Y<|dn<|bE h λe8 Cz tB=>?_;refine bK (λ(zV:Nat×(List Nat))=>AS.ct 35 [(5,.eT 157 [.box 9]),(6,.row 302)] [(9,⟨104,[.sv (.v (.int .u64 ((zV.1:Nat):Int)))]⟩)] [(302,TR 106 1 aY zV.2)]) (λzV=>zV=e8) ?_ (λzV CA=>?_);refine bj ?_;refine bL Cz (λs8=>AS.ct 35 [(1,.sv (.v (.int .u64 ((x1:Nat):Int)))),(5,.eT 157 [.box 9]),(6,.row 302),(14,.sv (slc 1 (List.map aY x0))),(15,ai eN),(16,ai s8.1)] [(9,⟨104,[.sv (.v (.int .u64 ((s8.2.1:Nat):Int)))]⟩)] [(302,TR 106 1 aY s8.2.2)]) (c8 (λi=>bif Nat.beq i 302 then 13 else i) Y Y Y Y Y ⟨.sv au,.eT,.row Y,.sv au,.sv au,.sv au,aq⟩ ⟨⟨_,Y,⟨.sv au,aq⟩⟩,aq⟩ ⟨⟨_,Y,ff.refl _⟩,aq⟩ (λi hi=>by rw[cD (show i≠302 by omega)];rfl)) (λs8 y8 G8 h CB CC=>?_);obtain⟨sX,n9,gV⟩:=s8
 try dsimp only
 refine sr<|lE h λeM kg h=>ls _ Y Y kg<|dn<|qq ?_;cases eM;refine cF<|bP<|aV.x<|aV.x<|bw.x<|aV.n ?_;obtain rfl:=O (F h);exact⟨(n9,gV),CC _ Y,wR []⟩;refine cT<|bp<|aV.n<|qq<|bj<|sr<|bE (V h) λfj jT h=>ix Y Y jT<|lr Y Y<|ag Y<|dn<|aW<|mo (s:=.row _) Y<|mo (s:=.eT _ _) Y<|mv Y<|lE h λgM oc h=>cv _ Y (UK.nat oc)<|mv Y<|lE h λlO oe h=>RT.shl .none _ Y Y T (Int.natCast_nonneg _) (UK.shl (a:=gM) (q:=((x1:Nat):Int)) (s:=min x1 64) Y oe) ?_;obtain⟨⟨kN,Pd⟩,rW,h⟩:=bS h;refine cB (bW rW) 9 Y ⟨Y,aq⟩<|bl (l:=[kN]) (e:=aY) (.one Y (.nil)) Y Y Y Y Y Y<|bE h λmR tv h=>aR (k:=[kN]) (e:=aY) Y Y Y tv<|an (s:=.row _) Y<|RT.done<|bw.n<|aV.n<|aW<|lE h λgR l8 h=>ad _ Y Y l8<|mv Y<|RT.done ?_;obtain rfl:=O h;exact aV.n ⟨(gR,Pd,mR),CB _ Y,c8 (λi=>bif Nat.beq i 302 then 28 else i) Y Y Y Y Y ⟨.sv au,.eT,.row Y,.sv au,.sv au,.sv au,aq⟩ ⟨⟨_,Y,⟨.sv au,aq⟩⟩,aq⟩ ⟨⟨_,Y,ff.refl _⟩,aq⟩ (λi hi=>by rw[cD (show i≠302 by omega)];rfl)⟩;subst CA;obtain⟨xD,Ij⟩:=zV
 try dsimp only
 refine aV.n<|sr<|mo (s:=.row _) Y<|mo (s:=.eT _ _) Y ?_;obtain⟨⟨iF,VK⟩,nx,tB⟩:=bS tB;refine cB (bW nx) 9 Y ⟨Y,aq⟩<|bl (l:=[iF]) (e:=aY) (.one Y (.nil)) Y Y Y Y Y Y<|bE tB λmQ qL tB=>RT.Le (k:=[iF]) (e:=aY) .none Y Y Y T Y T qL<|ag Y<|dn<|bf ?_;obtain rfl:=O tB;exact R1 Y
theorem qM{x0:List Nat}{x1:Nat}{r:List Nat}(h:gj x0 x1=some r):HN ah 166 [slc 1 (List.map aY x0),.v (.int .u64 ((x1:Nat):Int))] (TR 106 1 aY r):=by
 refine xn Tryz.func166 Y (af Y) (λdD M vs hvs=>?_);unfold gj at h;refine sr<|ag Y<|dn<|bQ (gU 4 304 106 1 Y Y T)<|sr<|RT.xp .none (dM 0) Y ⟨Y,aq⟩ T Y Y<|an (s:=.eT _ _) Y<|dn<|sr<|mv Y<|lE h λfK lH h=>ln Y lH<|lE h λdj fW h=>ad _ Y Y fW<|bE h λkE mS h=>RT.Fi (e:=aY) .none Y Y T Y T mS<|an (s:=.row _) Y<|dn<|qq<|sr<|mv Y<|lE h λeN jy h=>ln Y jy ?_;refine mv Y<|dn<|bE h λe8 Cz tB=>?_;refine bK (λ(zV:Nat×(List Nat))=>AS.ct 35 [(5,.eT 157 [.box 9]),(6,.row 306)] [(9,⟨104,[.sv (.v (.int .u64 ((zV.1:Nat):Int)))]⟩)] [(306,TR 106 1 aY zV.2)]) (λzV=>zV=e8) ?_ (λzV CA=>?_);refine bj ?_;refine bL Cz (λs8=>AS.ct 35 [(1,.sv (.v (.int .u64 ((x1:Nat):Int)))),(5,.eT 157 [.box 9]),(6,.row 306),(14,.sv (slc 1 (List.map aY x0))),(15,ai eN),(16,ai s8.1)] [(9,⟨104,[.sv (.v (.int .u64 ((s8.2.1:Nat):Int)))]⟩)] [(306,TR 106 1 aY s8.2.2)]) (c8 (λi=>bif Nat.beq i 306 then 13 else i) Y Y Y Y Y ⟨.sv au,.eT,.row Y,.sv au,.sv au,.sv au,aq⟩ ⟨⟨_,Y,⟨.sv au,aq⟩⟩,aq⟩ ⟨⟨_,Y,ff.refl _⟩,aq⟩ (λi hi=>by rw[cD (show i≠306 by omega)];rfl)) (λs8 y8 G8 h CB CC=>?_);obtain⟨sX,n9,nu⟩:=s8
 try dsimp only
 refine sr<|lE h λeM kg h=>ls _ Y Y kg<|dn<|qq ?_;cases eM;refine cF<|bP<|aV.x<|aV.x<|bw.x<|aV.n ?_;obtain rfl:=O (F h);exact⟨(n9,nu),CC _ Y,wR []⟩;refine cT<|bp<|aV.n<|qq<|bj<|sr<|bE (V h) λfj jT h=>ix Y Y jT<|lr Y Y<|ag Y<|dn<|aW<|mo (s:=.row _) Y<|mo (s:=.eT _ _) Y<|mv Y<|lE h λgM oc h=>cv _ Y (UK.nat oc)<|mv Y<|lE h λlO oe h=>RT.shl .none _ Y Y T (Int.natCast_nonneg _) (UK.shl (a:=gM) (q:=((x1:Nat):Int)) (s:=min x1 64) Y oe) ?_;obtain⟨⟨kN,Pd⟩,rW,h⟩:=bS h;refine cB (bW rW) 9 Y ⟨Y,aq⟩<|bl (l:=[kN]) (e:=aY) (.one Y (.nil)) Y Y Y Y Y Y<|bE h λmR tv h=>aR (k:=[kN]) (e:=aY) Y Y Y tv<|an (s:=.row _) Y<|RT.done<|bw.n<|aV.n<|aW<|lE h λgR l8 h=>ad _ Y Y l8<|mv Y<|RT.done ?_;obtain rfl:=O h;exact aV.n ⟨(gR,Pd,mR),CB _ Y,c8 (λi=>bif Nat.beq i 306 then 28 else i) Y Y Y Y Y ⟨.sv au,.eT,.row Y,.sv au,.sv au,.sv au,aq⟩ ⟨⟨_,Y,⟨.sv au,aq⟩⟩,aq⟩ ⟨⟨_,Y,ff.refl _⟩,aq⟩ (λi hi=>by rw[cD (show i≠306 by omega)];rfl)⟩;subst CA;obtain⟨xD,nv⟩:=zV
 try dsimp only
 refine aV.n<|sr<|mo (s:=.row _) Y<|mo (s:=.eT _ _) Y ?_;obtain⟨⟨iF,VK⟩,nx,tB⟩:=bS tB;refine cB (bW nx) 9 Y ⟨Y,aq⟩<|bl (l:=[iF]) (e:=aY) (.one Y (.nil)) Y Y Y Y Y Y<|bE tB λmQ qL tB=>aR (k:=[iF]) (e:=aY) Y Y Y qL<|an (s:=.row _) Y<|dn<|bf ?_;obtain rfl:=O tB;exact⟨.inr Y,_,.tmp Y,Y⟩
theorem rY{x0:Nat}{r:Int}(h:fu x0=some r):Pure ah 170 [.v (.int .u32 ((x0:Nat):Int))] (ay r):=by
 refine aZ Tryz.func170 Y (af Y) (λdD M vs hvs=>?_);unfold fu at h;refine sr<|ag Y<|dn<|qq<|sr<|mv Y<|lE h λx4 h4 h=>ge _ Y Y (Vo (p:=65536) (q:=x0) h4)<|dn ?_;refine bC h (λj2=>AS.ct 19 [(0,.sv (.v (.int .u32 ((j2.1:Nat):Int)))),(2,ai j2.2)] [] []) (λh=>?_) (λj2 h=>?_);cases x4;exact fs<|⟨(x0,0),(F h),wR []⟩;exact cT<|sr<|mv Y<|lE (V h) λx6 h6 h=>RT.shr .none _ Y Y T (by decide) (AB (k:=.u32) (a:=x0) (q:=16) (s:=16) Y h6)<|ag Y<|dn<|aW<|ag Y<|dn<|⟨(x6,16),h,wR []⟩;obtain⟨D2,Lo⟩:=j2
 try dsimp only
 refine aV.n<|qq<|sr<|mv Y<|lE h λx8 h8 h=>ge _ Y Y (Vo (p:=256) (q:=D2) h8)<|dn ?_;refine bC h (λj4=>AS.ct 19 [(0,.sv (.v (.int .u32 ((j4.1:Nat):Int)))),(2,ai j4.2)] [] []) (λh=>?_) (λj4 h=>?_);cases x8;exact fs<|⟨(D2,Lo),(F h),wR []⟩;exact cT<|sr<|mv Y<|lE (V h) λdJ fZ h=>RT.shr .none _ Y Y T (by decide) (AB (k:=.u32) (a:=D2) (q:=8) (s:=8) Y fZ)<|ag Y<|dn<|aW<|mv Y<|lE h λdj fW h=>ad _ Y Y fW<|ag Y<|dn<|⟨(dJ,dj),h,wR []⟩;obtain⟨Sb,Sc⟩:=j4
 try dsimp only
 refine aV.n<|sr<|mv Y<|mv Y<|lE h λeN jy h=>cv _ Y (UK.nat jy)<|bE h λfE iY h=>?_;refine RT.six (l:=[0,1,2,2,3,3,3,3,4,4,4,4,4,4,4,4,5,5,5,5,5,5,5,5,5,5,5,5,5,5,5,5,6,6,6,6,6,6,6,6,6,6,6,6,6,6,6,6,6,6,6,6,6,6,6,6,6,6,6,6,6,6,6,6,7,7,7,7,7,7,7,7,7,7,7,7,7,7,7,7,7,7,7,7,7,7,7,7,7,7,7,7,7,7,7,7,7,7,7,7,7,7,7,7,7,7,7,7,7,7,7,7,7,7,7,7,7,7,7,7,7,7,7,7,7,7,7,7,8,8,8,8,8,8,8,8,8,8,8,8,8,8,8,8,8,8,8,8,8,8,8,8,8,8,8,8,8,8,8,8,8,8,8,8,8,8,8,8,8,8,8,8,8,8,8,8,8,8,8,8,8,8,8,8,8,8,8,8,8,8,8,8,8,8,8,8,8,8,8,8,8,8,8,8,8,8,8,8,8,8,8,8,8,8,8,8,8,8,8,8,8,8,8,8,8,8,8,8,8,8,8,8,8,8,8,8,8,8,8,8,8,8,8,8,8,8,8,8,8,8,8,8,8,8,8,8]) .none Y Y T iY ?_;refine lE h λeM kg h=>cv _ Y kg<|lE h λfj jT h=>ad _ Y Y jT<|ag Y<|dn<|bf ?_;obtain rfl:=O h;exact R1 Y
theorem lU{x0:Nat}{r:Int}(h:cO x0=some r):Pure ah 165 [.v (.int .u32 ((x0:Nat):Int))] (ay r):=by
 refine aZ Tryz.func165 Y (af Y) (λdD M vs hvs=>?_);unfold cO at h;refine sr<|ag Y<|dn<|sr<|mv Y<|bE h λx4 h4 h=>cl (rY h4) ⟨Y,aq⟩<|lE h λx5 h5 h=>sb _ Y Y h5<|ag Y<|dn<|bf ?_;obtain rfl:=O h;exact R1 Y
theorem tC{x0:List Nat}{o0:Nat}{n0:Nat}{x1:List Nat}{r:Nat×List Nat}(h:fV x0 o0 n0 x1=some r):DU ah 167 [.lC 1000 (o0*1) n0,.sv (slc 1 (List.map aY x1))] (TR 106 1 aY x0) (.sv (.v (.int .u64 ((r.1:Nat):Int)))) (List.flatMap aY r.2):=by
 refine rI Tryz.func167 Y (af Y) Y Y (λdD M v0=>?_);unfold fV at h;refine sr<|ag Y<|dn<|sr<|mv Y<|lE h λdj fW h=>ln Y fW<|ag Y<|dn<|qq<|bh mixed<|mo (s:=.lC _ _ _) Y<|mv Y<|bE h λeN jy h=>RT.Ch .none Y Y T jy<|bE h λfE iY h=>lR Y Y iY Y<|lE h λeM kg h=>cv _ Y (UK.nat kg)<|lE h λfj jT h=>RT.shl .none _ Y Y T (by decide) (UK.shl (a:=eM) (q:=32) (s:=32) Y jT)<|mo (s:=.lC _ _ _) Y ?_;refine mv Y<|lE h λgi mU h=>sb _ Y Y mU<|bE h λgQ nw h=>RT.Ch .none Y Y T nw<|bE h λgM oc h=>lR Y Y oc Y<|lE h λgO oT h=>cv _ Y (UK.nat oT)<|lE h λlO oe h=>RT.or .none _ Y Y T (UK.or (a:=fj) (b:=gO) oe)<|ag Y ?_;refine RT.done ⟨by kernel_rfl,?_⟩;refine aV.n<|qq<|bh mixed<|mv Y<|mv Y<|lE h λmR tv h=>sb _ Y Y tv<|bE h λgR l8 h=>ix Y Y l8<|lr Y Y<|lE h λoG wQ h=>cv _ Y (UK.nat wQ)<|mv Y<|mv Y<|lE h λmQ qL h=>sb _ Y Y qL<|bE h λrj zj h=>ix Y Y zj<|lr Y Y<|lE h λyO Gy h=>cv _ Y (UK.nat Gy)<|ag Y<|ag Y ?_;refine RT.done ⟨by kernel_rfl,?_⟩;refine aV.n<|qq<|bh mixed<|mv Y<|mv Y<|bE h λlT rz h=>RT.quo .none _ Y Y T (Vp rz) (UK.quo rz)<|mv Y<|mv Y<|bE h λDF KA h=>RT.rem .none _ Y Y T (Ua KA) (Ld KA)<|ag Y<|ag Y ?_;refine RT.done ⟨by kernel_rfl,?_⟩;refine aV.n<|qq<|bE h λIz AR qK=>?_
 refine bK (λ(Gq:Nat)=>AS.ct 71 [(9,.sv (.v (.int .u64 ((Gq:Nat):Int))))] [] [(1000,TR 106 1 aY x0)]) (λGq=>Gq=Iz) ?_ (λGq AT=>?_);refine bj ?_;refine bL AR (λzS=>AS.ct 71 [(0,.lC 1000 (o0*1) n0),(5,ai dj),(7,.sv (.v (.int .u64 ((oG:Nat):Int)))),(8,.sv (.v (.int .u64 ((yO:Nat):Int)))),(9,.sv (.v (.int .u64 ((zS.1:Nat):Int)))),(10,.sv (.v (.int .u64 ((zS.2:Nat):Int))))] [] [(1000,TR 106 1 aY x0)]) (wR []) (λzS Ue Uf h AU xI=>?_);obtain⟨y7,zT⟩:=zS
 try dsimp only
 refine qq<|qq ?_;refine bC h (λIA=>AS.ct 71 [(0,.lC 1000 (o0*1) n0),(5,ai dj),(7,.sv (.v (.int .u64 ((oG:Nat):Int)))),(8,.sv (.v (.int .u64 ((yO:Nat):Int)))),(9,.sv (.v (.int .u64 ((y7:Nat):Int)))),(10,.sv (.v (.int .u64 ((zT:Nat):Int)))),(61,aj IA)] [] [(1000,TR 106 1 aY x0)]) (λh=>?_) (λD3 h=>?_);refine aW<|mv Y<|lE h λDG Lt h=>RT.shr .none _ Y Y T (by decide) (AB (k:=.u64) (a:=y7) (q:=32) (s:=32) Y Lt)<|lE h λo9 h46 h=>ne _ Y Y (T8 (p:=DG) (q:=0) h46)<|mv Y<|bE h λIk ez h=>?_;cases o9;refine gm Y<|gm Y<|lE (F ez) λvG Gx ez=>RT.mul (.some Y Y) _ Y Y T (UK.mul (a:=y7) (b:=yO) Gx)<|gm Y<|lE ez λy5 Ec ez=>RT.shl (.some Y Y) _ Y Y T (by decide) (UK.shl (a:=zT) (q:=32) (s:=32) Y Ec)<|RT.move (.some Y Y) (s:=.lC _ _ _) Y T<|gm Y<|lE ez λLp SF ez=>RT.sub (.some Y Y) _ Y Y T SF<|bE ez λMZ Px ez=>RT.Ch (.some Y Y) Y Y T Px<|bE ez λLn SC ez=>RT.RW (.some Y Y) Y Y SC Y T ?_;refine lE ez λRa We ez=>RT.conv (.some Y Y) _ Y T (UK.nat We)<|lE ez λIh SD ez=>RT.or (.some Y Y) _ Y Y T (UK.or (a:=y5) (b:=Ra) SD)<|lE ez λGp Nj ez=>gg _ Y Y (T9 (p:=Ih) (q:=vG) Nj) ?_;obtain rfl:=O ez;exact pF Y<|dn<|⟨Gp,h,wR []⟩;obtain rfl:=O (V ez)
 exact ww<|ww<|ww<|ww<|ww<|ww<|ww<|ww<|ww<|ww<|ww<|ww<|ww<|pT Y<|dn<|⟨true,h,wR []⟩
 try dsimp only
 refine aV.n ?_;cases D3;refine cF<|bP<|aV.x<|aV.x<|bw.x<|aV.n ?_;obtain rfl:=O (F h);exact⟨y7,xI _ Y,wR []⟩;refine cT<|bp<|aV.n<|bj<|sr<|mv Y<|lE (V h) λM1 h63 h=>sb _ Y Y (UK.sub (a:=y7) (b:=1) h63)<|ag Y<|dn<|sr<|mv Y<|mv Y<|lE h λM3 Wf h=>ad _ Y Y (UK.add (a:=zT) (b:=oG) Wf)<|ag Y<|dn<|sr<|mv Y<|lE h λQ8 Wg h=>RT.shr .none _ Y Y T (by decide) (AB (k:=.u64) (a:=M3) (q:=32) (s:=32) Y Wg)<|lE h λQ9 SG h=>ne _ Y Y (T8 (p:=Q8) (q:=0) SG) ?_;refine dn ?_;cases Q9;refine cF<|bp<|bw.n ?_;obtain rfl:=O (F h);exact aV.n ⟨(M1,M3),AU _ Y,wR []⟩;refine cT<|bP<|bw.y (by decide)<|aV.x<|bw.x<|aV.n ?_;obtain rfl:=O (V h);exact⟨M1,xI _ Y,wR []⟩;subst AT
 try dsimp only
 refine aV.n<|sr<|mv Y<|ag Y<|dn<|bf<|bE qK λ_ hle qK=>?_;obtain rfl:=O qK;exact⟨.inr Y,.sv (lQ (.tmp Y (.nil)) au),(by show _=nS.live ⟨106,1,x0.length,List.flatMap aY x0⟩;rw[<-kf hle];rfl)⟩
theorem mW{x0:List Nat}{o0:Nat}{n0:Nat}{x1:List Nat}{x2:Nat}{r:Bool×List Nat}(h:cG x0 o0 n0 x1 x2=some r):DU ah 168 [.lC 1000 (o0*1) n0,.sv (slc 1 (List.map aY x1)),.sv (.v (.int .u64 ((x2:Nat):Int)))] (TR 106 1 aY x0) (aj r.1) (List.flatMap aY r.2):=by
 refine rI Tryz.func168 Y (af Y) Y Y (λdD M v0=>?_);unfold cG at h;refine sr<|ag Y<|dn<|sr<|ag Y<|dn<|sr<|RT.xp .none (dM 0) Y ⟨Y,aq⟩ T Y Y<|an (s:=.eT _ _) Y<|dn<|qq<|sr<|mo (s:=.lC _ _ _) Y<|lE h λdV iJ h=>RT.O8 .none Y T iJ<|mv Y<|dn<|bE h λKz IC lW=>?_;refine bK (λ(uV:Nat×(List Nat))=>AS.ct 51 [(7,.sv (.v (.int .u64 ((uV.1:Nat):Int))))] [] [(1000,TR 106 1 aY uV.2)]) (λuV=>uV=Kz) ?_ (λuV Py=>?_);refine bj ?_;refine bL IC (λDH=>AS.ct 51 [(0,.lC 1000 (o0*1) n0),(1,.sv (slc 1 (List.map aY x1))),(2,.sv (.v (.int .u64 ((x2:Nat):Int)))),(7,.sv (.v (.int .u64 ((DH.1:Nat):Int)))),(8,.eT 157 [.box 12]),(14,ai dV),(15,ai DH.2.1)] [(12,⟨104,[.sv (.v (.int .u64 ((DH.2.2.1:Nat):Int)))]⟩)] [(1000,TR 106 1 aY DH.2.2.2)]) (wR []) (λDH y12 G12 h ID IE=>?_);obtain⟨Gr,sY,AN,qo⟩:=DH
 try dsimp only
 refine sr<|lE h λfE iY h=>ls _ Y Y iY<|dn<|qq ?_;cases fE;refine cF<|bP<|aV.x<|aV.x<|bw.x<|aV.n ?_;obtain rfl:=O (F h);exact⟨(Gr,qo),IE _ Y,wR []⟩;refine cT<|bp<|aV.n<|qq<|bj<|sr<|mv Y<|ag Y<|dn<|sr<|ag Y<|dn<|qq<|sr<|mv Y<|mv Y<|lE (V h) λju oQ h=>ln Y oQ<|lE h λgi mU h=>ls _ Y Y mU<|dn ?_;refine bC h (λj14=>AS.ct 51 [(0,.lC 1000 (o0*1) n0),(1,.sv (slc 1 (List.map aY x1))),(2,.sv (.v (.int .u64 ((x2:Nat):Int)))),(7,.sv (.v (.int .u64 ((Gr:Nat):Int)))),(8,.eT 157 [.box 12]),(9,ai sY),(10,.sv (.v (.int .u64 ((j14:Nat):Int)))),(14,ai dV),(15,ai sY)] [(12,⟨104,[.sv (.v (.int .u64 ((AN:Nat):Int)))]⟩)] [(1000,TR 106 1 aY qo)]) (λh=>?_) (λIl h=>?_);cases gi;exact fs<|⟨0,(F h),wR []⟩;exact cT<|aW<|mv Y<|mv Y<|bE (V h) λgO oT h=>ix Y Y oT<|lr Y Y<|lE h λkN rW h=>cv _ Y (UK.nat rW)<|mv Y<|lE h λmR tv h=>RT.mul .none _ Y Y T (UK.mul (a:=kN) (b:=x2) tv)<|ag Y<|dn<|⟨mR,h,wR []⟩
 try dsimp only
 refine aV.n<|qq<|bh mixed<|mo (s:=.lC _ _ _) Y<|mv Y<|bE h λoG wQ h=>RT.Ch .none Y Y T wQ<|bE h λiF nx h=>lR Y Y nx Y<|lE h λl7 uA h=>cv _ Y (UK.nat uA)<|mo (s:=.eT _ _) Y<|mv Y ?_;obtain⟨⟨sD,VL⟩,wj,h⟩:=bS h;refine cB (bW wj) 12 Y ⟨Y,aq⟩<|lE h λyO Gy h=>cv _ Y (UK.nat Gy)<|lE h λsy Cy h=>sb _ Y Y (UK.sub (a:=l7) (b:=yO) Cy)<|mv Y<|lE h λlT rz h=>sb _ Y Y (UK.sub (a:=sy) (b:=Gr) rz)<|ag Y ?_;refine RT.done ⟨by kernel_rfl,?_⟩;refine aV.n<|sr<|mo (s:=.lC _ _ _) Y<|mv Y<|mv Y<|lE h λza Gz h=>cv _ Y (UK.nat Gz)<|bE h λDG Lt h=>RT.Ch .none Y Y T Lt<|bE h λVM SH h=>sR za Y Y Y Y SH<|dn<|aW<|mv Y<|lE h λsB xJ h=>RT.shr .none _ Y Y T (by decide) (AB (k:=.u64) (a:=lT) (q:=63) (s:=63) Y xJ)<|ag Y<|RT.done<|bw.n<|aV.n<|aW<|lE h λy4 h48 h=>ad _ Y Y h48<|mv Y<|RT.done ?_;obtain rfl:=O h;exact aV.n ⟨(sB,y4,VL,VM),ID _ Y,wR []⟩;subst Py;obtain⟨Im,sZ⟩:=uV
 try dsimp only
 refine aV.n<|sr<|mv Y<|lE lW λvG Gx lW=>ne _ Y Y (T8 (p:=Im) (q:=0) Gx)<|ag Y<|dn<|bf<|bE lW λ_ hle lW=>?_;obtain rfl:=O lW;exact⟨.inr Y,.sv (lQ (.tmp Y (.nil)) au),(by show _=nS.live ⟨106,1,x0.length,List.flatMap aY sZ⟩;rw[<-kf hle];rfl)⟩
set_option maxHeartbeats 4000000 in
theorem uW{x0:List Nat}{x1:List Nat}{r:(List Nat)×(List Nat)}(h:gA x0 x1=some r):Pure ah 159 [slc 1 (List.map aY x0),slc 1 (List.map aY x1)] (.yN [slc 1 (List.map aY r.1),slc 1 (List.map aY r.2)]):=by
 refine aZ Tryz.func159 Y (af Y) (λdD M vs hvs=>?_);unfold gA at h;refine sr<|ag Y<|ag Y<|dn<|bQ (gU 4 306 106 1 Y Y T)<|bQ (gU 5 308 106 1 Y Y T)<|sr<|mv Y<|lE h λeM kg h=>ln Y kg<|ag Y<|dn<|sr<|mv Y<|mv Y<|lE h λju oQ h=>sb _ Y Y oQ<|bE h λgi mU h=>ix Y Y mU<|lr Y Y<|bE h λgM oc h=>cl (lU oc) ⟨Y,aq⟩ ?_;refine lE h λgO oT h=>cv _ Y (UK.conv oT)<|ag Y<|dn<|qq<|bh mixed<|mv Y<|mv Y<|bE h λgN nc h=>cN (qM nc) ⟨Y,Y,aq⟩<|mv Y<|mv Y<|bE h λuO zh h=>cl (rX zh) ⟨Y,Y,aq⟩<|mv Y<|bE h λiF nx h=>RT.rP .none 0 eM Y Y ⟨_,Y⟩ T nx<|an (s:=.row _) Y<|ag Y ?_;refine RT.done ⟨by kernel_rfl,?_⟩;refine aV.n<|sr<|mv Y<|lE h λmQ qL h=>ln Y qL<|mv Y<|lE h λsD wj h=>sb _ Y Y wj<|lE h λyO Gy h=>ad _ Y Y Gy<|bE h λsy Cy h=>RT.qY (n:=1) (e:=aY) .none Y Y T Y T (by rfl) (by decide) (by exact⟨au,aq⟩) Cy<|an (s:=.row _) Y<|dn<|qq<|sr<|mv Y<|lE h λlT rz h=>ln Y rz<|mv Y<|lE h λo8 AW h=>sb _ Y Y AW ?_;refine ag Y<|dn<|bE h λSj Wh Pz=>?_;refine bK (λ(GA:(List Nat)×(List Nat))=>AS.ct 141 [(4,.row 38),(6,ai eM),(7,.sv (.v (.int .u64 ((gO:Nat):Int)))),(8,.row 27)] [] [(38,TR 106 1 aY GA.1),(27,TR 106 1 aY GA.2)]) (λGA=>GA=Sj) ?_ (λGA Wi=>?_);refine bj ?_
 refine bL Wh (λPe=>AS.ct 141 [(4,.row 38),(6,ai eM),(7,.sv (.v (.int .u64 ((gO:Nat):Int)))),(8,.row 27),(9,.sv (slc 1 (List.map aY iF))),(10,ai Pe.1)] [] [(38,TR 106 1 aY Pe.2.1),(27,TR 106 1 aY Pe.2.2)]) (wR []) (λPe y36 G36 h Wj Wk=>?_);obtain⟨gW,pg,rT⟩:=Pe
 try dsimp only
 refine qq<|sr<|mv Y<|lE h λza Gz h=>ge _ Y Y Gz<|dn ?_;cases za;refine cF<|bP<|aV.x<|aV.x<|bw.x<|aV.n ?_;obtain rfl:=O (F h);exact⟨(pg,rT),Wk _ Y,wR []⟩;refine cT<|bp<|aV.n<|qq<|bj<|sr<|mo (s:=.row _) Y<|mv Y<|mv Y<|mv Y<|lE (V h) λMY Pw h=>ad _ Y Y Pw<|lE h λy5 Ec h=>ad _ Y Y Ec ?_;obtain⟨⟨o53,n53⟩,Wm,h⟩:=bS h;refine RT.R3 .none gW y5 Y Y ⟨_,Y⟩ ⟨_,Y⟩ T Wm<|mv Y ?_;obtain⟨⟨Lp,Pf⟩,SF,h⟩:=bS h;refine bE h λ_ Wn h=>cR (l:=rT) (l':=Pf) (e:=aY) (tC SF) (kf Wn) 27 Y (.k2 Y Y)<|ag Y<|dn<|qq<|sr<|mo (s:=.row _) Y<|mv Y<|mv Y<|mv Y<|lE h λGp Nj h=>ad _ Y Y Nj<|lE h λPc Wd h=>ad _ Y Y Wd ?_;obtain⟨⟨o62,n62⟩,Wo,h⟩:=bS h;refine RT.R3 .none gW Pc Y Y ⟨_,Y⟩ ⟨_,Y⟩ T Wo<|mv Y<|mv Y ?_;obtain⟨⟨Pg,Rb⟩,Ug,h⟩:=bS h;refine bE h λ_ Wp h=>cR (l:=Pf) (l':=Rb) (e:=aY) (mW Ug) (kf Wp) 27 Y (.k3 Y Y Y)<|dn ?_;refine bC h (λRc=>AS.ct 141 [(4,.row 38),(6,ai eM),(7,.sv (.v (.int .u64 ((gO:Nat):Int)))),(8,.row 27),(9,.sv (slc 1 (List.map aY iF))),(10,ai gW),(11,.sv (.v (.int .u64 ((Rc.1:Nat):Int))))] [] [(38,TR 106 1 aY pg),(27,TR 106 1 aY Rc.2)]) (λh=>?_) (λRc h=>?_);cases Pg;exact fs<|⟨(Lp,Rb),(F h),wR []⟩
 refine cT<|sr<|mv Y<|lE (V h) λSe h67 h=>sb _ Y Y (UK.sub (a:=Lp) (b:=1) h67)<|ag Y<|dn<|sr<|RT.xp .none (dM 0) Y ⟨Y,aq⟩ T Y Y<|an (s:=.eT _ _) Y<|dn<|qq<|sr<|mv Y<|lE h λVO Wq h=>ln Y Wq<|mv Y<|dn<|bE h λVU Ws pE=>?_;refine bK (λ(GB:Nat×(List Nat))=>AS.ct 141 [(4,.row 38),(6,ai eM),(7,.sv (.v (.int .u64 ((gO:Nat):Int)))),(8,.row 27),(9,.sv (slc 1 (List.map aY iF))),(10,ai gW),(11,.sv (.v (.int .u64 ((Se:Nat):Int)))),(12,.eT 157 [.box 68])] [(68,⟨104,[.sv (.v (.int .u64 ((GB.1:Nat):Int)))]⟩)] [(38,TR 106 1 aY pg),(27,TR 106 1 aY GB.2)]) (λGB=>GB=VU) ?_ (λGB Wt=>?_);refine bj ?_;refine bL Ws (λPj=>AS.ct 141 [(4,.row 38),(6,ai eM),(7,.sv (.v (.int .u64 ((gO:Nat):Int)))),(8,.row 27),(9,.sv (slc 1 (List.map aY iF))),(10,ai gW),(11,.sv (.v (.int .u64 ((Se:Nat):Int)))),(12,.eT 157 [.box 68]),(69,.sv (slc 1 (List.map aY iF))),(70,ai VO),(71,ai Pj.1)] [(68,⟨104,[.sv (.v (.int .u64 ((Pj.2.1:Nat):Int)))]⟩)] [(38,TR 106 1 aY pg),(27,TR 106 1 aY Pj.2.2)]) (wR []) (λPj y65 G65 h Wu Wv=>?_);obtain⟨uP,tc,rU⟩:=Pj
 try dsimp only
 refine sr<|lE h λIp SI h=>ls _ Y Y SI<|dn<|qq ?_;cases Ip;refine cF<|bP<|aV.x<|aV.x<|bw.x<|aV.n ?_;obtain rfl:=O (F h);exact⟨(tc,rU),Wv _ Y,wR []⟩;refine cT<|bp<|aV.n<|qq<|bj<|sr<|mv Y<|bE (V h) λLq SJ h=>ix Y Y SJ<|lr Y Y<|ag Y<|ag Y<|dn<|aW<|mo (s:=.row _) Y<|mv Y<|mv Y<|lE h λx79 h79 h=>ad _ Y Y h79<|mo (s:=.eT _ _) Y<|mo (s:=.row _) Y<|mv Y<|mv Y<|lE h λx84 h84 h=>ad _ Y Y h84<|bE h λSf Ww h=>iR Y Y Y Ww ?_;refine bE h λIq Wy h=>lR Y Y Wy Y<|lE h λVP h87 h=>cv _ Y (UK.nat h87)<|mv Y<|lE h λVQ h89 h=>cv _ Y (UK.nat h89)<|lE h λSg Wz h=>ad _ Y Y (UK.add (a:=VP) (b:=VQ) Wz) ?_;obtain⟨⟨Pk,VR⟩,WA,h⟩:=bS h;refine cB (bW WA) 68 Y ⟨Y,aq⟩<|bE h λx92 h92 h=>iR Y Y Y h92<|bE h λVS SK h=>sR Pk Y Y Y Y SK<|RT.done<|bw.n<|aV.n<|aW<|lE h λVT h93 h=>ad _ Y Y h93<|mv Y<|RT.done ?_;obtain rfl:=O h;exact aV.n ⟨(VT,VR,VS),Wu _ Y,wR []⟩;subst Wt;obtain⟨Cp,xE⟩:=GB
 try dsimp only
 refine aV.n<|aW<|mo (s:=.row _) Y<|mv Y<|mv Y<|lE pE λx97 h97 pE=>ad _ Y Y h97<|mo (s:=.eT _ _) Y<|mo (s:=.row _) Y<|mv Y<|mv Y<|lE pE λD5 PA pE=>ad _ Y Y PA<|bE pE λSh WB pE=>iR Y Y Y WB<|bE pE λD6 PB pE=>lR Y Y PB Y<|lE pE λGs PC pE=>cv _ Y (UK.nat PC) ?_;obtain⟨⟨Pm,k72⟩,WC,pE⟩:=bS pE;exact cB (bW WC) 68 Y ⟨Y,aq⟩<|bE pE λSi WD pE=>iR Y Y Y WD<|bE pE λVV SL pE=>sR Pm Y Y Y Y SL<|dn<|⟨(Se,VV),pE,wR []⟩;obtain⟨Io,D4⟩:=Rc
 try dsimp only
 refine aV.n<|aW<|mo (s:=.row _) Y<|mv Y<|mv Y<|lE h λPh WE h=>cv _ Y (UK.nat WE)<|bE h λSd WG h=>iR Y Y Y WG<|bE h λVN SM h=>sR Ph Y Y Y Y SM<|RT.done<|bw.n<|aV.n<|aW<|mv Y<|lE h λo9 h46 h=>sb _ Y Y h46<|ag Y<|RT.done ?_;obtain rfl:=O h;exact aV.n ⟨(o9,VN,D4),Wj _ Y,wR []⟩;subst Wi;obtain⟨xF,uQ⟩:=GA
 try dsimp only
 refine aV.n<|sr<|mv Y<|bE Pz λD7 PD Pz=>RT.qY (n:=1) (e:=aY) .none Y Y T Y T (by rfl) (by decide) (by exact⟨au,aq⟩) PD<|an (s:=.row _) Y<|dn<|qq<|sr<|mv Y<|mv Y<|dn<|bE Pz λe81 WH WI=>?_;refine bK (λ(oa:(List Nat))=>AS.ct 141 [(4,.row 38),(5,.row 114)] [] [(38,TR 106 1 aY xF),(114,TR 106 1 aY oa)]) (λoa=>oa=e81) ?_ (λoa WJ=>?_);refine bj ?_;refine bL WH (λRd=>AS.ct 141 [(4,.row 38),(5,.row 114),(7,.sv (.v (.int .u64 ((gO:Nat):Int)))),(8,.row 27),(115,ai eM),(116,ai Rd.1)] [] [(38,TR 106 1 aY xF),(114,TR 106 1 aY Rd.2),(27,TR 106 1 aY uQ)]) (wR []) (λRd y81 G81 h WK WL=>?_);obtain⟨qp,tf⟩:=Rd
 try dsimp only
 refine sr<|lE h λPn WM h=>ls _ Y Y WM<|dn<|qq ?_;cases Pn;refine cF<|bP<|aV.x<|aV.x<|bw.x<|aV.n ?_;obtain rfl:=O (F h);exact⟨tf,WL _ Y,wR []⟩;refine cT<|bp<|aV.n<|qq<|bj<|sr<|mv Y<|ag Y<|dn<|bh mixed<|mo (s:=.row _) Y<|mv Y<|mo (s:=.row _) Y<|mv Y<|bE (V h) λSk WN h=>iR Y Y Y WN<|bE h λSl WO h=>lR Y Y WO Y<|lE h λPo WQ h=>cv _ Y (UK.nat WQ)<|mo (s:=.row _) Y<|mv Y<|lE h λSn h128 h=>ad _ Y Y h128<|bE h λSo WR h=>?_;refine iR Y Y Y WR<|bE h λSq WS h=>lR Y Y WS Y<|lE h λPp WT h=>cv _ Y (UK.nat WT)<|lE h λPq WU h=>RT.shl .none _ Y Y T (by decide) (UK.shl (a:=Pp) (q:=32) (s:=32) Y WU)<|lE h λPr WV h=>RT.or .none _ Y Y T (UK.or (a:=Po) (b:=Pq) WV)<|mv Y<|lE h λSr WW h=>RT.shr .none _ Y Y T (Int.natCast_nonneg _) (AB (k:=.u64) (a:=Pr) (q:=((gO:Nat):Int)) (s:=min gO 64) Y WW)<|lE h λPs WX h=>cv _ Y (UK.nat WX) ?_;refine bE h λSs WY h=>iR Y Y Y WY<|bE h λVW SN h=>sR Ps Y Y Y Y SN ?_;refine RT.done ⟨by kernel_rfl,?_⟩;refine bw.n<|aV.n<|aW<|lE h λPt WZ h=>ad _ Y Y WZ<|mv Y<|RT.done ?_;obtain rfl:=O h;exact aV.n ⟨(Pt,VW),WK _ Y,wR []⟩;subst WJ
 try dsimp only
 refine aV.n<|sr<|mo (s:=.row _) Y<|mo (s:=.row _) Y<|an (s:=.row _) Y<|an (s:=.row _) Y<|dn<|bQ (cC (i:=38) (E1:=106) (n:=1) (e:=aY) (l:=xF) Y)<|bQ (cC (i:=114) (E1:=106) (n:=1) (e:=aY) (l:=oa) Y)<|bf ?_;obtain rfl:=O WI;exact R2 Y Y
theorem nf{x0:List Nat}{x1:List Nat}{r:(List Nat)×(List Nat)}(h:eP x0 x1=some r):Pure ah 146 [slc 1 (List.map aY x0),slc 1 (List.map aY x1)] (.yN [slc 1 (List.map aY r.1),slc 1 (List.map aY r.2)]):=by
 refine aZ Tryz.func146 Y (af Y) (λdD M vs hvs=>?_);unfold eP at h;refine sr<|ag Y<|aI Y (aB (n:=1) (e:=aY))<|dn<|bQ (gU 4 304 106 1 Y Y T)<|qq<|bj<|sr<|mv Y<|mv Y<|bE h λdj fW h=>cl (eX fW) ⟨Y,Y,aq⟩<|lE h λkE mS h=>ls _ Y Y mS<|ag Y<|dn ?_;cases kE;refine cF<|sr<|mv Y<|lE (F h) λfj jT h=>ln Y jT<|lE h λjZ mz h=>RT.leq .none _ Y Y T mz<|ag Y<|dn ?_;cases jZ;refine cF<|sr<|mv Y<|lE (F h) λsD wj h=>ln Y wj<|lE h λyO Gy h=>eq _ Y Y (vD (p:=sD) (q:=1) Gy)<|ag Y<|dn ?_;cases yO;refine cF<|bp<|bw.n<|aV.n<|sr<|mv Y<|mv Y ?_;obtain⟨⟨St,Su⟩,Ec,h⟩:=bS (F h);refine cl (uW Ec) ⟨Y,Y,aq⟩<|ex Y Y<|ex Y Y<|ag Y<|ag Y<|dn<|bf ?_;obtain rfl:=O h;exact R2 Y Y;refine cT<|sr<|mv Y<|bE (V h) λoP CD h=>cN (uS CD) ⟨Y,aq⟩<|an (s:=.row _) Y<|dn<|sr<|mo (s:=.row _) Y<|mv Y<|bE h λo8 AW h=>ix Y Y AW<|lr Y Y<|lE h λza Gz h=>cv _ Y (UK.nat Gz) ?_;obtain⟨⟨DG,l5⟩,Lt,h⟩:=bS h;refine bE h λ_ he5 h=>cR (l:=oP) (l':=l5) (e:=aY) (tw Lt) (kf he5) 39 Y (.k2 Y Y)<|ag Y<|dn<|sr<|mo (s:=.row _) Y<|mv Y<|lE h λy4 h48 h=>cv _ Y (UK.nat h48)<|bl (l:=[y4]) (e:=aY) (.one Y (.nil)) Y Y Y Y Y Y<|an (s:=.row _) Y<|ag Y<|dn<|bQ (cC (i:=39) (E1:=106) (n:=1) (e:=aY) (l:=l5) Y)<|bf ?_;refine bw.r<|aV.r ?_;obtain rfl:=O h;exact R2 Y Y
 refine cT<|sr<|mv Y<|bE (V h) λgi mU h=>cl (gk mU) ⟨Y,aq⟩<|mv Y<|bE h λgM oc h=>cl (gk oc) ⟨Y,aq⟩<|ag Y<|ag Y<|dn<|qq<|bh mixed<|mv Y<|mv Y<|bE h λkN rW h=>RT.quo .none _ Y Y T (Vp rW) (UK.quo rW) ?_;obtain⟨⟨tg,rm⟩,nc,h⟩:=bS h;refine cl (gX nc) ⟨Y,Y,aq⟩<|fl Y Y<|mv Y<|mv Y<|bE h λoG wQ h=>RT.rem .none _ Y Y T (Ua wQ) (Ld wQ) ?_;obtain⟨⟨ru,pq⟩,nx,h⟩:=bS h;refine cl (gX nx) ⟨Y,Y,aq⟩<|fl Y Y<|ag Y<|ag Y ?_;refine RT.done ⟨by kernel_rfl,?_⟩;refine aV.n<|bf<|bw.r<|aV.r ?_;obtain rfl:=O h;exact R2 Y Y;refine cT<|sr<|mv Y<|bE (V h) λeN jy h=>cl (lG jy) ⟨Y,aq⟩<|ag Y<|ag Y<|dn<|bQ (gU 4 310 106 1 Y Y T)<|bQ (cC (i:=310) (E1:=106) (n:=1) (e:=aY) (l:=[]) Y)<|bf<|bw.r<|aV.r ?_;obtain rfl:=O h;exact R2 Y Y
end
section
open Go.Fw Go.Fw.Z Go.RowKit
theorem da{x0:Int}{r:Zr}(h:bV x0=some r):Pure ah 93 [ay x0] (.agg (eZ r)):=by
 refine aZ Tryz.func93 Y (af Y) (λdD M vs hvs=>?_);unfold bV at h;refine sr<|al (cs:=[az false,ax]) (by exact⟨au,aB,aq⟩) Y<|dn<|sr<|mv Y<|lE h λx5 h5 h=>cv _ Y (UK.conv h5)<|ag Y<|dn<|qq<|sr<|mv Y<|lE h λx7 h7 h=>ls _ Y Y h7<|dn ?_;refine bC h (λj2=>AS.ct 14 [(0,ai x0),(2,.ptr 2 0),(3,.sv (.v (.int .u64 ((j2:Nat):Int))))] [(2,⟨34,[aj false,.sv ax]⟩)] []) (λh=>?_) (λCq h=>?_);cases x7;exact fs<|⟨x5,(F h),wR []⟩;exact cT<|aW<|mv Y<|lE (V h) λx9 h9 h=>RT.neg .none _ Y T (UK.neg h9)<|ag Y<|dn<|⟨x9,h,wR []⟩
 try dsimp only
 refine aV.n<|sr<|mv Y<|lE h λfK lH h=>ls _ Y Y lH<|mv Y ?_;obtain⟨⟨M4,M5⟩,mS,h⟩:=bS h;refine cl (gX mS) ⟨Y,Y,aq⟩<|so Y Y Y<|dn<|bf ?_;obtain rfl:=O h;exact RZ (.agg Y Y (.k2 Y Y) Y (.nil))
theorem eV{x0:Zr}{r:Int×Bool}(h:cQ x0=some r):Pure ah 100 [.agg (eZ x0)] (.yN [ay r.1,az r.2]):=by
 obtain⟨bu,bt⟩:=x0;refine aZ Tryz.func100 Y (af Y) (λdD M vs hvs=>?_);unfold cQ at h;refine sr<|bx Y<|ag Y<|ag Y<|dn<|sr<|fa Y Y<|lV Y Y Y<|bE h λx8 h8 h=>cl (bU h8) ⟨Y,aq⟩<|ag Y<|dn<|qq<|sr<|mv Y<|lE h λdJ fZ h=>ln Y fZ<|lE h λfK lH h=>gt _ Y Y lH<|dn ?_;cases fK;refine fs<|sr<|mv Y<|bE (F h) λkE mS h=>cl (gk mS) ⟨Y,aq⟩<|ag Y<|dn<|qq<|sr<|fa Y Y<|lV Y Y Y<|dn ?_;cases bu;refine fs<|qq<|sr<|mv Y<|lE (F h) λgQ nw h=>ge _ Y Y (Vo (p:=9223372036854775808) (q:=kE) nw)<|dn ?_;cases gQ;refine fs<|sr<|mv Y<|lE (F h) λgO oT h=>cv _ Y oT<|ag Y<|ag Y<|dn<|bf ?_;obtain rfl:=O h;exact R2 Y Y;refine cT<|sr<|ag Y<|ag Y<|dn<|bf<|aV.r ?_;obtain rfl:=O (V h);exact R2 Y Y;refine cT<|qq<|sr<|mv Y<|lE (V h) λeM kg h=>gt _ Y Y (T9 (p:=9223372036854775808) (q:=kE) kg)<|dn ?_;cases eM;refine fs<|sr<|mv Y<|lE (F h) λjZ mz h=>RT.neg .none _ Y T (UK.neg mz)<|lE h λju oQ h=>cv _ Y oQ<|ag Y<|ag Y<|dn<|bf<|aV.r ?_;obtain rfl:=O h;exact R2 Y Y;refine cT<|sr<|ag Y<|ag Y<|dn<|bf<|aV.r<|aV.r ?_;obtain rfl:=O (V h);exact R2 Y Y;refine cT<|sr<|ag Y<|ag Y<|dn<|bf<|aV.r ?_;obtain rfl:=O (V h);exact R2 Y Y
theorem mA{x0:Bool}{x1:List Nat}{x2:Bool}{x3:List Nat}{r:Zr}(h:cI x0 x1 x2 x3=some r):Pure ah 149 [az x0,slc 1 (List.map aY x1),az x2,slc 1 (List.map aY x3)] (.agg (eZ r)):=by
 refine aZ Tryz.func149 Y (af Y) (λdD M vs hvs=>?_);unfold cI at h;refine sr<|al (cs:=[az false,ax]) (by exact⟨au,aB,aq⟩) Y<|dn<|qq<|sr<|mv Y<|mv Y<|lE h λfK lH h=>RT.UQ .none _ Y Y T lH<|dn ?_;cases fK;refine fs<|qq<|sr<|mv Y<|mv Y<|bE (F h) λjZ mz h=>cl (eX mz) ⟨Y,Y,aq⟩<|lE h λju oQ h=>ls _ Y Y oQ<|dn ?_;cases ju;refine fs<|sr<|mv Y<|mv Y<|mv Y<|bE (F h) λgR l8 h=>cl (jz l8) ⟨Y,Y,aq⟩ ?_;obtain⟨⟨tj,tq⟩,zh,h⟩:=bS h;refine cl (dX zh) ⟨Y,Y,aq⟩<|so Y Y Y<|dn<|bf ?_;obtain rfl:=O h;exact RZ (.agg Y Y (.k2 Y Y) Y (.nil));refine cT<|sr<|mv Y<|mv Y<|mv Y<|bE (V h) λgO oT h=>cl (jz oT) ⟨Y,Y,aq⟩ ?_;obtain⟨⟨vH,th⟩,oe,h⟩:=bS h;refine cl (dX oe) ⟨Y,Y,aq⟩<|so Y Y Y<|dn<|bf<|aV.r ?_;obtain rfl:=O h;exact RZ (.agg Y Y (.k2 Y Y) Y (.nil));refine cT<|sr<|mv Y<|mv Y<|mv Y<|bE (V h) λeN jy h=>cl (m9 jy) ⟨Y,Y,aq⟩ ?_;obtain⟨⟨jg,jh⟩,iY,h⟩:=bS h;refine cl (dX iY) ⟨Y,Y,aq⟩<|so Y Y Y<|dn<|bf<|aV.r ?_;obtain rfl:=O h;exact RZ (.agg Y Y (.k2 Y Y) Y (.nil))
theorem AX{x0:Zr}{x1:Zr}{r:Zr}(h:kO x0 x1=some r):Pure ah 127 [.agg (eZ x0),.agg (eZ x1)] (.agg (eZ r)):=by
 obtain⟨bu,bt⟩:=x0;obtain⟨b7,bX⟩:=x1;refine aZ Tryz.func127 Y (af Y) (λdD M vs hvs=>?_);unfold kO at h;refine sr<|bx Y<|bx Y<|al (cs:=[az false,ax]) (by exact⟨au,aB,aq⟩) Y<|dn<|sr<|ld Y Y (.k2 Y Y) ?_;obtain⟨⟨zb,D8⟩,fW,h⟩:=bS h;refine cl (eV fW) ⟨Y,aq⟩<|mv Y<|ex Y Y<|ex Y Y<|ag Y<|ag Y<|dn<|sr<|ld Y Y (.k2 Y Y) ?_;obtain⟨⟨AO,D9⟩,kg,h⟩:=bS h;refine cl (eV kg) ⟨Y,aq⟩<|mv Y<|ex Y Y<|ex Y Y<|ag Y<|ag Y<|dn<|qq<|qq ?_;refine bC h (λj3=>AS.ct 48 [(2,.ptr 2 0),(3,.ptr 3 0),(4,.ptr 4 0),(5,ai zb),(7,ai AO),(23,aj j3)] [(4,⟨34,[aj false,.sv ax]⟩),(3,⟨34,[aj b7,.sv (slc 1 (List.map aY bX))]⟩),(2,⟨34,[aj bu,.sv (slc 1 (List.map aY bt))]⟩)] []) (λh=>?_) (λxG h=>?_);refine aW<|mv Y<|mv Y<|bE h λCt rZ h=>?_;cases D8;obtain rfl:=O (F rZ);exact ww<|pF Y<|dn<|⟨false,h,wR []⟩;refine gm Y ?_;obtain rfl:=O (V rZ);exact pT Y<|dn<|⟨D9,h,wR []⟩
 try dsimp only
 refine aV.n ?_;refine bC h (λj5=>AS.ct 48 [(2,.ptr 2 0),(3,.ptr 3 0),(4,.ptr 4 0)] [(4,⟨34,[aj false,.sv ax]⟩),(3,⟨34,[aj b7,.sv (slc 1 (List.map aY bX))]⟩),(2,⟨34,[aj bu,.sv (slc 1 (List.map aY bt))]⟩)] []) (λh=>?_) (λj5 h=>?_);cases xG;exact fs<|⟨(),(F h),wR []⟩;refine cT<|sr<|mv Y<|mv Y<|lE (V h) λkN rW h=>ad _ Y Y rW<|ag Y<|dn<|sr<|mv Y<|mv Y<|lE h λgR l8 h=>RT.xor .none _ Y Y T l8<|mv Y<|mv Y<|lE h λiF nx h=>RT.xor .none _ Y Y T nx<|lE h λl7 uA h=>RT.and .none _ Y Y T uA<|lE h λmQ qL h=>ge _ Y Y qL<|dn ?_;cases mQ;exact fs<|⟨(),(F h),wR []⟩;refine cT<|sr<|mv Y ?_;obtain⟨⟨pz,pA⟩,wj,h⟩:=bS (V h);refine cl (da wj) ⟨Y,aq⟩<|so Y Y Y<|dn<|bf<|aV.r<|aV.r ?_;obtain rfl:=O h;exact RZ (.agg Y Y (.k2 Y Y) Y (.nil))
 try dsimp only
 refine aV.n<|qq<|bh mixed<|fa Y Y<|lV Y Y Y<|fa Y Y<|lV Y Y Y<|bE h λwO Gw h=>cl (bU Gw) ⟨Y,aq⟩<|fa Y Y<|lV Y Y Y<|fa Y Y<|lV Y Y Y<|bE h λo9 h46 h=>cl (bU h46) ⟨Y,aq⟩ ?_;obtain⟨⟨Cr,Cs⟩,xJ,h⟩:=bS h;refine cl (mA xJ) ⟨Y,Y,Y,Y,aq⟩<|so Y Y Y ?_;refine RT.done ⟨by kernel_rfl,?_⟩;refine aV.n<|bf ?_;obtain rfl:=O h;exact RZ (.agg Y Y (.k2 Y Y) Y (.nil))
theorem AY{x0:Zr}{x1:Zr}{r:Zr}(h:kP x0 x1=some r):Pure ah 129 [.agg (eZ x0),.agg (eZ x1)] (.agg (eZ r)):=by
 obtain⟨bu,bt⟩:=x0;obtain⟨b7,bX⟩:=x1;refine aZ Tryz.func129 Y (af Y) (λdD M vs hvs=>?_);unfold kP at h;refine sr<|bx Y<|bx Y<|al (cs:=[az false,ax]) (by exact⟨au,aB,aq⟩) Y<|dn<|sr<|ld Y Y (.k2 Y Y) ?_;obtain⟨⟨zb,D8⟩,fW,h⟩:=bS h;refine cl (eV fW) ⟨Y,aq⟩<|mv Y<|ex Y Y<|ex Y Y<|ag Y<|ag Y<|dn<|sr<|ld Y Y (.k2 Y Y) ?_;obtain⟨⟨AO,D9⟩,kg,h⟩:=bS h;refine cl (eV kg) ⟨Y,aq⟩<|mv Y<|ex Y Y<|ex Y Y<|ag Y<|ag Y<|dn<|qq<|qq ?_;refine bC h (λj3=>AS.ct 49 [(2,.ptr 2 0),(3,.ptr 3 0),(4,.ptr 4 0),(5,ai zb),(7,ai AO),(23,aj j3)] [(4,⟨34,[aj false,.sv ax]⟩),(3,⟨34,[aj b7,.sv (slc 1 (List.map aY bX))]⟩),(2,⟨34,[aj bu,.sv (slc 1 (List.map aY bt))]⟩)] []) (λh=>?_) (λxG h=>?_);refine aW<|mv Y<|mv Y<|bE h λCt rZ h=>?_;cases D8;obtain rfl:=O (F rZ);exact ww<|pF Y<|dn<|⟨false,h,wR []⟩;refine gm Y ?_;obtain rfl:=O (V rZ);exact pT Y<|dn<|⟨D9,h,wR []⟩
 try dsimp only
 refine aV.n ?_;refine bC h (λj5=>AS.ct 49 [(2,.ptr 2 0),(3,.ptr 3 0),(4,.ptr 4 0)] [(4,⟨34,[aj false,.sv ax]⟩),(3,⟨34,[aj b7,.sv (slc 1 (List.map aY bX))]⟩),(2,⟨34,[aj bu,.sv (slc 1 (List.map aY bt))]⟩)] []) (λh=>?_) (λj5 h=>?_);cases xG;exact fs<|⟨(),(F h),wR []⟩;refine cT<|sr<|mv Y<|mv Y<|lE (V h) λkN rW h=>sb _ Y Y rW<|ag Y<|dn<|sr<|mv Y<|mv Y<|lE h λgR l8 h=>RT.xor .none _ Y Y T l8<|mv Y<|mv Y<|lE h λiF nx h=>RT.xor .none _ Y Y T nx<|lE h λl7 uA h=>RT.and .none _ Y Y T uA<|lE h λmQ qL h=>ge _ Y Y qL<|dn ?_;cases mQ;exact fs<|⟨(),(F h),wR []⟩;refine cT<|sr<|mv Y ?_;obtain⟨⟨pz,pA⟩,wj,h⟩:=bS (V h);refine cl (da wj) ⟨Y,aq⟩<|so Y Y Y<|dn<|bf<|aV.r<|aV.r ?_;obtain rfl:=O h;exact RZ (.agg Y Y (.k2 Y Y) Y (.nil))
 try dsimp only
 refine aV.n<|qq<|bh mixed<|fa Y Y<|lV Y Y Y<|fa Y Y<|lV Y Y Y<|bE h λwO Gw h=>cl (bU Gw) ⟨Y,aq⟩<|fa Y Y<|lV Y Y Y<|lE h λza Gz h=>nt Y _ Gz<|fa Y Y<|lV Y Y Y<|bE h λsB xJ h=>cl (bU xJ) ⟨Y,aq⟩ ?_;obtain⟨⟨M6,M7⟩,h48,h⟩:=bS h;refine cl (mA h48) ⟨Y,Y,Y,Y,aq⟩<|so Y Y Y ?_;refine RT.done ⟨by kernel_rfl,?_⟩;refine aV.n<|bf ?_;obtain rfl:=O h;exact RZ (.agg Y Y (.k2 Y Y) Y (.nil))
theorem dP{x0:Zr}{x1:Zr}{r:Zr}(h:cX x0 x1=some r):Pure ah 84 [.agg (eZ x0),.agg (eZ x1)] (.agg (eZ r)):=by
 obtain⟨bu,bt⟩:=x0;obtain⟨b7,bX⟩:=x1;refine aZ Tryz.func84 Y (af Y) (λdD M vs hvs=>?_);unfold cX at h;refine sr<|bx Y<|bx Y<|al (cs:=[az false,ax]) (by exact⟨au,aB,aq⟩) Y<|dn<|qq<|bh mixed<|fa Y Y<|lV Y Y Y<|bE h λx9 h9 h=>cl (bU h9) ⟨Y,aq⟩<|fa Y Y<|lV Y Y Y<|bE h λdj fW h=>cl (bU fW) ⟨Y,aq⟩<|ag Y<|ag Y ?_;refine RT.done ⟨by kernel_rfl,?_⟩;refine aV.n<|qq<|qq ?_;refine bC h (λj3=>AS.ct 41 [(2,.ptr 2 0),(3,.ptr 3 0),(4,.ptr 4 0),(5,.sv (slc 1 (List.map aY x9))),(6,.sv (slc 1 (List.map aY dj))),(20,aj j3)] [(4,⟨34,[aj false,.sv ax]⟩),(3,⟨34,[aj b7,.sv (slc 1 (List.map aY bX))]⟩),(2,⟨34,[aj bu,.sv (slc 1 (List.map aY bt))]⟩)] []) (λh=>?_) (λIr h=>?_);refine aW<|mv Y<|lE h λdV iJ h=>ln Y iJ<|lE h λeN jy h=>RT.leq .none _ Y Y T jy<|mv Y<|bE h λNa qt h=>?_;cases eN;obtain rfl:=O (F qt);exact ww<|ww<|ww<|pF Y<|dn<|⟨false,h,wR []⟩;refine gm Y<|lE (V qt) λfj jT qt=>gn Y jT<|lE qt λjZ mz qt=>RT.leq (.some Y Y) _ Y Y T mz ?_;obtain rfl:=O qt;exact pT Y<|dn<|⟨jZ,h,wR []⟩
 try dsimp only
 refine aV.n ?_;cases Ir;refine fs<|qq<|bh mixed<|fa Y Y<|lV Y Y Y<|fa Y Y<|lV Y Y Y<|lE (F h) λsD wj h=>RT.KI .none _ Y Y T wj<|mv Y<|mv Y<|bE h λoP CD h=>cl (tu CD) ⟨Y,Y,aq⟩ ?_;obtain⟨⟨vI,vJ⟩,rz,h⟩:=bS h;refine cl (dX rz) ⟨Y,Y,aq⟩<|so Y Y Y ?_;refine RT.done ⟨by kernel_rfl,?_⟩;refine aV.n<|bf ?_;obtain rfl:=O h;exact RZ (.agg Y Y (.k2 Y Y) Y (.nil));refine cT<|qq<|bh mixed<|fa Y Y<|lV Y Y Y<|fa Y Y<|lV Y Y Y<|lE (V h) λlO oe h=>RT.KI .none _ Y Y T oe<|mv Y<|bE h λgN nc h=>cl (gk nc) ⟨Y,aq⟩<|mv Y<|bE h λgR l8 h=>cl (gk l8) ⟨Y,aq⟩<|lE h λuO zh h=>RT.mul .none _ Y Y T (UK.mul (a:=gN) (b:=gR) zh) ?_;obtain⟨⟨M8,M9⟩,wQ,h⟩:=bS h;refine cl (gX wQ) ⟨Y,Y,aq⟩<|so Y Y Y ?_;refine RT.done ⟨by kernel_rfl,?_⟩;refine aV.n<|bf<|aV.r ?_;obtain rfl:=O h;exact RZ (.agg Y Y (.k2 Y Y) Y (.nil))
theorem jA{x0:Zr}{r:Zr}(h:fy x0=some r):Pure ah 95 [.agg (eZ x0)] (.agg (eZ r)):=by
 obtain⟨bu,bt⟩:=x0;refine aZ Tryz.func95 Y (af Y) (λdD M vs hvs=>?_);unfold fy at h;refine sr<|bx Y<|al (cs:=[az false,ax]) (by exact⟨au,aB,aq⟩) Y<|dn<|qq<|bh mixed<|fa Y Y<|lV Y Y Y<|lE h λx5 h5 h=>nt Y _ h5<|fa Y Y<|lV Y Y Y<|bE h λx8 h8 h=>cl (bU h8) ⟨Y,aq⟩<|bE h λx9 h9 h=>cl (lG h9) ⟨Y,aq⟩ ?_;obtain⟨⟨vK,vL⟩,fZ,h⟩:=bS h;refine cl (dX fZ) ⟨Y,Y,aq⟩<|so Y Y Y ?_;refine RT.done ⟨by kernel_rfl,?_⟩;refine aV.n<|bf ?_;obtain rfl:=O h;exact RZ (.agg Y Y (.k2 Y Y) Y (.nil))
theorem dQ{x0:Zr}{r:Int}(h:cq x0=some r):Pure ah 64 [.agg (eZ x0)] (ay r):=by
 obtain⟨bu,bt⟩:=x0;refine aZ Tryz.func64 Y (af Y) (λdD M vs hvs=>?_);unfold cq at h;refine sr<|bx Y<|ag Y<|dn<|qq<|bj<|sr<|fa Y Y<|lV Y Y Y<|bE h λx6 h6 h=>cl (bU h6) ⟨Y,aq⟩<|lE h λx7 h7 h=>ln Y h7<|lE h λx8 h8 h=>eq _ Y Y (vD (p:=x7) (q:=0) h8)<|ag Y<|dn ?_;cases x8;refine cF<|sr<|fa Y Y<|lV Y Y Y<|ag Y<|dn ?_;replace h:=F h;cases bu;refine cF<|bp<|bw.n<|aV.n<|sr<|ag Y<|dn<|bf ?_;obtain rfl:=O (F h);exact R1 Y;refine cT<|sr<|ag Y<|dn<|bf<|bw.r<|aV.r ?_;obtain rfl:=O (V h);exact R1 Y;refine cT<|sr<|ag Y<|dn<|bf<|bw.r<|aV.r ?_;obtain rfl:=O (V h);exact R1 Y
theorem AZ{x0:Zr}{x1:Zr}{r:Int}(h:kQ x0 x1=some r):Pure ah 83 [.agg (eZ x0),.agg (eZ x1)] (ay r):=by
 obtain⟨bu,bt⟩:=x0;obtain⟨b7,bX⟩:=x1;refine aZ Tryz.func83 Y (af Y) (λdD M vs hvs=>?_);unfold kQ at h;refine sr<|bx Y<|bx Y<|ag Y<|dn<|qq<|bh mixed<|ld Y Y (.k2 Y Y)<|bE h λx8 h8 h=>cl (dQ h8) ⟨Y,aq⟩<|ld Y Y (.k2 Y Y)<|bE h λdJ fZ h=>cl (dQ fZ) ⟨Y,aq⟩<|ag Y<|ag Y ?_;refine RT.done ⟨by kernel_rfl,?_⟩;refine aV.n<|qq<|bj<|sr<|mv Y<|mv Y<|lE h λdV iJ h=>ls _ Y Y iJ<|ag Y<|dn ?_;cases dV;refine cF<|sr<|mv Y<|mv Y<|lE (F h) λfj jT h=>gt _ Y Y jT<|ag Y<|dn ?_;cases fj;refine cF<|sr<|mv Y<|lE (F h) λgi mU h=>ls _ Y Y mU<|ag Y<|dn ?_;cases gi;refine cF<|bp<|bw.n<|aV.n<|qq<|bh mixed<|fa Y Y<|lV Y Y Y<|bE (F h) λoG wQ h=>cl (bU wQ) ⟨Y,aq⟩<|fa Y Y<|lV Y Y Y<|bE h λmQ qL h=>cl (bU qL) ⟨Y,aq⟩<|bE h λrj zj h=>cl (eX zj) ⟨Y,Y,aq⟩<|ag Y ?_;refine RT.done ⟨by kernel_rfl,?_⟩;refine aV.n<|bf ?_;obtain rfl:=O h;exact R1 Y;refine cT<|qq<|bh mixed<|fa Y Y<|lV Y Y Y<|bE (V h) λgO oT h=>cl (bU oT) ⟨Y,aq⟩<|fa Y Y<|lV Y Y Y<|bE h λgN nc h=>cl (bU nc) ⟨Y,aq⟩<|bE h λmR tv h=>cl (eX tv) ⟨Y,Y,aq⟩<|ag Y ?_;refine RT.done ⟨by kernel_rfl,?_⟩;refine aV.n<|bf<|bw.r<|aV.r ?_;obtain rfl:=O h;exact R1 Y;refine cT<|sr<|ag Y<|dn<|bf<|bw.r<|aV.r ?_;obtain rfl:=O (V h);exact R1 Y;refine cT<|sr<|ag Y<|dn<|bf<|bw.r<|aV.r ?_
 obtain rfl:=O (V h);exact R1 Y
theorem oH{x0:Zr}{x1:Zr}{r:Zr×Zr×Int}(h:dW x0 x1=some r):Pure ah 125 [.agg (eZ x0),.agg (eZ x1)] (.yN [.agg (eZ r.1),.agg (eZ r.2.1),ay r.2.2]):=by
 obtain⟨bu,bt⟩:=x0;obtain⟨b7,bX⟩:=x1;refine aZ Tryz.func125 Y (af Y) (λdD M vs hvs=>?_);unfold dW at h;refine sr<|bx Y<|bx Y<|al (cs:=[az false,ax]) (by exact⟨au,aB,aq⟩) Y<|al (cs:=[az false,ax]) (by exact⟨au,aB,aq⟩) Y<|ag Y<|dn<|qq<|bh mixed<|fa Y Y<|lV Y Y Y<|bE h λkE mS h=>cl (bU mS) ⟨Y,aq⟩<|fa Y Y<|lV Y Y Y ?_;refine bE h λfE iY h=>cl (bU iY) ⟨Y,aq⟩<|ag Y<|ag Y ?_;refine RT.done ⟨by kernel_rfl,?_⟩;refine aV.n<|qq<|sr<|mv Y<|lE h λfj jT h=>ln Y jT<|lE h λjZ mz h=>eq _ Y Y (vD (p:=fj) (q:=0) mz)<|dn ?_;cases jZ;refine fs<|sr<|mv Y<|mv Y ?_;obtain⟨⟨xH,AP⟩,oe,h⟩:=bS (F h);refine cl (nf oe) ⟨Y,Y,aq⟩<|mv Y<|ex Y Y<|ex Y Y<|ag Y<|ag Y<|dn<|sr<|mv Y<|bE h λgR l8 h=>cl (bU l8) ⟨Y,aq⟩<|ag Y<|dn<|qq<|qq ?_;refine bC h (λj3=>AS.ct 52 [(2,.ptr 2 0),(3,.ptr 3 0),(4,.ptr 4 0),(5,.ptr 5 0),(8,.sv (slc 1 (List.map aY fE))),(9,.sv (slc 1 (List.map aY xH))),(10,.sv (slc 1 (List.map aY gR))),(36,aj j3.1)] [(5,⟨34,[aj false,.sv ax]⟩),(4,⟨34,[aj false,.sv ax]⟩),(3,⟨34,[aj b7,.sv (slc 1 (List.map aY bX))]⟩),(2,⟨34,[aj j3.2,.sv (slc 1 (List.map aY bt))]⟩)] []) (λh=>?_) (λj3 h=>?_);refine aW<|fa Y Y<|lV Y Y Y<|mv Y<|bE h λNd rZ h=>?_;cases bu;obtain rfl:=O (F rZ)
 exact ww<|ww<|ww<|pF Y<|dn<|⟨(false,false),h,wR []⟩;refine gm Y<|lE (V rZ) λmQ qL rZ=>gn Y qL<|lE rZ λrj zj rZ=>gg _ Y Y zj ?_;obtain rfl:=O rZ;exact pT Y<|dn<|⟨(rj,true),h,wR []⟩;obtain⟨Is,rV⟩:=j3
 try dsimp only
 refine aV.n ?_;refine bC h (λj5=>AS.ct 52 [(2,.ptr 2 0),(3,.ptr 3 0),(4,.ptr 4 0),(5,.ptr 5 0),(9,.sv (slc 1 (List.map aY j5.1))),(10,.sv (slc 1 (List.map aY j5.2)))] [(5,⟨34,[aj false,.sv ax]⟩),(4,⟨34,[aj false,.sv ax]⟩),(3,⟨34,[aj b7,.sv (slc 1 (List.map aY bX))]⟩),(2,⟨34,[aj rV,.sv (slc 1 (List.map aY bt))]⟩)] []) (λh=>?_) (λj5 h=>?_);cases Is;exact fs<|⟨(xH,gR),(F h),wR []⟩;exact cT<|sr<|mv Y<|bl (l:=[1]) (e:=aY) (.one Y (.nil)) Y Y Y Y Y Y<|bE (V h) λoP CD h=>cl (m9 CD) ⟨Y,Y,aq⟩<|ag Y<|dn<|aW<|mv Y<|mv Y<|bE h λo8 AW h=>cl (jz AW) ⟨Y,Y,aq⟩<|ag Y<|dn<|⟨(oP,o8),h,wR []⟩;obtain⟨It,Cu⟩:=j5
 try dsimp only
 refine aV.n<|sr<|fa Y Y<|lV Y Y Y<|fa Y Y<|lV Y Y Y<|lE h λsB xJ h=>RT.KI .none _ Y Y T xJ<|mv Y ?_;obtain⟨⟨Cv,Cw⟩,Pv,h⟩:=bS h;refine cl (dX Pv) ⟨Y,Y,aq⟩<|mv Y ?_;obtain⟨⟨Nb,Nc⟩,Pw,h⟩:=bS h;refine cl (dX Pw) ⟨Y,Y,aq⟩<|so Y Y Y<|so Y Y Y<|ag Y<|dn<|bf ?_;obtain rfl:=O h;exact RZ (.agg Y Y (.k2 Y Y) Y (.agg Y Y (.k2 Y Y) Y (.tmp Y (.nil))));refine cT<|sr<|bI (cs:=[_,_]) (cs':=[az false,ax]) (.nil) ⟨au,aB,aq⟩<|bI (cs:=[_,_]) (cs':=[az false,ax]) (.nil) ⟨au,aB,aq⟩<|so Y Y Y<|so Y Y Y<|ag Y<|dn<|bf<|aV.r ?_;obtain rfl:=O (V h);exact RZ (.agg Y Y (.k2 Y Y) Y (.agg Y Y (.k2 Y Y) Y (.tmp Y (.nil))))
theorem A0{x0:Zr}{x1:Zr}{r:Zr}(h:ji x0 x1=some r):Pure ah 124 [.agg (eZ x0),.agg (eZ x1)] (.agg (eZ r)):=by
 obtain⟨bu,bt⟩:=x0;obtain⟨b7,bX⟩:=x1;refine aZ Tryz.func124 Y (af Y) (λdD M vs hvs=>?_);unfold ji at h;refine sr<|bx Y<|bx Y<|al (cs:=[az false,ax]) (by exact⟨au,aB,aq⟩) Y<|dn<|qq<|bh mixed<|fa Y Y<|lV Y Y Y<|bE h λkE mS h=>cl (bU mS) ⟨Y,aq⟩<|fa Y Y<|lV Y Y Y<|bE h λfE iY h=>cl (bU iY) ⟨Y,aq⟩<|ag Y<|ag Y ?_;refine RT.done ⟨by kernel_rfl,?_⟩;refine aV.n<|qq<|bE h λKz IC lW=>?_;refine bK (λ(uV:(List Nat)×(List Nat))=>AS.ct 57 [(4,.ptr 4 0),(5,.sv (slc 1 (List.map aY uV.1))),(6,.sv (slc 1 (List.map aY uV.2)))] [(4,⟨34,[aj false,.sv ax]⟩)] []) (λuV=>uV=Kz) ?_ (λuV Py=>?_);refine bj ?_;refine bL IC (λDH=>AS.ct 57 [(4,.ptr 4 0),(5,.sv (slc 1 (List.map aY DH.1))),(6,.sv (slc 1 (List.map aY DH.2)))] [(4,⟨34,[aj false,.sv ax]⟩)] []) (wR []) (λDH y12 G12 h ID IE=>?_);obtain⟨Gt,AQ⟩:=DH
 try dsimp only
 refine qq<|qq ?_;refine bC h (λW0=>AS.ct 57 [(4,.ptr 4 0),(5,.sv (slc 1 (List.map aY Gt))),(6,.sv (slc 1 (List.map aY AQ))),(29,aj W0)] [(4,⟨34,[aj false,.sv ax]⟩)] []) (λh=>?_) (λEa h=>?_);refine aW<|mv Y<|lE h λfj jT h=>ln Y jT<|lE h λjZ mz h=>gt _ Y Y mz<|mv Y<|bE h λIv qN h=>?_;cases jZ;obtain rfl:=O (F qN);exact ww<|ww<|ww<|ww<|wu<|wu<|wu<|ww<|pF Y<|dn<|⟨false,h,wR []⟩;refine gm Y<|lE (V qN) λgQ nw qN=>gn Y nw<|lE qN λgM oc qN=>gg _ Y Y oc<|gm Y<|bE qN λIu xK qN=>?_;cases gM;refine gm Y<|lE (F xK) λkN rW xK=>gn Y rW<|lE xK λgN nc xK=>gg _ Y Y nc ?_;obtain rfl:=O xK;refine gF Y ?_;obtain rfl:=O qN;exact pT Y<|dn<|⟨gN,h,wR []⟩;obtain rfl:=O (V xK);refine ww<|ww<|ww<|gT Y ?_;obtain rfl:=O qN;exact pT Y<|dn<|⟨true,h,wR []⟩
 try dsimp only
 refine aV.n ?_;cases Ea;refine cF<|bP<|aV.x<|aV.x<|bw.x<|aV.n ?_;obtain rfl:=O (F h);exact⟨(Gt,AQ),IE _ Y,wR []⟩;refine cT<|bp<|aV.n<|bj<|sr<|mv Y<|mv Y ?_;obtain⟨⟨VX,Sv⟩,uA,h⟩:=bS (V h);refine cl (nf uA) ⟨Y,Y,aq⟩<|mv Y<|ex Y Y<|ex Y Y<|ag Y<|ag Y<|dn<|aW<|mv Y<|mv Y<|bE h λsy Cy h=>cl (bU Cy) ⟨Y,aq⟩<|ag Y<|ag Y<|RT.done<|bw.n ?_;obtain rfl:=O h;exact aV.n ⟨(AQ,sy),ID _ Y,wR []⟩;subst Py;obtain⟨Iw,Iy⟩:=uV
 try dsimp only
 refine aV.n<|qq<|sr<|mv Y<|lE lW λlT rz lW=>ln Y rz<|lE lW λwO Gw lW=>eq _ Y Y (vD (p:=lT) (q:=0) Gw)<|dn ?_;cases wO;refine fs<|sr<|mv Y<|bE (F lW) λo9 h46 lW=>cl (gk h46) ⟨Y,aq⟩<|mv Y<|bE lW λy4 h48 lW=>cl (gk h48) ⟨Y,aq⟩<|ag Y<|ag Y<|dn<|qq<|bE lW λe24 W2 PE=>?_;refine bK (λ(zU:Nat)=>AS.ct 57 [(4,.ptr 4 0),(9,.sv (.v (.int .u64 ((zU:Nat):Int))))] [(4,⟨34,[aj false,.sv ax]⟩)] []) (λzU=>zU=e24) ?_ (λzU W4=>?_);refine bj ?_;refine bL W2 (λRe=>AS.ct 57 [(4,.ptr 4 0),(9,.sv (.v (.int .u64 ((Re.1:Nat):Int)))),(10,.sv (.v (.int .u64 ((Re.2:Nat):Int))))] [(4,⟨34,[aj false,.sv ax]⟩)] []) (wR []) (λRe y24 G24 h W5 W6=>?_);obtain⟨Fm,uR⟩:=Re
 try dsimp only
 refine qq<|sr<|mv Y<|lE h λvG Gx h=>gt _ Y Y (T9 (p:=0) (q:=uR) Gx)<|dn ?_;cases vG;refine cF<|bP<|aV.x<|aV.x<|bw.x<|aV.n ?_;obtain rfl:=O (F h);exact⟨Fm,W6 _ Y,wR []⟩;refine cT<|bp<|aV.n<|bj<|bh mixed<|mv Y<|mv Y<|mv Y<|bE (V h) λCx Fo h=>RT.rem .none _ Y Y T (Ua Fo) (Ld Fo)<|ag Y<|ag Y ?_;refine RT.done ⟨by kernel_rfl,?_⟩;refine bw.n ?_;obtain rfl:=O h;exact aV.n ⟨(uR,Cx),W5 _ Y,wR []⟩;subst W4
 try dsimp only
 refine aV.n<|sr<|mv Y ?_;obtain⟨⟨Nh,Ni⟩,Px,PE⟩:=bS PE;refine cl (gX Px) ⟨Y,Y,aq⟩<|so Y Y Y<|dn<|bf ?_;obtain rfl:=O PE;exact RZ (.agg Y Y (.k2 Y Y) Y (.nil));refine cT<|sr<|mv Y<|bE (V lW) λDF KA lW=>cl (lG KA) ⟨Y,aq⟩ ?_;obtain⟨⟨Nf,Ng⟩,Gz,lW⟩:=bS lW;refine cl (dX Gz) ⟨Y,Y,aq⟩<|so Y Y Y<|dn<|bf<|aV.r ?_;obtain rfl:=O lW;exact RZ (.agg Y Y (.k2 Y Y) Y (.nil))
end
section
open Go.Fw
noncomputable def fL(x0:Zr)(x1:Zr)(x2:Zr)(x3:Zr):Option (Zr×Zr):=match x0 with|⟨bu,bt⟩=>match x1 with|⟨b7,bX⟩=>match x2 with|⟨pG,pH⟩=>match x3 with|⟨zk,zm⟩=>(cX ⟨bu,bt⟩ ⟨zk,zm⟩).bind λ⟨iL,iG⟩=>(cX ⟨pG,pH⟩ ⟨b7,bX⟩).bind λ⟨pI,pJ⟩=>(kO ⟨iL,iG⟩ ⟨pI,pJ⟩).bind λ⟨jg,jh⟩=>(cX ⟨b7,bX⟩ ⟨zk,zm⟩).bind λ⟨oI,oJ⟩=>some (⟨jg,jh⟩,⟨oI,oJ⟩)
noncomputable def fM(x0:Zr)(x1:Zr)(x2:Zr)(x3:Zr):Option (Zr×Zr):=match x0 with|⟨bu,bt⟩=>match x1 with|⟨b7,bX⟩=>match x2 with|⟨pG,pH⟩=>match x3 with|⟨zk,zm⟩=>(cX ⟨bu,bt⟩ ⟨zk,zm⟩).bind λ⟨iL,iG⟩=>(cX ⟨pG,pH⟩ ⟨b7,bX⟩).bind λ⟨pI,pJ⟩=>(kP ⟨iL,iG⟩ ⟨pI,pJ⟩).bind λ⟨jg,jh⟩=>(cX ⟨b7,bX⟩ ⟨zk,zm⟩).bind λ⟨oI,oJ⟩=>some (⟨jg,jh⟩,⟨oI,oJ⟩)
noncomputable def fN(x0:Zr)(x1:Zr)(x2:Zr)(x3:Zr):Option (Zr×Zr):=match x0 with|⟨bu,bt⟩=>match x1 with|⟨b7,bX⟩=>match x2 with|⟨pG,pH⟩=>match x3 with|⟨zk,zm⟩=>(cX ⟨bu,bt⟩ ⟨pG,pH⟩).bind λ⟨iL,iG⟩=>(cX ⟨b7,bX⟩ ⟨zk,zm⟩).bind λ⟨pI,pJ⟩=>some (⟨iL,iG⟩,⟨pI,pJ⟩)
noncomputable def cU(x0:Qr):Option (Zr×Zr):=match x0 with|⟨⟨bu,bt⟩,⟨bM,bR⟩⟩=>(cq ⟨bM,bR⟩).bind λx6=>(some (decide ((x6:Int)=0))).bind λx8=>(bif x8 then(bV 1).bind λ⟨Nk,Nl⟩=>some (⟨bu,bt⟩,⟨Nk,Nl⟩)else(some (decide ((x6:Int)=(-1)))).bind λkE=>(bif kE then(fy ⟨bu,bt⟩).bind λ⟨jg,jh⟩=>(fy ⟨bM,bR⟩).bind λ⟨oI,oJ⟩=>some (⟨jg,jh⟩,⟨oI,oJ⟩)else some (⟨bu,bt⟩,⟨bM,bR⟩)))
noncomputable def eG(x0:Zr)(x1:Zr):Option (Qr):=match x0 with|⟨bu,bt⟩=>match x1 with|⟨b7,bX⟩=>(cq ⟨b7,bX⟩).bind λx9=>(some (decide ((x9:Int)<0))).bind λdJ=>cg (λ(j2:Bool×(List Nat)×Bool×(List Nat))=>match j2 with|⟨Ed,Ee,Ef,Eg⟩=>(ji ⟨Ef,Eg⟩ ⟨Ed,Ee⟩).bind λ⟨ng,nh⟩=>(dW ⟨Ef,Eg⟩ ⟨ng,nh⟩).bind λ⟨⟨xL,xM⟩,⟨PF,PG⟩,W7⟩=>(dW ⟨Ed,Ee⟩ ⟨ng,nh⟩).bind λ⟨⟨xN,xO⟩,⟨PI,PJ⟩,W8⟩=>(cQ ⟨xN,xO⟩).bind λ⟨PK,PL⟩=>cg (λ(IF:Bool)=>cg (λ(j7:Bool×(List Nat))=>match j7 with|⟨Eh,Ei⟩=>some ⟨⟨xL,xM⟩,⟨Eh,Ei⟩⟩) λK7=>(bif IF then K7 (false,[])else K7 (xN,xO))) λK5=>(bif PL then(some (decide ((PK:Int)=1))).bind λlT=>some lT else some false).bind λNm=>K5 Nm) λK2=>(bif dJ then(fy ⟨bu,bt⟩).bind λ⟨iL,iG⟩=>(fy ⟨b7,bX⟩).bind λ⟨xP,xQ⟩=>K2 (xP,xQ,iL,iG)else K2 (b7,bX,bu,bt))
noncomputable def dy(x0:Qr):Option (Int×Int×Bool):=match x0 with|⟨⟨bu,bt⟩,⟨bM,bR⟩⟩=>(cQ ⟨bu,bt⟩).bind λ⟨A3,GC⟩=>(cQ ⟨bM,bR⟩).bind λ⟨zo,SO⟩=>cg (λ(Ej:Bool)=>(bif Ej then some (0,0,false)else(some (decide ((zo:Int)=0))).bind λDF=>cg (λ(Rf:Int×Int)=>match Rf with|⟨Nn,No⟩=>some (Nn,No,true)) λK24=>(bif DF then K24 (A3,1)else(some (decide ((zo:Int)<0))).bind λo9=>cg (λ(Rg:Int×Int)=>match Rg with|⟨IG,II⟩=>K24 (IG,II)) λK26=>(bif o9 then(some (IntKind.i64.wrap (0-A3))).bind λy4=>(some (IntKind.i64.wrap (0-zo))).bind λvG=>K26 (y4,vG)else K26 (A3,zo))))) λW9=>(some (!GC)).bind λju=>(bif ju then some true else(some (!SO)).bind λgM=>some gM).bind λIJ=>(bif IJ then some true else(some (decide ((A3:Int)<=(-2147483648)))).bind λgN=>some gN).bind λPM=>(bif PM then some true else(some (decide ((2147483648:Int)<=A3))).bind λoG=>some oG).bind λPN=>(bif PN then some true else(some (decide ((zo:Int)<=(-2147483648)))).bind λrj=>some rj).bind λPO=>(bif PO then some true else(some (decide ((2147483648:Int)<=zo))).bind λoP=>some oP).bind λPR=>W9 PR
noncomputable def fz(x0:Int)(x1:Int):Option (Qr):=(b9 (λ(s6:Int×Int)=>match s6 with|⟨lF,oR⟩=>(show Option ((Int×Int)⊕(Int))from(some (decide ((oR:Int)≠0))).bind λdJ=>(bif dJ then(yV lF oR).bind λdV=>some (.inl (oR,dV))else some (.inr lF)))) (x0,x1)).bind λqO=>(some (decide ((qO:Int)<0))).bind λfE=>cg (λ(GD:Int)=>(some (decide ((GD:Int)=x1))).bind λgi=>(bif gi then(oO x0 GD).bind λgO=>(bV gO).bind λ⟨vH,th⟩=>some ⟨⟨vH,th⟩,⟨false,[]⟩⟩else(oO x0 GD).bind λgR=>(bV gR).bind λ⟨tj,tq⟩=>(oO x1 GD).bind λl7=>(bV l7).bind λ⟨IK,IL⟩=>some ⟨⟨tj,tq⟩,⟨IK,IL⟩⟩)) λK8=>(bif fE then(some (IntKind.i64.wrap (0-qO))).bind λfj=>K8 fj else K8 qO)
noncomputable def ni(x0:Int):Option (Int):=(some (decide ((x0:Int)<0))).bind λx5=>(bif x5 then some (-1)else(some (decide ((0:Int)<x0))).bind λx8=>(bif x8 then some 1 else some 0))
noncomputable def gY(x1:Qr)(x2:Qr):Option (Qr):=match x1 with|⟨⟨b7,bX⟩,⟨gZ,g9⟩⟩=>match x2 with|⟨⟨pG,pH⟩,⟨CE,CF⟩⟩=>(cU ⟨⟨b7,bX⟩,⟨gZ,g9⟩⟩).bind λ⟨⟨kj,kn⟩,⟨lI,lJ⟩⟩=>(cU ⟨⟨pG,pH⟩,⟨CE,CF⟩⟩).bind λ⟨⟨gp,gu⟩,⟨jB,jC⟩⟩=>(fL ⟨kj,kn⟩ ⟨lI,lJ⟩ ⟨gp,gu⟩ ⟨jB,jC⟩).bind λ⟨⟨pK,pL⟩,⟨pM,pN⟩⟩=>(eG ⟨pK,pL⟩ ⟨pM,pN⟩).bind λ⟨⟨ru,pq⟩,⟨vM,vN⟩⟩=>some ⟨⟨ru,pq⟩,⟨vM,vN⟩⟩
noncomputable def hG(x1:Qr)(x2:Qr):Option (Qr):=match x1 with|⟨⟨b7,bX⟩,⟨gZ,g9⟩⟩=>match x2 with|⟨⟨pG,pH⟩,⟨CE,CF⟩⟩=>(cU ⟨⟨b7,bX⟩,⟨gZ,g9⟩⟩).bind λ⟨⟨kj,kn⟩,⟨lI,lJ⟩⟩=>(cU ⟨⟨pG,pH⟩,⟨CE,CF⟩⟩).bind λ⟨⟨gp,gu⟩,⟨jB,jC⟩⟩=>(fM ⟨kj,kn⟩ ⟨lI,lJ⟩ ⟨gp,gu⟩ ⟨jB,jC⟩).bind λ⟨⟨pK,pL⟩,⟨pM,pN⟩⟩=>(eG ⟨pK,pL⟩ ⟨pM,pN⟩).bind λ⟨⟨ru,pq⟩,⟨vM,vN⟩⟩=>some ⟨⟨ru,pq⟩,⟨vM,vN⟩⟩
noncomputable def ia(x1:Qr)(x2:Qr):Option (Qr):=match x1 with|⟨⟨b7,bX⟩,⟨gZ,g9⟩⟩=>match x2 with|⟨⟨pG,pH⟩,⟨CE,CF⟩⟩=>(cU ⟨⟨b7,bX⟩,⟨gZ,g9⟩⟩).bind λ⟨⟨kj,kn⟩,⟨lI,lJ⟩⟩=>(cU ⟨⟨pG,pH⟩,⟨CE,CF⟩⟩).bind λ⟨⟨gp,gu⟩,⟨jB,jC⟩⟩=>(fN ⟨kj,kn⟩ ⟨lI,lJ⟩ ⟨gp,gu⟩ ⟨jB,jC⟩).bind λ⟨⟨pK,pL⟩,⟨pM,pN⟩⟩=>(eG ⟨pK,pL⟩ ⟨pM,pN⟩).bind λ⟨⟨ru,pq⟩,⟨vM,vN⟩⟩=>some ⟨⟨ru,pq⟩,⟨vM,vN⟩⟩
noncomputable def di(x0:Int):Option (Qr):=(bV x0).bind λ⟨r5,r6⟩=>some ⟨⟨r5,r6⟩,⟨false,[]⟩⟩
noncomputable def eR(x0:Qr):Option (Qr):=match x0 with|⟨⟨bu,bt⟩,⟨bM,bR⟩⟩=>(dy ⟨⟨bu,bt⟩,⟨bM,bR⟩⟩).bind λ⟨x8a,x8b,Xa⟩=>(bif Xa then(fz x8a x8b).bind λ⟨⟨pI,pJ⟩,⟨Np,Nq⟩⟩=>some ⟨⟨pI,pJ⟩,⟨Np,Nq⟩⟩else(cU ⟨⟨bu,bt⟩,⟨bM,bR⟩⟩).bind λ⟨⟨IM,IN⟩,⟨IP,IQ⟩⟩=>(eG ⟨IM,IN⟩ ⟨IP,IQ⟩).bind λ⟨⟨CG,CH⟩,⟨Nr,Ns⟩⟩=>some ⟨⟨CG,CH⟩,⟨Nr,Ns⟩⟩)
noncomputable def ic(x0:Qr):Option (Int):=match x0 with|⟨⟨bu,bt⟩,⟨bM,bR⟩⟩=>(cq ⟨bM,bR⟩).bind λx5=>(some (decide ((x5:Int)<0))).bind λx6=>(bif x6 then(cq ⟨bu,bt⟩).bind λx9=>(some (IntKind.i64.wrap (0-x9))).bind λdJ=>some dJ else(cq ⟨bu,bt⟩).bind λkE=>some kE)
noncomputable def mB(x0:Qr)(x1:Qr):Option (Qr):=match x0 with|⟨⟨bu,bt⟩,⟨bM,bR⟩⟩=>match x1 with|⟨⟨b7,bX⟩,⟨gZ,g9⟩⟩=>(dy ⟨⟨bu,bt⟩,⟨bM,bR⟩⟩).bind λ⟨xR,uX,xS⟩=>(dy ⟨⟨b7,bX⟩,⟨gZ,g9⟩⟩).bind λ⟨xT,pO,xU⟩=>cg (λ(pP:Bool)=>(bif pP then(some (IntKind.i64.wrap (xR*pO))).bind λgR=>(some (IntKind.i64.wrap (xT*uX))).bind λiF=>(some (IntKind.i64.wrap (gR+iF))).bind λl7=>(some (IntKind.i64.wrap (uX*pO))).bind λsD=>(fz l7 sD).bind λ⟨⟨CI,CJ⟩,⟨CK,CL⟩⟩=>some ⟨⟨CI,CJ⟩,⟨CK,CL⟩⟩else(gY ⟨⟨bu,bt⟩,⟨bM,bR⟩⟩ ⟨⟨b7,bX⟩,⟨gZ,g9⟩⟩).bind λ⟨⟨vI,vJ⟩,⟨CM,CN⟩⟩=>some ⟨⟨vI,vJ⟩,⟨CM,CN⟩⟩)) λK3=>(bif xS then some xU else some false).bind λvO=>K3 vO
noncomputable def mD(x0:Qr)(x1:Qr):Option (Qr):=match x0 with|⟨⟨bu,bt⟩,⟨bM,bR⟩⟩=>match x1 with|⟨⟨b7,bX⟩,⟨gZ,g9⟩⟩=>(dy ⟨⟨bu,bt⟩,⟨bM,bR⟩⟩).bind λ⟨xR,uX,xS⟩=>(dy ⟨⟨b7,bX⟩,⟨gZ,g9⟩⟩).bind λ⟨xT,pO,xU⟩=>cg (λ(pP:Bool)=>(bif pP then(some (IntKind.i64.wrap (xR*pO))).bind λgR=>(some (IntKind.i64.wrap (xT*uX))).bind λiF=>(some (IntKind.i64.wrap (gR-iF))).bind λl7=>(some (IntKind.i64.wrap (uX*pO))).bind λsD=>(fz l7 sD).bind λ⟨⟨CI,CJ⟩,⟨CK,CL⟩⟩=>some ⟨⟨CI,CJ⟩,⟨CK,CL⟩⟩else(hG ⟨⟨bu,bt⟩,⟨bM,bR⟩⟩ ⟨⟨b7,bX⟩,⟨gZ,g9⟩⟩).bind λ⟨⟨vI,vJ⟩,⟨CM,CN⟩⟩=>some ⟨⟨vI,vJ⟩,⟨CM,CN⟩⟩)) λK3=>(bif xS then some xU else some false).bind λvO=>K3 vO
noncomputable def ko(x0:Qr)(x1:Qr):Option (Qr):=match x0 with|⟨⟨bu,bt⟩,⟨bM,bR⟩⟩=>match x1 with|⟨⟨b7,bX⟩,⟨gZ,g9⟩⟩=>(dy ⟨⟨bu,bt⟩,⟨bM,bR⟩⟩).bind λ⟨xR,uX,xS⟩=>(dy ⟨⟨b7,bX⟩,⟨gZ,g9⟩⟩).bind λ⟨xT,pO,xU⟩=>cg (λ(pP:Bool)=>(bif pP then(some (IntKind.i64.wrap (xR*xT))).bind λgR=>(some (IntKind.i64.wrap (uX*pO))).bind λiF=>(fz gR iF).bind λ⟨⟨Nt,Nu⟩,⟨Nv,Nw⟩⟩=>some ⟨⟨Nt,Nu⟩,⟨Nv,Nw⟩⟩else(ia ⟨⟨bu,bt⟩,⟨bM,bR⟩⟩ ⟨⟨b7,bX⟩,⟨gZ,g9⟩⟩).bind λ⟨⟨pz,pA⟩,⟨CO,CP⟩⟩=>some ⟨⟨pz,pA⟩,⟨CO,CP⟩⟩)) λK3=>(bif xS then some xU else some false).bind λvO=>K3 vO
noncomputable def iZ(x0:Qr):Option (Qr):=match x0 with|⟨⟨bu,bt⟩,⟨bM,bR⟩⟩=>(eR ⟨⟨bu,bt⟩,⟨bM,bR⟩⟩).bind λ⟨⟨zq,CQ⟩,⟨zu,A4⟩⟩=>(fy ⟨zq,CQ⟩).bind λ⟨uY,uZ⟩=>some ⟨⟨uY,uZ⟩,⟨zu,A4⟩⟩
noncomputable def kp(x0:Qr)(x1:Qr):Option (Int):=match x0 with|⟨⟨bu,bt⟩,⟨bM,bR⟩⟩=>match x1 with|⟨⟨b7,bX⟩,⟨gZ,g9⟩⟩=>(cU ⟨⟨bu,bt⟩,⟨bM,bR⟩⟩).bind λ⟨⟨kj,kn⟩,⟨lI,lJ⟩⟩=>(cU ⟨⟨b7,bX⟩,⟨gZ,g9⟩⟩).bind λ⟨⟨gp,gu⟩,⟨jB,jC⟩⟩=>(cq ⟨kj,kn⟩).bind λgQ=>(cq ⟨gp,gu⟩).bind λgO=>cg (λ(IS:Bool)=>(bif IS then(some (IntKind.i64.wrap (gQ-gO))).bind λmQ=>(ni mQ).bind λrj=>some rj else(cX ⟨kj,kn⟩ ⟨jB,jC⟩).bind λ⟨Nx,Ny⟩=>(cX ⟨gp,gu⟩ ⟨lI,lJ⟩).bind λ⟨Nz,NA⟩=>(kQ ⟨Nx,Ny⟩ ⟨Nz,NA⟩).bind λo8=>some o8)) λK3=>(some (decide ((gQ:Int)≠gO))).bind λgN=>(bif gN then some true else(some (decide ((gQ:Int)=0))).bind λuO=>some uO).bind λNB=>K3 NB
end
section
open Go.Fw Go.Fw.Z Go.RowKit
abbrev IT:List (Value×Value):=[(.int .u8 43,.agg #[.func (.func 126) #[] #[]]),(.int .u8 45,.agg #[.func (.func 128) #[] #[]]),(.int .u8 42,.agg #[.func (.func 130) #[] #[]]),(.int .u8 47,.agg #[.func (.func 131) #[] #[]])]
theorem ja:Pure ah 102 [] (HZ IT):=by
 refine aZ Tryz.func102 Y (af Y) (λdD M vs hvs=>?_);refine bz<|aW<|RT.xj .none Y T<|RT.done<|aV.n<|bz<|Lh (af Y) Y Y Y (λS' h0=>?_);exact bf (R1 h0)
theorem pQ{x0:Zr}{x1:Zr}{x2:Zr}{x3:Zr}{r:Zr×Zr}(h:fL x0 x1 x2 x3=some r):Pure ah 126 [.agg (eZ x0),.agg (eZ x1),.agg (eZ x2),.agg (eZ x3)] (.yN [.agg (eZ r.1),.agg (eZ r.2)]):=by
 obtain⟨bu,bt⟩:=x0;obtain⟨b7,bX⟩:=x1;obtain⟨pG,pH⟩:=x2;obtain⟨zk,zm⟩:=x3;refine aZ Tryz.func126 Y (af Y) (λdD M vs hvs=>?_);unfold fL at h;refine sr<|bx Y<|bx Y<|bx Y<|bx Y<|al (cs:=[az false,ax]) (by exact⟨au,aB,aq⟩) Y<|al (cs:=[az false,ax]) (by exact⟨au,aB,aq⟩) Y<|dn<|qq<|bh mixed<|ld Y Y (.k2 Y Y)<|ld Y Y (.k2 Y Y) ?_;obtain⟨⟨iL,iG⟩,fW,h⟩:=bS h;refine cl (dP fW) ⟨Y,Y,aq⟩<|ld Y Y (.k2 Y Y)<|ld Y Y (.k2 Y Y) ?_;obtain⟨⟨pI,pJ⟩,jy,h⟩:=bS h;refine cl (dP jy) ⟨Y,Y,aq⟩ ?_;obtain⟨⟨jg,jh⟩,iY,h⟩:=bS h;refine cl (AX iY) ⟨Y,Y,aq⟩<|ld Y Y (.k2 Y Y)<|ld Y Y (.k2 Y Y) ?_;obtain⟨⟨oI,oJ⟩,mz,h⟩:=bS h;refine cl (dP mz) ⟨Y,Y,aq⟩<|so Y Y Y<|so Y Y Y ?_;refine RT.done ⟨by kernel_rfl,?_⟩;refine aV.n<|bf ?_;obtain rfl:=O h;exact RZ (.agg Y Y (.k2 Y Y) Y (.agg Y Y (.k2 Y Y) Y (.nil)))
theorem pR{x0:Zr}{x1:Zr}{x2:Zr}{x3:Zr}{r:Zr×Zr}(h:fM x0 x1 x2 x3=some r):Pure ah 128 [.agg (eZ x0),.agg (eZ x1),.agg (eZ x2),.agg (eZ x3)] (.yN [.agg (eZ r.1),.agg (eZ r.2)]):=by
 obtain⟨bu,bt⟩:=x0;obtain⟨b7,bX⟩:=x1;obtain⟨pG,pH⟩:=x2;obtain⟨zk,zm⟩:=x3;refine aZ Tryz.func128 Y (af Y) (λdD M vs hvs=>?_);unfold fM at h;refine sr<|bx Y<|bx Y<|bx Y<|bx Y<|al (cs:=[az false,ax]) (by exact⟨au,aB,aq⟩) Y<|al (cs:=[az false,ax]) (by exact⟨au,aB,aq⟩) Y<|dn<|qq<|bh mixed<|ld Y Y (.k2 Y Y)<|ld Y Y (.k2 Y Y) ?_;obtain⟨⟨iL,iG⟩,fW,h⟩:=bS h;refine cl (dP fW) ⟨Y,Y,aq⟩<|ld Y Y (.k2 Y Y)<|ld Y Y (.k2 Y Y) ?_;obtain⟨⟨pI,pJ⟩,jy,h⟩:=bS h;refine cl (dP jy) ⟨Y,Y,aq⟩ ?_;obtain⟨⟨jg,jh⟩,iY,h⟩:=bS h;refine cl (AY iY) ⟨Y,Y,aq⟩<|ld Y Y (.k2 Y Y)<|ld Y Y (.k2 Y Y) ?_;obtain⟨⟨oI,oJ⟩,mz,h⟩:=bS h;refine cl (dP mz) ⟨Y,Y,aq⟩<|so Y Y Y<|so Y Y Y ?_;refine RT.done ⟨by kernel_rfl,?_⟩;refine aV.n<|bf ?_;obtain rfl:=O h;exact RZ (.agg Y Y (.k2 Y Y) Y (.agg Y Y (.k2 Y Y) Y (.nil)))
theorem pS{x0:Zr}{x1:Zr}{x2:Zr}{x3:Zr}{r:Zr×Zr}(h:fN x0 x1 x2 x3=some r):Pure ah 130 [.agg (eZ x0),.agg (eZ x1),.agg (eZ x2),.agg (eZ x3)] (.yN [.agg (eZ r.1),.agg (eZ r.2)]):=by
 obtain⟨bu,bt⟩:=x0;obtain⟨b7,bX⟩:=x1;obtain⟨pG,pH⟩:=x2;obtain⟨zk,zm⟩:=x3;refine aZ Tryz.func130 Y (af Y) (λdD M vs hvs=>?_);unfold fN at h;refine sr<|bx Y<|bx Y<|bx Y<|bx Y<|al (cs:=[az false,ax]) (by exact⟨au,aB,aq⟩) Y<|al (cs:=[az false,ax]) (by exact⟨au,aB,aq⟩) Y<|dn<|qq<|bh mixed<|ld Y Y (.k2 Y Y)<|ld Y Y (.k2 Y Y) ?_;obtain⟨⟨iL,iG⟩,fW,h⟩:=bS h;refine cl (dP fW) ⟨Y,Y,aq⟩<|ld Y Y (.k2 Y Y)<|ld Y Y (.k2 Y Y) ?_;obtain⟨⟨pI,pJ⟩,jy,h⟩:=bS h;refine cl (dP jy) ⟨Y,Y,aq⟩<|so Y Y Y<|so Y Y Y ?_;refine RT.done ⟨by kernel_rfl,?_⟩;refine aV.n<|bf ?_;obtain rfl:=O h;exact RZ (.agg Y Y (.k2 Y Y) Y (.agg Y Y (.k2 Y Y) Y (.nil)))
theorem dR{x0:Qr}{r:Zr×Zr}(h:cU x0=some r):Pure ah 81 [.agg (eQ x0)] (.yN [.agg (eZ r.1),.agg (eZ r.2)]):=by
 obtain⟨⟨bu,bt⟩,⟨bM,bR⟩⟩:=x0;refine aZ Tryz.func81 Y (af Y) (λdD M vs hvs=>?_);unfold cU at h;refine sr<|bx Y<|al (cs:=[az false,ax]) (by exact⟨au,aB,aq⟩) Y<|al (cs:=[az false,ax]) (by exact⟨au,aB,aq⟩) Y<|dn<|qq<|sr<|fa Y Y<|ld Y Y (.k2 Y Y)<|bE h λx6 h6 h=>cl (dQ h6) ⟨Y,aq⟩<|dn<|bj<|sr<|lE h λx8 h8 h=>eq _ Y Y (vD (p:=x6) (q:=0) h8) ?_;refine ag Y<|dn ?_;cases x8;refine cF<|sr<|lE (F h) λkE mS h=>eq _ Y Y (vD (p:=x6) (q:=(-1)) mS)<|ag Y<|dn ?_;cases kE;refine cF<|bp<|bw.n<|aV.n<|qq<|bh mixed<|fa Y Y<|ld Y Y (.k2 Y Y)<|fa Y Y<|ld Y Y (.k2 Y Y)<|so Y Y Y<|so Y Y Y ?_;refine RT.done ⟨by kernel_rfl,?_⟩;refine aV.n<|bf ?_;obtain rfl:=O (F h);exact RZ (.agg Y Y (.k2 Y Y) Y (.agg Y Y (.k2 Y Y) Y (.nil)));refine cT<|qq<|bh mixed<|fa Y Y<|ld Y Y (.k2 Y Y) ?_;obtain⟨⟨jg,jh⟩,iY,h⟩:=bS (V h);refine cl (jA iY) ⟨Y,aq⟩<|fa Y Y<|ld Y Y (.k2 Y Y) ?_;obtain⟨⟨oI,oJ⟩,mz,h⟩:=bS h;refine cl (jA mz) ⟨Y,aq⟩<|so Y Y Y<|so Y Y Y ?_;refine RT.done ⟨by kernel_rfl,?_⟩;refine aV.n<|bf<|bw.r<|aV.r ?_;obtain rfl:=O h;exact RZ (.agg Y Y (.k2 Y Y) Y (.agg Y Y (.k2 Y Y) Y (.nil)));refine cT<|qq<|bh mixed<|fa Y Y<|ld Y Y (.k2 Y Y) ?_;obtain⟨⟨Nk,Nl⟩,lH,h⟩:=bS (V h);refine cl (da lH) ⟨Y,aq⟩<|so Y Y Y<|so Y Y Y ?_
 refine RT.done ⟨by kernel_rfl,?_⟩;refine aV.n<|bf<|bw.r<|aV.r ?_;obtain rfl:=O h;exact RZ (.agg Y Y (.k2 Y Y) Y (.agg Y Y (.k2 Y Y) Y (.nil)))
theorem jD{x0:Zr}{x1:Zr}{r:Qr}(h:eG x0 x1=some r):Pure ah 101 [.agg (eZ x0),.agg (eZ x1)] (.agg (eQ r)):=by
 obtain⟨bu,bt⟩:=x0;obtain⟨b7,bX⟩:=x1;refine aZ Tryz.func101 Y (af Y) (λdD M vs hvs=>?_);unfold eG at h;refine sr<|bx Y<|bx Y<|al (cs:=[az false,ax,az false,ax]) (by exact⟨au,aB,au,aB,aq⟩) Y<|dn<|qq<|sr<|ld Y Y (.k2 Y Y)<|bE h λx9 h9 h=>cl (dQ h9) ⟨Y,aq⟩<|lE h λdJ fZ h=>ls _ Y Y fZ<|dn ?_;refine bC h (λj2=>AS.ct 46 [(2,.ptr 2 0),(3,.ptr 3 0),(4,.ptr 4 0)] [(4,⟨36,[aj false,.sv ax,aj false,.sv ax]⟩),(3,⟨34,[aj j2.1,.sv (slc 1 (List.map aY j2.2.1))]⟩),(2,⟨34,[aj j2.2.2.1,.sv (slc 1 (List.map aY j2.2.2.2))]⟩)] []) (λh=>?_) (λj2 h=>?_);cases dJ;exact fs<|⟨(b7,bX,bu,bt),(F h),wR []⟩;refine cT<|bh mixed<|ld Y Y (.k2 Y Y) ?_;obtain⟨⟨iL,iG⟩,fW,h⟩:=bS (V h);refine cl (jA fW) ⟨Y,aq⟩<|ld Y Y (.k2 Y Y) ?_;obtain⟨⟨xP,xQ⟩,iJ,h⟩:=bS h;refine cl (jA iJ) ⟨Y,aq⟩<|so Y Y Y<|so Y Y Y ?_;refine RT.done ⟨by kernel_rfl,?_⟩;exact aV.n<|⟨(xP,xQ,iL,iG),h,wR []⟩;obtain⟨Ed,Ee,Ef,Eg⟩:=j2
 try dsimp only
 refine aV.n<|sr<|ld Y Y (.k2 Y Y)<|ld Y Y (.k2 Y Y) ?_;obtain⟨⟨ng,nh⟩,kg,h⟩:=bS h;refine cl (A0 kg) ⟨Y,Y,aq⟩<|al (cs:=[az false,ax]) (by exact⟨au,aB,aq⟩) Y<|so Y Y Y<|dn<|sr<|ld Y Y (.k2 Y Y)<|ld Y Y (.k2 Y Y) ?_;obtain⟨⟨⟨xL,xM⟩,⟨PF,PG⟩,W7⟩,mU,h⟩:=bS h;refine cl (oH mU) ⟨Y,Y,aq⟩<|mv Y<|ex Y Y<|ex Y Y<|ex Y Y<|so Y Y Y<|dn<|sr<|ld Y Y (.k2 Y Y)<|ld Y Y (.k2 Y Y) ?_;obtain⟨⟨⟨xN,xO⟩,⟨PI,PJ⟩,W8⟩,tv,h⟩:=bS h;refine cl (oH tv) ⟨Y,Y,aq⟩<|mv Y<|ex Y Y<|ex Y Y<|ex Y Y<|so Y Y Y<|dn<|qq<|sr<|ld Y Y (.k2 Y Y) ?_;obtain⟨⟨PK,PL⟩,qL,h⟩:=bS h;refine cl (eV qL) ⟨Y,aq⟩<|mv Y<|ex Y Y<|ex Y Y<|ag Y<|ag Y<|dn<|qq ?_;refine bC h (λj5=>AS.ct 46 [(2,.ptr 2 0),(3,.ptr 3 0),(4,.ptr 4 0),(41,aj j5)] [(4,⟨36,[aj false,.sv ax,aj false,.sv ax]⟩),(3,⟨34,[aj xN,.sv (slc 1 (List.map aY xO))]⟩),(2,⟨34,[aj xL,.sv (slc 1 (List.map aY xM))]⟩)] []) (λh=>?_) (λIF h=>?_);refine aW<|mv Y<|mv Y<|bE h λNm DI h=>?_;cases PL;obtain rfl:=O (F DI);exact ww<|ww<|pF Y<|dn<|⟨false,h,wR []⟩;refine gm Y<|lE (V DI) λlT rz DI=>Q6 _ Y Y (vD (p:=PK) (q:=1) rz) ?_;obtain rfl:=O DI;exact pT Y<|dn<|⟨lT,h,wR []⟩
 try dsimp only
 refine aV.n ?_;refine bC h (λj7=>AS.ct 46 [(2,.ptr 2 0),(3,.ptr 3 0),(4,.ptr 4 0)] [(4,⟨36,[aj false,.sv ax,aj false,.sv ax]⟩),(3,⟨34,[aj j7.1,.sv (slc 1 (List.map aY j7.2))]⟩),(2,⟨34,[aj xL,.sv (slc 1 (List.map aY xM))]⟩)] []) (λh=>?_) (λj7 h=>?_);cases IF;exact fs<|⟨(xN,xO),(F h),wR []⟩;exact cT<|aW<|bI (cs:=[_,_]) (cs':=[az false,ax]) (.nil) ⟨au,aB,aq⟩<|so Y Y Y<|dn<|⟨(false,[]),(V h),wR []⟩;obtain⟨Eh,Ei⟩:=j7
 try dsimp only
 refine aV.n<|sr<|ld Y Y (.k2 Y Y)<|ld Y Y (.k2 Y Y)<|bI (cs:=[_,_,_,_]) (cs':=[az xL,slc 1 (List.map aY xM),az Eh,slc 1 (List.map aY Ei)]) (.agg Y (.agg Y (.nil))) ⟨au,au,au,au,aq⟩<|so Y Y Y<|dn<|bf ?_;obtain rfl:=O h;exact RZ (.agg Y Y (.k4 Y Y Y Y) Y (.nil))
theorem fF{x0:Qr}{r:Int×Int×Bool}(h:dy x0=some r):Pure ah 65 [.agg (eQ x0)] (.yN [ay r.1,ay r.2.1,az r.2.2]):=by
 obtain⟨⟨bu,bt⟩,⟨bM,bR⟩⟩:=x0;refine aZ Tryz.func65 Y (af Y) (λdD M vs hvs=>?_);unfold dy at h;refine sr<|bx Y<|ag Y<|ag Y<|ag Y<|dn<|sr<|fa Y Y<|ld Y Y (.k2 Y Y) ?_;obtain⟨⟨A3,GC⟩,fZ,h⟩:=bS h;refine cl (eV fZ) ⟨Y,aq⟩<|mv Y<|ex Y Y<|ex Y Y<|ag Y<|ag Y<|dn<|sr<|fa Y Y<|ld Y Y (.k2 Y Y) ?_;obtain⟨⟨zo,SO⟩,iY,h⟩:=bS h;refine cl (eV iY) ⟨Y,aq⟩<|mv Y<|ex Y Y<|ex Y Y<|ag Y<|ag Y<|dn<|qq<|qq ?_;refine bC h (λXb=>AS.ct 53 [(2,ai A3),(3,ai zo),(40,aj Xb)] [] []) (λh=>?_) (λEj h=>?_);refine aW<|mv Y<|lE h λju oQ h=>nt Y _ oQ<|mv Y<|bE h λIJ GF h=>?_;cases ju;refine gm Y<|lE (F GF) λgM oc GF=>gt_ Y _ oc ?_;obtain rfl:=O GF;refine pF Y<|mv Y<|bE h λXc GG h=>?_;cases gM;refine gm Y<|lE (F GG) λgN nc GG=>RT.leq (.some Y Y) _ Y Y T nc ?_;obtain rfl:=O GG;refine pF Y<|mv Y<|bE h λXd GH h=>?_;cases gN;refine gm Y<|lE (F GH) λoG wQ GH=>RT.geq (.some Y Y) _ Y Y T wQ ?_;obtain rfl:=O GH;refine pF Y<|mv Y<|bE h λXe GI h=>?_;cases oG;refine gm Y<|lE (F GI) λrj zj GI=>RT.leq (.some Y Y) _ Y Y T zj ?_;obtain rfl:=O GI;refine pF Y<|mv Y<|bE h λXf GJ h=>?_;cases rj;refine gm Y<|lE (F GJ) λoP CD GJ=>RT.geq (.some Y Y) _ Y Y T CD ?_;obtain rfl:=O GJ;exact pF Y<|dn<|⟨oP,h,wR []⟩;obtain rfl:=O (V GJ)
 exact ww<|ww<|pT Y<|dn<|⟨true,h,wR []⟩;obtain rfl:=O (V GI);refine ww<|ww<|pT Y<|mv Y<|bE h λXg Xh h=>?_;obtain rfl:=O (V Xh);exact ww<|ww<|pT Y<|dn<|⟨true,h,wR []⟩;obtain rfl:=O (V GH);refine ww<|ww<|pT Y<|mv Y<|bE h λXi Xj h=>?_;obtain rfl:=O (V Xj);refine ww<|ww<|pT Y<|mv Y<|bE h λXk Xl h=>?_;obtain rfl:=O (V Xl);exact ww<|ww<|pT Y<|dn<|⟨true,h,wR []⟩;obtain rfl:=O (V GG);refine ww<|ww<|pT Y<|mv Y<|bE h λXm Xn h=>?_;obtain rfl:=O (V Xn);refine ww<|ww<|pT Y<|mv Y<|bE h λXo Xp h=>?_;obtain rfl:=O (V Xp);refine ww<|ww<|pT Y<|mv Y<|bE h λXq u0 h=>?_;obtain rfl:=O (V u0);exact ww<|ww<|pT Y<|dn<|⟨true,h,wR []⟩;obtain rfl:=O (V GF);refine ww<|ww<|pT Y<|mv Y<|bE h λXr r7 h=>?_;obtain rfl:=O (V r7);refine ww<|ww<|pT Y<|mv Y<|bE h λXs wm h=>?_;obtain rfl:=O (V wm);refine ww<|ww<|pT Y<|mv Y<|bE h λXt GK h=>?_;obtain rfl:=O (V GK);refine ww<|ww<|pT Y<|mv Y<|bE h λXu GL h=>?_;obtain rfl:=O (V GL);exact ww<|ww<|pT Y<|dn<|⟨true,h,wR []⟩
 try dsimp only
 refine aV.n ?_;cases Ej;refine fs<|qq<|bj<|sr<|mv Y<|lE (F h) λDF KA h=>eq _ Y Y (vD (p:=zo) (q:=0) KA)<|ag Y<|dn ?_;refine bC h (λRf=>AS.ct 53 [(2,ai Rf.1),(3,ai Rf.2)] [] []) (λh=>?_) (λRf h=>?_);cases DF;refine cF<|sr<|mv Y<|lE (F h) λo9 h46 h=>ls _ Y Y h46<|ag Y<|dn ?_;refine bC h (λRg=>AS.ct 53 [(2,ai Rg.1),(3,ai Rg.2)] [] []) (λh=>?_) (λRg h=>?_);cases o9;exact fs<|⟨(A3,zo),(F h),wR []⟩;exact cT<|aW<|mv Y<|lE (V h) λy4 h48 h=>RT.neg .none _ Y T h48<|mv Y<|lE h λvG Gx h=>RT.neg .none _ Y T Gx<|ag Y<|ag Y<|dn<|⟨(y4,vG),h,wR []⟩;obtain⟨IG,II⟩:=Rg
 try dsimp only
 exact aV.n<|⟨(IG,II),h,wR []⟩;exact cT<|aW<|ag Y<|dn<|⟨(A3,1),(V h),wR []⟩;obtain⟨Nn,No⟩:=Rf
 try dsimp only
 refine bw.n<|aV.n<|sr<|mv Y<|mv Y<|ag Y<|ag Y<|ag Y<|dn<|bf ?_;obtain rfl:=O h;exact RZ (.tmp Y (.tmp Y (.tmp Y (.nil))));refine cT<|sr<|ag Y<|ag Y<|ag Y<|dn<|bf<|aV.r ?_;obtain rfl:=O (V h);exact RZ (.tmp Y (.tmp Y (.tmp Y (.nil))))
theorem kF{x0:Int}{x1:Int}{r:Qr}(h:fz x0 x1=some r):Pure ah 66 [ay x0,ay x1] (.agg (eQ r)):=by
 refine aZ Tryz.func66 Y (af Y) (λdD M vs hvs=>?_);unfold fz at h;refine sr<|al (cs:=[az false,ax,az false,ax]) (by exact⟨au,aB,au,aB,aq⟩) Y<|dn<|sr<|mv Y<|mv Y<|ag Y<|ag Y<|dn<|qq<|bE h λe6 ze jk=>?_;refine bK (λ(qO:Int)=>AS.ct 36 [(0,ai x0),(1,ai x1),(4,.ptr 4 0),(5,ai qO)] [(4,⟨36,[aj false,.sv ax,aj false,.sv ax]⟩)] []) (λqO=>qO=e6) ?_ (λqO zf=>?_);refine bj ?_;refine bL ze (λs6=>AS.ct 36 [(0,ai x0),(1,ai x1),(4,.ptr 4 0),(5,ai s6.1),(6,ai s6.2)] [(4,⟨36,[aj false,.sv ax,aj false,.sv ax]⟩)] []) (wR []) (λs6 y6 G6 h zg uT=>?_);obtain⟨lF,oR⟩:=s6
 try dsimp only
 refine qq<|sr<|mv Y<|lE h λdJ fZ h=>ne _ Y Y (Kx (p:=oR) (q:=0) fZ)<|dn ?_;cases dJ;refine cF<|bP<|aV.x<|aV.x<|bw.x<|aV.n ?_;obtain rfl:=O (F h);exact⟨lF,uT _ Y,wR []⟩;refine cT<|bp<|aV.n<|bj<|bh mixed<|mv Y<|mv Y<|mv Y<|bE (V h) λdV iJ h=>RT.rem .none _ Y Y T (O0 iJ) (O1 iJ)<|ag Y<|ag Y ?_;refine RT.done ⟨by kernel_rfl,?_⟩;refine bw.n ?_;obtain rfl:=O h;exact aV.n ⟨(oR,dV),zg _ Y,wR []⟩;subst zf
 try dsimp only
 refine aV.n<|qq<|sr<|mv Y<|lE jk λfE iY jk=>ls _ Y Y iY<|dn ?_;refine bC jk (λj8=>AS.ct 36 [(0,ai x0),(1,ai x1),(4,.ptr 4 0),(5,ai j8)] [(4,⟨36,[aj false,.sv ax,aj false,.sv ax]⟩)] []) (λjk=>?_) (λGD jk=>?_);cases fE;exact fs<|⟨qO,(F jk),wR []⟩;exact cT<|aW<|mv Y<|lE (V jk) λfj jT jk=>RT.neg .none _ Y T jT<|ag Y<|dn<|⟨fj,jk,wR []⟩
 try dsimp only
 refine aV.n<|qq<|sr<|mv Y<|mv Y<|lE jk λgi mU jk=>eq _ Y Y (vD (p:=GD) (q:=x1) mU)<|dn ?_;cases gi;refine fs<|qq<|bh mixed<|mv Y<|mv Y<|bE (F jk) λgR l8 jk=>RT.quo .none _ Y Y T (RR l8) (HW l8) ?_;obtain⟨⟨tj,tq⟩,zh,jk⟩:=bS jk;refine cl (da zh) ⟨Y,aq⟩<|mv Y<|mv Y<|bE jk λl7 uA jk=>RT.quo .none _ Y Y T (RR uA) (HW uA) ?_;obtain⟨⟨IK,IL⟩,qL,jk⟩:=bS jk;refine cl (da qL) ⟨Y,aq⟩<|bI (cs:=[_,_,_,_]) (cs':=[az tj,slc 1 (List.map aY tq),az IK,slc 1 (List.map aY IL)]) (.agg Y (.agg Y (.nil))) ⟨au,au,au,au,aq⟩<|so Y Y Y ?_;refine RT.done ⟨by kernel_rfl,?_⟩;refine aV.n<|bf ?_;obtain rfl:=O jk;exact RZ (.agg Y Y (.k4 Y Y Y Y) Y (.nil));refine cT<|sr<|mv Y<|mv Y<|bE (V jk) λgO oT jk=>RT.quo .none _ Y Y T (RR oT) (HW oT) ?_;obtain⟨⟨vH,th⟩,oe,jk⟩:=bS jk;refine cl (da oe) ⟨Y,aq⟩<|bI (cs:=[_,_,_,_]) (cs':=[az vH,slc 1 (List.map aY th),az false,ax]) (.agg Y (.nil)) ⟨au,au,au,aB,aq⟩<|so Y Y Y<|dn<|bf<|aV.r ?_;obtain rfl:=O jk;exact RZ (.agg Y Y (.k4 Y Y Y Y) Y (.nil))
theorem A5{x0:Int}{r:Int}(h:ni x0=some r):Pure ah 82 [ay x0] (ay r):=by
 refine aZ Tryz.func82 Y (af Y) (λdD M vs hvs=>?_);unfold ni at h;refine sr<|ag Y<|dn<|qq<|bj<|sr<|mv Y<|lE h λx5 h5 h=>ls _ Y Y h5<|ag Y<|dn ?_;cases x5;refine cF<|sr<|mv Y<|lE (F h) λx8 h8 h=>gt _ Y Y h8<|ag Y<|dn ?_;cases x8;refine cF<|bp<|bw.n<|aV.n<|sr<|ag Y<|dn<|bf ?_;obtain rfl:=O (F h);exact R1 Y;refine cT<|sr<|ag Y<|dn<|bf<|bw.r<|aV.r ?_;obtain rfl:=O (V h);exact R1 Y;refine cT<|sr<|ag Y<|dn<|bf<|bw.r<|aV.r ?_;obtain rfl:=O (V h);exact R1 Y
theorem wv{x1:Qr}{x2:Qr}{r:Qr}(h:gY x1 x2=some r):Pure ah 67 [.v (.int .u8 ((43:Nat):Int)),.agg (eQ x1),.agg (eQ x2)] (.agg (eQ r)):=by
 obtain⟨⟨b7,bX⟩,⟨gZ,g9⟩⟩:=x1;obtain⟨⟨pG,pH⟩,⟨CE,CF⟩⟩:=x2;refine aZ Tryz.func67 Y (af Y) (λdD M vs hvs=>?_);unfold gY at h;refine sr<|bx Y<|bx Y<|al (cs:=[az false,ax,az false,ax]) (by exact⟨au,aB,au,aB,aq⟩) Y<|dn<|sr<|ld Y Y (.k4 Y Y Y Y) ?_;obtain⟨⟨⟨kj,kn⟩,⟨lI,lJ⟩⟩,mS,h⟩:=bS h;refine cl (dR mS) ⟨Y,aq⟩<|mv Y<|ex Y Y<|ex Y Y<|al (cs:=[az false,ax]) (by exact⟨au,aB,aq⟩) Y<|al (cs:=[az false,ax]) (by exact⟨au,aB,aq⟩) Y<|so Y Y Y<|so Y Y Y<|dn<|sr<|ld Y Y (.k4 Y Y Y Y) ?_;obtain⟨⟨⟨gp,gu⟩,⟨jB,jC⟩⟩,jT,h⟩:=bS h;refine cl (dR jT) ⟨Y,aq⟩<|mv Y<|ex Y Y<|ex Y Y<|al (cs:=[az false,ax]) (by exact⟨au,aB,aq⟩) Y<|al (cs:=[az false,ax]) (by exact⟨au,aB,aq⟩) Y<|so Y Y Y<|so Y Y Y<|dn<|qq<|bh mixed<|cl ja trivial<|mv Y ?_;refine RT.look .none [.func (.func 126) #[] #[]] Y Y Y T<|fl Y Y<|ld Y Y (.k2 Y Y)<|ld Y Y (.k2 Y Y)<|ld Y Y (.k2 Y Y)<|ld Y Y (.k2 Y Y) ?_;obtain⟨⟨⟨pK,pL⟩,⟨pM,pN⟩⟩,l8,h⟩:=bS h;refine cl (pQ l8) ⟨Y,Y,Y,Y,aq⟩<|ex Y Y<|ex Y Y ?_;obtain⟨⟨⟨ru,pq⟩,⟨vM,vN⟩⟩,nx,h⟩:=bS h;refine cl (jD nx) ⟨Y,Y,aq⟩<|so Y Y Y ?_;refine RT.done ⟨by kernel_rfl,?_⟩;refine aV.n<|bf ?_;obtain rfl:=O h;exact RZ (.agg Y Y (.k4 Y Y Y Y) Y (.nil))
theorem wz{x1:Qr}{x2:Qr}{r:Qr}(h:hG x1 x2=some r):Pure ah 67 [.v (.int .u8 ((45:Nat):Int)),.agg (eQ x1),.agg (eQ x2)] (.agg (eQ r)):=by
 obtain⟨⟨b7,bX⟩,⟨gZ,g9⟩⟩:=x1;obtain⟨⟨pG,pH⟩,⟨CE,CF⟩⟩:=x2;refine aZ Tryz.func67 Y (af Y) (λdD M vs hvs=>?_);unfold hG at h;refine sr<|bx Y<|bx Y<|al (cs:=[az false,ax,az false,ax]) (by exact⟨au,aB,au,aB,aq⟩) Y<|dn<|sr<|ld Y Y (.k4 Y Y Y Y) ?_;obtain⟨⟨⟨kj,kn⟩,⟨lI,lJ⟩⟩,mS,h⟩:=bS h;refine cl (dR mS) ⟨Y,aq⟩<|mv Y<|ex Y Y<|ex Y Y<|al (cs:=[az false,ax]) (by exact⟨au,aB,aq⟩) Y<|al (cs:=[az false,ax]) (by exact⟨au,aB,aq⟩) Y<|so Y Y Y<|so Y Y Y<|dn<|sr<|ld Y Y (.k4 Y Y Y Y) ?_;obtain⟨⟨⟨gp,gu⟩,⟨jB,jC⟩⟩,jT,h⟩:=bS h;refine cl (dR jT) ⟨Y,aq⟩<|mv Y<|ex Y Y<|ex Y Y<|al (cs:=[az false,ax]) (by exact⟨au,aB,aq⟩) Y<|al (cs:=[az false,ax]) (by exact⟨au,aB,aq⟩) Y<|so Y Y Y<|so Y Y Y<|dn<|qq<|bh mixed<|cl ja trivial<|mv Y ?_;refine RT.look .none [.func (.func 128) #[] #[]] Y Y Y T<|fl Y Y<|ld Y Y (.k2 Y Y)<|ld Y Y (.k2 Y Y)<|ld Y Y (.k2 Y Y)<|ld Y Y (.k2 Y Y) ?_;obtain⟨⟨⟨pK,pL⟩,⟨pM,pN⟩⟩,l8,h⟩:=bS h;refine cl (pR l8) ⟨Y,Y,Y,Y,aq⟩<|ex Y Y<|ex Y Y ?_;obtain⟨⟨⟨ru,pq⟩,⟨vM,vN⟩⟩,nx,h⟩:=bS h;refine cl (jD nx) ⟨Y,Y,aq⟩<|so Y Y Y ?_;refine RT.done ⟨by kernel_rfl,?_⟩;refine aV.n<|bf ?_;obtain rfl:=O h;exact RZ (.agg Y Y (.k4 Y Y Y Y) Y (.nil))
theorem wA{x1:Qr}{x2:Qr}{r:Qr}(h:ia x1 x2=some r):Pure ah 67 [.v (.int .u8 ((42:Nat):Int)),.agg (eQ x1),.agg (eQ x2)] (.agg (eQ r)):=by
 obtain⟨⟨b7,bX⟩,⟨gZ,g9⟩⟩:=x1;obtain⟨⟨pG,pH⟩,⟨CE,CF⟩⟩:=x2;refine aZ Tryz.func67 Y (af Y) (λdD M vs hvs=>?_);unfold ia at h;refine sr<|bx Y<|bx Y<|al (cs:=[az false,ax,az false,ax]) (by exact⟨au,aB,au,aB,aq⟩) Y<|dn<|sr<|ld Y Y (.k4 Y Y Y Y) ?_;obtain⟨⟨⟨kj,kn⟩,⟨lI,lJ⟩⟩,mS,h⟩:=bS h;refine cl (dR mS) ⟨Y,aq⟩<|mv Y<|ex Y Y<|ex Y Y<|al (cs:=[az false,ax]) (by exact⟨au,aB,aq⟩) Y<|al (cs:=[az false,ax]) (by exact⟨au,aB,aq⟩) Y<|so Y Y Y<|so Y Y Y<|dn<|sr<|ld Y Y (.k4 Y Y Y Y) ?_;obtain⟨⟨⟨gp,gu⟩,⟨jB,jC⟩⟩,jT,h⟩:=bS h;refine cl (dR jT) ⟨Y,aq⟩<|mv Y<|ex Y Y<|ex Y Y<|al (cs:=[az false,ax]) (by exact⟨au,aB,aq⟩) Y<|al (cs:=[az false,ax]) (by exact⟨au,aB,aq⟩) Y<|so Y Y Y<|so Y Y Y<|dn<|qq<|bh mixed<|cl ja trivial<|mv Y ?_;refine RT.look .none [.func (.func 130) #[] #[]] Y Y Y T<|fl Y Y<|ld Y Y (.k2 Y Y)<|ld Y Y (.k2 Y Y)<|ld Y Y (.k2 Y Y)<|ld Y Y (.k2 Y Y) ?_;obtain⟨⟨⟨pK,pL⟩,⟨pM,pN⟩⟩,l8,h⟩:=bS h;refine cl (pS l8) ⟨Y,Y,Y,Y,aq⟩<|ex Y Y<|ex Y Y ?_;obtain⟨⟨⟨ru,pq⟩,⟨vM,vN⟩⟩,nx,h⟩:=bS h;refine cl (jD nx) ⟨Y,Y,aq⟩<|so Y Y Y ?_;refine RT.done ⟨by kernel_rfl,?_⟩;refine aV.n<|bf ?_;obtain rfl:=O h;exact RZ (.agg Y Y (.k4 Y Y Y Y) Y (.nil))
end
section
open Go.Fw Go.Fw.Z Go.RowKit
theorem jE{x0:Int}{r:Qr}(h:di x0=some r):Pure ah 54 [ay x0] (.agg (eQ r)):=by
 refine aZ Tryz.func54 Y (af Y) (λdD M vs hvs=>?_);unfold di at h;refine sr<|al (cs:=[az false,ax,az false,ax]) (by exact⟨au,aB,au,aB,aq⟩) Y<|dn<|sr<|mv Y ?_;obtain⟨⟨r5,r6⟩,h4,h⟩:=bS h;refine cl (da h4) ⟨Y,aq⟩<|bI (cs:=[_,_,_,_]) (cs':=[az r5,slc 1 (List.map aY r6),az false,ax]) (.agg Y (.nil)) ⟨au,au,au,aB,aq⟩<|so Y Y Y<|dn<|bf ?_;obtain rfl:=O h;exact RZ (.agg Y Y (.k4 Y Y Y Y) Y (.nil))
theorem nj{x0:Qr}{r:Qr}(h:eR x0=some r):Pure ah 94 [.agg (eQ x0)] (.agg (eQ r)):=by
 obtain⟨⟨bu,bt⟩,⟨bM,bR⟩⟩:=x0;refine aZ Tryz.func94 Y (af Y) (λdD M vs hvs=>?_);unfold eR at h;refine sr<|bx Y<|al (cs:=[az false,ax,az false,ax]) (by exact⟨au,aB,au,aB,aq⟩) Y<|dn<|qq<|sr<|ld Y Y (.k4 Y Y Y Y) ?_;obtain⟨⟨x8a,x8b,Xa⟩,h8,h⟩:=bS h;refine cl (fF h8) ⟨Y,aq⟩<|mv Y<|ex Y Y<|ex Y Y<|ex Y Y<|ag Y<|ag Y<|ag Y<|dn<|sr<|mv Y<|dn ?_;cases Xa;refine fs<|sr<|ld Y Y (.k4 Y Y Y Y) ?_;obtain⟨⟨⟨IM,IN⟩,⟨IP,IQ⟩⟩,kg,h⟩:=bS (F h);refine cl (dR kg) ⟨Y,aq⟩<|ex Y Y<|ex Y Y ?_;obtain⟨⟨⟨CG,CH⟩,⟨Nr,Ns⟩⟩,oQ,h⟩:=bS h;refine cl (jD oQ) ⟨Y,Y,aq⟩<|so Y Y Y<|dn<|bf ?_;obtain rfl:=O h;exact RZ (.agg Y Y (.k4 Y Y Y Y) Y (.nil));refine cT<|sr<|mv Y<|mv Y ?_;obtain⟨⟨⟨pI,pJ⟩,⟨Np,Nq⟩⟩,jy,h⟩:=bS (V h);refine cl (kF jy) ⟨Y,Y,aq⟩<|so Y Y Y<|dn<|bf<|aV.r ?_;obtain rfl:=O h;exact RZ (.agg Y Y (.k4 Y Y Y Y) Y (.nil))
theorem og{x0:Qr}{r:Int}(h:ic x0=some r):Pure ah 22 [.agg (eQ x0)] (ay r):=by
 obtain⟨⟨bu,bt⟩,⟨bM,bR⟩⟩:=x0;refine aZ Tryz.func22 Y (af Y) (λdD M vs hvs=>?_);unfold ic at h;refine sr<|bx Y<|ag Y<|dn<|qq<|sr<|fa Y Y<|ld Y Y (.k2 Y Y)<|bE h λx5 h5 h=>cl (dQ h5) ⟨Y,aq⟩<|lE h λx6 h6 h=>ls _ Y Y h6<|dn ?_;cases x6;refine fs<|sr<|fa Y Y<|ld Y Y (.k2 Y Y)<|bE (F h) λkE mS h=>cl (dQ mS) ⟨Y,aq⟩<|ag Y<|dn<|bf ?_;obtain rfl:=O h;exact R1 Y;refine cT<|sr<|fa Y Y<|ld Y Y (.k2 Y Y)<|bE (V h) λx9 h9 h=>cl (dQ h9) ⟨Y,aq⟩<|lE h λdJ fZ h=>RT.neg .none _ Y T fZ<|ag Y<|dn<|bf<|aV.r ?_;obtain rfl:=O h;exact R1 Y
theorem CR{x0:Qr}{x1:Qr}{r:Qr}(h:mB x0 x1=some r):Pure ah 23 [.agg (eQ x0),.agg (eQ x1)] (.agg (eQ r)):=by
 obtain⟨⟨bu,bt⟩,⟨bM,bR⟩⟩:=x0;obtain⟨⟨b7,bX⟩,⟨gZ,g9⟩⟩:=x1;refine aZ Tryz.func23 Y (af Y) (λdD M vs hvs=>?_);unfold mB at h;refine sr<|bx Y<|bx Y<|al (cs:=[az false,ax,az false,ax]) (by exact⟨au,aB,au,aB,aq⟩) Y<|dn<|sr<|ld Y Y (.k4 Y Y Y Y) ?_;obtain⟨⟨xR,uX,xS⟩,mS,h⟩:=bS h;refine cl (fF mS) ⟨Y,aq⟩<|mv Y<|ex Y Y<|ex Y Y<|ex Y Y<|ag Y<|ag Y<|ag Y<|dn<|sr<|ld Y Y (.k4 Y Y Y Y) ?_;obtain⟨⟨xT,pO,xU⟩,mz,h⟩:=bS h;refine cl (fF mz) ⟨Y,aq⟩<|mv Y<|ex Y Y<|ex Y Y<|ex Y Y<|ag Y<|ag Y<|ag Y<|dn<|qq<|qq ?_;refine bC h (λj3=>AS.ct 41 [(2,.ptr 2 0),(3,.ptr 3 0),(4,.ptr 4 0),(5,ai xR),(6,ai uX),(8,ai xT),(9,ai pO),(26,aj j3)] [(4,⟨36,[aj false,.sv ax,aj false,.sv ax]⟩),(3,⟨36,[aj b7,.sv (slc 1 (List.map aY bX)),aj gZ,.sv (slc 1 (List.map aY g9))]⟩),(2,⟨36,[aj bu,.sv (slc 1 (List.map aY bt)),aj bM,.sv (slc 1 (List.map aY bR))]⟩)] []) (λh=>?_) (λpP h=>?_);refine aW<|mv Y<|mv Y<|bE h λvO qt h=>?_;cases xS;obtain rfl:=O (F qt);exact ww<|pF Y<|dn<|⟨false,h,wR []⟩;refine gm Y ?_;obtain rfl:=O (V qt);exact pT Y<|dn<|⟨xU,h,wR []⟩
 try dsimp only
 refine aV.n ?_;cases pP;refine fs<|sr<|ld Y Y (.k4 Y Y Y Y)<|ld Y Y (.k4 Y Y Y Y) ?_;obtain⟨⟨⟨vI,vJ⟩,⟨CM,CN⟩⟩,rz,h⟩:=bS (F h);refine cl (wv rz) ⟨Y,Y,Y,aq⟩<|so Y Y Y<|dn<|bf ?_;obtain rfl:=O h;exact RZ (.agg Y Y (.k4 Y Y Y Y) Y (.nil));refine cT<|sr<|mv Y<|mv Y<|lE (V h) λgR l8 h=>RT.mul .none _ Y Y T l8<|mv Y<|mv Y<|lE h λiF nx h=>RT.mul .none _ Y Y T nx<|lE h λl7 uA h=>ad _ Y Y uA<|mv Y<|mv Y<|lE h λsD wj h=>RT.mul .none _ Y Y T wj ?_;obtain⟨⟨⟨CI,CJ⟩,⟨CK,CL⟩⟩,Gy,h⟩:=bS h;refine cl (kF Gy) ⟨Y,Y,aq⟩<|so Y Y Y<|dn<|bf<|aV.r ?_;obtain rfl:=O h;exact RZ (.agg Y Y (.k4 Y Y Y Y) Y (.nil))
theorem CS{x0:Qr}{x1:Qr}{r:Qr}(h:mD x0 x1=some r):Pure ah 85 [.agg (eQ x0),.agg (eQ x1)] (.agg (eQ r)):=by
 obtain⟨⟨bu,bt⟩,⟨bM,bR⟩⟩:=x0;obtain⟨⟨b7,bX⟩,⟨gZ,g9⟩⟩:=x1;refine aZ Tryz.func85 Y (af Y) (λdD M vs hvs=>?_);unfold mD at h;refine sr<|bx Y<|bx Y<|al (cs:=[az false,ax,az false,ax]) (by exact⟨au,aB,au,aB,aq⟩) Y<|dn<|sr<|ld Y Y (.k4 Y Y Y Y) ?_;obtain⟨⟨xR,uX,xS⟩,mS,h⟩:=bS h;refine cl (fF mS) ⟨Y,aq⟩<|mv Y<|ex Y Y<|ex Y Y<|ex Y Y<|ag Y<|ag Y<|ag Y<|dn<|sr<|ld Y Y (.k4 Y Y Y Y) ?_;obtain⟨⟨xT,pO,xU⟩,mz,h⟩:=bS h;refine cl (fF mz) ⟨Y,aq⟩<|mv Y<|ex Y Y<|ex Y Y<|ex Y Y<|ag Y<|ag Y<|ag Y<|dn<|qq<|qq ?_;refine bC h (λj3=>AS.ct 41 [(2,.ptr 2 0),(3,.ptr 3 0),(4,.ptr 4 0),(5,ai xR),(6,ai uX),(8,ai xT),(9,ai pO),(26,aj j3)] [(4,⟨36,[aj false,.sv ax,aj false,.sv ax]⟩),(3,⟨36,[aj b7,.sv (slc 1 (List.map aY bX)),aj gZ,.sv (slc 1 (List.map aY g9))]⟩),(2,⟨36,[aj bu,.sv (slc 1 (List.map aY bt)),aj bM,.sv (slc 1 (List.map aY bR))]⟩)] []) (λh=>?_) (λpP h=>?_);refine aW<|mv Y<|mv Y<|bE h λvO qt h=>?_;cases xS;obtain rfl:=O (F qt);exact ww<|pF Y<|dn<|⟨false,h,wR []⟩;refine gm Y ?_;obtain rfl:=O (V qt);exact pT Y<|dn<|⟨xU,h,wR []⟩
 try dsimp only
 refine aV.n ?_;cases pP;refine fs<|sr<|ld Y Y (.k4 Y Y Y Y)<|ld Y Y (.k4 Y Y Y Y) ?_;obtain⟨⟨⟨vI,vJ⟩,⟨CM,CN⟩⟩,rz,h⟩:=bS (F h);refine cl (wz rz) ⟨Y,Y,Y,aq⟩<|so Y Y Y<|dn<|bf ?_;obtain rfl:=O h;exact RZ (.agg Y Y (.k4 Y Y Y Y) Y (.nil));refine cT<|sr<|mv Y<|mv Y<|lE (V h) λgR l8 h=>RT.mul .none _ Y Y T l8<|mv Y<|mv Y<|lE h λiF nx h=>RT.mul .none _ Y Y T nx<|lE h λl7 uA h=>sb _ Y Y uA<|mv Y<|mv Y<|lE h λsD wj h=>RT.mul .none _ Y Y T wj ?_;obtain⟨⟨⟨CI,CJ⟩,⟨CK,CL⟩⟩,Gy,h⟩:=bS h;refine cl (kF Gy) ⟨Y,Y,aq⟩<|so Y Y Y<|dn<|bf<|aV.r ?_;obtain rfl:=O h;exact RZ (.agg Y Y (.k4 Y Y Y Y) Y (.nil))
theorem vP{x0:Qr}{x1:Qr}{r:Qr}(h:ko x0 x1=some r):Pure ah 79 [.agg (eQ x0),.agg (eQ x1)] (.agg (eQ r)):=by
 obtain⟨⟨bu,bt⟩,⟨bM,bR⟩⟩:=x0;obtain⟨⟨b7,bX⟩,⟨gZ,g9⟩⟩:=x1;refine aZ Tryz.func79 Y (af Y) (λdD M vs hvs=>?_);unfold ko at h;refine sr<|bx Y<|bx Y<|al (cs:=[az false,ax,az false,ax]) (by exact⟨au,aB,au,aB,aq⟩) Y<|dn<|sr<|ld Y Y (.k4 Y Y Y Y) ?_;obtain⟨⟨xR,uX,xS⟩,mS,h⟩:=bS h;refine cl (fF mS) ⟨Y,aq⟩<|mv Y<|ex Y Y<|ex Y Y<|ex Y Y<|ag Y<|ag Y<|ag Y<|dn<|sr<|ld Y Y (.k4 Y Y Y Y) ?_;obtain⟨⟨xT,pO,xU⟩,mz,h⟩:=bS h;refine cl (fF mz) ⟨Y,aq⟩<|mv Y<|ex Y Y<|ex Y Y<|ex Y Y<|ag Y<|ag Y<|ag Y<|dn<|qq<|qq ?_;refine bC h (λj3=>AS.ct 37 [(2,.ptr 2 0),(3,.ptr 3 0),(4,.ptr 4 0),(5,ai xR),(6,ai uX),(8,ai xT),(9,ai pO),(26,aj j3)] [(4,⟨36,[aj false,.sv ax,aj false,.sv ax]⟩),(3,⟨36,[aj b7,.sv (slc 1 (List.map aY bX)),aj gZ,.sv (slc 1 (List.map aY g9))]⟩),(2,⟨36,[aj bu,.sv (slc 1 (List.map aY bt)),aj bM,.sv (slc 1 (List.map aY bR))]⟩)] []) (λh=>?_) (λpP h=>?_);refine aW<|mv Y<|mv Y<|bE h λvO qt h=>?_;cases xS;obtain rfl:=O (F qt);exact ww<|pF Y<|dn<|⟨false,h,wR []⟩;refine gm Y ?_;obtain rfl:=O (V qt);exact pT Y<|dn<|⟨xU,h,wR []⟩
 try dsimp only
 refine aV.n ?_;cases pP;refine fs<|sr<|ld Y Y (.k4 Y Y Y Y)<|ld Y Y (.k4 Y Y Y Y) ?_;obtain⟨⟨⟨pz,pA⟩,⟨CO,CP⟩⟩,wj,h⟩:=bS (F h);refine cl (wA wj) ⟨Y,Y,Y,aq⟩<|so Y Y Y<|dn<|bf ?_;obtain rfl:=O h;exact RZ (.agg Y Y (.k4 Y Y Y Y) Y (.nil));refine cT<|sr<|mv Y<|mv Y<|lE (V h) λgR l8 h=>RT.mul .none _ Y Y T l8<|mv Y<|mv Y<|lE h λiF nx h=>RT.mul .none _ Y Y T nx ?_;obtain⟨⟨⟨Nt,Nu⟩,⟨Nv,Nw⟩⟩,uA,h⟩:=bS h;refine cl (kF uA) ⟨Y,Y,aq⟩<|so Y Y Y<|dn<|bf<|aV.r ?_;obtain rfl:=O h;exact RZ (.agg Y Y (.k4 Y Y Y Y) Y (.nil))
theorem vQ{x0:Qr}{r:Qr}(h:iZ x0=some r):Pure ah 56 [.agg (eQ x0)] (.agg (eQ r)):=by
 obtain⟨⟨bu,bt⟩,⟨bM,bR⟩⟩:=x0;refine aZ Tryz.func56 Y (af Y) (λdD M vs hvs=>?_);unfold iZ at h;refine sr<|bx Y<|al (cs:=[az false,ax,az false,ax]) (by exact⟨au,aB,au,aB,aq⟩) Y<|dn<|sr<|ld Y Y (.k4 Y Y Y Y) ?_;obtain⟨⟨⟨zq,CQ⟩,⟨zu,A4⟩⟩,h5,h⟩:=bS h;refine cl (nj h5) ⟨Y,aq⟩<|al (cs:=[az false,ax,az false,ax]) (by exact⟨au,aB,au,aB,aq⟩) Y<|so Y Y Y<|dn<|qq<|bh mixed<|fa Y Y<|ld Y Y (.k2 Y Y) ?_;obtain⟨⟨uY,uZ⟩,h8,h⟩:=bS h;refine cl (jA h8) ⟨Y,aq⟩<|fa Y Y<|ld Y Y (.k2 Y Y)<|bI (cs:=[_,_,_,_]) (cs':=[az uY,slc 1 (List.map aY uZ),az zu,slc 1 (List.map aY A4)]) (.agg Y (.agg Y (.nil))) ⟨au,au,au,au,aq⟩<|so Y Y Y ?_;refine RT.done ⟨by kernel_rfl,?_⟩;refine aV.n<|bf ?_;obtain rfl:=O h;exact RZ (.agg Y Y (.k4 Y Y Y Y) Y (.nil))
theorem vR{x0:Qr}{x1:Qr}{r:Int}(h:kp x0 x1=some r):Pure ah 33 [.agg (eQ x0),.agg (eQ x1)] (ay r):=by
 obtain⟨⟨bu,bt⟩,⟨bM,bR⟩⟩:=x0;obtain⟨⟨b7,bX⟩,⟨gZ,g9⟩⟩:=x1;refine aZ Tryz.func33 Y (af Y) (λdD M vs hvs=>?_);unfold kp at h;refine sr<|bx Y<|bx Y<|ag Y<|dn<|sr<|ld Y Y (.k4 Y Y Y Y) ?_;obtain⟨⟨⟨kj,kn⟩,⟨lI,lJ⟩⟩,mS,h⟩:=bS h;refine cl (dR mS) ⟨Y,aq⟩<|mv Y<|ex Y Y<|ex Y Y<|al (cs:=[az false,ax]) (by exact⟨au,aB,aq⟩) Y<|al (cs:=[az false,ax]) (by exact⟨au,aB,aq⟩) Y<|so Y Y Y<|so Y Y Y<|dn<|sr<|ld Y Y (.k4 Y Y Y Y) ?_;obtain⟨⟨⟨gp,gu⟩,⟨jB,jC⟩⟩,jT,h⟩:=bS h;refine cl (dR jT) ⟨Y,aq⟩<|mv Y<|ex Y Y<|ex Y Y<|al (cs:=[az false,ax]) (by exact⟨au,aB,aq⟩) Y<|al (cs:=[az false,ax]) (by exact⟨au,aB,aq⟩) Y<|so Y Y Y<|so Y Y Y<|dn<|qq<|qq<|bh mixed<|ld Y Y (.k2 Y Y)<|bE h λgQ nw h=>?_;refine cl (dQ nw) ⟨Y,aq⟩<|ld Y Y (.k2 Y Y)<|bE h λgO oT h=>cl (dQ oT) ⟨Y,aq⟩<|ag Y<|ag Y ?_;refine RT.done ⟨by kernel_rfl,?_⟩;refine aV.n<|qq ?_;refine bC h (λj3=>AS.ct 43 [(5,.ptr 5 0),(6,.ptr 6 0),(7,.ptr 7 0),(8,.ptr 8 0),(9,ai gQ),(10,ai gO),(31,aj j3)] [(8,⟨34,[aj jB,.sv (slc 1 (List.map aY jC))]⟩),(7,⟨34,[aj gp,.sv (slc 1 (List.map aY gu))]⟩),(6,⟨34,[aj lI,.sv (slc 1 (List.map aY lJ))]⟩),(5,⟨34,[aj kj,.sv (slc 1 (List.map aY kn))]⟩)] []) (λh=>?_) (λIS h=>?_)
 refine aW<|mv Y<|mv Y<|lE h λgN nc h=>ne _ Y Y (Kx (p:=gQ) (q:=gO) nc)<|mv Y<|bE h λNB qt h=>?_;cases gN;refine gm Y<|lE (F qt) λuO zh qt=>Q6 _ Y Y (vD (p:=gQ) (q:=0) zh) ?_;obtain rfl:=O qt;exact pF Y<|dn<|⟨uO,h,wR []⟩;obtain rfl:=O (V qt);exact ww<|ww<|pT Y<|dn<|⟨true,h,wR []⟩
 try dsimp only
 refine aV.n ?_;cases IS;refine fs<|qq<|bh mixed<|ld Y Y (.k2 Y Y)<|ld Y Y (.k2 Y Y) ?_;obtain⟨⟨Nx,Ny⟩,Cy,h⟩:=bS (F h);refine cl (dP Cy) ⟨Y,Y,aq⟩<|ld Y Y (.k2 Y Y)<|ld Y Y (.k2 Y Y) ?_;obtain⟨⟨Nz,NA⟩,Gw,h⟩:=bS h;refine cl (dP Gw) ⟨Y,Y,aq⟩<|bE h λo8 AW h=>cl (AZ AW) ⟨Y,Y,aq⟩<|ag Y ?_;refine RT.done ⟨by kernel_rfl,?_⟩;refine aV.n<|bf ?_;obtain rfl:=O h;exact R1 Y;refine cT<|sr<|mv Y<|mv Y<|lE (V h) λmQ qL h=>sb _ Y Y qL<|bE h λrj zj h=>cl (A5 zj) ⟨Y,aq⟩<|ag Y<|dn<|bf<|aV.r ?_;obtain rfl:=O h;exact R1 Y
end
section
open Go.Fw
noncomputable def kR(x0:Qr)(x1:Qr)(c0:Qr):Option (Qr):=match x0 with|⟨⟨bu,bt⟩,⟨bM,bR⟩⟩=>match x1 with|⟨⟨b7,bX⟩,⟨gZ,g9⟩⟩=>match c0 with|⟨⟨IU,IV⟩,⟨IW,IX⟩⟩=>cg (λ(xV:Bool)=>cg (λ(j5:Bool×(List Nat)×Bool×(List Nat))=>match j5 with|⟨zW,zX,zY,zZ⟩=>some ⟨⟨zW,zX⟩,⟨zY,zZ⟩⟩) λK5=>(bif xV then(ko ⟨⟨bu,bt⟩,⟨bM,bR⟩⟩ ⟨⟨b7,bX⟩,⟨gZ,g9⟩⟩).bind λ⟨⟨jg,jh⟩,⟨vS,vT⟩⟩=>(mB ⟨⟨IU,IV⟩,⟨IW,IX⟩⟩ ⟨⟨jg,jh⟩,⟨vS,vT⟩⟩).bind λ⟨⟨ng,nh⟩,⟨oK,oL⟩⟩=>K5 (ng,nh,oK,oL)else K5 (IU,IV,IW,IX))) λK3=>(ic ⟨⟨bu,bt⟩,⟨bM,bR⟩⟩).bind λx6=>(some (decide ((x6:Int)≠0))).bind λx7=>(bif x7 then(ic ⟨⟨b7,bX⟩,⟨gZ,g9⟩⟩).bind λdJ=>(some (decide ((dJ:Int)≠0))).bind λfK=>some fK else some false).bind λNC=>K3 NC
noncomputable def ig(x0:Qr)(x1:List Qr):Option (List Qr):=match x0 with|⟨⟨bu,bt⟩,⟨bM,bR⟩⟩=>(some (x1.length:Int)).bind λx9=>(Ca 64 x9 (⟨⟨false,[]⟩,⟨false,[]⟩⟩:Qr)).bind λdJ=>(some (x1.length:Int)).bind λdj=>(b9 (λ(s8:Int×(List Qr))=>match s8 with|⟨kS,kT⟩=>(show Option ((Int×(List Qr))⊕((List Qr)))from(some (decide ((kS:Int)<dj))).bind λdV=>(bif dV then(c9 x1 kS).bind λ⟨⟨jg,jh⟩,⟨vS,vT⟩⟩=>(ko ⟨⟨bu,bt⟩,⟨bM,bR⟩⟩ ⟨⟨jg,jh⟩,⟨vS,vT⟩⟩).bind λ⟨⟨rA,rB⟩,⟨rC,rD⟩⟩=>(uy kT kS).bind λgM=>(stM kT gM ⟨⟨rA,rB⟩,⟨rC,rD⟩⟩).bind λxC=>(some (IntKind.i64.wrap (kS+1))).bind λgO=>some (.inl (gO,xC))else some (.inr kT)))) (0,dJ)).bind λij=>some ij
noncomputable def gD(x0:List Qr)(x1:List Qr):Option (Qr):=(some (x0.length:Int)).bind λdj=>(some (x1.length:Int)).bind λdV=>(some (min (dj:Int) dV)).bind λeN=>(sM x0 0 eN).bind λfj=>(sM x1 0 eN).bind λgi=>(nr (λ(k:Nat) (s7:Bool×(List Nat)×Bool×(List Nat))=>match s7 with|⟨xW,xX,xY,xZ⟩=>(show Option (Bool×(List Nat)×Bool×(List Nat))from(some (fj.getD k (⟨⟨false,[]⟩,⟨false,[]⟩⟩:Qr))).bind λ⟨⟨ND,NF⟩,⟨NG,NH⟩⟩=>(some (gi.getD k (⟨⟨false,[]⟩,⟨false,[]⟩⟩:Qr))).bind λ⟨⟨NI,NJ⟩,⟨NK,NL⟩⟩=>(kR ⟨⟨ND,NF⟩,⟨NG,NH⟩⟩ ⟨⟨NI,NJ⟩,⟨NK,NL⟩⟩ ⟨⟨xW,xX⟩,⟨xY,xZ⟩⟩).bind λ⟨⟨SP,SQ⟩,⟨SR,SS⟩⟩=>some (SP,SQ,SR,SS))) (max fj.length gi.length) (false,[],false,[])).bind λe7=>match e7 with|⟨xW,xX,xY,xZ⟩=>some ⟨⟨xW,xX⟩,⟨xY,xZ⟩⟩
noncomputable def iM(x0:List Qr)(x1:List Qr):Option (Int):=(lD (λ(k:Nat) (s3:Unit)=>(show Option ((Unit)⊕(Int))from(some (x0.getD k (⟨⟨false,[]⟩,⟨false,[]⟩⟩:Qr))).bind λ⟨⟨CT,CU⟩,⟨CV,CW⟩⟩=>(some (x1.getD k (⟨⟨false,[]⟩,⟨false,[]⟩⟩:Qr))).bind λ⟨⟨NM,NN⟩,⟨NO,NP⟩⟩=>(kp ⟨⟨CT,CU⟩,⟨CV,CW⟩⟩ ⟨⟨NM,NN⟩,⟨NO,NP⟩⟩).bind λeN=>(some (decide ((eN:Int)≠0))).bind λeM=>(bif eM then some (.inr eN)else some (.inl ())))) (max x0.length x1.length) ()).bind λe3=>match e3 with|.inr v3=>some v3|.inl _=>some 0
noncomputable def dY(x0:List Qr)(x1:List Qr):Option (Bool):=(iM x0 x1).bind λx7=>(some (decide ((x7:Int)=0))).bind λx8=>some x8
noncomputable def cP(x0:List Int):Option (List Qr):=(some (x0.length:Int)).bind λx7=>(Ca 64 x7 (⟨⟨false,[]⟩,⟨false,[]⟩⟩:Qr)).bind λx8=>(some (x0.length:Int)).bind λdJ=>(b9 (λ(s8:Int×(List Qr))=>match s8 with|⟨pU,ya⟩=>(show Option ((Int×(List Qr))⊕((List Qr)))from(some (decide ((pU:Int)<dJ))).bind λdj=>(bif dj then(c9 x0 pU).bind λdV=>(di dV).bind λ⟨⟨oI,oJ⟩,⟨IY,IZ⟩⟩=>(uy ya pU).bind λju=>(stM ya ju ⟨⟨oI,oJ⟩,⟨IY,IZ⟩⟩).bind λxC=>(some (IntKind.i64.wrap (pU+1))).bind λgi=>some (.inl (gi,xC))else some (.inr ya)))) (0,x8)).bind λr8=>some r8
end
end Go.Proofs.YtfoldppidpmchaaGreat
