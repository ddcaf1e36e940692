/- A part of the proof: the framework, the plain functions, the followed functions, the plain laws. -/
import Derived.Test.YtningmnklfpfjaaGreatPSM1
set_option linter.unusedVariables false
set_option linter.unusedSimpArgs false
set_option linter.unusedSectionVars false
namespace Go.Fw
section
open Go.RowKit
def cJ{J R:Type}(k:J->Option R)(f:(J->Option R)->Option R):Option R:=f k
theorem bind_some{α β:Type}{x:Option α}{f:α->Option β}{r:β}(h:Option.bind x f=some r):∃a,x=some a/\f a=some r:=by
 cases x with
 |none=>cases h
 |some a=>exact⟨a,Y,h⟩
theorem sk{b w:Bool}(h:(b==w)=false):b≠w:=by cases b<;>cases w<;>simp_all
def cM{α:Type}(l:List α)(i:Int):Option α:=if 0<=i then l[i.toNat]? else none
def qg{α:Type}(l:List α)(i:Int):Option Nat:=if 0<=i/\i<l.length then some i.toNat else none
def GH{α:Type}(l:List α)(lo hi:Int):Option (List α):=if 0<=lo/\lo<=hi/\hi<=l.length then some (cut l lo.toNat hi.toNat)else none
def mQ{α:Type}(by_:Nat)(l k:List α):Option (List α):=if(l.length+k.length)*by_<=140737488355328/\l.length+k.length<=140737488355328 then some (l++k)else none
def J9{α:Type}(by_:Nat)(c:Int)(z:α):Option (List α):=if 0<=c/\by_*c<=281474976710656/\c<=140737488355328 then some (List.replicate c.toNat z)else none
def VU{α:Type}(by_:Nat)(c:Int):Option (List α):=if 0<=c/\by_*c<=281474976710656/\c<=140737488355328 then some []else none
def stM{α:Type}(l:List α)(n:Nat)(y:α):Option (List α):=if n<l.length then some (l.set n y)else none
def At(a b:Int):Option Int:=if b=0 then none else some (IntKind.i64.wrap (a.tdiv b))
def Kk(a b:Int):Option Int:=if b=0 then none else some (a.tmod b)
def Mm(M a b:Nat):Option Nat:=if b=0 then none else some (a/b%M)
def Kl(a b:Nat):Option Nat:=if b=0 then none else some (a%b)
def vV(M a b:Nat):Nat:=(((a:Int)-b)%M).toNat
theorem yD{α:Type}{l:List α}{i:Int}{a:α}(h:cM l i=some a):0<=i/\l[i.toNat]? =some a:=by
 unfold cM at h;split at h
 ·exact⟨by assumption,h⟩
 cases h
theorem VV{α:Type}{l:List α}{i:Int}{k:Nat}(h:qg l i=some k):0<=i/\i<l.length/\i.toNat=k:=by
 unfold qg at h;split at h
 ·rename_i hh;exact⟨hh.1,hh.2,Option.some.inj h⟩
 cases h
theorem Le{α:Type}{l l':List α}{a b:Int}(h:GH l a b=some l'):0<=a/\a<=b/\b<=l.length/\cut l a.toNat b.toNat=l':=by
 unfold GH at h;split at h
 ·rename_i hh;exact⟨hh.1,hh.2.1,hh.2.2,Option.some.inj h⟩
 cases h
theorem AH{α:Type}{by_:Nat}{l k l':List α}(h:mQ by_ l k=some l'):(l.length+k.length)*by_<=140737488355328/\l.length+k.length<=140737488355328/\l++k=l':=by
 unfold mQ at h;split at h
 ·rename_i hh;exact⟨hh.1,hh.2,Option.some.inj h⟩
 cases h
theorem VW{α:Type}{by_:Nat}{c:Int}{z:α}{l':List α}(h:J9 by_ c z=some l'):0<=c/\by_*c<=281474976710656/\c<=140737488355328/\List.replicate c.toNat z=l':=by
 unfold J9 at h;split at h
 ·rename_i hh;exact⟨hh.1,hh.2.1,hh.2.2,Option.some.inj h⟩
 cases h
theorem VX{α:Type}{by_:Nat}{c:Int}{l':List α}(h:VU by_ c=some l'):0<=c/\by_*c<=281474976710656/\c<=140737488355328/\[]=l':=by
 unfold VU at h;split at h
 ·rename_i hh;exact⟨hh.1,hh.2.1,hh.2.2,Option.some.inj h⟩
 cases h
theorem Oi{α:Type}{l l':List α}{n:Nat}{y:α}(h:stM l n y=some l'):n<l.length/\l.set n y=l':=by
 unfold stM at h;split at h
 ·rename_i hh;exact⟨hh,Option.some.inj h⟩
 cases h
def vg{S E:Type}(body:S->Option (S⊕E)):Nat->S->Option E
 |0,_=>none
 |n+1,s=>match body s with
  |some (.inl s')=>vg body n s'
  |some (.inr e)=>some e
  |none=>none
theorem CQ{S E:Type}{body:S->Option (S⊕E)}:∀{n m:Nat} {s:S} {e:E},n<=m->vg body n s=some e->vg body m s=some e
 |0,_,_,_,_,h=>by cases h
 |n+1,0,_,_,hm,_=>by omega
 |n+1,m+1,s,e,hm,h=>by
  unfold vg at h⊢;cases hb:body s with
  |none=>rw[hb]at h;cases h
  |some y=>
   rw[hb]at h;cases y with
   |inl s'=>exact CQ (by omega) h
   |inr e'=>exact h
open Classical in
noncomputable def b9{S E:Type}(body:S->Option (S⊕E))(s:S):Option E:=if h:∃n e,vg body n s=some e then some (Classical.choose (Classical.choose_spec h))else none
theorem CR{S E:Type}{body:S->Option (S⊕E)}{s:S}{e:E}(h:b9 body s=some e):∃n,vg body n s=some e:=by
 unfold b9 at h;split at h
 ·rename_i hh;exact⟨_,by rw[<-Option.some.inj h];exact Classical.choose_spec (Classical.choose_spec hh)⟩
 cases h
theorem Ij{S E:Type}{body:S->Option (S⊕E)}{s:S}{e:E}{n:Nat}(h:vg body n s=some e):b9 body s=some e:=by
 have hh:∃n e,vg body n s=some e:=⟨n,e,h⟩;unfold b9;rw[dif_pos hh];have h2:=Classical.choose_spec (Classical.choose_spec hh);have h3:=CQ (Nat.le_max_left n (Classical.choose hh)) h;have h4:=CQ (Nat.le_max_right n (Classical.choose hh)) h2;rw[h3]at h4;exact h4.symm
theorem CS{S E:Type}{body:S->Option (S⊕E)}{s:S}{e:E}(h:body s=some (.inr e)):b9 body s=some e:=Ij (n:=1) (by simp[vg,h])
theorem Ik{S E:Type}{body:S->Option (S⊕E)}{s s':S}(h:body s=some (.inl s')):b9 body s=b9 body s':=by
 cases hl:b9 body s' with
 |some e=>obtain⟨n,hn⟩:=CR hl;exact Ij (n:=n+1) (by simp[vg,h,hn])
 |none=>
  cases hl2:b9 body s with
  |none=>rfl
  |some e=>
   obtain⟨n,hn⟩:=CR hl2;cases n with
   |zero=>cases hn
   |succ n=>simp only[vg,h]at hn;rw[Ij hn]at hl;cases hl
theorem E9{S E:Type}{body:S->Option (S⊕E)}(I:S->Prop)(Post:E->Prop)(μ:S->Nat)
  (step:∀s,I s->(∃s',body s=some (.inl s')/\I s'/\μ s'<μ s)\/(∃e,body s=some (.inr e)/\Post e)) {s:S} (h:I s):∃e,b9 body s=some e/\Post e:=by
 have key:∀(n:Nat) (s:S),μ s<=n->I s->∃e,b9 body s=some e/\Post e:=by
  intro n
  induction n with
  |zero=>
   intro s hn hs;rcases step s hs with⟨s',_,_,h3⟩|⟨e,h1,h2⟩
   ·omega
   exact⟨e,CS h1,h2⟩
  |succ n ih=>
   intro s hn hs;rcases step s hs with⟨s',h1,h2,h3⟩|⟨e,h1,h2⟩
   ·obtain⟨e,q1,q2⟩:=ih s' (by omega) h2;exact⟨e,by rw[Ik h1];exact q1,q2⟩
   exact⟨e,CS h1,h2⟩
 exact key _ s (Nat.le_refl _) h
theorem VY{S E:Type}{body:S->Option (S⊕E)}(st:Nat->S)(n:Nat){e:E}(hs:∀k,k<n->body (st k)=some (.inl (st (k+1))))(he:body (st n)=some (.inr e)):b9 body (st 0)=some e:=by
 have key:∀k,k<=n->b9 body (st (n-k))=some e:=by
  intro k
  induction k with
  |zero=>intro _;exact CS he
  |succ k ih=>
   intro hk;rw[Ik (hs (n-(k+1)) (by omega)),show n-(k+1)+1=n-k by omega];exact ih (by omega)
 have:=key n (Nat.le_refl _);rwa[Nat.sub_self]at this
theorem xh{p q:Int}{c:Bool}(h:decide (p=q)=c):(p==q)=c:=by rw[<-h];exact Bool.beq_eq_decide_eq p q
theorem Lf{p q:Int}{c:Bool}(h:decide (p≠q)=c):(p != q)=c:=by rw[<-h,bne,Bool.beq_eq_decide_eq p q];simp
theorem eqN{p q:Nat}{c:Bool}(h:decide (p=q)=c):((p:Int)==(q:Int))=c:=xh (by rw[<-h];simp[Int.natCast_inj])
theorem neN{p q:Nat}{c:Bool}(h:decide (p≠q)=c):((p:Int) != (q:Int))=c:=Lf (by rw[<-h];simp[Int.natCast_inj])
theorem ltN{p q:Nat}{c:Bool}(h:decide (p<q)=c):decide ((p:Int)<(q:Int))=c:=by rw[<-h];simp
theorem leN{p q:Nat}{c:Bool}(h:decide (p<=q)=c):decide ((p:Int)<=(q:Int))=c:=by rw[<-h];simp
theorem Oj{p q c:Int}(h:max p q=c):(if q>p then q else p)=c:=by rw[<-h];split<;>omega
theorem VZ{p q c:Int}(h:min p q=c):(if q<p then q else p)=c:=by rw[<-h];split<;>omega
class UK (k:IntKind) (b:outParam Nat) (M:outParam Nat):Prop where
 w:∀x:Int,k.wrap x=x%M
 hb:k.bits=b
 hm:2^b=M
instance:UK .u8 8 256:=⟨λx=>by simp[IntKind.wrap,IntKind.signed,IntKind.bits],rfl,by decide⟩
instance:UK .u32 32 4294967296:=⟨λx=>by simp[IntKind.wrap,IntKind.signed,IntKind.bits],rfl,by decide⟩
instance:UK .u64 64 18446744073709551616:=⟨λx=>by simp[IntKind.wrap,IntKind.signed,IntKind.bits],rfl,by decide⟩
section uk
variable {k:IntKind}{bi M a b c:Nat}[u:UK k bi M]
include u
theorem UK.pos:0<M:=by rw[<-u.hm];exact Nat.two_pow_pos _
theorem UK.nat(h:a%M=c):k.wrap (a:Int)=(c:Int):=by rw[u.w,<-h,Int.natCast_emod]
theorem UK.add(h:(a+b)%M=c):k.wrap ((a:Int)+(b:Int))=(c:Int):=by rw[<-Int.natCast_add];exact UK.nat h
theorem UK.mul(h:(a*b)%M=c):k.wrap ((a:Int)*(b:Int))=(c:Int):=by rw[<-Int.natCast_mul];exact UK.nat h
theorem UK.sub(h:vV M a b=c):k.wrap ((a:Int)-(b:Int))=(c:Int):=by
 rw[u.w,<-h,vV,Int.toNat_of_nonneg];exact Int.emod_nonneg _ (by have:=UK.pos (k:=k) (bi:=bi) (M:=M);omega)
theorem UK.neg(h:vV M 0 a=c):k.wrap (0-(a:Int))=(c:Int):=UK.sub h
theorem UK.conv{p:Int}(h:(p%M).toNat=c):k.wrap p=(c:Int):=by
 rw[u.w,<-h,Int.toNat_of_nonneg];exact Int.emod_nonneg _ (by have:=UK.pos (k:=k) (bi:=bi) (M:=M);omega)
theorem UK.quo(h:Mm M a b=some c):k.wrap ((a:Int).tdiv (b:Int))=(c:Int):=by
 unfold Mm at h;split at h
 ·cases h
 rw[Int.tdiv_eq_ediv_of_nonneg (by omega),<-Int.natCast_ediv];exact UK.nat (Option.some.inj h)
theorem UK.ai0(h:a/b%M=c):k.wrap ((a:Int).tdiv (b:Int))=(c:Int):=by
 rw[Int.tdiv_eq_ediv_of_nonneg (by omega),<-Int.natCast_ediv];exact UK.nat h
theorem UK.shl{q:Int}{s:Nat}(hs:min q.toNat k.bits=s)(h:a*2^s%M=c):k.wrap ((a:Int)*2^(min q.toNat k.bits))=(c:Int):=by
 rw[hs,show(a:Int)*2^s=((a*2^s:Nat):Int) by rw[Int.natCast_mul,Int.natCast_pow];rfl];exact UK.nat h
theorem UK.ofInt(a:Nat):(BitVec.ofInt k.bits (a:Int)).toNat=a%M:=by
 rw[BitVec.ofInt_natCast,BitVec.toNat_ofNat,u.hb,u.hm]
theorem UK.or(h:(a ||| b)%M=c):k.wrap ((BitVec.ofInt k.bits (a:Int) ||| BitVec.ofInt k.bits (b:Int)).toNat)=(c:Int):=by
 rw[BitVec.toNat_or,UK.ofInt,UK.ofInt,<-u.hm,<-Nat.or_mod_two_pow,u.hm,h,UK.nat (a:=c) (c:=c)];rw[<-h,Nat.mod_mod]
end uk
theorem Mn{k:IntKind}{a c s:Nat}{q:Int}(hs:min q.toNat k.bits=s)(h:a/2^s=c):(a:Int).fdiv (2^(min q.toNat k.bits))=(c:Int):=by
 rw[hs,Int.fdiv_eq_ediv_of_nonneg _ (Int.le_of_lt (Int.pow_pos (by decide))),<-h,Int.natCast_ediv,Int.natCast_pow];rfl
theorem Z6{a b c:Nat}(h:Kl a b=some c):(a:Int).tmod (b:Int)=(c:Int):=by
 unfold Kl at h;split at h
 ·cases h
 rw[Int.tmod_eq_emod_of_nonneg (by omega),<-Option.some.inj h];rfl
theorem acj{a b c:Nat}(h:a%b=c):(a:Int).tmod (b:Int)=(c:Int):=by
 rw[Int.tmod_eq_emod_of_nonneg (by omega),<-h];rfl
theorem nzU{M a b c:Nat}(h:Mm M a b=some c):(b:Int)≠0:=by
 unfold Mm at h;split at h
 ·cases h
 omega
theorem nzR{a b c:Nat}(h:Kl a b=some c):(b:Int)≠0:=by
 unfold Kl at h;split at h
 ·cases h
 omega
theorem nzI{a b c:Int}(h:At a b=some c):b≠0:=by unfold At at h;split at h<;>simp_all
theorem aeO{a b c:Int}(h:Kk a b=some c):b≠0:=by unfold Kk at h;split at h<;>simp_all
theorem V0{a b c:Int}(h:At a b=some c):IntKind.i64.wrap (a.tdiv b)=c:=by
 unfold At at h;split at h
 ·cases h
 exact Option.some.inj h
theorem aeP{a b c:Int}(h:Kk a b=some c):a.tmod b=c:=by
 unfold Kk at h;split at h
 ·cases h
 exact Option.some.inj h
abbrev bh(x:Nat):List SV:=[.v (.int .u32 (x:Nat))]
abbrev bH(x:Int):List SV:=[.v (.int .i64 x)]
abbrev eB(x:Bool):List SV:=[.v (.bool x)]
abbrev eS{α:Type}(n:Nat)(e:α->List SV)(l:List α):List SV:=[slc n (l.map e)]
structure Zr where
 neg:Bool
 w:List Nat
structure Qr where
 num:Zr
 den:Zr
abbrev eZ(z:Zr):List SV:=[.v (.bool z.neg),slc 1 (z.w.map bh)]
abbrev eQ(q:Qr):List SV:=[.v (.bool q.num.neg),slc 1 (q.num.w.map bh),.v (.bool q.den.neg),slc 1 (q.den.w.map bh)]
class EL {α:Type} (e:α->List SV) (n:outParam Nat):Prop where
 len:∀x,(e x).length=n
 one:∀x,yB (e x)
instance:EL bh 1:=⟨λ_=>rfl,λ_=>inferInstance⟩
instance:EL bH 1:=⟨λ_=>rfl,λ_=>inferInstance⟩
instance{α:Type}{n:Nat}{e:α->List SV}:EL (eS n e) 1:=⟨λ_=>rfl,λ_=>inferInstance⟩
instance:EL eQ 4:=⟨λ_=>rfl,λ_=>inferInstance⟩
def N1{α:Type}(l k:List α):List α:=k.take l.length++l.drop k.length
structure Tb where
 made:Bool
 vars:Int
 GI:List (List Qr)
 basis:List Int
 rows:List (List Qr)
abbrev xk(x:Tb):List SV:=[.v (.bool x.made),.v (.int .i64 x.vars),slc 1 (x.GI.map (eS 4 eQ)),slc 1 (x.basis.map bH),slc 1 (x.rows.map (eS 4 eQ))]
structure Pv where
 row:Int
 col:Int
abbrev V1(x:Pv):List SV:=[.v (.int .i64 x.row),.v (.int .i64 x.col)]
instance:EL V1 2:=⟨λ_=>rfl,λ_=>inferInstance⟩
structure Lr where
 vars:Int
 GI:List (List Qr)
 rows:List (List Qr)
 bounds:List Qr
abbrev Ol(x:Lr):List SV:=[.v (.int .i64 x.vars),slc 1 (x.GI.map (eS 4 eQ)),slc 1 (x.rows.map (eS 4 eQ)),slc 4 (x.bounds.map eQ)]
structure Sz where
 vars:Int
 GI:Int
 rows:Int
 bounds:Int
abbrev eSz(x:Sz):List SV:=[.v (.int .i64 x.vars),.v (.int .i64 x.GI),.v (.int .i64 x.rows),.v (.int .i64 x.bounds)]
abbrev TR(E:TypeId)(sz:Nat){α:Type}(e:α->List SV)(l:List α):Row:=⟨E,sz,l.length,l.flatMap e⟩
theorem aC{α:Type}{n:Nat}{e:α->List SV}:SV.imp (.v (.slice none 0 0)) (slc n (([]:List α).map e)):=λ_ _ h=>.inl ⟨none,h,Y⟩
theorem yE{α:Type}(e:α->List SV)(l:List α):(l.map e).flatten=l.flatMap e:=by rw[List.flatMap_def]
theorem yF{α:Type}{e:α->List SV}{n:Nat}[h:EL e n](l:List α):Rows n (l.map e) (l.flatMap e):=⟨yE e l,λr hr=>by obtain⟨x,_,rfl⟩:=List.mem_map.1 hr;exact h.len x⟩
theorem Lg{M:Mem}:∀{l k:List SV} {vs:List Value},SV.fX M (l++k) vs->∃us ws,vs=us++ws/\SV.fX M l us/\SV.fX M k ws
 |[],_,vs,h=>⟨[],vs,Y,aq,h⟩
 |_::_,_,[],h=>h.elim
 |_::l,_,v::vs,h=>by
  obtain⟨us,ws,rfl,h1,h2⟩:=Lg (l:=l) h.2;exact⟨v::us,ws,Y,⟨h.1,h1⟩,h2⟩
theorem sD{α:Type}{e:α->List SV}{n:Nat}[h:EL e n](l:List α):∀M vs,SV.fX M (l.flatMap e) vs->∀v∈vs,v.oneCell'=true:=by
 intro M
 induction l with
 |nil=>intro vs hv;cases vs with|nil=>simp|cons _ _=>exact hv.elim
 |cons x l ih=>
  intro vs hv;rw[List.flatMap_cons]at hv;obtain⟨us,ws,rfl,h1,h2⟩:=Lg hv;intro v hv;rcases List.mem_append.1 hv with hv|hv
  ·exact(h.one x).h M us h1 v hv
  exact ih ws h2 v hv
theorem Om{α:Type}{e:α->List SV}{n:Nat}[h:EL e n]:∀{l:List α} {k:Nat} {a:α},l[k]? =some a->((l.flatMap e).drop (k*n)).take n=e a
 |[],_,_,hh=>by simp at hh
 |x::l,0,a,hh=>by
  simp only[List.getElem?_cons_zero,Option.some.injEq]at hh;subst hh;rw[List.flatMap_cons,Nat.zero_mul,List.drop_zero,<-h.len x,List.take_left'];rfl
 |x::l,k+1,a,hh=>by
  rw[List.getElem?_cons_succ]at hh;rw[List.flatMap_cons,show(k+1)*n=(e x).length+k*n by rw[h.len,Nat.add_mul];omega,<-List.drop_drop,List.drop_left']
  ·exact Om hh
  rfl
theorem On{α:Type}{e:α->List SV}{n:Nat}[h:EL e n]{y:α}:∀{l:List α} {k:Nat},k<l.length->r5 (l.flatMap e) (k*n) (e y)=(l.set k y).flatMap e:=by
 have amZ:∀(u:List SV) (a b:List SV) (j:Nat),j+u.length<=a.length->r5 (a++b) j u=r5 a j u++b:=by
  intro u
  induction u with
  |nil=>intro a b j _;rfl
  |cons s u ih=>
   intro a b j hj;simp only[List.length_cons]at hj;simp only[r5];rw[List.set_append_left _ _ (by omega),ih _ _ _ (by rw[List.length_set];omega)]
 have am0:∀(u:List SV) (a b:List SV) (j:Nat),r5 (a++b) (a.length+j) u=a++r5 b j u:=by
  intro u
  induction u with
  |nil=>intro a b j;rfl
  |cons s u ih=>
   intro a b j;simp only[r5];rw[List.set_append_right _ _ (by omega),show a.length+j-a.length=j by omega,show a.length+j+1=a.length+(j+1) by omega,ih]
 have am1:∀(u a:List SV),u.length=a.length->r5 a 0 u=u:=by
  have gen:∀(u a p:List SV),u.length=a.length->r5 (p++a) p.length u=p++u:=by
   intro u
   induction u with
   |nil=>intro a p ha;have:a=[]:=List.eq_nil_of_length_eq_zero ha.symm;subst this;rfl
   |cons s u ih=>
    intro a p ha;cases a with
    |nil=>cases ha
    |cons t a=>
     simp only[r5];rw[List.set_append_right _ _ (Nat.le_refl _),Nat.sub_self,List.set_cons_zero,show p++s::a=(p++[s])++a by simp,show p.length+1=(p++[s]).length by simp,ih a _ (by simpa using ha)];simp
  intro u a ha;exact gen u a [] ha
 intro l
 induction l with
 |nil=>intro k hk;simp at hk
 |cons x l ih=>
  intro k hk;cases k with
  |zero=>
   rw[List.set_cons_zero,List.flatMap_cons,List.flatMap_cons,Nat.zero_mul,amZ _ _ _ _ (by rw[h.len,h.len];omega),am1 _ _ (by rw[h.len,h.len])]
  |succ k=>
   simp only[List.length_cons]at hk;rw[List.set_cons_succ,List.flatMap_cons,List.flatMap_cons,show(k+1)*n=(e x).length+k*n by rw[h.len,Nat.add_mul];omega,am0,ih (by omega)]
end
section
open Go.RowKit
section steps
variable {P:Program}{C:Ctx}{ops:Array Oper}{S:AS}{nd:Bool}{K:List Ac->AS->Prop}{rest:List Oper}{acc:List Ac}
variable {gd:Option (Nat×Bool)}{rg:List Nat}{d:Nat}{ty:TypeId}{pos:String}{aft:Array Edge}{x y z:Operand}{T U E0:TypeId}
variable {α:Type}{l l' k:List α}{e:α->List SV}{n by_:Nat}{zv:Value}
theorem RT.am2(hg:Gd ops S gd rg){s X:SV}(hx:S.ev x=.sv s)(hi:SV.imp s X)(hd:d<S.n)
  (next:RunT P C ops nd K rest (⟨rg++bk x,[],[],⟨some (d,.sv X),[],[]⟩⟩::acc) (S.set d (.sv X))):RunT P C ops nd K (⟨some d,.assign x,ty,pos,aft,gd⟩::rest) acc S:=
 RT.value hg (bk x) [] [] (.sv X) hd (by intro c h;cases h) (λS' ht _ _ E a w h=>by
  have hx':S'.ev x=.sv s:=by rw[bR (λ_ h=>h) ht,hx]
  exact⟨a.eval x,Y,by have:=h.ev x;rw[hx']at this;exact hi _ _ this,ik⟩) next
theorem Ul{E:Env}:∀{l l':List SV} {vs:List Value},cg l l'->SV.fX E.M l vs->ei E (l'.map AV.sv) vs:=λhi h=>ei.DC (hi.holds h)
theorem Mo(M:Mem):∀l:List Value,SV.fX M (l.map SV.v) l
 |[]=>trivial
 |_::l=>⟨Y,Mo M l⟩
theorem RT.CT(hg:Gd ops S gd rg)[tz:mw P T zv]{cs:List SV}(hi:cg (zv.cells.toList.map SV.v) cs){av:List AV}(hav:cs.map AV.sv=av)(hd:d<S.n)(hb:S.b d=none)(hp:C.kU d=none)
  (next:RunT P C ops nd K rest (⟨rg++[],[d],[],⟨some (d,.ptr d 0),[(d,⟨T,av⟩)],[]⟩⟩::acc) ((S.oz d ⟨T,av⟩).set d (.ptr d 0))):RunT P C ops nd K (⟨some d,.alloc T,ty,pos,aft,gd⟩::rest) acc S:=by
 subst hav;exact RT.SE hg (by intro c h;cases h) [] hd hb hp (λS' _ E a w h=>⟨zv.cells.toList,by simp[execOp,Instr.alloc,newVar,newRow,tz.run],Ul hi (Mo _ _),λy hy=>by
  obtain⟨s,_,rfl⟩:=List.mem_map.1 hy;exact ik⟩) next
theorem RT.aeQ(hg:Gd ops S gd rg){pl:List (Nat×Nat)}{zc:List Value}[tP:lI P T pl zc]{parts:Array (Nat×Operand)}{qs:List (Nat×List SV)}(hp:ve S parts.toList qs){cs cs':List SV}(hf:Co (λi=>pl[i]?) (zc.map SV.v) qs=some cs)(hi:cg cs cs')(hd:d<S.n)
  (next:RunT P C ops nd K rest (⟨rg++qP parts.toList,[],[],⟨some (d,.sv (.agg cs')),[],[]⟩⟩::acc) (S.set d (.sv (.agg cs')))):RunT P C ops nd K (⟨some d,.build T parts,ty,pos,aft,gd⟩::rest) acc S:=by
 refine RT.value hg (qP parts.toList) [] [] (.sv (.agg cs')) hd (by intro c h;cases h) (λS' ht _ _ E a w h=>?_) next
 have hu:=tP.h;cases hT:P.underlying T with
 |none=>rw[hT]at hu;cases hu
 |some u=>
  rw[hT]at hu;cases u with
  |struct fs=>
   simp only at hu;have hz:(zeroValue T).run P w=.ok (.agg ⟨zc⟩) w:=mw.run (t:=⟨tP.hz⟩) w;obtain⟨us,h1,h2,_⟩:=H8 h (λi=>pl[i]?) hp ht (cells:=zc.map SV.v) (vs:=zc) (Mo _ zc) (List.all_eq_true.1 tP.o) hf;refine⟨.agg ⟨us⟩,?_,⟨us,Y,hi.holds h2⟩,ik⟩;have hm:(fs.mapM (λf=>do pure (f.offset,<-sizeOf f.type):Field->Sem (Nat×Nat))).run P w=.ok pl.toArray w:=by
    have:=AG (P:=P) (w:=w) hu;rw[<-Array.toArray_toList (xs:=fs),List.mapM_toArray];rw[Sem.run_map,this];rfl
   have h1':Instr.fill (λi=>pl.toArray[i]?) ⟨zc⟩ (parts.toList.map λp=>(p.1,a.eval p.2))=some ⟨us⟩:=by simpa using h1
   simp only[execOp,Instr.build,underlying];simp only[Sem.run_bind,hz,Result.andThen_ok,run_program,hT,Sem.run_pure,Value.cells];have hm':(Array.mapM (λf=>do
     let __do_lift<-sizeOf f.type
     pure (f.offset,__do_lift)) fs:Sem _).run P w=.ok pl.toArray w:=hm
   simp only[hm',Result.andThen_ok];have e4:(Array.map (λx=>match x with|(i,x)=>(i,a.eval x)) parts).toList=parts.toList.map λp=>(p.1,a.eval p.2):=by simp
   simp only[e4,h1',Sem.run_pure,Result.andThen_ok]
  |_=>cases hu
theorem Pure.w{f:FuncId}{args args':List SV}{r:SV}(h:Pure P f args r)(hi:cg args' args):Pure P f args' r:=λM w vs hM hv=>h M w vs hM (hi.holds hv)
theorem GF.w{f:FuncId}{args args':List SV}{R:Row}(h:GF P f args R)(hi:cg args' args):GF P f args' R:=λM w vs hM hv=>h M w vs hM (hi.holds hv)
theorem RT.ai2(hg:Gd ops S gd rg){m:Nat}[tS:gG P T E0 m]{c:Int}(hx:S.ev x=.sv (slc n (l.map e)))(hd:d<S.n)(hc:(l.length:Int)=c)
  (next:RunT P C ops nd K rest (⟨rg++bk x,[],[],⟨some (d,.sv (.v (.int .i64 c))),[],[]⟩⟩::acc) (S.set d (.sv (.v (.int .i64 c))))):RunT P C ops nd K (⟨some d,.call ⟨.builtin .len,#[x],#[T]⟩,ty,pos,aft,gd⟩::rest) acc S:=
 RT.len hg hx hd (by rw[List.length_map,hc];exact next)
theorem RT.ack(hg:Gd ops S gd rg){m:Nat}[tS:gG P T E0 m]{i:Nat}{E1:TypeId}{c:Int}(hx:S.ev x=.row i)(hR:S.r i=.live (TR E1 n e l))(hd:d<S.n)(hc:(l.length:Int)=c)
  (next:RunT P C ops nd K rest (⟨rg++bk x,[],[i],⟨some (d,.sv (.v (.int .i64 c))),[],[]⟩⟩::acc) (S.set d (.sv (.v (.int .i64 c))))):RunT P C ops nd K (⟨some d,.call ⟨.builtin .len,#[x],#[T]⟩,ty,pos,aft,gd⟩::rest) acc S:=
 RT.amy hg hx hR hd (by show RunT _ _ _ _ _ _ (⟨_,_,_,⟨some (d,.sv (.v (.int .i64 (l.length:Int)))),_,_⟩⟩::_) (S.set d (.sv (.v (.int .i64 (l.length:Int)))));rw[hc];exact next)
theorem RT.Z7(hg:Gd ops S gd rg)[tS:gG P T E0 n]{kk:IntKind}{i:Int}{a:α}(hx:S.ev x=.sv (slc n (l.map e)))(hy:S.ev y=.sv (.v (.int kk i)))(hd:d<S.n)(ha:cM l i=some a)
  (next:RunT P C ops nd K rest (⟨rg++(bk x++bk y),[],[],⟨some (d,.sv (ref (e a))),[],[]⟩⟩::acc) (S.set d (.sv (ref (e a))))):RunT P C ops nd K (⟨some d,.indexAddr T x y,ty,pos,aft,gd⟩::rest) acc S:=
 RT.indexAddr hg (e a) hx hy hd (yD ha).1 (by rw[List.getElem?_map,(yD ha).2];rfl) next
theorem RT.Il(hg:Gd ops S gd rg)[tS:gG P T E0 n]{lo hi:Option Operand}(a b:Int)(hx:S.ev x=.sv (slc n (l.map e)))(hlo:H9 S 0 lo a)(hhi:H9 S l.length hi b)(hd:d<S.n)(h:GH l a b=some l')
  (next:RunT P C ops nd K rest (⟨rg++(bk x++(vf lo++vf hi)),[],[],⟨some (d,.sv (slc n (l'.map e))),[],[]⟩⟩::acc) (S.set d (.sv (slc n (l'.map e))))):RunT P C ops nd K (⟨some d,.slice T x lo hi none,ty,pos,aft,gd⟩::rest) acc S:=by
 obtain⟨h0,h1,h2,h3⟩:=Le h;exact RT.slice hg hx a b hlo (by rw[List.length_map];exact hhi) hd h0 h1 (by rw[List.length_map];exact h2) _ (by rw[SJ,h3]) next
theorem RT.jl(hg:Gd ops S gd rg)[tS:gG P T E0 n][tE:nE P E0 n by_ zv]{len:Nat}{parts:Array (Nat×Operand)}{qs:List (Nat×List SV)}(hp:ve S parts.toList qs)(hd:d<S.n)
  (hc:ya 0 qs=true) (hl:qs.length=len) (hsz:(qs.all λq=>Nat.beq q.2.length n)=true) (hlen:Nat.ble (len*n) 16777216=true) (Ui:(zv.cells.toList.all λv=>v.oneCell')=true) (nK:qs.map (·.2)=l.map e)
  (next:RunT P C ops nd K rest (⟨rg++qP parts.toList,[],[],⟨some (d,.sv (slc n (l.map e))),[],[]⟩⟩::acc) (S.set d (.sv (slc n (l.map e))))):RunT P C ops nd K (⟨some d,.buildSlice T len parts,ty,pos,aft,gd⟩::rest) acc S:=
 RT.buildSlice hg hp hd hc hl hsz (af hlen) (List.all_eq_true.1 Ui) nK next
theorem RT.Mp(hg:Gd ops S gd rg)[tS:gG P T E0 n][tE:nE P E0 n by_ zv]{len:Nat}{parts:Array (Nat×Operand)}{qs:List (Nat×List SV)}(hp:ve S parts.toList qs)(hd:d<S.n)(sY:S.r d=.un)(BP:d<1000)
  (hc:ya 0 qs=true) (hl:qs.length=len) (hsz:(qs.all λq=>Nat.beq q.2.length n)=true) (hlen:Nat.ble (len*n) 16777216=true) (Ui:(zv.cells.toList.all λv=>v.oneCell')=true) (nK:qs.map (·.2)=l.map e)
  (next:RunT P C ops nd K rest (⟨rg++qP parts.toList,[],[d],⟨some (d,.row d),[],[(d,.live (TR E0 n e l))]⟩⟩::acc) ((AS.cL [(d,.live (TR E0 n e l))] S).set d (.row d))):RunT P C ops nd K (⟨some d,.buildSlice T len parts,ty,pos,aft,gd⟩::rest) acc S:=by
 refine RT.Oe hg hp hd sY BP hc hl hsz (af hlen) (List.all_eq_true.1 Ui) (cells:=l.flatMap e) (by rw[nK,yE]) ?_;have:len=l.length:=by have h0:=congrArg List.length nK;simpa[hl]using h0
 rw[this];exact next
theorem RT.apN(hg:Gd ops S gd rg)[tS:gG P T E0 n][tE:nE P E0 n by_ zv](hx:S.ev x=.sv (.v (.slice none 0 0)))(hy:S.ev y=.sv (slc n (k.map e)))(hd:d<S.n)(sY:S.r d=.un)(BP:d<1000)(h:mQ by_ [] k=some l')
  (next:RunT P C ops nd K rest (⟨rg++(bk x++bk y),[],[d],⟨some (d,.row d),[],[(d,.live (TR E0 n e l'))]⟩⟩::acc) ((AS.cL [(d,.live (TR E0 n e l'))] S).set d (.row d))):RunT P C ops nd K (⟨some d,.call ⟨.builtin .append,#[x,y],#[T,T]⟩,ty,pos,aft,gd⟩::rest) acc S:=by
 obtain⟨h1,h2,rfl⟩:=AH h;exact RT.ZU hg hx hy hd sY BP (by simpa using h1) (by simpa using h2) _ (by simp[yE]) next
theorem RT.apR(hg:Gd ops S gd rg)[tS:gG P T E0 n][tE:nE P E0 n by_ zv]{i:Nat}(hx:S.ev x=.row i)(hR:S.r i=.live (TR E0 n e l))(hy:S.ev y=.sv (slc n (k.map e)))(hd:d<S.n)(sY:S.r d=.un)(BP:d<1000)(h:mQ by_ l k=some l')
  (next:RunT P C ops nd K rest (⟨rg++(bk x++bk y),[],[i,d],⟨some (d,.row d),[],[(i,.dead),(d,.live (TR E0 n e l'))]⟩⟩::acc) ((AS.cL [(i,.dead),(d,.live (TR E0 n e l'))] S).set d (.row d))):RunT P C ops nd K (⟨some d,.call ⟨.builtin .append,#[x,y],#[T,T]⟩,ty,pos,aft,gd⟩::rest) acc S:=by
 obtain⟨h1,h2,rfl⟩:=AH h;exact RT.ZV hg hx hR hy hd sY BP (by simpa using h1) (by simpa using h2) _ (by simp[yE]) next
theorem RT.Z8(hg:Gd ops S gd rg)[tS:gG P T E0 n][tE:nE P E0 n by_ zv][el:EL e n]{i:Nat}(hx:S.ev x=.row i)(hR:S.r i=.live (TR E0 n e l))(hy:S.ev y=.sv (slc n (k.map e)))(hd:d<S.n)(sY:S.r d=.un)(BP:d<1000)(h:mQ by_ l k=some l')
  (next:RunT P C ops nd K rest (⟨rg++(bk x++bk y),[],[d,i],⟨some (d,.sv (slc n (l'.map e))),[],[(i,.dead),(d,.dead)]⟩⟩::acc) ((AS.cL [(i,.dead),(d,.dead)] S).set d (.sv (slc n (l'.map e))))):RunT P C ops nd K (⟨some d,.call ⟨.builtin .append,#[x,y],#[T,T]⟩,ty,pos,aft,gd⟩::rest) acc S:=by
 obtain⟨h1,h2,rfl⟩:=AH h;have hf:l.flatMap e++(k.map e).flatten=(l++k).flatMap e:=by simp[yE]
 exact RT.SO hg (.row hx hR) hy hd sY BP (by simpa using h1) (by simpa using h2) _ (rows':=(l++k).map e) (λ_ _ h _=>h) (by rw[hf];exact yF _) (by simp) (by rw[hf];exact sD _) next
theorem Lh(zc:Array Value)(n:Nat)(hz:zc.size=n)(hn:0<n):∀m:Nat,(madeCells zc (m*n)).toList=(List.replicate m zc.toList).flatten
 |0=>by simp[madeCells]
 |m+1=>by
  have ih:=Lh zc n hz hn m;rw[List.replicate_succ',List.flatten_append,<-ih];simp only[madeCells,Array.toList_map,Array.toList_range,List.flatten_cons,List.flatten_nil,List.append_nil];rw[show(m+1)*n=m*n+n by rw[Nat.add_mul];omega,List.range_add,List.map_append,List.map_map];congr 1;apply List.ext_getElem?;intro i;rw[List.getElem?_map];rcases Nat.lt_or_ge i n with hi|hi
  ·rw[List.getElem?_range hi];simp only[Option.map_some,Function.comp];rw[hz,Nat.mul_comm m n,Nat.mul_add_mod,Nat.mod_eq_of_lt hi];rw[getElem!_pos zc i (by omega),Array.getElem?_toList,Array.getElem?_eq_getElem (by omega)]
  rw[List.getElem?_eq_none (by simpa using hi),List.getElem?_eq_none (by simp;omega)];rfl
theorem Oo:∀{a b c d:List SV},cg a c->cg b d->cg (a++b) (c++d)
 |[],_,[],_,_,h=>h
 |_::_,_,_::_,_,h,h'=>⟨h.1,Oo h.2 h'⟩
 |[],_,_::_,_,h,_=>h.elim
 |_::_,_,[],_,h,_=>h.elim
theorem Oq{zl:List Value}{zz:α}(hi:cg (zl.map SV.v) (e zz)):∀m:Nat,cg ((List.replicate m zl).flatten.map SV.v) ((List.replicate m zz).flatMap e)
 |0=>trivial
 |m+1=>by
  rw[List.replicate_succ,List.replicate_succ,List.flatten_cons,List.map_append,List.flatMap_cons];exact Oo hi (Oq hi m)
theorem RT.vW(hg:Gd ops S gd rg)[tS:gG P T E0 n][tE:nE P E0 n by_ zv]{kl kc:IntKind}{c:Int}{zz:α}(hx:S.ev x=.sv (.v (.int kl c)))(hy:S.ev y=.sv (.v (.int kc c)))(hd:d<S.n)(sY:S.r d=.un)(BP:d<1000)(hz:zv.cells.size=n)(hn:0<n)(hi:cg (zv.cells.toList.map SV.v) (e zz))(hm:J9 by_ c zz=some l')
  (next:RunT P C ops nd K rest (⟨rg++(bk x++bk y),[],[d],⟨some (d,.row d),[],[(d,.live (TR E0 n e l'))]⟩⟩::acc) ((AS.cL [(d,.live (TR E0 n e l'))] S).set d (.row d))):RunT P C ops nd K (⟨some d,.makeSlice T x y,ty,pos,aft,gd⟩::rest) acc S:=by
 obtain⟨h0,hroom,xZ,rfl⟩:=VW hm;refine .inl ⟨_,[],[d],_,?_,next⟩;rintro S' hn' ht _ hr i a w L Q ho ⟨E,h⟩ hL;refine dw (C:=C) ho (hg.wanted h (λs hs=>ht s (List.mem_append_left _ hs)) Y) ?_;have h1:a.eval x=.int kl c:=by have h1:=h.ev x;rw[bR (λ_ h=>List.mem_append_right _ (List.mem_append_left _ h)) ht,hx]at h1;exact h1
 have h2:a.eval y=.int kc c:=by have h2:=h.ev y;rw[bR (λ_ h=>List.mem_append_right _ (List.mem_append_right _ h)) ht,hy]at h2;exact h2
 obtain⟨info,hii,hsz,hby,hzz⟩:=nE.info (P:=P) (E:=E0) (n:=n) (by_:=by_) (z:=zv);obtain⟨m,rfl⟩:=Int.eq_ofNat_of_zero_le h0;have hb':info.bytes*m<=281474976710656:=by
  rw[hby];have:((by_*m:Nat):Int)<=281474976710656:=by rw[Int.natCast_mul];exact hroom
  omega
 obtain⟨w',q1,q2,q3⟩:=run_make_full (P:=P) w 0 T E0 info zv n tS.u hii hzz hsz kl kc m hb' (by unfold maxLen;omega) (Nat.zero_le _);have hr':(execOp a.eval ⟨some d,.makeSlice T x y,ty,pos,aft,gd⟩).run P w=.ok (.value (.slice (some ⟨w.heap.size,0,none⟩) m m)) w':=by
  simp only[execOp,h1,h2];simp[q1]
 have Uh:S'.r d=.un:=by rw[hr d (by simp)];exact sY
 have e0:(m:Int).toNat=m:=by simp
 have hall:SV.fX E.M ((List.replicate m zz).flatMap e) (madeCells zv.cells (m*n)).toList:=by
  rw[Lh zv.cells n hz hn];exact cg.holds (l:=((List.replicate m zv.cells.toList).flatten.map SV.v)) (Oq hi m) (Mo _ _)
 have hlen:(List.replicate (m:Int).toNat zz).length=m:=by simp
 refine dm (C:=C) (by intro c h;cases h) hr' (hL _ _ ⟨_,(h.newRow Uh BP [] none (.inl ⟨rfl,rfl⟩) (R':=TR E0 n e (List.replicate (m:Int).toNat zz)) (by show w'.ownsRow 0 E0 n _ (List.replicate (m:Int).toNat zz).length _;rw[hlen];exact q2) (by rw[e0];exact hall) (.inr (.inl rfl)) q3).put (d:=d) (x:=.row d) (v:=.slice (some ⟨w.heap.size,0,none⟩) m m) (by simp[AV.holds]) (by show d<S'.n;omega) ⟨λ_ e=>e.elim,λj e=>?_⟩⟩);cases e;show(AS.xX S' d _).r d≠_;rw[AS.lG];simp
theorem RT.Li(hg:Gd ops S gd rg)[tS:gG P T E0 n][tE:nE P E0 n by_ zv]{kl kc:IntKind}{c:Int}(hx:S.ev x=.sv (.v (.int kl 0)))(hy:S.ev y=.sv (.v (.int kc c)))(hd:d<S.n)(sY:S.r d=.un)(BP:d<1000)(h:VU (α:=α) by_ c=some l')
  (next:RunT P C ops nd K rest (⟨rg++(bk x++bk y),[],[d],⟨some (d,.row d),[],[(d,.live (TR E0 n e l'))]⟩⟩::acc) ((AS.cL [(d,.live (TR E0 n e l'))] S).set d (.row d))):RunT P C ops nd K (⟨some d,.makeSlice T x y,ty,pos,aft,gd⟩::rest) acc S:=by
 obtain⟨h0,h1,h2,rfl⟩:=VX h;exact RT.aiD hg hx hy hd sY BP h0 h1 h2 next
theorem RT.ai3(hg:Gd ops S gd rg)[tS:gG P T E0 n]{i j:Nat}{E1:TypeId}{kk:IntKind}{v:Int}(hx:S.ev x=.row i)(hR:S.r i=.live (TR E1 n e l))(hy:S.ev y=.sv (.v (.int kk v)))(hd:d<S.n)(h:qg l v=some j)
  (next:RunT P C ops nd K rest (⟨rg++(bk x++bk y),[],[i],⟨some (d,.nm i (j*n)),[],[]⟩⟩::acc) (S.set d (.nm i (j*n)))):RunT P C ops nd K (⟨some d,.indexAddr T x y,ty,pos,aft,gd⟩::rest) acc S:=by
 obtain⟨h0,h1,h2⟩:=VV h;exact RT.ixR hg (.row hx hR) hy hd h0 h1 (j*n) (by rw[h2];omega) next
theorem RT.aeR(hg:Gd ops S gd rg)[tV:zm P T][el:EL e 1]{i j:Nat}{E1:TypeId}{a:α}{s:SV}(hx:S.ev x=.nm i (j*1))(hR:S.r i=.live (TR E1 1 e l))(ha:l[j]? =some a)(hs:e a=[s])(hd:d<S.n)
  (next:RunT P C ops nd K rest (⟨rg++bk x,[],[i],⟨some (d,.sv s),[],[]⟩⟩::acc) (S.set d (.sv s))):RunT P C ops nd K (⟨some d,.load T x,ty,pos,aft,gd⟩::rest) acc S:=by
 refine RT.ldR hg hx hR (s:=s) ?_ hd next
 have:=Om (e:=e) ha;rw[hs]at this;have h2:=congrArg (·[0]?) this;simpa[List.getElem?_take]using h2
theorem Z9(a:List SV)(k:Nat)(s:SV):a.set k s=r5 a k [s]:=rfl
theorem RT.am4(hg:Gd ops S gd rg)[tV:zm P T][el:EL e 1]{i j:Nat}{E1:TypeId}{s:SV}[o1:One s](a:α)(hs:e a=[s])(hx:S.ev x=.nm i (j*1))(hR:S.r i=.live (TR E1 1 e l))(hy:S.ev y=.sv s)(h:stM l j a=some l')
  (next:RunT P C ops nd K rest (⟨rg++(bk x++bk y),[],[i],⟨none,[],[(i,.live (TR E1 1 e l'))]⟩⟩::acc) (AS.cL [(i,.live (TR E1 1 e l'))] S)):RunT P C ops nd K (⟨none,.store T x y,ty,pos,aft,gd⟩::rest) acc S:=by
 obtain⟨h1,rfl⟩:=Oi h;refine RT.stR hg hx hR hy (by show j*1+1<=l.length*1;omega) ((l.set j a).flatMap e) (by rw[Z9,<-hs];exact On h1) ?_;have:(TR E1 1 e (l.set j a))=⟨E1,1,l.length,(l.set j a).flatMap e⟩:=by show Row.mk _ _ _ _=_;rw[List.length_set]
 rw[<-this];exact next
theorem RT.ai4(hg:Gd ops S gd rg)[tA:GC P T n][el:EL e n]{i j:Nat}{E1:TypeId}(a:α)(hx:S.ev x=.nm i (j*n))(hR:S.r i=.live (TR E1 n e l))(hy:S.ev y=.sv (.agg (e a)))(h:stM l j a=some l')
  (next:RunT P C ops nd K rest (⟨rg++(bk x++bk y),[],[i],⟨none,[],[(i,.live (TR E1 n e l'))]⟩⟩::acc) (AS.cL [(i,.live (TR E1 n e l'))] S)):RunT P C ops nd K (⟨none,.store T x y,ty,pos,aft,gd⟩::rest) acc S:=by
 obtain⟨h1,rfl⟩:=Oi h;have o1:=el.one a;refine RT.amF hg hx hR hy (el.len a) (by show j*n+n<=l.length*n;have:=Nat.mul_le_mul_right n h1;rw[Nat.succ_mul]at this;exact this) ((l.set j a).flatMap e) (On h1) ?_;have:(TR E1 n e (l.set j a))=⟨E1,n,l.length,(l.set j a).flatMap e⟩:=by show Row.mk _ _ _ _=_;rw[List.length_set]
 rw[<-this];exact next
end steps
theorem cP{S:AS}{i n:Nat}{E1:TypeId}{α:Type}{e:α->List SV}{l:List α}[el:EL e n](hR:S.r i=.live (TR E1 n e l)):AB S (S.vc i (slc n (l.map e))):=by
 rintro C a w ⟨E,h⟩;have hlen:l.length<=9223372036854775807:=by
  obtain⟨⟨vs,ho,hv⟩,_⟩:=h.rx i _ hR;rcases ho.2 with⟨_,q2⟩|⟨g',cap,cur,q1,_,q2,q3,q4,q5,q6⟩
  ·have q2:l.length=0:=q2;omega
  have q3:l.length<=cap:=q3;have:maxLen=9223372036854775807:=by decide
  omega
 exact h.vc hR (yF l) (by rw[List.length_map]) hlen (sD l) (λ_ _ h _=>h)
section control
variable {P:Program}{C:Ctx}{S:AS}{Q:Exit->AS->Prop}
theorem bL{A:Code}{J R:Type}{kB:J->Option R}{fA:(J->Option R)->Option R}{r:R}(h:cJ kB fA=some r)(I:J->AS)
  (hA:fA kB=some r->Ok P C A S (aW (λS'=>∃j,kB j=some r/\AB S' (I j)) Q)) (hQ:∀j,kB j=some r->Q .normal (I j)):Ok P C A S Q:=λa w hs=>by
 refine wpIn_mono (hA h a w hs) ?_;rintro e a' w' ⟨S',q,hh⟩;cases e with
 |normal=>obtain⟨j,h1,h2⟩:=q;exact⟨_,hQ j h1,h2 C a' w' hh⟩
 |_=>exact⟨S',q,hh⟩
theorem bJ{A:Code}{X:Type}(I:X->AS)(p:X->Prop)(hA:Ok P C A S (aW (λS'=>∃j,p j/\AB S' (I j)) Q))(hQ:∀j,p j->Q .normal (I j)):Ok P C A S Q:=λa w hs=>by
 refine wpIn_mono (hA a w hs) ?_;rintro e a' w' ⟨S',q,hh⟩;cases e with
 |normal=>obtain⟨j,h1,h2⟩:=q;exact⟨_,hQ j h1,h2 C a' w' hh⟩
 |_=>exact⟨S',q,hh⟩
theorem bK{c:Code}{T E:Type}{body:T->Option (T⊕E)}{s0:T}{e:E}(h:b9 body s0=some e)(I:T->AS)(h0:AB S (I s0))
  (round:∀(s:T) (y:T⊕E) (G:T->Prop),body s=some y->(∀s',y=.inl s'->G s')->(∀e',y=.inr e'->e'=e)->Ok P C c (I s) (aW (λS'=>∃s',G s'/\AB S' (I s')) Q)):Ok P C (.loop c) S Q:=by
 obtain⟨n,hn⟩:=CR h;refine Hi (ι:={x:T×Nat//vg body x.2 x.1=some e}) (λx=>I x.1.1) (λx=>x.1.2) ⟨(s0,n),hn⟩ h0 ?_;rintro⟨⟨s,m⟩,hm⟩;cases m with
 |zero=>cases hm
 |succ m=>
  cases hb:body s with
  |none=>simp only[vg,hb]at hm;cases hm
  |some y=>
   refine Md (round s y (λs'=>vg body m s'=some e) hb ?_ ?_) ?_
   ·rintro s' rfl;simpa only[vg,hb]using hm
   ·rintro e' rfl;simp only[vg,hb]at hm;exact Option.some.inj hm
   intro ex S' q;cases ex with
   |normal=>obtain⟨s',h1,h2⟩:=q;exact⟨⟨(s',m),h1⟩,Nat.lt_succ_self m,h2⟩
   |_=>exact q
end control
end
section
open Go.RowKit
abbrev Zy:=List UInt8
def bs(l:Zy):ByteArray:=⟨⟨l⟩⟩
def Cr(l:Zy)(i:Int):Option Nat:=(cM l i).map UInt8.toNat
theorem aaa(l:Zy):(bs l).size=l.length:=rfl
theorem aeS(l:Zy)(i:Nat):(bs l)[i]? =l[i]? :=by
 rcases Nat.lt_or_ge i l.length with h|h
 ·rw[getElem?_pos (bs l) i h,List.getElem?_eq_getElem h];rfl
 rw[getElem?_neg (bs l) i (by rw[aaa];omega),List.getElem?_eq_none h]
section steps
variable {P:Program}{C:Ctx}{ops:Array Oper}{S:AS}{nd:Bool}{K:List Ac->AS->Prop}{rest:List Oper}{acc:List Ac}
variable {gd:Option (Nat×Bool)}{rg:List Nat}{d:Nat}{ty:TypeId}{pos:String}{aft:Array Edge}{x y z:Operand}{T U E0:TypeId}
variable {l l' k:Zy}
theorem RT.skV{op:Op}{j g:Nat}{b want:Bool}(h1:(ops[j]?).bind (·.dst)=some g)(h2:S.t g=.sv (.v (.bool b)))(hb:b≠want)(hd:d<S.n)
  (next:RunT P C ops nd K rest (⟨[g],[],[],⟨some (d,.sv (.v undef)),[],[]⟩⟩::acc) (S.set d (.sv (.v undef)))):RunT P C ops nd K (⟨some d,op,ty,pos,aft,some (j,want)⟩::rest) acc S:=by
 refine .inl ⟨[g],[],[],⟨some (d,.sv (.v undef)),[],[]⟩,?_,next⟩;rintro S' hn ht _ _ i a w L Q ho ⟨E,h⟩ hL;have hv:=h.tm g;rw[ht g (by simp),h2]at hv;have hv:a.tmps.getD g undef=.bool b:=hv;have N0:a.tmps[g]? =some (.bool b):=by
  rw[Array.getD_eq_getD_getElem?]at hv;cases e:a.tmps[g]? with
  |none=>rw[e]at hv;simp[undef]at hv
  |some x=>rw[e]at hv;simp at hv;rw[hv]
 have hw:Region.wanted ⟨some d,op,ty,pos,aft,some (j,want)⟩ (yielded ops a.tmps)=false:=by
  simp[Region.wanted,yielded,h1,N0,hb]
 simp only[wpOpIn,ho,hw];exact⟨λ_ _=>trivial,hL _ _ ⟨E,h.put (x:=.sv (.v undef)) (v:=undef) Y (by omega) ⟨λ_ h=>h.elim,λ_ h=>h.elim⟩⟩⟩
theorem RT.ai5{op:Op}{j g:Nat}{want:Bool}(h1:(ops[j]?).bind (·.dst)=some g)(h2:S.t g=.sv (.v undef))(hd:d<S.n)
  (next:RunT P C ops nd K rest (⟨[g],[],[],⟨some (d,.sv (.v undef)),[],[]⟩⟩::acc) (S.set d (.sv (.v undef)))):RunT P C ops nd K (⟨some d,op,ty,pos,aft,some (j,want)⟩::rest) acc S:=by
 refine .inl ⟨[g],[],[],⟨some (d,.sv (.v undef)),[],[]⟩,?_,next⟩;rintro S' hn ht _ _ i a w L Q ho ⟨E,h⟩ hL;have hv:=h.tm g;rw[ht g (by simp),h2]at hv;have hv:a.tmps.getD g undef=undef:=hv;rw[Array.getD_eq_getD_getElem?]at hv;have hw:Region.wanted ⟨some d,op,ty,pos,aft,some (j,want)⟩ (yielded ops a.tmps)=false:=by
  cases e:a.tmps[g]? with
  |none=>simp[Region.wanted,yielded,h1,e]
  |some x=>
   rw[e]at hv;simp only[Option.getD_some]at hv;subst hv;simp[Region.wanted,yielded,h1,e,undef]
 simp only[wpOpIn,ho,hw];exact⟨λ_ _=>trivial,hL _ _ ⟨E,h.put (x:=.sv (.v undef)) (v:=undef) Y (by omega) ⟨λ_ h=>h.elim,λ_ h=>h.elim⟩⟩⟩
theorem RT.six(hg:Gd ops S gd rg)[tS:ab4 P T]{kk:IntKind}{i:Int}{c:Nat}(hx:S.ev x=.sv (.v (.string (bs l))))(hy:S.ev y=.sv (.v (.int kk i)))(hd:d<S.n)(h:Cr l i=some c)
  (next:RunT P C ops nd K rest (⟨rg++(bk x++bk y),[],[],⟨some (d,.sv (.v (.int .u8 (c:Nat)))),[],[]⟩⟩::acc) (S.set d (.sv (.v (.int .u8 (c:Nat)))))):RunT P C ops nd K (⟨some d,.index T x y,ty,pos,aft,gd⟩::rest) acc S:=
 RT.N4 hg (by intro c h;cases h) hx hy hd (λρ w h1 h2=>by
  unfold Cr at h;cases hh:cM l i with
  |none=>rw[hh]at h;cases h
  |some b=>
   rw[hh]at h;obtain⟨q1,q2⟩:=yD hh;have q3:b.toNat=c:=Option.some.inj h;have q4:(bs l)[i.toNat]? =some b:=by rw[aeS];exact q2
   simp[execOp,h1,h2,Instr.index,asIntOf,underlying,tS.h,q1,q4,q3]) next
end steps
section rows
variable {P:Program}{C:Ctx}{ops:Array Oper}{S:AS}{nd:Bool}{K:List Ac->AS->Prop}{rest:List Oper}{acc:List Ac}
variable {gd:Option (Nat×Bool)}{rg:List Nat}{d:Nat}{ty:TypeId}{pos:String}{aft:Array Edge}{x y z:Operand}{T U E0:TypeId}
variable {α:Type}{l l' k:List α}{e:α->List SV}{n by_:Nat}{zv:Value}
end rows
end
section
open Go.RowKit
def Cs{α:Type}(l l':List α):Option Unit:=if l'.length=l.length then some ()else none
theorem sE{α:Type}{l l':List α}{u:Unit}(h:Cs l l'=some u):l'.length=l.length:=by
 unfold Cs at h;split at h
 ·assumption
 cases h
def ckS{α:Type}(l:List α)(lo hi:Int):Option (Nat×Nat):=if 0<=lo/\lo<l.length/\lo<=hi/\hi<=l.length then some (lo.toNat,(hi-lo).toNat)else none
theorem V3{α:Type}{l:List α}{lo hi:Int}{o n:Nat}(h:ckS l lo hi=some (o,n)):0<=lo/\lo<l.length/\lo<=hi/\hi<=l.length/\lo.toNat=o/\(hi-lo).toNat=n:=by
 unfold ckS at h;split at h
 ·rename_i hh;obtain⟨q1,q2⟩:=Prod.mk.inj (Option.some.inj h);exact⟨hh.1,hh.2.1,hh.2.2.1,hh.2.2.2,q1,q2⟩
 cases h
def Zz(o n:Nat)(i:Int):Option Nat:=if 0<=i/\i<n then some (o+i.toNat)else none
theorem V4{o n j:Nat}{i:Int}(h:Zz o n i=some j):0<=i/\i<n/\o+i.toNat=j:=by
 unfold Zz at h;split at h
 ·rename_i hh;exact⟨hh.1,hh.2,Option.some.inj h⟩
 cases h
theorem cg.get:∀{l l':List SV} {k:Nat} {s':SV},cg l l'->l'[k]? =some s'->∃s,l[k]? =some s/\SV.imp s s'
 |x::_,y::_,0,_,h,e=>⟨x,Y,by simp at e;subst e;exact h.1⟩
 |_::l,_::l',k+1,_,h,e=>by simpa using cg.get (l:=l) (l':=l') h.2 (by simpa using e)
 |[],[],_,_,_,e=>by simp at e
 |[],_::_,_,_,h,_=>h.elim
 |_::_,[],_,_,h,_=>h.elim
theorem cg.len:∀{l l':List SV},cg l l'->l'.length=l.length
 |[],[],_=>rfl
 |_::_,_::_,h=>congrArg (· +1) (cg.len h.2)
 |[],_::_,h=>h.elim
 |_::_,[],h=>h.elim
theorem aab{α:Type}{e:α->List SV}{l:List α}{n:Nat}{M:Mem}{v:Value}(h:(slc n (l.map e)).h M v):l.length<=9223372036854775807:=by
 rcases h with⟨_,_,h⟩|⟨b,o,c,_,_,h,_⟩
 ·have:l=[]:=by simpa using h
  subst this;simp
 rwa[List.length_map]at h
theorem Hq{α:Type}{e:α->List SV}{l:List α}{n:Nat}{M:Mem}{v:Value}(h:(ref [slc n (l.map e)]).h M v):l.length<=9223372036854775807:=by
 obtain⟨b,o,_,h⟩:=h;obtain⟨y,_,_,h⟩:=h 0 _ Y;exact aab h
theorem CU{l:List Nat}{i:Nat}(h:l.length<=i):l.getD i 0=0:=by simp[List.getD,List.getElem?_eq_none h]
theorem AI{l:List Nat}{i:Nat}(h:i<l.length):l[i]? =some (l.getD i 0):=by simp[List.getD,h]
theorem kq{α:Type}{l:List α}{d:α}{i:Nat}(h:l.length<=i):l.getD i d=d:=by simp[List.getD,List.getElem?_eq_none h]
theorem gW{α:Type}{l:List α}{d:α}{i:Nat}(h:i<l.length):l[i]? =some (l.getD i d):=by simp[List.getD,h]
theorem Im{α β:Type}(a:List α)(b:List β)(i:Nat)(h:i<=max a.length b.length):(i<max a.length b.length/\i<a.length/\i<b.length)\/(i<max a.length b.length/\i<a.length/\b.length<=i)\/(i<max a.length b.length/\a.length<=i/\i<b.length)\/i=max a.length b.length:=by omega
section steps
variable {P:Program}{C:Ctx}{ops:Array Oper}{S:AS}{nd:Bool}{K:List Ac->AS->Prop}{rest:List Oper}{acc:List Ac}
variable {gd:Option (Nat×Bool)}{rg:List Nat}{d:Nat}{ty:TypeId}{pos:String}{aft:Array Edge}{x y z:Operand}{T U E0:TypeId}
variable {α:Type}{l l' k:List α}{e:α->List SV}{n by_:Nat}{zv:Value}
theorem aeU{E1:TypeId}(h:l'.length=l.length):(⟨E1,n,l.length,l'.flatMap e⟩:Row)=TR E1 n e l':=by show _=Row.mk _ _ _ _;rw[h]
theorem RT.aeV(hg:Gd ops S gd rg){f:FuncId}[cZ P f]{g:Operand}{xs:Array Operand}{at_:Array TypeId}{args:List AV}{E1:TypeId}{res:AV}(hp:QO P f args (TR E1 n e l) res (l'.flatMap e))(hlen:l'.length=l.length)(i:Nat)(hR:S.r i=.live (TR E1 n e l))(hrow:args.all AV.E6=true)(hres:res.E6=true)
  (hf:S.ev g=.sv (.v (.func (.func f) #[] #[]))) (hargs:CM S xs.toList (args.map (AV.F9 i))) (hd:d<S.n)
  (next:RunT P C ops nd K rest (⟨rg++(bk g++xs.toList.flatMap bk),[],[i],⟨some (d,res.F9 i),[],[(i,.live (TR E1 n e l'))]⟩⟩::acc) ((AS.cL [(i,.live (TR E1 n e l'))] S).set d (res.F9 i))):RunT P C ops nd K (⟨some d,.call ⟨.value g,xs,at_⟩,ty,pos,aft,gd⟩::rest) acc S:=
 RT.aiM hg hp i hR hrow hres hf hargs hd (by rw[aeU hlen];exact next)
theorem RT.ai6(hg:Gd ops S gd rg)[tS:gG P T E0 n]{i o m:Nat}{E1:TypeId}{lo hi:Option Operand}(a b:Int)(hx:S.ev x=.row i)(hR:S.r i=.live (TR E1 n e l))(hlo:H9 S 0 lo a)(hhi:H9 S l.length hi b)(hd:d<S.n)(h:ckS l a b=some (o,m))
  (next:RunT P C ops nd K rest (⟨rg++(bk x++(vf lo++vf hi)),[],[i],⟨some (d,.uZ i (o*n) m),[],[]⟩⟩::acc) (S.set d (.uZ i (o*n) m))):RunT P C ops nd K (⟨some d,.slice T x lo hi none,ty,pos,aft,gd⟩::rest) acc S:=by
 obtain⟨h0,h1,h2,h3,h4,h5⟩:=V3 h;exact RT.aeA hg (.row hx hR) a b hlo hhi hd h0 h1 h2 h3 (o*n) m (by rw[h4];omega) h5 next
theorem RT.aeW(hg:Gd ops S gd rg){m:Nat}[tS:gG P T E0 m]{i o q:Nat}{c:Int}(hx:S.ev x=.uZ i o q)(hd:d<S.n)(hc:(q:Int)=c)
  (next:RunT P C ops nd K rest (⟨rg++bk x,[],[],⟨some (d,.sv (.v (.int .i64 c))),[],[]⟩⟩::acc) (S.set d (.sv (.v (.int .i64 c))))):RunT P C ops nd K (⟨some d,.call ⟨.builtin .len,#[x],#[T]⟩,ty,pos,aft,gd⟩::rest) acc S:=
 RT.aiL hg hx hd (by rw[hc];exact next)
theorem RT.Ot(hg:Gd ops S gd rg)[tS:gG P T E0 n]{i o q j:Nat}{kk:IntKind}{v:Int}(hx:S.ev x=.uZ i (o*n) q)(hy:S.ev y=.sv (.v (.int kk v)))(hd:d<S.n)(h:Zz o q v=some j)
  (next:RunT P C ops nd K rest (⟨rg++(bk x++bk y),[],[],⟨some (d,.nm i (j*n)),[],[]⟩⟩::acc) (S.set d (.nm i (j*n)))):RunT P C ops nd K (⟨some d,.indexAddr T x y,ty,pos,aft,gd⟩::rest) acc S:=by
 obtain⟨h0,h1,h2⟩:=V4 h;exact RT.ixR hg (.uZ hx) hy hd h0 h1 (j*n) (by rw[<-h2,Nat.add_mul]) next
end steps
def uK{S:Type}(body:Nat->S->Option S):Nat->S->Option S
 |0,s=>some s
 |n+1,s=>(uK body n s).bind (body n)
theorem vQ{S:Type}{body:Nat->S->Option S}:∀{n:Nat} {s e:S},uK body n s=some e->∃st:Nat->S,st 0=s/\(∀k,k<n->body k (st k)=some (st (k+1)))/\st n=e
 |0,s,e,h=>⟨λ_=>s,Y,λ_ h=>by omega,Option.some.inj h⟩
 |n+1,s,e,h=>by
  obtain⟨e1,h1,h2⟩:=bind_some (x:=uK body n s) h;obtain⟨st,q1,q2,q3⟩:=vQ h1;refine⟨λk=>if k=n+1 then e else st k,by simpa using q1,λk hk=>?_,by simp⟩;rcases Nat.lt_or_ge k n with hkn|hkn
  ·simpa[show k≠n+1 by omega,show k≠n by omega]using q2 k hkn
  obtain rfl:k=n:=by omega
  simpa[q3]using h2
theorem Fa{S:Type}{body:Nat->S->Option S}(st:Nat->S):∀(n:Nat),(∀k,k<n->body k (st k)=some (st (k+1)))->uK body n (st 0)=some (st n)
 |0,_=>rfl
 |n+1,h=>by
  rw[uK,Fa st n (λk hk=>h k (by omega))];exact h n (by omega)
def vX{S E:Type}(body:Nat->S->Option (S⊕E)):Nat->S->Option (S⊕E)
 |0,s=>some (.inl s)
 |n+1,s=>(vX body n s).bind λr=>match r with|.inl s'=>body n s'|.inr e=>some (.inr e)
theorem Lj{S E:Type}{body:Nat->S->Option (S⊕E)}:∀{n:Nat} {s:S} {r:S⊕E},vX body n s=some r->∃(m:Nat) (st:Nat->S),st 0=s/\m<=n/\(∀k,k<m->body k (st k)=some (.inl (st (k+1))))/\((m=n/\r=.inl (st n))\/(m<n/\∃e,r=.inr e/\body m (st m)=some (.inr e)))
 |0,s,r,h=>⟨0,λ_=>s,Y,Nat.le_refl _,λ_ h=>by omega,.inl ⟨Y,(Option.some.inj h).symm⟩⟩
 |n+1,s,r,h=>by
  obtain⟨r1,h1,h2⟩:=bind_some (x:=vX body n s) h;obtain⟨m,st,q1,q2,q3,q4⟩:=Lj h1;rcases q4 with⟨rfl,rfl⟩|⟨q4,e,rfl,q5⟩
  ·simp only at h2;cases r with
   |inr e=>exact⟨m,st,q1,by omega,q3,.inr ⟨by omega,e,Y,h2⟩⟩
   |inl s'=>
    refine⟨m+1,λk=>if k=m+1 then s' else st k,by simpa using q1,Nat.le_refl _,λk hk=>?_,.inl ⟨Y,by simp⟩⟩;rcases Nat.lt_or_ge k m with hkn|hkn
    ·simpa[show k≠m+1 by omega,show k≠m by omega]using q3 k hkn
    obtain rfl:k=m:=by omega
    simpa using h2
  simp only at h2;cases h2;exact⟨m,st,q1,by omega,q3,.inr ⟨by omega,e,Y,q5⟩⟩
theorem Mq{S E:Type}{body:Nat->S->Option (S⊕E)}{n m:Nat}{st:Nat->S}{r:S⊕E}(h:∀k,k<m->body k (st k)=some (.inl (st (k+1))))(hr:(m=n/\r=.inl (st n))\/(m<n/\∃e,r=.inr e/\body m (st m)=some (.inr e))){k:Nat}(hk:k<n)(hkm:k<=m):
  ∃y,body k (st k)=some y/\(∀s',y=.inl s'->k+1<=m/\s'=st (k+1))/\∀e',y=.inr e'->r=.inr e':=by
 rcases Nat.lt_or_ge k m with q|q
 ·exact⟨_,h k q,(λs' e=>⟨q,by cases e;rfl⟩),(λe' e=>by cases e)⟩
 obtain rfl:k=m:=by omega
 rcases hr with⟨rfl,_⟩|⟨_,e,rfl,he⟩
 ·omega
 exact⟨_,he,(λs' e=>by cases e),(λe' q=>by cases q;rfl)⟩
theorem Ou{S E:Type}{body:Nat->S->Option (S⊕E)}{n m:Nat}{st:Nat->S}{r:S⊕E}(hr:(m=n/\r=.inl (st n))\/(m<n/\∃e,r=.inr e/\body m (st m)=some (.inr e)))(h:n<=m):r=.inl (st n):=by
 rcases hr with⟨_,q⟩|⟨q,_⟩
 ·exact q
 omega
theorem Lk{S E:Type}{body:Nat->S->Option (S⊕E)}{n:Nat}{s:S}{r:S⊕E}(h:vX body n s=some r):∃(m:Nat) (st:Nat->S),st 0=s/\(∀k,k<n->k<=m->∃y,body k (st k)=some y/\(∀s',y=.inl s'->k+1<=m/\s'=st (k+1))/\∀e',y=.inr e'->r=.inr e')/\(n<=m->r=.inl (st n)):=by
 obtain⟨m,st,q1,q2,q3,q4⟩:=Lj h;exact⟨m,st,q1,λk hk hm=>Mq q3 q4 hk hm,λhn=>Ou q4 hn⟩
end
section
open Go.RowKit
def V5(es:List (Value×Value)):SV where
 h M v:=∃b,v=.map (some b)/\M b 0=some (.tuple ⟨es.map λp=>.tuple #[p.1,p.2]⟩)
 mono hM h:=by obtain⟨b,e,h⟩:=h;exact⟨b,e,hM _ _ _ h⟩
class SQ (P:Program) (T:TypeId) (k:outParam TypeId) (e:outParam TypeId):Prop where
 u:P.underlying T=some (.map k e)
def Ll(k:IntKind)(n:Int):List (Value×Value)->Option Value
 |[]=>none
 |(.int k' m,v)::l=>if k=k' then(if n=m then some v else Ll k n l)else none
 |_::_=>none
theorem Ct{k:IntKind}{n:Int}{v:Value}:∀(es:List MapEntry) (i:Nat),Ll k n (es.map λe=>(e.key,e.val))=some v->∃j,Instr.findNow (.int k) (.int k n) es i=some (some (j,v))
 |[],_,h=>by simp[Ll]at h
 |⟨key,val,born⟩::es,i,h=>by
  cases key with
  |int k' m=>
   simp only[List.map_cons,Ll]at h;by_cases hk:k=k'
   ·subst hk;rw[if_pos rfl]at h;by_cases hn:n=m
    ·subst hn;rw[if_pos rfl]at h;cases h;exact⟨i,by simp[Instr.findNow,Instr.sameNow]⟩
    rw[if_neg hn]at h;obtain⟨j,hj⟩:=Ct es (i+1) h;have hb:(n==m)=false:=by simp[hn]
    exact⟨j,by simp[Instr.findNow,Instr.sameNow,hb,hj]⟩
   rw[if_neg hk]at h;cases h
  |_=>simp[Ll]at h
theorem SR:∀(l:List (Value×Value)) (m:List MapEntry),l.map (λp=>Value.tuple #[p.1,p.2])=m.map (λe=>Value.tuple #[e.key,e.val])->m.map (λe=>(e.key,e.val))=l
 |[],[],_=>rfl
 |[],_::_,h=>by simp at h
 |_::_,[],h=>by simp at h
 |(p,q)::l,e::m,h=>by
  simp only[List.map_cons,List.cons.injEq,Value.tuple.injEq]at h⊢;refine⟨?_,SR l m h.2⟩;have:=h.1;simp at this;rw[this.1,this.2]
theorem V6{es:Array MapEntry}{l:List (Value×Value)}(h:(⟨l.map λp=>.tuple #[p.1,p.2]⟩:Array Value)=ZO es):es.toList.map (λe=>(e.key,e.val))=l:=
 SR l es.toList (congrArg Array.toList h)
theorem getM{P:Program}{w:World}{r:Nat}{es:Array MapEntry}{ck:Nat}(hb:w.heap[r]? =some (.map es ck)):(getObj r).run P w=.ok (.map es ck) w:=by simp[getObj,Sem.run,hb]
theorem am5{P:Program}{w:World}{r:Nat}{es:Array MapEntry}{ck:Nat}(o:Obj)(hb:w.heap[r]? =some (.map es ck)):(setObj r o).run P w=.ok () {w with heap:=w.heap.setIfInBounds r o}:=by simp[setObj,Sem.run,hb]
theorem ckM{P:Program}{w:World}{kt:TypeId}{k:IntKind}[tI:r9 P kt k]{n:Int}(bb:Bool):(Instr.checkKey bb 10000 kt (.int k n)).run P w=.ok () w:=by
 rw[show(10000:Nat)=9999+1 from rfl,Instr.checkKey];simp[underlying,tI.h]
theorem V7{M:Mem}:∀l:List Value,SV.fX M (l.map SV.v) l
 |[]=>trivial
 |_::l=>⟨Y,V7 l⟩
section steps
variable {P:Program}{C:Ctx}{ops:Array Oper}{S:AS}{nd:Bool}{K:List Ac->AS->Prop}{rest:List Oper}{acc:List Ac}
variable {gd:Option (Nat×Bool)}{rg:List Nat}{d:Nat}{ty:TypeId}{pos:String}{aft:Array Edge}{x y z:Operand}{T U E0:TypeId}
theorem RT.look(hg:Gd ops S gd rg){kt et:TypeId}[tM:SQ P T kt et]{k:IntKind}[tI:r9 P kt k]{es:List (Value×Value)}{n:Int}(cs:List Value)(hx:S.ev x=.sv (V5 es))(hy:S.ev y=.sv (.v (.int k n)))(hl:Ll k n es=some (.agg ⟨cs⟩))(hd:d<S.n)
  (next:RunT P C ops nd K rest (⟨rg++(bk x++bk y),[],[],⟨some (d,.sv (.agg (cs.map SV.v))),[],[]⟩⟩::acc) (S.set d (.sv (.agg (cs.map SV.v))))):RunT P C ops nd K (⟨some d,.lookup T x y false,ty,pos,aft,gd⟩::rest) acc S:=
 RT.value hg (bk x++bk y) [] [] (.sv (.agg (cs.map SV.v))) hd (by intro c h;cases h) (λS' ht _ _ E a w h=>by
  have h1:=h.ev x;rw[bR (λ_ h=>List.mem_append_left _ h) ht,hx]at h1;have h2:a.eval y=.int k n:=by have h2:=h.ev y;rw[bR (λ_ h=>List.mem_append_right _ h) ht,hy]at h2;exact h2
  obtain⟨b,e,hb⟩:=h1;obtain⟨ms,ck,hm,he⟩:=h.ef _ _ _ hb;have he:=V6 he;rw[<-he]at hl;obtain⟨j,hj⟩:=Ct ms.toList 0 hl;refine⟨.agg ⟨cs⟩,?_,⟨cs,Y,?_⟩,ik⟩
  ·have hfk:(Instr.findKey kt (.int k n) ms.toList).run P w=.ok (some (j,.agg ⟨cs⟩)) w:=by
    simp[Instr.findKey,underlying,tI.h,hj]
   simp[execOp,e,h2,Instr.lookup,underlying,tM.u,getM hm,ckM,hfk]
  exact V7 cs) next
def AJ(w:World)(ms:Array MapEntry)(ck:Nat):World:=w.alloc (.map ms ck)
theorem Fb(w:World)(ms:Array MapEntry)(ck:Nat):(AJ w ms ck).heap[w.heap.size]? =some (.map ms ck):=by show(w.heap.push _)[w.heap.size]? =_;simp
theorem run_make{d:Option Nat}{ρ:Operand->Value}{w:World}:(execOp ρ ⟨d,.makeMap T none,ty,pos,aft,none⟩).run P w=.ok (.value (.map (some w.heap.size))) (AJ w #[] 0):=by
 simp[execOp,Instr.makeMap,AJ]
theorem Hr{d:Option Nat}{kt et:TypeId}[tM:SQ P T kt et]{k:IntKind}[tI:r9 P kt k]{ρ:Operand->Value}{w:World}{ms:Array MapEntry}{ck:Nat}{n:Int}{v:Value}(hx:ρ x=.map (some w.heap.size))(hy:ρ y=.int k n)(hz:ρ z=v)
  (hf:Instr.findNow (.int k) (.int k n) ms.toList 0=some none):(execOp ρ ⟨d,.insert T x y z,ty,pos,aft,none⟩).run P (AJ w ms ck)=.ok .skip (AJ w (ms.push ⟨.int k n,v,ck⟩) (ck+1)):=by
 have hfk:(Instr.findKey kt (.int k n) ms.toList).run P (AJ w ms ck)=.ok none (AJ w ms ck):=by
  simp[Instr.findKey,underlying,tI.h,hf]
 have am7:∀o:Obj,{AJ w ms ck with heap:=(AJ w ms ck).heap.setIfInBounds w.heap.size o}=w.alloc o:=by
  intro o;simp only[AJ,World.alloc];congr 1;apply Array.ext';simp
 simp[execOp,hx,hy,hz,Instr.mapUpdate,underlying,tM.u,getM (Fb w ms ck),ckM,hfk,am5 _ (Fb w ms ck)];exact am7 _
theorem Hs{d:Option Nat}{z0:Value}[tP:lI P U [(0,1)] [z0]]{ρ:Operand->Value}{w:World}{v:Value}(hx:ρ x=v)(hv:v.oneCell'=true):(execOp ρ ⟨d,.build U #[(0,x)],ty,pos,aft,none⟩).run P w=.ok (.value (.agg #[v])) w:=by
 have hu:=tP.h;cases hT:P.underlying U with
 |none=>rw[hT]at hu;cases hu
 |some u=>
  rw[hT]at hu;cases u with
  |struct fs=>
   simp only at hu;have hz:(zeroValue U).run P w=.ok (.agg ⟨[z0]⟩) w:=mw.run (t:=⟨tP.hz⟩) w;have hm:(fs.mapM (λf=>do pure (f.offset,<-sizeOf f.type):Field->Sem (Nat×Nat))).run P w=.ok #[(0,1)] w:=by
    have:=AG (P:=P) (w:=w) hu;rw[<-Array.toArray_toList (xs:=fs),List.mapM_toArray];rw[Sem.run_map,this];rfl
   simp only[execOp,Instr.build,underlying];simp only[Sem.run_bind,hz,Result.andThen_ok,run_program,hT,Sem.run_pure,Value.cells];have hm':(Array.mapM (λf=>do
     let __do_lift<-sizeOf f.type
     pure (f.offset,__do_lift)) fs:Sem _).run P w=.ok #[(0,1)] w:=hm
   simp only[hm',Result.andThen_ok];have h1':Instr.fill (λi=>(#[(0,1)]:Array (Nat×Nat))[i]?) ⟨[z0]⟩ [(0,v)]=some ⟨[v]⟩:=by
    simp[Instr.fill,mZ hv]
    try rfl
   have e4:(Array.map (λx=>match x with|(i,x)=>(i,ρ x)) #[(0,x)]).toList=[(0,v)]:=by simp[hx]
   simp only[e4,h1',Sem.run_pure,Result.andThen_ok]
  |_=>cases hu
theorem aac{Q:Exit->AS->Prop}{id:Nat}{T U kt et t0:TypeId}[tM:SQ P T kt et]{k:IntKind}[tI:r9 P kt k]{z0:Value}[tP:lI P U [(0,1)] [z0]]{f1 f2 f3 f4:FuncId}{n1 n2 n3 n4:Int}
  {p0 p1 p2 p3 p4 p5 p6 p7 p8 p9 p10:String} {a0 a1 a2 a3 a4 a5 a6 a7 a8 a9 a10:Array Edge} {u1 u2 u3 u4 u5 u6 u7 u8 u9:TypeId} (hn:7<=S.n)
  (h2:Instr.findNow (.int k) (.int k n2) [⟨.int k n1,.agg #[.func (.func f1) #[] #[]],0⟩] 0=some none)
  (h3:Instr.findNow (.int k) (.int k n3) [⟨.int k n1,.agg #[.func (.func f1) #[] #[]],0⟩,⟨.int k n2,.agg #[.func (.func f2) #[] #[]],1⟩] 0=some none)
  (h4:Instr.findNow (.int k) (.int k n4) [⟨.int k n1,.agg #[.func (.func f1) #[] #[]],0⟩,⟨.int k n2,.agg #[.func (.func f2) #[] #[]],1⟩,⟨.int k n3,.agg #[.func (.func f3) #[] #[]],2⟩] 0=some none)
  (hQ:∀S',S'.t 0=.sv (V5 [(.int k n1,.agg #[.func (.func f1) #[] #[]]),(.int k n2,.agg #[.func (.func f2) #[] #[]]),(.int k n3,.agg #[.func (.func f3) #[] #[]]),(.int k n4,.agg #[.func (.func f4) #[] #[]])])->Q .normal S'):
  Ok P C (.region id #[⟨some 1,.makeMap T none,t0,p0,a0,none⟩,⟨some 2,.build U #[(0,.func f1)],u1,p1,a1,none⟩,⟨none,.insert T (.tmp 1) (.const (.int k n1)) (.tmp 2),u2,p2,a2,none⟩,
   ⟨some 3,.build U #[(0,.func f2)],u3,p3,a3,none⟩,⟨none,.insert T (.tmp 1) (.const (.int k n2)) (.tmp 3),u4,p4,a4,none⟩,⟨some 4,.build U #[(0,.func f3)],u5,p5,a5,none⟩,⟨none,.insert T (.tmp 1) (.const (.int k n3)) (.tmp 4),u6,p6,a6,none⟩,
   ⟨some 5,.build U #[(0,.func f4)],u7,p7,a7,none⟩,⟨none,.insert T (.tmp 1) (.const (.int k n4)) (.tmp 5),u8,p8,a8,none⟩,⟨some 6,.move (.tmp 1),u9,p9,a9,none⟩,⟨some 0,.assign (.tmp 6),u9,p10,a10,none⟩] false) S Q:=by
 rintro a w ⟨E,h⟩;refine wpIn_region ?_;show wpOpsIn _ _ _ _ _ [0,1,2,3,4,5,6,7,8,9,10] a w;have hS:∀(S:AS) (d:Nat) (x:AV),(S.set d x).n=S.n:=λ_ _ _=>rfl;rw[wpOpsIn_cons];refine dw (C:=C) rfl rfl (dm (C:=C) (by intro c h;cases h) run_make ?_);have g1:=h.put (d:=1) (x:=.sv (.v (.map (some w.heap.size)))) (v:=.map (some w.heap.size)) Y (by omega) ik;show wpOpsIn _ _ _ _ _ _ (a.put (some 1) _) _;generalize a.put (some 1) (.map (some w.heap.size))=b1 at g1⊢;rw[wpOpsIn_cons];refine dw (C:=C) rfl rfl (dm (C:=C) (by intro c h;cases h) (Hs rfl rfl) ?_);have g2:=g1.put (d:=2) (x:=.sv (.v (.agg #[.func (.func f1) #[] #[]]))) (v:=.agg #[.func (.func f1) #[] #[]]) Y (by rw[hS];omega) ik;show wpOpsIn _ _ _ _ _ _ (b1.put (some 2) (.agg #[.func (.func f1) #[] #[]])) _;generalize b1.put (some 2) (.agg #[.func (.func f1) #[] #[]])=b2 at g2⊢;rw[wpOpsIn_cons];refine dw (C:=C) rfl rfl (dm (C:=C) (by intro c h;cases h) (Hr (k:=k) (n:=n1) (v:=.agg #[.func (.func f1) #[] #[]]) (g2.ev (.tmp 1)) rfl (g2.ev (.tmp 2)) rfl) ?_);show wpOpsIn _ _ _ _ _ _ (b2.put none undef) _;rw[show b2.put none undef=b2 from rfl,wpOpsIn_cons];refine dw (C:=C) rfl rfl (dm (C:=C) (by intro c h;cases h) (Hs rfl rfl) ?_)
 have g3:=g2.put (d:=3) (x:=.sv (.v (.agg #[.func (.func f2) #[] #[]]))) (v:=.agg #[.func (.func f2) #[] #[]]) Y (by rw[hS,hS];omega) ik;show wpOpsIn _ _ _ _ _ _ (b2.put (some 3) (.agg #[.func (.func f2) #[] #[]])) _;generalize b2.put (some 3) (.agg #[.func (.func f2) #[] #[]])=b3 at g3⊢;rw[wpOpsIn_cons];refine dw (C:=C) rfl rfl (dm (C:=C) (by intro c h;cases h) (Hr (k:=k) (n:=n2) (v:=.agg #[.func (.func f2) #[] #[]]) (g3.ev (.tmp 1)) rfl (g3.ev (.tmp 3)) (by simpa using h2)) ?_);show wpOpsIn _ _ _ _ _ _ (b3.put none undef) _;rw[show b3.put none undef=b3 from rfl,wpOpsIn_cons];refine dw (C:=C) rfl rfl (dm (C:=C) (by intro c h;cases h) (Hs rfl rfl) ?_);have g4:=g3.put (d:=4) (x:=.sv (.v (.agg #[.func (.func f3) #[] #[]]))) (v:=.agg #[.func (.func f3) #[] #[]]) Y (by rw[hS,hS,hS];omega) ik;show wpOpsIn _ _ _ _ _ _ (b3.put (some 4) (.agg #[.func (.func f3) #[] #[]])) _;generalize b3.put (some 4) (.agg #[.func (.func f3) #[] #[]])=b4 at g4⊢;rw[wpOpsIn_cons];refine dw (C:=C) rfl rfl (dm (C:=C) (by intro c h;cases h) (Hr (k:=k) (n:=n3) (v:=.agg #[.func (.func f3) #[] #[]]) (g4.ev (.tmp 1)) rfl (g4.ev (.tmp 4)) (by simpa using h3)) ?_);show wpOpsIn _ _ _ _ _ _ (b4.put none undef) _
 rw[show b4.put none undef=b4 from rfl,wpOpsIn_cons];refine dw (C:=C) rfl rfl (dm (C:=C) (by intro c h;cases h) (Hs rfl rfl) ?_);have g5:=g4.put (d:=5) (x:=.sv (.v (.agg #[.func (.func f4) #[] #[]]))) (v:=.agg #[.func (.func f4) #[] #[]]) Y (by rw[hS,hS,hS,hS];omega) ik;show wpOpsIn _ _ _ _ _ _ (b4.put (some 5) (.agg #[.func (.func f4) #[] #[]])) _;generalize b4.put (some 5) (.agg #[.func (.func f4) #[] #[]])=b5 at g5⊢;rw[wpOpsIn_cons];refine dw (C:=C) rfl rfl (dm (C:=C) (by intro c h;cases h) (Hr (k:=k) (n:=n4) (v:=.agg #[.func (.func f4) #[] #[]]) (g5.ev (.tmp 1)) rfl (g5.ev (.tmp 5)) (by simpa using h4)) ?_);show wpOpsIn _ _ _ _ _ _ (b5.put none undef) _;have e1:b5.eval (.tmp 1)=.map (some w.heap.size):=g5.ev (.tmp 1);obtain⟨ms,hms⟩:∃ms:Array MapEntry,(((((#[]:Array MapEntry).push ⟨.int k n1,.agg #[.func (.func f1) #[] #[]],0⟩).push ⟨.int k n2,.agg #[.func (.func f2) #[] #[]],0+1⟩).push ⟨.int k n3,.agg #[.func (.func f3) #[] #[]],0+1+1⟩).push ⟨.int k n4,.agg #[.func (.func f4) #[] #[]],0+1+1+1⟩)=ms:=⟨_,Y⟩;rw[hms];have hno:∀o,E.M w.heap.size o=none:=λo=>by
  cases e:E.M w.heap.size o with
  |none=>rfl
  |some v=>have:=uI h.ef e;omega
 have g6:=g5.grow (M':=λb o=>if b=w.heap.size/\o=0 then some (.tuple (ZO ms))else E.M b o) (w':=AJ w ms (0+1+1+1+1)) (λb o v e=>by
   have:b≠w.heap.size:=by rintro rfl;rw[hno o]at e;cases e
   simp[this,e]) (λb o v e=>by
   by_cases hb:b=w.heap.size/\o=0
   ·exact .inr (by omega)
   ·simp only[if_neg hb]at e;exact .inl e) (λb o v e=>by
   by_cases hb:b=w.heap.size/\o=0
   ·simp only[if_pos hb]at e;obtain⟨rfl,rfl⟩:=hb;cases e;exact⟨ms,_,Fb w ms _,Y⟩
   simp only[if_neg hb]at e;have hlt:=uI h.ef e;refine(h.ef b o v e).same ?_;show(w.heap.push _)[b]? =_;rw[Array.getElem?_push,if_neg (by omega)]) ((Below.refl _ _).alloc (Nat.le_refl _) _)
 have hm:∀X:Env,X.M w.heap.size 0=some (.tuple (ZO ms))->(V5 [(.int k n1,.agg #[.func (.func f1) #[] #[]]),(.int k n2,.agg #[.func (.func f2) #[] #[]]),(.int k n3,.agg #[.func (.func f3) #[] #[]]),(.int k n4,.agg #[.func (.func f4) #[] #[]])]).h X.M (.map (some w.heap.size)):=λX hX=>by
  refine⟨_,Y,?_⟩;rw[hX,<-hms];rfl
 have g7:=g6.put (d:=6) (x:=.sv (.v (.map (some w.heap.size)))) (v:=.map (some w.heap.size)) Y (by rw[hS,hS,hS,hS,hS];omega) ik;rw[show b5.put none undef=b5 from rfl,wpOpsIn_cons];refine dw (C:=C) rfl rfl (dm (C:=C) (by intro c h;cases h) (r:=.ok (.value (.map (some w.heap.size))) _) (by show Result.ok (Next.value (b5.eval (.tmp 1))) _=_;rw[e1]) ?_);show wpOpsIn _ _ _ _ _ _ (b5.put (some 6) (.map (some w.heap.size))) _;generalize b5.put (some 6) (.map (some w.heap.size))=b6 at g7⊢;have e6:b6.eval (.tmp 6)=.map (some w.heap.size):=g7.ev (.tmp 6);have g8:=g7.put (d:=0) (x:=.sv (V5 [(.int k n1,.agg #[.func (.func f1) #[] #[]]),(.int k n2,.agg #[.func (.func f2) #[] #[]]),(.int k n3,.agg #[.func (.func f3) #[] #[]]),(.int k n4,.agg #[.func (.func f4) #[] #[]])])) (v:=.map (some w.heap.size)) (hm _ (by simp)) (by rw[hS,hS,hS,hS,hS,hS];omega) ik;rw[wpOpsIn_cons];refine dw (C:=C) rfl rfl (dm (C:=C) (by intro c h;cases h) (r:=.ok (.value (.map (some w.heap.size))) _) (by show Result.ok (Next.value (b6.eval (.tmp 6))) _=_;rw[e6]) ?_);show wpOpsIn _ _ _ _ _ _ (b6.put (some 0) (.map (some w.heap.size))) _;rw[wpOpsIn];exact⟨_,hQ _ Y,_,g8⟩
end steps
section scope
variable {P:Program}{C:Ctx}{S:AS}{Q:Exit->AS->Prop}
end scope
end
end Go.Fw
namespace Go.Proofs.YtningmnklfpfjaaGreat
section
open Go.Fw
open Go.Proofs
noncomputable abbrev ah:=Tryz.prog
instance:r9 ah 2 .i64:=⟨by kernel_rfl⟩
instance:zm ah 2:=⟨by kernel_rfl,by kernel_rfl⟩
instance:nE ah 2 1 8 (.int .i64 0):=⟨by kernel_rfl,by rfl,by decide,by decide⟩
instance:r9 ah 3 .i64:=⟨by kernel_rfl⟩
instance:zm ah 3:=⟨by kernel_rfl,by kernel_rfl⟩
instance:mw ah 3 (.int .i64 0):=⟨by kernel_rfl⟩
instance:nE ah 3 1 8 (.int .i64 0):=⟨by kernel_rfl,by rfl,by decide,by decide⟩
instance:Me ah 4:=⟨by kernel_rfl⟩
instance:zm ah 4:=⟨by kernel_rfl,by kernel_rfl⟩
instance:mw ah 4 (.bool false):=⟨by kernel_rfl⟩
instance:r9 ah 5 .u8:=⟨by kernel_rfl⟩
instance:ab4 ah 9:=⟨by kernel_rfl⟩
instance:zm ah 22:=⟨by kernel_rfl,by kernel_rfl⟩
instance:mw ah 22 (.slice none 0 0):=⟨by kernel_rfl⟩
instance:nE ah 22 1 24 (.slice none 0 0):=⟨by kernel_rfl,by rfl,by decide,by decide⟩
instance:gG ah 22 23 1:=⟨by kernel_rfl,by kernel_rfl⟩
instance:zm ah 23:=⟨by kernel_rfl,by kernel_rfl⟩
instance:mw ah 23 (.slice none 0 0):=⟨by kernel_rfl⟩
instance:nE ah 23 1 24 (.slice none 0 0):=⟨by kernel_rfl,by rfl,by decide,by decide⟩
instance:gG ah 23 43 4:=⟨by kernel_rfl,by kernel_rfl⟩
instance:GC ah 25 4:=⟨by kernel_rfl,by kernel_rfl⟩
instance:Lc ah 25:=⟨λw=>⟨3,GC.size (T:=25) (n:=4) w⟩⟩
instance:mw ah 25 (.agg #[.int .i64 0,.slice none 0 0,.slice none 0 0,.slice none 0 0]):=⟨by kernel_rfl⟩
instance:lI ah 25 [(0,1),(1,1),(2,1),(3,1)] [.int .i64 0,.slice none 0 0,.slice none 0 0,.slice none 0 0]:=⟨by kernel_rfl,by kernel_rfl,by rfl⟩
instance:DA ah 25 0 0 3:=⟨by kernel_rfl⟩
instance:DA ah 25 1 1 22:=⟨by kernel_rfl⟩
instance:DA ah 25 2 2 22:=⟨by kernel_rfl⟩
instance:DA ah 25 3 3 23:=⟨by kernel_rfl⟩
instance:gG ah 26 38 2:=⟨by kernel_rfl,by kernel_rfl⟩
instance:zm ah 30:=⟨by kernel_rfl,by kernel_rfl⟩
instance:nE ah 38 2 16 (.agg #[.int .i64 0,.int .i64 0]):=⟨by kernel_rfl,by rfl,by decide,by decide⟩
instance:DA ah 38 0 0 3:=⟨by kernel_rfl⟩
instance:DA ah 38 1 1 3:=⟨by kernel_rfl⟩
instance:zm ah 39:=⟨by kernel_rfl,by kernel_rfl⟩
instance:mw ah 39 (.slice none 0 0):=⟨by kernel_rfl⟩
instance:gG ah 39 130 1:=⟨by kernel_rfl,by kernel_rfl⟩
instance:GC ah 41 2:=⟨by kernel_rfl,by kernel_rfl⟩
instance:Lc ah 41:=⟨λw=>⟨1,GC.size (T:=41) (n:=2) w⟩⟩
instance:mw ah 41 (.agg #[.bool false,.slice none 0 0]):=⟨by kernel_rfl⟩
instance:nE ah 41 2 32 (.agg #[.bool false,.slice none 0 0]):=⟨by kernel_rfl,by rfl,by decide,by decide⟩
instance:lI ah 41 [(0,1),(1,1)] [.bool false,.slice none 0 0]:=⟨by kernel_rfl,by kernel_rfl,by rfl⟩
instance:DA ah 41 0 0 4:=⟨by kernel_rfl⟩
instance:DA ah 41 1 1 39:=⟨by kernel_rfl⟩
instance:GC ah 43 4:=⟨by kernel_rfl,by kernel_rfl⟩
instance:mw ah 43 (.agg #[.bool false,.slice none 0 0,.bool false,.slice none 0 0]):=⟨by kernel_rfl⟩
instance:nE ah 43 4 64 (.agg #[.bool false,.slice none 0 0,.bool false,.slice none 0 0]):=⟨by kernel_rfl,by rfl,by decide,by decide⟩
instance:lI ah 43 [(0,2),(2,2)] [.bool false,.slice none 0 0,.bool false,.slice none 0 0]:=⟨by kernel_rfl,by kernel_rfl,by rfl⟩
instance:DA ah 43 0 0 41:=⟨by kernel_rfl⟩
instance:DA ah 43 1 2 41:=⟨by kernel_rfl⟩
instance:zm ah 45:=⟨by kernel_rfl,by kernel_rfl⟩
instance:gG ah 45 3 1:=⟨by kernel_rfl,by kernel_rfl⟩
instance:lI ah 59 [(0,4),(4,1)] [.int .i64 0,.slice none 0 0,.slice none 0 0,.slice none 0 0,.slice none 0 0]:=⟨by kernel_rfl,by kernel_rfl,by rfl⟩
instance:DA ah 59 0 0 25:=⟨by kernel_rfl⟩
instance:DA ah 59 1 4 45:=⟨by kernel_rfl⟩
instance:lI ah 79 [(0,1),(1,1),(2,1),(3,1),(4,1)] [.bool false,.int .i64 0,.slice none 0 0,.slice none 0 0,.slice none 0 0]:=⟨by kernel_rfl,by kernel_rfl,by rfl⟩
instance:DA ah 79 0 0 4:=⟨by kernel_rfl⟩
instance:DA ah 79 1 1 3:=⟨by kernel_rfl⟩
instance:DA ah 79 2 2 22:=⟨by kernel_rfl⟩
instance:DA ah 79 3 3 45:=⟨by kernel_rfl⟩
instance:DA ah 79 4 4 22:=⟨by kernel_rfl⟩
instance:zm ah 89:=⟨by kernel_rfl,by kernel_rfl⟩
instance:GC ah 97 4:=⟨by kernel_rfl,by kernel_rfl⟩
instance:mw ah 97 (.agg #[.int .i64 0,.int .i64 0,.int .i64 0,.int .i64 0]):=⟨by kernel_rfl⟩
instance:lI ah 97 [(0,1),(1,1),(2,1),(3,1)] [.int .i64 0,.int .i64 0,.int .i64 0,.int .i64 0]:=⟨by kernel_rfl,by kernel_rfl,by rfl⟩
instance:DA ah 97 0 0 3:=⟨by kernel_rfl⟩
instance:DA ah 97 1 1 3:=⟨by kernel_rfl⟩
instance:DA ah 97 2 2 3:=⟨by kernel_rfl⟩
instance:DA ah 97 3 3 3:=⟨by kernel_rfl⟩
instance:zm ah 106:=⟨by kernel_rfl,by kernel_rfl⟩
instance:zm ah 117:=⟨by kernel_rfl,by kernel_rfl⟩
instance:nE ah 117 1 24 (.slice none 0 0):=⟨by kernel_rfl,by rfl,by decide,by decide⟩
instance:gG ah 117 2 1:=⟨by kernel_rfl,by kernel_rfl⟩
instance:GC ah 124 1:=⟨by kernel_rfl,by kernel_rfl⟩
instance:mw ah 124 (.agg #[.nilFunc]):=⟨by kernel_rfl⟩
instance:lI ah 124 [(0,1)] [.nilFunc]:=⟨by kernel_rfl,by kernel_rfl,by rfl⟩
instance:DA ah 124 0 0 89:=⟨by kernel_rfl⟩
instance:r9 ah 128 .u64:=⟨by kernel_rfl⟩
instance:zm ah 128:=⟨by kernel_rfl,by kernel_rfl⟩
instance:r9 ah 130 .u32:=⟨by kernel_rfl⟩
instance:zm ah 130:=⟨by kernel_rfl,by kernel_rfl⟩
instance:nE ah 130 1 4 (.int .u32 0):=⟨by kernel_rfl,by rfl,by decide,by decide⟩
instance:gG ah 155 22 1:=⟨by kernel_rfl,by kernel_rfl⟩
instance:gG ah 156 117 1:=⟨by kernel_rfl,by kernel_rfl⟩
instance:gG ah 167 41 2:=⟨by kernel_rfl,by kernel_rfl⟩
instance:zm ah 174:=⟨by kernel_rfl,by kernel_rfl⟩
instance:lI ah 176 [(0,1)] [.nilFunc]:=⟨by kernel_rfl,by kernel_rfl,by rfl⟩
instance:DA ah 176 0 0 174:=⟨by kernel_rfl⟩
instance:SQ ah 177 5 176:=⟨by kernel_rfl⟩
instance:r9 ah 179 .u64:=⟨by kernel_rfl⟩
instance:zm ah 186:=⟨by kernel_rfl,by kernel_rfl⟩
instance:mw ah 186 (.nilFunc):=⟨by kernel_rfl⟩
instance:cZ ah 9:=⟨by kernel_rfl⟩
instance:cZ ah 10:=⟨by kernel_rfl⟩
instance:cZ ah 12:=⟨by kernel_rfl⟩
instance:cZ ah 13:=⟨by kernel_rfl⟩
instance:cZ ah 14:=⟨by kernel_rfl⟩
instance:cZ ah 15:=⟨by kernel_rfl⟩
instance:cZ ah 16:=⟨by kernel_rfl⟩
instance:cZ ah 17:=⟨by kernel_rfl⟩
instance:cZ ah 18:=⟨by kernel_rfl⟩
instance:cZ ah 19:=⟨by kernel_rfl⟩
instance:cZ ah 20:=⟨by kernel_rfl⟩
instance:cZ ah 21:=⟨by kernel_rfl⟩
instance:cZ ah 23:=⟨by kernel_rfl⟩
instance:cZ ah 24:=⟨by kernel_rfl⟩
instance:cZ ah 25:=⟨by kernel_rfl⟩
instance:cZ ah 26:=⟨by kernel_rfl⟩
instance:cZ ah 27:=⟨by kernel_rfl⟩
instance:cZ ah 28:=⟨by kernel_rfl⟩
instance:cZ ah 29:=⟨by kernel_rfl⟩
instance:cZ ah 33:=⟨by kernel_rfl⟩
instance:cZ ah 34:=⟨by kernel_rfl⟩
instance:cZ ah 35:=⟨by kernel_rfl⟩
instance:cZ ah 37:=⟨by kernel_rfl⟩
instance:cZ ah 38:=⟨by kernel_rfl⟩
instance:cZ ah 40:=⟨by kernel_rfl⟩
instance:cZ ah 41:=⟨by kernel_rfl⟩
instance:cZ ah 42:=⟨by kernel_rfl⟩
instance:cZ ah 45:=⟨by kernel_rfl⟩
instance:cZ ah 47:=⟨by kernel_rfl⟩
instance:cZ ah 50:=⟨by kernel_rfl⟩
instance:cZ ah 52:=⟨by kernel_rfl⟩
instance:cZ ah 53:=⟨by kernel_rfl⟩
instance:cZ ah 54:=⟨by kernel_rfl⟩
instance:cZ ah 56:=⟨by kernel_rfl⟩
instance:cZ ah 57:=⟨by kernel_rfl⟩
instance:cZ ah 58:=⟨by kernel_rfl⟩
instance:cZ ah 59:=⟨by kernel_rfl⟩
instance:cZ ah 60:=⟨by kernel_rfl⟩
instance:cZ ah 61:=⟨by kernel_rfl⟩
instance:cZ ah 62:=⟨by kernel_rfl⟩
instance:cZ ah 63:=⟨by kernel_rfl⟩
instance:cZ ah 64:=⟨by kernel_rfl⟩
instance:cZ ah 65:=⟨by kernel_rfl⟩
instance:cZ ah 66:=⟨by kernel_rfl⟩
instance:cZ ah 67:=⟨by kernel_rfl⟩
instance:cZ ah 68:=⟨by kernel_rfl⟩
instance:cZ ah 69:=⟨by kernel_rfl⟩
instance:cZ ah 70:=⟨by kernel_rfl⟩
instance:cZ ah 71:=⟨by kernel_rfl⟩
instance:cZ ah 72:=⟨by kernel_rfl⟩
instance:cZ ah 73:=⟨by kernel_rfl⟩
instance:cZ ah 74:=⟨by kernel_rfl⟩
instance:cZ ah 75:=⟨by kernel_rfl⟩
instance:cZ ah 76:=⟨by kernel_rfl⟩
instance:cZ ah 77:=⟨by kernel_rfl⟩
instance:cZ ah 78:=⟨by kernel_rfl⟩
instance:cZ ah 79:=⟨by kernel_rfl⟩
instance:cZ ah 80:=⟨by kernel_rfl⟩
instance:cZ ah 81:=⟨by kernel_rfl⟩
instance:cZ ah 82:=⟨by kernel_rfl⟩
instance:cZ ah 83:=⟨by kernel_rfl⟩
instance:cZ ah 84:=⟨by kernel_rfl⟩
instance:cZ ah 86:=⟨by kernel_rfl⟩
instance:cZ ah 88:=⟨by kernel_rfl⟩
instance:cZ ah 89:=⟨by kernel_rfl⟩
instance:cZ ah 90:=⟨by kernel_rfl⟩
instance:cZ ah 91:=⟨by kernel_rfl⟩
instance:cZ ah 93:=⟨by kernel_rfl⟩
instance:cZ ah 94:=⟨by kernel_rfl⟩
instance:cZ ah 95:=⟨by kernel_rfl⟩
instance:cZ ah 96:=⟨by kernel_rfl⟩
instance:cZ ah 97:=⟨by kernel_rfl⟩
instance:cZ ah 98:=⟨by kernel_rfl⟩
instance:cZ ah 99:=⟨by kernel_rfl⟩
instance:cZ ah 100:=⟨by kernel_rfl⟩
instance:cZ ah 101:=⟨by kernel_rfl⟩
instance:cZ ah 102:=⟨by kernel_rfl⟩
instance:cZ ah 103:=⟨by kernel_rfl⟩
instance:cZ ah 104:=⟨by kernel_rfl⟩
instance:cZ ah 105:=⟨by kernel_rfl⟩
instance:cZ ah 106:=⟨by kernel_rfl⟩
instance:cZ ah 107:=⟨by kernel_rfl⟩
instance:cZ ah 108:=⟨by kernel_rfl⟩
instance:cZ ah 109:=⟨by kernel_rfl⟩
instance:cZ ah 110:=⟨by kernel_rfl⟩
instance:cZ ah 111:=⟨by kernel_rfl⟩
instance:cZ ah 112:=⟨by kernel_rfl⟩
instance:cZ ah 113:=⟨by kernel_rfl⟩
instance:cZ ah 114:=⟨by kernel_rfl⟩
instance:cZ ah 115:=⟨by kernel_rfl⟩
instance:cZ ah 116:=⟨by kernel_rfl⟩
instance:cZ ah 117:=⟨by kernel_rfl⟩
instance:cZ ah 118:=⟨by kernel_rfl⟩
instance:cZ ah 119:=⟨by kernel_rfl⟩
instance:cZ ah 120:=⟨by kernel_rfl⟩
instance:cZ ah 121:=⟨by kernel_rfl⟩
instance:cZ ah 122:=⟨by kernel_rfl⟩
instance:cZ ah 123:=⟨by kernel_rfl⟩
instance:cZ ah 124:=⟨by kernel_rfl⟩
instance:cZ ah 125:=⟨by kernel_rfl⟩
instance:cZ ah 127:=⟨by kernel_rfl⟩
instance:cZ ah 128:=⟨by kernel_rfl⟩
instance:cZ ah 129:=⟨by kernel_rfl⟩
instance:cZ ah 130:=⟨by kernel_rfl⟩
instance:cZ ah 132:=⟨by kernel_rfl⟩
instance:cZ ah 133:=⟨by kernel_rfl⟩
instance:cZ ah 134:=⟨by kernel_rfl⟩
instance:cZ ah 135:=⟨by kernel_rfl⟩
instance:cZ ah 136:=⟨by kernel_rfl⟩
instance:cZ ah 137:=⟨by kernel_rfl⟩
instance:cZ ah 139:=⟨by kernel_rfl⟩
instance:cZ ah 140:=⟨by kernel_rfl⟩
instance:cZ ah 141:=⟨by kernel_rfl⟩
instance:cZ ah 142:=⟨by kernel_rfl⟩
instance:cZ ah 143:=⟨by kernel_rfl⟩
instance:cZ ah 144:=⟨by kernel_rfl⟩
instance:cZ ah 145:=⟨by kernel_rfl⟩
instance:cZ ah 146:=⟨by kernel_rfl⟩
instance:cZ ah 147:=⟨by kernel_rfl⟩
instance:cZ ah 148:=⟨by kernel_rfl⟩
instance:cZ ah 149:=⟨by kernel_rfl⟩
instance:cZ ah 150:=⟨by kernel_rfl⟩
instance:cZ ah 151:=⟨by kernel_rfl⟩
instance:cZ ah 152:=⟨by kernel_rfl⟩
instance:cZ ah 153:=⟨by kernel_rfl⟩
instance:cZ ah 154:=⟨by kernel_rfl⟩
instance:cZ ah 155:=⟨by kernel_rfl⟩
instance:cZ ah 156:=⟨by kernel_rfl⟩
instance:cZ ah 157:=⟨by kernel_rfl⟩
instance:cZ ah 158:=⟨by kernel_rfl⟩
instance:cZ ah 159:=⟨by kernel_rfl⟩
instance:cZ ah 160:=⟨by kernel_rfl⟩
instance:cZ ah 161:=⟨by kernel_rfl⟩
instance:cZ ah 162:=⟨by kernel_rfl⟩
instance:cZ ah 163:=⟨by kernel_rfl⟩
instance:cZ ah 164:=⟨by kernel_rfl⟩
instance:cZ ah 165:=⟨by kernel_rfl⟩
instance:cZ ah 166:=⟨by kernel_rfl⟩
instance:cZ ah 167:=⟨by kernel_rfl⟩
instance:cZ ah 168:=⟨by kernel_rfl⟩
instance:cZ ah 169:=⟨by kernel_rfl⟩
instance:cZ ah 170:=⟨by kernel_rfl⟩
instance:cZ ah 171:=⟨by kernel_rfl⟩
instance:cZ ah 172:=⟨by kernel_rfl⟩
instance:cZ ah 173:=⟨by kernel_rfl⟩
instance:cZ ah 174:=⟨by kernel_rfl⟩
instance:cZ ah 175:=⟨by kernel_rfl⟩
instance:cZ ah 176:=⟨by kernel_rfl⟩
instance:cZ ah 177:=⟨by kernel_rfl⟩
instance:cZ ah 178:=⟨by kernel_rfl⟩
instance:cZ ah 179:=⟨by kernel_rfl⟩
instance:cZ ah 180:=⟨by kernel_rfl⟩
instance:cZ ah 181:=⟨by kernel_rfl⟩
instance:cZ ah 182:=⟨by kernel_rfl⟩
instance:cZ ah 183:=⟨by kernel_rfl⟩
instance:cZ ah 184:=⟨by kernel_rfl⟩
instance:cZ ah 185:=⟨by kernel_rfl⟩
instance:cZ ah 186:=⟨by kernel_rfl⟩
instance:cZ ah 187:=⟨by kernel_rfl⟩
instance:cZ ah 188:=⟨by kernel_rfl⟩
instance:cZ ah 189:=⟨by kernel_rfl⟩
instance:cZ ah 190:=⟨by kernel_rfl⟩
instance:cZ ah 191:=⟨by kernel_rfl⟩
instance:cZ ah 192:=⟨by kernel_rfl⟩
instance:cZ ah 193:=⟨by kernel_rfl⟩
instance:cZ ah 194:=⟨by kernel_rfl⟩
instance:cZ ah 195:=⟨by kernel_rfl⟩
instance:cZ ah 196:=⟨by kernel_rfl⟩
instance:cZ ah 197:=⟨by kernel_rfl⟩
instance:cZ ah 198:=⟨by kernel_rfl⟩
instance:cZ ah 199:=⟨by kernel_rfl⟩
instance:cZ ah 200:=⟨by kernel_rfl⟩
instance:cZ ah 201:=⟨by kernel_rfl⟩
instance:cZ ah 202:=⟨by kernel_rfl⟩
instance:cZ ah 203:=⟨by kernel_rfl⟩
instance:cZ ah 204:=⟨by kernel_rfl⟩
instance:cZ ah 205:=⟨by kernel_rfl⟩
instance:cZ ah 206:=⟨by kernel_rfl⟩
instance:cZ ah 207:=⟨by kernel_rfl⟩
instance:cZ ah 208:=⟨by kernel_rfl⟩
instance:cZ ah 209:=⟨by kernel_rfl⟩
instance:cZ ah 210:=⟨by kernel_rfl⟩
instance:cZ ah 211:=⟨by kernel_rfl⟩
instance:cZ ah 212:=⟨by kernel_rfl⟩
instance:cZ ah 213:=⟨by kernel_rfl⟩
instance:cZ ah 214:=⟨by kernel_rfl⟩
instance:cZ ah 215:=⟨by kernel_rfl⟩
theorem mixed:Tryz.prog.follows .mixedOrders=true:=by kernel_rfl
end
section
open Go.Fw Go.RowKit
def snap(W:World):Mem:=λb o=>(W.cell? ⟨b,o,none⟩).filter Value.oneCell'
theorem aad(W:World):(snap W).ef W:=λ_ _ _ e=>by
 obtain⟨e1,e2⟩:=Option.filter_eq_some_iff.1 e;exact .of e1 e2
theorem aae{W:World}{b o:Nat}{v:Value}(h:W.cell? ⟨b,o,none⟩=some v)(h1:v.oneCell'=true):snap W b o=some v:=Option.filter_eq_some_iff.2 ⟨h,h1⟩
class Ka (P:Program) (T:TypeId) {α:Type} (e:α->List SV) (ok:outParam (α->Prop)) (sz:outParam (α->Nat)):Prop where
 h:∀{H:Type} (enc:TypeId×Value->H) (W:World) (fuel:Nat) (cs:List Value) (d:DataW H) (p:List MemPlace),DataW.trod enc P W 0 (λ_=>true) true fuel T cs=some (d,p)->
  ∃x:α,ok x/\SV.fX (snap W) (e x) cs/\(∀v∈cs,v.oneCell'=true)/\sz x<=Rows.uptoBulk d
section opn
variable {P:Program}{T:TypeId}
theorem V8{k:IntKind}{n:Int}(h:(Lit.int k n).wf=true):k.min<=n/\n<=k.max:=by simpa[Lit.wf]using h
instance[t:r9 P T .i64]:Ka P T bH (λx=>-9223372036854775808<=x/\x<=9223372036854775807) (λ_=>1):=⟨λenc W fuel cs d p h=>by
 obtain⟨n,rfl,hx,hw⟩:=DataW.trod_int t.h h;cases hx;have:=V8 hw;exact⟨n,by simpa[IntKind.min,IntKind.max,IntKind.signed,IntKind.bits]using this,⟨rfl,aq⟩,by simp[Value.oneCell'],by simp[Rows.uptoBulk]⟩⟩
theorem ai7{k:IntKind}{M:Nat}{e:Nat->List SV}(t:r9 P T k)(hk:k.min=0/\k.max=(M:Int)-1)(he:∀n:Nat,e n=[.v (.int k (n:Int))]):Ka P T e (λx=>x<M) (λ_=>1):=⟨λenc W fuel cs d p h=>by
 obtain⟨n,rfl,hx,hw⟩:=DataW.trod_int t.h h;cases hx;have:=V8 hw;rw[hk.1,hk.2]at this;obtain⟨m,rfl⟩:=Int.eq_ofNat_of_zero_le this.1;exact⟨m,by omega,by rw[he];exact⟨Y,aq⟩,by simp[Value.oneCell'],by simp[Rows.uptoBulk]⟩⟩
instance[t:r9 P T .u32]:Ka P T bh (λx=>x<4294967296) (λ_=>1):=ai7 t (by decide) (λ_=>rfl)
instance[t:Me P T]:Ka P T eB (λ_=>True) (λ_=>1):=⟨λenc W fuel cs d p h=>by
 obtain⟨b,rfl,hx⟩:=DataW.trod_bool t.h h;cases hx;exact⟨b,aq,⟨rfl,aq⟩,by simp[Value.oneCell'],by simp[Rows.uptoBulk]⟩⟩
theorem Ov{H α:Type}(sz:α->Nat):∀(xs:List α) (ds:List (DataW H)),xs.length=ds.length->(∀(i:Nat) (x:α) (d:DataW H),xs[i]? =some x->ds[i]? =some d->sz x<=Rows.uptoBulk d)->(xs.map sz).sum<=Rows.uptoBulkAll ds
 |[],[],_,_=>by simp
 |x::xs,d::ds,hl,h=>by
  have h1:=h 0 x d Y Y;have h2:=Ov sz xs ds (by simpa using hl) (λi x d e1 e2=>h (i+1) x d (by simpa using e1) (by simpa using e2));simp only[List.map_cons,List.sum_cons,Rows.uptoBulkAll];omega
 |[],_::_,hl,_=>by simp at hl
 |_::_,[],hl,_=>by simp at hl
instance{E:TypeId}{n:Nat}{α:Type}{e:α->List SV}{ok:α->Prop}{sz:α->Nat}{by_:Nat}{zv:Value}[t:gG P T E n][tE:nE P E n by_ zv][el:EL e n][o:Ka P E e ok sz]:Ka P T (eS n e) (λl=>l.length<=9223372036854775807/\∀x∈l,ok x) (λl=>(l.map sz).sum+1):=⟨λ{H} enc W fuel cs d p h=>by
 have hcell:P.cellsOf E=n:=by
  have h1:=t.size W;simp only[sizeOf,typeInfo]at h1;cases hi:P.info? E with
  |none=>simp[hi]at h1
  |some i=>simp[hi]at h1;simp[Program.cellsOf,hi,h1]
 have hml:maxLen=9223372036854775807:=by decide
 rcases Deep.open_slice t.u h with⟨rfl,hx⟩|⟨a,len,cap,m,n',D,Pl,rfl,_,hl,hm,hmm,hx,hel⟩
 ·cases hx;exact⟨[],⟨by simp,by simp⟩,⟨.inl ⟨none,rfl,rfl⟩,aq⟩,by simp[Value.oneCell'],by simp[Rows.uptoBulk]⟩
 cases hx;rw[if_pos rfl]at hmm;subst hmm;have one:∀i,i<m->∃x,ok x/\sz x<=Rows.uptoBulk (D i)/\∃cs',W.cells? 0 (a.add (i*n)) n=some cs'/\SV.fX (snap W) (e x) cs'/\(∀v∈cs',v.oneCell'=true):=by
  intro i hi;obtain⟨cs',h1,h2⟩:=hel i hi;obtain⟨x,q1,q2,q3,q4⟩:=o.h enc W n' cs' (D i) (Pl i) h2;rw[hcell]at h1;exact⟨x,q1,q4,cs',h1,q2,q3⟩
 obtain⟨xs,hxl,hxs⟩:∃xs:List α,xs.length=len/\∀(i:Nat) (x:α),xs[i]? =some x->ok x/\sz x<=Rows.uptoBulk (D i)/\∃cs',W.cells? 0 (a.add (i*n)) n=some cs'/\SV.fX (snap W) (e x) cs'/\(∀v∈cs',v.oneCell'=true):=by
  clear h hm hel;have:∀k,k<=len->∃xs:List α,xs.length=k/\∀(i:Nat) (x:α),xs[i]? =some x->ok x/\sz x<=Rows.uptoBulk (D i)/\∃cs',W.cells? 0 (a.add (i*n)) n=some cs'/\SV.fX (snap W) (e x) cs'/\(∀v∈cs',v.oneCell'=true):=by
   intro k
   induction k with
   |zero=>intro _;exact⟨[],rfl,by simp⟩
   |succ k ih=>
    intro hk;obtain⟨xs,h1,h2⟩:=ih (by omega);obtain⟨x,hx⟩:=one k (by omega);refine⟨xs++[x],by simp[h1],λi y hy=>?_⟩;rcases Nat.lt_or_ge i k with hi|hi
    ·exact h2 i y (by rwa[List.getElem?_append_left (by omega)]at hy)
    rw[List.getElem?_append_right (by omega)]at hy;have hi2:i=k:=by
     rcases Nat.lt_or_ge (i-xs.length) 1 with q|q
     ·omega
     rw[List.getElem?_eq_none (by simpa using q)]at hy;cases hy
    subst hi2;rw[h1,Nat.sub_self]at hy;simp at hy;subst hy;exact hx
  exact this len (Nat.le_refl _)
 refine⟨xs,⟨by omega,λx hx=>?_⟩,⟨?_,aq⟩,by simp[Value.oneCell'],?_⟩
 ·obtain⟨i,hi,rfl⟩:=List.getElem_of_mem hx;exact(hxs i _ (List.getElem?_eq_getElem hi)).1
 ·by_cases h0:xs=[]
  ·subst h0;simp at hxl;subst hxl;by_cases hc0:m=0
   ·subst hc0;exact .inl ⟨_,rfl,rfl⟩
   obtain⟨x,_,_,cs',g1,g2,_⟩:=one 0 (by omega);obtain⟨_,g3,g4⟩:=World.cells?_some g1;have hn:0<n:=tE.p;have g5:=g4 0 hn;obtain⟨b,o',spot⟩:=a;have V9:spot=none:=by
    have:∃v,W.cell? (((⟨b,o',spot⟩:Addr).add (0*n)).add 0)=some v:=by
     rw[g5];exact⟨_,List.getElem?_eq_getElem (by omega)⟩
    obtain⟨v,hv⟩:=this;simpa[Addr.add]using World.cell?_spot hv
   subst V9;refine .inr ⟨b,o',m,rfl,by simp,by simp,λi row hr=>by simp at hr⟩
  have Cu:0<len:=by
   rcases Nat.eq_zero_or_pos len with hz|hz
   ·exact absurd (List.eq_nil_of_length_eq_zero (by omega)) h0
   exact hz
  have hn:0<n:=tE.p;obtain⟨x,_,_,cs',g1,g2,_⟩:=one 0 (by omega);obtain⟨_,g3,g4⟩:=World.cells?_some g1;have g5:=g4 0 hn;obtain⟨b,o',spot⟩:=a;have V9:spot=none:=by
   have:∃v,W.cell? (((⟨b,o',spot⟩:Addr).add (0*n)).add 0)=some v:=by
    rw[g5];exact⟨_,List.getElem?_eq_getElem (by omega)⟩
   obtain⟨v,hv⟩:=this;simpa[Addr.add]using World.cell?_spot hv
  subst V9;refine .inr ⟨b,o',m,by rw[List.length_map,hxl],by rw[List.length_map];omega,by rw[List.length_map];omega,λi row hr=>?_⟩;rw[List.getElem?_map]at hr;cases hx:xs[i]? with
  |none=>rw[hx]at hr;cases hr
  |some y=>
   rw[hx]at hr;have hr:e y=row:=Option.some.inj hr;subst hr;obtain⟨_,_,cs2,k1,k2,k3⟩:=hxs i y hx;obtain⟨_,k4,k5⟩:=World.cells?_some k1;refine⟨el.len y,λk s hk=>?_⟩;obtain⟨u,hu,hs⟩:=k2.get hk;have hkn:k<n:=by have:=(List.getElem?_eq_some_iff.1 hu).1;omega
   have k6:=k5 k hkn;rw[jO,jO,hu]at k6;exact⟨u,aae k6 (k3 u (List.mem_of_getElem? hu)),k3 u (List.mem_of_getElem? hu),hs⟩
 have hb:Rows.uptoBulk (DataW.slice ((List.range len).map D) ((List.range (m-len)).map λj=>D (len+j)))=Rows.uptoBulkAll ((List.range len).map D)+Rows.uptoBulkAll ((List.range (m-len)).map λj=>D (len+j))+1:=rfl;rw[hb];have:=Ov sz xs ((List.range len).map D) (by simp[hxl]) (λi x d e1 e2=>by
  have hi:i<len:=by have:=(List.getElem?_eq_some_iff.1 e1).1;omega
  simp[hi]at e2;subst e2;exact(hxs i x e1).2.1)
 omega⟩
class StN (P:Program) (T:TypeId) (k:outParam Nat):Prop where
 h:(match P.underlying T with|some (.struct fs)=>some fs.size|_=>none)=some k
theorem Ht{k:Nat}[s:StN P T k]{H:Type}{enc:TypeId×Value->H}{W:World}{fuel:Nat}{cs:List Value}{d:DataW H}{p:List MemPlace}(h:DataW.trod enc P W 0 (λ_=>true) true fuel T cs=some (d,p)):
  ∃(xs:List (DataW H×List MemPlace)) (n:Nat),d=.agg (xs.map (·.1))/\cs.length=P.cellsOf T/\xs.length=k/\∀(i off:Nat) (U:TypeId),DA P T i off U->DataW.trod enc P W 0 (λ_=>true) true n U ((cs.drop off).take (P.cellsOf U))=xs[i]? :=by
 have hs:=s.h;cases hT:P.underlying T with
 |none=>rw[hT]at hs;cases hs
 |some u=>
  rw[hT]at hs;cases u with
  |struct fs=>
   have hk:fs.size=k:=Option.some.inj hs;obtain⟨xs,n,_,hx,hl,hn,hf⟩:=DataW.trod_struct hT h;refine⟨xs,n,(Prod.mk.inj hx).1,hl,by omega,λi off U F=>?_⟩;have hF:=F.h;rw[hT]at hF;simp only at hF;cases hg:fs[i]? with
   |none=>rw[hg]at hF;cases hF
   |some f=>
    rw[hg]at hF;simp only[Option.map_some,Option.some.injEq,Prod.mk.injEq]at hF;have:=hf i f hg;rw[hF.1,hF.2]at this;exact this
  |_=>cases hs
class aeX (P:Program) (T:TypeId):Prop where
 h:∀(w:World) (r:Reach) (base:Nat) (v:Value),Value.okWide P w r base T v->v.cells.toList=[v]
instance{k:IntKind}[t:r9 P T k]:aeX P T:=⟨λw r base v h=>by
 simp only[Value.okWide,t.h,Cell.okWide,Cell.ok]at h;cases v<;>first|rfl|cases h⟩
instance{E:TypeId}{n:Nat}[t:gG P T E n]:aeX P T:=⟨λw r base v h=>by
 obtain⟨a,l,c,rfl⟩:=WideShapes.okWide_slice t.u h;rfl⟩
theorem SS{α:Type}{e:α->List SV}{ok:α->Prop}{sz:α->Nat}[o1:aeX P T][o:Ka P T e ok sz]{H:Type}{enc:TypeId×Value->H}{W:World}{r:Reach}{base:Nat}{v:Value}{d:DataW H}{p:List MemPlace}
  (hv:Value.okWide P W r base T v) (h:DataW.Trod enc P W 0 (λ_=>true) true T v d p):∃x,ok x/\sz x<=Rows.uptoBulk d/\SV.fX (snap W) (e x) [v]:=by
 obtain⟨fuel,h⟩:=h;rw[o1.h W r base v hv]at h;obtain⟨x,h1,h2,_,h4⟩:=o.h enc W fuel _ d p h;exact⟨x,h1,h4,h2⟩
theorem aaf{α:Type}{e:α->List SV}{ok:α->Prop}{sz:α->Nat}{k:Nat}[s:StN P T k][o:Ka P T e ok sz]{H:Type}{enc:TypeId×Value->H}{W:World}{r:Reach}{base:Nat}{v:Value}{d:DataW H}{p:List MemPlace}
  (hv:Value.okWide P W r base T v) (h:DataW.Trod enc P W 0 (λ_=>true) true T v d p):∃x,ok x/\sz x<=Rows.uptoBulk d/\(SV.agg (e x)).h (snap W) v:=by
 have hs:=s.h;cases hT:P.underlying T with
 |none=>rw[hT]at hs;cases hs
 |some u=>
  rw[hT]at hs;cases u with
  |struct fs=>
   obtain⟨cs,rfl,_⟩:=WideShapes.okWide_struct hT hv;obtain⟨fuel,h⟩:=h;obtain⟨x,h1,h2,_,h4⟩:=o.h enc W fuel _ d p h;exact⟨x,h1,h4,cs.toList,Y,h2⟩
  |_=>cases hs
end opn
theorem aag{f:FuncId}{vs:List Value}{svs:List SV}{W:World}(hp:Pure ah f svs (.v (.bool true)))(h:SV.fX (snap W) svs vs):
  Calls ah f ⟨vs⟩ W λe w'=>e=.returned (.bool true)/\Below W.heap.size W w':=
 (hp (snap W) W vs (aad W) h).mono λ_ _ ⟨v,_,h1,_,_,_,h2,h3⟩=>by
  have h2:v=.bool true:=h2;exact⟨by rw[h1,h2],h3⟩
end
section
open Go.Fw Go.RowKit Go.ChangeShapes Go.WideShapes Go.ChangeAt
theorem am8:ownKnob Tryz.prog.godebug=none:=by kernel_rfl
theorem Io:laidOutB ah=true:=by kernel_rfl
instance:StN ah 41 2:=⟨by kernel_rfl⟩
set_option maxRecDepth 100000 in
instance:Ka ah 41 eZ (λ(z:Zr)=>(True/\(z.w.length<=9223372036854775807/\∀x1∈z.w,x1<4294967296))) (λ(z:Zr)=>(1+((z.w.map λx1=>1).sum+1)+1)):=⟨λenc W fuel cs d p h=>by
 obtain⟨xs,n,rfl,hl,hn,hf⟩:=Ht h;have hl:cs.length=2:=hl.trans (by kernel_rfl)
 match xs,hn with
 |[⟨d0,p0⟩,⟨d1,p1⟩],_=>
 match cs,hl with
 |[c0,c1],_=>
 have t0:DataW.trod enc ah W 0 (λ_=>true) true n 4 [c0]=some (d0,p0):=(by have q:=hf 0 _ _ inferInstance;rw[show Tryz.prog.cellsOf 4=1 by kernel_rfl]at q;exact q);obtain⟨x0,a0,b0,e0,s0⟩:=Ka.h (P:=ah) (T:=4) (e:=eB) enc W n _ d0 p0 t0;have t1:DataW.trod enc ah W 0 (λ_=>true) true n 39 [c1]=some (d1,p1):=(by have q:=hf 1 _ _ inferInstance;rw[show Tryz.prog.cellsOf 39=1 by kernel_rfl]at q;exact q);obtain⟨x1,a1,b1,e1,s1⟩:=Ka.h (P:=ah) (T:=39) (e:=(eS 1 bh)) enc W n _ d1 p1 t1;refine⟨⟨x0,x1⟩,⟨a0,a1⟩,⟨b0.1,b1.1,aq⟩,?_,?_⟩
 ·intro v hv;simp only[List.mem_cons,List.not_mem_nil,or_false]at hv;rcases hv with rfl|rfl
  ·exact e0 _ (by simp)
  exact e1 _ (by simp)
 simp only[List.map_cons,List.map_nil,Rows.uptoBulk,Rows.uptoBulkAll];omega⟩
instance:StN ah 43 2:=⟨by kernel_rfl⟩
set_option maxRecDepth 100000 in
instance:Ka ah 43 eQ (λ(z:Qr)=>((True/\(z.num.w.length<=9223372036854775807/\∀x1∈z.num.w,x1<4294967296))/\(True/\(z.den.w.length<=9223372036854775807/\∀x1∈z.den.w,x1<4294967296)))) (λ(z:Qr)=>((1+((z.num.w.map λx1=>1).sum+1)+1)+(1+((z.den.w.map λx1=>1).sum+1)+1)+1)):=⟨λenc W fuel cs d p h=>by
 obtain⟨xs,n,rfl,hl,hn,hf⟩:=Ht h;have hl:cs.length=4:=hl.trans (by kernel_rfl)
 match xs,hn with
 |[⟨d0,p0⟩,⟨d1,p1⟩],_=>
 match cs,hl with
 |[c0,c1,c2,c3],_=>
 have t0:DataW.trod enc ah W 0 (λ_=>true) true n 41 [c0,c1]=some (d0,p0):=(by have q:=hf 0 _ _ inferInstance;rw[show Tryz.prog.cellsOf 41=2 by kernel_rfl]at q;exact q);obtain⟨x0,a0,b0,e0,s0⟩:=Ka.h (P:=ah) (T:=41) (e:=eZ) enc W n _ d0 p0 t0;have t1:DataW.trod enc ah W 0 (λ_=>true) true n 41 [c2,c3]=some (d1,p1):=(by have q:=hf 1 _ _ inferInstance;rw[show Tryz.prog.cellsOf 41=2 by kernel_rfl]at q;exact q);obtain⟨x1,a1,b1,e1,s1⟩:=Ka.h (P:=ah) (T:=41) (e:=eZ) enc W n _ d1 p1 t1;refine⟨⟨x0,x1⟩,⟨a0,a1⟩,⟨b0.1,b0.2.1,b1.1,b1.2.1,aq⟩,?_,?_⟩
 ·intro v hv;simp only[List.mem_cons,List.not_mem_nil,or_false]at hv;rcases hv with rfl|rfl|rfl|rfl
  ·exact e0 _ (by simp)
  ·exact e0 _ (by simp)
  ·exact e1 _ (by simp)
  exact e1 _ (by simp)
 simp only[List.map_cons,List.map_nil,Rows.uptoBulk,Rows.uptoBulkAll];omega⟩
instance:StN ah 25 4:=⟨by kernel_rfl⟩
set_option maxRecDepth 100000 in
instance:Ka ah 25 Ol (λ(z:Lr)=>((-9223372036854775808<=z.vars/\z.vars<=9223372036854775807)/\(z.GI.length<=9223372036854775807/\∀x1∈z.GI,(x1.length<=9223372036854775807/\∀x2∈x1,((True/\(x2.num.w.length<=9223372036854775807/\∀x3∈x2.num.w,x3<4294967296))/\(True/\(x2.den.w.length<=9223372036854775807/\∀x3∈x2.den.w,x3<4294967296)))))/\(z.rows.length<=9223372036854775807/\∀x1∈z.rows,(x1.length<=9223372036854775807/\∀x2∈x1,((True/\(x2.num.w.length<=9223372036854775807/\∀x3∈x2.num.w,x3<4294967296))/\(True/\(x2.den.w.length<=9223372036854775807/\∀x3∈x2.den.w,x3<4294967296)))))/\(z.bounds.length<=9223372036854775807/\∀x1∈z.bounds,((True/\(x1.num.w.length<=9223372036854775807/\∀x2∈x1.num.w,x2<4294967296))/\(True/\(x1.den.w.length<=9223372036854775807/\∀x2∈x1.den.w,x2<4294967296)))))) (λ(z:Lr)=>(1+((z.GI.map λx1=>((x1.map λx2=>((1+((x2.num.w.map λx3=>1).sum+1)+1)+(1+((x2.den.w.map λx3=>1).sum+1)+1)+1)).sum+1)).sum+1)+((z.rows.map λx1=>((x1.map λx2=>((1+((x2.num.w.map λx3=>1).sum+1)+1)+(1+((x2.den.w.map λx3=>1).sum+1)+1)+1)).sum+1)).sum+1)+((z.bounds.map λx1=>((1+((x1.num.w.map λx2=>1).sum+1)+1)+(1+((x1.den.w.map λx2=>1).sum+1)+1)+1)).sum+1)+1)):=⟨λenc W fuel cs d p h=>by
 obtain⟨xs,n,rfl,hl,hn,hf⟩:=Ht h;have hl:cs.length=4:=hl.trans (by kernel_rfl)
 match xs,hn with
 |[⟨d0,p0⟩,⟨d1,p1⟩,⟨d2,p2⟩,⟨d3,p3⟩],_=>
 match cs,hl with
 |[c0,c1,c2,c3],_=>
 have t0:DataW.trod enc ah W 0 (λ_=>true) true n 3 [c0]=some (d0,p0):=(by have q:=hf 0 _ _ inferInstance;rw[show Tryz.prog.cellsOf 3=1 by kernel_rfl]at q;exact q);obtain⟨x0,a0,b0,e0,s0⟩:=Ka.h (P:=ah) (T:=3) (e:=bH) enc W n _ d0 p0 t0;have t1:DataW.trod enc ah W 0 (λ_=>true) true n 22 [c1]=some (d1,p1):=(by have q:=hf 1 _ _ inferInstance;rw[show Tryz.prog.cellsOf 22=1 by kernel_rfl]at q;exact q);obtain⟨x1,a1,b1,e1,s1⟩:=Ka.h (P:=ah) (T:=22) (e:=(eS 1 (eS 4 eQ))) enc W n _ d1 p1 t1;have t2:DataW.trod enc ah W 0 (λ_=>true) true n 22 [c2]=some (d2,p2):=(by have q:=hf 2 _ _ inferInstance;rw[show Tryz.prog.cellsOf 22=1 by kernel_rfl]at q;exact q);obtain⟨x2,a2,b2,e2,s2⟩:=Ka.h (P:=ah) (T:=22) (e:=(eS 1 (eS 4 eQ))) enc W n _ d2 p2 t2;have t3:DataW.trod enc ah W 0 (λ_=>true) true n 23 [c3]=some (d3,p3):=(by have q:=hf 3 _ _ inferInstance;rw[show Tryz.prog.cellsOf 23=1 by kernel_rfl]at q;exact q);obtain⟨x3,a3,b3,e3,s3⟩:=Ka.h (P:=ah) (T:=23) (e:=(eS 4 eQ)) enc W n _ d3 p3 t3;refine⟨⟨x0,x1,x2,x3⟩,⟨a0,a1,a2,a3⟩,⟨b0.1,b1.1,b2.1,b3.1,aq⟩,?_,?_⟩
 ·intro v hv;simp only[List.mem_cons,List.not_mem_nil,or_false]at hv;rcases hv with rfl|rfl|rfl|rfl
  ·exact e0 _ (by simp)
  ·exact e1 _ (by simp)
  ·exact e2 _ (by simp)
  exact e3 _ (by simp)
 simp only[List.map_cons,List.map_nil,Rows.uptoBulk,Rows.uptoBulkAll];omega⟩
instance:StN ah 38 2:=⟨by kernel_rfl⟩
set_option maxRecDepth 100000 in
instance:Ka ah 38 V1 (λ(z:Pv)=>((-9223372036854775808<=z.row/\z.row<=9223372036854775807)/\(-9223372036854775808<=z.col/\z.col<=9223372036854775807))) (λ(z:Pv)=>(1+1+1)):=⟨λenc W fuel cs d p h=>by
 obtain⟨xs,n,rfl,hl,hn,hf⟩:=Ht h;have hl:cs.length=2:=hl.trans (by kernel_rfl)
 match xs,hn with
 |[⟨d0,p0⟩,⟨d1,p1⟩],_=>
 match cs,hl with
 |[c0,c1],_=>
 have t0:DataW.trod enc ah W 0 (λ_=>true) true n 3 [c0]=some (d0,p0):=(by have q:=hf 0 _ _ inferInstance;rw[show Tryz.prog.cellsOf 3=1 by kernel_rfl]at q;exact q);obtain⟨x0,a0,b0,e0,s0⟩:=Ka.h (P:=ah) (T:=3) (e:=bH) enc W n _ d0 p0 t0;have t1:DataW.trod enc ah W 0 (λ_=>true) true n 3 [c1]=some (d1,p1):=(by have q:=hf 1 _ _ inferInstance;rw[show Tryz.prog.cellsOf 3=1 by kernel_rfl]at q;exact q);obtain⟨x1,a1,b1,e1,s1⟩:=Ka.h (P:=ah) (T:=3) (e:=bH) enc W n _ d1 p1 t1;refine⟨⟨x0,x1⟩,⟨a0,a1⟩,⟨b0.1,b1.1,aq⟩,?_,?_⟩
 ·intro v hv;simp only[List.mem_cons,List.not_mem_nil,or_false]at hv;rcases hv with rfl|rfl
  ·exact e0 _ (by simp)
  exact e1 _ (by simp)
 simp only[List.map_cons,List.map_nil,Rows.uptoBulk,Rows.uptoBulkAll];omega⟩
end
end Go.Proofs.YtningmnklfpfjaaGreat
namespace Go.Fw
section
open Go.RowKit
theorem yG{S:AS}(i o k:Nat)(E0:TypeId)(sz:Nat){T:TypeId}{cells:List AV}(hb:S.b i=some ⟨T,cells⟩)(hc:cells[o]? =some (.sv (.v (.slice none 0 0))))(hk:S.r k=.un)(hk1:k<1000):
  AB S ((AS.cL [(k,.live ⟨E0,sz,0,[]⟩)] S).oz i ⟨T,cells.set o (.row k)⟩):=by
 rintro C a w ⟨E,h⟩;have h1:=h.newRow hk hk1 [] none (.inl ⟨Y,Y⟩) (R':=⟨E0,sz,0,[]⟩) (World.ownsRow_nil w 0 E0 sz) (vs':=[]) trivial (.inl Y) (zB w none);have E4:(AS.cL [(k,.live ⟨E0,sz,0,[]⟩)] S).b i=some ⟨T,cells⟩:=hb;have hrk:(AS.cL [(k,.live ⟨E0,sz,0,[]⟩)] S).r k≠ .un:=by
  show(AS.xX S k _).r k≠_;rw[AS.lG];simp
 refine⟨_,{h1 with wf:=?_,bx:=λj B hB=>?_,inj:=λj j' B B' hB iP e=>?_,rx:=λj R hR=>?_}⟩
 ·refine⟨λt j hj=>?_,h1.wf.tr,λj B hB x hx m hm=>?_,λj B hB x hx m hm=>?_⟩
  ·obtain⟨B,hB⟩:=h1.wf.tb t j hj;by_cases e:j=i
   ·subst e;exact⟨_,AS.dO _ _ _⟩
   exact⟨B,by rw[AS.cG _ _ _ _ e];exact hB⟩
  ·have key:∃B',(AS.cL [(k,.live ⟨E0,sz,0,[]⟩)] S).b m=some B':=by
    by_cases e:j=i
    ·subst e;rw[AS.dO]at hB;cases hB;rcases List.mem_or_eq_of_mem_set hx with hx|rfl
     ·exact h1.wf.bb j _ E4 x hx m hm
     exact hm.elim
    rw[AS.cG _ _ _ _ e]at hB;exact h1.wf.bb j B hB x hx m hm
   obtain⟨B',iP⟩:=key;by_cases e:m=i
   ·subst e;exact⟨_,AS.dO _ _ _⟩
   exact⟨B',by rw[AS.cG _ _ _ _ e];exact iP⟩
  by_cases e:j=i
  ·subst e;rw[AS.dO]at hB;cases hB;rcases List.mem_or_eq_of_mem_set hx with hx|rfl
   ·exact h1.wf.br j _ E4 x hx m hm
   cases hm;exact hrk
  rw[AS.cG _ _ _ _ e]at hB;exact h1.wf.br j B hB x hx m hm
 ·by_cases e:j=i
  ·subst e;rw[AS.dO]at hB;cases hB;obtain⟨q1,q2,q3,vs,q4,q5⟩:=h1.bx j _ E4;refine⟨q1,q2,q3,vs,q4,?_⟩;obtain⟨x,hx,hv⟩:=q5.get hc;have hv:x=.slice none 0 0:=hv;have:=ei.set (i:=o) (s:=.row k) (x:=x) q5 (by
    show x=if k=k then _ else _;rw[if_pos rfl];exact hv)
   have he:vs.set o x=vs:=by
    apply List.ext_getElem?;intro n;rw[List.getElem?_set];split
    ·rename_i hn;subst hn;rw[hx];split<;>rename_i hl
     ·rfl
     have:=(List.getElem?_eq_some_iff.1 hx).1;exact absurd this hl
    rfl
   rwa[he]at this
  rw[AS.cG _ _ _ _ e]at hB;exact h1.bx j B hB
 ·have old:∀n B,((AS.cL [(k,.live ⟨E0,sz,0,[]⟩)] S).oz i ⟨T,cells.set o (.row k)⟩).b n=some B->∃B',(AS.cL [(k,.live ⟨E0,sz,0,[]⟩)] S).b n=some B':=λn B hn=>by
   by_cases e:n=i
   ·subst e;exact⟨_,E4⟩
   rw[AS.cG _ _ _ _ e]at hn;exact⟨B,hn⟩
  obtain⟨B1,p1⟩:=old j B hB;obtain⟨B2,p2⟩:=old j' B' iP;exact h1.inj j j' B1 B2 p1 p2 e
 obtain⟨p1,p2⟩:=h1.rx j R hR;refine⟨p1,λg hg=>?_⟩;obtain⟨p3,p4,p5,p6⟩:=p2 g hg;refine⟨p3,p4,p5,λn B hn=>?_⟩;by_cases e:n=i
 ·subst e;exact p6 n _ E4
 rw[AS.cG _ _ _ _ e]at hn;exact p6 n B hn
end
section
open Go.RowKit
section part
variable {P:Program}{C:Ctx}{ops:Array Oper}{acts:List Ac}{S:AS}
theorem DE(listed:Array Bool)(i:Nat)(hs:listed.size=ops.size)(hi:i<ops.size):listed.getD i true=listed.getD i false:=by
 rw[Array.getD_eq_getD_getElem?,Array.getD_eq_getD_getElem?];rw[Array.getElem?_eq_getElem (by omega)];rfl
end part
end
section
open Go.RowKit
instance{g:FuncId}{caps:List SV}:One (oO g caps):=⟨λ_ _ h=>by obtain⟨vs,rfl,_⟩:=h;rfl⟩
section steps
variable {P:Program}{C:Ctx}{ops:Array Oper}{S:AS}{nd:Bool}{K:List Ac->AS->Prop}{rest:List Oper}{acc:List Ac}
variable {gd:Option (Nat×Bool)}{rg:List Nat}{d:Nat}{ty:TypeId}{pos:String}{aft:Array Edge}{x y z:Operand}{T U E0:TypeId}
theorem RT.Fe(hg:Gd ops S gd rg){g:FuncId}{xs:Array Operand}{caps:List SV}(hc:kj S xs.toList caps)(hd:d<S.n)
  (next:RunT P C ops nd K rest (⟨rg++xs.toList.flatMap bk,[],[],⟨some (d,.sv (oO g caps)),[],[]⟩⟩::acc) (S.set d (.sv (oO g caps)))):RunT P C ops nd K (⟨some d,.makeFunc (.func g) #[] xs,ty,pos,aft,gd⟩::rest) acc S:=
 RT.value hg (xs.toList.flatMap bk) [] [] (.sv (oO g caps)) hd (by intro c h;cases h) (λS' ht _ _ E a w h=>by
  have h1:=kj.vals h hc ht;refine⟨.func (.func g) #[] ⟨xs.toList.map a.eval⟩,?_,⟨_,Y,h1⟩,ik⟩;have e2:xs.map a.eval=⟨xs.toList.map a.eval⟩:=by apply Array.ext';simp
  simp[execOp,Instr.makeFunc,e2]) next
theorem RT.ai9(hg:Gd ops S gd rg){f:FuncId}[cZ P f]{g:Operand}{xs:Array Operand}{at_:Array TypeId}{args caps:List SV}{r:SV}(hp:Pure P f (args++caps) r)(hf:S.ev g=.sv (oO f caps))(hargs:kj S xs.toList args)(hd:d<S.n)
  (next:RunT P C ops nd K rest (⟨rg++(bk g++xs.toList.flatMap bk),[],[],⟨some (d,.sv r),[],[]⟩⟩::acc) (S.set d (.sv r))):RunT P C ops nd K (⟨some d,.call ⟨.value g,xs,at_⟩,ty,pos,aft,gd⟩::rest) acc S:=by
 refine .inl ⟨_,[],[],_,?_,next⟩;rintro S' hn ht _ _ i a w L Q ho ⟨E,h⟩ hL;refine dw (C:=C) ho (hg.wanted h (λs hs=>ht s (List.mem_append_left _ hs)) Y) ?_;have As:(oO f caps).h E.M (a.eval g):=by
  have h1:=h.ev g;rw[bR (λ_ h=>List.mem_append_right _ (List.mem_append_left _ h)) ht,hf]at h1;exact h1
 obtain⟨xw,As,Kb⟩:=As;have hall:=SV.fX.append (kj.vals h hargs (λs hs=>ht s (List.mem_append_right _ (List.mem_append_right _ hs)))) Kb;have hr:(execOp a.eval ⟨some d,.call ⟨.value g,xs,at_⟩,ty,pos,aft,gd⟩).run P w=.ok (.enter f ⟨xs.toList.map a.eval++xw⟩) w:=by
  have e2:xs.map a.eval++⟨xw⟩=⟨xs.toList.map a.eval++xw⟩:=by apply Array.ext';simp
  have e1:=cZ.run (P:=P) (f:=f) (xs.map a.eval++⟨xw⟩) w;rw[<-e2];simp[execOp,resolve,As,Deferred.ofValue,invoke,e1]
 refine dm (C:=C) (by intro c h;cases h) hr ?_;refine⟨λh=>by simp at h,jN ((hp E.M w _ h.ef hall).mono ?_)⟩;rintro e w' ⟨v,M',rfl,hM,hnew,hin,hv,hb⟩;exact hL _ _ ⟨_,(h.grow hM hnew hin hb).put (x:=.sv r) hv (by show d<S'.n;omega) ik⟩
end steps
end
end Go.Fw
namespace Go.Fw.Z
section
open Go.Fw
theorem T{d n:Nat}(h:Nat.ble (d+1) n=true:=by exact rfl):d<n:=tl h
theorem bE{α β:Type}{x:Option α}{f:α->Option β}{r:β}{G:Prop}(h:Option.bind x f=some r)(k:∀a,x=some a->f a=some r->G):G:=by obtain⟨a,h1,h2⟩:=bind_some h;exact k a h1 h2
theorem lE{α β:Type}{v:α}{f:α->Option β}{r:β}{G:Prop}(h:Option.bind (some v) f=some r)(k:∀a,v=a->f a=some r->G):G:=k v Y h
theorem bS{α β:Type}{x:Option α}{f:α->Option β}{r:β}(h:Option.bind x f=some r):∃a,x=some a/\f a=some r:=bind_some h
theorem F{α:Type}{x y:Option α}{r:α}(h:(bif false then x else y)=some r):y=some r:=h
theorem V{α:Type}{x y:Option α}{r:α}(h:(bif true then x else y)=some r):x=some r:=h
theorem O{α:Type}{a b:α}(h:some a=some b):a=b:=Option.some.inj h
def F9(l:List (Nat×Nat))(i:Nat):Nat:=((l.find? λp=>Nat.beq p.1 i).map (·.2)).getD i
def rnA(l:List (Nat×Nat)):AV->AV
 |.row i=>.row (F9 l i)
 |.uZ i o n=>.uZ (F9 l i) o n
 |x=>x
def noR:AV->Bool
 |.nm _ _=>false
 |.cmp _ _=>false
 |_=>true
theorem avi(l:List (Nat×Nat)){x:AV}(h:noR x=true):Ue (F9 l) (rnA l x) x:=by
 cases x with
 |sv s=>exact .sv au
 |ptr i o=>exact .ptr
 |NY i o n c=>exact .NY
 |row i=>exact .row Y
 |nm i k=>cases h
 |uZ i o n=>exact .uZ Y
 |kT g js=>exact .kT
 |cmp t js=>cases h
theorem aja(l:List (Nat×Nat)):∀{xs:List AV},(xs.all noR)=true->QH (F9 l) (xs.map (rnA l)) xs
 |[],_=>trivial
 |x::xs,h=>by simp only[List.all_cons,Bool.and_eq_true]at h;exact⟨avi l h.1,aja l h.2⟩
theorem wR(l:List (Nat×Nat)){S:AS}{n:Nat}{ts:List (Nat×AV)}{bs:List (Nat×vS)}{rs:List (Nat×Row)}{g:Nat}{go:Bool}
  (ht:ts.map (λp=>S.t p.1)=ts.map (λp=>rnA l p.2):=by exact rfl) (hb:bs.map (λp=>S.b p.1)=bs.map (λp=>some ⟨p.2.T,p.2.cells.map (rnA l)⟩):=by exact rfl) (hr:rs.map (λp=>S.r (F9 l p.1))=rs.map (λp=>.live p.2):=by exact rfl)
  (hn:S.n=n:=by exact rfl) (hg:S.g=g:=by exact rfl) (Qx:S.go=go:=by exact rfl)
  (hwf:((ts.all λp=>p.2.xY bs rs)&&(bs.all λp=>p.2.cells.all λx=>x.xY bs rs))=true:=by exact rfl) (hσ:((rs.all λp=>rs.all λq=>!(Nat.beq (F9 l p.1) (F9 l q.1))||Nat.beq p.1 q.1))=true:=by exact rfl)
  (hno:((ts.all λp=>noR p.2)&&(bs.all λp=>p.2.cells.all noR))=true:=by exact rfl) (hl:(l.all λp=>Nat.ble (p.1+1) 1000)=true:=by exact rfl):AB S (AS.cu n ts bs rs g go):=by
 simp only[Bool.and_eq_true,List.all_eq_true]at hno;refine cz (F9 l) hn hg Qx hwf hσ ?_ ?_ ?_ ?_
 ·clear hwf hb hr;obtain⟨h,-⟩:=hno
  induction ts with
  |nil=>trivial
  |cons p ts ih=>
   obtain⟨k,x⟩:=p;simp only[List.map_cons,List.cons.injEq]at ht;refine⟨?_,ih ht.2 (λq hq=>h q (by simp[hq]))⟩;show Ue _ (S.t k) x;rw[ht.1];exact avi l (h (k,x) (by simp))
 ·clear hwf ht hr;obtain⟨-,h⟩:=hno
  induction bs with
  |nil=>trivial
  |cons p bs ih=>
   obtain⟨k,x⟩:=p;simp only[List.map_cons,List.cons.injEq]at hb;exact⟨⟨_,hb.1,aja l (List.all_eq_true.2 (h (k,x) (by simp)))⟩,ih hb.2 (λq hq=>h q (by simp[hq]))⟩
 ·clear hwf ht hb hσ
  induction rs with
  |nil=>trivial
  |cons p rs ih=>
   obtain⟨k,x⟩:=p;simp only[List.map_cons,List.cons.injEq]at hr;exact⟨⟨_,hr.1,cg.refl _⟩,ih hr.2⟩
 intro i hi;unfold F9;have:l.find? (λp=>Nat.beq p.1 i)=none:=by
  rw[List.find?_eq_none];intro p hp e;have h1:=af (List.all_eq_true.1 hl p hp);have h2:=Nat.eq_of_beq_eq_true e;omega
 rw[this];rfl
section
variable {P:Program}{C:Ctx}{S:AS}{Q:Exit->AS->Prop}
theorem qq{x y:Code}(h:Ok P C x S (aW (λS'=>Ok P C y S' Q) Q)):Ok P C (.seq x y) S Q:=cm h
theorem sr{id:Nat}{ops:Array Oper}{y:Code}(h:RunT P C ops true (λ_ S=>aW (λS'=>Ok P C y S' Q) Q .normal S) ops.toList [] S):Ok P C (.seq (.region id ops false) y) S Q:=cm (aX h)
theorem dn{ops:Array Oper}{acc:List Ac}{next:AS->Prop}(h:next S):RunT P C ops true (λ_ S=>aW next Q .normal S) [] acc S:=h
theorem cF{c:Operand}{x y:Code}(hf:Ok P C y S Q)(hc:S.ev c=.sv (.v (.bool false)):=by exact rfl):Ok P C (.cond c x y) S Q:=jc hc hf
theorem cT{c:Operand}{x y:Code}(ht:Ok P C x S Q)(hc:S.ev c=.sv (.v (.bool true)):=by exact rfl):Ok P C (.cond c x y) S Q:=e5 hc ht
theorem fs{c:Operand}{x:Code}{next:AS->Prop}(h:next S)(hc:S.ev c=.sv (.v (.bool false)):=by exact rfl):Ok P C (.cond c x .skip) S (aW next Q):=jc hc (bu h)
theorem R1{A:Prop}{e:Exit}{t:Nat}{s:SV}(h:S.t t=.sv s):(A\/e=e)/\VD P S [.tmp t] s:=⟨.inr Y,gR (.tmp h .nil) au⟩
theorem R2{A:Prop}{e:Exit}{t u:Nat}{s s':SV}(h:S.t t=.sv s)(h':S.t u=.sv s'):(A\/e=e)/\VD P S [.tmp t,.tmp u] (.Cn [s,s']):=⟨.inr Y,gR (.tmp h (.tmp h' .nil)) au⟩
theorem RZ{A:Prop}{e:Exit}{rs:List ResultVar}{ss:List SV}{r:SV}(h:Vg P S rs ss)(h':SV.imp (VL ss) r:=by exact au):(A\/e=e)/\VD P S rs r:=⟨.inr Y,gR h h'⟩
end
section
variable {P:Program}{C:Ctx}{ops:Array Oper}{S:AS}{nd:Bool}{K:List Ac->AS->Prop}{rest:List Oper}{acc:List Ac}
variable {gd:Option (Nat×Bool)}{rg:List Nat}{d:Nat}{ty:TypeId}{pos:String}{aft:Array Edge}{x y z:Operand}{T U:TypeId}{k:IntKind}{p q:Int}
theorem pF{s:SV}(hz:S.ev z=.sv s)(next:RunT P C ops nd K rest (⟨[]++(bk x++bk z),[],[],⟨some (d,.sv s),[],[]⟩⟩::acc) (S.set d (.sv s)))(hx:S.ev x=.sv (.v (.bool false)):=by exact rfl)(hd:d<S.n:=by exact tl Y):RunT P C ops nd K (⟨some d,.pick x y z,ty,pos,aft,none⟩::rest) acc S:=
 RT.ab6 .none hx hz hd next
theorem pT{s:SV}(hy:S.ev y=.sv s)(next:RunT P C ops nd K rest (⟨[]++(bk x++bk y),[],[],⟨some (d,.sv s),[],[]⟩⟩::acc) (S.set d (.sv s)))(hx:S.ev x=.sv (.v (.bool true)):=by exact rfl)(hd:d<S.n:=by exact tl Y):RunT P C ops nd K (⟨some d,.pick x y z,ty,pos,aft,none⟩::rest) acc S:=
 RT.ab5 .none hx hy hd next
theorem mo{s:AV}(hx:S.ev x=s)(next:RunT P C ops nd K rest (⟨[]++bk x,[],[],⟨some (d,s),[],[]⟩⟩::acc) (S.set d s))(hd:d<S.n:=by exact tl Y):RunT P C ops nd K (⟨some d,.move x,ty,pos,aft,none⟩::rest) acc S:=
 RT.move .none hx hd next
theorem ad(c:Int)(hx:S.ev x=.sv (.v (.int k p)))(hy:S.ev y=.sv (.v (.int k q)))(hc:k.wrap (p+q)=c)(next:RunT P C ops nd K rest (⟨[]++(bk x++bk y),[],[],⟨some (d,.sv (.v (.int k c))),[],[]⟩⟩::acc) (S.set d (.sv (.v (.int k c)))))(hd:d<S.n:=by exact tl Y):RunT P C ops nd K (⟨some d,.binOp .add T x y U,ty,pos,aft,none⟩::rest) acc S:=
 RT.add .none c hx hy hd hc next
theorem cv{j:IntKind}[tT:r9 P T j][tU:r9 P U k](c:Int){k':IntKind}(hx:S.ev x=.sv (.v (.int k' p)))(hc:k.wrap p=c)(next:RunT P C ops nd K rest (⟨[]++bk x,[],[],⟨some (d,.sv (.v (.int k c))),[],[]⟩⟩::acc) (S.set d (.sv (.v (.int k c)))))(hd:d<S.n:=by exact tl Y):RunT P C ops nd K (⟨some d,.convert T U x,ty,pos,aft,none⟩::rest) acc S:=
 RT.conv .none c hx hd hc next
theorem ls(c:Bool)(hx:S.ev x=.sv (.v (.int k p)))(hy:S.ev y=.sv (.v (.int k q)))(hc:decide (p<q)=c)(next:RunT P C ops nd K rest (⟨[]++(bk x++bk y),[],[],⟨some (d,.sv (.v (.bool c))),[],[]⟩⟩::acc) (S.set d (.sv (.v (.bool c)))))(hd:d<S.n:=by exact tl Y):RunT P C ops nd K (⟨some d,.binOp .lss T x y U,ty,pos,aft,none⟩::rest) acc S:=
 RT.lss .none c hx hy hd hc next
theorem sb(c:Int)(hx:S.ev x=.sv (.v (.int k p)))(hy:S.ev y=.sv (.v (.int k q)))(hc:k.wrap (p-q)=c)(next:RunT P C ops nd K rest (⟨[]++(bk x++bk y),[],[],⟨some (d,.sv (.v (.int k c))),[],[]⟩⟩::acc) (S.set d (.sv (.v (.int k c)))))(hd:d<S.n:=by exact tl Y):RunT P C ops nd K (⟨some d,.binOp .sub T x y U,ty,pos,aft,none⟩::rest) acc S:=
 RT.sub .none c hx hy hd hc next
theorem an{s:AV}(hx:S.ev x=s)(next:RunT P C ops nd K rest (⟨[]++bk x,[],[],⟨some (d,s),[],[]⟩⟩::acc) (S.set d s))(hd:d<S.n:=by exact tl Y):RunT P C ops nd K (⟨some d,.assign x,ty,pos,aft,none⟩::rest) acc S:=
 RT.assign .none hx hd next
theorem gt(c:Bool)(hx:S.ev x=.sv (.v (.int k p)))(hy:S.ev y=.sv (.v (.int k q)))(hc:decide (q<p)=c)(next:RunT P C ops nd K rest (⟨[]++(bk x++bk y),[],[],⟨some (d,.sv (.v (.bool c))),[],[]⟩⟩::acc) (S.set d (.sv (.v (.bool c)))))(hd:d<S.n:=by exact tl Y):RunT P C ops nd K (⟨some d,.binOp .gtr T x y U,ty,pos,aft,none⟩::rest) acc S:=
 RT.gtr .none c hx hy hd hc next
theorem eq(c:Bool)(hx:S.ev x=.sv (.v (.int k p)))(hy:S.ev y=.sv (.v (.int k q)))(hc:(p==q)=c)(next:RunT P C ops nd K rest (⟨[]++(bk x++bk y),[],[],⟨some (d,.sv (.v (.bool c))),[],[]⟩⟩::acc) (S.set d (.sv (.v (.bool c)))))(hd:d<S.n:=by exact tl Y):RunT P C ops nd K (⟨some d,.binOp .eql T x y U,ty,pos,aft,none⟩::rest) acc S:=
 RT.eql .none c hx hy hd hc next
theorem ne(c:Bool)(hx:S.ev x=.sv (.v (.int k p)))(hy:S.ev y=.sv (.v (.int k q)))(hc:(p != q)=c)(next:RunT P C ops nd K rest (⟨[]++(bk x++bk y),[],[],⟨some (d,.sv (.v (.bool c))),[],[]⟩⟩::acc) (S.set d (.sv (.v (.bool c)))))(hd:d<S.n:=by exact tl Y):RunT P C ops nd K (⟨some d,.binOp .neq T x y U,ty,pos,aft,none⟩::rest) acc S:=
 RT.neq .none c hx hy hd hc next
theorem ge(c:Bool)(hx:S.ev x=.sv (.v (.int k p)))(hy:S.ev y=.sv (.v (.int k q)))(hc:decide (q<=p)=c)(next:RunT P C ops nd K rest (⟨[]++(bk x++bk y),[],[],⟨some (d,.sv (.v (.bool c))),[],[]⟩⟩::acc) (S.set d (.sv (.v (.bool c)))))(hd:d<S.n:=by exact tl Y):RunT P C ops nd K (⟨some d,.binOp .geq T x y U,ty,pos,aft,none⟩::rest) acc S:=
 RT.geq .none c hx hy hd hc next
theorem nt{b:Bool}(hx:S.ev x=.sv (.v (.bool b)))(c:Bool)(hc:(!b)=c)(next:RunT P C ops nd K rest (⟨[]++bk x,[],[],⟨some (d,.sv (.v (.bool c))),[],[]⟩⟩::acc) (S.set d (.sv (.v (.bool c)))))(hd:d<S.n:=by exact tl Y):RunT P C ops nd K (⟨some d,.unOp .not T x,ty,pos,aft,none⟩::rest) acc S:=
 RT.not .none hx hd c hc next
theorem gF{j_ g_:Nat}{jw:Bool}{s:SV}(hz:S.ev z=.sv s)(next:RunT P C ops nd K rest (⟨[g_]++(bk x++bk z),[],[],⟨some (d,.sv s),[],[]⟩⟩::acc) (S.set d (.sv s)))(Km:(ops[j_]?).bind (·.dst)=some g_:=by exact rfl)(Kn:S.t g_=.sv (.v (.bool jw)):=by exact rfl)(hx:S.ev x=.sv (.v (.bool false)):=by exact rfl)(hd:d<S.n:=by exact tl Y):RunT P C ops nd K (⟨some d,.pick x y z,ty,pos,aft,some (j_,jw)⟩::rest) acc S:=
 RT.ab6 (.some Km Kn) hx hz hd next
theorem gT{j_ g_:Nat}{jw:Bool}{s:SV}(hy:S.ev y=.sv s)(next:RunT P C ops nd K rest (⟨[g_]++(bk x++bk y),[],[],⟨some (d,.sv s),[],[]⟩⟩::acc) (S.set d (.sv s)))(Km:(ops[j_]?).bind (·.dst)=some g_:=by exact rfl)(Kn:S.t g_=.sv (.v (.bool jw)):=by exact rfl)(hx:S.ev x=.sv (.v (.bool true)):=by exact rfl)(hd:d<S.n:=by exact tl Y):RunT P C ops nd K (⟨some d,.pick x y z,ty,pos,aft,some (j_,jw)⟩::rest) acc S:=
 RT.ab5 (.some Km Kn) hx hy hd next
theorem gq{j_ g_:Nat}{jw:Bool}(c:Bool)(hx:S.ev x=.sv (.v (.int k p)))(hy:S.ev y=.sv (.v (.int k q)))(hc:(p != q)=c)(next:RunT P C ops nd K rest (⟨[g_]++(bk x++bk y),[],[],⟨some (d,.sv (.v (.bool c))),[],[]⟩⟩::acc) (S.set d (.sv (.v (.bool c)))))(Km:(ops[j_]?).bind (·.dst)=some g_:=by exact rfl)(Kn:S.t g_=.sv (.v (.bool jw)):=by exact rfl)(hd:d<S.n:=by exact tl Y):RunT P C ops nd K (⟨some d,.binOp .neq T x y U,ty,pos,aft,some (j_,jw)⟩::rest) acc S:=
 RT.neq (.some Km Kn) c hx hy hd hc next
theorem gg{j_ g_:Nat}{jw:Bool}(c:Bool)(hx:S.ev x=.sv (.v (.int k p)))(hy:S.ev y=.sv (.v (.int k q)))(hc:decide (q<p)=c)(next:RunT P C ops nd K rest (⟨[g_]++(bk x++bk y),[],[],⟨some (d,.sv (.v (.bool c))),[],[]⟩⟩::acc) (S.set d (.sv (.v (.bool c)))))(Km:(ops[j_]?).bind (·.dst)=some g_:=by exact rfl)(Kn:S.t g_=.sv (.v (.bool jw)):=by exact rfl)(hd:d<S.n:=by exact tl Y):RunT P C ops nd K (⟨some d,.binOp .gtr T x y U,ty,pos,aft,some (j_,jw)⟩::rest) acc S:=
 RT.gtr (.some Km Kn) c hx hy hd hc next
theorem ge_{j_ g_:Nat}{jw:Bool}(c:Bool)(hx:S.ev x=.sv (.v (.int k p)))(hy:S.ev y=.sv (.v (.int k q)))(hc:(p==q)=c)(next:RunT P C ops nd K rest (⟨[g_]++(bk x++bk y),[],[],⟨some (d,.sv (.v (.bool c))),[],[]⟩⟩::acc) (S.set d (.sv (.v (.bool c)))))(Km:(ops[j_]?).bind (·.dst)=some g_:=by exact rfl)(Kn:S.t g_=.sv (.v (.bool jw)):=by exact rfl)(hd:d<S.n:=by exact tl Y):RunT P C ops nd K (⟨some d,.binOp .eql T x y U,ty,pos,aft,some (j_,jw)⟩::rest) acc S:=
 RT.eql (.some Km Kn) c hx hy hd hc next
theorem Qy{j_ g_:Nat}{jw:Bool}{b:Bool}(hx:S.ev x=.sv (.v (.bool b)))(c:Bool)(hc:(!b)=c)(next:RunT P C ops nd K rest (⟨[g_]++bk x,[],[],⟨some (d,.sv (.v (.bool c))),[],[]⟩⟩::acc) (S.set d (.sv (.v (.bool c)))))(Km:(ops[j_]?).bind (·.dst)=some g_:=by exact rfl)(Kn:S.t g_=.sv (.v (.bool jw)):=by exact rfl)(hd:d<S.n:=by exact tl Y):RunT P C ops nd K (⟨some d,.unOp .not T x,ty,pos,aft,some (j_,jw)⟩::rest) acc S:=
 RT.not (.some Km Kn) hx hd c hc next
end
section
variable {P:Program}{C:Ctx}{ops:Array Oper}{S:AS}{nd:Bool}{K:List Ac->AS->Prop}{rest:List Oper}{acc:List Ac}
variable {gd:Option (Nat×Bool)}{rg:List Nat}{d:Nat}{ty:TypeId}{pos:String}{aft:Array Edge}{x y z:Operand}{T U E0:TypeId}
theorem mv{s:SV}(hx:S.ev x=.sv s)(next:RunT P C ops nd K rest (⟨[]++bk x,[],[],⟨some (d,.sv s),[],[]⟩⟩::acc) (S.set d (.sv s)))(hd:d<S.n:=by exact tl Y):RunT P C ops nd K (⟨some d,.move x,ty,pos,aft,none⟩::rest) acc S:=
 RT.mv .none hx hd next
theorem ag{s:SV}(hx:S.ev x=.sv s)(next:RunT P C ops nd K rest (⟨[]++bk x,[],[],⟨some (d,.sv s),[],[]⟩⟩::acc) (S.set d (.sv s)))(hd:d<S.n:=by exact tl Y):RunT P C ops nd K (⟨some d,.assign x,ty,pos,aft,none⟩::rest) acc S:=
 RT.Mk .none hx hd next
theorem cl{f:FuncId}[cZ P f]{g:Operand}{xs:Array Operand}{at_:Array TypeId}{args:List SV}{r:SV}(hp:Pure P f args r)(hargs:kj S xs.toList args)(next:RunT P C ops nd K rest (⟨[]++(bk g++xs.toList.flatMap bk),[],[],⟨some (d,.sv r),[],[]⟩⟩::acc) (S.set d (.sv r)))(hf:S.ev g=.sv (.v (.func (.func f) #[] #[])):=by exact rfl)(hd:d<S.n:=by exact tl Y):RunT P C ops nd K (⟨some d,.call ⟨.value g,xs,at_⟩,ty,pos,aft,none⟩::rest) acc S:=
 RT.call .none hp hf hargs hd next
theorem ld{n:Nat}[tA:GC P T n]{j off:Nat}{B:vS}{cs:List SV}(hx:S.ev x=.ptr j off)(hB:S.b j=some B)(hcs:Ve B.cells off cs)(next:RunT P C ops nd K rest (⟨[]++bk x,[j],[],⟨some (d,.sv (.agg cs)),[],[]⟩⟩::acc) (S.set d (.sv (.agg cs))))(hn:cs.length=n:=by exact rfl)(hd:d<S.n:=by exact tl Y):RunT P C ops nd K (⟨some d,.load T x,ty,pos,aft,none⟩::rest) acc S:=
 RT.load .none hx hB hcs hn hd next
theorem lV[tV:zm P T]{j off:Nat}{B:vS}{s:SV}(hx:S.ev x=.ptr j off)(hB:S.b j=some B)(hn:B.cells[off]? =some (.sv s))(next:RunT P C ops nd K rest (⟨[]++bk x,[j],[],⟨some (d,.sv s),[],[]⟩⟩::acc) (S.set d (.sv s)))(hd:d<S.n:=by exact tl Y):RunT P C ops nd K (⟨some d,.load T x,ty,pos,aft,none⟩::rest) acc S:=
 RT.zo .none hx hB hn hd next
theorem fa{f off:Nat}[hf:DA P T f off U][sU:Lc P U]{j o:Nat}(hx:S.ev x=.ptr j o){o':Nat}(ho':o+off=o')(next:RunT P C ops nd K rest (⟨[]++bk x,[],[],⟨some (d,.ptr j o'),[],[]⟩⟩::acc) (S.set d (.ptr j o')))(hd:d<S.n:=by exact tl Y):RunT P C ops nd K (⟨some d,.fieldAddr T x f,ty,pos,aft,none⟩::rest) acc S:=
 RT.fieldAddr .none hx hd ho' next
theorem so{n:Nat}[tA:GC P T n]{j:Nat}{B:vS}{cs:List SV}[o1:yB cs](hx:S.ev x=.ptr j 0)(hB:S.b j=some B)(hy:S.ev y=.sv (.agg cs))(next:RunT P C ops nd K rest (⟨[]++(bk x++bk y),[j],[],⟨none,[(j,⟨B.T,cs.map AV.sv⟩)],[]⟩⟩::acc) (S.oz j ⟨B.T,cs.map AV.sv⟩))(uF:cs.length=n:=by exact rfl)(hn:B.cells.length=n:=by exact rfl):RunT P C ops nd K (⟨none,.store T x y,ty,pos,aft,none⟩::rest) acc S:=
 RT.store .none hx hB hy uF hn next
theorem ex{i:Nat}{ss:List SV}{s:SV}(hx:S.ev x=.sv (.Cn ss))(hi:ss[i]? =some s)(next:RunT P C ops nd K rest (⟨[]++bk x,[],[],⟨some (d,.sv s),[],[]⟩⟩::acc) (S.set d (.sv s)))(hd:d<S.n:=by exact tl Y):RunT P C ops nd K (⟨some d,.extract x i,ty,pos,aft,none⟩::rest) acc S:=
 RT.extract .none hx hi hd next
theorem bx{cells:List SV}(hx:S.ev x=.sv (.agg cells))(next:RunT P C ops nd K rest (⟨[]++bk x,[d],[],⟨some (d,.ptr d 0),[(d,⟨T,cells.map AV.sv⟩)],[]⟩⟩::acc) ((S.oz d ⟨T,cells.map AV.sv⟩).set d (.ptr d 0)))(hd:d<S.n:=by exact tl Y)(hb:S.b d=none:=by exact rfl)(hp:C.kU d=none:=by exact rfl):RunT P C ops nd K (⟨some d,.box T x,ty,pos,aft,none⟩::rest) acc S:=
 RT.box .none hx hd hb hp next
theorem lr[tV:zm P T]{cells:List SV}{s:SV}(hx:S.ev x=.sv (ref cells))(hn:cells[0]? =some s)(next:RunT P C ops nd K rest (⟨[]++bk x,[],[],⟨some (d,.sv s),[],[]⟩⟩::acc) (S.set d (.sv s)))(hd:d<S.n:=by exact tl Y):RunT P C ops nd K (⟨some d,.load T x,ty,pos,aft,none⟩::rest) acc S:=
 RT.fT .none hx hn hd next
theorem cB{f:FuncId}[cZ P f]{g:Operand}{xs:Array Operand}{at_:Array TypeId}{args:List SV}{T:TypeId}{c0 c1:List SV}{res:SV}(hp:ZZ P f args T c0 res c1)(j:Nat)(hB:S.b j=some ⟨T,c0.map AV.sv⟩)(hargs:kj S xs.toList args)(next:RunT P C ops nd K rest (⟨[]++(bk g++xs.toList.flatMap bk),[j],[],⟨some (d,.sv res),[(j,⟨T,c1.map AV.sv⟩)],[]⟩⟩::acc) ((AS.iO [(j,⟨T,c1.map AV.sv⟩)] S).set d (.sv res)))(hf:S.ev g=.kT f [.box j]:=by exact rfl)(hd:d<S.n:=by exact tl Y):RunT P C ops nd K (⟨some d,.call ⟨.value g,xs,at_⟩,ty,pos,aft,none⟩::rest) acc S:=
 RT.aiP .none hp j hB hf hargs hd next
theorem cN{f:FuncId}[cZ P f]{g:Operand}{xs:Array Operand}{at_:Array TypeId}{args:List SV}{R:Row}(hp:GF P f args R)(hargs:kj S xs.toList args)(next:RunT P C ops nd K rest (⟨[]++(bk g++xs.toList.flatMap bk),[],[d],⟨some (d,.row d),[],[(d,.live R)]⟩⟩::acc) ((AS.cL [(d,.live R)] S).set d (.row d)))(hf:S.ev g=.sv (.v (.func (.func f) #[] #[])):=by exact rfl)(hd:d<S.n:=by exact tl Y)(sY:S.r d=.un:=by exact rfl)(BP:d<1000:=by exact tl Y):RunT P C ops nd K (⟨some d,.call ⟨.value g,xs,at_⟩,ty,pos,aft,none⟩::rest) acc S:=
 RT.aiO .none hp hf hargs hd sY BP next
theorem gm{j_ g_:Nat}{jw:Bool}{s:SV}(hx:S.ev x=.sv s)(next:RunT P C ops nd K rest (⟨[g_]++bk x,[],[],⟨some (d,.sv s),[],[]⟩⟩::acc) (S.set d (.sv s)))(Km:(ops[j_]?).bind (·.dst)=some g_:=by exact rfl)(Kn:S.t g_=.sv (.v (.bool jw)):=by exact rfl)(hd:d<S.n:=by exact tl Y):RunT P C ops nd K (⟨some d,.move x,ty,pos,aft,some (j_,jw)⟩::rest) acc S:=
 RT.mv (.some Km Kn) hx hd next
theorem gl{j_ g_:Nat}{jw:Bool}{n:Nat}[tA:GC P T n]{j off:Nat}{B:vS}{cs:List SV}(hx:S.ev x=.ptr j off)(hB:S.b j=some B)(hcs:Ve B.cells off cs)(next:RunT P C ops nd K rest (⟨[g_]++bk x,[j],[],⟨some (d,.sv (.agg cs)),[],[]⟩⟩::acc) (S.set d (.sv (.agg cs))))(Km:(ops[j_]?).bind (·.dst)=some g_:=by exact rfl)(Kn:S.t g_=.sv (.v (.bool jw)):=by exact rfl)(hn:cs.length=n:=by exact rfl)(hd:d<S.n:=by exact tl Y):RunT P C ops nd K (⟨some d,.load T x,ty,pos,aft,some (j_,jw)⟩::rest) acc S:=
 RT.load (.some Km Kn) hx hB hcs hn hd next
theorem gc{j_ g_:Nat}{jw:Bool}{f:FuncId}[cZ P f]{g:Operand}{xs:Array Operand}{at_:Array TypeId}{args:List SV}{r:SV}(hp:Pure P f args r)(hargs:kj S xs.toList args)(next:RunT P C ops nd K rest (⟨[g_]++(bk g++xs.toList.flatMap bk),[],[],⟨some (d,.sv r),[],[]⟩⟩::acc) (S.set d (.sv r)))(Km:(ops[j_]?).bind (·.dst)=some g_:=by exact rfl)(Kn:S.t g_=.sv (.v (.bool jw)):=by exact rfl)(hf:S.ev g=.sv (.v (.func (.func f) #[] #[])):=by exact rfl)(hd:d<S.n:=by exact tl Y):RunT P C ops nd K (⟨some d,.call ⟨.value g,xs,at_⟩,ty,pos,aft,some (j_,jw)⟩::rest) acc S:=
 RT.call (.some Km Kn) hp hf hargs hd next
theorem gr{j_ g_:Nat}{jw:Bool}[tV:zm P T]{cells:List SV}{s:SV}(hx:S.ev x=.sv (ref cells))(hn:cells[0]? =some s)(next:RunT P C ops nd K rest (⟨[g_]++bk x,[],[],⟨some (d,.sv s),[],[]⟩⟩::acc) (S.set d (.sv s)))(Km:(ops[j_]?).bind (·.dst)=some g_:=by exact rfl)(Kn:S.t g_=.sv (.v (.bool jw)):=by exact rfl)(hd:d<S.n:=by exact tl Y):RunT P C ops nd K (⟨some d,.load T x,ty,pos,aft,some (j_,jw)⟩::rest) acc S:=
 RT.fT (.some Km Kn) hx hn hd next
end
section
variable {P:Program}{C:Ctx}{ops:Array Oper}{S:AS}{nd:Bool}{K:List Ac->AS->Prop}{rest:List Oper}{acc:List Ac}
variable {gd:Option (Nat×Bool)}{rg:List Nat}{d:Nat}{ty:TypeId}{pos:String}{aft:Array Edge}{x y z:Operand}{T U E0:TypeId}
variable {l l' k:Zy}
theorem ww{op:Op}{j g:Nat}{b want:Bool}(next:RunT P C ops nd K rest (⟨[g],[],[],⟨some (d,.sv (.v undef)),[],[]⟩⟩::acc) (S.set d (.sv (.v undef))))(h1:(ops[j]?).bind (·.dst)=some g:=by exact rfl)(h2:S.t g=.sv (.v (.bool b)):=by exact rfl)(hb:b≠want:=by exact sk Y)(hd:d<S.n:=by exact tl Y):RunT P C ops nd K (⟨some d,op,ty,pos,aft,some (j,want)⟩::rest) acc S:=
 RT.skV h1 h2 hb hd next
theorem wu{op:Op}{j g:Nat}{want:Bool}(next:RunT P C ops nd K rest (⟨[g],[],[],⟨some (d,.sv (.v undef)),[],[]⟩⟩::acc) (S.set d (.sv (.v undef))))(h1:(ops[j]?).bind (·.dst)=some g:=by exact rfl)(h2:S.t g=.sv (.v undef):=by exact rfl)(hd:d<S.n:=by exact tl Y):RunT P C ops nd K (⟨some d,op,ty,pos,aft,some (j,want)⟩::rest) acc S:=
 RT.ai5 h1 h2 hd next
end
section
variable {P:Program}{C:Ctx}{ops:Array Oper}{S:AS}{nd:Bool}{K:List Ac->AS->Prop}{rest:List Oper}{acc:List Ac}
variable {gd:Option (Nat×Bool)}{rg:List Nat}{d:Nat}{ty:TypeId}{pos:String}{aft:Array Edge}{x y z:Operand}{T U E0:TypeId}
variable {α:Type}{l l' k:List α}{e:α->List SV}{n by_:Nat}{zv:Value}
theorem ln{m:Nat}[tS:gG P T E0 m]{c:Int}(hx:S.ev x=.sv (slc n (l.map e)))(hc:(l.length:Int)=c)(next:RunT P C ops nd K rest (⟨[]++bk x,[],[],⟨some (d,.sv (.v (.int .i64 c))),[],[]⟩⟩::acc) (S.set d (.sv (.v (.int .i64 c)))))(hd:d<S.n:=by exact tl Y):RunT P C ops nd K (⟨some d,.call ⟨.builtin .len,#[x],#[T]⟩,ty,pos,aft,none⟩::rest) acc S:=
 RT.ai2 .none hx hd hc next
theorem al[tz:mw P T zv]{cs:List SV}(hi:cg (zv.cells.toList.map SV.v) cs){av:List AV}(hav:cs.map AV.sv=av)(next:RunT P C ops nd K rest (⟨[]++[],[d],[],⟨some (d,.ptr d 0),[(d,⟨T,av⟩)],[]⟩⟩::acc) ((S.oz d ⟨T,av⟩).set d (.ptr d 0)))(hd:d<S.n:=by exact tl Y)(hb:S.b d=none:=by exact rfl)(hp:C.kU d=none:=by exact rfl):RunT P C ops nd K (⟨some d,.alloc T,ty,pos,aft,none⟩::rest) acc S:=
 RT.CT .none hi hav hd hb hp next
theorem ix[tS:gG P T E0 n]{kk:IntKind}{i:Int}{a:α}(hx:S.ev x=.sv (slc n (l.map e)))(hy:S.ev y=.sv (.v (.int kk i)))(ha:cM l i=some a)(next:RunT P C ops nd K rest (⟨[]++(bk x++bk y),[],[],⟨some (d,.sv (ref (e a))),[],[]⟩⟩::acc) (S.set d (.sv (ref (e a)))))(hd:d<S.n:=by exact tl Y):RunT P C ops nd K (⟨some d,.indexAddr T x y,ty,pos,aft,none⟩::rest) acc S:=
 RT.Z7 .none hx hy hd ha next
theorem bl[tS:gG P T E0 n][tE:nE P E0 n by_ zv]{len:Nat}{parts:Array (Nat×Operand)}{qs:List (Nat×List SV)}(hp:ve S parts.toList qs)(hc:ya 0 qs=true)(hl:qs.length=len)(hsz:(qs.all λq=>Nat.beq q.2.length n)=true)(hlen:Nat.ble (len*n) 16777216=true)(Ui:(zv.cells.toList.all λv=>v.oneCell')=true)(nK:qs.map (·.2)=l.map e)(next:RunT P C ops nd K rest (⟨[]++qP parts.toList,[],[],⟨some (d,.sv (slc n (l.map e))),[],[]⟩⟩::acc) (S.set d (.sv (slc n (l.map e)))))(hd:d<S.n:=by exact tl Y):RunT P C ops nd K (⟨some d,.buildSlice T len parts,ty,pos,aft,none⟩::rest) acc S:=
 RT.jl .none hp hd hc hl hsz hlen Ui nK next
theorem iR[tS:gG P T E0 n]{i j:Nat}{E1:TypeId}{kk:IntKind}{v:Int}(hx:S.ev x=.row i)(hR:S.r i=.live (TR E1 n e l))(hy:S.ev y=.sv (.v (.int kk v)))(h:qg l v=some j)(next:RunT P C ops nd K rest (⟨[]++(bk x++bk y),[],[i],⟨some (d,.nm i (j*n)),[],[]⟩⟩::acc) (S.set d (.nm i (j*n))))(hd:d<S.n:=by exact tl Y):RunT P C ops nd K (⟨some d,.indexAddr T x y,ty,pos,aft,none⟩::rest) acc S:=
 RT.ai3 .none hx hR hy hd h next
theorem aI{s X:SV}(hx:S.ev x=.sv s)(hi:SV.imp s X)(next:RunT P C ops nd K rest (⟨[]++bk x,[],[],⟨some (d,.sv X),[],[]⟩⟩::acc) (S.set d (.sv X)))(hd:d<S.n:=by exact tl Y):RunT P C ops nd K (⟨some d,.assign x,ty,pos,aft,none⟩::rest) acc S:=
 RT.am2 .none hx hi hd next
theorem bI{pl:List (Nat×Nat)}{zc:List Value}[tP:lI P T pl zc]{parts:Array (Nat×Operand)}{qs:List (Nat×List SV)}(hp:ve S parts.toList qs){cs cs':List SV}(hi:cg cs cs')(next:RunT P C ops nd K rest (⟨[]++qP parts.toList,[],[],⟨some (d,.sv (.agg cs')),[],[]⟩⟩::acc) (S.set d (.sv (.agg cs'))))(hf:Co (λi=>pl[i]?) (zc.map SV.v) qs=some cs:=by exact rfl)(hd:d<S.n:=by exact tl Y):RunT P C ops nd K (⟨some d,.build T parts,ty,pos,aft,none⟩::rest) acc S:=
 RT.aeQ .none hp hf hi hd next
theorem lR[tV:zm P T][el:EL e 1]{i j:Nat}{E1:TypeId}{a:α}{s:SV}(hx:S.ev x=.nm i (j*1))(hR:S.r i=.live (TR E1 1 e l))(ha:l[j]? =some a)(hs:e a=[s])(next:RunT P C ops nd K rest (⟨[]++bk x,[],[i],⟨some (d,.sv s),[],[]⟩⟩::acc) (S.set d (.sv s)))(hd:d<S.n:=by exact tl Y):RunT P C ops nd K (⟨some d,.load T x,ty,pos,aft,none⟩::rest) acc S:=
 RT.aeR .none hx hR ha hs hd next
theorem aR[tS:gG P T E0 n][tE:nE P E0 n by_ zv]{i:Nat}(hx:S.ev x=.row i)(hR:S.r i=.live (TR E0 n e l))(hy:S.ev y=.sv (slc n (k.map e)))(h:mQ by_ l k=some l')(next:RunT P C ops nd K rest (⟨[]++(bk x++bk y),[],[i,d],⟨some (d,.row d),[],[(i,.dead),(d,.live (TR E0 n e l'))]⟩⟩::acc) ((AS.cL [(i,.dead),(d,.live (TR E0 n e l'))] S).set d (.row d)))(hd:d<S.n:=by exact tl Y)(sY:S.r d=.un:=by exact rfl)(BP:d<1000:=by exact tl Y):RunT P C ops nd K (⟨some d,.call ⟨.builtin .append,#[x,y],#[T,T]⟩,ty,pos,aft,none⟩::rest) acc S:=
 RT.apR .none hx hR hy hd sY BP h next
theorem sR[tV:zm P T][el:EL e 1]{i j:Nat}{E1:TypeId}{s:SV}[o1:One s](a:α)(hs:e a=[s])(hx:S.ev x=.nm i (j*1))(hR:S.r i=.live (TR E1 1 e l))(hy:S.ev y=.sv s)(h:stM l j a=some l')(next:RunT P C ops nd K rest (⟨[]++(bk x++bk y),[],[i],⟨none,[],[(i,.live (TR E1 1 e l'))]⟩⟩::acc) (AS.cL [(i,.live (TR E1 1 e l'))] S)):RunT P C ops nd K (⟨none,.store T x y,ty,pos,aft,none⟩::rest) acc S:=
 RT.am4 .none a hs hx hR hy h next
theorem sA[tA:GC P T n][el:EL e n]{i j:Nat}{E1:TypeId}(a:α)(hx:S.ev x=.nm i (j*n))(hR:S.r i=.live (TR E1 n e l))(hy:S.ev y=.sv (.agg (e a)))(h:stM l j a=some l')(next:RunT P C ops nd K rest (⟨[]++(bk x++bk y),[],[i],⟨none,[],[(i,.live (TR E1 n e l'))]⟩⟩::acc) (AS.cL [(i,.live (TR E1 n e l'))] S)):RunT P C ops nd K (⟨none,.store T x y,ty,pos,aft,none⟩::rest) acc S:=
 RT.ai4 .none a hx hR hy h next
theorem lL{m:Nat}[tS:gG P T E0 m]{i:Nat}{E1:TypeId}{c:Int}(hx:S.ev x=.row i)(hR:S.r i=.live (TR E1 n e l))(hc:(l.length:Int)=c)(next:RunT P C ops nd K rest (⟨[]++bk x,[],[i],⟨some (d,.sv (.v (.int .i64 c))),[],[]⟩⟩::acc) (S.set d (.sv (.v (.int .i64 c)))))(hd:d<S.n:=by exact tl Y):RunT P C ops nd K (⟨some d,.call ⟨.builtin .len,#[x],#[T]⟩,ty,pos,aft,none⟩::rest) acc S:=
 RT.ack .none hx hR hd hc next
theorem cR{f:FuncId}[cZ P f]{g:Operand}{xs:Array Operand}{at_:Array TypeId}{args:List AV}{E1:TypeId}{res:AV}(hp:QO P f args (TR E1 n e l) res (l'.flatMap e))(hlen:l'.length=l.length)(i:Nat)(hR:S.r i=.live (TR E1 n e l))(hargs:CM S xs.toList (args.map (AV.F9 i)))(next:RunT P C ops nd K rest (⟨[]++(bk g++xs.toList.flatMap bk),[],[i],⟨some (d,res.F9 i),[],[(i,.live (TR E1 n e l'))]⟩⟩::acc) ((AS.cL [(i,.live (TR E1 n e l'))] S).set d (res.F9 i)))(hrow:args.all AV.E6=true:=by exact rfl)(hres:res.E6=true:=by exact rfl)(hf:S.ev g=.sv (.v (.func (.func f) #[] #[])):=by exact rfl)(hd:d<S.n:=by exact tl Y):RunT P C ops nd K (⟨some d,.call ⟨.value g,xs,at_⟩,ty,pos,aft,none⟩::rest) acc S:=
 RT.aeV .none hp hlen i hR hrow hres hf hargs hd next
theorem gn{j_ g_:Nat}{jw:Bool}{m:Nat}[tS:gG P T E0 m]{c:Int}(hx:S.ev x=.sv (slc n (l.map e)))(hc:(l.length:Int)=c)(next:RunT P C ops nd K rest (⟨[g_]++bk x,[],[],⟨some (d,.sv (.v (.int .i64 c))),[],[]⟩⟩::acc) (S.set d (.sv (.v (.int .i64 c)))))(Km:(ops[j_]?).bind (·.dst)=some g_:=by exact rfl)(Kn:S.t g_=.sv (.v (.bool jw)):=by exact rfl)(hd:d<S.n:=by exact tl Y):RunT P C ops nd K (⟨some d,.call ⟨.builtin .len,#[x],#[T]⟩,ty,pos,aft,some (j_,jw)⟩::rest) acc S:=
 RT.ai2 (.some Km Kn) hx hd hc next
end
section
variable {P:Program}{C:Ctx}{ops:Array Oper}{S:AS}{nd:Bool}{K:List Ac->AS->Prop}{rest:List Oper}{acc:List Ac}
variable {gd:Option (Nat×Bool)}{rg:List Nat}{d:Nat}{ty:TypeId}{pos:String}{aft:Array Edge}{x y z:Operand}{T U E0 E1:TypeId}
theorem fl{f off:Nat}[hf:DA P T f off U][tV:zm P U]{cs:List SV}{s:SV}(hx:S.ev x=.sv (.agg cs))(hs:cs[off]? =some s)(next:RunT P C ops nd K rest (⟨[]++bk x,[],[],⟨some (d,.sv s),[],[]⟩⟩::acc) (S.set d (.sv s)))(hd:d<S.n:=by exact tl Y):RunT P C ops nd K (⟨some d,.field T x f,ty,pos,aft,none⟩::rest) acc S:=
 RT.field .none hx hs hd next
end
end
end Go.Fw.Z
namespace Go.Fw
section
open Go.RowKit
def Mem.fr(M:Mem)(N:Nat):Mem:=λb o=>if N<=b then M b o else none
theorem Mem.ajb(M:Mem)(N:Nat):(M.fr N).le M:=λb o v h=>by
 unfold Mem.fr at h;split at h
 ·exact h
 cases h
theorem Mem.Mr{M M':Mem}(h:M.le M')(N:Nat):(M.fr N).le (M'.fr N):=λb o v e=>by
 unfold Mem.fr at*;split at e
 ·rename_i hn;rw[if_pos hn];exact h b o v e
 cases e
theorem Mem.Wa(M:Mem)(N:Nat):(M.fr N).fr N=M.fr N:=by
 funext b o;unfold Mem.fr;split<;>rfl
def nw(N:Nat)(s:SV):SV:=⟨λM v=>s.h (M.fr N) v/\∀g,v.ownBlock=some g->∃o,M.fr N g o=some (.agg #[]),λhM h=>⟨s.mono (Mem.Mr hM N) h.1,λg e=>by obtain⟨o,q⟩:=h.2 g e;exact⟨o,Mem.Mr hM N _ _ _ q⟩⟩⟩
theorem fe{N:Nat}{s:SV}:SV.imp (nw N s) s:=λM _ h=>s.mono (Mem.ajb M N) h.1
instance{N:Nat}{s:SV}{n:Nat}[h:Len s n]:Len (nw N s) n:=⟨λM v hv=>h.h M v (fe M v hv)⟩
instance{N:Nat}{s:SV}{n:Nat}{rows:List (List SV)}[h:Zu s n rows]:Zu (nw N s) n rows:=⟨λM v hv=>h.h M v (fe M v hv)⟩
instance{N:Nat}{s:SV}{n sz:Nat}{f:Nat->Nat->SV}[h:Sub s n sz f]:Sub (nw N s) n sz (λa b=>nw N (f a b)):=⟨λM v hv=>by
 obtain⟨a,c,e,hc,hs⟩:=h.h (M.fr N) v hv.1;refine⟨a,c,e,hc,λlo hi h1 h2=>⟨hs lo hi h1 h2,λg hg=>hv.2 g ?_⟩⟩;subst e;cases a with
 |none=>split at hg<;>cases hg
 |some a=>
  split at hg
  ·exact hg
  have e:(a.add (lo*sz)).block=a.block:=by unfold Addr.add;split<;>rfl
  rw[show(Value.slice (Option.map (λx=>x.add (lo*sz)) (some a)) (hi-lo) (c-lo)).ownBlock=some (a.add (lo*sz)).block from rfl,e]at hg;exact hg⟩
instance{N:Nat}{s:SV}[h:One s]:One (nw N s):=⟨λM v hv=>h.h _ v hv.1⟩
class Sup (N:Nat) (s:SV):Prop where
 h:∀M v,s.h M v->s.h (M.fr N) v
instance{N:Nat}{x:Value}:Sup N (.v x):=⟨λ_ _ h=>h⟩
instance{N:Nat}{s:SV}:Sup N (nw N s):=⟨λM v h=>by show s.h ((M.fr N).fr N) v/\∀g,v.ownBlock=some g->∃o,(M.fr N).fr N g o=some (.agg #[]);rw[Mem.Wa];exact h⟩
class aah (N:Nat) (l:List SV):Prop where
 h:∀s∈l,∀M v,s.h M v->s.h (M.fr N) v
instance{N:Nat}:aah N []:=⟨λs h=>by cases h⟩
instance{N:Nat}{s:SV}{l:List SV}[a:Sup N s][b:aah N l]:aah N (s::l):=⟨λt ht=>by
 rcases List.mem_cons.1 ht with rfl|ht
 ·exact a.h
 exact b.h t ht⟩
class Ms (N:Nat) {α:Type} (e:α->List SV):Prop where
 h:∀x,aah N (e x)
instance{N:Nat}:Ms N bh:=⟨λ_=>inferInstance⟩
instance{N:Nat}:Ms N bH:=⟨λ_=>inferInstance⟩
abbrev fZ(N:Nat)(z:Zr):List SV:=[.v (.bool z.neg),nw N (slc 1 (z.w.map bh))]
abbrev fQ(N:Nat)(q:Qr):List SV:=[.v (.bool q.num.neg),nw N (slc 1 (q.num.w.map bh)),.v (.bool q.den.neg),nw N (slc 1 (q.den.w.map bh))]
instance{N:Nat}:EL (fQ N) 4:=⟨λ_=>rfl,λ_=>inferInstance⟩
instance{N:Nat}:Ms N (fQ N):=⟨λ_=>inferInstance⟩
theorem bt{α:Type}{N n:Nat}{e:α->List SV}:SV.imp (.v (.slice none 0 0)) (nw N (slc n (([]:List α).map e))):=λ_ _ h=>⟨.inl ⟨none,h,rfl⟩,λg e=>by rw[show _=Value.slice none 0 0 from h]at e;cases e⟩
theorem SU{α:Type}{n:Nat}{e e':α->List SV}(h:∀x,cg (e' x) (e x))(l:List α):SV.imp (slc n (l.map e')) (slc n (l.map e)):=by
 rintro M v (⟨a,h1,h2⟩|⟨b,o,c,h1,h2,h3,h4⟩)
 ·exact .inl ⟨a,h1,by have:=List.map_eq_nil_iff.1 h2;rw[this];rfl⟩
 refine .inr ⟨b,o,c,by simpa using h1,by simpa using h2,by simpa using h3,λi row hr=>?_⟩;rw[List.getElem?_map]at hr;cases hx:l[i]? with
 |none=>rw[hx]at hr;cases hr
 |some x=>
  rw[hx]at hr;have hr:e x=row:=Option.some.inj hr;subst hr;obtain⟨g1,g2⟩:=h4 i (e' x) (by rw[List.getElem?_map,hx];rfl);refine⟨by rw[cg.len (h x)];exact g1,λk s hs=>?_⟩;obtain⟨s2,ES,hi⟩:=cg.get (h x) hs;obtain⟨y,hy,ho,hh⟩:=g2 k s2 ES;exact⟨y,hy,ho,hi M y hh⟩
theorem zI(N:Nat)(z:Zr):cg (fZ N z) (eZ z):=⟨au,fe,aq⟩
theorem qI(N:Nat)(q:Qr):cg (fQ N q) (eQ q):=⟨au,fe,au,fe,aq⟩
theorem Um{N:Nat}{l:List Qr}:SV.imp (nw N (slc 4 (l.map (fQ N)))) (slc 4 (l.map eQ)):=λM v h=>SU (qI N) l M v (fe M v h)
theorem Mt{N n:Nat}{α:Type}{e:α->List SV}[he:Ms N e]{l:List α}{M:Mem}{v:Value}(h:(slc n (l.map e)).h M v)(hb:∀g,v.ownBlock=some g->N<=g/\∃o,M g o=some (.agg #[])):(nw N (slc n (l.map e))).h M v:=by
 refine⟨?_,λg hg=>by obtain⟨h1,o,h2⟩:=hb g hg;exact⟨o,by unfold Mem.fr;rw[if_pos h1];exact h2⟩⟩;rcases h with⟨a,h1,h2⟩|⟨b,o,c,h1,h2,h3,h4⟩
 ·exact .inl ⟨a,h1,h2⟩
 have hN:N<=b:=(hb b (by rw[h1];rfl)).1;refine .inr ⟨b,o,c,h1,h2,h3,λi row hr=>⟨(h4 i row hr).1,λk s hs=>?_⟩⟩;obtain⟨y,hy,ho,hh⟩:=(h4 i row hr).2 k s hs;refine⟨y,by unfold Mem.fr;rw[if_pos hN];exact hy,ho,?_⟩;rw[List.getElem?_map]at hr;cases hx:l[i]? with
 |none=>rw[hx]at hr;cases hr
 |some x=>
  rw[hx]at hr;have hr:e x=row:=Option.some.inj hr;subst hr;exact(he.h x).h s (List.mem_of_getElem? hs) M y hh
section
variable {P:Program}{C:Ctx}{S:AS}{Q:Exit->AS->Prop}
theorem bz.aai{E:Env}{a:Act}{w:World}(h:bz C S E a w)(vs:List Value)(T:TypeId)(hone:∀v∈vs,v.oneCell'=true):bz C S {E with M:=λb o=>if b=w.heap.size then(vs++[.agg #[]])[o]? else E.M b o} a (w.alloc (.cells ⟨vs⟩ T)):=by
 have hno:∀o,E.M w.heap.size o=none:=λo=>by
  cases e:E.M w.heap.size o with
  |none=>rfl
  |some v=>have:=uI h.ef e;omega
 refine h.grow (λb o v e=>?_) (λb o v e=>?_) (λb o v e=>?_) (((Below.refl _ _).alloc (Nat.le_refl _) _))
 ·have:b≠w.heap.size:=by rintro rfl;rw[hno o]at e;cases e
  simp[this,e]
 ·by_cases hb:b=w.heap.size
  ·exact .inr (by omega)
  simp only[if_neg hb]at e;exact .inl e
 by_cases hb:b=w.heap.size
 ·subst hb;simp only[if_true]at e;by_cases ho:o<vs.length
  ·rw[List.getElem?_append_left ho]at e;refine .of ?_ (hone v (List.mem_of_getElem? e));rw[World.cell?_alloc_new];simpa using e
  rw[List.getElem?_append_right (by omega)]at e;cases SW:o-vs.length with
  |succ k=>rw[SW]at e;simp at e
  |zero=>
   rw[SW]at e;simp at e;subst e;exact⟨⟨vs⟩,T,by show(w.heap.push _)[w.heap.size]? =_;rw[Array.getElem?_push,if_pos rfl]⟩
 simp only[if_neg hb]at e;refine(h.ef b o v e).same ?_;show(w.heap.push _)[b]? =_;rw[Array.getElem?_push,if_neg hb]
theorem ku{c:Code}{i n N:Nat}{E1:TypeId}{α:Type}{e:α->List SV}{l:List α}[el:EL e n][he:Ms N e](hN:N<=C.w0.heap.size)(hb:∀k,¬C.BN k)(hR:S.r i=.live (TR E1 n e l))(hk:Ok P C c (S.vc i (nw N (slc n (l.map e)))) Q):Ok P C c S Q:=λa w hs=>by
 obtain⟨E,h⟩:=hs;have hlen:l.length<=9223372036854775807:=by
  obtain⟨⟨vs,ho,hv⟩,_⟩:=h.rx i _ hR;rcases ho.2 with⟨_,q2⟩|⟨g',cap,cur,q1,_,q2,q3,q4,q5,q6⟩
  ·have q2:l.length=0:=q2;omega
  have q3:l.length<=cap:=q3;have:maxLen=9223372036854775807:=by decide
  omega
 exact hk a w (h.vc hR (yF l) (by rw[List.length_map]) hlen (sD l) (λM v hv hg=>Mt hv (λg e=>⟨(hg g e).1.elim (λq=>Nat.le_trans hN q) (λq=>absurd q (hb g)),(hg g e).2⟩)))
def dB(P:Program)(f:FuncId)(N:Nat)(args:List SV)(r:SV):Prop:=
 ∀(M:Mem) (w:World) (vs:List Value),N<=w.heap.size->M.ef w->SV.fX M args vs->
  Calls P f ⟨vs⟩ w λe w'=>∃v M',e=.returned v/\M.le M'/\(∀b o x,M' b o=some x->M b o=some x\/w.heap.size<=b)/\M'.ef w'/\r.h M' v/\Below w.heap.size w w'
theorem dB.w{f:FuncId}{N:Nat}{args args':List SV}{r:SV}(h:dB P f N args r)(hi:cg args' args):dB P f N args' r:=λM w vs hN hM hv=>h M w vs hN hM (hi.holds hv)
theorem bT{f:FuncId}{fn:Func}{code:Code}{N:Nat}{args:List SV}{r:SV}(hf:P.funcs[f]? =some fn)(hb:fn.body=some code)(hn:args.length<=fn.ntmps)
  (h:∀(w:World) (M:Mem) (vs:List Value),N<=w.heap.size->SV.fX M args vs->Ok P (Mh w M) code (AS.init fn.ntmps args) (λe S=>(e=.normal\/e=.ret)/\VD P S fn.results.toList r)):dB P f N args r:=by
 intro M w vs hN hM hvs;refine(callsIn_wide (n:=0)).1 (callsIn_of_wp_marks (F:=Fence.wide) hf hb trivial ?_);refine wpIn_mono (h w M vs hN hvs _ w ⟨_,nJ hM hvs hn⟩) ?_;rintro e a' w' ⟨S',⟨he,ss,hss,himp⟩,E,hh⟩;have key:LeavesInM Fence.wide 0 P fn a'.tmps (λe w'=>∃v M',e=.returned v/\M.le M'/\(∀b o x,M' b o=some x->M b o=some x\/w.heap.size<=b)/\M'.ef w'/\r.h M' v/\Below w.heap.size w w') a'.defers .returning w':=by
  obtain⟨ds,h1,h2,h3⟩:=hh.marks;rw[h1];refine vz ds w' h2 (λr hr=>(h3 r hr).2.2) (λw2 g1 g2 g3 g4 g5=>?_);have Ki:=hh.HY h3 g1 g2 g3 g4 g5;obtain⟨v,hv,hs⟩:=Mg Ki hss;refine⟨v,hv,v,E.M,Y,Ki.m0,λb o x e=>?_,Ki.ef,himp _ _ hs,Ki.os,Ki.tape,Ki.output,Ki.grown,λk hk=>Ki.frame k hk (λh=>h)⟩;rcases Ki.gE b o x e with h|h|h
  ·exact .inl h
  ·exact .inr h
  exact h.elim
 rcases he with rfl|rfl
 ·exact key
 exact key
theorem aaj{f:FuncId}{N:Nat}{args:List SV}{E1:TypeId}{n:Nat}{α:Type}{e:α->List SV}{l:List α}[el:EL e n][he:Ms N e](hp:GF P f args (TR E1 n e l)):dB P f N args (nw N (slc n (l.map e))):=by
 intro M w vs hN hM hvs;refine(hp M w vs hM hvs).mono ?_;rintro ex w' ⟨v,M',us,rfl,hle,hnew,hin,hown,EY,pN,aak⟩;have nK:Rows n (l.map e) (l.flatMap e):=yF l;have uF:=AF nK;rcases hown.2 with⟨h1,h2⟩|⟨g,cap,cur,h1,_,h2,h3,_,h5,h6⟩
 ·exact⟨v,M',rfl,hle,hnew,hin,⟨.inl ⟨none,h1,by have h2:l.length=0:=h2;rw[List.length_eq_zero_iff.1 h2];rfl⟩,λg e=>by rw[h1]at e;cases e⟩,aak⟩
 have hg:v.ownBlock=some g:=by rw[h1];rfl
 obtain⟨hge,hno⟩:=pN g hg;have h3:l.length<=cap:=h3;have at7:maxLen=9223372036854775807:=by decide
 refine⟨v,λb o=>if b=g/\o<l.length*n then us[o]? else if b=g/\o=l.length*n then some (.agg #[])else M' b o,Y,λb o x q=>?_,λb o x q=>?_,λb o x q=>?_,?_,aak⟩
 ·have:=hle b o x q;have:b≠g:=by rintro rfl;rw[hno o]at this;cases this
  simp[this];assumption
 ·simp only at q;split at q
  ·rename_i hc;exact .inr (by rw[hc.1];exact hge)
  split at q
  ·rename_i hc;exact .inr (by rw[hc.1];exact hge)
  exact hnew b o x q
 ·simp only at q;split at q
  ·rename_i hc;obtain⟨rfl,N8⟩:=hc;refine .of ?_ (sD l _ _ EY x (List.mem_of_getElem? q));simp only[World.cell?,h2];have h6:cur.toList.take (l.length*n)=us:=h6;rw[<-h6,List.getElem?_take,if_pos N8]at q;simpa using q
  split at q
  ·rename_i hc;cases q;rw[hc.1];exact⟨_,_,h2⟩
  exact hin b o x q
 refine Mt ?_ (λg' e'=>by rw[hg]at e';cases e';exact⟨Nat.le_trans hN hge,l.length*n,by simp⟩);refine .inr ⟨g,0,cap,by rw[h1,List.length_map],by rw[List.length_map];exact h3,by rw[List.length_map];omega,λk row hk=>?_⟩;obtain⟨q1,q2⟩:=yC nK k row hk;refine⟨q1,λj s hs=>?_⟩;have ES:=q2 j s hs;obtain⟨y,hy,hys⟩:=EY.get ES;have hlt:k*n+j<l.length*n:=by
  have:=(List.getElem?_eq_some_iff.1 ES).1;rw[uF,List.length_map]at this;exact this
 refine⟨y,by simp[hlt,hy],sD l _ _ EY y (List.mem_of_getElem? hy),s.mono (λb o x q=>?_) hys⟩;have:b≠g:=by rintro rfl;rw[hno o]at q;cases q
 simp[this,q]
end
section
variable {P:Program}{C:Ctx}{ops:Array Oper}{S:AS}{nd:Bool}{K:List Ac->AS->Prop}{rest:List Oper}{acc:List Ac}
variable {gd:Option (Nat×Bool)}{rg:List Nat}{d:Nat}{ty:TypeId}{pos:String}{aft:Array Edge}{x y z:Operand}{T U E0:TypeId}
variable {α:Type}{l l' k:List α}{e:α->List SV}{n by_ N:Nat}{zv:Value}
theorem RT.bX(hg:Gd ops S gd rg){f:FuncId}[cZ P f]{g:Operand}{xs:Array Operand}{at_:Array TypeId}{args:List SV}{r:SV}(hp:dB P f N args r)(hN:N<=C.w0.heap.size)(hf:S.ev g=.sv (.v (.func (.func f) #[] #[])))(hargs:kj S xs.toList args)(hd:d<S.n)
  (next:RunT P C ops nd K rest (⟨rg++(bk g++xs.toList.flatMap bk),[],[],⟨some (d,.sv r),[],[]⟩⟩::acc) (S.set d (.sv r))):RunT P C ops nd K (⟨some d,.call ⟨.value g,xs,at_⟩,ty,pos,aft,gd⟩::rest) acc S:=by
 refine .inl ⟨_,[],[],_,?_,next⟩;rintro S' hn ht _ _ i a w L Q ho ⟨E,h⟩ hL;refine dw (C:=C) ho (hg.wanted h (λs hs=>ht s (List.mem_append_left _ hs)) Y) ?_;have As:a.eval g=.func (.func f) #[] #[]:=by
  have h1:=h.ev g;rw[bR (λ_ h=>List.mem_append_right _ (List.mem_append_left _ h)) ht,hf]at h1;exact h1
 have hall:=kj.vals h hargs (λs hs=>ht s (List.mem_append_right _ (List.mem_append_right _ hs)));have hr:(execOp a.eval ⟨some d,.call ⟨.value g,xs,at_⟩,ty,pos,aft,gd⟩).run P w=.ok (.enter f ⟨xs.toList.map a.eval⟩) w:=by
  have e2:xs.map a.eval=⟨xs.toList.map a.eval⟩:=by apply Array.ext';simp
  have e1:=cZ.run (P:=P) (f:=f) (xs.map a.eval) w;rw[<-e2];simp[execOp,resolve,As,Deferred.ofValue,invoke,e1]
 refine dm (C:=C) (by intro c h;cases h) hr ?_;refine⟨λh=>by simp at h,jN ((hp E.M w _ (Nat.le_trans hN h.grown) h.ef hall).mono ?_)⟩;rintro e w' ⟨v,M',rfl,hM,hnew,hin,hv,hb⟩;exact hL _ _ ⟨_,(h.grow hM hnew hin hb).put (x:=.sv r) hv (by show d<S'.n;omega) ik⟩
theorem RT.Lm(hg:Gd ops S gd rg){m:Nat}[tS:gG P T E0 m]{c:Int}(hx:S.ev x=.sv (nw N (slc n (l.map e))))(hd:d<S.n)(hc:(l.length:Int)=c)
  (next:RunT P C ops nd K rest (⟨rg++bk x,[],[],⟨some (d,.sv (.v (.int .i64 c))),[],[]⟩⟩::acc) (S.set d (.sv (.v (.int .i64 c))))):RunT P C ops nd K (⟨some d,.call ⟨.builtin .len,#[x],#[T]⟩,ty,pos,aft,gd⟩::rest) acc S:=
 RT.len hg hx hd (by rw[List.length_map,hc];exact next)
theorem RT.ajc(hg:Gd ops S gd rg)[tS:gG P T E0 n]{kk:IntKind}{i:Int}{a:α}(hx:S.ev x=.sv (nw N (slc n (l.map e))))(hy:S.ev y=.sv (.v (.int kk i)))(hd:d<S.n)(ha:cM l i=some a)
  (next:RunT P C ops nd K rest (⟨rg++(bk x++bk y),[],[],⟨some (d,.sv (ref (e a))),[],[]⟩⟩::acc) (S.set d (.sv (ref (e a))))):RunT P C ops nd K (⟨some d,.indexAddr T x y,ty,pos,aft,gd⟩::rest) acc S:=
 RT.indexAddr hg (e a) hx hy hd (yD ha).1 (by rw[List.getElem?_map,(yD ha).2];rfl) next
theorem RT.aal(hg:Gd ops S gd rg)[tS:gG P T E0 n]{lo hi:Option Operand}(a b:Int)(hx:S.ev x=.sv (nw N (slc n (l.map e))))(hlo:H9 S 0 lo a)(hhi:H9 S l.length hi b)(hd:d<S.n)(h:GH l a b=some l')
  (next:RunT P C ops nd K rest (⟨rg++(bk x++(vf lo++vf hi)),[],[],⟨some (d,.sv (nw N (slc n (l'.map e)))),[],[]⟩⟩::acc) (S.set d (.sv (nw N (slc n (l'.map e)))))):RunT P C ops nd K (⟨some d,.slice T x lo hi none,ty,pos,aft,gd⟩::rest) acc S:=by
 obtain⟨h0,h1,h2,h3⟩:=Le h;exact RT.slice hg hx a b hlo (by rw[List.length_map];exact hhi) hd h0 h1 (by rw[List.length_map];exact h2) _ (by rw[SJ,h3]) next
theorem RT.ajd(hg:Gd ops S gd rg)[tS:gG P T E0 n][tE:nE P E0 n by_ zv][el:EL e n][he:Ms N e]{i:Nat}(hN:N<=C.w0.heap.size)(hb:∀k,¬C.BN k)(hx:S.ev x=.row i)(hR:S.r i=.live (TR E0 n e l))(hy:S.ev y=.sv (slc n (k.map e)))(hd:d<S.n)(sY:S.r d=.un)(BP:d<1000)(h:mQ by_ l k=some l')
  (next:RunT P C ops nd K rest (⟨rg++(bk x++bk y),[],[d,i],⟨some (d,.sv (nw N (slc n (l'.map e)))),[],[(i,.dead),(d,.dead)]⟩⟩::acc) ((AS.cL [(i,.dead),(d,.dead)] S).set d (.sv (nw N (slc n (l'.map e)))))):RunT P C ops nd K (⟨some d,.call ⟨.builtin .append,#[x,y],#[T,T]⟩,ty,pos,aft,gd⟩::rest) acc S:=by
 obtain⟨h1,h2,rfl⟩:=AH h;have hf:l.flatMap e++(k.map e).flatten=(l++k).flatMap e:=by simp[yE]
 exact RT.SO hg (.row hx hR) hy hd sY BP (by simpa using h1) (by simpa using h2) _ (rows':=(l++k).map e) (λ_ _ hv hg=>Mt hv (λg e=>⟨(hg g e).1.elim (λq=>Nat.le_trans hN q) (λq=>absurd q (hb g)),(hg g e).2⟩)) (by rw[hf];exact yF _) (by simp) (by rw[hf];exact sD _) next
theorem RT.DL(hg:Gd ops S gd rg)[tS:gG P T E0 n][tE:nE P E0 n by_ zv][he:Ms N e](hN:N<=C.w0.heap.size){len:Nat}{parts:Array (Nat×Operand)}{qs:List (Nat×List SV)}(hp:ve S parts.toList qs)(hd:d<S.n)
  (hc:ya 0 qs=true) (hl:qs.length=len) (hsz:(qs.all λq=>Nat.beq q.2.length n)=true) (hlen:Nat.ble (len*n) 16777216=true) (Ui:(zv.cells.toList.all λv=>v.oneCell')=true) (nK:qs.map (·.2)=l.map e)
  (next:RunT P C ops nd K rest (⟨rg++qP parts.toList,[],[],⟨some (d,.sv (nw N (slc n (l.map e)))),[],[]⟩⟩::acc) (S.set d (.sv (nw N (slc n (l.map e)))))):RunT P C ops nd K (⟨some d,.buildSlice T len parts,ty,pos,aft,gd⟩::rest) acc S:=by
 refine .inl ⟨_,[],[],_,?_,next⟩;rintro S' hn ht _ _ i a w L Q ho ⟨E,h⟩ hL;refine dw (C:=C) ho (hg.wanted h (λs hs=>ht s (List.mem_append_left _ hs)) Y) ?_;obtain⟨vs,hr,hall,hone⟩:=vT (P:=P) (T:=T) (E0:=E0) (n:=n) (by_:=by_) (zv:=zv) (d:=d) (ty:=ty) (pos:=pos) (aft:=aft) (gd:=gd) h hp (λs hs=>ht s (List.mem_append_right _ hs)) hc hl hsz (af hlen) (List.all_eq_true.1 Ui);refine dm (C:=C) (by intro c h;cases h) hr (hL _ _ ⟨_,(h.aai vs E0 hone).put (d:=d) (x:=.sv (nw N (slc n (l.map e)))) (v:=.slice (some ⟨w.heap.size,0,none⟩) len len) ?_ (by show d<S'.n;omega) ik⟩);have hrw:Rows n (qs.map (·.2)) (qs.map (·.2)).flatten:=⟨Y,λr hr=>by
  obtain⟨q,hq,rfl⟩:=List.mem_map.1 hr;exact Nat.eq_of_beq_eq_true (List.all_eq_true.1 hsz q hq)⟩
 have VK:=tE.p;have hlb:len<=16777216:=Nat.le_trans (Nat.le_mul_of_pos_right _ VK) (af hlen);refine Mt ?_ (λg e=>by cases e;exact⟨Nat.le_trans hN h.grown,vs.length,by simp⟩);rw[<-nK];refine .inr ⟨w.heap.size,0,len,by rw[List.length_map,hl],by rw[List.length_map,hl];exact Nat.le_refl _,by rw[List.length_map,hl];omega,λk row hk=>?_⟩;obtain⟨q1,q2⟩:=yC hrw k row hk;refine⟨q1,λj s hs=>?_⟩;obtain⟨y,hy,hys⟩:=hall.get (q2 j s hs);refine⟨y,by show(if w.heap.size=w.heap.size then(vs++[Value.agg #[]])[0+k*n+j]? else _)=_;rw[if_pos Y,Nat.zero_add,List.getElem?_append_left (List.getElem?_eq_some_iff.1 hy).1];exact hy,hone y (List.mem_of_getElem? hy),s.mono (λb o v e=>?_) hys⟩;have:b≠w.heap.size:=by rintro rfl;have:=uI h.ef e;omega
 simp[this,e]
end
end
section
open Go.RowKit
abbrev fS(N n:Nat){α:Type}(e:α->List SV)(x:List α):List SV:=[nw N (slc n (x.map e))]
instance{N n:Nat}{α:Type}{e:α->List SV}:EL (fS N n e) 1:=⟨λ_=>rfl,λ_=>inferInstance⟩
instance{N n:Nat}{α:Type}{e:α->List SV}:Ms N (fS N n e):=⟨λ_=>inferInstance⟩
theorem eM{P:Program}{f:FuncId}{args:List SV}{r:Nat->SV}{s:SV}(hp:∀N,dB P f N args (r N))(hi:∀N,SV.imp (r N) s):Pure P f args s:=λM w vs hM hv=>(hp w.heap.size M w vs (Nat.le_refl _) hM hv).mono (λ_ _ ⟨v,M',h1,h2,h3,h4,h5,h6⟩=>⟨v,M',h1,h2,h3,h4,hi _ _ _ h5,h6⟩)
theorem aam{N:Nat}{l:List (List Qr)}:SV.imp (nw N (slc 1 (l.map (fS N 4 (fQ N))))) (slc 1 (l.map (eS 4 eQ))):=λM v h=>SU (e':=fS N 4 (fQ N)) (e:=eS 4 eQ) (λ_=>⟨Um,aq⟩) l M v (fe M v h)
section steps
variable {P:Program}{C:Ctx}{ops:Array Oper}{S:AS}{nd:Bool}{K:List Ac->AS->Prop}{rest:List Oper}{acc:List Ac}{N:Nat}
variable {gd:Option (Nat×Bool)}{rg:List Nat}{d:Nat}{ty:TypeId}{pos:String}{aft:Array Edge}{x y z:Operand}{T U E0:TypeId}
theorem RT.aeY(hg:Gd ops S gd rg){f:FuncId}[cZ P f]{g:Operand}{xs:Array Operand}{at_:Array TypeId}{args caps:List SV}{r:SV}(hp:dB P f N (args++caps) r)(hN:N<=C.w0.heap.size)(hf:S.ev g=.sv (oO f caps))(hargs:kj S xs.toList args)(hd:d<S.n)
  (next:RunT P C ops nd K rest (⟨rg++(bk g++xs.toList.flatMap bk),[],[],⟨some (d,.sv r),[],[]⟩⟩::acc) (S.set d (.sv r))):RunT P C ops nd K (⟨some d,.call ⟨.value g,xs,at_⟩,ty,pos,aft,gd⟩::rest) acc S:=by
 refine .inl ⟨_,[],[],_,?_,next⟩;rintro S' hn ht _ _ i a w L Q ho ⟨E,h⟩ hL;refine dw (C:=C) ho (hg.wanted h (λs hs=>ht s (List.mem_append_left _ hs)) Y) ?_;have As:(oO f caps).h E.M (a.eval g):=by
  have h1:=h.ev g;rw[bR (λ_ h=>List.mem_append_right _ (List.mem_append_left _ h)) ht,hf]at h1;exact h1
 obtain⟨xw,As,Kb⟩:=As;have hall:=SV.fX.append (kj.vals h hargs (λs hs=>ht s (List.mem_append_right _ (List.mem_append_right _ hs)))) Kb;have hr:(execOp a.eval ⟨some d,.call ⟨.value g,xs,at_⟩,ty,pos,aft,gd⟩).run P w=.ok (.enter f ⟨xs.toList.map a.eval++xw⟩) w:=by
  have e2:xs.map a.eval++⟨xw⟩=⟨xs.toList.map a.eval++xw⟩:=by apply Array.ext';simp
  have e1:=cZ.run (P:=P) (f:=f) (xs.map a.eval++⟨xw⟩) w;rw[<-e2];simp[execOp,resolve,As,Deferred.ofValue,invoke,e1]
 refine dm (C:=C) (by intro c h;cases h) hr ?_;refine⟨λh=>by simp at h,jN ((hp E.M w _ (Nat.le_trans hN h.grown) h.ef hall).mono ?_)⟩;rintro e w' ⟨v,M',rfl,hM,hnew,hin,hv,hb⟩;exact hL _ _ ⟨_,(h.grow hM hnew hin hb).put (x:=.sv r) hv (by show d<S'.n;omega) ik⟩
end steps
end
end Go.Fw
namespace Go.Proofs.YtningmnklfpfjaaGreat
section
open Go.Fw
noncomputable def gz(x0:List Nat):Option (List Nat):=mQ 4 [] x0
noncomputable def cI(x0:Nat)(c0:Nat):Option (Nat×Nat):=(some ((x0+c0)%18446744073709551616)).bind λx6=>(some (x6/2^32)).bind λx8=>(some (x6%4294967296)).bind λdG=>some (dG,x8)
noncomputable def bO(x0:List Nat):Option (List Nat):=(b9 (λ(GJ:(List Nat))=>(show Option (((List Nat))⊕((List Nat)))from cJ (λ(Ip:Bool)=>(bif Ip then(some (GJ.length:Int)).bind λdR=>(some (IntKind.i64.wrap (dR-1))).bind λeE=>(GH GJ 0 eE).bind λjb=>some (.inl jb)else some (.inr GJ))) λGK=>(some (GJ.length:Int)).bind λx4=>(some (decide ((0:Int)<x4))).bind λx5=>(bif x5 then(some (GJ.length:Int)).bind λx9=>(some (IntKind.i64.wrap (x9-1))).bind λdG=>(cM GJ dG).bind λff=>(some (decide ((ff:Nat)=0))).bind λeY=>some eY else some false).bind λFf=>GK Ff)) x0).bind λIq=>some Iq
noncomputable def dx(x0:Bool)(x1:List Nat):Option (Zr):=(bO x1).bind λx6=>(some (x6.length:Int)).bind λx8=>(some (decide ((x8:Int)=0))).bind λx9=>(bif x9 then some ⟨false,[]⟩else some ⟨x0,x6⟩)
noncomputable def iq(x0:Bool)(x1:Nat):Option (Zr):=(some (decide ((x1:Nat)=0))).bind λx7=>(bif x7 then some ⟨false,[]⟩else(some (x1/2^32)).bind λff=>(some (decide ((ff:Nat)=0))).bind λc8=>(bif c8 then(some (x1%4294967296)).bind λdN=>some ⟨x0,[dN]⟩else(some (x1%4294967296)).bind λgK=>(some (x1/2^32)).bind λiK=>(some (iK%4294967296)).bind λgU=>some ⟨x0,[gK,gU]⟩))
noncomputable def fG(x0:List Nat):Option (Nat):=(some (x0.length:Int)).bind λx4=>(some (decide ((x4:Int)=0))).bind λx6=>(bif x6 then some 0 else(some (decide ((x4:Int)=1))).bind λx8=>(bif x8 then(cM x0 0).bind λdG=>(some (dG%18446744073709551616)).bind λc8=>some c8 else(cM x0 0).bind λdV=>(some (dV%18446744073709551616)).bind λeX=>(cM x0 1).bind λeE=>(some (eE%18446744073709551616)).bind λgK=>(some (gK*2^32%18446744073709551616)).bind λgh=>(some ((eX ||| gh)%18446744073709551616)).bind λiK=>some iK))
noncomputable def dS(x0:List Nat)(x1:List Nat):Option (Int):=(some (x0.length:Int)).bind λx7=>(some (x1.length:Int)).bind λx9=>(some (decide ((x7:Int)≠x9))).bind λdG=>(bif dG then(some (x0.length:Int)).bind λc8=>(some (x1.length:Int)).bind λdV=>(some (decide ((c8:Int)<dV))).bind λdN=>(bif dN then some (-1)else some 1)else(some (x0.length:Int)).bind λdR=>(some (IntKind.i64.wrap (dR-1))).bind λeE=>(b9 (λ(iA:Int)=>(show Option ((Int)⊕((Unit)⊕(Int)))from(some (decide ((0:Int)<=iA))).bind λgK=>(bif gK then(cM x0 iA).bind λke=>(cM x1 iA).bind λiM=>(some (decide ((ke:Nat)≠iM))).bind λnu=>(bif nu then(cM x0 iA).bind λyy=>(cM x1 iA).bind λuL=>(some (decide ((yy:Nat)<uL))).bind λlj=>(bif lj then some (.inr (.inr (-1)))else some (.inr (.inr 1)))else(some (IntKind.i64.wrap (iA-1))).bind λiK=>some (.inl iK))else some (.inr (.inl ()))))) eE).bind λe6=>match e6 with|.inr v6=>some v6|.inl _=>some 0)
noncomputable def gX(x0:List Nat)(x1:List Nat):Option (List Nat):=(some (x0.length:Int)).bind λdG=>(some (x1.length:Int)).bind λc8=>(some (max (dG:Int) c8)).bind λeY=>(some (IntKind.i64.wrap (eY+1))).bind λdV=>(VU (α:=Nat) 4 dV).bind λdN=>(uK (λ(k:Nat) (s7:Nat×(List Nat))=>match s7 with|⟨DM,nL⟩=>(show Option (Nat×(List Nat))from(some (x0.getD k 0%18446744073709551616)).bind λp20=>(some (x1.getD k 0%18446744073709551616)).bind λp21=>(some ((p20+p21)%18446744073709551616)).bind λji=>(cI ji DM).bind λ⟨ir,k9⟩=>(mQ 4 nL [ir]).bind λiM=>some (k9,iM))) (max x0.length x1.length) (0,dN)).bind λe7=>match e7 with|⟨DM,nL⟩=>(cI 0 DM).bind λ⟨jY,k11⟩=>(mQ 4 nL [jY]).bind λyy=>some yy
noncomputable def eG(x0:List Nat)(x1:List Nat):Option (List Nat):=(some (x0.length:Int)).bind λdG=>(VU (α:=Nat) 4 dG).bind λff=>(uK (λ(k:Nat) (s7:Nat×(List Nat))=>match s7 with|⟨Hu,nL⟩=>(show Option (Nat×(List Nat))from(some (x0.getD k 0%18446744073709551616)).bind λp16=>(some (x1.getD k 0%18446744073709551616)).bind λp17=>(some (vV 18446744073709551616 4294967295 p17)).bind λiK=>(some ((p16+iK)%18446744073709551616)).bind λgU=>(cI gU Hu).bind λ⟨gV,k9⟩=>(mQ 4 nL [gV]).bind λji=>some (k9,ji))) (max x0.length x1.length) (1,ff)).bind λe7=>match e7 with|⟨Hu,nL⟩=>some nL
noncomputable def jI(x0:List Nat)(x1:List Nat):Option (List Nat):=(some (x0.length:Int)).bind λc8=>(some (x1.length:Int)).bind λdV=>(some (IntKind.i64.wrap (c8+dV))).bind λdN=>(J9 4 dN (0:Nat)).bind λeX=>(some (x0.length:Int)).bind λeE=>(b9 (λ(Uo:Int×(List Nat))=>match Uo with|⟨vY,Mu⟩=>(show Option ((Int×(List Nat))⊕((List Nat)))from(some (decide ((vY:Int)<eE))).bind λgK=>(bif gK then(cM x0 vY).bind λiK=>(some (x1.length:Int)).bind λji=>(b9 (λ(SX:Int×Nat×(List Nat))=>match SX with|⟨Fg,DN,CV⟩=>(show Option ((Int×Nat×(List Nat))⊕(Nat×(List Nat)))from(some (decide ((Fg:Int)<ji))).bind λlp=>(bif lp then(cM x1 Fg).bind λuM=>(some (IntKind.i64.wrap (vY+Fg))).bind λpC=>(some (IntKind.i64.wrap (vY+Fg))).bind λlj=>(qg CV lj).bind λyH=>(CV[yH]?).bind λpD=>(some (pD%18446744073709551616)).bind λyz=>(some (iK%18446744073709551616)).bind λyd=>(some (uM%18446744073709551616)).bind λxl=>(some ((yd*xl)%18446744073709551616)).bind λuN=>(some ((yz+uN)%18446744073709551616)).bind λx49=>(cI x49 DN).bind λ⟨Au,k41⟩=>(qg CV pC).bind λBS=>(stM CV BS Au).bind λl42=>(some (IntKind.i64.wrap (Fg+1))).bind λAy=>some (.inl (Ay,k41,l42))else some (.inr (DN,CV))))) (0,0,Mu)).bind λe38=>match e38 with|⟨Ow,QZ⟩=>(some (x1.length:Int)).bind λGL=>(some (IntKind.i64.wrap (vY+GL))).bind λGb=>(cI 0 Ow).bind λ⟨Ln,k45⟩=>(qg QZ Gb).bind λQz=>(stM QZ Qz Ln).bind λl46=>(some (IntKind.i64.wrap (vY+1))).bind λN2=>some (.inl (N2,l46))else some (.inr Mu)))) (0,eX)).bind λCW=>some CW
noncomputable def lJ(x0:List Nat)(x1:Nat):Option (Nat×List Nat):=(some (x0.length:Int)).bind λx9=>(some (IntKind.i64.wrap (x9-1))).bind λdG=>(b9 (λ(s8:Nat×Int×(List Nat))=>match s8 with|⟨Wb,Ox,zC⟩=>(show Option ((Nat×Int×(List Nat))⊕(Nat×(List Nat)))from(some (decide ((0:Int)<=Ox))).bind λc8=>(bif c8 then(some (Wb*2^32%18446744073709551616)).bind λeX=>(qg zC Ox).bind λjb=>(zC[jb]?).bind λgK=>(some (gK%18446744073709551616)).bind λgh=>(some ((eX ||| gh)%18446744073709551616)).bind λiK=>(Mm 18446744073709551616 iK x1).bind λir=>(some (ir%4294967296)).bind λlp=>(qg zC Ox).bind λiM=>(stM zC iM lp).bind λCc=>(Kl iK x1).bind λjY=>(some (IntKind.i64.wrap (Ox-1))).bind λdV=>some (.inl (jY,dV,Cc))else some (.inr (Wb,zC))))) (0,dG,x0)).bind λe8=>match e8 with|⟨ajf,Hv⟩=>(Cs x0 Hv).bind λ_=>some (ajf,Hv)
noncomputable def iQ(x0:List Nat)(x1:Nat):Option (List Nat):=(some (x0.length:Int)).bind λff=>(some (IntKind.i64.wrap (ff+1))).bind λc8=>(VU (α:=Nat) 4 c8).bind λeY=>(some (x0.length:Int)).bind λdN=>(b9 (λ(s8:Int×Nat×(List Nat))=>match s8 with|⟨DO,zD,nL⟩=>(show Option ((Int×Nat×(List Nat))⊕(Nat×(List Nat)))from(some (decide ((DO:Int)<dN))).bind λdR=>(bif dR then(cM x0 DO).bind λeE=>(some (eE%18446744073709551616)).bind λgU=>(some (gU*2^(min x1 64)%18446744073709551616)).bind λke=>(cI ke zD).bind λ⟨ji,k10⟩=>(mQ 4 nL [ji]).bind λlp=>(some (IntKind.i64.wrap (DO+1))).bind λiM=>some (.inl (iM,k10,lp))else some (.inr (zD,nL))))) (0,0,eY)).bind λe8=>match e8 with|⟨Ir,Wc⟩=>(cI 0 Ir).bind λ⟨jY,k12⟩=>(mQ 4 Wc [jY]).bind λyy=>some yy
noncomputable def mA(x0:List Nat)(x1:Nat):Option (List Nat):=(some (x0.length:Int)).bind λff=>(some (IntKind.i64.wrap (ff+1))).bind λc8=>(VU (α:=Nat) 4 c8).bind λeY=>(some (x0.length:Int)).bind λdN=>(b9 (λ(s8:Int×Nat×(List Nat))=>match s8 with|⟨DO,zD,ye⟩=>(show Option ((Int×Nat×(List Nat))⊕(Nat×(List Nat)))from(some (decide ((DO:Int)<dN))).bind λdR=>(bif dR then(cM x0 DO).bind λeE=>(some (eE%18446744073709551616)).bind λgU=>(some (gU*2^(min x1 64)%18446744073709551616)).bind λke=>(cI ke zD).bind λ⟨ji,k10⟩=>(mQ 4 ye [ji]).bind λlp=>(some (IntKind.i64.wrap (DO+1))).bind λiM=>some (.inl (iM,k10,lp))else some (.inr (zD,ye))))) (0,0,eY)).bind λe8=>match e8 with|⟨Ir,yf⟩=>(cI 0 Ir).bind λ⟨jY,k12⟩=>(mQ 4 yf [jY]).bind λyy=>some yy
noncomputable def kx(x0:Nat):Option (Int):=(some (decide ((65536:Nat)<=x0))).bind λx4=>cJ (λ(j2:Nat×Int)=>match j2 with|⟨Q0,aao⟩=>(some (decide ((256:Nat)<=Q0))).bind λx8=>cJ (λ(j4:Nat×Int)=>match j4 with|⟨ajg,ajh⟩=>(some (ajg%256)).bind λdN=>(Cr [0,1,2,2,3,3,3,3,4,4,4,4,4,4,4,4,5,5,5,5,5,5,5,5,5,5,5,5,5,5,5,5,6,6,6,6,6,6,6,6,6,6,6,6,6,6,6,6,6,6,6,6,6,6,6,6,6,6,6,6,6,6,6,6,7,7,7,7,7,7,7,7,7,7,7,7,7,7,7,7,7,7,7,7,7,7,7,7,7,7,7,7,7,7,7,7,7,7,7,7,7,7,7,7,7,7,7,7,7,7,7,7,7,7,7,7,7,7,7,7,7,7,7,7,7,7,7,7,8,8,8,8,8,8,8,8,8,8,8,8,8,8,8,8,8,8,8,8,8,8,8,8,8,8,8,8,8,8,8,8,8,8,8,8,8,8,8,8,8,8,8,8,8,8,8,8,8,8,8,8,8,8,8,8,8,8,8,8,8,8,8,8,8,8,8,8,8,8,8,8,8,8,8,8,8,8,8,8,8,8,8,8,8,8,8,8,8,8,8,8,8,8,8,8,8,8,8,8,8,8,8,8,8,8,8,8,8,8,8,8,8,8,8,8,8,8,8,8,8,8,8,8,8,8,8,8] ((dN:Nat):Int)).bind λeX=>(some (IntKind.i64.wrap (eX:Int))).bind λdR=>(some (IntKind.i64.wrap (ajh+dR))).bind λeE=>some eE) λK4=>(bif x8 then(some (Q0/2^8)).bind λdG=>(some (IntKind.i64.wrap (aao+8))).bind λc8=>K4 (dG,c8)else K4 (Q0,aao))) λK2=>(bif x4 then(some (x0/2^16)).bind λx6=>K2 (x6,16)else K2 (x0,0))
noncomputable def fg(x0:Nat):Option (Int):=(kx x0).bind λx4=>(some (IntKind.i64.wrap (32-x4))).bind λx5=>some x5
noncomputable def lK(x0:List Nat)(o0:Nat)(n0:Nat)(x1:List Nat):Option (Nat×List Nat):=(some (x1.length:Int)).bind λc8=>(Zz o0 n0 c8).bind λdN=>(x0[dN]?).bind λeX=>(some (eX%18446744073709551616)).bind λdR=>(some (dR*2^32%18446744073709551616)).bind λeE=>(some (IntKind.i64.wrap (c8-1))).bind λgh=>(Zz o0 n0 gh).bind λiK=>(x0[iK]?).bind λgU=>(some (gU%18446744073709551616)).bind λgV=>(some ((eE ||| gV)%18446744073709551616)).bind λke=>(some (IntKind.i64.wrap (c8-1))).bind λlp=>(cM x1 lp).bind λiM=>(some (iM%18446744073709551616)).bind λnu=>(some (IntKind.i64.wrap (c8-2))).bind λyy=>(cM x1 yy).bind λpC=>(some (pC%18446744073709551616)).bind λpE=>(Mm 18446744073709551616 ke nu).bind λlj=>(Kl ke nu).bind λyz=>(b9 (λ(uG:Nat×Nat)=>match uG with|⟨Ko,Lo⟩=>(show Option ((Nat×Nat)⊕(Nat))from cJ (λ(Q1:Bool)=>(bif Q1 then(some (vV 18446744073709551616 Ko 1)).bind λx63=>(some ((Lo+nu)%18446744073709551616)).bind λMv=>(some (Mv/2^32)).bind λQ2=>(some (decide ((Q2:Nat)≠0))).bind λWd=>(bif Wd then some (.inr x63)else some (.inl (x63,Mv)))else some (.inr Ko))) λGK=>(some (Ko/2^32)).bind λyd=>(some (decide ((yd:Nat)≠0))).bind λyI=>(bif yI then some true else(some ((Ko*pE)%18446744073709551616)).bind λAu=>(some (Lo*2^32%18446744073709551616)).bind λAy=>(some (IntKind.i64.wrap (c8-2))).bind λCX=>(Zz o0 n0 CX).bind λGL=>(x0[GL]?).bind λGb=>(some (Gb%18446744073709551616)).bind λQA=>(some ((Ay ||| QA)%18446744073709551616)).bind λLn=>(some (decide ((Ln:Nat)<Au))).bind λQz=>some Qz).bind λWe=>GK We)) (lj,yz)).bind λUp=>(Cs x0 x0).bind λ_=>some (Up,x0)
noncomputable def eI(x0:List Nat)(o0:Nat)(n0:Nat)(x1:List Nat)(x2:Nat):Option (Bool×List Nat):=(some (n0:Int)).bind λdV=>(b9 (λ(Ah:Nat×Int×Nat×(List Nat))=>match Ah with|⟨Uq,DP,Mw,BT⟩=>(show Option ((Nat×Int×Nat×(List Nat))⊕(Nat×(List Nat)))from(some (decide ((DP:Int)<dV))).bind λeX=>(bif eX then(some (x1.length:Int)).bind λgK=>(some (decide ((DP:Int)<gK))).bind λgh=>cJ (λ(Wf:Nat)=>(Zz o0 n0 DP).bind λnu=>(BT[nu]?).bind λjY=>(some (jY%18446744073709551616)).bind λow=>(cI Wf Mw).bind λ⟨nF,k16⟩=>(some (nF%18446744073709551616)).bind λpE=>(some (vV 18446744073709551616 ow pE)).bind λuL=>(some (vV 18446744073709551616 uL Uq)).bind λlj=>(some (lj%4294967296)).bind λsj=>(Zz o0 n0 DP).bind λyd=>(stM BT yd sj).bind λl18=>(some (lj/2^63)).bind λxl=>(some (IntKind.i64.wrap (DP+1))).bind λuN=>some (.inl (xl,uN,k16,l18))) λK14=>(bif gh then(cM x1 DP).bind λgV=>(some (gV%18446744073709551616)).bind λji=>(some ((ji*x2)%18446744073709551616)).bind λlp=>K14 lp else K14 0)else some (.inr (Uq,BT))))) (0,0,0,x0)).bind λUr=>match Ur with|⟨Wg,DQ⟩=>(some (decide ((Wg:Nat)≠0))).bind λAu=>(Cs x0 DQ).bind λ_=>some (Au,DQ)
noncomputable def mR(x0:List Nat)(x1:List Nat):Option ((List Nat)×(List Nat)):=(some (x1.length:Int)).bind λdR=>(some (IntKind.i64.wrap (dR-1))).bind λgK=>(cM x1 gK).bind λgh=>(fg gh).bind λgU=>(some ((gU%18446744073709551616).toNat)).bind λgV=>(mA x0 gV).bind λir=>(iQ x1 gV).bind λuM=>(GH uM 0 dR).bind λjY=>(some (x0.length:Int)).bind λyy=>(some (IntKind.i64.wrap (yy-dR))).bind λnF=>(some (IntKind.i64.wrap (nF+1))).bind λpE=>(J9 4 pE (0:Nat)).bind λuL=>(some (x0.length:Int)).bind λlj=>(some (IntKind.i64.wrap (lj-dR))).bind λpD=>(b9 (λ(s36:Int×(List Nat)×(List Nat))=>match s36 with|⟨nM,AK,CY⟩=>(show Option ((Int×(List Nat)×(List Nat))⊕((List Nat)×(List Nat)))from(some (decide ((0:Int)<=nM))).bind λsj=>(bif sj then(some (IntKind.i64.wrap (nM+dR))).bind λBS=>(some (IntKind.i64.wrap (BS+1))).bind λAy=>(ckS CY nM Ay).bind λ⟨o53,n53⟩=>(lK CY o53 n53 jY).bind λ⟨CX,l38⟩=>(Cs CY l38).bind λ_=>(some (IntKind.i64.wrap (nM+dR))).bind λQz=>(some (IntKind.i64.wrap (Qz+1))).bind λN2=>(ckS l38 nM N2).bind λ⟨o62,n62⟩=>(eI l38 o62 n62 jY CX).bind λ⟨SY,ZA⟩=>(Cs l38 ZA).bind λ_=>cJ (λ(j53:Nat×(List Nat))=>match j53 with|⟨Wh,Q3⟩=>(some (Wh%4294967296)).bind λQ4=>(qg AK nM).bind λaji=>(stM AK aji Q4).bind λl55=>(some (IntKind.i64.wrap (nM-1))).bind λyI=>some (.inl (yI,l55,Q3))) λK53=>(bif SY then(some (vV 18446744073709551616 CX 1)).bind λVh=>(some (jY.length:Int)).bind λx70=>(b9 (λ(s65:Int×Nat×(List Nat))=>match s65 with|⟨Fh,DR,CZ⟩=>(show Option ((Int×Nat×(List Nat))⊕(Nat×(List Nat)))from(some (decide ((Fh:Int)<x70))).bind λOy=>(bif Oy then(cM jY Fh).bind λx74=>(some (IntKind.i64.wrap (nM+Fh))).bind λUs=>(some (IntKind.i64.wrap (nM+Fh))).bind λZB=>(qg CZ ZB).bind λx85=>(CZ[x85]?).bind λQ5=>(some (Q5%18446744073709551616)).bind λx87=>(some (x74%18446744073709551616)).bind λZC=>(some ((x87+ZC)%18446744073709551616)).bind λVi=>(cI Vi DR).bind λ⟨x91,k68⟩=>(qg CZ Us).bind λx92=>(stM CZ x92 x91).bind λl69=>(some (IntKind.i64.wrap (Fh+1))).bind λx93=>some (.inl (x93,k68,l69))else some (.inr (DR,CZ))))) (0,0,ZA)).bind λe65=>match e65 with|⟨Oz,Is⟩=>(some (IntKind.i64.wrap (nM+dR))).bind λx97=>(some (IntKind.i64.wrap (nM+dR))).bind λDS=>(qg Is DS).bind λKp=>(Is[Kp]?).bind λKq=>(some (Kq%18446744073709551616)).bind λKr=>(cI Kr Oz).bind λ⟨Q6,k72⟩=>(qg Is x97).bind λajj=>(stM Is ajj Q6).bind λl73=>K53 (Vh,l73)else K53 (CX,ZA))else some (.inr (AK,CY))))) (pD,uL,ir)).bind λe36=>match e36 with|⟨It,Fi⟩=>(J9 4 dR (0:Nat)).bind λIu=>(b9 (λ(s81:Int×(List Nat))=>match s81 with|⟨BU,DT⟩=>(show Option ((Int×(List Nat))⊕((List Nat)))from(some (decide ((BU:Int)<dR))).bind λQ7=>(bif Q7 then(qg Fi BU).bind λajk=>(Fi[ajk]?).bind λUt=>(some (Ut%18446744073709551616)).bind λae7=>(some (IntKind.i64.wrap (BU+1))).bind λajl=>(qg Fi ajl).bind λUu=>(Fi[Uu]?).bind λajm=>(some (ajm%18446744073709551616)).bind λae8=>(some (ae8*2^32%18446744073709551616)).bind λQ8=>(some ((ae7 ||| Q8)%18446744073709551616)).bind λae9=>(some (ae9/2^(min gV 64))).bind λajn=>(some (ajn%4294967296)).bind λafa=>(qg DT BU).bind λajo=>(stM DT ajo afa).bind λl83=>(some (IntKind.i64.wrap (BU+1))).bind λafb=>some (.inl (afb,l83))else some (.inr DT)))) (0,Iu)).bind λzE=>some (It,zE)
noncomputable def jJ(x0:List Nat)(x1:List Nat):Option ((List Nat)×(List Nat)):=(dS x0 x1).bind λc8=>(some (decide ((c8:Int)<0))).bind λeY=>(bif eY then(gz x0).bind λdN=>some ([],dN)else(some (x0.length:Int)).bind λeE=>(some (decide ((eE:Int)<=2))).bind λjb=>(bif jb then(fG x0).bind λgh=>(fG x1).bind λgU=>(Mm 18446744073709551616 gh gU).bind λji=>(iq false ji).bind λ⟨SZ,OA⟩=>(Kl gh gU).bind λnu=>(iq false nu).bind λ⟨yJ,xx⟩=>some (OA,xx)else(some (x1.length:Int)).bind λnF=>(some (decide ((nF:Int)=1))).bind λpE=>(bif pE then(gz x0).bind λyg=>(cM x1 0).bind λpD=>(some (pD%18446744073709551616)).bind λsj=>(lJ yg sj).bind λ⟨yd,l5⟩=>(Cs yg l5).bind λ_=>(some (yd%4294967296)).bind λuN=>some (l5,[uN])else(mR x0 x1).bind λ⟨ajp,ajq⟩=>some (ajp,ajq))))
noncomputable def cW(x0:Int):Option (Zr):=(some ((x0%18446744073709551616).toNat)).bind λx5=>(some (decide ((x0:Int)<0))).bind λx7=>cJ (λ(OB:Nat)=>(some (decide ((x0:Int)<0))).bind λff=>(iq ff OB).bind λ⟨AL,AM⟩=>some ⟨AL,AM⟩) λK2=>(bif x7 then(some (vV 18446744073709551616 0 x5)).bind λx9=>K2 x9 else K2 x5)
noncomputable def fu(x0:Zr):Option (Int×Bool):=match x0 with|⟨bn,bp⟩=>(bO bp).bind λx8=>(some (x8.length:Int)).bind λdG=>(some (decide ((2:Int)<dG))).bind λff=>(bif ff then some (0,false)else(fG x8).bind λeY=>(bif bn then(some (decide ((9223372036854775808:Nat)<eY))).bind λdR=>(bif dR then some (0,false)else(some (vV 18446744073709551616 0 eY)).bind λjb=>(some (IntKind.i64.wrap (jb:Int))).bind λgK=>some (gK,true))else(some (decide ((9223372036854775808:Nat)<=eY))).bind λiK=>(bif iK then some (0,false)else(some (IntKind.i64.wrap (eY:Int))).bind λgV=>some (gV,true))))
noncomputable def eW(x0:Bool)(x1:List Nat)(x2:Bool)(x3:List Nat):Option (Zr):=(some (x0==x2)).bind λff=>(bif ff then(gX x1 x3).bind λdN=>(dx x0 dN).bind λ⟨qh,qi⟩=>some ⟨qh,qi⟩else(dS x1 x3).bind λjb=>(some (decide ((jb:Int)<0))).bind λgK=>(bif gK then(eG x3 x1).bind λgV=>(dx x2 gV).bind λ⟨nv,mS⟩=>some ⟨nv,mS⟩else(eG x1 x3).bind λiM=>(dx x0 iM).bind λ⟨sn,sq⟩=>some ⟨sn,sq⟩))
noncomputable def tK(x0:Zr)(x1:Zr):Option (Zr):=match x0 with|⟨bn,bp⟩=>match x1 with|⟨ct,cj⟩=>(fu ⟨bn,bp⟩).bind λ⟨AN,DU⟩=>(fu ⟨ct,cj⟩).bind λ⟨Mx,Q9⟩=>cJ (λ(Iv:Bool)=>cJ (λ(j5:Unit)=>(bO bp).bind λyH=>(bO cj).bind λyI=>(eW bn yH ct yI).bind λ⟨Gc,Ge⟩=>some ⟨Gc,Ge⟩) λK5=>(bif Iv then(some (IntKind.i64.wrap (AN+Mx))).bind λji=>(some (IntKind.i64.wrap ((BitVec.ofInt 64 AN ^^^ BitVec.ofInt 64 ji).toNat))).bind λiM=>(some (IntKind.i64.wrap ((BitVec.ofInt 64 Mx ^^^ BitVec.ofInt 64 ji).toNat))).bind λjY=>(some (IntKind.i64.wrap ((BitVec.ofInt 64 iM &&& BitVec.ofInt 64 jY).toNat))).bind λow=>(some (decide ((0:Int)<=ow))).bind λyy=>(bif yy then(cW ji).bind λ⟨Gf,Gg⟩=>some ⟨Gf,Gg⟩else K5 ())else K5 ())) λK3=>(bif DU then some Q9 else some false).bind λOC=>K3 OC
noncomputable def tL(x0:Zr)(x1:Zr):Option (Zr):=match x0 with|⟨bn,bp⟩=>match x1 with|⟨ct,cj⟩=>(fu ⟨bn,bp⟩).bind λ⟨AN,DU⟩=>(fu ⟨ct,cj⟩).bind λ⟨Mx,Q9⟩=>cJ (λ(Iv:Bool)=>cJ (λ(j5:Unit)=>(bO bp).bind λyH=>(some (!ct)).bind λsj=>(bO cj).bind λxl=>(eW bn yH sj xl).bind λ⟨acu,acv⟩=>some ⟨acu,acv⟩) λK5=>(bif Iv then(some (IntKind.i64.wrap (AN-Mx))).bind λji=>(some (IntKind.i64.wrap ((BitVec.ofInt 64 AN ^^^ BitVec.ofInt 64 Mx).toNat))).bind λiM=>(some (IntKind.i64.wrap ((BitVec.ofInt 64 AN ^^^ BitVec.ofInt 64 ji).toNat))).bind λjY=>(some (IntKind.i64.wrap ((BitVec.ofInt 64 iM &&& BitVec.ofInt 64 jY).toNat))).bind λow=>(some (decide ((0:Int)<=ow))).bind λyy=>(bif yy then(cW ji).bind λ⟨Gf,Gg⟩=>some ⟨Gf,Gg⟩else K5 ())else K5 ())) λK3=>(bif DU then some Q9 else some false).bind λOC=>K3 OC
noncomputable def dU(x0:Zr)(x1:Zr):Option (Zr):=match x0 with|⟨bn,bp⟩=>match x1 with|⟨ct,cj⟩=>(bO bp).bind λx9=>(bO cj).bind λc8=>cJ (λ(AO:Bool)=>(bif AO then(some (!(bn==ct))).bind λke=>(fG x9).bind λir=>(fG c8).bind λiM=>(some ((ir*iM)%18446744073709551616)).bind λuM=>(iq ke uM).bind λ⟨OD,OE⟩=>some ⟨OD,OE⟩else(some (!(bn==ct))).bind λnF=>(jI x9 c8).bind λyg=>(dx nF yg).bind λ⟨vh,vi⟩=>some ⟨vh,vi⟩)) λK3=>(some (x9.length:Int)).bind λdV=>(some (decide ((dV:Int)<=1))).bind λdN=>(bif dN then(some (c8.length:Int)).bind λeE=>(some (decide ((eE:Int)<=1))).bind λjb=>some jb else some false).bind λacw=>K3 acw
noncomputable def jx(x0:Zr):Option (Zr):=match x0 with|⟨bn,bp⟩=>(some (!bn)).bind λx5=>(bO bp).bind λx8=>(gz x8).bind λx9=>(dx x5 x9).bind λ⟨AP,AQ⟩=>some ⟨AP,AQ⟩
noncomputable def dW(x0:Zr):Option (Int):=match x0 with|⟨bn,bp⟩=>(bO bp).bind λx6=>(some (x6.length:Int)).bind λx7=>(some (decide ((x7:Int)=0))).bind λx8=>(bif x8 then some 0 else(bif bn then some (-1)else some 1))
noncomputable def tN(x0:Zr)(x1:Zr):Option (Int):=match x0 with|⟨bn,bp⟩=>match x1 with|⟨ct,cj⟩=>(dW ⟨bn,bp⟩).bind λx8=>(dW ⟨ct,cj⟩).bind λdG=>(some (decide ((x8:Int)<dG))).bind λdV=>(bif dV then some (-1)else(some (decide ((dG:Int)<x8))).bind λeE=>(bif eE then some 1 else(some (decide ((x8:Int)<0))).bind λgh=>(bif gh then(bO cj).bind λgV=>(bO bp).bind λir=>(dS gV ir).bind λlp=>some lp else(bO bp).bind λnu=>(bO cj).bind λyy=>(dS nu yy).bind λpC=>some pC)))
noncomputable def iD(x0:Zr)(x1:Zr):Option (Zr×Zr×Int):=match x0 with|⟨bn,bp⟩=>match x1 with|⟨ct,cj⟩=>(bO bp).bind λeY=>(bO cj).bind λeX=>(some (eX.length:Int)).bind λeE=>(some (decide ((eE:Int)=0))).bind λjb=>(bif jb then some (⟨false,[]⟩,⟨false,[]⟩,7)else(jJ eY eX).bind λ⟨Iw,My⟩=>(bO My).bind λiM=>cJ (λ(j3:Bool×Bool)=>match j3 with|⟨Wi,C0⟩=>cJ (λ(j5:(List Nat)×(List Nat))=>match j5 with|⟨Wj,OF⟩=>(some (!(C0==ct))).bind λxl=>(dx xl Wj).bind λ⟨OG,OH⟩=>(dx false OF).bind λ⟨Lp,Lq⟩=>some (⟨OG,OH⟩,⟨Lp,Lq⟩,0)) λK5=>(bif Wi then(gX Iw [1]).bind λyg=>(eG eX iM).bind λpD=>K5 (yg,pD)else K5 (Iw,iM))) λK3=>(bif bn then(some (iM.length:Int)).bind λyy=>(some (decide ((0:Int)<yy))).bind λpC=>some pC else some false).bind λacy=>K3 (acy,bn))
noncomputable def qj(x0:Zr)(x1:Zr):Option (Zr):=match x0 with|⟨bn,bp⟩=>match x1 with|⟨ct,cj⟩=>(bO bp).bind λeY=>(bO cj).bind λeX=>(b9 (λ(Ah:(List Nat)×(List Nat))=>match Ah with|⟨GM,sF⟩=>(show Option (((List Nat)×(List Nat))⊕((List Nat)×(List Nat)))from cJ (λ(Ra:Bool)=>(bif Ra then(jJ GM sF).bind λ⟨anq,ajr⟩=>(bO ajr).bind λuL=>some (.inl (sF,uL))else some (.inr (GM,sF)))) λK16=>(some (sF.length:Int)).bind λeE=>(some (decide ((0:Int)<eE))).bind λjb=>(bif jb then(some (GM.length:Int)).bind λiK=>(some (decide ((2:Int)<iK))).bind λgU=>(bif gU then some true else(some (sF.length:Int)).bind λji=>(some (decide ((2:Int)<ji))).bind λir=>some ir).bind λWk=>some Wk else some false).bind λWm=>K16 Wm)) (eY,eX)).bind λUr=>match Ur with|⟨Wn,Wo⟩=>(some (Wo.length:Int)).bind λlj=>(some (decide ((lj:Int)=0))).bind λyH=>(bif yH then(gz Wn).bind λyz=>(dx false yz).bind λ⟨Gh,Gi⟩=>some ⟨Gh,Gi⟩else(fG Wn).bind λyI=>(fG Wo).bind λuN=>(b9 (λ(s24:Nat×Nat)=>match s24 with|⟨S0,Fj⟩=>(show Option ((Nat×Nat)⊕(Nat))from(some (decide ((0:Nat)<Fj))).bind λAu=>(bif Au then(Kl S0 Fj).bind λGN=>some (.inl (Fj,GN))else some (.inr S0)))) (yI,uN)).bind λLs=>(iq false Ls).bind λ⟨acA,acB⟩=>some ⟨acA,acB⟩)
end
section
open Go.Fw Go.Fw.Z Go.RowKit
theorem gY(c:Nat):aeE ah 186 [.v (.int .u64 (c:Nat))] 202 128 [.v (.int .u64 (c:Nat))]:=by
 refine QT Tryz.func186 Y (af Y) (λc9 M vs hvs=>?_);exact sr<|RT.CI .none (s:=.sv _) Y T Y Y<|ag Y<|dn<|sr<|RT.makeFunc .none (.box Y (.nil)) T<|an (s:=.kT _ _) Y<|dn<|aY<|⟨.inr Y,_,.tmp Y,Y⟩
theorem AR(a b:List Nat):Pure ah 206 [(slc 1 (List.map bh a)),(slc 1 (List.map bh b))] (oO 214 [ref [(slc 1 (List.map bh a))],ref [(slc 1 (List.map bh b))]]):=by
 refine bj Tryz.func206 Y (af Y) (λc9 M vs hvs=>?_);refine sr<|RT.CI .none (s:=.sv _) Y T Y Y<|RT.CI .none (s:=.sv _) Y T Y Y<|ag Y<|dn<|sr<|RT.makeFunc .none (.box Y (.box Y (.nil))) T<|an (s:=.kT _ _) Y<|dn<|bU (lH (i:=2) Y [(slc 1 (List.map bh a))] (.cons Y .nil) .any 0 [(4,.kT 214 [.val (ref [(slc 1 (List.map bh a))]),.box 3])] (λ_ _ _=>trivial) (yB.h (l:=[(slc 1 (List.map bh a))])) ⟨@FT.kT _ _ _ _ _ 4 214 [.box 2,.box 3] Y,aq⟩) ?_;exact bU (lH (i:=3) Y [(slc 1 (List.map bh b))] (.cons Y .nil) .any 0 [(4,.kT 214 [.val (ref [(slc 1 (List.map bh a))]),.val (ref [(slc 1 (List.map bh b))])])] (λ_ _ _=>trivial) (yB.h (l:=[(slc 1 (List.map bh b))])) ⟨@FT.kT _ _ _ _ _ 4 214 [.val (ref [(slc 1 (List.map bh a))]),.box 3] Y,aq⟩)<|bU (QX 4 (oO 214 [ref [(slc 1 (List.map bh a))],ref [(slc 1 (List.map bh b))]]) (λ_ _ h=>QY h))<|aY<|⟨.inr Y,QL (.tmp Y (.nil)) Y⟩
theorem AT(a b:List Nat):Iter ah 214 [ref [(slc 1 (List.map bh a))],ref [(slc 1 (List.map bh b))]] (max a.length b.length) (λk=>[.v (.int .u64 ((a.getD k 0%18446744073709551616:Nat):Int)),.v (.int .u64 ((b.getD k 0%18446744073709551616:Nat):Int))]):=by
 refine CN Tryz.func214 Y Y (af Y) (λc9 M O l J hJ Kb hr=>?_);obtain⟨xw,Kb⟩:=Kb;have hla:a.length<=9223372036854775807:=by cases xw with|nil=>exact Kb.elim|cons _ xw=>exact Hq Kb.1
 have hlb:b.length<=9223372036854775807:=by cases xw with|nil=>exact Kb.elim|cons _ xw=>cases xw with|nil=>exact Kb.2.elim|cons _ _=>exact Hq Kb.2.1
 refine cm ?_;refine aX ?_;refine RT.fT .none Y Y (tl Y) ?_;refine RT.len .none Y (tl Y) ?_;refine RT.fT .none Y Y (tl Y) ?_;refine RT.len .none Y (tl Y) ?_;refine RT.max .none (((max a.length b.length:Nat):Int)) Y Y (tl Y) (by simp only[List.length_map];split<;>omega) ?_;refine RT.mv .none Y (tl Y) ?_;refine RT.done ?_;refine aW.n ?_;refine bf ?_
 refine Hi (I:=λx:{i:Nat//i<=max a.length b.length}=>AS.cu 39 [(0,.sv (.v (.func (.yield l) #[] #[]))),(1,.sv (ref [(slc 1 (List.map bh a))])),(2,.sv (ref [(slc 1 (List.map bh b))])),(11,ai ((max a.length b.length:Nat):Int)),(12,ai ((x.1:Nat):Int))] [] [] (x.1)) (μ:=λx=>max a.length b.length-x.1) ⟨0,by omega⟩ (by(try dsimp only);exact cz id Y Y Y Y Y ⟨.sv (by first|exact au|exact SV.bw (by omega)|exact SV.bw (by push_cast;omega)|exact SV.bw (by dsimp only;omega)|exact SV.imp_eq (by simp)),.sv (by first|exact au|exact SV.bw (by omega)|exact SV.bw (by push_cast;omega)|exact SV.bw (by dsimp only;omega)|exact SV.imp_eq (by simp)),.sv (by first|exact au|exact SV.bw (by omega)|exact SV.bw (by push_cast;omega)|exact SV.bw (by dsimp only;omega)|exact SV.imp_eq (by simp)),.sv (by first|exact au|exact SV.bw (by omega)|exact SV.bw (by push_cast;omega)|exact SV.bw (by dsimp only;omega)|exact SV.imp_eq (by simp)),.sv (by first|exact au|exact SV.bw (by omega)|exact SV.bw (by push_cast;omega)|exact SV.bw (by dsimp only;omega)|exact SV.imp_eq (by simp)),aq⟩ trivial trivial (λ_ _=>Y)) ?_;rintro⟨i,hi0⟩
 try dsimp only
 rcases Im a b i hi0 with⟨hi,E4,J6⟩|⟨hi,E4,J6⟩|⟨hi,E4,J6⟩|hi
 ·
  refine cm ?_;refine aX ?_;refine RT.lss .none (true) Y Y (tl Y) (by simp;omega) ?_;refine RT.done ?_;refine aW.n ?_;refine cm ?_;refine e5 Y ?_;refine bu ?_;refine aW.n ?_;refine cm ?_;refine bf ?_;refine cm ?_;refine aX ?_;refine RT.mv .none Y (tl Y) ?_;refine RT.Mk .none Y (tl Y) ?_;refine RT.done ?_;refine aW.n ?_;refine cm ?_;refine aX ?_;refine RT.Mk .none Y (tl Y) ?_;refine RT.Mk .none Y (tl Y) ?_;refine RT.done ?_;refine aW.n ?_;refine cm ?_;refine cm ?_;refine aX ?_;refine RT.mv .none Y (tl Y) ?_;refine RT.fT .none Y Y (tl Y) ?_;refine RT.len .none Y (tl Y) ?_;refine RT.lss .none (true) Y Y (tl Y) (by simp only[List.length_map];simp;omega) ?_;refine RT.done ?_;refine aW.n ?_;refine e5 Y ?_;refine aX ?_;refine RT.fT .none Y Y (tl Y) ?_;refine RT.mv .none Y (tl Y) ?_;refine RT.ixA .none [.v (.int .u32 ((a.getD i 0:Nat):Int))] (Int.natCast_nonneg i) (by rw[Int.toNat_natCast,List.getElem?_map,AI E4];rfl) Y Y (tl Y) ?_;refine RT.fT .none Y Y (tl Y) ?_;refine RT.conv .none (((a.getD i 0%18446744073709551616:Nat):Int)) Y (tl Y) Z5 ?_;refine RT.Mk .none Y (tl Y) ?_;refine RT.done ?_;refine aW.n ?_;refine cm ?_;refine cm ?_;refine aX ?_;refine RT.mv .none Y (tl Y) ?_
  refine RT.fT .none Y Y (tl Y) ?_;refine RT.len .none Y (tl Y) ?_;refine RT.lss .none (true) Y Y (tl Y) (by simp only[List.length_map];simp;omega) ?_;refine RT.done ?_;refine aW.n ?_;refine e5 Y ?_;refine aX ?_;refine RT.fT .none Y Y (tl Y) ?_;refine RT.mv .none Y (tl Y) ?_;refine RT.ixA .none [.v (.int .u32 ((b.getD i 0:Nat):Int))] (Int.natCast_nonneg i) (by rw[Int.toNat_natCast,List.getElem?_map,AI J6];rfl) Y Y (tl Y) ?_;refine RT.fT .none Y Y (tl Y) ?_;refine RT.conv .none (((b.getD i 0%18446744073709551616:Nat):Int)) Y (tl Y) Z5 ?_;refine RT.Mk .none Y (tl Y) ?_;refine RT.done ?_;refine aW.n ?_;refine cm ?_;refine aX ?_;refine RT.mv .none Y (tl Y) ?_;refine RT.mv .none Y (tl Y) ?_;refine RT.mv .none Y (tl Y) ?_;refine RT.yield .none hr Y (λ_ h=>h) Y (i) Y Y hi (by exact⟨Y,Y,aq⟩) (tl Y) (λyb=>?_);cases yb
  ·
   refine RT.not .none Y (tl Y) true Y ?_;refine RT.done ?_;refine aW.n ?_;refine e5 Y ?_;refine aY ?_;refine bF.r ?_;refine aW.r ?_;refine aW.r ?_;refine bF.r ?_;exact⟨.inr rfl,(λh=>by cases h)⟩
  refine RT.not .none Y (tl Y) false Y ?_;refine RT.done ?_;refine aW.n ?_;refine jc Y ?_;refine bu ?_;refine bF.n ?_;refine aW.n ?_;refine aX ?_;refine RT.add .none (((i:Nat):Int)+1) Y Y (tl Y) (uJ (by omega)) ?_;refine RT.mv .none Y (tl Y) ?_;refine RT.done ?_;refine aW.n ?_;refine⟨⟨i+1,by omega⟩,(by dsimp only;omega),?_⟩
  try dsimp only
  exact cz id Y Y Y Y Y ⟨.sv (by first|exact au|exact SV.bw (by omega)|exact SV.bw (by push_cast;omega)|exact SV.bw (by dsimp only;omega)|exact SV.imp_eq (by simp)),.sv (by first|exact au|exact SV.bw (by omega)|exact SV.bw (by push_cast;omega)|exact SV.bw (by dsimp only;omega)|exact SV.imp_eq (by simp)),.sv (by first|exact au|exact SV.bw (by omega)|exact SV.bw (by push_cast;omega)|exact SV.bw (by dsimp only;omega)|exact SV.imp_eq (by simp)),.sv (by first|exact au|exact SV.bw (by omega)|exact SV.bw (by push_cast;omega)|exact SV.bw (by dsimp only;omega)|exact SV.imp_eq (by simp)),.sv (by first|exact au|exact SV.bw (by omega)|exact SV.bw (by push_cast;omega)|exact SV.bw (by dsimp only;omega)|exact SV.imp_eq (by simp)),aq⟩ trivial trivial (λ_ _=>Y)
 ·
  refine cm ?_;refine aX ?_;refine RT.lss .none (true) Y Y (tl Y) (by simp;omega) ?_;refine RT.done ?_;refine aW.n ?_;refine cm ?_;refine e5 Y ?_;refine bu ?_;refine aW.n ?_;refine cm ?_;refine bf ?_;refine cm ?_;refine aX ?_;refine RT.mv .none Y (tl Y) ?_;refine RT.Mk .none Y (tl Y) ?_;refine RT.done ?_;refine aW.n ?_;refine cm ?_;refine aX ?_;refine RT.Mk .none Y (tl Y) ?_;refine RT.Mk .none Y (tl Y) ?_;refine RT.done ?_;refine aW.n ?_;refine cm ?_;refine cm ?_;refine aX ?_;refine RT.mv .none Y (tl Y) ?_;refine RT.fT .none Y Y (tl Y) ?_;refine RT.len .none Y (tl Y) ?_;refine RT.lss .none (true) Y Y (tl Y) (by simp only[List.length_map];simp;omega) ?_;refine RT.done ?_;refine aW.n ?_;refine e5 Y ?_;refine aX ?_;refine RT.fT .none Y Y (tl Y) ?_;refine RT.mv .none Y (tl Y) ?_;refine RT.ixA .none [.v (.int .u32 ((a.getD i 0:Nat):Int))] (Int.natCast_nonneg i) (by rw[Int.toNat_natCast,List.getElem?_map,AI E4];rfl) Y Y (tl Y) ?_;refine RT.fT .none Y Y (tl Y) ?_;refine RT.conv .none (((a.getD i 0%18446744073709551616:Nat):Int)) Y (tl Y) Z5 ?_;refine RT.Mk .none Y (tl Y) ?_;refine RT.done ?_;refine aW.n ?_;refine cm ?_;refine cm ?_;refine aX ?_;refine RT.mv .none Y (tl Y) ?_
  refine RT.fT .none Y Y (tl Y) ?_;refine RT.len .none Y (tl Y) ?_;refine RT.lss .none (false) Y Y (tl Y) (by simp only[List.length_map];simp;omega) ?_;refine RT.done ?_;refine aW.n ?_;refine jc Y ?_;refine bu ?_;refine aW.n ?_;refine cm ?_;refine aX ?_;refine RT.mv .none Y (tl Y) ?_;refine RT.mv .none Y (tl Y) ?_;refine RT.mv .none Y (tl Y) ?_;refine RT.yield .none hr Y (λ_ h=>h) Y (i) Y Y hi (by exact⟨Y,(by show AV.sv _=AV.sv _;rw[CU J6];rfl),aq⟩) (tl Y) (λyb=>?_);cases yb
  ·
   refine RT.not .none Y (tl Y) true Y ?_;refine RT.done ?_;refine aW.n ?_;refine e5 Y ?_;refine aY ?_;refine bF.r ?_;refine aW.r ?_;refine aW.r ?_;refine bF.r ?_;exact⟨.inr rfl,(λh=>by cases h)⟩
  refine RT.not .none Y (tl Y) false Y ?_;refine RT.done ?_;refine aW.n ?_;refine jc Y ?_;refine bu ?_;refine bF.n ?_;refine aW.n ?_;refine aX ?_;refine RT.add .none (((i:Nat):Int)+1) Y Y (tl Y) (uJ (by omega)) ?_;refine RT.mv .none Y (tl Y) ?_;refine RT.done ?_;refine aW.n ?_;refine⟨⟨i+1,by omega⟩,(by dsimp only;omega),?_⟩
  try dsimp only
  exact cz id Y Y Y Y Y ⟨.sv (by first|exact au|exact SV.bw (by omega)|exact SV.bw (by push_cast;omega)|exact SV.bw (by dsimp only;omega)|exact SV.imp_eq (by simp)),.sv (by first|exact au|exact SV.bw (by omega)|exact SV.bw (by push_cast;omega)|exact SV.bw (by dsimp only;omega)|exact SV.imp_eq (by simp)),.sv (by first|exact au|exact SV.bw (by omega)|exact SV.bw (by push_cast;omega)|exact SV.bw (by dsimp only;omega)|exact SV.imp_eq (by simp)),.sv (by first|exact au|exact SV.bw (by omega)|exact SV.bw (by push_cast;omega)|exact SV.bw (by dsimp only;omega)|exact SV.imp_eq (by simp)),.sv (by first|exact au|exact SV.bw (by omega)|exact SV.bw (by push_cast;omega)|exact SV.bw (by dsimp only;omega)|exact SV.imp_eq (by simp)),aq⟩ trivial trivial (λ_ _=>Y)
 ·
  refine cm ?_;refine aX ?_;refine RT.lss .none (true) Y Y (tl Y) (by simp;omega) ?_;refine RT.done ?_;refine aW.n ?_;refine cm ?_;refine e5 Y ?_;refine bu ?_;refine aW.n ?_;refine cm ?_;refine bf ?_;refine cm ?_;refine aX ?_;refine RT.mv .none Y (tl Y) ?_;refine RT.Mk .none Y (tl Y) ?_;refine RT.done ?_;refine aW.n ?_;refine cm ?_;refine aX ?_;refine RT.Mk .none Y (tl Y) ?_;refine RT.Mk .none Y (tl Y) ?_;refine RT.done ?_;refine aW.n ?_;refine cm ?_;refine cm ?_;refine aX ?_;refine RT.mv .none Y (tl Y) ?_;refine RT.fT .none Y Y (tl Y) ?_;refine RT.len .none Y (tl Y) ?_;refine RT.lss .none (false) Y Y (tl Y) (by simp only[List.length_map];simp;omega) ?_;refine RT.done ?_;refine aW.n ?_;refine jc Y ?_;refine bu ?_;refine aW.n ?_;refine cm ?_;refine cm ?_;refine aX ?_;refine RT.mv .none Y (tl Y) ?_;refine RT.fT .none Y Y (tl Y) ?_;refine RT.len .none Y (tl Y) ?_;refine RT.lss .none (true) Y Y (tl Y) (by simp only[List.length_map];simp;omega) ?_;refine RT.done ?_;refine aW.n ?_;refine e5 Y ?_;refine aX ?_;refine RT.fT .none Y Y (tl Y) ?_;refine RT.mv .none Y (tl Y) ?_
  refine RT.ixA .none [.v (.int .u32 ((b.getD i 0:Nat):Int))] (Int.natCast_nonneg i) (by rw[Int.toNat_natCast,List.getElem?_map,AI J6];rfl) Y Y (tl Y) ?_;refine RT.fT .none Y Y (tl Y) ?_;refine RT.conv .none (((b.getD i 0%18446744073709551616:Nat):Int)) Y (tl Y) Z5 ?_;refine RT.Mk .none Y (tl Y) ?_;refine RT.done ?_;refine aW.n ?_;refine cm ?_;refine aX ?_;refine RT.mv .none Y (tl Y) ?_;refine RT.mv .none Y (tl Y) ?_;refine RT.mv .none Y (tl Y) ?_;refine RT.yield .none hr Y (λ_ h=>h) Y (i) Y Y hi (by exact⟨(by show AV.sv _=AV.sv _;rw[CU E4];rfl),Y,aq⟩) (tl Y) (λyb=>?_);cases yb
  ·
   refine RT.not .none Y (tl Y) true Y ?_;refine RT.done ?_;refine aW.n ?_;refine e5 Y ?_;refine aY ?_;refine bF.r ?_;refine aW.r ?_;refine aW.r ?_;refine bF.r ?_;exact⟨.inr rfl,(λh=>by cases h)⟩
  refine RT.not .none Y (tl Y) false Y ?_;refine RT.done ?_;refine aW.n ?_;refine jc Y ?_;refine bu ?_;refine bF.n ?_;refine aW.n ?_;refine aX ?_;refine RT.add .none (((i:Nat):Int)+1) Y Y (tl Y) (uJ (by omega)) ?_;refine RT.mv .none Y (tl Y) ?_;refine RT.done ?_;refine aW.n ?_;refine⟨⟨i+1,by omega⟩,(by dsimp only;omega),?_⟩
  try dsimp only
  exact cz id Y Y Y Y Y ⟨.sv (by first|exact au|exact SV.bw (by omega)|exact SV.bw (by push_cast;omega)|exact SV.bw (by dsimp only;omega)|exact SV.imp_eq (by simp)),.sv (by first|exact au|exact SV.bw (by omega)|exact SV.bw (by push_cast;omega)|exact SV.bw (by dsimp only;omega)|exact SV.imp_eq (by simp)),.sv (by first|exact au|exact SV.bw (by omega)|exact SV.bw (by push_cast;omega)|exact SV.bw (by dsimp only;omega)|exact SV.imp_eq (by simp)),.sv (by first|exact au|exact SV.bw (by omega)|exact SV.bw (by push_cast;omega)|exact SV.bw (by dsimp only;omega)|exact SV.imp_eq (by simp)),.sv (by first|exact au|exact SV.bw (by omega)|exact SV.bw (by push_cast;omega)|exact SV.bw (by dsimp only;omega)|exact SV.imp_eq (by simp)),aq⟩ trivial trivial (λ_ _=>Y)
 subst hi;refine cm ?_;refine aX ?_;refine RT.lss .none (false) Y Y (tl Y) (by simp) ?_;refine RT.done ?_;refine aW.n ?_;refine cm ?_;refine jc Y ?_;refine bP ?_;refine aW.x ?_;refine aW.x ?_;refine bF.x ?_;exact⟨.inl Y,(λ_=>Y)⟩
theorem yK{x0 r:List Nat}(h:gz x0=some r):GF ah 175 [slc 1 (List.map bh x0)] (TR 130 1 bh r):=by
 refine vU Tryz.func175 Y (af Y) (λc9 M vs hvs=>?_);unfold gz at h;refine sr<|ag Y<|dn<|qq<|sr<|mv Y ?_;refine RT.aiX .none Y T (λnb hnb=>?_);cases nb;exact dn<|fs<|sr<|RT.Mp (l:=([]:List Nat)) (e:=bh) .none .nil T Y T Y Y Y Y Y Y<|mv Y<|aR (k:=x0) (e:=bh) Y Y Y h<|an (s:=.row _) Y<|dn<|aY<|⟨.inr Y,_,.tmp Y,Y⟩;have hx:x0=[]:=by simpa using hnb Y
 subst hx;obtain⟨_,_,rfl⟩:=AH h;exact dn<|cT<|sr<|ag Y<|dn<|bU (cY 2 300 130 1 Y Y T)<|aY<|aW.r<|⟨.inr Y,_,.tmp Y,Y⟩
theorem dj{x0:Nat}{c0:Nat}{r:Nat×Nat}(h:cI x0 c0=some r):ZZ ah 202 [.v (.int .u64 ((x0:Nat):Int))] 128 [.v (.int .u64 ((c0:Nat):Int))] (.v (.int .u32 ((r.1:Nat):Int))) [.v (.int .u64 ((r.2:Nat):Int))]:=by
 refine QS Tryz.func202 Y (af Y) (λc9 M β=>?_);unfold cI at h;refine sr<|ag Y<|dn<|sr<|mv Y<|lV Y Y Y<|lE h λx6 h6 h=>ad _ Y Y (UK.add (a:=x0) (b:=c0) h6)<|ag Y<|dn<|sr<|mv Y<|lE h λx8 h8 h=>RT.shr .none _ Y Y T (by decide) (Mn (k:=.u64) (a:=x6) (q:=32) (s:=32) Y h8)<|RT.zy (cells:=[_]) .none (s:=.sv _) Y Y Y T Y<|dn<|sr<|mv Y<|lE h λdG fY h=>cv _ Y (UK.nat fY)<|ag Y ?_;refine dn<|aY ?_;obtain rfl:=O h;exact⟨.inr Y,gR (.tmp Y (.nil)) au,Y⟩
theorem dy{x0:List Nat}{r:List Nat}(h:bO x0=some r):Pure ah 144 [slc 1 (List.map bh x0)] (slc 1 (List.map bh r)):=by
 refine bj Tryz.func144 Y (af Y) (λc9 M vs hvs=>?_);unfold bO at h;refine sr<|aI Y (aC (n:=1) (e:=bh))<|dn<|qq<|bE h λFk yh oW=>?_;refine bJ (λ(Iq:(List Nat))=>AS.cu 21 [(0,.sv (slc 1 (List.map bh Iq)))] [] []) (λIq=>Iq=Fk) ?_ (λIq yj=>?_);refine bf ?_;refine bK yh (λuG=>AS.cu 21 [(0,.sv (slc 1 (List.map bh uG)))] [] []) (wR []) (λGJ ZD ZE h yl uO=>?_)
 try dsimp only
 refine qq<|qq ?_;refine bL h (λGO=>AS.cu 21 [(0,.sv (slc 1 (List.map bh GJ))),(14,aj GO)] [] []) (λh=>?_) (λIp h=>?_);refine aX<|mv Y<|lE h λx4 h4 h=>ln Y h4<|lE h λx5 h5 h=>gt _ Y Y h5<|mv Y<|bE h λFf dH h=>?_;cases x5;obtain rfl:=O (F dH);exact ww<|ww<|ww<|ww<|ww<|ww<|ww<|pF Y<|dn<|⟨false,h,wR []⟩;refine gm Y<|gm Y<|lE (V dH) λx9 h9 dH=>gn Y h9<|lE dH λdG fY dH=>RT.sub (.some Y Y) _ Y Y T fY<|bE dH λff kz dH=>RT.Z7 (.some Y Y) Y Y T kz<|gr Y Y<|lE dH λeY iX dH=>ge_ _ Y Y (eqN (p:=ff) (q:=0) iX) ?_;obtain rfl:=O dH;exact pT Y<|dn<|⟨eY,h,wR []⟩
 try dsimp only
 refine aW.n ?_;cases Ip;refine cF<|bP<|aW.x<|aW.x<|bF.x<|aW.n ?_;obtain rfl:=O (F h);exact⟨GJ,uO _ Y,wR []⟩;refine cT<|bu<|aW.n<|bf<|aX<|mv Y<|mv Y<|lE (V h) λdR jK h=>ln Y jK<|lE h λeE jd h=>sb _ Y Y jd<|bE h λjb lZ h=>RT.Il .none 0 eE Y Y ⟨_,Y⟩ T lZ<|ag Y<|RT.done<|bF.n ?_;obtain rfl:=O h;exact aW.n ⟨jb,yl _ Y,wR []⟩;subst yj
 try dsimp only
 refine aW.n<|sr<|mv Y<|ag Y<|dn<|aY ?_;obtain rfl:=O oW;exact R1 Y
abbrev ax:SV:=slc 1 (List.map bh [])
theorem nN{x0:Bool}{x1:Nat}(N:Nat){r:Zr}(h:iq x0 x1=some r):dB ah 137 N [aA x0,.v (.int .u64 ((x1:Nat):Int))] (.agg ((fZ N) r)):=by
 refine bT Tryz.func137 Y (af Y) (λc9 M vs hN hvs=>?_);unfold iq at h;refine sr<|al (cs:=[aA false,nw N ax]) (by exact⟨au,bt,aq⟩) Y<|dn<|qq<|bf<|sr<|mv Y<|lE h λx7 h7 h=>eq _ Y Y (eqN (p:=x1) (q:=0) h7)<|ag Y<|dn ?_;cases x7;refine cF<|sr<|mv Y<|lE (F h) λff kz h=>RT.shr .none _ Y Y T (by decide) (Mn (k:=.u64) (a:=x1) (q:=32) (s:=32) Y kz)<|lE h λc8 fI h=>eq _ Y Y (eqN (p:=ff) (q:=0) fI)<|ag Y<|dn ?_;cases c8;refine cF<|bu<|bF.n<|aW.n<|sr<|mv Y<|mv Y<|lE (F h) λgK oP h=>cv _ Y (UK.nat oP)<|mv Y<|lE h λiK oA h=>RT.shr .none _ Y Y T (by decide) (Mn (k:=.u64) (a:=x1) (q:=32) (s:=32) Y oA)<|lE h λgU oQ h=>cv _ Y (UK.nat oQ)<|RT.DL (l:=[gK,gU]) (e:=bh) .none hN (.one Y (.one Y (.nil))) T Y Y Y Y Y Y<|bI (cs:=[_,_]) (cs':=[aA x0,nw N (slc 1 (List.map bh [gK,gU]))]) (.one Y (.one Y (.nil))) ⟨au,au,aq⟩ ?_;refine so Y Y Y<|dn<|aY ?_;obtain rfl:=O h;exact RZ (.agg Y Y (.k2 Y Y) Y (.nil));refine cT<|sr<|mv Y<|mv Y<|lE (V h) λdN gH h=>cv _ Y (UK.nat gH)<|RT.DL (l:=[dN]) (e:=bh) .none hN (.one Y (.nil)) T Y Y Y Y Y Y<|bI (cs:=[_,_]) (cs':=[aA x0,nw N (slc 1 (List.map bh [dN]))]) (.one Y (.one Y (.nil))) ⟨au,au,aq⟩<|so Y Y Y<|dn<|aY<|bF.r<|aW.r ?_;obtain rfl:=O h
 exact RZ (.agg Y Y (.k2 Y Y) Y (.nil));refine cT<|sr<|bI (cs:=[_,_]) (cs':=[aA false,nw N ax]) (.nil) ⟨au,bt,aq⟩<|so Y Y Y<|dn<|aY<|bF.r<|aW.r ?_;obtain rfl:=O (V h);exact RZ (.agg Y Y (.k2 Y Y) Y (.nil))
theorem mB{x0:List Nat}{r:Nat}(h:fG x0=some r):Pure ah 162 [slc 1 (List.map bh x0)] (.v (.int .u64 ((r:Nat):Int))):=by
 refine bj Tryz.func162 Y (af Y) (λc9 M vs hvs=>?_);unfold fG at h;refine sr<|ag Y<|dn<|qq<|sr<|mv Y<|lE h λx4 h4 h=>ln Y h4<|dn<|bf<|sr<|lE h λx6 h6 h=>eq _ Y Y (xh (p:=x4) (q:=0) h6)<|ag Y<|dn ?_;cases x6;refine cF<|sr<|lE (F h) λx8 h8 h=>eq _ Y Y (xh (p:=x4) (q:=1) h8)<|ag Y<|dn ?_;cases x8;refine cF<|bu<|bF.n<|aW.n<|qq<|aZ mixed<|mv Y<|bE (F h) λdV jy h=>ix Y Y jy<|lr Y Y<|lE h λeX kf h=>cv _ Y (UK.nat kf)<|mv Y<|bE h λeE jd h=>ix Y Y jd<|lr Y Y<|lE h λgK oP h=>cv _ Y (UK.nat oP)<|lE h λgh kA h=>RT.shl .none _ Y Y T (by decide) (UK.shl (a:=gK) (q:=32) (s:=32) Y kA)<|lE h λiK oA h=>RT.or .none _ Y Y T (UK.or (a:=eX) (b:=gh) oA) ?_;refine ag Y ?_;refine RT.done ⟨by kernel_rfl,?_⟩;refine aW.n<|aY ?_;obtain rfl:=O h;exact R1 Y;refine cT<|sr<|mv Y<|bE (V h) λdG fY h=>ix Y Y fY<|lr Y Y<|lE h λc8 fI h=>cv _ Y (UK.nat fI)<|ag Y<|dn<|aY<|bF.r<|aW.r ?_;obtain rfl:=O h;exact R1 Y;refine cT<|sr<|ag Y<|dn<|aY<|bF.r<|aW.r ?_;obtain rfl:=O (V h);exact R1 Y
theorem jZ{x0:List Nat}{x1:List Nat}{r:Int}(h:dS x0 x1=some r):Pure ah 161 [slc 1 (List.map bh x0),slc 1 (List.map bh x1)] (ay r):=by
 refine bj Tryz.func161 Y (af Y) (λc9 M vs hvs=>?_);unfold dS at h;refine sr<|ag Y<|dn<|qq<|sr<|mv Y<|lE h λx7 h7 h=>ln Y h7<|mv Y<|lE h λx9 h9 h=>ln Y h9<|lE h λdG fY h=>ne _ Y Y (Lf (p:=x7) (q:=x9) fY)<|dn ?_;cases dG;refine fs<|qq<|sr<|mv Y<|lE (F h) λdR jK h=>ln Y jK<|lE h λeE jd h=>sb _ Y Y jd<|ag Y<|dn<|bE h λe6 uP je=>?_;refine bJ (λ(uH:Unit)=>AS.cu 41 [] [] []) (λuH=>.inl uH=e6) ?_ (λuH uQ=>?_);refine bf ?_;refine bK uP (λs6=>AS.cu 41 [(0,.sv (slc 1 (List.map bh x0))),(1,.sv (slc 1 (List.map bh x1))),(5,ai s6)] [] []) (wR []) (λiA y6 G6 h uR pG=>?_)
 try dsimp only
 refine qq<|sr<|mv Y<|lE h λgK oP h=>ge _ Y Y oP<|dn ?_;cases gK;refine cF<|bP<|aW.x<|aW.x<|bF.x<|aW.n ?_;obtain rfl:=O (F h);exact⟨(),pG _ Y,wR []⟩;refine cT<|bu<|aW.n<|qq<|bf<|qq<|aZ mixed<|mv Y<|mv Y<|bE (V h) λke nO h=>ix Y Y nO<|lr Y Y<|mv Y<|mv Y<|bE h λiM oN h=>ix Y Y oN<|lr Y Y<|lE h λnu xy h=>ne _ Y Y (neN (p:=ke) (q:=iM) xy) ?_;refine RT.done ⟨by kernel_rfl,?_⟩;refine aW.n ?_;cases nu;refine cF<|bu<|bF.n<|aW.n<|aX<|mv Y<|lE (F h) λiK oA h=>sb _ Y Y oA<|ag Y<|RT.done ?_;obtain rfl:=O h;exact aW.n ⟨iK,uR _ Y,wR []⟩;refine cT<|qq<|qq<|aZ mixed<|mv Y<|mv Y<|bE (V h) λyy zG h=>ix Y Y zG<|lr Y Y<|mv Y<|mv Y<|bE h λuL AU h=>ix Y Y AU<|lr Y Y<|lE h λlj tf h=>ls _ Y Y (ltN (p:=yy) (q:=uL) tf) ?_;refine RT.done ⟨by kernel_rfl,?_⟩;refine aW.n ?_;cases lj;refine fs<|sr<|ag Y<|dn<|aY<|bF.r<|aW.r ?_;obtain rfl:=O (F h);have GP:=pG _ Y;subst GP;refine aW.r<|bF.r<|aW.r<|aW.r ?_;obtain rfl:=O je;exact R1 Y;refine cT<|sr<|ag Y<|dn<|aY<|aW.r<|bF.r<|aW.r ?_;obtain rfl:=O (V h);have GP:=pG _ Y;subst GP;refine aW.r<|bF.r<|aW.r<|aW.r ?_;obtain rfl:=O je;exact R1 Y;subst uQ
 try dsimp only
 refine aW.n<|sr<|ag Y<|dn<|aY ?_;obtain rfl:=O je;exact R1 Y;refine cT<|qq<|sr<|mv Y<|lE (V h) λc8 fI h=>ln Y fI<|mv Y<|lE h λdV jy h=>ln Y jy<|lE h λdN gH h=>ls _ Y Y gH<|dn ?_;cases dN;refine fs<|sr<|ag Y<|dn<|aY<|aW.r ?_;obtain rfl:=O (F h);exact R1 Y;refine cT<|sr<|ag Y<|dn<|aY<|aW.r<|aW.r ?_;obtain rfl:=O (V h);exact R1 Y
theorem xz{x0:List Nat}{x1:List Nat}(N:Nat){r:List Nat}(h:gX x0 x1=some r):dB ah 194 N [slc 1 (List.map bh x0),slc 1 (List.map bh x1)] (nw N (slc 1 (List.map bh r))):=by
 refine bT Tryz.func194 Y (af Y) (λc9 M vs hN hvs=>?_);unfold gX at h;refine sr<|aI Y (bt (N:=N) (n:=1) (e:=bh))<|dn<|sr<|mv Y<|lE h λdG fY h=>ln Y fY<|mv Y<|lE h λc8 fI h=>ln Y fI<|lE h λeY iX h=>RT.max .none _ Y Y T (Oj (p:=dG) (q:=c8) iX)<|lE h λdV jy h=>ad _ Y Y jy<|bE h λdN gH h=>RT.Li (e:=bh) .none Y Y T Y T gH<|RT.alloc .none T Y Y<|RT.qO (cells:=[_]) .none Y Y Y Y T Y<|dn<|sr ?_;refine RT.Ie .none (gY 0) Y ⟨Y,aq⟩ T Y Y<|RT.alloc .none T Y Y<|RT.zy (cells:=[_]) .none (s:=.kT _ _) Y Y Y T Y<|dn<|qq<|sr<|mv Y<|mv Y<|cl (AR x0 x1) ⟨Y,Y,aq⟩<|dn<|bf<|bE h λe7 hl7 ho7=>?_;obtain⟨st7,hs7,ht7,hn7⟩:=vQ hl7
 refine qR (AT x0 x1) (λ_ _ _ _ _=>trivial) Y (λk=>AS.cu 35 [(5,.ptr 5 0),(6,.ptr 6 0),(19,.sv (oO 214 [ref [slc 1 (List.map bh x0)],ref [slc 1 (List.map bh x1)]]))] [(6,⟨186,[.kT 202 [.box 16]]⟩),(16,⟨128,[.sv (.v (.int .u64 (((st7 k).1:Nat):Int)))]⟩),(5,⟨39,[.row 302]⟩)] [(302,TR 130 1 bh (st7 k).2)]) [6,16,5] Y (λ_=>⟨Y,Y⟩) (CO Y) (λ_=>Y) (CP Y) (by(try dsimp only);rw[hs7];(try dsimp only);exact cz (λi=>bif Nat.beq i 302 then 15 else i) Y Y Y Y Y ⟨.ptr,.ptr,.sv au,aq⟩ ⟨⟨_,Y,⟨.kT,aq⟩⟩,⟨_,Y,⟨.sv au,aq⟩⟩,⟨_,Y,⟨.row Y,aq⟩⟩,aq⟩ ⟨⟨_,Y,cg.refl _⟩,aq⟩ (λi hi=>by rw[bV (show i≠302 by omega)];rfl)) (λk hk D hD=>?_) ?_;have h:=ht7 k hk;obtain⟨sk,hsk⟩:∃q,st7 k=q:=⟨_,Y⟩;rw[hsk]at h⊢;obtain⟨DM,nL⟩:=sk;dsimp only[AS.Z3,Cq]
 try dsimp only at h
 refine lE h λp20 Wp h=>?_;rw[Wp];refine lE h λp21 anv h=>?_;rw[anv];refine sr<|ag Y<|dn<|aX<|ag Y<|RT.done ?_;refine aW.n ⟨Y,?_⟩;dsimp only[AS.Ml];refine bf<|aZ mixed<|RT.lf .none (s:=.row _) Y Y Y T<|RT.lf .none (s:=.kT _ _) Y Y Y T<|mv Y<|mv Y<|lE h λji qS h=>ad _ Y Y (UK.add (a:=p20) (b:=p21) qS) ?_;obtain⟨⟨ir,k9⟩,oV,h⟩:=bS h;refine cB (dj oV) 16 Y ⟨Y,aq⟩<|bl (l:=[ir]) (e:=bh) (.one Y (.nil)) Y Y Y Y Y Y<|bE h λiM oN h=>aR (k:=[ir]) (e:=bh) Y Y Y oN<|RT.qO (cells:=[_]) .none Y Y Y Y T Y ?_;refine RT.done ⟨by kernel_rfl,?_⟩;refine bF.n ?_;replace h:=Option.some.inj h;refine⟨aq,Y,Y,?_⟩
 try dsimp only
 rw[<-h]
 try dsimp only
 exact cz (λi=>bif Nat.beq i 302 then 29 else i) Y Y Y Y Y ⟨.ptr,.ptr,.sv au,aq⟩ ⟨⟨_,Y,⟨.kT,aq⟩⟩,⟨_,Y,⟨.sv au,aq⟩⟩,⟨_,Y,⟨.row Y,aq⟩⟩,aq⟩ ⟨⟨_,Y,cg.refl _⟩,aq⟩ (λi hi=>by rw[bV (show i≠302 by omega)];rfl);rw[hn7];obtain⟨DM,nL⟩:=e7
 try dsimp only
 refine bF.n<|aW.n<|qq<|aZ mixed<|RT.lf .none (s:=.row _) Y Y Y T<|RT.lf .none (s:=.kT _ _) Y Y Y T ?_;obtain⟨⟨jY,k11⟩,qT,ho7⟩:=bS ho7;refine cB (dj qT) 16 Y ⟨Y,aq⟩<|bl (l:=[jY]) (e:=bh) (.one Y (.nil)) Y Y Y Y Y Y<|bE ho7 λyy zG ho7=>RT.ajd (k:=[jY]) (e:=bh) .none hN (λ_ h=>h) Y Y Y T Y T zG<|ag Y ?_;refine RT.done ⟨by kernel_rfl,?_⟩;refine aW.n<|aY ?_;obtain rfl:=O ho7;exact R1 Y
theorem qV{x0:List Nat}{x1:List Nat}(N:Nat){r:List Nat}(h:eG x0 x1=some r):dB ah 195 N [slc 1 (List.map bh x0),slc 1 (List.map bh x1)] (nw N (slc 1 (List.map bh r))):=by
 refine bT Tryz.func195 Y (af Y) (λc9 M vs hN hvs=>?_);unfold eG at h;refine sr<|aI Y (bt (N:=N) (n:=1) (e:=bh))<|dn<|sr<|mv Y<|lE h λdG fY h=>ln Y fY<|bE h λff kz h=>RT.Li (e:=bh) .none Y Y T Y T kz<|RT.alloc .none T Y Y<|RT.qO (cells:=[_]) .none Y Y Y Y T Y<|dn<|sr<|RT.Ie .none (gY 1) Y ⟨Y,aq⟩ T Y Y<|RT.alloc .none T Y Y<|RT.zy (cells:=[_]) .none (s:=.kT _ _) Y Y Y T Y<|dn<|qq<|sr<|mv Y ?_;refine mv Y<|cl (AR x0 x1) ⟨Y,Y,aq⟩<|dn<|bf<|bE h λe7 hl7 ho7=>?_;obtain⟨st7,hs7,ht7,hn7⟩:=vQ hl7;refine qR (AT x0 x1) (λ_ _ _ _ _=>trivial) Y (λk=>AS.cu 28 [(5,.ptr 5 0),(6,.ptr 6 0),(15,.sv (oO 214 [ref [slc 1 (List.map bh x0)],ref [slc 1 (List.map bh x1)]]))] [(6,⟨186,[.kT 202 [.box 12]]⟩),(12,⟨128,[.sv (.v (.int .u64 (((st7 k).1:Nat):Int)))]⟩),(5,⟨39,[.row 302]⟩)] [(302,TR 130 1 bh (st7 k).2)]) [6,12,5] Y (λ_=>⟨Y,Y⟩) (CO Y) (λ_=>Y) (CP Y) (by(try dsimp only);rw[hs7];(try dsimp only);exact cz (λi=>bif Nat.beq i 302 then 11 else i) Y Y Y Y Y ⟨.ptr,.ptr,.sv au,aq⟩ ⟨⟨_,Y,⟨.kT,aq⟩⟩,⟨_,Y,⟨.sv au,aq⟩⟩,⟨_,Y,⟨.row Y,aq⟩⟩,aq⟩ ⟨⟨_,Y,cg.refl _⟩,aq⟩ (λi hi=>by rw[bV (show i≠302 by omega)];rfl)) (λk hk D hD=>?_) ?_;have h:=ht7 k hk;obtain⟨sk,hsk⟩:∃q,st7 k=q:=⟨_,Y⟩;rw[hsk]at h⊢;obtain⟨Hu,nL⟩:=sk
 dsimp only[AS.Z3,Cq]
 try dsimp only at h
 refine lE h λp16 anw h=>?_;rw[anw];refine lE h λp17 anx h=>?_;rw[anx];refine sr<|ag Y<|dn<|aX<|ag Y<|RT.done ?_;refine aW.n ⟨Y,?_⟩;dsimp only[AS.Ml];refine bf<|aZ mixed<|RT.lf .none (s:=.row _) Y Y Y T<|RT.lf .none (s:=.kT _ _) Y Y Y T<|mv Y<|mv Y<|lE h λiK oA h=>sb _ Y Y (UK.sub (a:=4294967295) (b:=p17) oA)<|lE h λgU oQ h=>ad _ Y Y (UK.add (a:=p16) (b:=iK) oQ) ?_;obtain⟨⟨gV,k9⟩,nG,h⟩:=bS h;refine cB (dj nG) 12 Y ⟨Y,aq⟩<|bl (l:=[gV]) (e:=bh) (.one Y (.nil)) Y Y Y Y Y Y<|bE h λji qS h=>aR (k:=[gV]) (e:=bh) Y Y Y qS<|RT.qO (cells:=[_]) .none Y Y Y Y T Y ?_;refine RT.done ⟨by kernel_rfl,?_⟩;refine bF.n ?_;replace h:=Option.some.inj h;refine⟨aq,Y,Y,?_⟩
 try dsimp only
 rw[<-h]
 try dsimp only
 exact cz (λi=>bif Nat.beq i 302 then 26 else i) Y Y Y Y Y ⟨.ptr,.ptr,.sv au,aq⟩ ⟨⟨_,Y,⟨.kT,aq⟩⟩,⟨_,Y,⟨.sv au,aq⟩⟩,⟨_,Y,⟨.row Y,aq⟩⟩,aq⟩ ⟨⟨_,Y,cg.refl _⟩,aq⟩ (λi hi=>by rw[bV (show i≠302 by omega)];rfl);rw[hn7];obtain⟨Hu,nL⟩:=e7
 try dsimp only
 refine bF.n<|aW.n<|sr<|RT.lf .none (s:=.row _) Y Y Y T<|an (s:=.row _) Y<|dn<|ku (i:=302) (E1:=130) (n:=1) (e:=bh) (l:=nL) hN (λ_ h=>h) Y<|aY ?_;obtain rfl:=O ho7;exact R1 Y
theorem DV{x0:List Nat}{x1:List Nat}(N:Nat){r:List Nat}(h:jI x0 x1=some r):dB ah 164 N [slc 1 (List.map bh x0),slc 1 (List.map bh x1)] (nw N (slc 1 (List.map bh r))):=by
 refine bT Tryz.func164 Y (af Y) (λc9 M vs hN hvs=>?_);unfold jI at h;refine sr<|aI Y (bt (N:=N) (n:=1) (e:=bh))<|dn<|sr<|mv Y<|lE h λc8 fI h=>ln Y fI<|mv Y<|lE h λdV jy h=>ln Y jy<|lE h λdN gH h=>ad _ Y Y gH<|bE h λeX kf h=>RT.vW (n:=1) (e:=bh) .none Y Y T Y T (by rfl) (by decide) (by exact⟨au,aq⟩) kf<|an (s:=.row _) Y<|dn<|qq<|sr<|mv Y<|lE h λeE jd h=>ln Y jd ?_;refine mv Y<|dn<|bE h λe28 afe Rb=>?_;refine bJ (λ(CW:(List Nat))=>AS.cu 63 [(5,.row 16)] [] [(16,TR 130 1 bh CW)]) (λCW=>CW=e28) ?_ (λCW aff=>?_);refine bf ?_;refine bK afe (λUo=>AS.cu 63 [(1,.sv (slc 1 (List.map bh x1))),(5,.row 16),(17,.sv (slc 1 (List.map bh x0))),(18,ai eE),(19,ai Uo.1)] [] [(16,TR 130 1 bh Uo.2)]) (wR []) (λUo y28 G28 h afg afh=>?_);obtain⟨vY,Mu⟩:=Uo
 try dsimp only
 refine sr<|lE h λgK oP h=>ls _ Y Y oP<|dn<|qq ?_;cases gK;refine cF<|bP<|aW.x<|aW.x<|bF.x<|aW.n ?_;obtain rfl:=O (F h);exact⟨Mu,afh _ Y,wR []⟩;refine cT<|bu<|aW.n<|qq<|bf<|sr<|mv Y<|bE (V h) λiK oA h=>ix Y Y oA<|lr Y Y<|ag Y<|ag Y<|dn<|sr<|RT.Ie .none (gY 0) Y ⟨Y,aq⟩ T Y Y<|an (s:=.kT _ _) Y<|dn<|qq<|sr<|mv Y<|lE h λji qS h=>ln Y qS<|mv Y<|dn<|bE h λe38 afi kV=>?_;refine bJ (λ(Uv:Nat×(List Nat))=>AS.cu 63 [(1,.sv (slc 1 (List.map bh x1))),(5,.row 16),(6,ai vY),(8,.kT 202 [.box 24]),(17,.sv (slc 1 (List.map bh x0))),(18,ai eE),(19,ai vY)] [(24,⟨128,[.sv (.v (.int .u64 ((Uv.1:Nat):Int)))]⟩)] [(16,TR 130 1 bh Uv.2)]) (λUv=>Uv=e38) ?_ (λUv afj=>?_);refine bf ?_;refine bK afi (λSX=>AS.cu 63 [(1,.sv (slc 1 (List.map bh x1))),(5,.row 16),(6,ai vY),(7,.sv (.v (.int .u32 ((iK:Nat):Int)))),(8,.kT 202 [.box 24]),(17,.sv (slc 1 (List.map bh x0))),(18,ai eE),(19,ai vY),(25,.sv (slc 1 (List.map bh x1))),(26,ai ji),(27,ai SX.1)] [(24,⟨128,[.sv (.v (.int .u64 ((SX.2.1:Nat):Int)))]⟩)] [(16,TR 130 1 bh SX.2.2)]) (wR []) (λSX y38 G38 h afk afl=>?_);obtain⟨Fg,DN,CV⟩:=SX
 try dsimp only
 refine sr<|lE h λlp vA h=>ls _ Y Y vA<|dn<|qq ?_;cases lp;refine cF<|bP<|aW.x<|aW.x<|bF.x<|aW.n ?_;obtain rfl:=O (F h);exact⟨(DN,CV),afl _ Y,wR []⟩;refine cT<|bu<|aW.n<|qq<|bf<|sr<|mv Y<|bE (V h) λuM zH h=>ix Y Y zH<|lr Y Y<|ag Y<|ag Y<|dn<|aX<|mo (s:=.row _) Y<|mv Y<|mv Y<|lE h λpC yL h=>ad _ Y Y yL<|mo (s:=.kT _ _) Y<|mo (s:=.row _) Y<|mv Y<|mv Y<|lE h λlj tf h=>ad _ Y Y tf<|bE h λyH GQ h=>iR Y Y Y GQ ?_;refine bE h λpD Av h=>lR Y Y Av Y<|lE h λyz ET h=>cv _ Y (UK.nat ET)<|mv Y<|lE h λyd GR h=>cv _ Y (UK.nat GR)<|mv Y<|lE h λxl AW h=>cv _ Y (UK.nat AW)<|lE h λuN h48 h=>RT.mul .none _ Y Y T (UK.mul (a:=yd) (b:=xl) h48)<|lE h λx49 h49 h=>ad _ Y Y (UK.add (a:=yz) (b:=uN) h49) ?_;obtain⟨⟨Au,k41⟩,Ks,h⟩:=bS h;refine cB (dj Ks) 24 Y ⟨Y,aq⟩<|bE h λBS Iy h=>iR Y Y Y Iy<|bE h λl42 Wq h=>sR Au Y Y Y Y Wq<|RT.done<|bF.n<|aW.n<|aX<|lE h λAy GS h=>ad _ Y Y GS<|mv Y<|RT.done ?_;obtain rfl:=O h;exact aW.n ⟨(Ay,k41,l42),afk _ Y,wR []⟩;subst afj;obtain⟨Ow,QZ⟩:=Uv
 try dsimp only
 refine aW.n<|aX<|mo (s:=.row _) Y<|mv Y<|mv Y<|lE kV λGL Rc kV=>ln Y Rc<|lE kV λGb Rd kV=>ad _ Y Y Rd<|mo (s:=.kT _ _) Y ?_;obtain⟨⟨Ln,k45⟩,Uw,kV⟩:=bS kV;refine cB (dj Uw) 24 Y ⟨Y,aq⟩<|bE kV λQz Vj kV=>iR Y Y Y Vj<|bE kV λl46 ajt kV=>sR Ln Y Y Y Y ajt<|RT.done<|bF.n<|aW.n<|aX<|lE kV λN2 Wr kV=>ad _ Y Y Wr<|mv Y<|RT.done ?_;obtain rfl:=O kV;exact aW.n ⟨(N2,l46),afg _ Y,wR []⟩;subst aff
 try dsimp only
 refine aW.n<|sr<|mo (s:=.row _) Y<|an (s:=.row _) Y<|dn<|ku (i:=16) (E1:=130) (n:=1) (e:=bh) (l:=CW) hN (λ_ h=>h) Y<|aY ?_;obtain rfl:=O Rb;exact R1 Y
end
section
open Go.Fw Go.Fw.Z Go.RowKit
theorem DW{x0:List Nat}{x1:Nat}{r:Nat×List Nat}(h:lJ x0 x1=some r):QO ah 204 [.row 1000,.sv (.v (.int .u64 ((x1:Nat):Int)))] (TR 130 1 bh x0) (.sv (.v (.int .u64 ((r.1:Nat):Int)))) (List.flatMap bh r.2):=by
 refine CL Tryz.func204 Y (af Y) Y Y (λc9 M v0=>?_);unfold lJ at h;refine sr<|ag Y<|dn<|sr<|ag Y<|dn<|qq<|sr<|mo (s:=.row _) Y<|lE h λx9 h9 h=>lL Y Y h9<|lE h λdG fY h=>sb _ Y Y fY<|ag Y<|dn<|bE h λe8 Kt AX=>?_;refine bJ (λ(Lt:Nat×(List Nat))=>AS.cu 34 [(5,.sv (.v (.int .u64 ((Lt.1:Nat):Int))))] [] [(1000,TR 130 1 bh Lt.2)]) (λLt=>Lt=e8) ?_ (λLt Ku=>?_);refine bf ?_;refine bK Kt (λs8=>AS.cu 34 [(0,.row 1000),(1,.sv (.v (.int .u64 ((x1:Nat):Int)))),(5,.sv (.v (.int .u64 ((s8.1:Nat):Int)))),(6,ai s8.2.1)] [] [(1000,TR 130 1 bh s8.2.2)]) (wR []) (λs8 y8 G8 h Kv Kw=>?_);obtain⟨Wb,Ox,zC⟩:=s8
 try dsimp only
 refine qq<|sr<|mv Y<|lE h λc8 fI h=>ge _ Y Y fI<|dn ?_;cases c8;refine cF<|bP<|aW.x<|aW.x<|bF.x<|aW.n ?_;obtain rfl:=O (F h);exact⟨(Wb,zC),Kw _ Y,wR []⟩;refine cT<|bu<|aW.n<|qq<|bf<|sr<|mv Y<|lE (V h) λeX kf h=>RT.shl .none _ Y Y T (by decide) (UK.shl (a:=Wb) (q:=32) (s:=32) Y kf)<|mo (s:=.row _) Y<|mv Y<|bE h λjb lZ h=>iR Y Y Y lZ<|bE h λgK oP h=>lR Y Y oP Y<|lE h λgh kA h=>cv _ Y (UK.nat kA)<|lE h λiK oA h=>RT.or .none _ Y Y T (UK.or (a:=eX) (b:=gh) oA)<|ag Y<|dn<|sr<|mo (s:=.row _) Y ?_;refine mv Y<|mv Y<|mv Y<|bE h λir oV h=>RT.quo .none _ Y Y T (nzU oV) (UK.quo oV)<|lE h λlp vA h=>cv _ Y (UK.nat vA)<|bE h λiM oN h=>iR Y Y Y oN<|bE h λCc vZ h=>sR lp Y Y Y Y vZ<|dn<|aX<|mv Y<|mv Y<|bE h λjY qT h=>RT.rem .none _ Y Y T (nzR qT) (Z6 qT)<|ag Y<|RT.done<|bF.n<|aW.n<|aX<|mv Y<|lE h λdV jy h=>sb _ Y Y jy ?_;refine ag Y<|RT.done ?_;obtain rfl:=O h;exact aW.n ⟨(jY,dV,Cc),Kv _ Y,wR []⟩;subst Ku;obtain⟨ajf,Hv⟩:=Lt
 try dsimp only
 refine aW.n<|sr<|mv Y<|ag Y<|dn<|aY<|bE AX λ_ hle AX=>?_;obtain rfl:=O AX;exact⟨.inr Y,.sv (gR (.tmp Y (.nil)) au),(by show _=qG.live ⟨130,1,x0.length,List.flatMap bh Hv⟩;rw[<-sE hle];rfl)⟩
theorem C1{x0:List Nat}{x1:Nat}{r:List Nat}(h:iQ x0 x1=some r):Pure ah 211 [slc 1 (List.map bh x0),.v (.int .u64 ((x1:Nat):Int))] (slc 1 (List.map bh r)):=by
 refine bj Tryz.func211 Y (af Y) (λc9 M vs hvs=>?_);unfold iQ at h;refine sr<|aI Y (aC (n:=1) (e:=bh))<|dn<|sr<|RT.Ie .none (gY 0) Y ⟨Y,aq⟩ T Y Y<|an (s:=.kT _ _) Y<|dn<|sr<|mv Y<|lE h λff kz h=>ln Y kz<|lE h λc8 fI h=>ad _ Y Y fI<|bE h λeY iX h=>RT.Li (e:=bh) .none Y Y T Y T iX<|an (s:=.row _) Y<|dn<|qq<|sr<|mv Y<|lE h λdN gH h=>ln Y gH ?_;refine mv Y<|dn<|bE h λe8 Kt AX=>?_;refine bJ (λ(Lt:Nat×(List Nat))=>AS.cu 35 [(5,.kT 202 [.box 9]),(6,.row 302)] [(9,⟨128,[.sv (.v (.int .u64 ((Lt.1:Nat):Int)))]⟩)] [(302,TR 130 1 bh Lt.2)]) (λLt=>Lt=e8) ?_ (λLt Ku=>?_);refine bf ?_;refine bK Kt (λs8=>AS.cu 35 [(1,.sv (.v (.int .u64 ((x1:Nat):Int)))),(5,.kT 202 [.box 9]),(6,.row 302),(14,.sv (slc 1 (List.map bh x0))),(15,ai dN),(16,ai s8.1)] [(9,⟨128,[.sv (.v (.int .u64 ((s8.2.1:Nat):Int)))]⟩)] [(302,TR 130 1 bh s8.2.2)]) (cz (λi=>bif Nat.beq i 302 then 13 else i) Y Y Y Y Y ⟨.sv au,.kT,.row Y,.sv au,.sv au,.sv au,aq⟩ ⟨⟨_,Y,⟨.sv au,aq⟩⟩,aq⟩ ⟨⟨_,Y,cg.refl _⟩,aq⟩ (λi hi=>by rw[bV (show i≠302 by omega)];rfl)) (λs8 y8 G8 h Kv Kw=>?_);obtain⟨DO,zD,nL⟩:=s8
 try dsimp only
 refine sr<|lE h λdR jK h=>ls _ Y Y jK<|dn<|qq ?_;cases dR;refine cF<|bP<|aW.x<|aW.x<|bF.x<|aW.n ?_;obtain rfl:=O (F h);exact⟨(zD,nL),Kw _ Y,wR []⟩;refine cT<|bu<|aW.n<|qq<|bf<|sr<|bE (V h) λeE jd h=>ix Y Y jd<|lr Y Y<|ag Y<|dn<|aX<|mo (s:=.row _) Y<|mo (s:=.kT _ _) Y<|mv Y<|lE h λgU oQ h=>cv _ Y (UK.nat oQ)<|mv Y<|lE h λke nO h=>RT.shl .none _ Y Y T (Int.natCast_nonneg _) (UK.shl (a:=gU) (q:=((x1:Nat):Int)) (s:=min x1 64) Y nO) ?_;obtain⟨⟨ji,k10⟩,qS,h⟩:=bS h;refine cB (dj qS) 9 Y ⟨Y,aq⟩<|bl (l:=[ji]) (e:=bh) (.one Y (.nil)) Y Y Y Y Y Y<|bE h λlp vA h=>aR (k:=[ji]) (e:=bh) Y Y Y vA<|an (s:=.row _) Y<|RT.done<|bF.n<|aW.n<|aX<|lE h λiM oN h=>ad _ Y Y oN<|mv Y<|RT.done ?_;obtain rfl:=O h;exact aW.n ⟨(iM,k10,lp),Kv _ Y,cz (λi=>bif Nat.beq i 302 then 28 else i) Y Y Y Y Y ⟨.sv au,.kT,.row Y,.sv au,.sv au,.sv au,aq⟩ ⟨⟨_,Y,⟨.sv au,aq⟩⟩,aq⟩ ⟨⟨_,Y,cg.refl _⟩,aq⟩ (λi hi=>by rw[bV (show i≠302 by omega)];rfl)⟩;subst Ku;obtain⟨Ir,Wc⟩:=Lt
 try dsimp only
 refine aW.n<|sr<|mo (s:=.row _) Y<|mo (s:=.kT _ _) Y ?_;obtain⟨⟨jY,k12⟩,qT,AX⟩:=bS AX;refine cB (dj qT) 9 Y ⟨Y,aq⟩<|bl (l:=[jY]) (e:=bh) (.one Y (.nil)) Y Y Y Y Y Y<|bE AX λyy zG AX=>RT.Z8 (k:=[jY]) (e:=bh) .none Y Y Y T Y T zG<|ag Y<|dn<|aY ?_;obtain rfl:=O AX;exact R1 Y
theorem Cd{x0:List Nat}{x1:Nat}{r:List Nat}(h:mA x0 x1=some r):GF ah 211 [slc 1 (List.map bh x0),.v (.int .u64 ((x1:Nat):Int))] (TR 130 1 bh r):=by
 refine vU Tryz.func211 Y (af Y) (λc9 M vs hvs=>?_);unfold mA at h;refine sr<|ag Y<|dn<|bU (cY 4 304 130 1 Y Y T)<|sr<|RT.Ie .none (gY 0) Y ⟨Y,aq⟩ T Y Y<|an (s:=.kT _ _) Y<|dn<|sr<|mv Y<|lE h λff kz h=>ln Y kz<|lE h λc8 fI h=>ad _ Y Y fI<|bE h λeY iX h=>RT.Li (e:=bh) .none Y Y T Y T iX<|an (s:=.row _) Y<|dn<|qq<|sr<|mv Y<|lE h λdN gH h=>ln Y gH ?_;refine mv Y<|dn<|bE h λe8 Kt AX=>?_;refine bJ (λ(Lt:Nat×(List Nat))=>AS.cu 35 [(5,.kT 202 [.box 9]),(6,.row 306)] [(9,⟨128,[.sv (.v (.int .u64 ((Lt.1:Nat):Int)))]⟩)] [(306,TR 130 1 bh Lt.2)]) (λLt=>Lt=e8) ?_ (λLt Ku=>?_);refine bf ?_;refine bK Kt (λs8=>AS.cu 35 [(1,.sv (.v (.int .u64 ((x1:Nat):Int)))),(5,.kT 202 [.box 9]),(6,.row 306),(14,.sv (slc 1 (List.map bh x0))),(15,ai dN),(16,ai s8.1)] [(9,⟨128,[.sv (.v (.int .u64 ((s8.2.1:Nat):Int)))]⟩)] [(306,TR 130 1 bh s8.2.2)]) (cz (λi=>bif Nat.beq i 306 then 13 else i) Y Y Y Y Y ⟨.sv au,.kT,.row Y,.sv au,.sv au,.sv au,aq⟩ ⟨⟨_,Y,⟨.sv au,aq⟩⟩,aq⟩ ⟨⟨_,Y,cg.refl _⟩,aq⟩ (λi hi=>by rw[bV (show i≠306 by omega)];rfl)) (λs8 y8 G8 h Kv Kw=>?_);obtain⟨DO,zD,ye⟩:=s8
 try dsimp only
 refine sr<|lE h λdR jK h=>ls _ Y Y jK<|dn<|qq ?_;cases dR;refine cF<|bP<|aW.x<|aW.x<|bF.x<|aW.n ?_;obtain rfl:=O (F h);exact⟨(zD,ye),Kw _ Y,wR []⟩;refine cT<|bu<|aW.n<|qq<|bf<|sr<|bE (V h) λeE jd h=>ix Y Y jd<|lr Y Y<|ag Y<|dn<|aX<|mo (s:=.row _) Y<|mo (s:=.kT _ _) Y<|mv Y<|lE h λgU oQ h=>cv _ Y (UK.nat oQ)<|mv Y<|lE h λke nO h=>RT.shl .none _ Y Y T (Int.natCast_nonneg _) (UK.shl (a:=gU) (q:=((x1:Nat):Int)) (s:=min x1 64) Y nO) ?_;obtain⟨⟨ji,k10⟩,qS,h⟩:=bS h;refine cB (dj qS) 9 Y ⟨Y,aq⟩<|bl (l:=[ji]) (e:=bh) (.one Y (.nil)) Y Y Y Y Y Y<|bE h λlp vA h=>aR (k:=[ji]) (e:=bh) Y Y Y vA<|an (s:=.row _) Y<|RT.done<|bF.n<|aW.n<|aX<|lE h λiM oN h=>ad _ Y Y oN<|mv Y<|RT.done ?_;obtain rfl:=O h;exact aW.n ⟨(iM,k10,lp),Kv _ Y,cz (λi=>bif Nat.beq i 306 then 28 else i) Y Y Y Y Y ⟨.sv au,.kT,.row Y,.sv au,.sv au,.sv au,aq⟩ ⟨⟨_,Y,⟨.sv au,aq⟩⟩,aq⟩ ⟨⟨_,Y,cg.refl _⟩,aq⟩ (λi hi=>by rw[bV (show i≠306 by omega)];rfl)⟩;subst Ku;obtain⟨Ir,yf⟩:=Lt
 try dsimp only
 refine aW.n<|sr<|mo (s:=.row _) Y<|mo (s:=.kT _ _) Y ?_;obtain⟨⟨jY,k12⟩,qT,AX⟩:=bS AX;refine cB (dj qT) 9 Y ⟨Y,aq⟩<|bl (l:=[jY]) (e:=bh) (.one Y (.nil)) Y Y Y Y Y Y<|bE AX λyy zG AX=>aR (k:=[jY]) (e:=bh) Y Y Y zG<|an (s:=.row _) Y<|dn<|aY ?_;obtain rfl:=O AX;exact⟨.inr Y,_,.tmp Y,Y⟩
theorem C2{x0:Nat}{r:Int}(h:kx x0=some r):Pure ah 215 [.v (.int .u32 ((x0:Nat):Int))] (ay r):=by
 refine bj Tryz.func215 Y (af Y) (λc9 M vs hvs=>?_);unfold kx at h;refine sr<|ag Y<|dn<|qq<|sr<|mv Y<|lE h λx4 h4 h=>ge _ Y Y (leN (p:=65536) (q:=x0) h4)<|dn ?_;refine bL h (λj2=>AS.cu 19 [(0,.sv (.v (.int .u32 ((j2.1:Nat):Int)))),(2,ai j2.2)] [] []) (λh=>?_) (λj2 h=>?_);cases x4;exact fs<|⟨(x0,0),(F h),wR []⟩;exact cT<|sr<|mv Y<|lE (V h) λx6 h6 h=>RT.shr .none _ Y Y T (by decide) (Mn (k:=.u32) (a:=x0) (q:=16) (s:=16) Y h6)<|ag Y<|dn<|aX<|ag Y<|dn<|⟨(x6,16),h,wR []⟩;obtain⟨Q0,aao⟩:=j2
 try dsimp only
 refine aW.n<|qq<|sr<|mv Y<|lE h λx8 h8 h=>ge _ Y Y (leN (p:=256) (q:=Q0) h8)<|dn ?_;refine bL h (λj4=>AS.cu 19 [(0,.sv (.v (.int .u32 ((j4.1:Nat):Int)))),(2,ai j4.2)] [] []) (λh=>?_) (λj4 h=>?_);cases x8;exact fs<|⟨(Q0,aao),(F h),wR []⟩;exact cT<|sr<|mv Y<|lE (V h) λdG fY h=>RT.shr .none _ Y Y T (by decide) (Mn (k:=.u32) (a:=Q0) (q:=8) (s:=8) Y fY)<|ag Y<|dn<|aX<|mv Y<|lE h λc8 fI h=>ad _ Y Y fI<|ag Y<|dn<|⟨(dG,c8),h,wR []⟩;obtain⟨ajg,ajh⟩:=j4
 try dsimp only
 refine aW.n<|sr<|mv Y<|mv Y<|lE h λdN gH h=>cv _ Y (UK.nat gH)<|bE h λeX kf h=>?_;refine RT.six (l:=[0,1,2,2,3,3,3,3,4,4,4,4,4,4,4,4,5,5,5,5,5,5,5,5,5,5,5,5,5,5,5,5,6,6,6,6,6,6,6,6,6,6,6,6,6,6,6,6,6,6,6,6,6,6,6,6,6,6,6,6,6,6,6,6,7,7,7,7,7,7,7,7,7,7,7,7,7,7,7,7,7,7,7,7,7,7,7,7,7,7,7,7,7,7,7,7,7,7,7,7,7,7,7,7,7,7,7,7,7,7,7,7,7,7,7,7,7,7,7,7,7,7,7,7,7,7,7,7,8,8,8,8,8,8,8,8,8,8,8,8,8,8,8,8,8,8,8,8,8,8,8,8,8,8,8,8,8,8,8,8,8,8,8,8,8,8,8,8,8,8,8,8,8,8,8,8,8,8,8,8,8,8,8,8,8,8,8,8,8,8,8,8,8,8,8,8,8,8,8,8,8,8,8,8,8,8,8,8,8,8,8,8,8,8,8,8,8,8,8,8,8,8,8,8,8,8,8,8,8,8,8,8,8,8,8,8,8,8,8,8,8,8,8,8,8,8,8,8,8,8,8,8,8,8,8,8]) .none Y Y T kf ?_;refine lE h λdR jK h=>cv _ Y jK<|lE h λeE jd h=>ad _ Y Y jd<|ag Y<|dn<|aY ?_;obtain rfl:=O h;exact R1 Y
theorem vB{x0:Nat}{r:Int}(h:fg x0=some r):Pure ah 210 [.v (.int .u32 ((x0:Nat):Int))] (ay r):=by
 refine bj Tryz.func210 Y (af Y) (λc9 M vs hvs=>?_);unfold fg at h;refine sr<|ag Y<|dn<|sr<|mv Y<|bE h λx4 h4 h=>cl (C2 h4) ⟨Y,aq⟩<|lE h λx5 h5 h=>sb _ Y Y h5<|ag Y<|dn<|aY ?_;obtain rfl:=O h;exact R1 Y
theorem DX{x0:List Nat}{o0:Nat}{n0:Nat}{x1:List Nat}{r:Nat×List Nat}(h:lK x0 o0 n0 x1=some r):QO ah 212 [.uZ 1000 (o0*1) n0,.sv (slc 1 (List.map bh x1))] (TR 130 1 bh x0) (.sv (.v (.int .u64 ((r.1:Nat):Int)))) (List.flatMap bh r.2):=by
 refine CL Tryz.func212 Y (af Y) Y Y (λc9 M v0=>?_);unfold lK at h;refine sr<|ag Y<|dn<|sr<|mv Y<|lE h λc8 fI h=>ln Y fI<|ag Y<|dn<|qq<|aZ mixed<|mo (s:=.uZ _ _ _) Y<|mv Y<|bE h λdN gH h=>RT.Ot .none Y Y T gH<|bE h λeX kf h=>lR Y Y kf Y<|lE h λdR jK h=>cv _ Y (UK.nat jK)<|lE h λeE jd h=>RT.shl .none _ Y Y T (by decide) (UK.shl (a:=dR) (q:=32) (s:=32) Y jd)<|mo (s:=.uZ _ _ _) Y ?_;refine mv Y<|lE h λgh kA h=>sb _ Y Y kA<|bE h λiK oA h=>RT.Ot .none Y Y T oA<|bE h λgU oQ h=>lR Y Y oQ Y<|lE h λgV nG h=>cv _ Y (UK.nat nG)<|lE h λke nO h=>RT.or .none _ Y Y T (UK.or (a:=eE) (b:=gV) nO)<|ag Y ?_;refine RT.done ⟨by kernel_rfl,?_⟩;refine aW.n<|qq<|aZ mixed<|mv Y<|mv Y<|lE h λlp vA h=>sb _ Y Y vA<|bE h λiM oN h=>ix Y Y oN<|lr Y Y<|lE h λnu xy h=>cv _ Y (UK.nat xy)<|mv Y<|mv Y<|lE h λyy zG h=>sb _ Y Y zG<|bE h λpC yL h=>ix Y Y yL<|lr Y Y<|lE h λpE AY h=>cv _ Y (UK.nat AY)<|ag Y<|ag Y ?_;refine RT.done ⟨by kernel_rfl,?_⟩;refine aW.n<|qq<|aZ mixed<|mv Y<|mv Y<|bE h λlj tf h=>RT.quo .none _ Y Y T (nzU tf) (UK.quo tf)<|mv Y<|mv Y<|bE h λyz ET h=>RT.rem .none _ Y Y T (nzR ET) (Z6 ET)<|ag Y<|ag Y ?_;refine RT.done ⟨by kernel_rfl,?_⟩;refine aW.n<|qq<|bE h λFk yh oW=>?_
 refine bJ (λ(Up:Nat)=>AS.cu 71 [(9,.sv (.v (.int .u64 ((Up:Nat):Int))))] [] [(1000,TR 130 1 bh x0)]) (λUp=>Up=Fk) ?_ (λUp yj=>?_);refine bf ?_;refine bK yh (λuG=>AS.cu 71 [(0,.uZ 1000 (o0*1) n0),(5,ai c8),(7,.sv (.v (.int .u64 ((nu:Nat):Int)))),(8,.sv (.v (.int .u64 ((pE:Nat):Int)))),(9,.sv (.v (.int .u64 ((uG.1:Nat):Int)))),(10,.sv (.v (.int .u64 ((uG.2:Nat):Int))))] [] [(1000,TR 130 1 bh x0)]) (wR []) (λuG ZD ZE h yl uO=>?_);obtain⟨Ko,Lo⟩:=uG
 try dsimp only
 refine qq<|qq ?_;refine bL h (λGO=>AS.cu 71 [(0,.uZ 1000 (o0*1) n0),(5,ai c8),(7,.sv (.v (.int .u64 ((nu:Nat):Int)))),(8,.sv (.v (.int .u64 ((pE:Nat):Int)))),(9,.sv (.v (.int .u64 ((Ko:Nat):Int)))),(10,.sv (.v (.int .u64 ((Lo:Nat):Int)))),(61,aj GO)] [] [(1000,TR 130 1 bh x0)]) (λh=>?_) (λQ1 h=>?_);refine aX<|mv Y<|lE h λyd GR h=>RT.shr .none _ Y Y T (by decide) (Mn (k:=.u64) (a:=Ko) (q:=32) (s:=32) Y GR)<|lE h λyI h46 h=>ne _ Y Y (neN (p:=yd) (q:=0) h46)<|mv Y<|bE h λWe dH h=>?_;cases yI;refine gm Y<|gm Y<|lE (F dH) λAu Ks dH=>RT.mul (.some Y Y) _ Y Y T (UK.mul (a:=Ko) (b:=pE) Ks)<|gm Y<|lE dH λAy GS dH=>RT.shl (.some Y Y) _ Y Y T (by decide) (UK.shl (a:=Lo) (q:=32) (s:=32) Y GS)<|RT.move (.some Y Y) (s:=.uZ _ _ _) Y T<|gm Y<|lE dH λCX Re dH=>RT.sub (.some Y Y) _ Y Y T Re<|bE dH λGL Rc dH=>RT.Ot (.some Y Y) Y Y T Rc<|bE dH λGb Rd dH=>RT.aeR (.some Y Y) Y Y Rd Y T ?_;refine lE dH λQA h58 dH=>RT.conv (.some Y Y) _ Y T (UK.nat h58)<|lE dH λLn Uw dH=>RT.or (.some Y Y) _ Y Y T (UK.or (a:=Ay) (b:=QA) Uw)<|lE dH λQz Vj dH=>gg _ Y Y (ltN (p:=Ln) (q:=Au) Vj) ?_;obtain rfl:=O dH;exact pF Y<|dn<|⟨Qz,h,wR []⟩;obtain rfl:=O (V dH)
 exact ww<|ww<|ww<|ww<|ww<|ww<|ww<|ww<|ww<|ww<|ww<|ww<|ww<|pT Y<|dn<|⟨true,h,wR []⟩
 try dsimp only
 refine aW.n ?_;cases Q1;refine cF<|bP<|aW.x<|aW.x<|bF.x<|aW.n ?_;obtain rfl:=O (F h);exact⟨Ko,uO _ Y,wR []⟩;refine cT<|bu<|aW.n<|bf<|sr<|mv Y<|lE (V h) λx63 h63 h=>sb _ Y Y (UK.sub (a:=Ko) (b:=1) h63)<|ag Y<|dn<|sr<|mv Y<|mv Y<|lE h λMv h66 h=>ad _ Y Y (UK.add (a:=Lo) (b:=nu) h66)<|ag Y<|dn<|sr<|mv Y<|lE h λQ2 h68 h=>RT.shr .none _ Y Y T (by decide) (Mn (k:=.u64) (a:=Mv) (q:=32) (s:=32) Y h68)<|lE h λWd h69 h=>ne _ Y Y (neN (p:=Q2) (q:=0) h69) ?_;refine dn ?_;cases Wd;refine cF<|bu<|bF.n ?_;obtain rfl:=O (F h);exact aW.n ⟨(x63,Mv),yl _ Y,wR []⟩;refine cT<|bP<|bF.y (by decide)<|aW.x<|bF.x<|aW.n ?_;obtain rfl:=O (V h);exact⟨x63,uO _ Y,wR []⟩;subst yj
 try dsimp only
 refine aW.n<|sr<|mv Y<|ag Y<|dn<|aY<|bE oW λ_ hle oW=>?_;obtain rfl:=O oW;exact⟨.inr Y,.sv (gR (.tmp Y (.nil)) au),(by show _=qG.live ⟨130,1,x0.length,List.flatMap bh x0⟩;rw[<-sE hle];rfl)⟩
theorem xm{x0:List Nat}{o0:Nat}{n0:Nat}{x1:List Nat}{x2:Nat}{r:Bool×List Nat}(h:eI x0 o0 n0 x1 x2=some r):QO ah 213 [.uZ 1000 (o0*1) n0,.sv (slc 1 (List.map bh x1)),.sv (.v (.int .u64 ((x2:Nat):Int)))] (TR 130 1 bh x0) (aj r.1) (List.flatMap bh r.2):=by
 refine CL Tryz.func213 Y (af Y) Y Y (λc9 M v0=>?_);unfold eI at h;refine sr<|ag Y<|dn<|sr<|ag Y<|dn<|sr<|RT.Ie .none (gY 0) Y ⟨Y,aq⟩ T Y Y<|an (s:=.kT _ _) Y<|dn<|qq<|sr<|mo (s:=.uZ _ _ _) Y<|lE h λdV jy h=>RT.aeW .none Y T jy<|mv Y<|dn<|bE h λUr Mz tQ=>?_;refine bJ (λ(Fl:Nat×(List Nat))=>AS.cu 51 [(7,.sv (.v (.int .u64 ((Fl.1:Nat):Int))))] [] [(1000,TR 130 1 bh Fl.2)]) (λFl=>Fl=Ur) ?_ (λFl MA=>?_);refine bf ?_;refine bK Mz (λAh=>AS.cu 51 [(0,.uZ 1000 (o0*1) n0),(1,.sv (slc 1 (List.map bh x1))),(2,.sv (.v (.int .u64 ((x2:Nat):Int)))),(7,.sv (.v (.int .u64 ((Ah.1:Nat):Int)))),(8,.kT 202 [.box 12]),(14,ai dV),(15,ai Ah.2.1)] [(12,⟨128,[.sv (.v (.int .u64 ((Ah.2.2.1:Nat):Int)))]⟩)] [(1000,TR 130 1 bh Ah.2.2.2)]) (wR []) (λAh y12 G12 h MB MC=>?_);obtain⟨Uq,DP,Mw,BT⟩:=Ah
 try dsimp only
 refine sr<|lE h λeX kf h=>ls _ Y Y kf<|dn<|qq ?_;cases eX;refine cF<|bP<|aW.x<|aW.x<|bF.x<|aW.n ?_;obtain rfl:=O (F h);exact⟨(Uq,BT),MC _ Y,wR []⟩;refine cT<|bu<|aW.n<|qq<|bf<|sr<|mv Y<|ag Y<|dn<|sr<|ag Y<|dn<|qq<|sr<|mv Y<|mv Y<|lE (V h) λgK oP h=>ln Y oP<|lE h λgh kA h=>ls _ Y Y kA<|dn ?_;refine bL h (λj14=>AS.cu 51 [(0,.uZ 1000 (o0*1) n0),(1,.sv (slc 1 (List.map bh x1))),(2,.sv (.v (.int .u64 ((x2:Nat):Int)))),(7,.sv (.v (.int .u64 ((Uq:Nat):Int)))),(8,.kT 202 [.box 12]),(9,ai DP),(10,.sv (.v (.int .u64 ((j14:Nat):Int)))),(14,ai dV),(15,ai DP)] [(12,⟨128,[.sv (.v (.int .u64 ((Mw:Nat):Int)))]⟩)] [(1000,TR 130 1 bh BT)]) (λh=>?_) (λWf h=>?_);cases gh;exact fs<|⟨0,(F h),wR []⟩;exact cT<|aX<|mv Y<|mv Y<|bE (V h) λgV nG h=>ix Y Y nG<|lr Y Y<|lE h λji qS h=>cv _ Y (UK.nat qS)<|mv Y<|lE h λlp vA h=>RT.mul .none _ Y Y T (UK.mul (a:=ji) (b:=x2) vA)<|ag Y<|dn<|⟨lp,h,wR []⟩
 try dsimp only
 refine aW.n<|qq<|aZ mixed<|mo (s:=.uZ _ _ _) Y<|mv Y<|bE h λnu xy h=>RT.Ot .none Y Y T xy<|bE h λjY qT h=>lR Y Y qT Y<|lE h λow xj h=>cv _ Y (UK.nat xj)<|mo (s:=.kT _ _) Y<|mv Y ?_;obtain⟨⟨nF,k16⟩,xn,h⟩:=bS h;refine cB (dj xn) 12 Y ⟨Y,aq⟩<|lE h λpE AY h=>cv _ Y (UK.nat AY)<|lE h λuL AU h=>sb _ Y Y (UK.sub (a:=ow) (b:=pE) AU)<|mv Y<|lE h λlj tf h=>sb _ Y Y (UK.sub (a:=uL) (b:=Uq) tf)<|ag Y ?_;refine RT.done ⟨by kernel_rfl,?_⟩;refine aW.n<|sr<|mo (s:=.uZ _ _ _) Y<|mv Y<|mv Y<|lE h λsj Aw h=>cv _ Y (UK.nat Aw)<|bE h λyd GR h=>RT.Ot .none Y Y T GR<|bE h λl18 Ws h=>sR sj Y Y Y Y Ws<|dn<|aX<|mv Y<|lE h λxl AW h=>RT.shr .none _ Y Y T (by decide) (Mn (k:=.u64) (a:=lj) (q:=63) (s:=63) Y AW)<|ag Y<|RT.done<|bF.n<|aW.n<|aX<|lE h λuN h48 h=>ad _ Y Y h48<|mv Y<|RT.done ?_;obtain rfl:=O h;exact aW.n ⟨(xl,uN,k16,l18),MB _ Y,wR []⟩;subst MA;obtain⟨Wg,DQ⟩:=Fl
 try dsimp only
 refine aW.n<|sr<|mv Y<|lE tQ λAu Ks tQ=>ne _ Y Y (neN (p:=Wg) (q:=0) Ks)<|ag Y<|dn<|aY<|bE tQ λ_ hle tQ=>?_;obtain rfl:=O tQ;exact⟨.inr Y,.sv (gR (.tmp Y (.nil)) au),(by show _=qG.live ⟨130,1,x0.length,List.flatMap bh DQ⟩;rw[<-sE hle];rfl)⟩
set_option maxHeartbeats 4000000 in
theorem Fm{x0:List Nat}{x1:List Nat}(N:Nat){r:(List Nat)×(List Nat)}(h:mR x0 x1=some r):dB ah 205 N [slc 1 (List.map bh x0),slc 1 (List.map bh x1)] (.Cn [nw N (slc 1 (List.map bh r.1)),nw N (slc 1 (List.map bh r.2))]):=by
 refine bT Tryz.func205 Y (af Y) (λc9 M vs hN hvs=>?_);unfold mR at h;refine sr<|ag Y<|ag Y<|dn<|bU (cY 4 306 130 1 Y Y T)<|bU (cY 5 308 130 1 Y Y T)<|sr<|mv Y<|lE h λdR jK h=>ln Y jK<|ag Y<|dn<|sr<|mv Y<|mv Y<|lE h λgK oP h=>sb _ Y Y oP<|bE h λgh kA h=>ix Y Y kA<|lr Y Y<|bE h λgU oQ h=>cl (vB oQ) ⟨Y,aq⟩ ?_;refine lE h λgV nG h=>cv _ Y (UK.conv nG)<|ag Y<|dn<|qq<|aZ mixed<|mv Y<|mv Y<|bE h λir oV h=>cN (Cd oV) ⟨Y,Y,aq⟩<|mv Y<|mv Y<|bE h λuM zH h=>cl (C1 zH) ⟨Y,Y,aq⟩<|mv Y<|bE h λjY qT h=>RT.Il .none 0 dR Y Y ⟨_,Y⟩ T qT<|an (s:=.row _) Y<|ag Y ?_;refine RT.done ⟨by kernel_rfl,?_⟩;refine aW.n<|sr<|mv Y<|lE h λyy zG h=>ln Y zG<|mv Y<|lE h λnF xn h=>sb _ Y Y xn<|lE h λpE AY h=>ad _ Y Y AY<|bE h λuL AU h=>RT.vW (n:=1) (e:=bh) .none Y Y T Y T (by rfl) (by decide) (by exact⟨au,aq⟩) AU<|an (s:=.row _) Y<|dn<|qq<|sr<|mv Y<|lE h λlj tf h=>ln Y tf<|mv Y<|lE h λpD Av h=>sb _ Y Y Av ?_;refine ag Y<|dn<|bE h λe36 anA afn=>?_;refine bJ (λ(Ux:(List Nat)×(List Nat))=>AS.cu 141 [(4,.row 38),(6,ai dR),(7,.sv (.v (.int .u64 ((gV:Nat):Int)))),(8,.row 27)] [] [(38,TR 130 1 bh Ux.1),(27,TR 130 1 bh Ux.2)]) (λUx=>Ux=e36) ?_ (λUx anB=>?_);refine bf ?_
 refine bK anA (λs36=>AS.cu 141 [(4,.row 38),(6,ai dR),(7,.sv (.v (.int .u64 ((gV:Nat):Int)))),(8,.row 27),(9,.sv (slc 1 (List.map bh jY))),(10,ai s36.1)] [] [(38,TR 130 1 bh s36.2.1),(27,TR 130 1 bh s36.2.2)]) (wR []) (λs36 y36 G36 h anC anD=>?_);obtain⟨nM,AK,CY⟩:=s36
 try dsimp only
 refine qq<|sr<|mv Y<|lE h λsj Aw h=>ge _ Y Y Aw<|dn ?_;cases sj;refine cF<|bP<|aW.x<|aW.x<|bF.x<|aW.n ?_;obtain rfl:=O (F h);exact⟨(AK,CY),anD _ Y,wR []⟩;refine cT<|bu<|aW.n<|qq<|bf<|sr<|mo (s:=.row _) Y<|mv Y<|mv Y<|mv Y<|lE (V h) λBS Iy h=>ad _ Y Y Iy<|lE h λAy GS h=>ad _ Y Y GS ?_;obtain⟨⟨o53,n53⟩,Wt,h⟩:=bS h;refine RT.ai6 .none nM Ay Y Y ⟨_,Y⟩ ⟨_,Y⟩ T Wt<|mv Y ?_;obtain⟨⟨CX,l38⟩,Re,h⟩:=bS h;refine bE h λ_ anE h=>cR (l:=CY) (l':=l38) (e:=bh) (DX Re) (sE anE) 27 Y (.k2 Y Y)<|ag Y<|dn<|qq<|sr<|mo (s:=.row _) Y<|mv Y<|mv Y<|mv Y<|lE h λQz Vj h=>ad _ Y Y Vj<|lE h λN2 Wr h=>ad _ Y Y Wr ?_;obtain⟨⟨o62,n62⟩,h62,h⟩:=bS h;refine RT.ai6 .none nM N2 Y Y ⟨_,Y⟩ ⟨_,Y⟩ T h62<|mv Y<|mv Y ?_;obtain⟨⟨SY,ZA⟩,ZF,h⟩:=bS h;refine bE h λ_ anG h=>cR (l:=l38) (l':=ZA) (e:=bh) (xm ZF) (sE anG) 27 Y (.k3 Y Y Y)<|dn ?_;refine bL h (λj53=>AS.cu 141 [(4,.row 38),(6,ai dR),(7,.sv (.v (.int .u64 ((gV:Nat):Int)))),(8,.row 27),(9,.sv (slc 1 (List.map bh jY))),(10,ai nM),(11,.sv (.v (.int .u64 ((j53.1:Nat):Int))))] [] [(38,TR 130 1 bh AK),(27,TR 130 1 bh j53.2)]) (λh=>?_) (λj53 h=>?_);cases SY;exact fs<|⟨(CX,ZA),(F h),wR []⟩
 refine cT<|sr<|mv Y<|lE (V h) λVh h67 h=>sb _ Y Y (UK.sub (a:=CX) (b:=1) h67)<|ag Y<|dn<|sr<|RT.Ie .none (gY 0) Y ⟨Y,aq⟩ T Y Y<|an (s:=.kT _ _) Y<|dn<|qq<|sr<|mv Y<|lE h λx70 h70 h=>ln Y h70<|mv Y<|dn<|bE h λe65 anI AZ=>?_;refine bJ (λ(Uy:Nat×(List Nat))=>AS.cu 141 [(4,.row 38),(6,ai dR),(7,.sv (.v (.int .u64 ((gV:Nat):Int)))),(8,.row 27),(9,.sv (slc 1 (List.map bh jY))),(10,ai nM),(11,.sv (.v (.int .u64 ((Vh:Nat):Int)))),(12,.kT 202 [.box 68])] [(68,⟨128,[.sv (.v (.int .u64 ((Uy.1:Nat):Int)))]⟩)] [(38,TR 130 1 bh AK),(27,TR 130 1 bh Uy.2)]) (λUy=>Uy=e65) ?_ (λUy anJ=>?_);refine bf ?_;refine bK anI (λs65=>AS.cu 141 [(4,.row 38),(6,ai dR),(7,.sv (.v (.int .u64 ((gV:Nat):Int)))),(8,.row 27),(9,.sv (slc 1 (List.map bh jY))),(10,ai nM),(11,.sv (.v (.int .u64 ((Vh:Nat):Int)))),(12,.kT 202 [.box 68]),(69,.sv (slc 1 (List.map bh jY))),(70,ai x70),(71,ai s65.1)] [(68,⟨128,[.sv (.v (.int .u64 ((s65.2.1:Nat):Int)))]⟩)] [(38,TR 130 1 bh AK),(27,TR 130 1 bh s65.2.2)]) (wR []) (λs65 y65 G65 h anK anL=>?_);obtain⟨Fh,DR,CZ⟩:=s65
 try dsimp only
 refine sr<|lE h λOy h72 h=>ls _ Y Y h72<|dn<|qq ?_;cases Oy;refine cF<|bP<|aW.x<|aW.x<|bF.x<|aW.n ?_;obtain rfl:=O (F h);exact⟨(DR,CZ),anL _ Y,wR []⟩;refine cT<|bu<|aW.n<|qq<|bf<|sr<|mv Y<|bE (V h) λx74 h74 h=>ix Y Y h74<|lr Y Y<|ag Y<|ag Y<|dn<|aX<|mo (s:=.row _) Y<|mv Y<|mv Y<|lE h λUs h79 h=>ad _ Y Y h79<|mo (s:=.kT _ _) Y<|mo (s:=.row _) Y<|mv Y<|mv Y<|lE h λZB h84 h=>ad _ Y Y h84<|bE h λx85 h85 h=>iR Y Y Y h85 ?_;refine bE h λQ5 h86 h=>lR Y Y h86 Y<|lE h λx87 h87 h=>cv _ Y (UK.nat h87)<|mv Y<|lE h λZC h89 h=>cv _ Y (UK.nat h89)<|lE h λVi h90 h=>ad _ Y Y (UK.add (a:=x87) (b:=ZC) h90) ?_;obtain⟨⟨x91,k68⟩,h91,h⟩:=bS h;refine cB (dj h91) 68 Y ⟨Y,aq⟩<|bE h λx92 h92 h=>iR Y Y Y h92<|bE h λl69 ajA h=>sR x91 Y Y Y Y ajA<|RT.done<|bF.n<|aW.n<|aX<|lE h λx93 h93 h=>ad _ Y Y h93<|mv Y<|RT.done ?_;obtain rfl:=O h;exact aW.n ⟨(x93,k68,l69),anK _ Y,wR []⟩;subst anJ;obtain⟨Oz,Is⟩:=Uy
 try dsimp only
 refine aW.n<|aX<|mo (s:=.row _) Y<|mv Y<|mv Y<|lE AZ λx97 h97 AZ=>ad _ Y Y h97<|mo (s:=.kT _ _) Y<|mo (s:=.row _) Y<|mv Y<|mv Y<|lE AZ λDS Rf AZ=>ad _ Y Y Rf<|bE AZ λKp Wu AZ=>iR Y Y Y Wu<|bE AZ λKq Wv AZ=>lR Y Y Wv Y<|lE AZ λKr Ww AZ=>cv _ Y (UK.nat Ww) ?_;obtain⟨⟨Q6,k72⟩,afq,AZ⟩:=bS AZ;exact cB (dj afq) 68 Y ⟨Y,aq⟩<|bE AZ λajj anO AZ=>iR Y Y Y anO<|bE AZ λl73 ajC AZ=>sR Q6 Y Y Y Y ajC<|dn<|⟨(Vh,l73),AZ,wR []⟩;obtain⟨Wh,Q3⟩:=j53
 try dsimp only
 refine aW.n<|aX<|mo (s:=.row _) Y<|mv Y<|mv Y<|lE h λQ4 afr h=>cv _ Y (UK.nat afr)<|bE h λaji anP h=>iR Y Y Y anP<|bE h λl55 ajD h=>sR Q4 Y Y Y Y ajD<|RT.done<|bF.n<|aW.n<|aX<|mv Y<|lE h λyI h46 h=>sb _ Y Y h46<|ag Y<|RT.done ?_;obtain rfl:=O h;exact aW.n ⟨(yI,l55,Q3),anC _ Y,wR []⟩;subst anB;obtain⟨It,Fi⟩:=Ux
 try dsimp only
 refine aW.n<|sr<|mv Y<|bE afn λIu Wx afn=>RT.vW (n:=1) (e:=bh) .none Y Y T Y T (by rfl) (by decide) (by exact⟨au,aq⟩) Wx<|an (s:=.row _) Y<|dn<|qq<|sr<|mv Y<|mv Y<|dn<|bE afn λe81 anQ anR=>?_;refine bJ (λ(zE:(List Nat))=>AS.cu 141 [(4,.row 38),(5,.row 114)] [] [(38,TR 130 1 bh It),(114,TR 130 1 bh zE)]) (λzE=>zE=e81) ?_ (λzE anS=>?_);refine bf ?_;refine bK anQ (λs81=>AS.cu 141 [(4,.row 38),(5,.row 114),(7,.sv (.v (.int .u64 ((gV:Nat):Int)))),(8,.row 27),(115,ai dR),(116,ai s81.1)] [] [(38,TR 130 1 bh It),(114,TR 130 1 bh s81.2),(27,TR 130 1 bh Fi)]) (wR []) (λs81 y81 G81 h anT anU=>?_);obtain⟨BU,DT⟩:=s81
 try dsimp only
 refine sr<|lE h λQ7 afs h=>ls _ Y Y afs<|dn<|qq ?_;cases Q7;refine cF<|bP<|aW.x<|aW.x<|bF.x<|aW.n ?_;obtain rfl:=O (F h);exact⟨DT,anU _ Y,wR []⟩;refine cT<|bu<|aW.n<|qq<|bf<|sr<|mv Y<|ag Y<|dn<|aZ mixed<|mo (s:=.row _) Y<|mv Y<|mo (s:=.row _) Y<|mv Y<|bE (V h) λajk anV h=>iR Y Y Y anV<|bE h λUt afu h=>lR Y Y afu Y<|lE h λae7 anW h=>cv _ Y (UK.nat anW)<|mo (s:=.row _) Y<|mv Y<|lE h λajl h128 h=>ad _ Y Y h128<|bE h λUu afv h=>?_;refine iR Y Y Y afv<|bE h λajm anX h=>lR Y Y anX Y<|lE h λae8 anY h=>cv _ Y (UK.nat anY)<|lE h λQ8 afw h=>RT.shl .none _ Y Y T (by decide) (UK.shl (a:=ae8) (q:=32) (s:=32) Y afw)<|lE h λae9 anZ h=>RT.or .none _ Y Y T (UK.or (a:=ae7) (b:=Q8) anZ)<|mv Y<|lE h λajn an0 h=>RT.shr .none _ Y Y T (Int.natCast_nonneg _) (Mn (k:=.u64) (a:=ae9) (q:=((gV:Nat):Int)) (s:=min gV 64) Y an0)<|lE h λafa an1 h=>cv _ Y (UK.nat an1) ?_;refine bE h λajo an2 h=>iR Y Y Y an2<|bE h λl83 ajE h=>sR afa Y Y Y Y ajE ?_;refine RT.done ⟨by kernel_rfl,?_⟩;refine bF.n<|aW.n<|aX<|lE h λafb an3 h=>ad _ Y Y an3<|mv Y<|RT.done ?_;obtain rfl:=O h;exact aW.n ⟨(afb,l83),anT _ Y,wR []⟩;subst anS
 try dsimp only
 refine aW.n<|sr<|mo (s:=.row _) Y<|mo (s:=.row _) Y<|an (s:=.row _) Y<|an (s:=.row _) Y<|dn<|ku (i:=38) (E1:=130) (n:=1) (e:=bh) (l:=It) hN (λ_ h=>h) Y<|ku (i:=114) (E1:=130) (n:=1) (e:=bh) (l:=zE) hN (λ_ h=>h) Y<|aY ?_;obtain rfl:=O anR;exact R2 Y Y
theorem uS{x0:List Nat}(N:Nat){r:List Nat}(h:gz x0=some r):dB ah 175 N [slc 1 (List.map bh x0)] (nw N (slc 1 (List.map bh r))):=aaj (yK h)
theorem xA{x0:List Nat}{x1:List Nat}(N:Nat){r:(List Nat)×(List Nat)}(h:jJ x0 x1=some r):dB ah 193 N [slc 1 (List.map bh x0),slc 1 (List.map bh x1)] (.Cn [nw N (slc 1 (List.map bh r.1)),nw N (slc 1 (List.map bh r.2))]):=by
 refine bT Tryz.func193 Y (af Y) (λc9 M vs hN hvs=>?_);unfold jJ at h;refine sr<|ag Y<|aI Y (bt (N:=N) (n:=1) (e:=bh))<|dn<|bU (cY 4 304 130 1 Y Y T)<|qq<|bf<|sr<|mv Y<|mv Y<|bE h λc8 fI h=>cl (jZ fI) ⟨Y,Y,aq⟩<|lE h λeY iX h=>ls _ Y Y iX<|ag Y<|dn ?_;cases eY;refine cF<|sr<|mv Y<|lE (F h) λeE jd h=>ln Y jd<|lE h λjb lZ h=>RT.leq .none _ Y Y T lZ<|ag Y<|dn ?_;cases jb;refine cF<|sr<|mv Y<|lE (F h) λnF xn h=>ln Y xn<|lE h λpE AY h=>eq _ Y Y (xh (p:=nF) (q:=1) AY)<|ag Y<|dn ?_;cases pE;refine cF<|bu<|bF.n<|aW.n<|sr<|mv Y<|mv Y ?_;obtain⟨⟨ajp,ajq⟩,GS,h⟩:=bS (F h);refine RT.bX .none (Fm N GS) hN Y ⟨Y,Y,aq⟩ T<|ex Y Y<|ex Y Y<|ag Y<|ag Y<|dn<|aY ?_;obtain rfl:=O h;exact R2 Y Y;refine cT<|sr<|mv Y<|bE (V h) λyg Fo h=>cN (yK Fo) ⟨Y,aq⟩<|an (s:=.row _) Y<|dn<|sr<|mo (s:=.row _) Y<|mv Y<|bE h λpD Av h=>ix Y Y Av<|lr Y Y<|lE h λsj Aw h=>cv _ Y (UK.nat Aw) ?_;obtain⟨⟨yd,l5⟩,GR,h⟩:=bS h;refine bE h λ_ he5 h=>cR (l:=yg) (l':=l5) (e:=bh) (DW GR) (sE he5) 39 Y (.k2 Y Y)<|ag Y<|dn<|sr<|mo (s:=.row _) Y<|mv Y<|lE h λuN h48 h=>cv _ Y (UK.nat h48)<|RT.DL (l:=[uN]) (e:=bh) .none hN (.one Y (.nil)) T Y Y Y Y Y Y<|an (s:=.row _) Y<|ag Y<|dn<|ku (i:=39) (E1:=130) (n:=1) (e:=bh) (l:=l5) hN (λ_ h=>h) Y ?_
 refine aY<|bF.r<|aW.r ?_;obtain rfl:=O h;exact R2 Y Y;refine cT<|sr<|mv Y<|bE (V h) λgh kA h=>cl (mB kA) ⟨Y,aq⟩<|mv Y<|bE h λgU oQ h=>cl (mB oQ) ⟨Y,aq⟩<|ag Y<|ag Y<|dn<|qq<|aZ mixed<|mv Y<|mv Y<|bE h λji qS h=>RT.quo .none _ Y Y T (nzU qS) (UK.quo qS) ?_;obtain⟨⟨SZ,OA⟩,oV,h⟩:=bS h;refine RT.bX .none (nN N oV) hN Y ⟨Y,Y,aq⟩ T<|fl Y Y<|mv Y<|mv Y<|bE h λnu xy h=>RT.rem .none _ Y Y T (nzR xy) (Z6 xy) ?_;obtain⟨⟨yJ,xx⟩,qT,h⟩:=bS h;refine RT.bX .none (nN N qT) hN Y ⟨Y,Y,aq⟩ T<|fl Y Y<|ag Y<|ag Y ?_;refine RT.done ⟨by kernel_rfl,?_⟩;refine aW.n<|aY<|bF.r<|aW.r ?_;obtain rfl:=O h;exact R2 Y Y;refine cT<|sr<|mv Y<|bE (V h) λdN gH h=>RT.bX .none (uS N gH) hN Y ⟨Y,aq⟩ T<|ag Y<|ag Y<|dn<|bU (cY 4 310 130 1 Y Y T)<|ku (i:=310) (E1:=130) (n:=1) (e:=bh) (l:=[]) hN (λ_ h=>h) Y<|aY<|bF.r<|aW.r ?_;obtain rfl:=O h;exact R2 Y Y
end
section
open Go.Fw Go.Fw.Z Go.RowKit
theorem fU{x0:Int}(N:Nat){r:Zr}(h:cW x0=some r):dB ah 90 N [ay x0] (.agg ((fZ N) r)):=by
 refine bT Tryz.func90 Y (af Y) (λc9 M vs hN hvs=>?_);unfold cW at h;refine sr<|al (cs:=[aA false,nw N ax]) (by exact⟨au,bt,aq⟩) Y<|dn<|sr<|mv Y<|lE h λx5 h5 h=>cv _ Y (UK.conv h5)<|ag Y<|dn<|qq<|sr<|mv Y<|lE h λx7 h7 h=>ls _ Y Y h7<|dn ?_;refine bL h (λj2=>AS.cu 14 [(0,ai x0),(2,.ptr 2 0),(3,.sv (.v (.int .u64 ((j2:Nat):Int))))] [(2,⟨41,[aj false,.sv (nw N ax)]⟩)] []) (λh=>?_) (λOB h=>?_);cases x7;exact fs<|⟨x5,(F h),wR []⟩;exact cT<|aX<|mv Y<|lE (V h) λx9 h9 h=>RT.neg .none _ Y T (UK.neg h9)<|ag Y<|dn<|⟨x9,h,wR []⟩
 try dsimp only
 refine aW.n<|sr<|mv Y<|lE h λff kz h=>ls _ Y Y kz<|mv Y ?_;obtain⟨⟨AL,AM⟩,iX,h⟩:=bS h;refine RT.bX .none (nN N iX) hN Y ⟨Y,Y,aq⟩ T<|so Y Y Y<|dn<|aY ?_;obtain rfl:=O h;exact RZ (.agg Y Y (.k2 Y Y) Y (.nil))
theorem C3{x0:Int}{r:Zr}(h:cW x0=some r):Pure ah 90 [ay x0] (.agg (eZ r)):=eM (λN=>fU N h) (λN=>(SV.fE (zI _ _)))
theorem jP{x0:Zr}{r:Int×Bool}(h:fu x0=some r):Pure ah 166 [.agg (eZ x0)] (.Cn [ay r.1,aA r.2]):=by
 obtain⟨bn,bp⟩:=x0;refine bj Tryz.func166 Y (af Y) (λc9 M vs hvs=>?_);unfold fu at h;refine sr<|bx Y<|ag Y<|ag Y<|dn<|sr<|fa Y Y<|lV Y Y Y<|bE h λx8 h8 h=>cl (dy h8) ⟨Y,aq⟩<|ag Y<|dn<|qq<|sr<|mv Y<|lE h λdG fY h=>ln Y fY<|lE h λff kz h=>gt _ Y Y kz<|dn ?_;cases ff;refine fs<|sr<|mv Y<|bE (F h) λeY iX h=>cl (mB iX) ⟨Y,aq⟩<|ag Y<|dn<|qq<|sr<|fa Y Y<|lV Y Y Y<|dn ?_;cases bn;refine fs<|qq<|sr<|mv Y<|lE (F h) λiK oA h=>ge _ Y Y (leN (p:=9223372036854775808) (q:=eY) oA)<|dn ?_;cases iK;refine fs<|sr<|mv Y<|lE (F h) λgV nG h=>cv _ Y nG<|ag Y<|ag Y<|dn<|aY ?_;obtain rfl:=O h;exact R2 Y Y;refine cT<|sr<|ag Y<|ag Y<|dn<|aY<|aW.r ?_;obtain rfl:=O (V h);exact R2 Y Y;refine cT<|qq<|sr<|mv Y<|lE (V h) λdR jK h=>gt _ Y Y (ltN (p:=9223372036854775808) (q:=eY) jK)<|dn ?_;cases dR;refine fs<|sr<|mv Y<|lE (F h) λjb lZ h=>RT.neg .none _ Y T (UK.neg lZ)<|lE h λgK oP h=>cv _ Y oP<|ag Y<|ag Y<|dn<|aY<|aW.r ?_;obtain rfl:=O h;exact R2 Y Y;refine cT<|sr<|ag Y<|ag Y<|dn<|aY<|aW.r<|aW.r ?_;obtain rfl:=O (V h);exact R2 Y Y;refine cT<|sr<|ag Y<|ag Y<|dn<|aY<|aW.r ?_;obtain rfl:=O (V h);exact R2 Y Y
theorem ym{x0:List Nat}(N:Nat){r:List Nat}(h:bO x0=some r):dB ah 144 N [nw N (slc 1 (List.map bh x0))] (nw N (slc 1 (List.map bh r))):=by
 refine bT Tryz.func144 Y (af Y) (λc9 M vs hN hvs=>?_);unfold bO at h;refine sr<|aI Y (bt (N:=N) (n:=1) (e:=bh))<|dn<|qq<|bE h λFk yh oW=>?_;refine bJ (λ(Iq:(List Nat))=>AS.cu 21 [(0,.sv (nw N (slc 1 (List.map bh Iq))))] [] []) (λIq=>Iq=Fk) ?_ (λIq yj=>?_);refine bf ?_;refine bK yh (λuG=>AS.cu 21 [(0,.sv (nw N (slc 1 (List.map bh uG))))] [] []) (wR []) (λGJ ZD ZE h yl uO=>?_)
 try dsimp only
 refine qq<|qq ?_;refine bL h (λGO=>AS.cu 21 [(0,.sv (nw N (slc 1 (List.map bh GJ)))),(14,aj GO)] [] []) (λh=>?_) (λIp h=>?_);refine aX<|mv Y<|lE h λx4 h4 h=>RT.Lm .none Y T h4<|lE h λx5 h5 h=>gt _ Y Y h5<|mv Y<|bE h λFf dH h=>?_;cases x5;obtain rfl:=O (F dH);exact ww<|ww<|ww<|ww<|ww<|ww<|ww<|pF Y<|dn<|⟨false,h,wR []⟩;refine gm Y<|gm Y<|lE (V dH) λx9 h9 dH=>RT.Lm (.some Y Y) Y T h9<|lE dH λdG fY dH=>RT.sub (.some Y Y) _ Y Y T fY<|bE dH λff kz dH=>RT.ajc (.some Y Y) Y Y T kz<|gr Y Y<|lE dH λeY iX dH=>ge_ _ Y Y (eqN (p:=ff) (q:=0) iX) ?_;obtain rfl:=O dH;exact pT Y<|dn<|⟨eY,h,wR []⟩
 try dsimp only
 refine aW.n ?_;cases Ip;refine cF<|bP<|aW.x<|aW.x<|bF.x<|aW.n ?_;obtain rfl:=O (F h);exact⟨GJ,uO _ Y,wR []⟩;refine cT<|bu<|aW.n<|bf<|aX<|mv Y<|mv Y<|lE (V h) λdR jK h=>RT.Lm .none Y T jK<|lE h λeE jd h=>sb _ Y Y jd<|bE h λjb lZ h=>RT.aal .none 0 eE Y Y ⟨_,Y⟩ T lZ<|ag Y<|RT.done<|bF.n ?_;obtain rfl:=O h;exact aW.n ⟨jb,yl _ Y,wR []⟩;subst yj
 try dsimp only
 refine aW.n<|sr<|mv Y<|ag Y<|dn<|aY ?_;obtain rfl:=O oW;exact R1 Y
theorem iE{x0:Bool}{x1:List Nat}(N:Nat){r:Zr}(h:dx x0 x1=some r):dB ah 163 N [aA x0,nw N (slc 1 (List.map bh x1))] (.agg ((fZ N) r)):=by
 refine bT Tryz.func163 Y (af Y) (λc9 M vs hN hvs=>?_);unfold dx at h;refine sr<|al (cs:=[aA false,nw N ax]) (by exact⟨au,bt,aq⟩) Y<|dn<|sr<|mv Y<|bE h λx6 h6 h=>RT.bX .none (ym N h6) hN Y ⟨Y,aq⟩ T<|ag Y<|dn<|qq<|sr<|mv Y<|lE h λx8 h8 h=>RT.Lm .none Y T h8<|lE h λx9 h9 h=>eq _ Y Y (xh (p:=x8) (q:=0) h9)<|dn ?_;cases x9;refine fs<|sr<|mv Y<|mv Y<|bI (cs:=[_,_]) (cs':=[aA x0,nw N (slc 1 (List.map bh x6))]) (.one Y (.one Y (.nil))) ⟨au,au,aq⟩<|so Y Y Y<|dn<|aY ?_;obtain rfl:=O (F h);exact RZ (.agg Y Y (.k2 Y Y) Y (.nil));refine cT<|sr<|bI (cs:=[_,_]) (cs':=[aA false,nw N ax]) (.nil) ⟨au,bt,aq⟩<|so Y Y Y<|dn<|aY<|aW.r ?_;obtain rfl:=O (V h);exact RZ (.agg Y Y (.k2 Y Y) Y (.nil))
theorem wc{x0:Bool}{x1:List Nat}{x2:Bool}{x3:List Nat}(N:Nat){r:Zr}(h:eW x0 x1 x2 x3=some r):dB ah 203 N [aA x0,slc 1 (List.map bh x1),aA x2,slc 1 (List.map bh x3)] (.agg ((fZ N) r)):=by
 refine bT Tryz.func203 Y (af Y) (λc9 M vs hN hvs=>?_);unfold eW at h;refine sr<|al (cs:=[aA false,nw N ax]) (by exact⟨au,bt,aq⟩) Y<|dn<|qq<|sr<|mv Y<|mv Y<|lE h λff kz h=>RT.ZS .none _ Y Y T kz<|dn ?_;cases ff;refine fs<|qq<|sr<|mv Y<|mv Y<|bE (F h) λjb lZ h=>cl (jZ lZ) ⟨Y,Y,aq⟩<|lE h λgK oP h=>ls _ Y Y oP<|dn ?_;cases gK;refine fs<|sr<|mv Y<|mv Y<|mv Y<|bE (F h) λiM oN h=>RT.bX .none (qV N oN) hN Y ⟨Y,Y,aq⟩ T ?_;obtain⟨⟨sn,sq⟩,zH,h⟩:=bS h;refine RT.bX .none (iE N zH) hN Y ⟨Y,Y,aq⟩ T<|so Y Y Y<|dn<|aY ?_;obtain rfl:=O h;exact RZ (.agg Y Y (.k2 Y Y) Y (.nil));refine cT<|sr<|mv Y<|mv Y<|mv Y<|bE (V h) λgV nG h=>RT.bX .none (qV N nG) hN Y ⟨Y,Y,aq⟩ T ?_;obtain⟨⟨nv,mS⟩,nO,h⟩:=bS h;refine RT.bX .none (iE N nO) hN Y ⟨Y,Y,aq⟩ T<|so Y Y Y<|dn<|aY<|aW.r ?_;obtain rfl:=O h;exact RZ (.agg Y Y (.k2 Y Y) Y (.nil));refine cT<|sr<|mv Y<|mv Y<|mv Y<|bE (V h) λdN gH h=>RT.bX .none (xz N gH) hN Y ⟨Y,Y,aq⟩ T ?_;obtain⟨⟨qh,qi⟩,kf,h⟩:=bS h;refine RT.bX .none (iE N kf) hN Y ⟨Y,Y,aq⟩ T<|so Y Y Y<|dn<|aY<|aW.r ?_;obtain rfl:=O h;exact RZ (.agg Y Y (.k2 Y Y) Y (.nil))
theorem MD{x0:Zr}{x1:Zr}(N:Nat){r:Zr}(h:tK x0 x1=some r):dB ah 188 N [.agg (eZ x0),.agg (eZ x1)] (.agg ((fZ N) r)):=by
 obtain⟨bn,bp⟩:=x0;obtain⟨ct,cj⟩:=x1;refine bT Tryz.func188 Y (af Y) (λc9 M vs hN hvs=>?_);unfold tK at h;refine sr<|bx Y<|bx Y<|al (cs:=[aA false,nw N ax]) (by exact⟨au,bt,aq⟩) Y<|dn<|sr<|ld Y Y (.k2 Y Y) ?_;obtain⟨⟨AN,DU⟩,fI,h⟩:=bS h;refine cl (jP fI) ⟨Y,aq⟩<|mv Y<|ex Y Y<|ex Y Y<|ag Y<|ag Y<|dn<|sr<|ld Y Y (.k2 Y Y) ?_;obtain⟨⟨Mx,Q9⟩,jK,h⟩:=bS h;refine cl (jP jK) ⟨Y,aq⟩<|mv Y<|ex Y Y<|ex Y Y<|ag Y<|ag Y<|dn<|qq<|qq ?_;refine bL h (λj3=>AS.cu 48 [(2,.ptr 2 0),(3,.ptr 3 0),(4,.ptr 4 0),(5,ai AN),(7,ai Mx),(23,aj j3)] [(4,⟨41,[aj false,.sv (nw N ax)]⟩),(3,⟨41,[aj ct,.sv (slc 1 (List.map bh cj))]⟩),(2,⟨41,[aj bn,.sv (slc 1 (List.map bh bp))]⟩)] []) (λh=>?_) (λIv h=>?_);refine aX<|mv Y<|mv Y<|bE h λOC ME h=>?_;cases DU;obtain rfl:=O (F ME);exact ww<|pF Y<|dn<|⟨false,h,wR []⟩;refine gm Y ?_;obtain rfl:=O (V ME);exact pT Y<|dn<|⟨Q9,h,wR []⟩
 try dsimp only
 refine aW.n ?_;refine bL h (λj5=>AS.cu 48 [(2,.ptr 2 0),(3,.ptr 3 0),(4,.ptr 4 0)] [(4,⟨41,[aj false,.sv (nw N ax)]⟩),(3,⟨41,[aj ct,.sv (slc 1 (List.map bh cj))]⟩),(2,⟨41,[aj bn,.sv (slc 1 (List.map bh bp))]⟩)] []) (λh=>?_) (λj5 h=>?_);cases Iv;exact fs<|⟨(),(F h),wR []⟩;refine cT<|sr<|mv Y<|mv Y<|lE (V h) λji qS h=>ad _ Y Y qS<|ag Y<|dn<|sr<|mv Y<|mv Y<|lE h λiM oN h=>RT.xor .none _ Y Y T oN<|mv Y<|mv Y<|lE h λjY qT h=>RT.xor .none _ Y Y T qT<|lE h λow xj h=>RT.and .none _ Y Y T xj<|lE h λyy zG h=>ge _ Y Y zG<|dn ?_;cases yy;exact fs<|⟨(),(F h),wR []⟩;refine cT<|sr<|mv Y ?_;obtain⟨⟨Gf,Gg⟩,xn,h⟩:=bS (V h);refine RT.bX .none (fU N xn) hN Y ⟨Y,aq⟩ T<|so Y Y Y<|dn<|aY<|aW.r<|aW.r ?_;obtain rfl:=O h;exact RZ (.agg Y Y (.k2 Y Y) Y (.nil))
 try dsimp only
 refine aW.n<|qq<|aZ mixed<|fa Y Y<|lV Y Y Y<|fa Y Y<|lV Y Y Y<|bE h λyH GQ h=>cl (dy GQ) ⟨Y,aq⟩<|fa Y Y<|lV Y Y Y<|fa Y Y<|lV Y Y Y<|bE h λyI h46 h=>cl (dy h46) ⟨Y,aq⟩ ?_;obtain⟨⟨Gc,Ge⟩,AW,h⟩:=bS h;refine RT.bX .none (wc N AW) hN Y ⟨Y,Y,Y,Y,aq⟩ T<|so Y Y Y ?_;refine RT.done ⟨by kernel_rfl,?_⟩;refine aW.n<|aY ?_;obtain rfl:=O h;exact RZ (.agg Y Y (.k2 Y Y) Y (.nil))
theorem MF{x0:Zr}{x1:Zr}(N:Nat){r:Zr}(h:tL x0 x1=some r):dB ah 190 N [.agg (eZ x0),.agg (eZ x1)] (.agg ((fZ N) r)):=by
 obtain⟨bn,bp⟩:=x0;obtain⟨ct,cj⟩:=x1;refine bT Tryz.func190 Y (af Y) (λc9 M vs hN hvs=>?_);unfold tL at h;refine sr<|bx Y<|bx Y<|al (cs:=[aA false,nw N ax]) (by exact⟨au,bt,aq⟩) Y<|dn<|sr<|ld Y Y (.k2 Y Y) ?_;obtain⟨⟨AN,DU⟩,fI,h⟩:=bS h;refine cl (jP fI) ⟨Y,aq⟩<|mv Y<|ex Y Y<|ex Y Y<|ag Y<|ag Y<|dn<|sr<|ld Y Y (.k2 Y Y) ?_;obtain⟨⟨Mx,Q9⟩,jK,h⟩:=bS h;refine cl (jP jK) ⟨Y,aq⟩<|mv Y<|ex Y Y<|ex Y Y<|ag Y<|ag Y<|dn<|qq<|qq ?_;refine bL h (λj3=>AS.cu 49 [(2,.ptr 2 0),(3,.ptr 3 0),(4,.ptr 4 0),(5,ai AN),(7,ai Mx),(23,aj j3)] [(4,⟨41,[aj false,.sv (nw N ax)]⟩),(3,⟨41,[aj ct,.sv (slc 1 (List.map bh cj))]⟩),(2,⟨41,[aj bn,.sv (slc 1 (List.map bh bp))]⟩)] []) (λh=>?_) (λIv h=>?_);refine aX<|mv Y<|mv Y<|bE h λOC ME h=>?_;cases DU;obtain rfl:=O (F ME);exact ww<|pF Y<|dn<|⟨false,h,wR []⟩;refine gm Y ?_;obtain rfl:=O (V ME);exact pT Y<|dn<|⟨Q9,h,wR []⟩
 try dsimp only
 refine aW.n ?_;refine bL h (λj5=>AS.cu 49 [(2,.ptr 2 0),(3,.ptr 3 0),(4,.ptr 4 0)] [(4,⟨41,[aj false,.sv (nw N ax)]⟩),(3,⟨41,[aj ct,.sv (slc 1 (List.map bh cj))]⟩),(2,⟨41,[aj bn,.sv (slc 1 (List.map bh bp))]⟩)] []) (λh=>?_) (λj5 h=>?_);cases Iv;exact fs<|⟨(),(F h),wR []⟩;refine cT<|sr<|mv Y<|mv Y<|lE (V h) λji qS h=>sb _ Y Y qS<|ag Y<|dn<|sr<|mv Y<|mv Y<|lE h λiM oN h=>RT.xor .none _ Y Y T oN<|mv Y<|mv Y<|lE h λjY qT h=>RT.xor .none _ Y Y T qT<|lE h λow xj h=>RT.and .none _ Y Y T xj<|lE h λyy zG h=>ge _ Y Y zG<|dn ?_;cases yy;exact fs<|⟨(),(F h),wR []⟩;refine cT<|sr<|mv Y ?_;obtain⟨⟨Gf,Gg⟩,xn,h⟩:=bS (V h);refine RT.bX .none (fU N xn) hN Y ⟨Y,aq⟩ T<|so Y Y Y<|dn<|aY<|aW.r<|aW.r ?_;obtain rfl:=O h;exact RZ (.agg Y Y (.k2 Y Y) Y (.nil))
 try dsimp only
 refine aW.n<|qq<|aZ mixed<|fa Y Y<|lV Y Y Y<|fa Y Y<|lV Y Y Y<|bE h λyH GQ h=>cl (dy GQ) ⟨Y,aq⟩<|fa Y Y<|lV Y Y Y<|lE h λsj Aw h=>nt Y _ Aw<|fa Y Y<|lV Y Y Y<|bE h λxl AW h=>cl (dy AW) ⟨Y,aq⟩ ?_;obtain⟨⟨acu,acv⟩,h48,h⟩:=bS h;refine RT.bX .none (wc N h48) hN Y ⟨Y,Y,Y,Y,aq⟩ T<|so Y Y Y ?_;refine RT.done ⟨by kernel_rfl,?_⟩;refine aW.n<|aY ?_;obtain rfl:=O h;exact RZ (.agg Y Y (.k2 Y Y) Y (.nil))
theorem gA{x0:Zr}{x1:Zr}(N:Nat){r:Zr}(h:dU x0 x1=some r):dB ah 130 N [.agg (eZ x0),.agg (eZ x1)] (.agg ((fZ N) r)):=by
 obtain⟨bn,bp⟩:=x0;obtain⟨ct,cj⟩:=x1;refine bT Tryz.func130 Y (af Y) (λc9 M vs hN hvs=>?_);unfold dU at h;refine sr<|bx Y<|bx Y<|al (cs:=[aA false,nw N ax]) (by exact⟨au,bt,aq⟩) Y<|dn<|qq<|aZ mixed<|fa Y Y<|lV Y Y Y<|bE h λx9 h9 h=>cl (dy h9) ⟨Y,aq⟩<|fa Y Y<|lV Y Y Y<|bE h λc8 fI h=>cl (dy fI) ⟨Y,aq⟩<|ag Y<|ag Y ?_;refine RT.done ⟨by kernel_rfl,?_⟩;refine aW.n<|qq<|qq ?_;refine bL h (λj3=>AS.cu 41 [(2,.ptr 2 0),(3,.ptr 3 0),(4,.ptr 4 0),(5,.sv (slc 1 (List.map bh x9))),(6,.sv (slc 1 (List.map bh c8))),(20,aj j3)] [(4,⟨41,[aj false,.sv (nw N ax)]⟩),(3,⟨41,[aj ct,.sv (slc 1 (List.map bh cj))]⟩),(2,⟨41,[aj bn,.sv (slc 1 (List.map bh bp))]⟩)] []) (λh=>?_) (λAO h=>?_);refine aX<|mv Y<|lE h λdV jy h=>ln Y jy<|lE h λdN gH h=>RT.leq .none _ Y Y T gH<|mv Y<|bE h λacw r6 h=>?_;cases dN;obtain rfl:=O (F r6);exact ww<|ww<|ww<|pF Y<|dn<|⟨false,h,wR []⟩;refine gm Y<|lE (V r6) λeE jd r6=>gn Y jd<|lE r6 λjb lZ r6=>RT.leq (.some Y Y) _ Y Y T lZ ?_;obtain rfl:=O r6;exact pT Y<|dn<|⟨jb,h,wR []⟩
 try dsimp only
 refine aW.n ?_;cases AO;refine fs<|qq<|aZ mixed<|fa Y Y<|lV Y Y Y<|fa Y Y<|lV Y Y Y<|lE (F h) λnF xn h=>RT.Ud .none _ Y Y T xn<|mv Y<|mv Y<|bE h λyg Fo h=>RT.bX .none (DV N Fo) hN Y ⟨Y,Y,aq⟩ T ?_;obtain⟨⟨vh,vi⟩,tf,h⟩:=bS h;refine RT.bX .none (iE N tf) hN Y ⟨Y,Y,aq⟩ T<|so Y Y Y ?_;refine RT.done ⟨by kernel_rfl,?_⟩;refine aW.n<|aY ?_;obtain rfl:=O h;exact RZ (.agg Y Y (.k2 Y Y) Y (.nil));refine cT<|qq<|aZ mixed<|fa Y Y<|lV Y Y Y<|fa Y Y<|lV Y Y Y<|lE (V h) λke nO h=>RT.Ud .none _ Y Y T nO<|mv Y<|bE h λir oV h=>cl (mB oV) ⟨Y,aq⟩<|mv Y<|bE h λiM oN h=>cl (mB oN) ⟨Y,aq⟩<|lE h λuM zH h=>RT.mul .none _ Y Y T (UK.mul (a:=ir) (b:=iM) zH) ?_;obtain⟨⟨OD,OE⟩,xy,h⟩:=bS h;refine RT.bX .none (nN N xy) hN Y ⟨Y,Y,aq⟩ T<|so Y Y Y ?_;refine RT.done ⟨by kernel_rfl,?_⟩;refine aW.n<|aY<|aW.r ?_;obtain rfl:=O h;exact RZ (.agg Y Y (.k2 Y Y) Y (.nil))
theorem DY{x0:Zr}{x1:Zr}{r:Zr}(h:dU x0 x1=some r):Pure ah 130 [.agg (eZ x0),.agg (eZ x1)] (.agg (eZ r)):=eM (λN=>gA N h) (λN=>(SV.fE (zI _ _)))
theorem vC{x0:Zr}(N:Nat){r:Zr}(h:jx x0=some r):dB ah 145 N [.agg (eZ x0)] (.agg ((fZ N) r)):=by
 obtain⟨bn,bp⟩:=x0;refine bT Tryz.func145 Y (af Y) (λc9 M vs hN hvs=>?_);unfold jx at h;refine sr<|bx Y<|al (cs:=[aA false,nw N ax]) (by exact⟨au,bt,aq⟩) Y<|dn<|qq<|aZ mixed<|fa Y Y<|lV Y Y Y<|lE h λx5 h5 h=>nt Y _ h5<|fa Y Y<|lV Y Y Y<|bE h λx8 h8 h=>cl (dy h8) ⟨Y,aq⟩<|bE h λx9 h9 h=>RT.bX .none (uS N h9) hN Y ⟨Y,aq⟩ T ?_;obtain⟨⟨AP,AQ⟩,fY,h⟩:=bS h;refine RT.bX .none (iE N fY) hN Y ⟨Y,Y,aq⟩ T<|so Y Y Y ?_;refine RT.done ⟨by kernel_rfl,?_⟩;refine aW.n<|aY ?_;obtain rfl:=O h;exact RZ (.agg Y Y (.k2 Y Y) Y (.nil))
theorem DZ{x0:Zr}{r:Zr}(h:jx x0=some r):Pure ah 145 [.agg (eZ x0)] (.agg (eZ r)):=eM (λN=>vC N h) (λN=>(SV.fE (zI _ _)))
theorem iu{x0:Zr}{r:Int}(h:dW x0=some r):Pure ah 104 [.agg (eZ x0)] (ay r):=by
 obtain⟨bn,bp⟩:=x0;refine bj Tryz.func104 Y (af Y) (λc9 M vs hvs=>?_);unfold dW at h;refine sr<|bx Y<|ag Y<|dn<|qq<|bf<|sr<|fa Y Y<|lV Y Y Y<|bE h λx6 h6 h=>cl (dy h6) ⟨Y,aq⟩<|lE h λx7 h7 h=>ln Y h7<|lE h λx8 h8 h=>eq _ Y Y (xh (p:=x7) (q:=0) h8)<|ag Y<|dn ?_;cases x8;refine cF<|sr<|fa Y Y<|lV Y Y Y<|ag Y<|dn ?_;replace h:=F h;cases bn;refine cF<|bu<|bF.n<|aW.n<|sr<|ag Y<|dn<|aY ?_;obtain rfl:=O (F h);exact R1 Y;refine cT<|sr<|ag Y<|dn<|aY<|bF.r<|aW.r ?_;obtain rfl:=O (V h);exact R1 Y;refine cT<|sr<|ag Y<|dn<|aY<|bF.r<|aW.r ?_;obtain rfl:=O (V h);exact R1 Y
theorem MG{x0:Zr}{x1:Zr}{r:Int}(h:tN x0 x1=some r):Pure ah 129 [.agg (eZ x0),.agg (eZ x1)] (ay r):=by
 obtain⟨bn,bp⟩:=x0;obtain⟨ct,cj⟩:=x1;refine bj Tryz.func129 Y (af Y) (λc9 M vs hvs=>?_);unfold tN at h;refine sr<|bx Y<|bx Y<|ag Y<|dn<|qq<|aZ mixed<|ld Y Y (.k2 Y Y)<|bE h λx8 h8 h=>cl (iu h8) ⟨Y,aq⟩<|ld Y Y (.k2 Y Y)<|bE h λdG fY h=>cl (iu fY) ⟨Y,aq⟩<|ag Y<|ag Y ?_;refine RT.done ⟨by kernel_rfl,?_⟩;refine aW.n<|qq<|bf<|sr<|mv Y<|mv Y<|lE h λdV jy h=>ls _ Y Y jy<|ag Y<|dn ?_;cases dV;refine cF<|sr<|mv Y<|mv Y<|lE (F h) λeE jd h=>gt _ Y Y jd<|ag Y<|dn ?_;cases eE;refine cF<|sr<|mv Y<|lE (F h) λgh kA h=>ls _ Y Y kA<|ag Y<|dn ?_;cases gh;refine cF<|bu<|bF.n<|aW.n<|qq<|aZ mixed<|fa Y Y<|lV Y Y Y<|bE (F h) λnu xy h=>cl (dy xy) ⟨Y,aq⟩<|fa Y Y<|lV Y Y Y<|bE h λyy zG h=>cl (dy zG) ⟨Y,aq⟩<|bE h λpC yL h=>cl (jZ yL) ⟨Y,Y,aq⟩<|ag Y ?_;refine RT.done ⟨by kernel_rfl,?_⟩;refine aW.n<|aY ?_;obtain rfl:=O h;exact R1 Y;refine cT<|qq<|aZ mixed<|fa Y Y<|lV Y Y Y<|bE (V h) λgV nG h=>cl (dy nG) ⟨Y,aq⟩<|fa Y Y<|lV Y Y Y<|bE h λir oV h=>cl (dy oV) ⟨Y,aq⟩<|bE h λlp vA h=>cl (jZ vA) ⟨Y,Y,aq⟩<|ag Y ?_;refine RT.done ⟨by kernel_rfl,?_⟩;refine aW.n<|aY<|bF.r<|aW.r ?_;obtain rfl:=O h;exact R1 Y;refine cT<|sr<|ag Y<|dn<|aY<|bF.r<|aW.r ?_;obtain rfl:=O (V h);exact R1 Y;refine cT<|sr<|ag Y<|dn<|aY<|bF.r<|aW.r ?_
 obtain rfl:=O (V h);exact R1 Y
theorem Ai{x0:Zr}{x1:Zr}(N:Nat){r:Zr×Zr×Int}(h:iD x0 x1=some r):dB ah 169 N [.agg (eZ x0),.agg (eZ x1)] (.Cn [.agg ((fZ N) r.1),.agg ((fZ N) r.2.1),ay r.2.2]):=by
 obtain⟨bn,bp⟩:=x0;obtain⟨ct,cj⟩:=x1;refine bT Tryz.func169 Y (af Y) (λc9 M vs hN hvs=>?_);unfold iD at h;refine sr<|bx Y<|bx Y<|al (cs:=[aA false,nw N ax]) (by exact⟨au,bt,aq⟩) Y<|al (cs:=[aA false,nw N ax]) (by exact⟨au,bt,aq⟩) Y<|ag Y<|dn<|qq<|aZ mixed<|fa Y Y<|lV Y Y Y<|bE h λeY iX h=>cl (dy iX) ⟨Y,aq⟩<|fa Y Y ?_;refine lV Y Y Y<|bE h λeX kf h=>cl (dy kf) ⟨Y,aq⟩<|ag Y<|ag Y ?_;refine RT.done ⟨by kernel_rfl,?_⟩;refine aW.n<|qq<|sr<|mv Y<|lE h λeE jd h=>ln Y jd<|lE h λjb lZ h=>eq _ Y Y (xh (p:=eE) (q:=0) lZ)<|dn ?_;cases jb;refine fs<|sr<|mv Y<|mv Y ?_;obtain⟨⟨Iw,My⟩,nO,h⟩:=bS (F h);refine RT.bX .none (xA N nO) hN Y ⟨Y,Y,aq⟩ T<|mv Y<|ex Y Y<|ex Y Y<|ag Y<|ag Y<|dn<|sr<|mv Y<|bE h λiM oN h=>RT.bX .none (ym N oN) hN Y ⟨Y,aq⟩ T<|ag Y<|dn<|qq<|qq ?_;refine bL h (λj3=>AS.cu 52 [(2,.ptr 2 0),(3,.ptr 3 0),(4,.ptr 4 0),(5,.ptr 5 0),(8,.sv (slc 1 (List.map bh eX))),(9,.sv (nw N (slc 1 (List.map bh Iw)))),(10,.sv (nw N (slc 1 (List.map bh iM)))),(36,aj j3.1)] [(5,⟨41,[aj false,.sv (nw N ax)]⟩),(4,⟨41,[aj false,.sv (nw N ax)]⟩),(3,⟨41,[aj ct,.sv (slc 1 (List.map bh cj))]⟩),(2,⟨41,[aj j3.2,.sv (slc 1 (List.map bh bp))]⟩)] []) (λh=>?_) (λj3 h=>?_)
 refine aX<|fa Y Y<|lV Y Y Y<|mv Y<|bE h λacy ME h=>?_;cases bn;obtain rfl:=O (F ME);exact ww<|ww<|ww<|pF Y<|dn<|⟨(false,false),h,wR []⟩;refine gm Y<|lE (V ME) λyy zG ME=>RT.Lm (.some Y Y) Y T zG<|lE ME λpC yL ME=>gg _ Y Y yL ?_;obtain rfl:=O ME;exact pT Y<|dn<|⟨(pC,true),h,wR []⟩;obtain⟨Wi,C0⟩:=j3
 try dsimp only
 refine aW.n ?_;refine bL h (λj5=>AS.cu 52 [(2,.ptr 2 0),(3,.ptr 3 0),(4,.ptr 4 0),(5,.ptr 5 0),(9,.sv (nw N (slc 1 (List.map bh j5.1)))),(10,.sv (nw N (slc 1 (List.map bh j5.2))))] [(5,⟨41,[aj false,.sv (nw N ax)]⟩),(4,⟨41,[aj false,.sv (nw N ax)]⟩),(3,⟨41,[aj ct,.sv (slc 1 (List.map bh cj))]⟩),(2,⟨41,[aj C0,.sv (slc 1 (List.map bh bp))]⟩)] []) (λh=>?_) (λj5 h=>?_);cases Wi;exact fs<|⟨(Iw,iM),(F h),wR []⟩;exact cT<|sr<|mv Y<|RT.DL (l:=[1]) (e:=bh) .none hN (.one Y (.nil)) T Y Y Y Y Y Y<|bE (V h) λyg Fo h=>RT.bX .none ((xz N Fo).w (args':=[_,_]) ⟨fe,fe,aq⟩) hN Y ⟨Y,Y,aq⟩ T<|ag Y<|dn<|aX<|mv Y<|mv Y<|bE h λpD Av h=>RT.bX .none ((qV N Av).w (args':=[_,_]) ⟨au,fe,aq⟩) hN Y ⟨Y,Y,aq⟩ T<|ag Y<|dn<|⟨(yg,pD),h,wR []⟩;obtain⟨Wj,OF⟩:=j5
 try dsimp only
 refine aW.n<|sr<|fa Y Y<|lV Y Y Y<|fa Y Y<|lV Y Y Y<|lE h λxl AW h=>RT.Ud .none _ Y Y T AW<|mv Y ?_;obtain⟨⟨OG,OH⟩,h49,h⟩:=bS h;refine RT.bX .none (iE N h49) hN Y ⟨Y,Y,aq⟩ T<|mv Y ?_;obtain⟨⟨Lp,Lq⟩,Iy,h⟩:=bS h;refine RT.bX .none (iE N Iy) hN Y ⟨Y,Y,aq⟩ T<|so Y Y Y<|so Y Y Y<|ag Y<|dn<|aY ?_;obtain rfl:=O h;exact RZ (.agg Y Y (.k2 Y Y) Y (.agg Y Y (.k2 Y Y) Y (.tmp Y (.nil))));refine cT<|sr<|bI (cs:=[_,_]) (cs':=[aA false,nw N ax]) (.nil) ⟨au,bt,aq⟩<|bI (cs:=[_,_]) (cs':=[aA false,nw N ax]) (.nil) ⟨au,bt,aq⟩<|so Y Y Y<|so Y Y Y<|ag Y<|dn<|aY<|aW.r ?_;obtain rfl:=O (V h);exact RZ (.agg Y Y (.k2 Y Y) Y (.agg Y Y (.k2 Y Y) Y (.tmp Y (.nil))))
theorem MH{x0:Zr}{x1:Zr}(N:Nat){r:Zr}(h:qj x0 x1=some r):dB ah 168 N [.agg (eZ x0),.agg (eZ x1)] (.agg ((fZ N) r)):=by
 obtain⟨bn,bp⟩:=x0;obtain⟨ct,cj⟩:=x1;refine bT Tryz.func168 Y (af Y) (λc9 M vs hN hvs=>?_);unfold qj at h;refine sr<|bx Y<|bx Y<|al (cs:=[aA false,nw N ax]) (by exact⟨au,bt,aq⟩) Y<|dn<|qq<|aZ mixed<|fa Y Y<|lV Y Y Y<|bE h λeY iX h=>cl (dy iX) ⟨Y,aq⟩<|fa Y Y<|lV Y Y Y<|bE h λeX kf h=>cl (dy kf) ⟨Y,aq⟩<|ag Y<|ag Y ?_;refine RT.done ⟨by kernel_rfl,?_⟩;refine aW.n<|qq<|bE h λUr Mz tQ=>?_;refine bJ (λ(Fl:(List Nat)×(List Nat))=>AS.cu 57 [(4,.ptr 4 0),(5,.sv (slc 1 (List.map bh Fl.1))),(6,.sv (slc 1 (List.map bh Fl.2)))] [(4,⟨41,[aj false,.sv (nw N ax)]⟩)] []) (λFl=>Fl=Ur) ?_ (λFl MA=>?_);refine bf ?_;refine bK Mz (λAh=>AS.cu 57 [(4,.ptr 4 0),(5,.sv (slc 1 (List.map bh Ah.1))),(6,.sv (slc 1 (List.map bh Ah.2)))] [(4,⟨41,[aj false,.sv (nw N ax)]⟩)] []) (wR []) (λAh y12 G12 h MB MC=>?_);obtain⟨GM,sF⟩:=Ah
 try dsimp only
 refine qq<|qq ?_;refine bL h (λS3=>AS.cu 57 [(4,.ptr 4 0),(5,.sv (slc 1 (List.map bh GM))),(6,.sv (slc 1 (List.map bh sF))),(29,aj S3)] [(4,⟨41,[aj false,.sv (nw N ax)]⟩)] []) (λh=>?_) (λRa h=>?_);refine aX<|mv Y<|lE h λeE jd h=>ln Y jd<|lE h λjb lZ h=>gt _ Y Y lZ<|mv Y<|bE h λWm qH h=>?_;cases jb;obtain rfl:=O (F qH);exact ww<|ww<|ww<|ww<|wu<|wu<|wu<|ww<|pF Y<|dn<|⟨false,h,wR []⟩;refine gm Y<|lE (V qH) λiK oA qH=>gn Y oA<|lE qH λgU oQ qH=>gg _ Y Y oQ<|gm Y<|bE qH λWk kC qH=>?_;cases gU;refine gm Y<|lE (F kC) λji qS kC=>gn Y qS<|lE kC λir oV kC=>gg _ Y Y oV ?_;obtain rfl:=O kC;refine gF Y ?_;obtain rfl:=O qH;exact pT Y<|dn<|⟨ir,h,wR []⟩;obtain rfl:=O (V kC);refine ww<|ww<|ww<|gT Y ?_;obtain rfl:=O qH;exact pT Y<|dn<|⟨true,h,wR []⟩
 try dsimp only
 refine aW.n ?_;cases Ra;refine cF<|bP<|aW.x<|aW.x<|bF.x<|aW.n ?_;obtain rfl:=O (F h);exact⟨(GM,sF),MC _ Y,wR []⟩;refine cT<|bu<|aW.n<|bf<|sr<|mv Y<|mv Y ?_;obtain⟨⟨anq,ajr⟩,xj,h⟩:=bS (V h);refine RT.bX .none (xA N xj) hN Y ⟨Y,Y,aq⟩ T<|mv Y<|ex Y Y<|ex Y Y<|ag Y<|ag Y<|dn<|aX<|mv Y<|mv Y<|bE h λuL AU h=>RT.bX .none (ym N AU) hN Y ⟨Y,aq⟩ T<|ag Y<|ag Y<|RT.done<|bF.n ?_;obtain rfl:=O h;exact aW.n ⟨(sF,uL),MB _ Y,cz id Y Y Y Y Y ⟨.ptr,.sv au,.sv fe,aq⟩ ⟨⟨_,Y,⟨.sv au,.sv au,aq⟩⟩,aq⟩ trivial (λ_ _=>Y)⟩;subst MA;obtain⟨Wn,Wo⟩:=Fl
 try dsimp only
 refine aW.n<|qq<|sr<|mv Y<|lE tQ λlj tf tQ=>ln Y tf<|lE tQ λyH GQ tQ=>eq _ Y Y (xh (p:=lj) (q:=0) GQ)<|dn ?_;cases yH;refine fs<|sr<|mv Y<|bE (F tQ) λyI h46 tQ=>cl (mB h46) ⟨Y,aq⟩<|mv Y<|bE tQ λuN h48 tQ=>cl (mB h48) ⟨Y,aq⟩<|ag Y<|ag Y<|dn<|qq<|bE tQ λe24 an4 afx=>?_;refine bJ (λ(Ls:Nat)=>AS.cu 57 [(4,.ptr 4 0),(9,.sv (.v (.int .u64 ((Ls:Nat):Int))))] [(4,⟨41,[aj false,.sv (nw N ax)]⟩)] []) (λLs=>Ls=e24) ?_ (λLs an5=>?_);refine bf ?_;refine bK an4 (λs24=>AS.cu 57 [(4,.ptr 4 0),(9,.sv (.v (.int .u64 ((s24.1:Nat):Int)))),(10,.sv (.v (.int .u64 ((s24.2:Nat):Int))))] [(4,⟨41,[aj false,.sv (nw N ax)]⟩)] []) (wR []) (λs24 y24 G24 h an6 an7=>?_);obtain⟨S0,Fj⟩:=s24
 try dsimp only
 refine qq<|sr<|mv Y<|lE h λAu Ks h=>gt _ Y Y (ltN (p:=0) (q:=Fj) Ks)<|dn ?_;cases Au;refine cF<|bP<|aW.x<|aW.x<|bF.x<|aW.n ?_;obtain rfl:=O (F h);exact⟨S0,an7 _ Y,wR []⟩;refine cT<|bu<|aW.n<|bf<|aZ mixed<|mv Y<|mv Y<|mv Y<|bE (V h) λGN QB h=>RT.rem .none _ Y Y T (nzR QB) (Z6 QB)<|ag Y<|ag Y ?_;refine RT.done ⟨by kernel_rfl,?_⟩;refine bF.n ?_;obtain rfl:=O h;exact aW.n ⟨(Fj,GN),an6 _ Y,wR []⟩;subst an5
 try dsimp only
 refine aW.n<|sr<|mv Y ?_;obtain⟨⟨acA,acB⟩,Rc,afx⟩:=bS afx;refine RT.bX .none (nN N Rc) hN Y ⟨Y,Y,aq⟩ T<|so Y Y Y<|dn<|aY ?_;obtain rfl:=O afx;exact RZ (.agg Y Y (.k2 Y Y) Y (.nil));refine cT<|sr<|mv Y<|bE (V tQ) λyz ET tQ=>RT.bX .none (uS N ET) hN Y ⟨Y,aq⟩ T ?_;obtain⟨⟨Gh,Gi⟩,Aw,tQ⟩:=bS tQ;refine RT.bX .none (iE N Aw) hN Y ⟨Y,Y,aq⟩ T<|so Y Y Y<|dn<|aY<|aW.r ?_;obtain rfl:=O tQ;exact RZ (.agg Y Y (.k2 Y Y) Y (.nil))
end
section
open Go.Fw
noncomputable def lq(x0:Zr)(x1:Zr)(x2:Zr)(x3:Zr):Option (Zr×Zr):=match x0 with|⟨bn,bp⟩=>match x1 with|⟨ct,cj⟩=>match x2 with|⟨we,wh⟩=>match x3 with|⟨qW,qX⟩=>(dU ⟨bn,bp⟩ ⟨qW,qX⟩).bind λ⟨jg,iT⟩=>(dU ⟨we,wh⟩ ⟨ct,cj⟩).bind λ⟨jQ,jR⟩=>(tK ⟨jg,iT⟩ ⟨jQ,jR⟩).bind λ⟨qh,qi⟩=>(dU ⟨ct,cj⟩ ⟨qW,qX⟩).bind λ⟨lM,lO⟩=>some (⟨qh,qi⟩,⟨lM,lO⟩)
noncomputable def lu(x0:Zr)(x1:Zr)(x2:Zr)(x3:Zr):Option (Zr×Zr):=match x0 with|⟨bn,bp⟩=>match x1 with|⟨ct,cj⟩=>match x2 with|⟨we,wh⟩=>match x3 with|⟨qW,qX⟩=>(dU ⟨bn,bp⟩ ⟨qW,qX⟩).bind λ⟨jg,iT⟩=>(dU ⟨we,wh⟩ ⟨ct,cj⟩).bind λ⟨jQ,jR⟩=>(tL ⟨jg,iT⟩ ⟨jQ,jR⟩).bind λ⟨qh,qi⟩=>(dU ⟨ct,cj⟩ ⟨qW,qX⟩).bind λ⟨lM,lO⟩=>some (⟨qh,qi⟩,⟨lM,lO⟩)
noncomputable def lz(x0:Zr)(x1:Zr)(x2:Zr)(x3:Zr):Option (Zr×Zr):=match x0 with|⟨bn,bp⟩=>match x1 with|⟨ct,cj⟩=>match x2 with|⟨we,wh⟩=>match x3 with|⟨qW,qX⟩=>(dU ⟨bn,bp⟩ ⟨we,wh⟩).bind λ⟨jg,iT⟩=>(dU ⟨ct,cj⟩ ⟨qW,qX⟩).bind λ⟨jQ,jR⟩=>some (⟨jg,iT⟩,⟨jQ,jR⟩)
noncomputable def lB(x0:Zr)(x1:Zr)(x2:Zr)(x3:Zr):Option (Zr×Zr):=match x0 with|⟨bn,bp⟩=>match x1 with|⟨ct,cj⟩=>match x2 with|⟨we,wh⟩=>match x3 with|⟨qW,qX⟩=>(dU ⟨bn,bp⟩ ⟨qW,qX⟩).bind λ⟨jg,iT⟩=>(dU ⟨ct,cj⟩ ⟨we,wh⟩).bind λ⟨jQ,jR⟩=>some (⟨jg,iT⟩,⟨jQ,jR⟩)
noncomputable def dX(x0:Qr):Option (Zr×Zr):=match x0 with|⟨⟨bn,bp⟩,⟨bB,bD⟩⟩=>(dW ⟨bB,bD⟩).bind λx6=>(some (decide ((x6:Int)=0))).bind λx8=>(bif x8 then(cW 1).bind λ⟨xB,xC⟩=>some (⟨bn,bp⟩,⟨xB,xC⟩)else(some (decide ((x6:Int)=(-1)))).bind λeY=>(bif eY then(jx ⟨bn,bp⟩).bind λ⟨qh,qi⟩=>(jx ⟨bB,bD⟩).bind λ⟨lM,lO⟩=>some (⟨qh,qi⟩,⟨lM,lO⟩)else some (⟨bn,bp⟩,⟨bB,bD⟩)))
noncomputable def iv(x0:Zr)(x1:Zr):Option (Qr):=match x0 with|⟨bn,bp⟩=>match x1 with|⟨ct,cj⟩=>(dW ⟨ct,cj⟩).bind λx9=>(some (decide ((x9:Int)<0))).bind λdG=>cJ (λ(j2:Bool×(List Nat)×Bool×(List Nat))=>match j2 with|⟨Rg,Rh,Ri,Rj⟩=>(qj ⟨Ri,Rj⟩ ⟨Rg,Rh⟩).bind λ⟨qY,qZ⟩=>(iD ⟨Ri,Rj⟩ ⟨qY,qZ⟩).bind λ⟨⟨Iz,IA⟩,⟨afy,afz⟩,an8⟩=>(iD ⟨Rg,Rh⟩ ⟨qY,qZ⟩).bind λ⟨⟨Fp,Fq⟩,⟨afA,afB⟩,an9⟩=>(fu ⟨Fp,Fq⟩).bind λ⟨afC,afD⟩=>cJ (λ(Wy:Bool)=>cJ (λ(j7:Bool×(List Nat))=>match j7 with|⟨Rk,Rl⟩=>some ⟨⟨Iz,IA⟩,⟨Rk,Rl⟩⟩) λK7=>(bif Wy then K7 (false,[])else K7 (Fp,Fq))) λK5=>(bif afD then(some (decide ((afC:Int)=1))).bind λlj=>some lj else some false).bind λacC=>K5 acC) λK2=>(bif dG then(jx ⟨bn,bp⟩).bind λ⟨jg,iT⟩=>(jx ⟨ct,cj⟩).bind λ⟨xD,xE⟩=>K2 (xD,xE,jg,iT)else K2 (ct,cj,bn,bp))
noncomputable def fy(x0:Qr):Option (Int×Int×Bool):=match x0 with|⟨⟨bn,bp⟩,⟨bB,bD⟩⟩=>(fu ⟨bn,bp⟩).bind λ⟨MI,aaz⟩=>(fu ⟨bB,bD⟩).bind λ⟨Kx,ajF⟩=>cJ (λ(Rm:Bool)=>(bif Rm then some (0,0,false)else(some (decide ((Kx:Int)=0))).bind λyz=>cJ (λ(ZG:Int×Int)=>match ZG with|⟨OI,acD⟩=>some (OI,acD,true)) λK24=>(bif yz then K24 (MI,1)else(some (decide ((Kx:Int)<0))).bind λyI=>cJ (λ(j26:Int×Int)=>match j26 with|⟨Wz,WA⟩=>K24 (Wz,WA)) λK26=>(bif yI then(some (IntKind.i64.wrap (0-MI))).bind λuN=>(some (IntKind.i64.wrap (0-Kx))).bind λAu=>K26 (uN,Au)else K26 (MI,Kx))))) λK21=>(some (!aaz)).bind λgK=>(bif gK then some true else(some (!ajF)).bind λgU=>some gU).bind λWB=>(bif WB then some true else(some (decide ((MI:Int)<=(-2147483648)))).bind λir=>some ir).bind λafE=>(bif afE then some true else(some (decide ((2147483648:Int)<=MI))).bind λnu=>some nu).bind λafF=>(bif afF then some true else(some (decide ((Kx:Int)<=(-2147483648)))).bind λpC=>some pC).bind λafG=>(bif afG then some true else(some (decide ((2147483648:Int)<=Kx))).bind λyg=>some yg).bind λafH=>K21 afH
noncomputable def iw(x0:Int)(x1:Int):Option (Qr):=(b9 (λ(s6:Int×Int)=>match s6 with|⟨iA,l7⟩=>(show Option ((Int×Int)⊕(Int))from(some (decide ((l7:Int)≠0))).bind λdG=>(bif dG then(Kk iA l7).bind λdV=>some (.inl (l7,dV))else some (.inr iA)))) (x0,x1)).bind λwj=>(some (decide ((wj:Int)<0))).bind λeX=>cJ (λ(Uz:Int)=>(some (decide ((Uz:Int)=x1))).bind λgh=>(bif gh then(At x0 Uz).bind λgV=>(cW gV).bind λ⟨nv,mS⟩=>some ⟨⟨nv,mS⟩,⟨false,[]⟩⟩else(At x0 Uz).bind λiM=>(cW iM).bind λ⟨sn,sq⟩=>(At x1 Uz).bind λow=>(cW ow).bind λ⟨qk,ql⟩=>some ⟨⟨sn,sq⟩,⟨qk,ql⟩⟩)) λK8=>(bif eX then(some (IntKind.i64.wrap (0-wj))).bind λeE=>K8 eE else K8 wj)
noncomputable def xF(x0:Int):Option (Int):=(some (decide ((x0:Int)<0))).bind λx5=>(bif x5 then some (-1)else(some (decide ((0:Int)<x0))).bind λx8=>(bif x8 then some 1 else some 0))
noncomputable def nP(x1:Qr)(x2:Qr):Option (Qr):=match x1 with|⟨⟨ct,cj⟩,⟨ek,ep⟩⟩=>match x2 with|⟨⟨we,wh⟩,⟨IB,IC⟩⟩=>(dX ⟨⟨ct,cj⟩,⟨ek,ep⟩⟩).bind λ⟨⟨oR,oS⟩,⟨pO,pP⟩⟩=>(dX ⟨⟨we,wh⟩,⟨IB,IC⟩⟩).bind λ⟨⟨kn,ko⟩,⟨nQ,nR⟩⟩=>(lq ⟨oR,oS⟩ ⟨pO,pP⟩ ⟨kn,ko⟩ ⟨nQ,nR⟩).bind λ⟨⟨pQ,pR⟩,⟨pS,pU⟩⟩=>(iv ⟨pQ,pR⟩ ⟨pS,pU⟩).bind λ⟨⟨yJ,xx⟩,⟨A0,A3⟩⟩=>some ⟨⟨yJ,xx⟩,⟨A0,A3⟩⟩
noncomputable def nS(x1:Qr)(x2:Qr):Option (Qr):=match x1 with|⟨⟨ct,cj⟩,⟨ek,ep⟩⟩=>match x2 with|⟨⟨we,wh⟩,⟨IB,IC⟩⟩=>(dX ⟨⟨ct,cj⟩,⟨ek,ep⟩⟩).bind λ⟨⟨oR,oS⟩,⟨pO,pP⟩⟩=>(dX ⟨⟨we,wh⟩,⟨IB,IC⟩⟩).bind λ⟨⟨kn,ko⟩,⟨nQ,nR⟩⟩=>(lu ⟨oR,oS⟩ ⟨pO,pP⟩ ⟨kn,ko⟩ ⟨nQ,nR⟩).bind λ⟨⟨pQ,pR⟩,⟨pS,pU⟩⟩=>(iv ⟨pQ,pR⟩ ⟨pS,pU⟩).bind λ⟨⟨yJ,xx⟩,⟨A0,A3⟩⟩=>some ⟨⟨yJ,xx⟩,⟨A0,A3⟩⟩
noncomputable def nT(x1:Qr)(x2:Qr):Option (Qr):=match x1 with|⟨⟨ct,cj⟩,⟨ek,ep⟩⟩=>match x2 with|⟨⟨we,wh⟩,⟨IB,IC⟩⟩=>(dX ⟨⟨ct,cj⟩,⟨ek,ep⟩⟩).bind λ⟨⟨oR,oS⟩,⟨pO,pP⟩⟩=>(dX ⟨⟨we,wh⟩,⟨IB,IC⟩⟩).bind λ⟨⟨kn,ko⟩,⟨nQ,nR⟩⟩=>(lz ⟨oR,oS⟩ ⟨pO,pP⟩ ⟨kn,ko⟩ ⟨nQ,nR⟩).bind λ⟨⟨pQ,pR⟩,⟨pS,pU⟩⟩=>(iv ⟨pQ,pR⟩ ⟨pS,pU⟩).bind λ⟨⟨yJ,xx⟩,⟨A0,A3⟩⟩=>some ⟨⟨yJ,xx⟩,⟨A0,A3⟩⟩
noncomputable def lP(x1:Qr)(x2:Qr):Option (Qr):=match x1 with|⟨⟨ct,cj⟩,⟨ek,ep⟩⟩=>match x2 with|⟨⟨we,wh⟩,⟨IB,IC⟩⟩=>(dX ⟨⟨ct,cj⟩,⟨ek,ep⟩⟩).bind λ⟨⟨oR,oS⟩,⟨pO,pP⟩⟩=>(dX ⟨⟨we,wh⟩,⟨IB,IC⟩⟩).bind λ⟨⟨kn,ko⟩,⟨nQ,nR⟩⟩=>(lB ⟨oR,oS⟩ ⟨pO,pP⟩ ⟨kn,ko⟩ ⟨nQ,nR⟩).bind λ⟨⟨pQ,pR⟩,⟨pS,pU⟩⟩=>(iv ⟨pQ,pR⟩ ⟨pS,pU⟩).bind λ⟨⟨yJ,xx⟩,⟨A0,A3⟩⟩=>some ⟨⟨yJ,xx⟩,⟨A0,A3⟩⟩
noncomputable def dK(x0:Int):Option (Qr):=(cW x0).bind λ⟨Ce,Cf⟩=>some ⟨⟨Ce,Cf⟩,⟨false,[]⟩⟩
noncomputable def dP(x0:Qr):Option (Qr):=match x0 with|⟨⟨bn,bp⟩,⟨bB,bD⟩⟩=>(fy ⟨⟨bn,bp⟩,⟨bB,bD⟩⟩).bind λ⟨Vk,ZH,x8c⟩=>(bif x8c then(iw Vk ZH).bind λ⟨⟨jQ,jR⟩,⟨xG,xH⟩⟩=>some ⟨⟨jQ,jR⟩,⟨xG,xH⟩⟩else(dX ⟨⟨bn,bp⟩,⟨bB,bD⟩⟩).bind λ⟨⟨WC,WD⟩,⟨WE,WG⟩⟩=>(iv ⟨WC,WD⟩ ⟨WE,WG⟩).bind λ⟨⟨OJ,OK⟩,⟨acF,acG⟩⟩=>some ⟨⟨OJ,OK⟩,⟨acF,acG⟩⟩)
noncomputable def kD(x0:Qr):Option (Int):=match x0 with|⟨⟨bn,bp⟩,⟨bB,bD⟩⟩=>(dW ⟨bB,bD⟩).bind λx5=>(some (decide ((x5:Int)<0))).bind λx6=>(bif x6 then(dW ⟨bn,bp⟩).bind λx9=>(some (IntKind.i64.wrap (0-x9))).bind λdG=>some dG else(dW ⟨bn,bp⟩).bind λeY=>some eY)
noncomputable def wm(x0:Qr)(x1:Qr):Option (Qr):=match x0 with|⟨⟨bn,bp⟩,⟨bB,bD⟩⟩=>match x1 with|⟨⟨ct,cj⟩,⟨ek,ep⟩⟩=>(fy ⟨⟨bn,bp⟩,⟨bB,bD⟩⟩).bind λ⟨ID,Fs,IE⟩=>(fy ⟨⟨ct,cj⟩,⟨ek,ep⟩⟩).bind λ⟨IF,Ft,IG⟩=>cJ (λ(A4:Bool)=>(bif A4 then(some (IntKind.i64.wrap (ID*Ft))).bind λiM=>(some (IntKind.i64.wrap (IF*Fs))).bind λjY=>(some (IntKind.i64.wrap (iM+jY))).bind λow=>(some (IntKind.i64.wrap (Fs*Ft))).bind λnF=>(iw ow nF).bind λ⟨⟨OL,OM⟩,⟨ON,OO⟩⟩=>some ⟨⟨OL,OM⟩,⟨ON,OO⟩⟩else(nP ⟨⟨bn,bp⟩,⟨bB,bD⟩⟩ ⟨⟨ct,cj⟩,⟨ek,ep⟩⟩).bind λ⟨⟨vh,vi⟩,⟨yM,yN⟩⟩=>some ⟨⟨vh,vi⟩,⟨yM,yN⟩⟩)) λK3=>(bif IE then some IG else some false).bind λGj=>K3 Gj
noncomputable def wv(x0:Qr)(x1:Qr):Option (Qr):=match x0 with|⟨⟨bn,bp⟩,⟨bB,bD⟩⟩=>match x1 with|⟨⟨ct,cj⟩,⟨ek,ep⟩⟩=>(fy ⟨⟨bn,bp⟩,⟨bB,bD⟩⟩).bind λ⟨ID,Fs,IE⟩=>(fy ⟨⟨ct,cj⟩,⟨ek,ep⟩⟩).bind λ⟨IF,Ft,IG⟩=>cJ (λ(A4:Bool)=>(bif A4 then(some (IntKind.i64.wrap (ID*Ft))).bind λiM=>(some (IntKind.i64.wrap (IF*Fs))).bind λjY=>(some (IntKind.i64.wrap (iM-jY))).bind λow=>(some (IntKind.i64.wrap (Fs*Ft))).bind λnF=>(iw ow nF).bind λ⟨⟨OL,OM⟩,⟨ON,OO⟩⟩=>some ⟨⟨OL,OM⟩,⟨ON,OO⟩⟩else(nS ⟨⟨bn,bp⟩,⟨bB,bD⟩⟩ ⟨⟨ct,cj⟩,⟨ek,ep⟩⟩).bind λ⟨⟨vh,vi⟩,⟨yM,yN⟩⟩=>some ⟨⟨vh,vi⟩,⟨yM,yN⟩⟩)) λK3=>(bif IE then some IG else some false).bind λGj=>K3 Gj
noncomputable def sG(x0:Qr)(x1:Qr):Option (Qr):=match x0 with|⟨⟨bn,bp⟩,⟨bB,bD⟩⟩=>match x1 with|⟨⟨ct,cj⟩,⟨ek,ep⟩⟩=>(fy ⟨⟨bn,bp⟩,⟨bB,bD⟩⟩).bind λ⟨ID,Fs,IE⟩=>(fy ⟨⟨ct,cj⟩,⟨ek,ep⟩⟩).bind λ⟨IF,Ft,IG⟩=>cJ (λ(A4:Bool)=>(bif A4 then(some (IntKind.i64.wrap (ID*IF))).bind λiM=>(some (IntKind.i64.wrap (Fs*Ft))).bind λjY=>(iw iM jY).bind λ⟨⟨Cv,Cw⟩,⟨II,IJ⟩⟩=>some ⟨⟨Cv,Cw⟩,⟨II,IJ⟩⟩else(nT ⟨⟨bn,bp⟩,⟨bB,bD⟩⟩ ⟨⟨ct,cj⟩,⟨ek,ep⟩⟩).bind λ⟨⟨Gf,Gg⟩,⟨acH,acI⟩⟩=>some ⟨⟨Gf,Gg⟩,⟨acH,acI⟩⟩)) λK3=>(bif IE then some IG else some false).bind λGj=>K3 Gj
noncomputable def wz(x0:Qr)(x1:Qr):Option (Qr×Int):=match x0 with|⟨⟨bn,bp⟩,⟨bB,bD⟩⟩=>match x1 with|⟨⟨ct,cj⟩,⟨ek,ep⟩⟩=>(kD ⟨⟨ct,cj⟩,⟨ek,ep⟩⟩).bind λeY=>(some (decide ((eY:Int)=0))).bind λdV=>(bif dV then some (⟨⟨false,[]⟩,⟨false,[]⟩⟩,7)else(fy ⟨⟨bn,bp⟩,⟨bB,bD⟩⟩).bind λ⟨Ky,MJ,WH⟩=>(fy ⟨⟨ct,cj⟩,⟨ek,ep⟩⟩).bind λ⟨UA,UB,afI⟩=>cJ (λ(IK:Bool)=>(bif IK then(some (decide ((UA:Int)<0))).bind λow=>cJ (λ(j6:Int×Int)=>match j6 with|⟨ajG,ajH⟩=>(some (IntKind.i64.wrap (ajG*UB))).bind λlj=>(some (IntKind.i64.wrap (MJ*ajH))).bind λyz=>(iw lj yz).bind λ⟨⟨Gh,Gi⟩,⟨OP,OQ⟩⟩=>some (⟨⟨Gh,Gi⟩,⟨OP,OQ⟩⟩,0)) λK6=>(bif ow then(some (IntKind.i64.wrap (0-Ky))).bind λpC=>(some (IntKind.i64.wrap (0-UA))).bind λpE=>K6 (pC,pE)else K6 (Ky,UA))else(lP ⟨⟨bn,bp⟩,⟨bB,bD⟩⟩ ⟨⟨ct,cj⟩,⟨ek,ep⟩⟩).bind λ⟨⟨Gc,Ge⟩,⟨acJ,acK⟩⟩=>some (⟨⟨Gc,Ge⟩,⟨acJ,acK⟩⟩,0))) λK3=>(bif WH then some afI else some false).bind λacL=>K3 acL)
noncomputable def sH(x0:Qr):Option (Qr):=match x0 with|⟨⟨bn,bp⟩,⟨bB,bD⟩⟩=>(dP ⟨⟨bn,bp⟩,⟨bB,bD⟩⟩).bind λ⟨⟨A5,C4⟩,⟨Fu,GU⟩⟩=>(jx ⟨A5,C4⟩).bind λ⟨qJ,qK⟩=>some ⟨⟨qJ,qK⟩,⟨Fu,GU⟩⟩
noncomputable def wA(x0:Qr)(x1:Qr):Option (Int):=match x0 with|⟨⟨bn,bp⟩,⟨bB,bD⟩⟩=>match x1 with|⟨⟨ct,cj⟩,⟨ek,ep⟩⟩=>(dX ⟨⟨bn,bp⟩,⟨bB,bD⟩⟩).bind λ⟨⟨oR,oS⟩,⟨pO,pP⟩⟩=>(dX ⟨⟨ct,cj⟩,⟨ek,ep⟩⟩).bind λ⟨⟨kn,ko⟩,⟨nQ,nR⟩⟩=>(dW ⟨oR,oS⟩).bind λiK=>(dW ⟨kn,ko⟩).bind λgV=>cJ (λ(IK:Bool)=>(bif IK then(some (IntKind.i64.wrap (iK-gV))).bind λyy=>(xF yy).bind λpC=>some pC else(dU ⟨oR,oS⟩ ⟨nQ,nR⟩).bind λ⟨tW,tX⟩=>(dU ⟨kn,ko⟩ ⟨pO,pP⟩).bind λ⟨Lu,Lw⟩=>(tN ⟨tW,tX⟩ ⟨Lu,Lw⟩).bind λpD=>some pD)) λK3=>(some (decide ((iK:Int)≠gV))).bind λir=>(bif ir then some true else(some (decide ((iK:Int)=0))).bind λuM=>some uM).bind λacM=>K3 acM
end
end Go.Proofs.YtningmnklfpfjaaGreat
